/-
  Contracts: the laws' marks at a book.
-/
import Derived.Test.YtfbmjimhjlmhkaaDoorDM
namespace Go.Proofs.YtfbmjimhjlmhkaaDoor
open Go Go.Proofs.YtfbmjimhjlmhkaaDoor.Sx
set_option linter.unusedVariables false
set_option linter.unusedSimpArgs false

theorem laws_markBook_c {w : World} {B : Nat} {e : TypeId} {p : Option Addr} {n c : Nat} {l : List (List D0)} {f : List Nat} {k : Int} (h : OwnRows w B e 4 p n c l f) (hc : ∀ x ∈ l, x.map D0.code = [.str, .str, .bool, .ints]) (h0 : 0 ≤ k) (h1 : k + cntL l ≤ 1000000000000000000) :
    Ret P n_laws_markBook [.agg ⟨[.slice p n c]⟩, .int .i64 k] w fun v w' => v = .int .i64 (k + cntL l) ∧ OwnRows w' B e 4 p n c (markL l k) f ∧ Chg f w w' := by
  refine laws_markBook_ret ?_
  unfold laws_markBook
  intro r w1 hn
  refine ⟨_, _, _, hn.blk.loadAt 0 rfl (by kernel_rfl) rfl, ?_⟩
  refine Ret.at (laws_markAcctS_c (h.ext hn.ext) hc h0 h1) ?_
  rintro v w2 ⟨hv, ho, ch⟩
  subst hv
  exact ⟨_, rfl, rfl, ho, hn.ext.toChg.trans ch⟩

end Go.Proofs.YtfbmjimhjlmhkaaDoor
