/-
  Contracts: sums of lists of integers; Flat, in the program and in the reference.
-/
import Derived.Test.YtfbmjimhjlmhkaaDoorCSpecInt
namespace Go.Proofs.YtfbmjimhjlmhkaaDoor
open Go Go.Proofs.YtfbmjimhjlmhkaaDoor.Sx
set_option linter.unusedVariables false
set_option linter.unusedSimpArgs false

def isumGo (l : List (List D0)) : List D0 := l.foldl iadd (enc 0)
def isum (l : List (List D0)) : List D0 := if l.all intOk then isumGo l else enc 0
theorem isumGo_ok : ∀ (l : List (List D0)), intOk (isumGo l) = true ∧ (isumGo l).map D0.code = [.bool, .ints] := by
  have key : ∀ (l : List (List D0)) (t : List D0), intOk t = true → t.map D0.code = [.bool, .ints] → intOk (l.foldl iadd t) = true ∧ (l.foldl iadd t).map D0.code = [.bool, .ints] := by
    intro l
    induction l with
    | nil => intro t h1 h2; exact ⟨h1, h2⟩
    | cons a r ih => intro t h1 h2; exact ih _ (iadd_ok _ _) (iadd_code _ _)
  intro l
  exact key l _ enc0_ok rfl
theorem isumGo_take (l : List (List D0)) {j : Nat} (hj : j < l.length) : isumGo (l.take (j + 1)) = iadd (isumGo (l.take j)) l[j] := by
  rw [List.take_add_one, List.getElem?_eq_getElem hj, Option.toList_some]
  unfold isumGo
  rw [List.foldl_append]; rfl
theorem isign_zero {z : List Int} {b : Bool} (h : intOk [.bool b, .ints z] = true) : (isign [.bool b, .ints z] = 0) ↔ z.length = 0 := by
  simp only [isign, h, Bool.not_true, Bool.false_eq_true, if_false]
  cases z with
  | nil => simp
  | cons a r => cases b <;> simp

def flat (l : List (List D0)) : Bool := l.all (fun x => intOk (x.drop 1)) && decide (isign (isumGo (l.map (·.drop 1))) = 0)

def AllR (w : World) (k : Nat) : List (List Value) → List (List D0) → Prop
  | [], [] => True
  | cs :: css, x :: l => cs.length = k ∧ Reps w cs x ∧ AllR w k css l
  | _, _ => False
theorem AllR.ext {w w' : World} {k : Nat} : ∀ {css : List (List Value)} {l : List (List D0)}, AllR w k css l → Ext w w' → AllR w' k css l
  | [], [], _, _ => trivial
  | _ :: _, _ :: _, h, e => ⟨h.1, h.2.1.ext e, AllR.ext h.2.2 e⟩
  | [], _ :: _, h, _ => h.elim
  | _ :: _, [], h, _ => h.elim
theorem AllR.snoc {w : World} {k : Nat} {cs : List Value} {x : List D0} (hc : cs.length = k) (hr : Reps w cs x) : ∀ {css : List (List Value)} {l : List (List D0)}, AllR w k css l → AllR w k (css ++ [cs]) (l ++ [x])
  | [], [], _ => ⟨hc, hr, trivial⟩
  | _ :: _, _ :: _, h => ⟨h.1, h.2.1, AllR.snoc hc hr h.2.2⟩
  | [], _ :: _, h => h.elim
  | _ :: _, [], h => h.elim
theorem AllR.at {w : World} {k : Nat} : ∀ {css : List (List Value)} {l : List (List D0)}, AllR w k css l → ∀ i x, l[i]? = some x → ∃ cs, cs.length = k ∧ Reps w cs x ∧ (css.flatten.drop (i * k)).take k = cs
  | [], [], _, i, x, hx => by simp at hx
  | cs :: css, y :: l, h, i, x, hx => by
    cases i with
    | zero =>
      simp only [List.getElem?_cons_zero, Option.some.injEq] at hx
      subst hx
      refine ⟨cs, h.1, h.2.1, ?_⟩
      rw [Nat.zero_mul, List.drop_zero, List.flatten_cons, ← h.1, List.take_left]
    | succ i =>
      simp only [List.getElem?_cons_succ] at hx
      obtain ⟨c, h1, h2, h3⟩ := AllR.at h.2.2 i x hx
      refine ⟨c, h1, h2, ?_⟩
      rw [List.flatten_cons, Nat.succ_mul, Nat.add_comm, ← List.drop_drop, ← h.1, List.drop_left, h.1]
      exact h3
  | [], _ :: _, h, _, _, _ => h.elim
  | _ :: _, [], h, _, _, _ => h.elim
theorem rows_of_own {w : World} {B : Nat} {e : TypeId} {k : Nat} {p : Option Addr} {n c : Nat} {css : List (List Value)} {l : List (List D0)} (h : Own w B e k p n c css.flatten) (ha : AllR w k css l) (hl : l.length = n) : RowsR w k p n c l := by
  refine ⟨hl, h.le, h.capLe, fun hn => ?_⟩
  obtain ⟨b, hp, _, hs⟩ := h.seg hn
  refine ⟨b, 0, hp, fun i x hx => ?_⟩
  obtain ⟨cs, h1, h2, h3⟩ := ha.at i x hx
  exact ⟨cs, h1, h2, by rw [← h3]; exact (hs.drop (i * k)).take k⟩
end Go.Proofs.YtfbmjimhjlmhkaaDoor
