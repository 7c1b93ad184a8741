/-
  Contracts: the laws' marks at structs by value.
-/
import Derived.Test.YtfbmjimhjlmhkaaDoorDMark
import Derived.Test.YtfbmjimhjlmhkaaDoorDS
namespace Go.Proofs.YtfbmjimhjlmhkaaDoor
open Go Go.Proofs.YtfbmjimhjlmhkaaDoor.Sx
set_option linter.unusedVariables false
set_option linter.unusedSimpArgs false

theorem tcnts_nn {d : List D0} {m : Int} (_ : tcnts d ≤ m) : 0 ≤ tcnts d := tcnts_nonneg d
theorem cntL_nn {d : List (List D0)} {m : Int} (_ : cntL d ≤ m) : 0 ≤ cntL d := cntL_nonneg d
theorem opt_nil {p : Option Addr} {q : Nat} (h : q ∈ (p.map (·.block)).toList) : q ∈ (p.map (·.block)).toList ++ ([] : List Nat) := List.mem_append_left _ h

theorem laws_markSigned_c {w : World} {B : Nat} {vs : List Value} {ds : List D0} {f : List Nat} {k : Int} (h : Owns w B vs ds f) (nd : f.Nodup) (hc : ds.map D0.code = [.bool, .ints]) (h0 : 0 ≤ k) (h1 : k + tcnts ds ≤ 1000000000000000000) :
    Ret P n_laws_markSigned [.agg ⟨vs⟩, .int .i64 k] w fun v w' => v = .int .i64 (k + tcnts ds) ∧ Owns w' B vs (tmarks ds k) f ∧ Chg f w w' := by
  obtain ⟨b, us, es, rfl, rfl, h2, hc2⟩ := h.consBool hc
  obtain ⟨p, n, c, z, us, es, f2, rfl, rfl, rfl, o, h3, hc3⟩ := h2.consInts hc2
  obtain ⟨rfl, rfl, rfl⟩ := h3.done hc3
  have hz : z.length = n := by have := o.len; simpa using this
  simp only [tcnts] at h1 ⊢
  refine laws_markSigned_ret ?_
  unfold laws_markSigned
  intro r w1 hn
  refine ⟨_, _, _, hn.blk.loadAt 1 rfl (by kernel_rfl) rfl, ?_⟩
  refine Ret.at (laws_markIntS_c (o.ext hn.ext) h0 (by omega)) ?_
  rintro v w2 ⟨hv, o2, ch⟩
  subst hv
  refine ⟨_, rfl, by rw [hz, Int.add_zero], ?_, hn.ext.toChg.trans (ch.mono fun q hq => opt_nil hq)⟩
  simp only [tmarks, hz]
  exact Owns.append (Owns.bool _ _ b) (Owns.append (Owns.ints o2) (Owns.nil _ _))

theorem laws_heldSigned_c {w : World} {vs : List Value} {ds : List D0} {k : Int} (h : Reps w vs (tmarks ds k)) (hc : ds.map D0.code = [.bool, .ints]) (h0 : 0 ≤ k) (h1 : k + tcnts ds ≤ 1000000000000000000) :
    Ret P n_laws_heldSigned [.agg ⟨vs⟩, .int .i64 k] w fun v w' => v = .int .i64 (k + tcnts ds) ∧ Ext w w' := by
  obtain ⟨b, es, rfl, hc2⟩ := code_bool hc
  obtain ⟨z, es, rfl, hc3⟩ := code_ints hc2
  have := code_nil hc3; subst this
  simp only [tmarks] at h
  simp only [tcnts] at h1 ⊢
  obtain ⟨a0, ap, an, ac, az, rfl, hd, ha⟩ := open_Signed h rfl
  cases hd
  have hl := ha.1
  rw [mkI_len] at hl
  rw [hl] at ha
  refine laws_heldSigned_ret ?_
  unfold laws_heldSigned
  intro r w1 hn
  refine ⟨_, _, _, hn.blk.loadAt 1 rfl (by kernel_rfl) rfl, ?_⟩
  refine Ret.at (laws_heldIntS_c (ha.ext hn.ext) h0 (by omega)) ?_
  rintro v w2 ⟨hv, y⟩
  subst hv
  exact ⟨_, rfl, ifD (fun hl => absurd hl (by omega)) (fun _ => ⟨by rw [hl, Int.add_zero], hn.ext.trans y⟩)⟩

theorem laws_markMoney_c {w : World} {B : Nat} {vs : List Value} {ds : List D0} {f : List Nat} {k : Int} (h : Owns w B vs ds f) (nd : f.Nodup) (hc : ds.map D0.code = [.str, .bool, .ints]) (h0 : 0 ≤ k) (h1 : k + tcnts ds ≤ 1000000000000000000) :
    Ret P n_laws_markMoney [.agg ⟨vs⟩, .int .i64 k] w fun v w' => v = .int .i64 (k + tcnts ds) ∧ Owns w' B vs (tmarks ds k) f ∧ Chg f w w' := by
  obtain ⟨s, us, es, rfl, rfl, h2, hc2⟩ := h.consStr hc
  have h2' := h2
  obtain ⟨b, us, es, rfl, rfl, h3, hc3⟩ := h2.consBool hc2
  obtain ⟨p, n, c, z, us, es, f2, rfl, rfl, rfl, o, h4, hc4⟩ := h3.consInts hc3
  obtain ⟨rfl, rfl, rfl⟩ := h4.done hc4
  refine laws_markMoney_ret ?_
  unfold laws_markMoney
  intro r w1 hn
  refine ⟨_, _, _, _, hn.blk.loadAAt 1 [.bool b, .slice p n c] rfl (by kernel_rfl) rfl, ?_⟩
  refine Ret.at (laws_markSigned_c (h2'.ext hn.ext) nd rfl h0 h1) ?_
  rintro v w2 ⟨hv, o2, ch⟩
  subst hv
  exact ⟨_, rfl, rfl, Owns.append (Owns.str _ _ s) o2, hn.ext.toChg.trans ch⟩

theorem laws_heldMoney_c {w : World} {vs : List Value} {ds : List D0} {k : Int} (h : Reps w vs (tmarks ds k)) (hc : ds.map D0.code = [.str, .bool, .ints]) (h0 : 0 ≤ k) (h1 : k + tcnts ds ≤ 1000000000000000000) :
    Ret P n_laws_heldMoney [.agg ⟨vs⟩, .int .i64 k] w fun v w' => v = .int .i64 (k + tcnts ds) ∧ Ext w w' := by
  obtain ⟨s, es, rfl, hc1⟩ := code_str hc
  obtain ⟨b, es, rfl, hc2⟩ := code_bool hc1
  obtain ⟨z, es, rfl, hc3⟩ := code_ints hc2
  have := code_nil hc3; subst this
  simp only [tmarks] at h
  obtain ⟨t0, a0, ap, an, ac, az, rfl, hd, ha⟩ := open_Money h rfl
  cases hd
  refine laws_heldMoney_ret ?_
  unfold laws_heldMoney
  intro r w1 hn
  refine ⟨_, _, _, _, hn.blk.loadAAt 1 [.bool b, .slice ap an ac] rfl (by kernel_rfl) rfl, ?_⟩
  have hs : Reps w1 [.bool b, .slice ap an ac] (tmarks [.bool b, .ints z] k) := ⟨rfl, ⟨_, _, _, rfl, ha.ext hn.ext⟩, trivial⟩
  have h1' : k + tcnts [.bool b, .ints z] ≤ 1000000000000000000 := h1
  have hnn := tcnts_nonneg [.bool b, .ints z]
  refine Ret.at (laws_heldSigned_c hs rfl h0 h1') ?_
  rintro v w2 ⟨hv, y⟩
  subst hv
  exact ⟨_, rfl, ifD (fun h => absurd h (by omega)) (fun _ => ⟨rfl, hn.ext.trans y⟩)⟩

end Go.Proofs.YtfbmjimhjlmhkaaDoor
