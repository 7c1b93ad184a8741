/-
  Parts of the proof of stepAt_holds: CStepsTo, CStepAt, WStepAt.
  Conditions: none.
-/
import Derived.WalkKit
import Derived.RangeFuncNested
import Derived.RangeFuncBound
import Derived.RangeFuncCalls
import Derived.RangeFuncLeaves
import Derived.Shelf.Abstract
import Derived.Shelf.RegionOpen
import Derived.OwnWalkIn
import Derived.TacticsInMore
import Derived.LoopNIn
import Derived.LoopIn
import Derived.RangeFuncBox
import Derived.Test.YtfemmmbkhhemaaaSAt3

namespace Go.Proofs.Ytfemmmbkhhemaaa
open Go Go.RowKit Go.Shelf Go.Proofs Go.Proofs.Ytfemmmbkhhemaaa.Sx
set_option linter.unusedVariables false
set_option linter.unusedSimpArgs false
set_option maxRecDepth 100000 in
set_option maxHeartbeats 2000000 in
theorem stepsTo_in (a b : Option Addr) (n c m d : Nat) (w : World) :
    CallsIn Fence.wide 9 Try.prog 23 #[.slice a n c, .slice b m d] w fun e w' => e = .returned (.func (.func 36) #[] #[.pointer (some ⟨w.heap.size, 0, none⟩), .pointer (some ⟨w.heap.size + 1, 0, none⟩)]) ∧ w' = (w.alloc (.cells #[.slice a n c] 29)).alloc (.cells #[.slice b m d] 23) := by
  refine callsIn_of_wp Try.func23 rfl trivial ?_ rfl
  simp only [Try.ntmps23, List.size_toArray, List.length_cons, List.length_nil, Nat.reduceAdd, Nat.reduceSub, Array.replicate_succ, Array.replicate_zero, List.push_toArray, List.append_toArray, List.nil_append, List.cons_append]
  gi_wp2
  go_ret
  exact ⟨by simp, rfl⟩
theorem cell_lt {w : World} {b o : Nat} {v : Value} (h : w.cell? ⟨b, o, none⟩ = some v) : b < w.heap.size := by
  rcases Nat.lt_or_ge b w.heap.size with h1 | h1
  · exact h1
  · have : w.heap[b]? = none := Array.getElem?_eq_none h1
    simp [World.cell?, this] at h
theorem Sx.Ext.trans' {a b c : World} (h : Ext a b) (k : Below a.heap.size b c) : Ext a c := Below.trans h k
theorem grown_of_ext {w w' : World} (h : Ext w w') : w.grownBy w' none := ⟨h.os, h.tape, h.output, h.size, fun k hk _ => h.block k hk⟩
set_option maxRecDepth 100000 in
set_option maxHeartbeats 4000000 in
theorem stepsTo1_in (l Bs Bm b off n c : Nat) (q : Option Addr) (m d K : Nat) (zs : List Int) (w0 : World) (F : Nat → Int) (Gb : Nat → Bool) (Gp : Nat → Option Addr) (Gn Gc : Nat → Nat) (Gs : Nat → Int)
    (hn : n ≤ 8) (hm : IntsR w0 q m d zs) (hrow : ∀ j, j < n → w0.cell? ⟨b, off + j * 4, none⟩ = some (.int .i64 (F j)) ∧ w0.cell? ⟨b, off + j * 4 + 1, none⟩ = some (.bool (Gb j)) ∧ w0.cell? ⟨b, off + j * 4 + 2, none⟩ = some (.slice (Gp j) (Gn j) (Gc j)) ∧ w0.cell? ⟨b, off + j * 4 + 3, none⟩ = some (.int .i64 (Gs j)))
    (hb : b < w0.heap.size) (hz : Canon zs) (hF : ∀ j, j < n → 0 ≤ F j ∧ F j ≤ 9223372036854775807) (hK : K ≤ n) (hK1 : ∀ j, j < K → cmpL (digs (F j).toNat) zs ≤ 0) (hK2 : K < n → 0 < cmpL (digs (F K).toNat) zs)
    (J Jx : List Nat → World → Prop)
    (hY : ∀ pre x W, J pre W → pre.length < n → YieldAt Fence.wide 8 Try.prog l #[.int .i64 (x : Nat), .agg #[.int .i64 (F x), .bool (Gb x), .slice (Gp x) (Gn x) (Gc x), .int .i64 (Gs x)]] W fun e W' =>
      (e = .returned (.bool true) ∧ J (pre ++ [x]) W' ∧ (Below w0.heap.size W W' ∧ W'.cell? ⟨Bm, 0, none⟩ = W.cell? ⟨Bm, 0, none⟩)) ∨ (e = .returned (.bool false) ∧ Jx (pre ++ [x]) W'))
    (W : World) (hJ : AbidesFrom W.heap.size J) (hx : Ext w0 W) (hBs : W.cell? ⟨Bs, 0, none⟩ = some (.slice (some ⟨b, off, none⟩) n c)) (hBm : W.cell? ⟨Bm, 0, none⟩ = some (.slice q m d)) (h0 : J [] W) :
    CallsIn Fence.wide 9 Try.prog 36 #[.func (.yield l) #[] #[], .pointer (some ⟨Bs, 0, none⟩), .pointer (some ⟨Bm, 0, none⟩)] W fun e W' => (∃ v, e = .returned v) ∧
      ((∃ ys, ys = List.range K ∧ J ys W') ∨ (∃ pre, True ∧ Jx pre W')) := by
  refine callsIn_of_wp Try.func36 rfl trivial ?_ rfl
  simp only [Try.ntmps36, List.size_toArray, List.length_cons, List.length_nil, Nat.reduceAdd, Nat.reduceSub, Array.replicate_succ, Array.replicate_zero, List.push_toArray, List.append_toArray, List.nil_append, List.cons_append]
  gi_wp2
  gi_loopw [8] (fun i wr => ∃ k : Nat, k ≤ K ∧ i = .int .i64 k ∧ J (List.range k) wr ∧ Ext w0 wr ∧ wr.cell? ⟨Bm, 0, none⟩ = some (.slice q m d))
    (fun i _ => n - (intOf i).toNat)
  case atStart => exact ⟨0, Nat.zero_le _, rfl, h0, hx, hBm⟩
  case round =>
    obtain ⟨k, hk, rfl, hJs, hnx, hbm⟩ := hrel
    by_cases hlt : k < n
    · obtain ⟨r0, r1, r2, r3⟩ := hrow k hlt
      have r0 := (hnx.cell (p := ⟨b, off + k * 4, none⟩) hb).trans r0
      have r1 := (hnx.cell (p := ⟨b, off + k * 4 + 1, none⟩) hb).trans r1
      have r2 := (hnx.cell (p := ⟨b, off + k * 4 + 2, none⟩) hb).trans r2
      have r3 := (hnx.cell (p := ⟨b, off + k * 4 + 3, none⟩) hb).trans r3
      gi_wp2
      have hmx : Try.prog.follows .mixedOrders = true := by kernel_rfl
      obtain ⟨w1, hw1⟩ : ∃ w1, wr.alloc (Obj.cells #[Value.int IntKind.i64 (F k), Value.bool (Gb k), Value.slice (Gp k) (Gn k) (Gc k), Value.int IntKind.i64 (Gs k)] 49) = w1 := ⟨_, rfl⟩
      have x1 : Ext wr w1 := by rw [← hw1]; exact (Below.refl _ _).alloc (Nat.le_refl _) _
      have bk : Blk w1 wr.heap.size 49 [Value.int IntKind.i64 (F k), Value.bool (Gb k), Value.slice (Gp k) (Gn k) (Gc k), Value.int IntKind.i64 (Gs k)] := by rw [← hw1]; exact heap_alloc_new wr _
      obtain ⟨B, hB⟩ : ∃ B, wr.heap.size = B := ⟨_, rfl⟩
      rw [hB] at bk
      have hbm1 : w1.cell? ⟨Bm, 0, none⟩ = some (.slice q m d) := by
        exact (x1.cell (p := ⟨Bm, 0, none⟩) (cell_lt hbm)).trans hbm
      rw [hw1, hB]
      have hc0 : w1.cell? ⟨B, 0, none⟩ = some (.int .i64 (F k)) := bk.cell 0
      have hc1 : w1.cell? ⟨B, 1, none⟩ = some (.bool (Gb k)) := bk.cell 1
      have hc2 : w1.cell? ⟨B, 2, none⟩ = some (.slice (Gp k) (Gn k) (Gc k)) := bk.cell 2
      have hc3 : w1.cell? ⟨B, 3, none⟩ = some (.int .i64 (Gs k)) := bk.cell 3
      have X1 : Ext w0 w1 := hnx.trans x1
      obtain ⟨f0, f1⟩ := hF k hlt
      clear hw1
      have lB := bk.lt
      obtain ⟨cv, hcv⟩ : ∃ cv, cmpL (digs (F k).toNat) zs = cv := ⟨_, rfl⟩
      have hcmp : ∀ W, Ext w0 W → ∀ p n c, IntsR W p n c (digs (F k).toNat) → Ret P n_impl_natCmp [.slice p n c, .slice q m d] W fun v w' => v = .int .i64 cv ∧ Ext W w' := fun W hW p n c hr => by rw [← hcv]; exact impl_natCmp_c hr (hm.ext hW)
      have lM := cell_lt hbm1
      have h3 : cv = -1 ∨ cv = 0 ∨ cv = 1 := by
        rw [← hcv]
        rcases cmpL_val (digs_canon (F k).toNat) hz with ⟨h, _⟩ | ⟨h, _⟩ | ⟨h, _⟩
        · exact .inl h
        · exact .inr (.inl h)
        · exact .inr (.inr h)
      have hkK : cv ≤ 0 → k < K := fun h => by
        rcases Nat.lt_or_ge k K with h1 | h1
        · exact h1
        · have : K = k := by omega
          subst this
          have := hK2 hlt
          rw [hcv] at this; omega
      have hKk : 0 < cv → K = k := fun h => by
        rcases Nat.lt_or_ge k K with h1 | h1
        · have := hK1 k h1
          rw [hcv] at this; omega
        · omega
      rcases h3 with rfl | rfl | rfl
      · have hkK := hkK (by omega)
        gi_region_with_o (first
          | (refine ⟨trivial, ?_⟩; gi_at_call 38; refine (callsIn_wide.2 (impl_NatOf_c f0 f1)).mono ?_; rintro e w2 ⟨v, rfl, p2, n2, c2, rfl, ho2, y2⟩
             have z2 := (Ext.drew w1).trans y2
             have hr2 := ho2.ints
             have hbm2 := (z2.cell (p := ⟨Bm, 0, none⟩) lM).trans hbm1)
          | (refine ⟨trivial, ?_⟩; gi_at_call 37; refine (callsIn_wide.2 (hcmp _ (X1.trans z2) _ _ _ hr2)).mono ?_; rintro e w3 ⟨v, rfl, rfl, y3⟩
             have z3 := z2.trans y3
             have hbm3 := (z3.cell (p := ⟨Bm, 0, none⟩) lM).trans hbm1
             have he0 := (z3.cell (p := ⟨B, 0, none⟩) lB).trans hc0
             have he1 := (z3.cell (p := ⟨B, 1, none⟩) lB).trans hc1
             have he2 := (z3.cell (p := ⟨B, 2, none⟩) lB).trans hc2
             have he3 := (z3.cell (p := ⟨B, 3, none⟩) lB).trans hc3
             obtain ⟨fn, tmps, assign, body, hy, hR⟩ := hY (List.range k) k w3 (hJ _ wr w3 none hJs (grown_of_ext (x1.trans z3)) (fun r e => by cases e)) (by simp; omega))
          | (refine hR.mono ?_; rintro e W3 hE
             obtain ⟨bv, rfl, hE2⟩ : ∃ bv : Bool, e = Ending.returned (Value.bool bv) ∧ ((bv = true ∧ J (List.range k ++ [k]) W3 ∧ (Below w0.heap.size w3 W3 ∧ W3.cell? ⟨Bm, 0, none⟩ = w3.cell? ⟨Bm, 0, none⟩)) ∨ (bv = false ∧ Jx (List.range k ++ [k]) W3)) := by
               rcases hE with ⟨h1, h2⟩ | ⟨h1, h2⟩
               · exact ⟨true, h1, .inl ⟨rfl, h2⟩⟩
               · exact ⟨false, h1, .inr ⟨rfl, h2⟩⟩))
        all_goals
          rcases hE2 with ⟨rfl, hJ3, hk3, hk4⟩ | ⟨rfl, hJx3⟩
          · gi_wp2
            go_roundw
            case rel => exact ⟨k + 1, by omega, by simp, by rw [List.range_succ]; exact hJ3, (X1.trans z3).trans' hk3, hk4.trans hbm3⟩
            case measure => simp [intOf]; omega
          · gi_wp2
            refine bodyPost_ret (results_none rfl _ _ _) rfl ?_
            exact ⟨⟨_, rfl⟩, .inr ⟨_, hJx3⟩⟩
      · have hkK := hkK (by omega)
        gi_region_with_o (first
          | (refine ⟨trivial, ?_⟩; gi_at_call 38; refine (callsIn_wide.2 (impl_NatOf_c f0 f1)).mono ?_; rintro e w2 ⟨v, rfl, p2, n2, c2, rfl, ho2, y2⟩
             have z2 := (Ext.drew w1).trans y2
             have hr2 := ho2.ints
             have hbm2 := (z2.cell (p := ⟨Bm, 0, none⟩) lM).trans hbm1)
          | (refine ⟨trivial, ?_⟩; gi_at_call 37; refine (callsIn_wide.2 (hcmp _ (X1.trans z2) _ _ _ hr2)).mono ?_; rintro e w3 ⟨v, rfl, rfl, y3⟩
             have z3 := z2.trans y3
             have hbm3 := (z3.cell (p := ⟨Bm, 0, none⟩) lM).trans hbm1
             have he0 := (z3.cell (p := ⟨B, 0, none⟩) lB).trans hc0
             have he1 := (z3.cell (p := ⟨B, 1, none⟩) lB).trans hc1
             have he2 := (z3.cell (p := ⟨B, 2, none⟩) lB).trans hc2
             have he3 := (z3.cell (p := ⟨B, 3, none⟩) lB).trans hc3
             obtain ⟨fn, tmps, assign, body, hy, hR⟩ := hY (List.range k) k w3 (hJ _ wr w3 none hJs (grown_of_ext (x1.trans z3)) (fun r e => by cases e)) (by simp; omega))
          | (refine hR.mono ?_; rintro e W3 hE
             obtain ⟨bv, rfl, hE2⟩ : ∃ bv : Bool, e = Ending.returned (Value.bool bv) ∧ ((bv = true ∧ J (List.range k ++ [k]) W3 ∧ (Below w0.heap.size w3 W3 ∧ W3.cell? ⟨Bm, 0, none⟩ = w3.cell? ⟨Bm, 0, none⟩)) ∨ (bv = false ∧ Jx (List.range k ++ [k]) W3)) := by
               rcases hE with ⟨h1, h2⟩ | ⟨h1, h2⟩
               · exact ⟨true, h1, .inl ⟨rfl, h2⟩⟩
               · exact ⟨false, h1, .inr ⟨rfl, h2⟩⟩))
        all_goals
          rcases hE2 with ⟨rfl, hJ3, hk3, hk4⟩ | ⟨rfl, hJx3⟩
          · gi_wp2
            go_roundw
            case rel => exact ⟨k + 1, by omega, by simp, by rw [List.range_succ]; exact hJ3, (X1.trans z3).trans' hk3, hk4.trans hbm3⟩
            case measure => simp [intOf]; omega
          · gi_wp2
            refine bodyPost_ret (results_none rfl _ _ _) rfl ?_
            exact ⟨⟨_, rfl⟩, .inr ⟨_, hJx3⟩⟩
      · obtain rfl := hKk (by omega)
        first
        | (gi_region_with_o (first
          | (refine ⟨trivial, ?_⟩; gi_at_call 38; refine (callsIn_wide.2 (impl_NatOf_c f0 f1)).mono ?_; rintro e w2 ⟨v, rfl, p2, n2, c2, rfl, ho2, y2⟩
             have z2 := (Ext.drew w1).trans y2
             have hr2 := ho2.ints
             have hbm2 := (z2.cell (p := ⟨Bm, 0, none⟩) lM).trans hbm1)
          | (refine ⟨trivial, ?_⟩; gi_at_call 37; refine (callsIn_wide.2 (hcmp _ (X1.trans z2) _ _ _ hr2)).mono ?_; rintro e w3 ⟨v, rfl, rfl, y3⟩
             have z3 := z2.trans y3
             have hbm3 := (z3.cell (p := ⟨Bm, 0, none⟩) lM).trans hbm1
             have he0 := (z3.cell (p := ⟨B, 0, none⟩) lB).trans hc0
             have he1 := (z3.cell (p := ⟨B, 1, none⟩) lB).trans hc1
             have he2 := (z3.cell (p := ⟨B, 2, none⟩) lB).trans hc2
             have he3 := (z3.cell (p := ⟨B, 3, none⟩) lB).trans hc3
             have hJ3 := hJ _ wr w3 none hJs (grown_of_ext (x1.trans z3)) (fun r e => by cases e))
          | (refine (show (∀ (f : FuncId), none = some f → Fence.wide.fn f) ∧ _ from ⟨fun _ h => (by cases h), ?_⟩))))
        | skip
        all_goals
          gi_wp2
          refine bodyPost_ret (results_none rfl _ _ _) rfl ?_
          exact ⟨⟨_, rfl⟩, .inl ⟨_, rfl, hJ3⟩⟩
    · obtain rfl : k = n := by omega
      obtain rfl : K = k := by omega
      gi_wp2
      go_end0
      exact ⟨⟨_, rfl⟩, .inl ⟨_, rfl, hJs⟩⟩
end Go.Proofs.Ytfemmmbkhhemaaa

namespace Go.Proofs.Ytfemmmbkhhemaaa
open Go Go.RowKit Go.Shelf Go.Proofs Go.Proofs.Ytfemmmbkhhemaaa.Sx
set_option linter.unusedVariables false
set_option linter.unusedSimpArgs false
/-- the last of the first j steps whose From is at most v -/
def lastLe (l : List (List D0)) (v : Int) : Nat → Int
  | 0 => -1
  | j + 1 => if stepFrom (l.getD j []) ≤ v then j else lastLe l v j
def lastI (l : List Nat) : Int := match l.getLast? with
  | some x => (x : Nat)
  | none => -1
theorem lastI_snoc (l : List Nat) (x : Nat) : lastI (l ++ [x]) = (x : Nat) := by simp [lastI]
def stepAt (l : List (List D0)) : List D0 → Int
  | [.bool b, .ints z] => if stepsOk l && intOk [.bool b, .ints z] then lastLe l (val z) l.length else -1
  | _ => -1
theorem upto_le (f : Nat → Bool) : ∀ n, ∃ K, K ≤ n ∧ (∀ j, j < K → f j = true) ∧ (K < n → f K = false)
  | 0 => ⟨0, Nat.le_refl _, fun j h => absurd h (by omega), fun h => absurd h (by omega)⟩
  | n + 1 => by
    obtain ⟨K, h1, h2, h3⟩ := upto_le f n
    rcases Nat.lt_or_ge K n with h | h
    · exact ⟨K, by omega, h2, fun _ => h3 h⟩
    · have : K = n := by omega
      subst this
      cases hf : f K with
      | true => exact ⟨K + 1, Nat.le_refl _, fun j hj => by
          rcases Nat.lt_or_ge j K with h | h
          · exact h2 j h
          · have : j = K := by omega
            rw [this, hf], fun h => absurd h (by omega)⟩
      | false => exact ⟨K, by omega, h2, fun _ => hf⟩
theorem cell_setCell_ne {w : World} {a b : Addr} {v : Value} (h : b.block ≠ a.block) : (w.setCell a v).cell? b = w.cell? b := by
  have : (w.setCell a v).heap[b.block]? = w.heap[b.block]? := by
    unfold World.setCell
    split <;> simp [Array.getElem?_modify, h, Ne.symm h]
  simp only [World.cell?, this]
theorem steps_up {l : List (List D0)} (hall : ∀ i < l.length, stepOk l i = true) : ∀ (i j : Nat), i ≤ j → j < l.length → stepFrom (l.getD i []) ≤ stepFrom (l.getD j []) := by
  intro i j hij
  induction j with
  | zero => intro _; have : i = 0 := by omega
            subst this; omega
  | succ j ih =>
    intro hj
    rcases Nat.lt_or_ge i (j + 1) with h | h
    · have h1 := ih (by omega) (by omega)
      have h2 := hall (j + 1) hj
      simp only [stepOk, Bool.and_eq_true, Bool.not_eq_true', Bool.and_eq_false_iff, decide_eq_false_iff_not, Nat.add_sub_cancel] at h2
      have h3 := h2.2
      rcases h3 with h3 | h3
      · omega
      · omega
    · have : i = j + 1 := by omega
      subst this; omega
theorem lastLe_range {l : List (List D0)} {n K : Nat} {v : Int} (hl : l.length = n) (hK : K ≤ n) (hK1 : ∀ j, j < K → stepFrom (l.getD j []) ≤ v) (hK2 : K < n → v < stepFrom (l.getD K [])) (h1 : 1 ≤ l.length) (h0 : stepFrom (l.getD 0 []) = 0) (hall : ∀ i < l.length, stepOk l i = true) :
    lastI (List.range K) = lastLe l v l.length := by
  have hi : lastI (List.range K) = (K : Int) - 1 := by
    cases K with
    | zero => rfl
    | succ K => rw [List.range_succ, lastI_snoc]; omega
  have key : ∀ j, K ≤ j → j ≤ l.length → lastLe l v j = (K : Int) - 1 := by
    intro j hKj
    induction j with
    | zero => intro _; have : K = 0 := by omega
              subst this; rfl
    | succ j ih =>
      intro hj
      rcases Nat.lt_or_ge K (j + 1) with h | h
      · have h2 := steps_up hall K j (by omega) (by omega)
        have h3 := hK2 (by omega)
        rw [lastLe, if_neg (by omega)]
        exact ih (by omega) (by omega)
      · have : K = j + 1 := by omega
        subst this
        rw [lastLe, if_pos (hK1 j (by omega))]
        omega
  rw [hi, key _ (by omega) (Nat.le_refl _)]
set_option maxRecDepth 100000 in
set_option maxHeartbeats 4000000 in
theorem impl_StepAt_c {w : World} {p : Option Addr} {n c : Nat} {l : List (List D0)} {xs : List Value} {dy : List D0} (h : RowsR w 4 p n c l) (hc : ∀ x ∈ l, x.map D0.code = [.int, .bool, .ints, .int]) (g : Reps w xs dy) (gc : dy.map D0.code = [.bool, .ints]) :
    Ret P n_impl_StepAt [.slice p n c, .agg ⟨xs⟩] w fun v w' => v = .int .i64 (stepAt l dy) ∧ Ext w w' := by
  obtain ⟨b0, q, m, d, z, rfl, rfl, hz⟩ := open_Signed g gc
  refine (callsIn_wide (n := 10)).1 ?_
  change CallsIn Fence.wide 10 Try.prog 9 #[.slice p n c, .agg #[.bool b0, .slice q m d]] w fun e w' => ∃ v, e = .returned v ∧ v = .int .i64 (stepAt l [.bool b0, .ints z]) ∧ Ext w w'
  have xa : ∀ o, Ext w (w.alloc o) := fun o => (Below.refl _ _).alloc (Nat.le_refl _) _
  rcases hs : stepsOk l with _ | _
  · refine callsIn_of_wp_marks Try.func9 rfl trivial ?_ rfl
    simp only [Try.ntmps9, List.size_toArray, List.length_cons, List.length_nil, Nat.reduceAdd, Nat.reduceSub, Array.replicate_succ, Array.replicate_zero, List.push_toArray, List.append_toArray, List.nil_append, List.cons_append]
    have hS : ∀ W, Ext w W → Ret P n_impl_StepsOk [.slice p n c] W fun v w' => v = .bool false ∧ Ext W w' := fun W x => by rw [← hs]; exact impl_StepsOk_c (h.ext x) hc
    gi_wp2_with (refine ⟨trivial, ?_⟩; gi_at_call 21; refine (callsIn_wide.2 (hS _ (xa _))).mono ?_; rintro e w2 ⟨v, rfl, rfl, y2⟩)
    refine ⟨trivial, ?_⟩
    gi_wp2
    exact ⟨_, results_tmp rfl _ _ _, _, rfl, by simp only [stepAt, hs, Bool.false_and, Bool.false_eq_true, if_false]; rfl, (xa _).trans y2⟩
  have hS : ∀ W, Ext w W → Ret P n_impl_StepsOk [.slice p n c] W fun v w' => v = .bool true ∧ Ext W w' := fun W x => by rw [← hs]; exact impl_StepsOk_c (h.ext x) hc
  rcases hi : intOk [.bool b0, .ints z] with _ | _
  · refine callsIn_of_wp_marks Try.func9 rfl trivial ?_ rfl
    simp only [Try.ntmps9, List.size_toArray, List.length_cons, List.length_nil, Nat.reduceAdd, Nat.reduceSub, Array.replicate_succ, Array.replicate_zero, List.push_toArray, List.append_toArray, List.nil_append, List.cons_append]
    have hI : ∀ W, Ext w W → Ret P n_impl_IntOk [.agg ⟨[.bool b0, .slice q m d]⟩] W fun v w' => v = .bool false ∧ Ext W w' := fun W x => by rw [← hi]; exact impl_IntOk_c (g.ext x) gc
    have bx := (New.blk (w := w) ⟨rfl, rfl⟩ : Blk (w.alloc (.cells ⟨[.bool b0, .slice q m d]⟩ 31)) w.heap.size 31 [.bool b0, .slice q m d])
    gi_wp2_with (first
      | (refine ⟨trivial, ?_⟩; gi_at_call 21; refine (callsIn_wide.2 (hS _ (xa _))).mono ?_; rintro e w2 ⟨v, rfl, rfl, y2⟩
         have bx2 := bx.ext y2
         have c0 := bx2.cell 0
         have c1 := bx2.cell 1
         simp only [List.getElem?_cons_zero, List.getElem?_cons_succ] at c0 c1)
      | (refine ⟨trivial, ?_⟩; gi_at_call 22; refine (callsIn_wide.2 (hI _ ((xa _).trans y2))).mono ?_; rintro e w3 ⟨v, rfl, rfl, y3⟩))
    exact ⟨_, results_tmp rfl _ _ _, _, rfl, by simp only [stepAt, hs, hi, Bool.and_false, Bool.false_eq_true, if_false]; rfl, ((xa _).trans y2).trans y3⟩
  have hI : ∀ W, Ext w W → Ret P n_impl_IntOk [.agg ⟨[.bool b0, .slice q m d]⟩] W fun v w' => v = .bool true ∧ Ext W w' := fun W x => by rw [← hi]; exact impl_IntOk_c (g.ext x) gc
  have hval : stepAt l [.bool b0, .ints z] = lastLe l (val z) l.length := by simp only [stepAt, hs, hi, Bool.and_self, if_true]
  rw [hval]
  have hcan : Canon z := by
    obtain ⟨_, b', z', he, hcan, _⟩ := intOk_enc hi
    simp only [List.cons.injEq, D0.bool.injEq, D0.ints.injEq, and_true] at he
    obtain ⟨_, rfl⟩ := he
    exact hcan
  have hln := h.1
  simp only [stepsOk, Bool.and_eq_true, decide_eq_true_eq, List.all_eq_true, List.mem_range] at hs
  obtain ⟨⟨⟨hn1, hn8⟩, hz0⟩, hall⟩ := hs
  obtain ⟨b, off, rfl, hrows⟩ := h.2.2.2 (by omega)
  have hF : ∀ j, j < n → 0 ≤ stepFrom (l.getD j []) ∧ stepFrom (l.getD j []) ≤ 9223372036854775807 := fun j hj => by
    have := hall j (by omega)
    simp only [stepOk, Bool.and_eq_true, decide_eq_true_eq] at this
    omega
  have hpick : ∀ j, ∃ t : Bool × Option Addr × Nat × Nat × Int, j < n → w.cell? ⟨b, off + j * 4, none⟩ = some (.int .i64 (stepFrom (l.getD j []))) ∧ w.cell? ⟨b, off + j * 4 + 1, none⟩ = some (.bool t.1) ∧ w.cell? ⟨b, off + j * 4 + 2, none⟩ = some (.slice t.2.1 t.2.2.1 t.2.2.2.1) ∧ w.cell? ⟨b, off + j * 4 + 3, none⟩ = some (.int .i64 t.2.2.2.2) := by
    intro j
    rcases Nat.lt_or_ge j n with hj | hj
    · have hjl : j < l.length := by omega
      obtain ⟨cs, h1, h2, h3⟩ := hrows j _ (List.getElem?_eq_getElem hjl)
      obtain ⟨a0, a1, a2p, a2n, a2c, a2z, a3, rfl, he, _⟩ := open_Step h2 (hc _ (List.getElem_mem hjl))
      have hfr : stepFrom (l.getD j []) = a0 := by rw [getD_lt hjl, he]; rfl
      exact ⟨(a1, a2p, a2n, a2c, a3), fun _ => ⟨by rw [hfr]; exact h3 0 _ rfl, h3 1 _ rfl, h3 2 _ rfl, h3 3 _ rfl⟩⟩
    · exact ⟨(false, none, 0, 0, 0), fun h => absurd h (by omega)⟩
  obtain ⟨t, ht⟩ := Classical.axiomOfChoice hpick
  have hb : b < w.heap.size := cell_lt (ht 0 (by omega)).1
  obtain ⟨K, hK, hK1, hK2⟩ := upto_le (fun j => decide (stepFrom (l.getD j []) ≤ val z)) n
  have hcmpv : ∀ j, j < n → (cmpL (digs (stepFrom (l.getD j [])).toNat) z ≤ 0 ↔ stepFrom (l.getD j []) ≤ val z) := fun j hj => by
    have h0 := (hF j hj).1
    have hv : val (digs (stepFrom (l.getD j [])).toNat) = stepFrom (l.getD j []) := by rw [val_digs, Int.toNat_of_nonneg h0]
    rcases cmpL_val (digs_canon (stepFrom (l.getD j [])).toNat) hcan with ⟨e, g⟩ | ⟨e, g⟩ | ⟨e, g⟩ <;> rw [hv] at g <;> omega
  refine callsIn_of_wp_marks Try.func9 rfl trivial ?_ rfl
  simp only [Try.ntmps9, List.size_toArray, List.length_cons, List.length_nil, Nat.reduceAdd, Nat.reduceSub, Array.replicate_succ, Array.replicate_zero, List.push_toArray, List.append_toArray, List.nil_append, List.cons_append]
  have bx := (New.blk (w := w) ⟨rfl, rfl⟩ : Blk (w.alloc (.cells ⟨[.bool b0, .slice q m d]⟩ 31)) w.heap.size 31 [.bool b0, .slice q m d])
  gi_wp2_with (first
    | (refine ⟨trivial, ?_⟩; gi_at_call 21; refine (callsIn_wide.2 (hS _ (xa _))).mono ?_; rintro e w2 ⟨v, rfl, rfl, y2⟩
       have bx2 := bx.ext y2
       have c0 := bx2.cell 0
       have c1 := bx2.cell 1
       simp only [List.getElem?_cons_zero, List.getElem?_cons_succ] at c0 c1)
    | (refine ⟨trivial, ?_⟩; gi_at_call 22; refine (callsIn_wide.2 (hI _ ((xa _).trans y2))).mono ?_; rintro e w3 ⟨v, rfl, rfl, y3⟩
       have bx3 := bx2.ext y3
       have d1 := bx3.cell 1
       simp only [List.getElem?_cons_zero, List.getElem?_cons_succ] at d1
       have hlt := bx3.lt)
    | (refine ⟨trivial, ?_⟩; gi_at_call 23; refine (stepsTo_in _ _ _ _ _ _ _).mono ?_; rintro e w' ⟨rfl, rfl⟩))
  have bR := Boxed.new w3 3 (.int .i64 (-1))
  have bN := Boxed.new (w3.alloc (.cells #[.int .i64 (-1)] 3)) 29 (.slice (some ⟨b, off, none⟩) n c)
  have bM := Boxed.new ((w3.alloc (.cells #[.int .i64 (-1)] 3)).alloc (.cells #[.slice (some ⟨b, off, none⟩) n c] 29)) 23 (.slice q m d)
  rw [World.size_alloc] at bN
  rw [World.size_alloc, World.size_alloc] at bM
  have xw3 : Ext w w3 := ((xa _).trans y2).trans y3
  have hle3 := xw3.le
  have hB0 : Below w.heap.size w (((w3.alloc (.cells #[.int .i64 (-1)] 3)).alloc (.cells #[.slice (some ⟨b, off, none⟩) n c] 29)).alloc (.cells #[.slice q m d] 23)) := (((xw3 : Below _ _ _).alloc hle3 _).alloc (by simp; omega) _).alloc (by simp; omega) _
  refine wpIn_rangeFunc_ownG (α := Nat) (n := 10) rfl (by omega) (gf := 36) (lb := #[.pointer (some ⟨w3.heap.size + 1, 0, none⟩), .pointer (some ⟨w3.heap.size + 1 + 1, 0, none⟩)]) rfl trivial (enters_of Try.func36 (by kernel_rfl) rfl)
    (encs := fun x => #[.int .i64 (x : Nat), .agg #[.int .i64 (stepFrom (l.getD x [])), .bool (t x).1, .slice (t x).2.1 (t x).2.2.1 (t x).2.2.2.1, .int .i64 (t x).2.2.2.2]])
    (Kp := fun A B => Below w.heap.size A B ∧ B.cell? ⟨w3.heap.size + 1 + 1, 0, none⟩ = A.cell? ⟨w3.heap.size + 1 + 1, 0, none⟩) (S := fun ys => ys = List.range K) (Sp := fun _ => True) (N := n)
    (fun l' J Jx W hW hJ _ hY h0 => stepsTo1_in l' (w3.heap.size + 1) (w3.heap.size + 1 + 1) b off n c q m d K z w (fun j => stepFrom (l.getD j [])) (fun j => (t j).1) (fun j => (t j).2.1) (fun j => (t j).2.2.1) (fun j => (t j).2.2.2.1) (fun j => (t j).2.2.2.2)
      (by omega) hz ht hb hcan hF hK (fun j hj => (hcmpv j (by omega)).2 (by simpa using hK1 j hj)) (fun hKn => by
        have h1 := hK2 hKn
        have h2 := (hcmpv K hKn).1
        simp only [decide_eq_false_iff_not] at h1
        omega)
      J Jx hY W hJ (Below.trans hB0 (hW.mono hB0.size)) ((hW.cell (p := ⟨w3.heap.size + 1, 0, none⟩) (by simp)).trans (bN.alloc _).cell) ((hW.cell (p := ⟨w3.heap.size + 1 + 1, 0, none⟩) (by simp)).trans bM.cell) h0)
    (fun h k => ⟨h.1.trans k.1, k.2.trans h.2⟩) (fun W l o o' hl ho hc _ => ⟨belowK_b (w := (((w3.alloc (.cells #[.int .i64 (-1)] 3)).alloc (.cells #[.slice (some ⟨b, off, none⟩) n c] 29)).alloc (.cells #[.slice q m d] 23))) (by simp; omega) W l o o' hl ho hc (by assumption), (belowK_b (n₀ := w3.heap.size + 3) (w := (((w3.alloc (.cells #[.int .i64 (-1)] 3)).alloc (.cells #[.slice (some ⟨b, off, none⟩) n c] 29)).alloc (.cells #[.slice q m d] 23))) (by simp) W l o o' hl ho hc (by assumption)).cell (p := ⟨w3.heap.size + 1 + 1, 0, none⟩) (by simp)⟩) (Below.refl _ _) (fun _ => rfl)
    (fun pre W => (W.cell? ⟨w3.heap.size, 0, none⟩ = some (.int .i64 (lastI pre)) ∧ W.frozen? ⟨w3.heap.size, 0, none⟩ = false) ∧ Below w.heap.size w W)
    (fun _ _ _ => False)
    (OwnFrom.and (Own.from (fun s A B row hs hg hr => ⟨cell_kept hs.1 hg hr, (frozen_kept hs.1 hg hr).trans hs.2⟩) _) (ownFrom_below (Nat.le_refl _) (by simp; omega)))
    (fun _ _ _ _ _ hs _ _ => hs)
    ⟨⟨((bR.alloc _).alloc _).cell, ((bR.alloc _).alloc _).frozen⟩, hB0⟩
    (fun x => { tmps := #[.slice (some ⟨b, off, none⟩) n c, .agg #[.bool b0, .slice q m d], undef, .pointer (some ⟨w.heap.size, 0, none⟩), .int .i64 0, .pointer (some ⟨w3.heap.size, 0, none⟩), .int .i64 (x : Nat),
      .slice (some ⟨b, off, none⟩) n c, .bool true, .bool false, .bool false, .agg #[.bool b0, .slice q m d], .bool true, .bool false, .bool false, .slice (some ⟨b, off, none⟩) n c, .pointer (some ⟨w.heap.size, 1, none⟩), .slice q m d,
      .func (.func 36) #[] #[.pointer (some ⟨w3.heap.size + 1, 0, none⟩), .pointer (some ⟨w3.heap.size + 1 + 1, 0, none⟩)], .int .i64 (x : Nat), .agg #[.int .i64 (stepFrom (l.getD x [])), .bool (t x).1, .slice (t x).2.1 (t x).2.2.1 (t x).2.2.2.1, .int .i64 (t x).2.2.2.2], undef, undef], defers := [] }) ?assign ?body ?done ?stop
  case assign =>
    intro l' x W Kk hK
    gi_wp2_with (simp [Oper.semAt_some, go_sem])
    exact hK
  case body =>
    rintro l' pre x W ⟨⟨hcr, hfr⟩, hB⟩ _
    gi_wp2_with (simp [Oper.semAt_some, go_sem, hcr, hfr])
    refine ⟨(KeepsOthers.setCell _ _ _).from _, ⟨(Below.refl w.heap.size W).setCell (p := ⟨w3.heap.size, 0, none⟩) hle3 _, cell_setCell_ne (show w3.heap.size + 1 + 1 ≠ w3.heap.size by omega)⟩, ⟨by rw [lastI_snoc]; exact World.cell?_setCell_same' _ _ _ (by rw [hcr]; rfl), by rw [World.frozen?_setCell]; exact hfr⟩, hB.setCell (p := ⟨w3.heap.size, 0, none⟩) hle3 _⟩
  case done =>
    rintro D ys W hD rfl ⟨⟨hcr, hfr⟩, hB⟩ hK'
    gi_wp2
    refine ⟨by simp, .inl ⟨_, _, rfl, run_takeDeferred hK', ?_⟩⟩
    exact ⟨_, results_tmp rfl _ _ _, _, rfl, by rw [← lastLe_range hln hK (fun j hj => by simpa using hK1 j hj) (fun hKn => by simpa using hK2 hKn) hn1 hz0 hall]; rfl, hB.trans (belowK_b (w := w) (Nat.le_refl _) W D _ _ (by simp at hD; omega) hK' rfl rfl)⟩
  case stop =>
    rintro D c' pre W hD _ hf _
    exact hf.elim
theorem spec_IntAbs_n {w : World} {xs : List Value} {b : Bool} {z : List Int} (h : Reps w xs [.bool b, .ints z]) (hok : intOk [.bool b, .ints z] = true) (hz : Canon z) :
    Ret P n_spec_IntAbs [.agg ⟨xs⟩] w fun v w' => ∃ vs f, v = .agg ⟨vs⟩ ∧ Owns w' w.heap.size vs (enc (val z)) f ∧ f.Nodup ∧ Ext w w' := by
  have hr := h
  obtain ⟨a0, ap, an, ac, az, rfl, hd, ha⟩ := open_Signed h rfl
  cases hd
  refine spec_IntAbs_ret ?_
  unfold spec_IntAbs
  intro r w1 hn1 r1 w2 hn2
  have e1 := hn1.r_eq; have e2 := hn2.r_eq; have z1 := hn1.size; have z2 := hn2.size
  have X := hn1.ext.trans hn2.ext
  have q0 := hn1.blk.ext hn2.ext; have q1 := hn2.blk
  refine ⟨_, _, _, _, q0.loadA0 (by kernel_rfl), ?_⟩
  refine Ret.at (spec_IntOk_c (hr.ext X) rfl) ?_
  rintro v w3 ⟨hv, y3⟩
  subst hv
  rw [hok]
  refine ⟨_, rfl, ifN (fun hh => absurd hh (by simp)) (fun _ => ⟨_, _, _, (q0.ext y3).loadAt 1 rfl (by kernel_rfl) rfl, ?_⟩)⟩
  refine Ret.at (spec_l04Make_c (ha.ext (X.trans y3)) hz.1) ?_
  rintro v w4 ⟨bq, p5, n5, c5, hv, hbq, own5, y4⟩
  subst hv
  have hv0 := val_nonneg hz.1
  have hlen : z.length ≤ 50 := by
    obtain ⟨_, b', z', he, _, hl⟩ := intOk_enc hok
    simp only [List.cons.injEq, D0.bool.injEq, D0.ints.injEq, and_true] at he
    obtain ⟨_, rfl⟩ := he
    exact hl
  have hdz : digs (val z).toNat = z := digs_val hz
  have hcap : capL (digs (val z).toNat) = digs (val z).natAbs := by
    rw [show (val z).natAbs = (val z).toNat by omega, hdz]
    unfold capL
    rw [if_pos hlen]
  rw [hcap] at own5
  have hbq' : bq = decide (val z < 0) := by rw [hbq, Bool.false_and, decide_eq_false (by omega)]
  subst hbq'
  have l3 := y3.le
  have o5 : Owns w4 w3.heap.size [.bool (decide (val z < 0)), .slice p5 n5 c5] (enc (val z)) (p5.map (·.block)).toList := Owns.int2 (b := decide (val z < 0)) own5
  obtain ⟨W', st', hb', ch, _⟩ := ((q1.ext y3).ext y4).storeA0 (P := P) (t := T_impl_Signed) (xs := [.bool (decide (val z < 0)), .slice p5 n5 c5]) (by kernel_rfl) rfl (by simp [Value.oneCell'])
  exact ⟨_, _, _, _, rfl, W', st', _, _, _, _, hb'.loadA0 (by kernel_rfl), _, _, rfl, (o5.chg1 ch (by omega)).mono (by omega), nodup_opt p5, ((X.trans y3).trans y4).chg ch (by simp; omega)⟩
theorem spec_StepAt_c {w : World} {p : Option Addr} {n c : Nat} {l : List (List D0)} {xs : List Value} {dy : List D0} (h : RowsR w 4 p n c l) (hc : ∀ x ∈ l, x.map D0.code = [.int, .bool, .ints, .int]) (g : Reps w xs dy) (gc : dy.map D0.code = [.bool, .ints]) :
    Ret P n_spec_StepAt [.slice p n c, .agg ⟨xs⟩] w fun v w' => v = .int .i64 (stepAt l dy) ∧ Ext w w' := by
  have hln := h.1
  have gr := g
  obtain ⟨b0, q, m, d, z, rfl, rfl, hz⟩ := open_Signed g gc
  refine spec_StepAt_ret ?_
  unfold spec_StepAt
  intro r w1 hn1
  have q0 := hn1.blk
  refine Ret.at (spec_StepsOk_c (h.ext hn1.ext) hc) ?_
  rintro v w2 ⟨hv, y2⟩
  subst hv
  have X2 := hn1.ext.trans y2
  refine ⟨_, rfl, ifN (fun hno => ifT ⟨by simp only [stepAt, hno, Bool.false_and, Bool.false_eq_true, if_false], X2⟩) (fun hs => ⟨_, _, _, _, (q0.ext y2).loadA0 (by kernel_rfl), ?_⟩)⟩
  refine Ret.at (spec_IntOk_c (gr.ext X2) rfl) ?_
  rintro v w3 ⟨hv, y3⟩
  subst hv
  have X3 := X2.trans y3
  refine ⟨_, rfl, ifN (fun hno => ⟨by simp only [stepAt, hno, Bool.and_false, Bool.false_eq_true, if_false], X3⟩) (fun hi => ?_)⟩
  have hval : stepAt l [.bool b0, .ints z] = lastLe l (val z) l.length := by simp only [stepAt, hs, hi, Bool.and_self, if_true]
  rw [hval]
  obtain ⟨hcan, hz50⟩ : Canon z ∧ z.length ≤ 50 := by
    obtain ⟨_, b', z', he, hcan, hl⟩ := intOk_enc hi
    simp only [List.cons.injEq, D0.bool.injEq, D0.ints.injEq, and_true] at he
    obtain ⟨_, rfl⟩ := he
    exact ⟨hcan, hl⟩
  have hv0 := val_nonneg hcan.1
  have hdz : digs (val z).toNat = z := digs_val hcan
  have hokz : intOk (enc (val z)) = true := enc_ok (by rw [show (val z).natAbs = (val z).toNat by omega, hdz]; exact hz50)
  simp only [stepsOk, Bool.and_eq_true, decide_eq_true_eq, List.all_eq_true, List.mem_range] at hs
  obtain ⟨⟨⟨hn1', hn8⟩, hz0⟩, hall⟩ := hs
  obtain ⟨b, off, hp, hrows⟩ := h.2.2.2 (by omega)
  subst hp
  have hF : ∀ j, j < n → 0 ≤ stepFrom (l.getD j []) ∧ stepFrom (l.getD j []) ≤ 1000000000 := fun j hj => by
    have := hall j (by omega)
    simp only [stepOk, Bool.and_eq_true, decide_eq_true_eq] at this
    omega
  have first : ∀ i (hi : i < l.length), ∀ W, Ext w W → Loads P T_int (((⟨b, off, none⟩ : Addr).add (i * 4)).add 0) (.int .i64 (stepFrom (l.getD i []))) W := by
    intro i hi W hW
    obtain ⟨cs, hk, hr, hsg⟩ := hrows i _ (List.getElem?_eq_getElem hi)
    obtain ⟨a0, a1, a2p, a2n, a2c, a2z, a3, rfl, hd, _⟩ := open_Step hr (hc _ (List.getElem_mem hi))
    rw [getD_lt hi, hd]
    exact (hsg.ext hW).loadAt 0 (by simp [Addr.add]) (by kernel_rfl) rfl
  unfold spec_StepAt_j0
  refine exW ⟨by omega, by omega⟩ ⟨fun k wr => ∃ j : Nat, k = j ∧ j < n ∧ Ext w3 wr ∧ lastLe l (val z) l.length = lastLe l (val z) (j + 1), fun k _ => k.toNat, ⟨n - 1, by omega, by omega, Ext.refl _, by rw [hln, show n - 1 + 1 = n by omega]⟩, ?_⟩
  intro junk wr k ⟨j, hkj, hj, hx, hlast⟩
  subst hkj
  have XR := X3.trans hx
  have D := Ext.drew wr
  have XD := XR.trans D
  obtain ⟨f0, f1⟩ := hF j hj
  refine ⟨⟨by omega, by omega⟩, _, fun W hW => first j (by omega) W (XD.trans hW), ?_⟩
  refine Ret.at (spec_IntOf_c (n := stepFrom (l.getD j [])) (by omega) (by omega)) ?_
  rintro v w4 ⟨vs4, f4, hv, ho4, _, y4⟩
  subst hv
  obtain ⟨g0, gp, gn, gc', gz, rfl, _, _⟩ := open_Signed ho4.reps (enc_code _)
  refine ⟨_, _, _, _, rfl, y4, _, _, _, _, fun W hW => ((((q0.ext y2).ext y3).ext hx).ext (D.trans hW)).loadA0 (by kernel_rfl), ?_⟩
  refine Ret.at (spec_IntAbs_n (gr.ext (XD.trans y4)) hi hcan) ?_
  rintro v w5 ⟨vs5, f5, hv, ho5, _, y5⟩
  subst hv
  obtain ⟨u0, up, un, uc, uz, rfl, _, _⟩ := open_Signed ho5.reps (enc_code _)
  refine ⟨_, _, _, _, rfl, ?_⟩
  refine Ret.at (spec_IntCmp_c (ho4.reps.ext y5) ho5.reps (enc_code _) (enc_code _)) ?_
  rintro v w6 ⟨hv, y6⟩
  subst hv
  have hokf : intOk (enc (stepFrom (l.getD j []))) = true := by
    have h9 : (1000000000 : Nat) ^ 2 = 1000000000000000000 := by decide
    have h8 := digs_len (n := (stepFrom (l.getD j [])).natAbs) 2 (by omega)
    exact enc_ok (by omega)
  rw [icmp_enc hokf hokz]
  have Y := (D.trans y4).trans (y5.trans y6)
  refine ⟨_, rfl, ifD (fun hlt => ?_) (fun hge => ⟨?_, XR.trans Y⟩)⟩
  · have hgt : 0 < stepFrom (l.getD j []) - val z := by
      have := hlt; unfold sgn at this; split at this <;> (try split at this) <;> omega
    have hj0 : j ≠ 0 := fun e => by subst e; omega
    refine exW ⟨by omega, by omega⟩ ⟨⟨j - 1, by omega, by omega, hx.trans Y, ?_⟩, ?_⟩
    · rw [hlast, lastLe, if_neg (by omega), show j - 1 + 1 = j by omega]
    · show ((j : Int) - 1).toNat < (j : Int).toNat
      omega
  · have hle : ¬ 0 < stepFrom (l.getD j []) - val z := fun h => hge (by unfold sgn; split <;> (try split) <;> omega)
    rw [hlast, lastLe, if_pos (by omega)]
end Go.Proofs.Ytfemmmbkhhemaaa

namespace Go.Proofs.Ytfemmmbkhhemaaa
open Go Go.Proofs.Ytfemmmbkhhemaaa.Sx
set_option linter.unusedVariables false
set_option linter.unusedSimpArgs false
theorem laws_FnExactStepAt_c {w : World} {p0 : Option Addr} {n0 c0 : Nat} {l0 : List (List D0)} (h0 : RowsR w 4 p0 n0 c0 l0) (hc0 : ∀ x ∈ l0, x.map D0.code = [.int, .bool, .ints, .int]) (hk0 : ∀ x ∈ l0, ∀ d ∈ x, d.ok) {vs1 : List Value} {d1 : List D0} (h1 : Reps w vs1 d1) (hc1 : d1.map D0.code = [.bool, .ints]) (hk1 : ∀ x ∈ d1, x.ok) :
    Ret P n_laws_FnExactStepAt [.slice p0 n0 c0, .agg ⟨vs1⟩] w fun v w' => v = .bool true ∧ Ext w w' := by
  have hr1 := h1
  obtain ⟨u10, u11p, u11n, u11c, u11z, rfl, rfl, u11h⟩ := open_Signed h1 hc1
  refine laws_FnExactStepAt_ret ?_
  unfold laws_FnExactStepAt
  have x : Ext w w := Ext.refl w
  intro r1 W1 hn1
  have y := hn1.ext
  have x := x.trans y
  have bk1 := hn1.blk
  refine Ret.at (laws_szStepS_c (h0.ext x) hc0 hk0 (by omega) (by omega)) ?_
  rintro v W2 ⟨k0, hv, hs0, hm0, y⟩
  subst hv
  have x := x.trans y
  have bk1 := bk1.ext y
  refine ⟨_, rfl, ifD (fun _ => ⟨rfl, x⟩) (fun hp0 => ?_)⟩
  refine ⟨_, _, _, _, bk1.loadA0 (by kernel_rfl), ?_⟩
  refine Ret.at (laws_szSigned_c (hr1.ext x) rfl hk1 (by omega) (by omega)) ?_
  rintro v W3 ⟨k1, hv, hs1, hm1, y⟩
  subst hv
  have x := x.trans y
  have bk1 := bk1.ext y
  refine ⟨_, rfl, ifD (fun _ => ⟨rfl, x⟩) (fun hp1 => ?_)⟩
  have hs0 := hs0 (by omega)
  have hs1 := hs1 (by omega)
  have hb0 : ∀ y ∈ l0, bulks y ≤ 1048576 := fun y hy => by have := bulks_le hy; omega
  have hz0 : n0 ≤ 1048576 := by omega
  simp only [bulks, D0.bulk, List.map_cons, List.map_nil, List.sum_cons, List.sum_nil] at hs1
  have y := Ext.drew W3
  have x := x.trans y
  have bk1 := bk1.ext y
  have bd1 := bk1
  refine Ret.at (laws_toStepS_c (h0.ext x) hc0 hz0 hb0) ?_
  rintro v W4 ⟨ps0, cs0, fs0, hv, os0, y⟩
  subst hv
  have yy := y
  have x := x.trans y
  have bk1 := bk1.ext y
  refine ⟨_, _, _, rfl, yy, ?_⟩
  refine ⟨_, _, _, _, fun W' hW => (bd1.ext hW).loadA0 (by kernel_rfl), ?_⟩
  refine Ret.at (laws_toSigned_c (hr1.ext x) rfl (by simp only [bulks, D0.bulk, List.map_cons, List.map_nil, List.sum_cons, List.sum_nil]; omega)) ?_
  rintro v W5 ⟨vs, fs1, hv, os1, nds1, y⟩
  subst hv
  obtain ⟨ts10, ts11p, ts11n, ts11c, ts11z, rfl, hds1, ts11h⟩ := open_Signed os1.reps rfl
  have yy := y
  have x := x.trans y
  have bk1 := bk1.ext y
  have os0 := os0.ext y
  refine ⟨_, _, _, _, rfl, ?_⟩
  refine Ret.at (spec_StepAt_c os0.rows hc0 os1.reps rfl) ?_
  rintro v W6 ⟨hv, y⟩
  subst hv
  have x := x.trans y
  have bk1 := bk1.ext y
  refine ⟨_, rfl, ?_⟩
  refine Ret.at (laws_toStepS_c (h0.ext x) hc0 hz0 hb0) ?_
  rintro v W7 ⟨px0, cx0, fx0, hv, ox0, y⟩
  subst hv
  have x := x.trans y
  have bk1 := bk1.ext y
  refine ⟨_, _, _, rfl, ?_⟩
  refine ⟨_, _, _, _, bk1.loadA0 (by kernel_rfl), ?_⟩
  refine Ret.at (laws_toSigned_c (hr1.ext x) rfl (by simp only [bulks, D0.bulk, List.map_cons, List.map_nil, List.sum_cons, List.sum_nil]; omega)) ?_
  rintro v W8 ⟨vs, fx1, hv, ox1, ndx1, y⟩
  subst hv
  obtain ⟨tx10, tx11p, tx11n, tx11c, tx11z, rfl, hdx1, tx11h⟩ := open_Signed ox1.reps rfl
  have x := x.trans y
  have bk1 := bk1.ext y
  have ox0 := ox0.ext y
  refine ⟨_, _, _, _, rfl, ?_⟩
  intro rx1 W9 hnx1
  obtain ⟨W10, st, bx1, ch, sz⟩ := hnx1.blk.storeA0 (P := P) (t := T_impl_Signed) (xs := [.bool tx10, .slice tx11p tx11n tx11c]) (by kernel_rfl) rfl ox1.reps.cells1
  have y := hnx1.ext.chg ch (by have := hnx1.r_eq; simp; omega)
  have x := x.trans y
  have bk1 := bk1.ext y
  have ox0 := ox0.ext y
  have ox1 := ox1.ext y
  refine ⟨_, st, ?_⟩
  refine ⟨_, _, _, _, bx1.loadA0 (by kernel_rfl), ?_⟩
  refine Ret.at (impl_StepAt_c ox0.rows hc0 ox1.reps rfl) ?_
  rintro v W11 ⟨hv, y⟩
  subst hv
  have x := x.trans y
  have bk1 := bk1.ext y
  have bx1 := bx1.ext y
  have ox0 := ox0.ext y
  have ox1 := ox1.ext y
  refine ⟨_, rfl, ⟨fun h => absurd h (by simp), fun _ => ?_⟩⟩
  refine Ret.at (laws_toStepS_c (h0.ext x) hc0 hz0 hb0) ?_
  rintro v W12 ⟨py0, cy0, fy0, hv, oy0, y⟩
  subst hv
  have y2 := y
  have x := x.trans y
  have bk1 := bk1.ext y
  have bx1 := bx1.ext y
  have ox0 := ox0.ext y
  have ox1 := ox1.ext y
  refine ⟨_, _, _, rfl, ?_⟩
  refine Ret.at (laws_eqStepS_c ox0.rows oy0.rows hc0 hc0) ?_
  rintro v W13 ⟨hv, y⟩
  subst hv
  have x := x.trans y
  have bk1 := bk1.ext y
  have bx1 := bx1.ext y
  have ox0 := ox0.ext y
  have ox1 := ox1.ext y
  refine ⟨_, rfl, ifN (fun h => absurd h (by simp)) (fun _ => ?_)⟩
  refine ⟨_, _, _, _, fun W' hW => (bx1.ext ((Ext.drew _).trans hW)).loadA0 (by kernel_rfl), _, _, _, _, fun W' hW => (bk1.ext ((Ext.drew _).trans hW)).loadA0 (by kernel_rfl), ?_⟩
  have y := Ext.drew W13
  have x := x.trans y
  have bk1 := bk1.ext y
  have bx1 := bx1.ext y
  have ox0 := ox0.ext y
  have ox1 := ox1.ext y
  refine Ret.at (laws_toSigned_c (hr1.ext x) rfl (by simp only [bulks, D0.bulk, List.map_cons, List.map_nil, List.sum_cons, List.sum_nil]; omega)) ?_
  rintro v W14 ⟨vs, fy1, hv, oy1, ndy1, y⟩
  subst hv
  obtain ⟨ty10, ty11p, ty11n, ty11c, ty11z, rfl, hdy1, ty11h⟩ := open_Signed oy1.reps rfl
  have y2 := y
  have x := x.trans y
  have bk1 := bk1.ext y
  have bx1 := bx1.ext y
  have ox0 := ox0.ext y
  have ox1 := ox1.ext y
  refine ⟨_, _, _, _, rfl, y, ?_⟩
  refine Ret.at (laws_eqSigned_c ox1.reps oy1.reps rfl rfl) ?_
  rintro v W15 ⟨hv, y⟩
  subst hv
  have x := x.trans y
  have bk1 := bk1.ext y
  have bx1 := bx1.ext y
  have ox0 := ox0.ext y
  have ox1 := ox1.ext y
  refine ⟨_, rfl, ifN (fun h => absurd h (by simp)) (fun _ => ?_)⟩
  exact ⟨rfl, x⟩
end Go.Proofs.Ytfemmmbkhhemaaa
