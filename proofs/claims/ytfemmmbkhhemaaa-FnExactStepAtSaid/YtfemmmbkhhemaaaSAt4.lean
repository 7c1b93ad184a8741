/-
  Parts of the proof of stepAt_holds: CStepAt, WStepAt, SxRow, SxOpen.
  Conditions: none.
-/
import Derived.ProofKit
import Derived.Deep.Slices
import Derived.Test.YtfemmmbkhhemaaaSAt3

namespace Go.Proofs.Ytfemmmbkhhemaaa
open Go Go.RowKit Go.Shelf Go.Proofs Go.Proofs.Ytfemmmbkhhemaaa.Sx
set_option linter.unusedVariables false
set_option linter.unusedSimpArgs false
/-- the last of the first j steps whose From is at most v -/
def lastLe (l : List (List D0)) (v : Int) : Nat → Int
  | 0 => -1
  | j + 1 => if stepFrom (l.getD j []) ≤ v then j else lastLe l v j
def lastI (l : List Nat) : Int := match l.getLast? with
  | some x => (x : Nat)
  | none => -1
theorem lastI_snoc (l : List Nat) (x : Nat) : lastI (l ++ [x]) = (x : Nat) := by simp [lastI]
def stepAt (l : List (List D0)) : List D0 → Int
  | [.bool b, .ints z] => if stepsOk l && intOk [.bool b, .ints z] then lastLe l (val z) l.length else -1
  | _ => -1
theorem upto_le (f : Nat → Bool) : ∀ n, ∃ K, K ≤ n ∧ (∀ j, j < K → f j = true) ∧ (K < n → f K = false)
  | 0 => ⟨0, Nat.le_refl _, fun j h => absurd h (by omega), fun h => absurd h (by omega)⟩
  | n + 1 => by
    obtain ⟨K, h1, h2, h3⟩ := upto_le f n
    rcases Nat.lt_or_ge K n with h | h
    · exact ⟨K, by omega, h2, fun _ => h3 h⟩
    · have : K = n := by omega
      subst this
      cases hf : f K with
      | true => exact ⟨K + 1, Nat.le_refl _, fun j hj => by
          rcases Nat.lt_or_ge j K with h | h
          · exact h2 j h
          · have : j = K := by omega
            rw [this, hf], fun h => absurd h (by omega)⟩
      | false => exact ⟨K, by omega, h2, fun _ => hf⟩
theorem cell_setCell_ne {w : World} {a b : Addr} {v : Value} (h : b.block ≠ a.block) : (w.setCell a v).cell? b = w.cell? b := by
  have : (w.setCell a v).heap[b.block]? = w.heap[b.block]? := by
    unfold World.setCell
    split <;> simp [Array.getElem?_modify, h, Ne.symm h]
  simp only [World.cell?, this]
theorem steps_up {l : List (List D0)} (hall : ∀ i < l.length, stepOk l i = true) : ∀ (i j : Nat), i ≤ j → j < l.length → stepFrom (l.getD i []) ≤ stepFrom (l.getD j []) := by
  intro i j hij
  induction j with
  | zero => intro _; have : i = 0 := by omega
            subst this; omega
  | succ j ih =>
    intro hj
    rcases Nat.lt_or_ge i (j + 1) with h | h
    · have h1 := ih (by omega) (by omega)
      have h2 := hall (j + 1) hj
      simp only [stepOk, Bool.and_eq_true, Bool.not_eq_true', Bool.and_eq_false_iff, decide_eq_false_iff_not, Nat.add_sub_cancel] at h2
      have h3 := h2.2
      rcases h3 with h3 | h3
      · omega
      · omega
    · have : i = j + 1 := by omega
      subst this; omega
theorem lastLe_range {l : List (List D0)} {n K : Nat} {v : Int} (hl : l.length = n) (hK : K ≤ n) (hK1 : ∀ j, j < K → stepFrom (l.getD j []) ≤ v) (hK2 : K < n → v < stepFrom (l.getD K [])) (h1 : 1 ≤ l.length) (h0 : stepFrom (l.getD 0 []) = 0) (hall : ∀ i < l.length, stepOk l i = true) :
    lastI (List.range K) = lastLe l v l.length := by
  have hi : lastI (List.range K) = (K : Int) - 1 := by
    cases K with
    | zero => rfl
    | succ K => rw [List.range_succ, lastI_snoc]; omega
  have key : ∀ j, K ≤ j → j ≤ l.length → lastLe l v j = (K : Int) - 1 := by
    intro j hKj
    induction j with
    | zero => intro _; have : K = 0 := by omega
              subst this; rfl
    | succ j ih =>
      intro hj
      rcases Nat.lt_or_ge K (j + 1) with h | h
      · have h2 := steps_up hall K j (by omega) (by omega)
        have h3 := hK2 (by omega)
        rw [lastLe, if_neg (by omega)]
        exact ih (by omega) (by omega)
      · have : K = j + 1 := by omega
        subst this
        rw [lastLe, if_pos (hK1 j (by omega))]
        omega
  rw [hi, key _ (by omega) (Nat.le_refl _)]
set_option maxRecDepth 100000 in
set_option maxHeartbeats 4000000 in
theorem impl_StepAt_c {w : World} {p : Option Addr} {n c : Nat} {l : List (List D0)} {xs : List Value} {dy : List D0} (h : RowsR w 4 p n c l) (hc : ∀ x ∈ l, x.map D0.code = [.int, .bool, .ints, .int]) (g : Reps w xs dy) (gc : dy.map D0.code = [.bool, .ints]) :
    Ret P n_impl_StepAt [.slice p n c, .agg ⟨xs⟩] w fun v w' => v = .int .i64 (stepAt l dy) ∧ Ext w w' := by
  obtain ⟨b0, q, m, d, z, rfl, rfl, hz⟩ := open_Signed g gc
  refine (callsIn_wide (n := 10)).1 ?_
  change CallsIn Fence.wide 10 Try.prog 9 #[.slice p n c, .agg #[.bool b0, .slice q m d]] w fun e w' => ∃ v, e = .returned v ∧ v = .int .i64 (stepAt l [.bool b0, .ints z]) ∧ Ext w w'
  have xa : ∀ o, Ext w (w.alloc o) := fun o => (Below.refl _ _).alloc (Nat.le_refl _) _
  rcases hs : stepsOk l with _ | _
  · refine callsIn_of_wp_marks Try.func9 rfl trivial ?_ rfl
    simp only [Try.ntmps9, List.size_toArray, List.length_cons, List.length_nil, Nat.reduceAdd, Nat.reduceSub, Array.replicate_succ, Array.replicate_zero, List.push_toArray, List.append_toArray, List.nil_append, List.cons_append]
    have hS : ∀ W, Ext w W → Ret P n_impl_StepsOk [.slice p n c] W fun v w' => v = .bool false ∧ Ext W w' := fun W x => by rw [← hs]; exact impl_StepsOk_c (h.ext x) hc
    gi_wp2_with (refine ⟨trivial, ?_⟩; gi_at_call 21; refine (callsIn_wide.2 (hS _ (xa _))).mono ?_; rintro e w2 ⟨v, rfl, rfl, y2⟩)
    refine ⟨trivial, ?_⟩
    gi_wp2
    exact ⟨_, results_tmp rfl _ _ _, _, rfl, by simp only [stepAt, hs, Bool.false_and, Bool.false_eq_true, if_false]; rfl, (xa _).trans y2⟩
  have hS : ∀ W, Ext w W → Ret P n_impl_StepsOk [.slice p n c] W fun v w' => v = .bool true ∧ Ext W w' := fun W x => by rw [← hs]; exact impl_StepsOk_c (h.ext x) hc
  rcases hi : intOk [.bool b0, .ints z] with _ | _
  · refine callsIn_of_wp_marks Try.func9 rfl trivial ?_ rfl
    simp only [Try.ntmps9, List.size_toArray, List.length_cons, List.length_nil, Nat.reduceAdd, Nat.reduceSub, Array.replicate_succ, Array.replicate_zero, List.push_toArray, List.append_toArray, List.nil_append, List.cons_append]
    have hI : ∀ W, Ext w W → Ret P n_impl_IntOk [.agg ⟨[.bool b0, .slice q m d]⟩] W fun v w' => v = .bool false ∧ Ext W w' := fun W x => by rw [← hi]; exact impl_IntOk_c (g.ext x) gc
    have bx := (New.blk (w := w) ⟨rfl, rfl⟩ : Blk (w.alloc (.cells ⟨[.bool b0, .slice q m d]⟩ 31)) w.heap.size 31 [.bool b0, .slice q m d])
    gi_wp2_with (first
      | (refine ⟨trivial, ?_⟩; gi_at_call 21; refine (callsIn_wide.2 (hS _ (xa _))).mono ?_; rintro e w2 ⟨v, rfl, rfl, y2⟩
         have bx2 := bx.ext y2
         have c0 := bx2.cell 0
         have c1 := bx2.cell 1
         simp only [List.getElem?_cons_zero, List.getElem?_cons_succ] at c0 c1)
      | (refine ⟨trivial, ?_⟩; gi_at_call 22; refine (callsIn_wide.2 (hI _ ((xa _).trans y2))).mono ?_; rintro e w3 ⟨v, rfl, rfl, y3⟩))
    exact ⟨_, results_tmp rfl _ _ _, _, rfl, by simp only [stepAt, hs, hi, Bool.and_false, Bool.false_eq_true, if_false]; rfl, ((xa _).trans y2).trans y3⟩
  have hI : ∀ W, Ext w W → Ret P n_impl_IntOk [.agg ⟨[.bool b0, .slice q m d]⟩] W fun v w' => v = .bool true ∧ Ext W w' := fun W x => by rw [← hi]; exact impl_IntOk_c (g.ext x) gc
  have hval : stepAt l [.bool b0, .ints z] = lastLe l (val z) l.length := by simp only [stepAt, hs, hi, Bool.and_self, if_true]
  rw [hval]
  have hcan : Canon z := by
    obtain ⟨_, b', z', he, hcan, _⟩ := intOk_enc hi
    simp only [List.cons.injEq, D0.bool.injEq, D0.ints.injEq, and_true] at he
    obtain ⟨_, rfl⟩ := he
    exact hcan
  have hln := h.1
  simp only [stepsOk, Bool.and_eq_true, decide_eq_true_eq, List.all_eq_true, List.mem_range] at hs
  obtain ⟨⟨⟨hn1, hn8⟩, hz0⟩, hall⟩ := hs
  obtain ⟨b, off, rfl, hrows⟩ := h.2.2.2 (by omega)
  have hF : ∀ j, j < n → 0 ≤ stepFrom (l.getD j []) ∧ stepFrom (l.getD j []) ≤ 9223372036854775807 := fun j hj => by
    have := hall j (by omega)
    simp only [stepOk, Bool.and_eq_true, decide_eq_true_eq] at this
    omega
  have hpick : ∀ j, ∃ t : Bool × Option Addr × Nat × Nat × Int, j < n → w.cell? ⟨b, off + j * 4, none⟩ = some (.int .i64 (stepFrom (l.getD j []))) ∧ w.cell? ⟨b, off + j * 4 + 1, none⟩ = some (.bool t.1) ∧ w.cell? ⟨b, off + j * 4 + 2, none⟩ = some (.slice t.2.1 t.2.2.1 t.2.2.2.1) ∧ w.cell? ⟨b, off + j * 4 + 3, none⟩ = some (.int .i64 t.2.2.2.2) := by
    intro j
    rcases Nat.lt_or_ge j n with hj | hj
    · have hjl : j < l.length := by omega
      obtain ⟨cs, h1, h2, h3⟩ := hrows j _ (List.getElem?_eq_getElem hjl)
      obtain ⟨a0, a1, a2p, a2n, a2c, a2z, a3, rfl, he, _⟩ := open_Step h2 (hc _ (List.getElem_mem hjl))
      have hfr : stepFrom (l.getD j []) = a0 := by rw [getD_lt hjl, he]; rfl
      exact ⟨(a1, a2p, a2n, a2c, a3), fun _ => ⟨by rw [hfr]; exact h3 0 _ rfl, h3 1 _ rfl, h3 2 _ rfl, h3 3 _ rfl⟩⟩
    · exact ⟨(false, none, 0, 0, 0), fun h => absurd h (by omega)⟩
  obtain ⟨t, ht⟩ := Classical.axiomOfChoice hpick
  have hb : b < w.heap.size := cell_lt (ht 0 (by omega)).1
  obtain ⟨K, hK, hK1, hK2⟩ := upto_le (fun j => decide (stepFrom (l.getD j []) ≤ val z)) n
  have hcmpv : ∀ j, j < n → (cmpL (digs (stepFrom (l.getD j [])).toNat) z ≤ 0 ↔ stepFrom (l.getD j []) ≤ val z) := fun j hj => by
    have h0 := (hF j hj).1
    have hv : val (digs (stepFrom (l.getD j [])).toNat) = stepFrom (l.getD j []) := by rw [val_digs, Int.toNat_of_nonneg h0]
    rcases cmpL_val (digs_canon (stepFrom (l.getD j [])).toNat) hcan with ⟨e, g⟩ | ⟨e, g⟩ | ⟨e, g⟩ <;> rw [hv] at g <;> omega
  refine callsIn_of_wp_marks Try.func9 rfl trivial ?_ rfl
  simp only [Try.ntmps9, List.size_toArray, List.length_cons, List.length_nil, Nat.reduceAdd, Nat.reduceSub, Array.replicate_succ, Array.replicate_zero, List.push_toArray, List.append_toArray, List.nil_append, List.cons_append]
  have bx := (New.blk (w := w) ⟨rfl, rfl⟩ : Blk (w.alloc (.cells ⟨[.bool b0, .slice q m d]⟩ 31)) w.heap.size 31 [.bool b0, .slice q m d])
  gi_wp2_with (first
    | (refine ⟨trivial, ?_⟩; gi_at_call 21; refine (callsIn_wide.2 (hS _ (xa _))).mono ?_; rintro e w2 ⟨v, rfl, rfl, y2⟩
       have bx2 := bx.ext y2
       have c0 := bx2.cell 0
       have c1 := bx2.cell 1
       simp only [List.getElem?_cons_zero, List.getElem?_cons_succ] at c0 c1)
    | (refine ⟨trivial, ?_⟩; gi_at_call 22; refine (callsIn_wide.2 (hI _ ((xa _).trans y2))).mono ?_; rintro e w3 ⟨v, rfl, rfl, y3⟩
       have bx3 := bx2.ext y3
       have d1 := bx3.cell 1
       simp only [List.getElem?_cons_zero, List.getElem?_cons_succ] at d1
       have hlt := bx3.lt)
    | (refine ⟨trivial, ?_⟩; gi_at_call 23; refine (stepsTo_in _ _ _ _ _ _ _).mono ?_; rintro e w' ⟨rfl, rfl⟩))
  have bR := Boxed.new w3 3 (.int .i64 (-1))
  have bN := Boxed.new (w3.alloc (.cells #[.int .i64 (-1)] 3)) 29 (.slice (some ⟨b, off, none⟩) n c)
  have bM := Boxed.new ((w3.alloc (.cells #[.int .i64 (-1)] 3)).alloc (.cells #[.slice (some ⟨b, off, none⟩) n c] 29)) 23 (.slice q m d)
  rw [World.size_alloc] at bN
  rw [World.size_alloc, World.size_alloc] at bM
  have xw3 : Ext w w3 := ((xa _).trans y2).trans y3
  have hle3 := xw3.le
  have hB0 : Below w.heap.size w (((w3.alloc (.cells #[.int .i64 (-1)] 3)).alloc (.cells #[.slice (some ⟨b, off, none⟩) n c] 29)).alloc (.cells #[.slice q m d] 23)) := (((xw3 : Below _ _ _).alloc hle3 _).alloc (by simp; omega) _).alloc (by simp; omega) _
  refine wpIn_rangeFunc_ownG (α := Nat) (n := 10) rfl (by omega) (gf := 36) (lb := #[.pointer (some ⟨w3.heap.size + 1, 0, none⟩), .pointer (some ⟨w3.heap.size + 1 + 1, 0, none⟩)]) rfl trivial (enters_of Try.func36 (by kernel_rfl) rfl)
    (encs := fun x => #[.int .i64 (x : Nat), .agg #[.int .i64 (stepFrom (l.getD x [])), .bool (t x).1, .slice (t x).2.1 (t x).2.2.1 (t x).2.2.2.1, .int .i64 (t x).2.2.2.2]])
    (Kp := fun A B => Below w.heap.size A B ∧ B.cell? ⟨w3.heap.size + 1 + 1, 0, none⟩ = A.cell? ⟨w3.heap.size + 1 + 1, 0, none⟩) (S := fun ys => ys = List.range K) (Sp := fun _ => True) (N := n)
    (fun l' J Jx W hW hJ _ hY h0 => stepsTo1_in l' (w3.heap.size + 1) (w3.heap.size + 1 + 1) b off n c q m d K z w (fun j => stepFrom (l.getD j [])) (fun j => (t j).1) (fun j => (t j).2.1) (fun j => (t j).2.2.1) (fun j => (t j).2.2.2.1) (fun j => (t j).2.2.2.2)
      (by omega) hz ht hb hcan hF hK (fun j hj => (hcmpv j (by omega)).2 (by simpa using hK1 j hj)) (fun hKn => by
        have h1 := hK2 hKn
        have h2 := (hcmpv K hKn).1
        simp only [decide_eq_false_iff_not] at h1
        omega)
      J Jx hY W hJ (Below.trans hB0 (hW.mono hB0.size)) ((hW.cell (p := ⟨w3.heap.size + 1, 0, none⟩) (by simp)).trans (bN.alloc _).cell) ((hW.cell (p := ⟨w3.heap.size + 1 + 1, 0, none⟩) (by simp)).trans bM.cell) h0)
    (fun h k => ⟨h.1.trans k.1, k.2.trans h.2⟩) (fun W l o o' hl ho hc _ => ⟨belowK_b (w := (((w3.alloc (.cells #[.int .i64 (-1)] 3)).alloc (.cells #[.slice (some ⟨b, off, none⟩) n c] 29)).alloc (.cells #[.slice q m d] 23))) (by simp; omega) W l o o' hl ho hc (by assumption), (belowK_b (n₀ := w3.heap.size + 3) (w := (((w3.alloc (.cells #[.int .i64 (-1)] 3)).alloc (.cells #[.slice (some ⟨b, off, none⟩) n c] 29)).alloc (.cells #[.slice q m d] 23))) (by simp) W l o o' hl ho hc (by assumption)).cell (p := ⟨w3.heap.size + 1 + 1, 0, none⟩) (by simp)⟩) (Below.refl _ _) (fun _ => rfl)
    (fun pre W => (W.cell? ⟨w3.heap.size, 0, none⟩ = some (.int .i64 (lastI pre)) ∧ W.frozen? ⟨w3.heap.size, 0, none⟩ = false) ∧ Below w.heap.size w W)
    (fun _ _ _ => False)
    (OwnFrom.and (Own.from (fun s A B row hs hg hr => ⟨cell_kept hs.1 hg hr, (frozen_kept hs.1 hg hr).trans hs.2⟩) _) (ownFrom_below (Nat.le_refl _) (by simp; omega)))
    (fun _ _ _ _ _ hs _ _ => hs)
    ⟨⟨((bR.alloc _).alloc _).cell, ((bR.alloc _).alloc _).frozen⟩, hB0⟩
    (fun x => { tmps := #[.slice (some ⟨b, off, none⟩) n c, .agg #[.bool b0, .slice q m d], undef, .pointer (some ⟨w.heap.size, 0, none⟩), .int .i64 0, .pointer (some ⟨w3.heap.size, 0, none⟩), .int .i64 (x : Nat),
      .slice (some ⟨b, off, none⟩) n c, .bool true, .bool false, .bool false, .agg #[.bool b0, .slice q m d], .bool true, .bool false, .bool false, .slice (some ⟨b, off, none⟩) n c, .pointer (some ⟨w.heap.size, 1, none⟩), .slice q m d,
      .func (.func 36) #[] #[.pointer (some ⟨w3.heap.size + 1, 0, none⟩), .pointer (some ⟨w3.heap.size + 1 + 1, 0, none⟩)], .int .i64 (x : Nat), .agg #[.int .i64 (stepFrom (l.getD x [])), .bool (t x).1, .slice (t x).2.1 (t x).2.2.1 (t x).2.2.2.1, .int .i64 (t x).2.2.2.2], undef, undef], defers := [] }) ?assign ?body ?done ?stop
  case assign =>
    intro l' x W Kk hK
    gi_wp2_with (simp [Oper.semAt_some, go_sem])
    exact hK
  case body =>
    rintro l' pre x W ⟨⟨hcr, hfr⟩, hB⟩ _
    gi_wp2_with (simp [Oper.semAt_some, go_sem, hcr, hfr])
    refine ⟨(KeepsOthers.setCell _ _ _).from _, ⟨(Below.refl w.heap.size W).setCell (p := ⟨w3.heap.size, 0, none⟩) hle3 _, cell_setCell_ne (show w3.heap.size + 1 + 1 ≠ w3.heap.size by omega)⟩, ⟨by rw [lastI_snoc]; exact World.cell?_setCell_same' _ _ _ (by rw [hcr]; rfl), by rw [World.frozen?_setCell]; exact hfr⟩, hB.setCell (p := ⟨w3.heap.size, 0, none⟩) hle3 _⟩
  case done =>
    rintro D ys W hD rfl ⟨⟨hcr, hfr⟩, hB⟩ hK'
    gi_wp2
    refine ⟨by simp, .inl ⟨_, _, rfl, run_takeDeferred hK', ?_⟩⟩
    exact ⟨_, results_tmp rfl _ _ _, _, rfl, by rw [← lastLe_range hln hK (fun j hj => by simpa using hK1 j hj) (fun hKn => by simpa using hK2 hKn) hn1 hz0 hall]; rfl, hB.trans (belowK_b (w := w) (Nat.le_refl _) W D _ _ (by simp at hD; omega) hK' rfl rfl)⟩
  case stop =>
    rintro D c' pre W hD _ hf _
    exact hf.elim
theorem spec_IntAbs_n {w : World} {xs : List Value} {b : Bool} {z : List Int} (h : Reps w xs [.bool b, .ints z]) (hok : intOk [.bool b, .ints z] = true) (hz : Canon z) :
    Ret P n_spec_IntAbs [.agg ⟨xs⟩] w fun v w' => ∃ vs f, v = .agg ⟨vs⟩ ∧ Owns w' w.heap.size vs (enc (val z)) f ∧ f.Nodup ∧ Ext w w' := by
  have hr := h
  obtain ⟨a0, ap, an, ac, az, rfl, hd, ha⟩ := open_Signed h rfl
  cases hd
  refine spec_IntAbs_ret ?_
  unfold spec_IntAbs
  intro r w1 hn1 r1 w2 hn2
  have e1 := hn1.r_eq; have e2 := hn2.r_eq; have z1 := hn1.size; have z2 := hn2.size
  have X := hn1.ext.trans hn2.ext
  have q0 := hn1.blk.ext hn2.ext; have q1 := hn2.blk
  refine ⟨_, _, _, _, q0.loadA0 (by kernel_rfl), ?_⟩
  refine Ret.at (spec_IntOk_c (hr.ext X) rfl) ?_
  rintro v w3 ⟨hv, y3⟩
  subst hv
  rw [hok]
  refine ⟨_, rfl, ifN (fun hh => absurd hh (by simp)) (fun _ => ⟨_, _, _, (q0.ext y3).loadAt 1 rfl (by kernel_rfl) rfl, ?_⟩)⟩
  refine Ret.at (spec_l04Make_c (ha.ext (X.trans y3)) hz.1) ?_
  rintro v w4 ⟨bq, p5, n5, c5, hv, hbq, own5, y4⟩
  subst hv
  have hv0 := val_nonneg hz.1
  have hlen : z.length ≤ 50 := by
    obtain ⟨_, b', z', he, _, hl⟩ := intOk_enc hok
    simp only [List.cons.injEq, D0.bool.injEq, D0.ints.injEq, and_true] at he
    obtain ⟨_, rfl⟩ := he
    exact hl
  have hdz : digs (val z).toNat = z := digs_val hz
  have hcap : capL (digs (val z).toNat) = digs (val z).natAbs := by
    rw [show (val z).natAbs = (val z).toNat by omega, hdz]
    unfold capL
    rw [if_pos hlen]
  rw [hcap] at own5
  have hbq' : bq = decide (val z < 0) := by rw [hbq, Bool.false_and, decide_eq_false (by omega)]
  subst hbq'
  have l3 := y3.le
  have o5 : Owns w4 w3.heap.size [.bool (decide (val z < 0)), .slice p5 n5 c5] (enc (val z)) (p5.map (·.block)).toList := Owns.int2 (b := decide (val z < 0)) own5
  obtain ⟨W', st', hb', ch, _⟩ := ((q1.ext y3).ext y4).storeA0 (P := P) (t := T_impl_Signed) (xs := [.bool (decide (val z < 0)), .slice p5 n5 c5]) (by kernel_rfl) rfl (by simp [Value.oneCell'])
  exact ⟨_, _, _, _, rfl, W', st', _, _, _, _, hb'.loadA0 (by kernel_rfl), _, _, rfl, (o5.chg1 ch (by omega)).mono (by omega), nodup_opt p5, ((X.trans y3).trans y4).chg ch (by simp; omega)⟩
theorem spec_StepAt_c {w : World} {p : Option Addr} {n c : Nat} {l : List (List D0)} {xs : List Value} {dy : List D0} (h : RowsR w 4 p n c l) (hc : ∀ x ∈ l, x.map D0.code = [.int, .bool, .ints, .int]) (g : Reps w xs dy) (gc : dy.map D0.code = [.bool, .ints]) :
    Ret P n_spec_StepAt [.slice p n c, .agg ⟨xs⟩] w fun v w' => v = .int .i64 (stepAt l dy) ∧ Ext w w' := by
  have hln := h.1
  have gr := g
  obtain ⟨b0, q, m, d, z, rfl, rfl, hz⟩ := open_Signed g gc
  refine spec_StepAt_ret ?_
  unfold spec_StepAt
  intro r w1 hn1
  have q0 := hn1.blk
  refine Ret.at (spec_StepsOk_c (h.ext hn1.ext) hc) ?_
  rintro v w2 ⟨hv, y2⟩
  subst hv
  have X2 := hn1.ext.trans y2
  refine ⟨_, rfl, ifN (fun hno => ifT ⟨by simp only [stepAt, hno, Bool.false_and, Bool.false_eq_true, if_false], X2⟩) (fun hs => ⟨_, _, _, _, (q0.ext y2).loadA0 (by kernel_rfl), ?_⟩)⟩
  refine Ret.at (spec_IntOk_c (gr.ext X2) rfl) ?_
  rintro v w3 ⟨hv, y3⟩
  subst hv
  have X3 := X2.trans y3
  refine ⟨_, rfl, ifN (fun hno => ⟨by simp only [stepAt, hno, Bool.and_false, Bool.false_eq_true, if_false], X3⟩) (fun hi => ?_)⟩
  have hval : stepAt l [.bool b0, .ints z] = lastLe l (val z) l.length := by simp only [stepAt, hs, hi, Bool.and_self, if_true]
  rw [hval]
  obtain ⟨hcan, hz50⟩ : Canon z ∧ z.length ≤ 50 := by
    obtain ⟨_, b', z', he, hcan, hl⟩ := intOk_enc hi
    simp only [List.cons.injEq, D0.bool.injEq, D0.ints.injEq, and_true] at he
    obtain ⟨_, rfl⟩ := he
    exact ⟨hcan, hl⟩
  have hv0 := val_nonneg hcan.1
  have hdz : digs (val z).toNat = z := digs_val hcan
  have hokz : intOk (enc (val z)) = true := enc_ok (by rw [show (val z).natAbs = (val z).toNat by omega, hdz]; exact hz50)
  simp only [stepsOk, Bool.and_eq_true, decide_eq_true_eq, List.all_eq_true, List.mem_range] at hs
  obtain ⟨⟨⟨hn1', hn8⟩, hz0⟩, hall⟩ := hs
  obtain ⟨b, off, hp, hrows⟩ := h.2.2.2 (by omega)
  subst hp
  have hF : ∀ j, j < n → 0 ≤ stepFrom (l.getD j []) ∧ stepFrom (l.getD j []) ≤ 1000000000 := fun j hj => by
    have := hall j (by omega)
    simp only [stepOk, Bool.and_eq_true, decide_eq_true_eq] at this
    omega
  have first : ∀ i (hi : i < l.length), ∀ W, Ext w W → Loads P T_int (((⟨b, off, none⟩ : Addr).add (i * 4)).add 0) (.int .i64 (stepFrom (l.getD i []))) W := by
    intro i hi W hW
    obtain ⟨cs, hk, hr, hsg⟩ := hrows i _ (List.getElem?_eq_getElem hi)
    obtain ⟨a0, a1, a2p, a2n, a2c, a2z, a3, rfl, hd, _⟩ := open_Step hr (hc _ (List.getElem_mem hi))
    rw [getD_lt hi, hd]
    exact (hsg.ext hW).loadAt 0 (by simp [Addr.add]) (by kernel_rfl) rfl
  unfold spec_StepAt_j0
  refine exW ⟨by omega, by omega⟩ ⟨fun k wr => ∃ j : Nat, k = j ∧ j < n ∧ Ext w3 wr ∧ lastLe l (val z) l.length = lastLe l (val z) (j + 1), fun k _ => k.toNat, ⟨n - 1, by omega, by omega, Ext.refl _, by rw [hln, show n - 1 + 1 = n by omega]⟩, ?_⟩
  intro junk wr k ⟨j, hkj, hj, hx, hlast⟩
  subst hkj
  have XR := X3.trans hx
  have D := Ext.drew wr
  have XD := XR.trans D
  obtain ⟨f0, f1⟩ := hF j hj
  refine ⟨⟨by omega, by omega⟩, _, fun W hW => first j (by omega) W (XD.trans hW), ?_⟩
  refine Ret.at (spec_IntOf_c (n := stepFrom (l.getD j [])) (by omega) (by omega)) ?_
  rintro v w4 ⟨vs4, f4, hv, ho4, _, y4⟩
  subst hv
  obtain ⟨g0, gp, gn, gc', gz, rfl, _, _⟩ := open_Signed ho4.reps (enc_code _)
  refine ⟨_, _, _, _, rfl, y4, _, _, _, _, fun W hW => ((((q0.ext y2).ext y3).ext hx).ext (D.trans hW)).loadA0 (by kernel_rfl), ?_⟩
  refine Ret.at (spec_IntAbs_n (gr.ext (XD.trans y4)) hi hcan) ?_
  rintro v w5 ⟨vs5, f5, hv, ho5, _, y5⟩
  subst hv
  obtain ⟨u0, up, un, uc, uz, rfl, _, _⟩ := open_Signed ho5.reps (enc_code _)
  refine ⟨_, _, _, _, rfl, ?_⟩
  refine Ret.at (spec_IntCmp_c (ho4.reps.ext y5) ho5.reps (enc_code _) (enc_code _)) ?_
  rintro v w6 ⟨hv, y6⟩
  subst hv
  have hokf : intOk (enc (stepFrom (l.getD j []))) = true := by
    have h9 : (1000000000 : Nat) ^ 2 = 1000000000000000000 := by decide
    have h8 := digs_len (n := (stepFrom (l.getD j [])).natAbs) 2 (by omega)
    exact enc_ok (by omega)
  rw [icmp_enc hokf hokz]
  have Y := (D.trans y4).trans (y5.trans y6)
  refine ⟨_, rfl, ifD (fun hlt => ?_) (fun hge => ⟨?_, XR.trans Y⟩)⟩
  · have hgt : 0 < stepFrom (l.getD j []) - val z := by
      have := hlt; unfold sgn at this; split at this <;> (try split at this) <;> omega
    have hj0 : j ≠ 0 := fun e => by subst e; omega
    refine exW ⟨by omega, by omega⟩ ⟨⟨j - 1, by omega, by omega, hx.trans Y, ?_⟩, ?_⟩
    · rw [hlast, lastLe, if_neg (by omega), show j - 1 + 1 = j by omega]
    · show ((j : Int) - 1).toNat < (j : Int).toNat
      omega
  · have hle : ¬ 0 < stepFrom (l.getD j []) - val z := fun h => hge (by unfold sgn; split <;> (try split) <;> omega)
    rw [hlast, lastLe, if_pos (by omega)]
end Go.Proofs.Ytfemmmbkhhemaaa

namespace Go.Proofs.Ytfemmmbkhhemaaa
open Go Go.Proofs.Ytfemmmbkhhemaaa.Sx
set_option linter.unusedVariables false
set_option linter.unusedSimpArgs false
theorem laws_FnExactStepAt_c {w : World} {p0 : Option Addr} {n0 c0 : Nat} {l0 : List (List D0)} (h0 : RowsR w 4 p0 n0 c0 l0) (hc0 : ∀ x ∈ l0, x.map D0.code = [.int, .bool, .ints, .int]) (hk0 : ∀ x ∈ l0, ∀ d ∈ x, d.ok) {vs1 : List Value} {d1 : List D0} (h1 : Reps w vs1 d1) (hc1 : d1.map D0.code = [.bool, .ints]) (hk1 : ∀ x ∈ d1, x.ok) :
    Ret P n_laws_FnExactStepAt [.slice p0 n0 c0, .agg ⟨vs1⟩] w fun v w' => v = .bool true ∧ Ext w w' := by
  have hr1 := h1
  obtain ⟨u10, u11p, u11n, u11c, u11z, rfl, rfl, u11h⟩ := open_Signed h1 hc1
  refine laws_FnExactStepAt_ret ?_
  unfold laws_FnExactStepAt
  have x : Ext w w := Ext.refl w
  intro r1 W1 hn1
  have y := hn1.ext
  have x := x.trans y
  have bk1 := hn1.blk
  refine Ret.at (laws_szStepS_c (h0.ext x) hc0 hk0 (by omega) (by omega)) ?_
  rintro v W2 ⟨k0, hv, hs0, hm0, y⟩
  subst hv
  have x := x.trans y
  have bk1 := bk1.ext y
  refine ⟨_, rfl, ifD (fun _ => ⟨rfl, x⟩) (fun hp0 => ?_)⟩
  refine ⟨_, _, _, _, bk1.loadA0 (by kernel_rfl), ?_⟩
  refine Ret.at (laws_szSigned_c (hr1.ext x) rfl hk1 (by omega) (by omega)) ?_
  rintro v W3 ⟨k1, hv, hs1, hm1, y⟩
  subst hv
  have x := x.trans y
  have bk1 := bk1.ext y
  refine ⟨_, rfl, ifD (fun _ => ⟨rfl, x⟩) (fun hp1 => ?_)⟩
  have hs0 := hs0 (by omega)
  have hs1 := hs1 (by omega)
  have hb0 : ∀ y ∈ l0, bulks y ≤ 1048576 := fun y hy => by have := bulks_le hy; omega
  have hz0 : n0 ≤ 1048576 := by omega
  simp only [bulks, D0.bulk, List.map_cons, List.map_nil, List.sum_cons, List.sum_nil] at hs1
  have y := Ext.drew W3
  have x := x.trans y
  have bk1 := bk1.ext y
  have bd1 := bk1
  refine Ret.at (laws_toStepS_c (h0.ext x) hc0 hz0 hb0) ?_
  rintro v W4 ⟨ps0, cs0, fs0, hv, os0, y⟩
  subst hv
  have yy := y
  have x := x.trans y
  have bk1 := bk1.ext y
  refine ⟨_, _, _, rfl, yy, ?_⟩
  refine ⟨_, _, _, _, fun W' hW => (bd1.ext hW).loadA0 (by kernel_rfl), ?_⟩
  refine Ret.at (laws_toSigned_c (hr1.ext x) rfl (by simp only [bulks, D0.bulk, List.map_cons, List.map_nil, List.sum_cons, List.sum_nil]; omega)) ?_
  rintro v W5 ⟨vs, fs1, hv, os1, nds1, y⟩
  subst hv
  obtain ⟨ts10, ts11p, ts11n, ts11c, ts11z, rfl, hds1, ts11h⟩ := open_Signed os1.reps rfl
  have yy := y
  have x := x.trans y
  have bk1 := bk1.ext y
  have os0 := os0.ext y
  refine ⟨_, _, _, _, rfl, ?_⟩
  refine Ret.at (spec_StepAt_c os0.rows hc0 os1.reps rfl) ?_
  rintro v W6 ⟨hv, y⟩
  subst hv
  have x := x.trans y
  have bk1 := bk1.ext y
  refine ⟨_, rfl, ?_⟩
  refine Ret.at (laws_toStepS_c (h0.ext x) hc0 hz0 hb0) ?_
  rintro v W7 ⟨px0, cx0, fx0, hv, ox0, y⟩
  subst hv
  have x := x.trans y
  have bk1 := bk1.ext y
  refine ⟨_, _, _, rfl, ?_⟩
  refine ⟨_, _, _, _, bk1.loadA0 (by kernel_rfl), ?_⟩
  refine Ret.at (laws_toSigned_c (hr1.ext x) rfl (by simp only [bulks, D0.bulk, List.map_cons, List.map_nil, List.sum_cons, List.sum_nil]; omega)) ?_
  rintro v W8 ⟨vs, fx1, hv, ox1, ndx1, y⟩
  subst hv
  obtain ⟨tx10, tx11p, tx11n, tx11c, tx11z, rfl, hdx1, tx11h⟩ := open_Signed ox1.reps rfl
  have x := x.trans y
  have bk1 := bk1.ext y
  have ox0 := ox0.ext y
  refine ⟨_, _, _, _, rfl, ?_⟩
  intro rx1 W9 hnx1
  obtain ⟨W10, st, bx1, ch, sz⟩ := hnx1.blk.storeA0 (P := P) (t := T_impl_Signed) (xs := [.bool tx10, .slice tx11p tx11n tx11c]) (by kernel_rfl) rfl ox1.reps.cells1
  have y := hnx1.ext.chg ch (by have := hnx1.r_eq; simp; omega)
  have x := x.trans y
  have bk1 := bk1.ext y
  have ox0 := ox0.ext y
  have ox1 := ox1.ext y
  refine ⟨_, st, ?_⟩
  refine ⟨_, _, _, _, bx1.loadA0 (by kernel_rfl), ?_⟩
  refine Ret.at (impl_StepAt_c ox0.rows hc0 ox1.reps rfl) ?_
  rintro v W11 ⟨hv, y⟩
  subst hv
  have x := x.trans y
  have bk1 := bk1.ext y
  have bx1 := bx1.ext y
  have ox0 := ox0.ext y
  have ox1 := ox1.ext y
  refine ⟨_, rfl, ⟨fun h => absurd h (by simp), fun _ => ?_⟩⟩
  refine Ret.at (laws_toStepS_c (h0.ext x) hc0 hz0 hb0) ?_
  rintro v W12 ⟨py0, cy0, fy0, hv, oy0, y⟩
  subst hv
  have y2 := y
  have x := x.trans y
  have bk1 := bk1.ext y
  have bx1 := bx1.ext y
  have ox0 := ox0.ext y
  have ox1 := ox1.ext y
  refine ⟨_, _, _, rfl, ?_⟩
  refine Ret.at (laws_eqStepS_c ox0.rows oy0.rows hc0 hc0) ?_
  rintro v W13 ⟨hv, y⟩
  subst hv
  have x := x.trans y
  have bk1 := bk1.ext y
  have bx1 := bx1.ext y
  have ox0 := ox0.ext y
  have ox1 := ox1.ext y
  refine ⟨_, rfl, ifN (fun h => absurd h (by simp)) (fun _ => ?_)⟩
  refine ⟨_, _, _, _, fun W' hW => (bx1.ext ((Ext.drew _).trans hW)).loadA0 (by kernel_rfl), _, _, _, _, fun W' hW => (bk1.ext ((Ext.drew _).trans hW)).loadA0 (by kernel_rfl), ?_⟩
  have y := Ext.drew W13
  have x := x.trans y
  have bk1 := bk1.ext y
  have bx1 := bx1.ext y
  have ox0 := ox0.ext y
  have ox1 := ox1.ext y
  refine Ret.at (laws_toSigned_c (hr1.ext x) rfl (by simp only [bulks, D0.bulk, List.map_cons, List.map_nil, List.sum_cons, List.sum_nil]; omega)) ?_
  rintro v W14 ⟨vs, fy1, hv, oy1, ndy1, y⟩
  subst hv
  obtain ⟨ty10, ty11p, ty11n, ty11c, ty11z, rfl, hdy1, ty11h⟩ := open_Signed oy1.reps rfl
  have y2 := y
  have x := x.trans y
  have bk1 := bk1.ext y
  have bx1 := bx1.ext y
  have ox0 := ox0.ext y
  have ox1 := ox1.ext y
  refine ⟨_, _, _, _, rfl, y, ?_⟩
  refine Ret.at (laws_eqSigned_c ox1.reps oy1.reps rfl rfl) ?_
  rintro v W15 ⟨hv, y⟩
  subst hv
  have x := x.trans y
  have bk1 := bk1.ext y
  have bx1 := bx1.ext y
  have ox0 := ox0.ext y
  have ox1 := ox1.ext y
  refine ⟨_, rfl, ifN (fun h => absurd h (by simp)) (fun _ => ?_)⟩
  exact ⟨rfl, x⟩
end Go.Proofs.Ytfemmmbkhhemaaa

namespace Go.Proofs.Ytfemmmbkhhemaaa.Sx
open Go Go.RowKit Go.ChangeShapes Go.WideShapes
set_option linter.unusedVariables false
set_option linter.unusedSimpArgs false
/-- each named variable's type can be read and is a row of the table -/
def rowedV (P : Program) (ns : List String) : Bool := ns.all fun n => ((P.globalNamed n).bind (P.globals[·]?)).all fun gl => P.readableRec gl.type && decide (gl.type < P.types.size)
section
variable {H : Type} {enc : TypeId × Value → H} {P : Program}
theorem trodAll_ext (hl : laidOutB P = true) {W W' : World} (hb : Ext W W') (sp' : Nat → Bool) : ∀ {ts : List TypeId} {vs : List Value} {ds : List (DataW H)} {ps : List MemPlace},
    (∀ t ∈ ts, P.readableRec t = true ∧ t < P.types.size) → (∀ p ∈ ps, p.block < W.heap.size) → (∀ p ∈ ps, sp' p.block = true) →
    DataW.TrodAll enc P W 0 (fun _ => true) true ts vs ds ps → DataW.TrodAll enc P W' 0 sp' true ts vs ds ps
  | [], _, _, _, _, _, _, h => by
    obtain ⟨rfl, rfl, rfl⟩ := trodAll_nil h
    exact rfl
  | t :: ts, _, _, _, hr, hlt, hsp, h => by
    obtain ⟨v, vs1, d, ds1, a, b, rfl, rfl, rfl, h1, h2⟩ := trodAll_cons h
    have hrt := hr t (by simp)
    exact ⟨a, b, WideElems.Trod_stays hl hrt.1 hrt.2 h1 (fun x hx => Below.same hb (hlt x (by simp [hx]))) (fun x hx => hsp x (by simp [hx])),
      trodAll_ext hl hb sp' (fun u hu => hr u (by simp [hu])) (fun x hx => hlt x (by simp [hx])) (fun x hx => hsp x (by simp [hx])) h2, rfl⟩
theorem trodVars_sp (hl : laidOutB P = true) {W W' : World} (hb : Ext W W') (sp' : Nat → Bool) :
    ∀ {ns : List String} {gs : List (DataW H)} {ps : List MemPlace}, rowedV P ns = true → (∀ p ∈ ps, sp' p.block = true) → DataW.TrodVars enc P W (fun _ => true) ns gs ps → DataW.TrodVars enc P W' sp' ns gs ps
  | [], [], _, _, _, h => h
  | [], _ :: _, _, _, _, h => h.elim
  | _ :: _, [], _, _, _, h => h.elim
  | n :: ns, d :: ds, ps, hv, hsp, h => by
    have hlt := h.lt
    obtain ⟨g, t, cs, fuel, p, q, h1, h2, h3, h4, hs, e⟩ := h
    simp only [rowedV, List.all_cons, Bool.and_eq_true] at hv
    have ht : P.readableRec t = true ∧ t < P.types.size := by
      have := hv.1
      rw [h1] at this
      cases hg : P.globals[g]? with
      | none => rw [hg] at h2; cases h2
      | some gl =>
        rw [hg] at h2
        obtain rfl : gl.type = t := Option.some.inj h2
        simpa [hg] using this
    have hp : ∀ x ∈ p, x.block < W.heap.size := fun x hx => hlt x (by rw [e]; simp [hx])
    have h3' : W'.var? P n = some cs := by
      unfold World.var? at h3 ⊢
      rw [h1] at h3 ⊢
      simp only [Option.bind_some] at h3 ⊢
      have hg : g < W.heap.size := by
        cases hh : W.heap[g]? with
        | none => rw [hh] at h3; cases h3
        | some o => exact (Array.getElem?_eq_some_iff.1 hh).1
      rw [hb.block g hg]; exact h3
    exact ⟨g, t, cs, fuel, p, q, h1, h2, h3', DataW.trod_stays (kids_book hl ht.1) (book_sized ht.1) (fun h => by cases h) ⟨ht.2, book_self t⟩ h4 (fun x hx => Below.same hb (hp x hx)) (fun x hx => hsp x (by rw [e]; simp [hx])),
      trodVars_sp hl hb sp' (by simpa [rowedV] using hv.2) (fun x hx => hsp x (by rw [e]; simp [hx])) hs, e⟩
/-- what the row asks of a law that answered true in a world with more behind it -/
theorem post_of_ext {f : Func} {s : ChangeSpec} {apart fresh handsOn again : Bool} {W W' : World} {args : Array Value} {ds gs : List (DataW H)} {before : List MemPlace} {tb : TypeId}
    (hl : laidOutB P = true) (hpar : ∀ t ∈ f.params.toList, P.readableRec t = true ∧ t < P.types.size) (hvr : rowedV P s.vars = true)
    (hrt : f.resultTypes = #[tb]) (htb : P.underlying tb = some .bool)
    (hW : DataW.Whole enc P f.params.toList s.vars apart W args.toList ds gs before) (hx : Ext W W')
    (hfn : s.fn H (ds ++ gs) = { results := [.lit (.bool true)], args := ds, vars := gs }) :
    s.post enc P f apart fresh handsOn again W args (.bool true) W' := by
  have hW0 := hW
  have hlt : ∀ p ∈ before, p.block < W.heap.size := hW.lt
  obtain ⟨pa, pv, hA, hV, rfl, hz, hn⟩ := hW
  have hlta : ∀ p ∈ pa, p.block < W.heap.size := fun p hp => hlt p (by simp [hp])
  have hltv : ∀ p ∈ pv, p.block < W.heap.size := fun p hp => hlt p (by simp [hp])
  have hr : (Value.bool true).resultList f.resultTypes.size = [Value.bool true] := by rw [hrt]; rfl
  refine ⟨ds, gs, pa ++ pv, [], pa, pv, hW0, ?_, ?_, ?_, Below.frame hx _, fun _ => ?_⟩
  · rw [hfn, hr, hrt]
    exact trodAll_mk1 (shut_bool htb _)
  · rw [hfn]
    exact trodAll_ext hl hx _ hpar hlta (fun p hp => by simpa using hlta p hp) hA
  · rw [hfn]
    exact trodVars_sp hl hx _ hvr (fun p hp => by simpa using hltv p hp) hV
  · refine ⟨?_, (.lit (.bool true)) :: ds, gs, pa ++ pv, ⟨[] ++ pa, pv, ?_, ?_, by simp, ?_, ?_⟩, fun p hp _ => hp⟩
    · rw [hr, hrt]
      exact ok_one (f := { f with resultTypes := #[tb] }) rfl rfl (okWide_bool_mk htb _)
    · rw [hr, hrt]
      exact trodAll_append (trodAll_ext hl hx _ hpar hlta (fun _ _ => rfl) hA) (trodAll_mk1 (shut_bool htb _))
    · exact trodVars_sp hl hx _ hvr (fun _ _ => rfl) hV
    · intro b off hp
      have := hlt _ hp
      rw [Below.frozen hx (p := ⟨b, off, none⟩) this]
      exact hz b off hp
    · exact hn
end
end Go.Proofs.Ytfemmmbkhhemaaa.Sx

namespace Go.Proofs.Ytfemmmbkhhemaaa.Sx
open Go Go.RowKit Go.ChangeShapes Go.WideShapes
set_option linter.unusedVariables false
set_option linter.unusedSimpArgs false
/-- the cells of a struct's fields, one behind the other -/
def flatF (P : Program) (g : TypeId → Option (List C0)) : Nat → List Field → Option (List C0)
  | _, [] => some []
  | o, f :: r => match Nat.beq f.offset o, g f.type with
    | true, some a => match Nat.beq (P.cellsOf f.type) a.length, flatF P g (o + a.length) r with
      | true, some b => some (a ++ b)
      | _, _ => none
    | _, _ => none
/-- the cells of a type -/
def flatC (P : Program) : Nat → TypeId → Option (List C0)
  | 0, _ => none
  | n + 1, t => match P.underlying t with
    | some .bool => some [.bool]
    | some (.int .i64) => some [.int]
    | some .string => some [.str]
    | some (.slice e) => match P.underlying e, P.cellsOf e with
      | some (.int .i64), 1 => some [.ints]
      | _, _ => none
    | some (.struct fs) => match flatF P (flatC P n) 0 fs.toList with
      | some a => if Nat.beq (P.cellsOf t) a.length then some a else none
      | none => none
    | _ => none
section
variable {H : Type} {enc : TypeId × Value → H} {P : Program} {w : World}
theorem seg_of_cells {b off n : Nat} {sp : Option Nat} {cs : List Value} (h : w.cells? 0 ⟨b, off, none⟩ n = some cs) : cs.length = n ∧ Seg w b off cs := by
  obtain ⟨_, hl, hc⟩ := World.cells?_some h
  refine ⟨hl, fun j v hj => ?_⟩
  have hjl : j < n := by rw [← hl]; exact (List.getElem?_eq_some_iff.1 hj).1
  rw [← addr_add, hc j hjl, hj]
theorem spot_none {a : Addr} {v : Value} (h : w.cell? a = some v) : a = ⟨a.block, a.off, none⟩ := by
  obtain ⟨b, o, spot⟩ := a
  have : spot = none := by simpa using World.cell?_spot h
  subst this; rfl
theorem ints_of_trod {t e : TypeId} {fuel : Nat} {sp : Nat → Bool} {hd : Bool} {cs : List Value} {x : DataW H × List MemPlace} (ht : P.underlying t = some (.slice e)) (he : P.underlying e = some (.int .i64)) (hc : P.cellsOf e = 1)
    (h : DataW.trod enc P w 0 sp hd fuel t cs = some x) : ∃ p n c zs, cs = [.slice p n c] ∧ IntsR w p n c zs ∧ zs.length ≤ 9223372036854775807 := by
  rcases Go.ChangeShapes.open_ints ht he hc h with ⟨rfl, _⟩ | ⟨a, len, cap, zs, rfl, _, hl, hm, hz, _, hcell, _⟩
  · exact ⟨none, 0, 0, [], rfl, ⟨rfl, Nat.le_refl _, by omega, fun h => absurd h (by omega)⟩, by simp⟩
  · have hlz : len ≤ zs.length := by rw [hz]; split <;> omega
    refine ⟨some a, len, cap, zs.take len, rfl, ⟨by simp; omega, hl, by simpa [maxLen] using hm, fun hpos => ?_⟩, by simp only [maxLen] at hm; simp; omega⟩
    have h0 := hcell 0 (by omega)
    have hs := spot_none h0
    have ha : a = ⟨a.block, a.off, none⟩ := by
      obtain ⟨b, o, s⟩ := a
      simp [Addr.add] at hs
      simp [hs]
    refine ⟨a.block, a.off, by rw [← ha], fun j v hj => ?_⟩
    simp only [List.getElem?_map, List.getElem?_take] at hj
    split at hj
    · rename_i hjl
      have hjz : j < zs.length := by omega
      have := hcell j hjz
      rw [ha, addr_add] at this
      rw [this]
      rw [List.getElem?_eq_getElem hjz] at hj
      simp at hj
      rw [← hj]
      simp [hjz]
    · simp at hj
theorem flatF_open {g : TypeId → Option (List C0)} {n : Nat} {sp : Nat → Bool} {hd : Bool}
    (ih : ∀ {t : TypeId} {ks : List C0} {cs : List Value} {x : DataW H × List MemPlace}, g t = some ks → DataW.trod enc P w 0 sp hd n t cs = some x → ∃ ds, Reps w cs ds ∧ ds.map D0.code = ks ∧ ∀ d ∈ ds, d.ok) :
    ∀ (fs : List Field) (o : Nat) (ks : List C0) (cs : List Value), flatF P g o fs = some ks → cs.length = o + ks.length →
      (∀ f ∈ fs, ∃ x, DataW.trod enc P w 0 sp hd n f.type ((cs.drop f.offset).take (P.cellsOf f.type)) = some x) → ∃ ds, Reps w (cs.drop o) ds ∧ ds.map D0.code = ks ∧ ∀ d ∈ ds, d.ok
  | [], o, ks, cs, hf, hl, _ => by
    simp only [flatF, Option.some.injEq] at hf
    subst hf
    rw [List.drop_of_length_le (by simp at hl; omega)]
    exact ⟨[], trivial, rfl, by simp⟩
  | f :: r, o, ks, cs, hf, hl, hx => by
    simp only [flatF] at hf
    split at hf
    · rename_i a h1 h2
      split at hf
      · rename_i b h3 h4
        have h1' := Nat.eq_of_beq_eq_true h1
        have h3' := Nat.eq_of_beq_eq_true h3
        cases hf
        rw [List.length_append] at hl
        obtain ⟨x, hx0⟩ := hx f (by simp)
        obtain ⟨ds, r1, c1, k1⟩ := ih h2 hx0
        obtain ⟨es, r2, c2, k2⟩ := flatF_open ih r (o + a.length) b cs h4 (by omega) (fun f' hf' => hx f' (by simp [hf']))
        refine ⟨ds ++ es, ?_, by simp [c1, c2], fun d hd => ?_⟩
        · rw [h1', h3'] at r1
          have : cs.drop o = (cs.drop o).take a.length ++ cs.drop (o + a.length) := by
            rw [← List.drop_drop, List.take_append_drop]
          rw [this]
          exact r1.append r2
        · rcases List.mem_append.1 hd with h | h
          · exact k1 d h
          · exact k2 d h
      · cases hf
    · cases hf
theorem flat_open {sp : Nat → Bool} {hd : Bool} : ∀ (m : Nat) {fuel : Nat} {t : TypeId} {ks : List C0} {cs : List Value} {x : DataW H × List MemPlace}, flatC P m t = some ks → DataW.trod enc P w 0 sp hd fuel t cs = some x →
    ∃ ds, Reps w cs ds ∧ ds.map D0.code = ks ∧ ∀ d ∈ ds, d.ok
  | 0, _, _, _, _, _, h, _ => by cases h
  | m + 1, fuel, t, ks, cs, x, h, ht => by
    simp only [flatC] at h
    split at h
    · rename_i hu
      obtain ⟨b, rfl, _⟩ := DataW.trod_bool hu ht
      cases h
      exact ⟨[.bool b], ⟨rfl, trivial⟩, rfl, by simp [D0.ok]⟩
    · rename_i hu
      obtain ⟨b, rfl, _, hw⟩ := DataW.trod_int hu ht
      cases h
      refine ⟨[.int b], ⟨rfl, trivial⟩, rfl, ?_⟩
      simp only [List.mem_singleton, forall_eq, D0.ok]
      simp [Lit.wf, IntKind.min, IntKind.max, IntKind.bits, IntKind.signed] at hw
      omega
    · rename_i hu
      obtain ⟨s, rfl, _, hw⟩ := DataW.trod_string hu ht
      cases h
      exact ⟨[.str s], ⟨rfl, trivial⟩, rfl, by simpa [D0.ok, maxLen] using hw⟩
    · rename_i e hu
      split at h
      · rename_i he hc
        cases h
        obtain ⟨p, n, c, zs, rfl, hr, hz⟩ := ints_of_trod hu he hc ht
        exact ⟨[.ints zs], ⟨⟨p, n, c, rfl, hr⟩, trivial⟩, rfl, by simpa [D0.ok] using hz⟩
      · cases h
    · rename_i fs hu
      split at h
      · rename_i a hf
        split at h
        · rename_i hsz
          cases h
          obtain ⟨xs, n, rfl, _, hlen, hxl, hfs⟩ := DataW.trod_struct hu ht
          have hsz' := Nat.eq_of_beq_eq_true hsz
          have := flatF_open (fun h1 h2 => flat_open m h1 h2) fs.toList 0 ks cs hf (by omega) (fun f hf => by
            obtain ⟨i, hi⟩ := List.getElem?_of_mem hf
            have hil : i < fs.size := by simpa using (List.getElem?_eq_some_iff.1 hi).1
            have := hfs i f (by simpa using hi)
            rw [List.getElem?_eq_getElem (by omega)] at this
            exact ⟨_, this⟩)
          simpa using this
        · cases h
      · cases h
    · cases h
theorem rows_open {sp : Nat → Bool} {hd : Bool} {m fuel : Nat} {t e : TypeId} {ks : List C0} {cs : List Value} {x : DataW H × List MemPlace} (hu : P.underlying t = some (.slice e)) (hk : flatC P m e = some ks) (hc : P.cellsOf e = ks.length) (hpos : 0 < ks.length)
    (ht : DataW.trod enc P w 0 sp hd fuel t cs = some x) : ∃ p n c l, cs = [.slice p n c] ∧ RowsR w ks.length p n c l ∧ (∀ y ∈ l, y.map D0.code = ks) ∧ ∀ y ∈ l, ∀ d ∈ y, d.ok := by
  rcases Go.Deep.open_slice hu ht with ⟨rfl, _⟩ | ⟨a, len, cap, mm, n, D, Pl, rfl, _, hl, hm, hmm, _, hx⟩
  · exact ⟨none, 0, 0, [], rfl, RowsR.nil _ _ _ (by omega), by simp, by simp⟩
  · have hlm : len ≤ mm := by rw [hmm]; split <;> omega
    have hex : ∀ i, i < len → ∃ ds : List D0, (∃ cs', cs'.length = ks.length ∧ Reps w cs' ds ∧ w.cells? 0 (a.add (i * ks.length)) ks.length = some cs') ∧ ds.map D0.code = ks ∧ ∀ d ∈ ds, d.ok := fun i hi => by
      obtain ⟨cs', h1, h2⟩ := hx i (by omega)
      obtain ⟨ds, r, c, k⟩ := flat_open m hk h2
      rw [hc] at h1
      exact ⟨ds, ⟨cs', (World.cells?_some h1).2.1, r, h1⟩, c, k⟩
    obtain ⟨F, hF⟩ := Go.Deep.choose_lt hex
    refine ⟨some a, len, cap, (List.range len).map F, rfl, ⟨by simp, hl, by simpa [maxLen] using hm, fun hn => ?_⟩, ?_, ?_⟩
    · obtain ⟨⟨cs', _, _, h1⟩, _⟩ := hF 0 hn
      have h0 := (World.cells?_some h1).2.2 0 hpos
      have hlen := (World.cells?_some h1).2.1
      rw [List.getElem?_eq_getElem (by omega)] at h0
      have hs := spot_none h0
      have ha : a = ⟨a.block, a.off, none⟩ := by
        obtain ⟨b, o, s⟩ := a
        simp [Addr.add] at hs
        simp [hs]
      refine ⟨a.block, a.off, by rw [← ha], fun i y hy => ?_⟩
      have hil : i < len := by
        have := (List.getElem?_eq_some_iff.1 hy).1
        simpa using this
      obtain ⟨⟨cs', q1, q2, q3⟩, _⟩ := hF i hil
      have : y = F i := by simpa [hil] using hy.symm
      subst this
      rw [ha, addr_add] at q3
      exact ⟨cs', q1, q2, (seg_of_cells (sp := none) q3).2⟩
    · intro y hy
      obtain ⟨i, hi, rfl⟩ := List.mem_map.1 hy
      exact (hF i (by simpa using hi)).2.1
    · intro y hy
      obtain ⟨i, hi, rfl⟩ := List.mem_map.1 hy
      exact (hF i (by simpa using hi)).2.2
end
end Go.Proofs.Ytfemmmbkhhemaaa.Sx
