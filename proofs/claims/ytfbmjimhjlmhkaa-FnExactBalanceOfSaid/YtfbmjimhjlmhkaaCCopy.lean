/-
  Contracts: copies that share no memory.
-/
import Derived.Test.YtfbmjimhjlmhkaaCSigned
import Derived.Test.YtfbmjimhjlmhkaaSxMark
namespace Go.Proofs.Ytfbmjimhjlmhkaa
open Go Go.Proofs.Ytfbmjimhjlmhkaa.Sx
set_option linter.unusedVariables false
set_option linter.unusedSimpArgs false

/-- append onto an empty slice without room: nothing that is there is touched -/
theorem Sx.append0 {w : World} {r : Nat} {q : Option Addr} {m d : Nat} {ys : List Int} (hb : Blk w r T_int []) (k : IntsR w q m d ys) (hm : m ≤ 100000000) :
    ∃ p' c' w', Appends P [T_s_int, T_s_int] [.slice (some ⟨r, 0, none⟩) 0 0, .slice q m d] (.slice p' m c') w w' ∧ Own w' r T_int 1 p' m c' (ys.map (Value.int .i64)) ∧ Ext w w' := by
  have h : Own w r T_int 1 (some ⟨r, 0, none⟩) 0 0 (([] : List Int).map (Value.int .i64)) := Own.of_blk0 hb (Nat.le_refl _) rfl (by decide)
  obtain ⟨p', c', w', h1, h2, h3⟩ := Own.appendI h (Nat.le_of_lt hb.lt) k (by omega)
  rw [Nat.zero_add] at h1 h2
  refine ⟨p', c', w', h1, by simpa using h2, ?_⟩
  obtain ⟨hu, hi, hz, hs⟩ := sliceT_int
  cases hinf : P.info? T_int with
  | none => rw [hinf] at hi; cases hi
  | some i =>
    rw [hinf] at hi
    simp only [Option.map_some, Option.some.injEq, Prod.mk.injEq] at hi
    cases q with
    | none =>
      have hm0 : m = 0 := by
        rcases Nat.eq_zero_or_pos m with h0 | h0
        · exact h0
        · obtain ⟨b, off, hp, _⟩ := k.2.2.2 h0; cases hp
      subst hm0
      have := run_append_none (P := P) w r T_s_int 0 T_int i 1 hu hinf _ 0 d _ h
      have h1 : (Builtin.append_ #[T_s_int, T_s_int] 0 #[.slice (some ⟨r, 0, none⟩) 0 0, .slice none 0 d]).run P w = .ok (.slice p' 0 c') w' := h1
      rw [this] at h1
      cases h1
      exact Ext.refl _
    | some a =>
      have hcells : ∀ j u, (ys.map (Value.int .i64))[j]? = some u → w.cell? (a.add j) = some u := by
        intro j u hj
        have hl : j < m := by
          have := (List.getElem?_eq_some_iff.1 hj).1
          rw [List.length_map, k.1] at this; exact this
        obtain ⟨b, off, hp, hseg⟩ := k.2.2.2 (by omega)
        cases hp
        rw [addr_add]
        exact hseg j u hj
      have h1 : (Builtin.append_ #[T_s_int, T_s_int] 0 #[.slice (some ⟨r, 0, none⟩) 0 0, .slice (some a) m d]).run P w = .ok (.slice p' m c') w' := h1
      rcases Nat.eq_zero_or_pos m with h0 | h0
      · subst h0
        have hy : ys = [] := List.eq_nil_of_length_eq_zero k.1
        subst hy
        have := run_append_room (P := P) w T_s_int 0 T_int i hu hinf r 0 0 #[] hb a 0 d [] (by simp) (by simp) (by simp) (by omega) (by simp)
        rw [this] at h1
        cases h1
        have e : w.setRow r ((#[] : Array Value).toList.take (0 * i.size) ++ ([] : List Value) ++ (#[] : Array Value).toList.drop (0 * i.size + ([] : List Value).length)).toArray = w := by
          have := setRow_self w r #[] T_int (0, 0) hb
          simpa using this
        rw [e]
        exact Ext.refl _
      · have hnext : Builtin.nextslicecap (0 + m) 0 * i.bytes ≤ 281474976710656 := by
          rw [Nat.zero_add, nextslicecap_zero h0, hi.2.2]; omega
        have := run_append_grow (P := P) w T_s_int 0 T_int i (.int .i64 0) hu hinf hi.1 ⟨r, 0, none⟩ 0 0 [] (by simp) (by simp) a m d (ys.map (Value.int .i64)) (by simp [k.1, hi.2.1]) hcells (by omega) (by omega) hnext
        rw [this] at h1
        injection h1 with _ hw
        rw [← hw]
        exact (Ext.drew w).trans ((Go.RowKit.Below.refl _ _).alloc (Nat.le_refl _) _)

/-- what floats lies where it was laid -/
theorem Sx.Fl.got {os : List Obj} {ss : List (Option Nat)} {w : World} {ss' : List (Option Nat)} {w' : World} (h : Fl os ss w ss' w') : ∀ {k r : Nat} {o : Obj}, ss[k]? = some none → os[k]? = some o → ss'[k]? = some (some r) → w.heap.size ≤ r ∧ w'.heap[r]? = some o := by
  induction h with
  | refl => intro k r o h0 _ h1; rw [h0] at h1; cases h1
  | step h1 h2 h3 ih =>
    rename_i ss w k' o' ss' w'
    intro k r o h0 ho hr
    by_cases hk : k' = k
    · subst hk
      rw [h2] at ho
      cases ho
      have hset : (ss.set k' (some w.heap.size))[k']? = some (some w.heap.size) := by
        rw [List.getElem?_set_self]
        exact (List.getElem?_eq_some_iff.1 h1).1
      have := h3.keeps hset
      rw [this] at hr
      cases hr
      exact ⟨Nat.le_refl _, (h3.ext.block _ (by simp)).trans (heap_alloc_new w _)⟩
    · obtain ⟨a, b⟩ := ih (k := k) (r := r) (o := o) (by rw [List.getElem?_set_ne hk]; exact h0) ho hr
      refine ⟨?_, b⟩
      have : w.heap.size ≤ (w.alloc o').heap.size := by simp
      omega

theorem spec_l19Rat_c {w : World} {xs : List Value} {dx : List D0} (h : Reps w xs dx) (hc : dx.map D0.code = [.bool, .ints, .ints]) (hb : bulks dx ≤ 100000000) :
    Ret P n_spec_l19Rat [.agg ⟨xs⟩] w fun v w' => ∃ vs' f, v = .agg ⟨vs'⟩ ∧ Owns w' w.heap.size vs' dx f ∧ Ext w w' := by
  obtain ⟨a0, a1p, a1n, a1c, a1z, a2p, a2n, a2c, a2z, rfl, rfl, ha, hd⟩ := open_Rat h hc
  have l1 := ha.1; have l2 := hd.1
  simp only [bulks, D0.bulk, List.map_cons, List.map_nil, List.sum_cons, List.sum_nil] at hb
  refine spec_l19Rat_ret ?_
  unfold spec_l19Rat
  intro r w1 hn1 r1 w2 hn2
  have D := Ext.drew w2
  have X := (hn1.ext.trans hn2.ext).trans D
  have k0 := hn1.blk.ext hn2.ext; have k1 := hn2.blk.ext D
  have e2 := hn2.r_eq; have s1 := hn1.size; have s2 := hn2.size; have lD := D.le
  refine ⟨_, fun W hW => (k0.ext (D.trans hW)).loadAt 0 rfl (by kernel_rfl) rfl, _, _, _, fun W hW => (k0.ext (D.trans hW)).loadAt 1 rfl (by kernel_rfl) rfl, ?_⟩
  intro ss w4 r2 f1 g1 ss1 w5 f2
  obtain ⟨b1, hb1⟩ := f1.got (k := 0) rfl rfl g1
  have hb1 : Blk w4 r2 T_int [] := hb1
  have Y := f1.ext.trans f2.ext
  obtain ⟨p, c, w6, a1, o1, y6⟩ := append0 (hb1.ext f2.ext) (ha.ext (X.trans Y)) (by omega)
  refine ⟨_, _, _, _, a1, y6, _, _, _, fun W hW => (k0.ext (D.trans hW)).loadAt 2 rfl (by kernel_rfl) rfl, ?_⟩
  intro ss2 w8 r3 f3 g3
  -- the second lies since the first or since the third
  have hb3 : w2.drew.heap.size ≤ r3 ∧ Blk w8 r3 T_int [] := by
    have n0 : ([none, none] : List (Option Nat))[1]? = some none := rfl
    have len1 : ss1.length = 2 := by rw [f2.len, f1.len]; rfl
    cases hs : ss[1]? with
    | none => 
      have := f1.len
      rw [List.getElem?_eq_none_iff, this] at hs
      simp at hs
    | some v =>
      cases v with
      | some q =>
        obtain ⟨b, hq⟩ := f1.got (k := 1) n0 rfl hs
        have e := (f3.keeps (f2.keeps hs)).symm.trans g3
        have e : q = r3 := by simpa using e
        rw [e] at b hq
        exact ⟨b, ((Blk.ext (show Blk w4 r3 T_int [] from hq) f2.ext).ext y6).ext f3.ext⟩
      | none =>
        cases hs1 : ss1[1]? with
        | none => rw [List.getElem?_eq_none_iff, len1] at hs1; simp at hs1
        | some v =>
          cases v with
          | some q =>
            obtain ⟨b, hq⟩ := f2.got (k := 1) hs rfl hs1
            have e := (f3.keeps hs1).symm.trans g3
            have e : q = r3 := by simpa using e
            rw [e] at b hq
            exact ⟨Nat.le_trans f1.ext.le b, (Blk.ext (show Blk w5 r3 T_int [] from hq) y6).ext f3.ext⟩
          | none =>
            obtain ⟨b, hq⟩ := f3.got (k := 1) hs1 rfl g3
            exact ⟨Nat.le_trans ((Y.trans y6).le) b, hq⟩
  have Z := (Y.trans y6).trans f3.ext
  obtain ⟨p2, c2, w9, a2, o2, y9⟩ := append0 hb3.2 (hd.ext (X.trans Z)) (by omega)
  have Z2 := Z.trans y9
  obtain ⟨w10, st, hb10, ch, sz⟩ := (k1.ext Z2).storeA0 (P := P) (t := T_impl_Rat) (xs := [.bool a0, .slice p a1n c, .slice p2 a2n c2]) (by kernel_rfl) rfl (by simp [Value.oneCell'])
  have n1 : ∀ q, p.map (·.block) = some q → q ∉ [r1] := fun q hq hm => by
    have := (World.ownsRow.lt (o1.mono b1) q (by rw [← hq]; cases p <;> rfl)).1
    simp at hm; omega
  have n2 : ∀ q, p2.map (·.block) = some q → q ∉ [r1] := fun q hq hm => by
    have := (World.ownsRow.lt (o2.mono hb3.1) q (by rw [← hq]; cases p2 <;> rfl)).1
    simp at hm; omega
  have q1 : Own w10 w.heap.size T_int 1 p a1n c (a1z.map (Value.int .i64)) := (((o1.ext f3.ext).ext y9).chg ch n1).mono (by omega)
  have q2 : Own w10 w.heap.size T_int 1 p2 a2n c2 (a2z.map (Value.int .i64)) := (o2.chg ch n2).mono (by have := hb3.1; omega)
  exact ⟨_, _, _, _, a2, y9, w10, st, _, _, _, _, _, _, _, hb10.loadA0 (by kernel_rfl), _, _, rfl, Owns.append (Owns.bool _ _ a0) (Owns.append (Owns.ints q1) (Owns.ints q2)), (X.trans Z2).chg ch (by simp; omega)⟩

theorem impl_intCopy_c {w : World} {xs : List Value} {dx : List D0} (h : Reps w xs dx) (hc : dx.map D0.code = [.bool, .ints]) (hb : bulks dx ≤ 100000000) :
    Ret P n_impl_intCopy [.agg ⟨xs⟩] w fun v w' => ∃ vs' f, v = .agg ⟨vs'⟩ ∧ Owns w' w.heap.size vs' dx f ∧ f.Nodup ∧ Ext w w' := by
  obtain ⟨a0, a1p, a1n, a1c, a1z, rfl, rfl, ha⟩ := open_Signed h hc
  have l1 := ha.1
  simp only [bulks, D0.bulk, List.map_cons, List.map_nil, List.sum_cons, List.sum_nil] at hb
  refine impl_intCopy_ret ?_
  unfold impl_intCopy
  intro r w1 hn1 r1 w2 hn2
  have D := Ext.drew w2
  have X := (hn1.ext.trans hn2.ext).trans D
  have k0 := hn1.blk.ext hn2.ext; have k1 := hn2.blk.ext D
  have e2 := hn2.r_eq; have s1 := hn1.size; have s2 := hn2.size; have lD := D.le
  refine ⟨_, fun W hW => (k0.ext (D.trans hW)).loadAt 0 rfl (by kernel_rfl) rfl, _, _, _, fun W hW => (k0.ext (D.trans hW)).loadAt 1 rfl (by kernel_rfl) rfl, ?_⟩
  refine Ret.at (impl_natCopy_c (ha.ext X) (by omega)) ?_
  rintro v w3 ⟨p, c, hv, ho, y3⟩
  subst hv
  obtain ⟨w4, st, hb4, ch, sz⟩ := (k1.ext y3).storeA0 (P := P) (t := T_impl_Signed) (xs := [.bool a0, .slice p a1n c]) (by kernel_rfl) rfl (by simp [Value.oneCell'])
  exact ⟨_, _, _, rfl, y3, w4, st, _, _, _, _, hb4.loadA0 (by kernel_rfl), _, _, rfl, ((Owns.int2 ho).chg1 ch (by omega)).mono (by omega), nodup_opt p, (X.trans y3).chg ch (by simp; omega)⟩

theorem impl_ratCopy_c {w : World} {xs : List Value} {dx : List D0} (h : Reps w xs dx) (hc : dx.map D0.code = [.bool, .ints, .ints]) (hb : bulks dx ≤ 100000000) :
    Ret P n_impl_ratCopy [.agg ⟨xs⟩] w fun v w' => ∃ vs' f, v = .agg ⟨vs'⟩ ∧ Owns w' w.heap.size vs' dx f ∧ f.Nodup ∧ Ext w w' := by
  obtain ⟨a0, a1p, a1n, a1c, a1z, a2p, a2n, a2c, a2z, rfl, rfl, ha, hd⟩ := open_Rat h hc
  have l1 := ha.1; have l2 := hd.1
  simp only [bulks, D0.bulk, List.map_cons, List.map_nil, List.sum_cons, List.sum_nil] at hb
  refine impl_ratCopy_ret ?_
  unfold impl_ratCopy
  intro r w1 hn1 r1 w2 hn2
  have D := Ext.drew w2
  have X := (hn1.ext.trans hn2.ext).trans D
  have k0 := hn1.blk.ext hn2.ext; have k1 := hn2.blk.ext D
  have e2 := hn2.r_eq; have s1 := hn1.size; have s2 := hn2.size; have lD := D.le
  refine ⟨_, _, _, _, fun W hW => (k0.ext (D.trans hW)).loadAAt 0 [.bool a0, .slice a1p a1n a1c] rfl (by kernel_rfl) rfl, ?_⟩
  have hs : Reps w2.drew [.bool a0, .slice a1p a1n a1c] [.bool a0, .ints a1z] := ⟨rfl, ⟨_, _, _, rfl, ha.ext X⟩, trivial⟩
  refine Ret.at (impl_intCopy_c hs rfl (by simp only [bulks, D0.bulk, List.map_cons, List.map_nil, List.sum_cons, List.sum_nil]; omega)) ?_
  rintro v w3 ⟨vs, f, hv, ho, nd, y3⟩
  subst hv
  obtain ⟨b0, bp, bn, bc, bz, rfl, hq, hbr⟩ := open_Signed ho.reps rfl
  cases hq
  refine ⟨_, _, _, _, rfl, y3, _, _, _, fun W hW => (k0.ext (D.trans hW)).loadAt 2 rfl (by kernel_rfl) rfl, ?_⟩
  refine Ret.at (impl_natCopy_c (hd.ext (X.trans y3)) (by omega)) ?_
  rintro v w4 ⟨p, c, hv, ho2, y4⟩
  subst hv
  have l3 := y3.le; have l4 := y4.le
  obtain ⟨w5, st, hb5, ch, sz⟩ := ((k1.ext y3).ext y4).storeA0 (P := P) (t := T_impl_Rat) (xs := [.bool a0, .slice bp bn bc, .slice p a2n c]) (by kernel_rfl) rfl (by simp [Value.oneCell'])
  have q1 := (ho.ext y4).chg1 ch (by omega)
  have q2 := (Owns.ints ho2).chg1 ch (by omega)
  refine ⟨_, _, _, rfl, w5, st, _, _, _, _, _, _, _, hb5.loadA0 (by kernel_rfl), _, _, rfl, Owns.append (q1.mono (by omega)) (q2.mono (by omega)), ?_, ((X.trans y3).trans y4).chg ch (by simp; omega)⟩
  exact nodup_append nd (nodup_opt p) (m := w3.heap.size) (fun k hk => (ho.lt k hk).2) (fun k hk => ((Owns.ints ho2).lt k hk).1)

def ratZeroD : List D0 := [.bool false, .ints [], .ints [1]]
theorem spec_RatZero_c (w : World) : Ret P n_spec_RatZero [] w fun v w' => ∃ vs' f, v = .agg ⟨vs'⟩ ∧ Owns w' w.heap.size vs' ratZeroD f ∧ f.Nodup ∧ Ext w w' := by
  refine spec_RatZero_ret ?_
  unfold spec_RatZero
  intro r w1 hn1 r1 w2 hn2
  have e1 := hn1.r_eq; have e2 := hn2.r_eq; have s1 := hn1.size; have s2 := hn2.size
  obtain ⟨w3, st, hb3, ch, sz⟩ := (hn1.blk.ext hn2.ext).storeA0 (P := P) (t := T_impl_Rat) (xs := [.bool false, .slice none 0 0, .slice (some ⟨r1, 0, none⟩) 1 1]) (by kernel_rfl) rfl (by simp [Value.oneCell'])
  have ho : Own w3 w.heap.size T_int 1 (some ⟨r1, 0, none⟩) 1 1 (([1] : List Int).map (Value.int .i64)) := Own.of_blk (hn2.blk.chg ch (by simp; omega)) (by omega) rfl (by decide)
  exact ⟨w3, st, _, _, _, _, _, _, _, hb3.loadA0 (by kernel_rfl), _, _, rfl, Owns.append (Owns.bool _ _ false) (Owns.append (Owns.ints (zs := []) (Own.nil w3 w.heap.size T_int 1)) (Owns.ints ho)), by simp, (hn1.ext.trans hn2.ext).chg ch (by simp; omega)⟩

theorem impl_RatZero_c (w : World) : Ret P n_impl_RatZero [] w fun v w' => ∃ vs' f, v = .agg ⟨vs'⟩ ∧ Owns w' w.heap.size vs' ratZeroD f ∧ f.Nodup ∧ Ext w w' := by
  refine impl_RatZero_ret ?_
  unfold impl_RatZero
  intro r w1 hn1 r1 w2 hn2
  have e1 := hn1.r_eq; have e2 := hn2.r_eq; have s1 := hn1.size; have s2 := hn2.size
  obtain ⟨w3, st, hb3, ch, sz⟩ := (hn1.blk.ext hn2.ext).storeA0 (P := P) (t := T_impl_Rat) (xs := [.bool false, .slice none 0 0, .slice (some ⟨r1, 0, none⟩) 1 1]) (by kernel_rfl) rfl (by simp [Value.oneCell'])
  have ho : Own w3 w.heap.size T_int 1 (some ⟨r1, 0, none⟩) 1 1 (([1] : List Int).map (Value.int .i64)) := Own.of_blk (hn2.blk.chg ch (by simp; omega)) (by omega) rfl (by decide)
  exact ⟨w3, st, _, _, _, _, _, _, _, hb3.loadA0 (by kernel_rfl), _, _, rfl, Owns.append (Owns.bool _ _ false) (Owns.append (Owns.ints (zs := []) (Own.nil w3 w.heap.size T_int 1)) (Owns.ints ho)), by simp, (hn1.ext.trans hn2.ext).chg ch (by simp; omega)⟩

end Go.Proofs.Ytfbmjimhjlmhkaa
