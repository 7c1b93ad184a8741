/-
  Parts of the proof of restsNeg_holds: CDecCmp, CCopy, CRat, Tab, CCurr, CBookOk, CRestsOk, DMark, DMarkS, CUndo, CRestsNeg, DM, WRestsNeg, SxRow, SxOpen, CTab.
  Conditions: none.
-/
import Derived.Laws.BytesArg
import Derived.ProofKit
import Derived.Deep.Slices
import Derived.Test.YtpaekkcgphljoaaDoorRows
import Derived.OpenShut
import Derived.Lib.LaidTab
import Derived.Test.YtpaekkcgphljoaaDoorRNg3

namespace Go.Proofs.YtpaekkcgphljoaaDoor
open Go Go.Proofs.YtpaekkcgphljoaaDoor.Sx
set_option linter.unusedVariables false
set_option linter.unusedSimpArgs false
/-- the comparison of valid integers is the sign of the difference -/
theorem icmp_enc {x y : Int} (hx : intOk (enc x) = true) (hy : intOk (enc y) = true) : icmp (enc x) (enc y) = sgn (x - y) := by
  have cv := cmpL_val (digs_canon x.natAbs) (digs_canon y.natAbs)
  have cv2 := cmpL_val (digs_canon y.natAbs) (digs_canon x.natAbs)
  rw [val_digs, val_digs] at cv cv2
  unfold enc at hx hy
  unfold enc
  simp only [icmp, hx, hy, Bool.not_true, Bool.or_self, Bool.false_eq_true, if_false, sgn]
  by_cases h1 : x < 0 <;> by_cases h2 : y < 0 <;> simp only [h1, h2, decide_true, decide_false, Bool.not_true, Bool.not_false, Bool.and_true, Bool.true_and, Bool.and_false, Bool.false_and, Bool.false_eq_true, if_true, if_false]
  · rcases cv2 with ⟨h, h'⟩ | ⟨h, h'⟩ | ⟨h, h'⟩ <;> rw [h] <;> (repeat' split) <;> omega
  · (repeat' split) <;> omega
  · (repeat' split) <;> omega
  · rcases cv with ⟨h, h'⟩ | ⟨h, h'⟩ | ⟨h, h'⟩ <;> rw [h] <;> (repeat' split) <;> omega
end Go.Proofs.YtpaekkcgphljoaaDoor

namespace Go.Proofs.YtpaekkcgphljoaaDoor
open Go Go.Proofs.YtpaekkcgphljoaaDoor.Sx
set_option linter.unusedVariables false
set_option linter.unusedSimpArgs false
/-- append onto an empty slice without room: nothing that is there is touched -/
theorem Sx.append0 {w : World} {r : Nat} {q : Option Addr} {m d : Nat} {ys : List Int} (hb : Blk w r T_int []) (k : IntsR w q m d ys) (hm : m ≤ 100000000) :
    ∃ p' c' w', Appends P [T_s_int, T_s_int] [.slice (some ⟨r, 0, none⟩) 0 0, .slice q m d] (.slice p' m c') w w' ∧ Own w' r T_int 1 p' m c' (ys.map (Value.int .i64)) ∧ Ext w w' := by
  have h : Own w r T_int 1 (some ⟨r, 0, none⟩) 0 0 (([] : List Int).map (Value.int .i64)) := Own.of_blk0 hb (Nat.le_refl _) rfl (by decide)
  obtain ⟨p', c', w', h1, h2, h3⟩ := Own.appendI h (Nat.le_of_lt hb.lt) k (by omega)
  rw [Nat.zero_add] at h1 h2
  refine ⟨p', c', w', h1, by simpa using h2, ?_⟩
  obtain ⟨hu, hi, hz, hs⟩ := sliceT_int
  cases hinf : P.info? T_int with
  | none => rw [hinf] at hi; cases hi
  | some i =>
    rw [hinf] at hi
    simp only [Option.map_some, Option.some.injEq, Prod.mk.injEq] at hi
    cases q with
    | none =>
      have hm0 : m = 0 := by
        rcases Nat.eq_zero_or_pos m with h0 | h0
        · exact h0
        · obtain ⟨b, off, hp, _⟩ := k.2.2.2 h0; cases hp
      subst hm0
      have := run_append_none (P := P) w r T_s_int 0 T_int i 1 hu hinf _ 0 d _ h
      have h1 : (Builtin.append_ #[T_s_int, T_s_int] 0 #[.slice (some ⟨r, 0, none⟩) 0 0, .slice none 0 d]).run P w = .ok (.slice p' 0 c') w' := h1
      rw [this] at h1
      cases h1
      exact Ext.refl _
    | some a =>
      have hcells : ∀ j u, (ys.map (Value.int .i64))[j]? = some u → w.cell? (a.add j) = some u := by
        intro j u hj
        have hl : j < m := by
          have := (List.getElem?_eq_some_iff.1 hj).1
          rw [List.length_map, k.1] at this; exact this
        obtain ⟨b, off, hp, hseg⟩ := k.2.2.2 (by omega)
        cases hp
        rw [addr_add]
        exact hseg j u hj
      have h1 : (Builtin.append_ #[T_s_int, T_s_int] 0 #[.slice (some ⟨r, 0, none⟩) 0 0, .slice (some a) m d]).run P w = .ok (.slice p' m c') w' := h1
      rcases Nat.eq_zero_or_pos m with h0 | h0
      · subst h0
        have hy : ys = [] := List.eq_nil_of_length_eq_zero k.1
        subst hy
        have := run_append_room (P := P) w T_s_int 0 T_int i hu hinf r 0 0 #[] hb a 0 d [] (by simp) (by simp) (by simp) (by omega) (by simp)
        rw [this] at h1
        cases h1
        have e : w.setRow r ((#[] : Array Value).toList.take (0 * i.size) ++ ([] : List Value) ++ (#[] : Array Value).toList.drop (0 * i.size + ([] : List Value).length)).toArray = w := by
          have := setRow_self w r #[] T_int (0, 0) hb
          simpa using this
        rw [e]
        exact Ext.refl _
      · have hnext : Builtin.nextslicecap (0 + m) 0 * i.bytes ≤ 281474976710656 := by
          rw [Nat.zero_add, nextslicecap_zero h0, hi.2.2]; omega
        have := run_append_grow (P := P) w T_s_int 0 T_int i (.int .i64 0) hu hinf hi.1 ⟨r, 0, none⟩ 0 0 [] (by simp) (by simp) a m d (ys.map (Value.int .i64)) (by simp [k.1, hi.2.1]) hcells (by omega) (by omega) hnext
        rw [this] at h1
        injection h1 with _ hw
        rw [← hw]
        exact (Ext.drew w).trans ((Go.RowKit.Below.refl _ _).alloc (Nat.le_refl _) _)
/-- what floats lies where it was laid -/
theorem Sx.Fl.got {os : List Obj} {ss : List (Option Nat)} {w : World} {ss' : List (Option Nat)} {w' : World} (h : Fl os ss w ss' w') : ∀ {k r : Nat} {o : Obj}, ss[k]? = some none → os[k]? = some o → ss'[k]? = some (some r) → w.heap.size ≤ r ∧ w'.heap[r]? = some o := by
  induction h with
  | refl => intro k r o h0 _ h1; rw [h0] at h1; cases h1
  | step h1 h2 h3 ih =>
    rename_i ss w k' o' ss' w'
    intro k r o h0 ho hr
    by_cases hk : k' = k
    · subst hk
      rw [h2] at ho
      cases ho
      have hset : (ss.set k' (some w.heap.size))[k']? = some (some w.heap.size) := by
        rw [List.getElem?_set_self]
        exact (List.getElem?_eq_some_iff.1 h1).1
      have := h3.keeps hset
      rw [this] at hr
      cases hr
      exact ⟨Nat.le_refl _, (h3.ext.block _ (by simp)).trans (heap_alloc_new w _)⟩
    · obtain ⟨a, b⟩ := ih (k := k) (r := r) (o := o) (by rw [List.getElem?_set_ne hk]; exact h0) ho hr
      refine ⟨?_, b⟩
      have : w.heap.size ≤ (w.alloc o').heap.size := by simp
      omega
theorem spec_l19Rat_c {w : World} {xs : List Value} {dx : List D0} (h : Reps w xs dx) (hc : dx.map D0.code = [.bool, .ints, .ints]) (hb : bulks dx ≤ 100000000) :
    Ret P n_spec_l19Rat [.agg ⟨xs⟩] w fun v w' => ∃ vs' f, v = .agg ⟨vs'⟩ ∧ Owns w' w.heap.size vs' dx f ∧ Ext w w' := by
  obtain ⟨a0, a1p, a1n, a1c, a1z, a2p, a2n, a2c, a2z, rfl, rfl, ha, hd⟩ := open_Rat h hc
  have l1 := ha.1; have l2 := hd.1
  simp only [bulks, D0.bulk, List.map_cons, List.map_nil, List.sum_cons, List.sum_nil] at hb
  refine spec_l19Rat_ret ?_
  unfold spec_l19Rat
  intro r w1 hn1 r1 w2 hn2
  have D := Ext.drew w2
  have X := (hn1.ext.trans hn2.ext).trans D
  have k0 := hn1.blk.ext hn2.ext; have k1 := hn2.blk.ext D
  have e2 := hn2.r_eq; have s1 := hn1.size; have s2 := hn2.size; have lD := D.le
  refine ⟨_, fun W hW => (k0.ext (D.trans hW)).loadAt 0 rfl (by kernel_rfl) rfl, _, _, _, fun W hW => (k0.ext (D.trans hW)).loadAt 1 rfl (by kernel_rfl) rfl, ?_⟩
  intro ss w4 r2 f1 g1 ss1 w5 f2
  obtain ⟨b1, hb1⟩ := f1.got (k := 0) rfl rfl g1
  have hb1 : Blk w4 r2 T_int [] := hb1
  have Y := f1.ext.trans f2.ext
  obtain ⟨p, c, w6, a1, o1, y6⟩ := append0 (hb1.ext f2.ext) (ha.ext (X.trans Y)) (by omega)
  refine ⟨_, _, _, _, a1, y6, _, _, _, fun W hW => (k0.ext (D.trans hW)).loadAt 2 rfl (by kernel_rfl) rfl, ?_⟩
  intro ss2 w8 r3 f3 g3
  -- the second lies since the first or since the third
  have hb3 : w2.drew.heap.size ≤ r3 ∧ Blk w8 r3 T_int [] := by
    have n0 : ([none, none] : List (Option Nat))[1]? = some none := rfl
    have len1 : ss1.length = 2 := by rw [f2.len, f1.len]; rfl
    cases hs : ss[1]? with
    | none => 
      have := f1.len
      rw [List.getElem?_eq_none_iff, this] at hs
      simp at hs
    | some v =>
      cases v with
      | some q =>
        obtain ⟨b, hq⟩ := f1.got (k := 1) n0 rfl hs
        have e := (f3.keeps (f2.keeps hs)).symm.trans g3
        have e : q = r3 := by simpa using e
        rw [e] at b hq
        exact ⟨b, ((Blk.ext (show Blk w4 r3 T_int [] from hq) f2.ext).ext y6).ext f3.ext⟩
      | none =>
        cases hs1 : ss1[1]? with
        | none => rw [List.getElem?_eq_none_iff, len1] at hs1; simp at hs1
        | some v =>
          cases v with
          | some q =>
            obtain ⟨b, hq⟩ := f2.got (k := 1) hs rfl hs1
            have e := (f3.keeps hs1).symm.trans g3
            have e : q = r3 := by simpa using e
            rw [e] at b hq
            exact ⟨Nat.le_trans f1.ext.le b, (Blk.ext (show Blk w5 r3 T_int [] from hq) y6).ext f3.ext⟩
          | none =>
            obtain ⟨b, hq⟩ := f3.got (k := 1) hs1 rfl g3
            exact ⟨Nat.le_trans ((Y.trans y6).le) b, hq⟩
  have Z := (Y.trans y6).trans f3.ext
  obtain ⟨p2, c2, w9, a2, o2, y9⟩ := append0 hb3.2 (hd.ext (X.trans Z)) (by omega)
  have Z2 := Z.trans y9
  obtain ⟨w10, st, hb10, ch, sz⟩ := (k1.ext Z2).storeA0 (P := P) (t := T_impl_Rat) (xs := [.bool a0, .slice p a1n c, .slice p2 a2n c2]) (by kernel_rfl) rfl (by simp [Value.oneCell'])
  have n1 : ∀ q, p.map (·.block) = some q → q ∉ [r1] := fun q hq hm => by
    have := (World.ownsRow.lt (o1.mono b1) q (by rw [← hq]; cases p <;> rfl)).1
    simp at hm; omega
  have n2 : ∀ q, p2.map (·.block) = some q → q ∉ [r1] := fun q hq hm => by
    have := (World.ownsRow.lt (o2.mono hb3.1) q (by rw [← hq]; cases p2 <;> rfl)).1
    simp at hm; omega
  have q1 : Own w10 w.heap.size T_int 1 p a1n c (a1z.map (Value.int .i64)) := (((o1.ext f3.ext).ext y9).chg ch n1).mono (by omega)
  have q2 : Own w10 w.heap.size T_int 1 p2 a2n c2 (a2z.map (Value.int .i64)) := (o2.chg ch n2).mono (by have := hb3.1; omega)
  exact ⟨_, _, _, _, a2, y9, w10, st, _, _, _, _, _, _, _, hb10.loadA0 (by kernel_rfl), _, _, rfl, Owns.append (Owns.bool _ _ a0) (Owns.append (Owns.ints q1) (Owns.ints q2)), (X.trans Z2).chg ch (by simp; omega)⟩
def ratZeroD : List D0 := [.bool false, .ints [], .ints [1]]
theorem spec_RatZero_c (w : World) : Ret P n_spec_RatZero [] w fun v w' => ∃ vs' f, v = .agg ⟨vs'⟩ ∧ Owns w' w.heap.size vs' ratZeroD f ∧ f.Nodup ∧ Ext w w' := by
  refine spec_RatZero_ret ?_
  unfold spec_RatZero
  intro r w1 hn1 r1 w2 hn2
  have e1 := hn1.r_eq; have e2 := hn2.r_eq; have s1 := hn1.size; have s2 := hn2.size
  obtain ⟨w3, st, hb3, ch, sz⟩ := (hn1.blk.ext hn2.ext).storeA0 (P := P) (t := T_impl_Rat) (xs := [.bool false, .slice none 0 0, .slice (some ⟨r1, 0, none⟩) 1 1]) (by kernel_rfl) rfl (by simp [Value.oneCell'])
  have ho : Own w3 w.heap.size T_int 1 (some ⟨r1, 0, none⟩) 1 1 (([1] : List Int).map (Value.int .i64)) := Own.of_blk (hn2.blk.chg ch (by simp; omega)) (by omega) rfl (by decide)
  exact ⟨w3, st, _, _, _, _, _, _, _, hb3.loadA0 (by kernel_rfl), _, _, rfl, Owns.append (Owns.bool _ _ false) (Owns.append (Owns.ints (zs := []) (Own.nil w3 w.heap.size T_int 1)) (Owns.ints ho)), by simp, (hn1.ext.trans hn2.ext).chg ch (by simp; omega)⟩
end Go.Proofs.YtpaekkcgphljoaaDoor

namespace Go.Proofs.YtpaekkcgphljoaaDoor
open Go Go.Proofs.YtpaekkcgphljoaaDoor.Sx
set_option linter.unusedVariables false
set_option linter.unusedSimpArgs false
def ratNum : List D0 → Int
  | [.bool s, .ints x, .ints _] => ival [.bool s, .ints x]
  | _ => 0
def ratDen : List D0 → Nat
  | [.bool _, .ints _, .ints y] => (val y).toNat
  | _ => 0
/-- a fraction as its parts -/
def rmk (n : Int) (d : Nat) : List D0 := [.bool (decide (n < 0)), .ints (digs n.natAbs), .ints (digs d)]
theorem rmk_enc (n : Int) (d : Nat) : rmk n d = enc n ++ [.ints (digs d)] := rfl
theorem rmk_code (n : Int) (d : Nat) : (rmk n d).map D0.code = [.bool, .ints, .ints] := rfl
theorem ival_natAbs {s : Bool} {x : List Int} (h : Limbs x) : (ival [.bool s, .ints x]).natAbs = (val x).toNat := by
  have := val_nonneg h
  unfold ival
  cases s <;> simp <;> omega
theorem ratOk_enc {dx : List D0} (h : ratOk dx = true) : dx = rmk (ratNum dx) (ratDen dx) ∧ 0 < ratDen dx ∧ Nat.gcd (ratNum dx).natAbs (ratDen dx) = 1 ∧ (digs (ratNum dx).natAbs).length ≤ 18 ∧ (digs (ratDen dx)).length ≤ 18 := by
  match dx, h with
  | [.bool s, .ints x, .ints y], h =>
    simp only [ratOk, Bool.and_eq_true, decide_eq_true_eq, Bool.not_eq_true'] at h
    obtain ⟨⟨⟨⟨⟨h1, h2⟩, h3⟩, h4⟩, h5⟩, h6⟩ := h
    have e1 := (intOk_enc h1).1
    obtain ⟨b', z', ez, can1, _⟩ := (intOk_enc h1).2
    simp only [List.cons.injEq, D0.ints.injEq, D0.bool.injEq, and_true] at ez
    obtain ⟨_, rfl⟩ := ez
    have can2 := (natOk_spec.1 h2).1
    have na := ival_natAbs (s := s) can1.1
    have ey := digs_val can2
    have hp := canon_pos can2 (by intro e; subst e; simp at h3)
    have ex := digs_val can1
    refine ⟨?_, ?_, ?_, ?_, ?_⟩
    · have e1' : [D0.bool s, .ints x] = enc (ratNum [.bool s, .ints x, .ints y]) := e1
      have ey' : digs (ratDen [.bool s, .ints x, .ints y]) = y := ey
      rw [rmk_enc, ← e1', ey']; rfl
    · simp only [ratDen]; omega
    · simp only [ratNum, ratDen, na]; exact h6
    · simp only [ratNum, na, ex]; exact h5
    · simp only [ratDen, ey]; exact h4
theorem ratOk_rmk {n : Int} {d : Nat} (hd : 0 < d) (hg : Nat.gcd n.natAbs d = 1) (h1 : (digs n.natAbs).length ≤ 18) (h2 : (digs d).length ≤ 18) : ratOk (rmk n d) = true := by
  have i1 : intOk [.bool (decide (n < 0)), .ints (digs n.natAbs)] = true := by
    have := icap_ok n
    rwa [icap_fit (by omega)] at this
  have i2 : natOk (digs d) = true := natOk_spec.2 ⟨digs_canon d, by omega⟩
  have i3 : (digs d).isEmpty = false := by rw [isEmpty_digs]; simp; omega
  simp only [ratOk, rmk, i1, i2, i3, decide_eq_true h1, decide_eq_true h2, val_digs, Int.toNat_natCast, Bool.not_false, Bool.and_self, Bool.true_and]
  exact decide_eq_true hg
def rsign (dx : List D0) : Int := if ratOk dx then sgn (ratNum dx) else 0
def rcmp (dx dy : List D0) : Int := if ratOk dx && ratOk dy then sgn (ratNum dx * ratDen dy - ratNum dy * ratDen dx) else 0
theorem zero_ok : ratOk ratZeroD = true := by
  have : ratZeroD = rmk 0 1 := by simp [ratZeroD, rmk, digs_zero, digs_one]
  rw [this]
  exact ratOk_rmk (by decide) rfl (by simp [digs_zero]) (by simp [digs_one])
theorem zero_num : ratNum ratZeroD = 0 := by simp [ratZeroD, ratNum, ival, val]
theorem zero_den : ratDen ratZeroD = 1 := by simp [ratZeroD, ratDen, val]
theorem rcmp_zero (dx : List D0) : rcmp dx ratZeroD = rsign dx := by
  unfold rcmp rsign
  rw [zero_ok, Bool.and_true, zero_num, zero_den]
  simp
/-- the first two parts of a fraction that is valid -/
theorem rat_parts {w : World} {vs : List Value} {dx : List D0} (h : Reps w vs dx) (hc : dx.map D0.code = [.bool, .ints, .ints]) (hok : ratOk dx = true) :
    ∃ p1 n1 c1 p2 n2 c2, vs = [.bool (decide (ratNum dx < 0)), .slice p1 n1 c1, .slice p2 n2 c2] ∧ IntsR w p1 n1 c1 (digs (ratNum dx).natAbs) ∧ IntsR w p2 n2 c2 (digs (ratDen dx)) ∧ n1 ≤ 18 ∧ n2 ≤ 18 ∧ Reps w [.bool (decide (ratNum dx < 0)), .slice p1 n1 c1] (enc (ratNum dx)) := by
  obtain ⟨e, h1, h2, h3, h4⟩ := ratOk_enc hok
  obtain ⟨a0, a1p, a1n, a1c, a1z, a2p, a2n, a2c, a2z, rfl, hd, ir1, ir2⟩ := open_Rat h hc
  rw [hd] at e
  simp only [rmk, List.cons.injEq, D0.ints.injEq, D0.bool.injEq, and_true] at e
  rw [← hd] at e
  obtain ⟨e0, e1, e2⟩ := e
  rw [e1] at ir1
  rw [e2] at ir2
  have l1 := ir1.1; have l2 := ir2.1
  exact ⟨_, _, _, _, _, _, by rw [e0], ir1, ir2, by omega, by omega, rfl, ⟨_, _, _, rfl, ir1⟩, trivial⟩
theorem impl_RatSign_c {w : World} {xs : List Value} {dx : List D0} (h : Reps w xs dx) (hc : dx.map D0.code = [.bool, .ints, .ints]) :
    Ret P n_impl_RatSign [.agg ⟨xs⟩] w fun v w' => v = .int .i64 (rsign dx) ∧ Ext w w' := by
  have hr := h; have hcc := hc
  obtain ⟨a0, a1p, a1n, a1c, a1z, a2p, a2n, a2c, a2z, rfl, rfl, ir1, ir2⟩ := open_Rat h hc
  refine impl_RatSign_ret ?_
  unfold impl_RatSign
  intro r w1 hn1
  refine ⟨_, _, _, _, _, _, _, hn1.blk.loadA0 (by kernel_rfl), ?_⟩
  refine Ret.at (impl_RatOk_c (hr.ext hn1.ext) rfl) ?_
  rintro v w2 ⟨hv, y2⟩
  subst hv
  have X2 := hn1.ext.trans y2
  refine ⟨_, rfl, ifN (fun e => ⟨by simp [rsign, e], X2⟩) (fun e => ?_)⟩
  obtain ⟨p1, n1, c1, p2, n2, c2, ev, i1, i2, _, _, he⟩ := rat_parts hr hcc e
  simp only [List.cons.injEq, Value.slice.injEq, Value.bool.injEq, and_true] at ev
  obtain ⟨e0, ⟨rfl, rfl, rfl⟩, rfl, rfl, rfl⟩ := ev
  rw [← e0] at he
  refine ⟨_, _, _, _, (hn1.blk.ext y2).loadAAt 0 [.bool a0, .slice a1p a1n a1c] rfl (by kernel_rfl) rfl, ?_⟩
  refine Ret.at (impl_intSign_c (he.ext X2)) ?_
  rintro v w3 ⟨hv, y3⟩
  subst hv
  exact ⟨_, rfl, by rw [rsign, if_pos e], X2.trans y3⟩
/-- a product of a signed and a natural number, made an integer -/
theorem prod_make {w : World} {n : Int} {d : Nat} {p : Option Addr} {m c : Nat} (h : IntsR w p m c (digs ((n.natAbs : Int) * d).toNat)) (hd : 0 < d) (hl : m ≤ 50) :
    Ret P n_spec_l04Make [.bool (decide (n < 0)), .slice p m c] w fun v w' => ∃ b p n' c, v = .agg ⟨[.bool b, .slice p n' c]⟩ ∧ Reps w' [.bool b, .slice p n' c] (enc (n * d)) ∧ intOk (enc (n * d)) = true ∧ Ext w w' := by
  have hlen := h.1
  refine (spec_l04Make_c h (digs_limbs _)).mono ?_
  rintro v w' ⟨b, p', n', c', hv, hb, ho, y⟩
  have ez : val (digs ((n.natAbs : Int) * d).toNat) = (n.natAbs : Int) * d := val_digsI (Int.mul_nonneg (by omega) (by omega))
  rw [ez] at hb ho
  have ecap : capL (digs ((n.natAbs : Int) * d).toNat) = digs ((n.natAbs : Int) * d).toNat := by unfold capL; rw [if_pos (by omega)]
  rw [ecap] at hb ho
  have ea : (n * d).natAbs = ((n.natAbs : Int) * d).toNat := by
    rw [Int.natAbs_mul, Int.natAbs_natCast, ← Int.natCast_mul, Int.toNat_natCast]
  have eb : (decide (n < 0) && !(digs ((n.natAbs : Int) * d).toNat).isEmpty) = decide (n * d < 0) := by
    rw [isEmpty_digs, ← ea]
    by_cases hn : n < 0
    · have h1 : n * (d : Int) < 0 := Int.mul_neg_of_neg_of_pos hn (by omega)
      have h2 : (n * (d : Int)).natAbs ≠ 0 := by omega
      simp [hn, h1, h2]
    · have h1 : ¬ n * (d : Int) < 0 := Int.not_lt.2 (Int.mul_nonneg (by omega) (by omega))
      simp [hn, h1]
  refine ⟨b, p', n', c', hv, ?_, ?_, y⟩
  · rw [enc, ea, ← eb, ← hb]
    exact ⟨rfl, ⟨_, _, _, rfl, ho.ints⟩, trivial⟩
  · have := icap_ok (n * d)
    rwa [icap_fit (by rw [ea]; omega)] at this
theorem prod_len {x y : Nat} {i j : Nat} (hx : (digs x).length ≤ i) (hy : (digs y).length ≤ j) : (digs (x * y)).length ≤ i + j := by
  apply digs_len
  have h1 := val_lt (digs_limbs x); have h2 := val_lt (digs_limbs y)
  rw [val_digs] at h1 h2
  have h1' : x < 1000000000 ^ i := by
    have : ((x : Nat) : Int) < ((1000000000 ^ (digs x).length : Nat) : Int) := by simpa using h1
    exact Nat.lt_of_lt_of_le (Int.ofNat_lt.1 this) (Nat.pow_le_pow_right (by decide) hx)
  have h2' : y < 1000000000 ^ j := by
    have : ((y : Nat) : Int) < ((1000000000 ^ (digs y).length : Nat) : Int) := by simpa using h2
    exact Nat.lt_of_lt_of_le (Int.ofNat_lt.1 this) (Nat.pow_le_pow_right (by decide) hy)
  rw [Nat.pow_add]
  exact Nat.mul_lt_mul'' h1' h2'
theorem spec_RatCmp_c {w : World} {xs ys : List Value} {dx dy : List D0} (h : Reps w xs dx) (k : Reps w ys dy) (hc : dx.map D0.code = [.bool, .ints, .ints]) (kc : dy.map D0.code = [.bool, .ints, .ints]) :
    Ret P n_spec_RatCmp [.agg ⟨xs⟩, .agg ⟨ys⟩] w fun v w' => v = .int .i64 (rcmp dx dy) ∧ Ext w w' := by
  have hr := h; have hcc := hc; have kr := k; have kcc := kc
  obtain ⟨a0, a1p, a1n, a1c, a1z, a2p, a2n, a2c, a2z, rfl, rfl, ir1, ir2⟩ := open_Rat h hc
  obtain ⟨b0, b1p, b1n, b1c, b1z, b2p, b2n, b2c, b2z, rfl, rfl, jr1, jr2⟩ := open_Rat k kc
  refine spec_RatCmp_ret ?_
  unfold spec_RatCmp
  intro r w1 hn1 s w2 hn2
  have X2 := hn1.ext.trans hn2.ext
  have br := hn1.blk.ext hn2.ext
  refine ⟨_, _, _, _, _, _, _, br.loadA0 (by kernel_rfl), ?_⟩
  refine Ret.at (spec_RatOk_c (hr.ext X2) rfl) ?_
  rintro v w3 ⟨hv, y3⟩
  subst hv
  have X3 := X2.trans y3
  refine ⟨_, rfl, ifN (fun e => ifT ⟨by simp [rcmp, e], X3⟩) (fun e1 => ⟨_, _, _, _, _, _, _, (hn2.blk.ext y3).loadA0 (by kernel_rfl), ?_⟩)⟩
  refine Ret.at (spec_RatOk_c (kr.ext X3) rfl) ?_
  rintro v w4 ⟨hv, y4⟩
  subst hv
  have X4 := X3.trans y4
  refine ⟨_, rfl, ifN (fun e => ⟨by simp [rcmp, e], X4⟩) (fun e2 => ?_)⟩
  have D := Ext.drew w4
  have X5 := X4.trans D
  have br5 := (br.ext (y3.trans y4)).ext D
  have bs5 := (hn2.blk.ext (y3.trans y4)).ext D
  obtain ⟨p1, n1, c1, p2, n2, c2, ev, i1, i2, g1, g2, he⟩ := rat_parts hr hcc e1
  obtain ⟨q1, m1, d1, q2, m2, d2, fv, j1, j2, f1, f2, ke⟩ := rat_parts kr kcc e2
  have hn := (ratOk_enc e1).2; have kn := (ratOk_enc e2).2
  have hrc : rcmp [.bool a0, .ints a1z, .ints a2z] [.bool b0, .ints b1z, .ints b2z] = sgn (ratNum [.bool a0, .ints a1z, .ints a2z] * ratDen [.bool b0, .ints b1z, .ints b2z] - ratNum [.bool b0, .ints b1z, .ints b2z] * ratDen [.bool a0, .ints a1z, .ints a2z]) := by
    unfold rcmp; rw [e1, e2]; rfl
  rw [hrc]
  generalize ratNum [.bool a0, .ints a1z, .ints a2z] = N1 at ev i1 he hn
  generalize ratNum [.bool b0, .ints b1z, .ints b2z] = N2 at fv j1 ke kn
  generalize ratDen [.bool a0, .ints a1z, .ints a2z] = D1 at i2 hn
  generalize ratDen [.bool b0, .ints b1z, .ints b2z] = D2 at j2 kn
  simp only [List.cons.injEq, Value.slice.injEq, Value.bool.injEq, and_true] at ev fv
  obtain ⟨rfl, ⟨rfl, rfl, rfl⟩, rfl, rfl, rfl⟩ := ev
  obtain ⟨rfl, ⟨rfl, rfl, rfl⟩, rfl, rfl, rfl⟩ := fv
  unfold spec_RatCmp_j0
  refine ⟨_, fun W hW => (br5.ext hW).loadAt 0 rfl (by kernel_rfl) rfl, _, _, _, fun W hW => (br5.ext hW).loadAt 1 rfl (by kernel_rfl) rfl, _, _, _, fun W hW => (bs5.ext hW).loadAt 2 rfl (by kernel_rfl) rfl, ?_⟩
  refine Ret.at (spec_l02Mul_c (i1.ext X5) (j2.ext X5) (digs_limbs _) (digs_limbs _) (by omega) (by omega)) ?_
  rintro v w6 ⟨p6, n6, c6, hv, o6, y6⟩
  subst hv
  rw [val_digs, val_digs] at o6
  have l6 := o6.len
  simp only [List.length_map] at l6
  have t6 := prod_len hn.2.2.1 kn.2.2.2
  rw [show N1.natAbs * D2 = ((N1.natAbs : Int) * D2).toNat by rw [← Int.natCast_mul, Int.toNat_natCast]] at t6
  refine ⟨_, _, _, rfl, y6, ?_⟩
  refine Ret.at (prod_make o6.ints kn.1 (by omega)) ?_
  rintro v w7 ⟨b7, p7, n7, c7, hv, r7, k7, y7⟩
  subst hv
  have Y7 := y6.trans y7
  refine ⟨_, _, _, _, rfl, y7, _, fun W hW => (bs5.ext hW).loadAt 0 rfl (by kernel_rfl) rfl, _, _, _, fun W hW => (bs5.ext hW).loadAt 1 rfl (by kernel_rfl) rfl, _, _, _, fun W hW => (br5.ext hW).loadAt 2 rfl (by kernel_rfl) rfl, ?_⟩
  refine Ret.at (spec_l02Mul_c (j1.ext (X5.trans Y7)) (i2.ext (X5.trans Y7)) (digs_limbs _) (digs_limbs _) (by omega) (by omega)) ?_
  rintro v w8 ⟨p8, n8, c8, hv, o8, y8⟩
  subst hv
  rw [val_digs, val_digs] at o8
  have l8 := o8.len
  simp only [List.length_map] at l8
  have t8 := prod_len kn.2.2.1 hn.2.2.2
  rw [show N2.natAbs * D1 = ((N2.natAbs : Int) * D1).toNat by rw [← Int.natCast_mul, Int.toNat_natCast]] at t8
  refine ⟨_, _, _, rfl, y8, ?_⟩
  refine Ret.at (prod_make o8.ints hn.1 (by omega)) ?_
  rintro v w9 ⟨b9, p9, n9, c9, hv, r9, k9, y9⟩
  subst hv
  refine ⟨_, _, _, _, rfl, ?_⟩
  refine Ret.at (spec_IntCmp_c (r7.ext (y8.trans y9)) r9 (enc_code _) (enc_code _)) ?_
  rintro v w10 ⟨hv, y10⟩
  subst hv
  exact ⟨_, rfl, by rw [icmp_enc k7 k9], X5.trans (Y7.trans (y8.trans (y9.trans y10)))⟩
theorem spec_RatSign_c {w : World} {xs : List Value} {dx : List D0} (h : Reps w xs dx) (hc : dx.map D0.code = [.bool, .ints, .ints]) :
    Ret P n_spec_RatSign [.agg ⟨xs⟩] w fun v w' => v = .int .i64 (rsign dx) ∧ Ext w w' := by
  have hr := h
  obtain ⟨a0, a1p, a1n, a1c, a1z, a2p, a2n, a2c, a2z, rfl, rfl, ir1, ir2⟩ := open_Rat h hc
  refine spec_RatSign_ret ?_
  unfold spec_RatSign
  intro r w1 hn1
  have D := Ext.drew w1
  have X := hn1.ext.trans D
  refine ⟨_, _, _, _, _, _, _, fun W hW => ((hn1.blk.ext D).ext hW).loadA0 (by kernel_rfl), ?_⟩
  refine Ret.at (spec_RatZero_c _) ?_
  rintro v w2 ⟨vs, f, hv, ho, _, y2⟩
  subst hv
  have ho' := ho.reps
  obtain ⟨g0, g1p, g1n, g1c, g1z, g2p, g2n, g2c, g2z, rfl, hd, _⟩ := open_Rat ho.reps rfl
  refine ⟨_, _, _, _, _, _, _, rfl, y2, ?_⟩
  refine Ret.at (spec_RatCmp_c (hr.ext (X.trans y2)) ho' rfl rfl) ?_
  rintro v w3 ⟨hv, y3⟩
  subst hv
  exact ⟨_, rfl, by rw [rcmp_zero], X.trans (y2.trans y3)⟩
end Go.Proofs.YtpaekkcgphljoaaDoor

namespace Go.Proofs.YtpaekkcgphljoaaDoor
open Go Go.Proofs.YtpaekkcgphljoaaDoor.Sx
abbrev CurRow := ByteArray × ByteArray × Int × Int
def implTab : List CurRow := [(S [67, 72, 70], S [55, 53, 54], 2, 5), (S [69, 85, 82], S [57, 55, 56], 2, 1), (S [85, 83, 68], S [56, 52, 48], 2, 1), (S [71, 66, 80], S [56, 50, 54], 2, 1), (S [74, 80, 89], S [51, 57, 50], 0, 1), (S [83, 69, 75], S [55, 53, 50], 2, 100), (S [78, 79, 75], S [53, 55, 56], 2, 100), (S [68, 75, 75], S [50, 48, 56], 2, 50), (S [67, 90, 75], S [50, 48, 51], 2, 100), (S [72, 85, 70], S [51, 52, 56], 2, 500), (S [80, 76, 78], S [57, 56, 53], 2, 1), (S [67, 65, 68], S [49, 50, 52], 2, 5), (S [65, 85, 68], S [48, 51, 54], 2, 5), (S [78, 90, 68], S [53, 53, 52], 2, 10), (S [75, 87, 68], S [52, 49, 52], 3, 5), (S [66, 72, 68], S [48, 52, 56], 3, 5), (S [84, 78, 68], S [55, 56, 56], 3, 10), (S [73, 83, 75], S [51, 53, 50], 0, 1), (S [75, 82, 87], S [52, 49, 48], 0, 10), (S [67, 76, 70], S [57, 57, 48], 4, 1)]
def specTab : List CurRow := [(S [65, 85, 68], S [48, 51, 54], 2, 5), (S [66, 72, 68], S [48, 52, 56], 3, 5), (S [67, 65, 68], S [49, 50, 52], 2, 5), (S [67, 72, 70], S [55, 53, 54], 2, 5), (S [67, 76, 70], S [57, 57, 48], 4, 1), (S [67, 90, 75], S [50, 48, 51], 2, 100), (S [68, 75, 75], S [50, 48, 56], 2, 50), (S [69, 85, 82], S [57, 55, 56], 2, 1), (S [71, 66, 80], S [56, 50, 54], 2, 1), (S [72, 85, 70], S [51, 52, 56], 2, 500), (S [73, 83, 75], S [51, 53, 50], 0, 1), (S [74, 80, 89], S [51, 57, 50], 0, 1), (S [75, 82, 87], S [52, 49, 48], 0, 10), (S [75, 87, 68], S [52, 49, 52], 3, 5), (S [78, 79, 75], S [53, 55, 56], 2, 100), (S [78, 90, 68], S [53, 53, 52], 2, 10), (S [80, 76, 78], S [57, 56, 53], 2, 1), (S [83, 69, 75], S [55, 53, 50], 2, 100), (S [84, 78, 68], S [55, 56, 56], 3, 10), (S [85, 83, 68], S [56, 52, 48], 2, 1)]
theorem und_T_impl_currency : ∃ fs, Tryd.prog.underlying T_impl_currency = some (.struct fs) := ⟨_, Tryd.underlying157⟩
theorem und_T_20_impl_currency : Tryd.prog.underlying T_20_impl_currency = some (.array 20 T_impl_currency) := Tryd.underlying178
theorem cur_fields : ∃ fs : Array Field, Tryd.prog.underlying T_impl_currency = some (.struct fs) ∧ fs.size = 4 ∧ (∃ f, fs[0]? = some f ∧ f.type = T_string ∧ f.offset = 0) ∧ (∃ f, fs[1]? = some f ∧ f.type = T_string ∧ f.offset = 1) ∧ (∃ f, fs[2]? = some f ∧ f.type = T_int ∧ f.offset = 2) ∧ (∃ f, fs[3]? = some f ∧ f.type = T_int ∧ f.offset = 3) :=
  ⟨_, Tryd.underlying157, rfl, ⟨_, rfl, rfl, rfl⟩, ⟨_, rfl, rfl, rfl⟩, ⟨_, rfl, rfl, rfl⟩, ⟨_, rfl, rfl, rfl⟩⟩
end Go.Proofs.YtpaekkcgphljoaaDoor

namespace Go.Proofs.YtpaekkcgphljoaaDoor
open Go Go.Proofs.YtpaekkcgphljoaaDoor.Sx
set_option linter.unusedVariables false
set_option linter.unusedSimpArgs false
def curCells (r : CurRow) : List Value := [.string r.1, .string r.2.1, .int .i64 r.2.2.1, .int .i64 r.2.2.2]
def curZero : CurRow := (ByteArray.empty, ByteArray.empty, 0, 0)
def curFind : List CurRow → ByteArray → CurRow
  | [], _ => curZero
  | r :: l, c => if r.1 = c then r else curFind l c
def curIn (l : List CurRow) (c : ByteArray) : Bool := l.any fun r => decide (r.1 = c)
def curKnown (c : ByteArray) : Bool := curIn implTab c
/-- the program's table lies in its variable -/
def Tab (w : World) : Prop := Seg w 0 0 (implTab.flatMap curCells)
theorem Tab.ext {w w' : World} (h : Tab w) (he : Ext w w') : Tab w' := Seg.ext h he
theorem curIn_drop {l : List CurRow} {c : ByteArray} {j : Nat} (hj : j < l.length) : curIn (l.drop j) c = (decide ((l[j]'hj).1 = c) || curIn (l.drop (j + 1)) c) := by
  rw [List.drop_eq_getElem_cons hj, curIn, List.any_cons]; rfl
theorem curFind_drop {l : List CurRow} {c : ByteArray} {j : Nat} (hj : j < l.length) : curFind (l.drop j) c = if (l[j]'hj).1 = c then l[j]'hj else curFind (l.drop (j + 1)) c := by
  rw [List.drop_eq_getElem_cons hj, curFind]
theorem curFind_fst {c : ByteArray} : ∀ {l : List CurRow}, (∀ r ∈ l, r.1 ≠ ByteArray.empty) → decide ((curFind l c).1 ≠ ByteArray.empty) = curIn l c
  | [], _ => by simp [curFind, curIn, curZero]
  | r :: l, h => by
    unfold curFind
    have hr := h r (.head _)
    have ih := curFind_fst (c := c) fun r hr => h r (.tail _ hr)
    rw [curIn, List.any_cons]
    by_cases he : r.1 = c
    · rw [if_pos he, decide_eq_true hr]; simp [he]
    · rw [if_neg he, ih]; simp [he, curIn]
theorem flat_row : ∀ (l : List CurRow) (j : Nat) (hj : j < l.length), ((l.flatMap curCells).drop (j * 4)).take 4 = curCells (l[j]'hj)
  | r :: l, 0, _ => by simp [List.flatMap_cons, curCells]
  | r :: l, j + 1, hj => by
    have := flat_row l j (by simpa using hj)
    rw [List.flatMap_cons, show (j + 1) * 4 = 4 + j * 4 by omega, ← List.drop_drop, List.drop_left' (show (curCells r).length = 4 from rfl), this]
    rfl
theorem flat_length : ∀ (l : List CurRow), (l.flatMap curCells).length = l.length * 4
  | [] => rfl
  | r :: l => by rw [List.flatMap_cons, List.length_append, flat_length l, List.length_cons]; simp [curCells]; omega
theorem impl_length : implTab.length = 20 := rfl
set_option maxRecDepth 100000 in
theorem index_cur {j : Nat} (hj : j < implTab.length) {K : Value → Prop} (h : K (.agg ⟨curCells (implTab[j]'hj)⟩)) : indexS P T_20_impl_currency (.agg ⟨implTab.flatMap curCells⟩) (.int .i64 (j : Nat)) K := by
  have hu : P.underlying T_20_impl_currency = some (.array 20 T_impl_currency) := und_T_20_impl_currency
  have hc : P.cellsOf T_impl_currency = 4 := by kernel_rfl
  obtain ⟨fs, hs⟩ := und_T_impl_currency
  have hs : P.underlying T_impl_currency = some (.struct fs) := hs
  have hl := impl_length
  unfold indexS
  rw [hu]
  refine ⟨⟨by omega, by omega⟩, _, ?_, h⟩
  unfold partS
  rw [hs, hc]
  show Value.agg ⟨((implTab.flatMap curCells).drop (((j : Nat) : Int).toNat * 4)).take 4⟩ = _
  rw [Int.toNat_natCast, flat_row]
set_option maxRecDepth 100000 in
theorem impl_currencyOf_c {w : World} (ht : Tab w) (c : ByteArray) :
    Ret P n_impl_currencyOf [.string c] w fun v w' => v = .tuple #[.agg ⟨curCells (curFind implTab c)⟩, .bool (curKnown c)] ∧ Ext w w' := by
  have hlen := impl_length
  refine impl_currencyOf_ret ?_
  unfold impl_currencyOf
  intro r w1 hn1
  have e1 := hn1.r_eq; have s1 := hn1.size
  refine ⟨_, loadsA (by rw [flat_length]; kernel_rfl) (ht.ext hn1.ext), ?_⟩
  refine ⟨fun i wr => ∃ j : Nat, i = j ∧ j ≤ 20 ∧ Ext w1 wr ∧ curFind implTab c = curFind (implTab.drop j) c ∧ curKnown c = curIn (implTab.drop j) c, fun i _ => 20 - i.toNat, ⟨0, rfl, by omega, Ext.refl _, rfl, rfl⟩, ?_⟩
  intro junk wr i ⟨j, hij, hj, hx, hf, hk⟩
  subst hij
  have lx := hx.le
  refine ifD (fun hlt => ?_) (fun hge => ?_)
  · have hjl : j < implTab.length := by omega
    rw [curFind_drop hjl] at hf
    rw [curIn_drop hjl] at hk
    apply index_cur hjl
    intro r1 w2 hn2
    obtain ⟨w3, st, hb3, y3⟩ := hn2.fill (P := P) (t := T_impl_currency) (xs := curCells (implTab[j]'hjl)) (by simp [curCells, Value.oneCell']) (by kernel_rfl) rfl
    refine ⟨w3, st, _, hb3.loadAt 0 rfl (by kernel_rfl) rfl, ifD (fun heq => ?_) (fun hne => ?_)⟩
    · have hf := hf.trans (if_pos heq)
      rw [decide_eq_true heq, Bool.true_or] at hk
      obtain ⟨w4, st4, hb4, ch, sz⟩ := (hn1.blk.ext (hx.trans y3)).storeA0 (P := P) (t := T_impl_currency) (xs := curCells (implTab[j]'hjl)) (by kernel_rfl) rfl (by simp [curCells, Value.oneCell'])
      refine ⟨_, _, _, _, hb3.loadA0 (by kernel_rfl), w4, st4, _, _, _, _, hb4.loadA0 (by kernel_rfl), ?_, ((hn1.ext.trans hx).trans y3).chg ch (by simp; omega)⟩
      rw [hf, hk]; rfl
    · have hf := hf.trans (if_neg hne)
      rw [decide_eq_false hne, Bool.false_or] at hk
      refine exW ⟨by omega, by omega⟩ ⟨⟨j + 1, by omega, by omega, hx.trans y3, hf, hk⟩, ?_⟩
      show 20 - ((j : Int) + 1).toNat < 20 - (j : Int).toNat
      omega
  · rw [List.drop_of_length_le (by omega)] at hf hk
    obtain ⟨w4, st4, hb4, ch, sz⟩ := (hn1.blk.ext hx).storeA0 (P := P) (t := T_impl_currency) (xs := curCells curZero) (by kernel_rfl) rfl (by simp [curCells, Value.oneCell'])
    refine ⟨w4, st4, _, _, _, _, hb4.loadA0 (by kernel_rfl), ?_, (hn1.ext.trans hx).chg ch (by simp; omega)⟩
    rw [hf, hk]; rfl
theorem impl_CurKnown_c {w : World} (ht : Tab w) (c : ByteArray) :
    Ret P n_impl_CurKnown [.string c] w fun v w' => v = .bool (curKnown c) ∧ Ext w w' := by
  refine impl_CurKnown_ret ?_
  unfold impl_CurKnown
  refine Ret.at (impl_currencyOf_c ht c) ?_
  rintro v w1 ⟨hv, y1⟩
  subst hv
  refine ⟨_, _, _, _, _, rfl, ?_⟩
  intro r w2 hn2
  obtain ⟨w3, st, hb3, y3⟩ := hn2.fill (P := P) (t := T_impl_currency) (xs := curCells (curFind implTab c)) (by simp [curCells, Value.oneCell']) (by kernel_rfl) rfl
  exact ⟨w3, st, rfl, y1.trans y3⟩
theorem spec_nonempty : ∀ r ∈ specTab, r.1 ≠ ByteArray.empty := by
  have : (specTab.all fun r => decide (r.1 ≠ ByteArray.empty)) = true := by decide +kernel
  intro r hr
  rw [List.all_eq_true] at this
  exact of_decide_eq_true (this r hr)
theorem spec_known (c : ByteArray) : curIn specTab c = curKnown c := by
  have h1 : (specTab.all fun r => curIn implTab r.1) = true := by decide +kernel
  have h2 : (implTab.all fun r => curIn specTab r.1) = true := by decide +kernel
  rw [List.all_eq_true] at h1 h2
  have key : ∀ {a b : List CurRow}, (∀ r ∈ a, curIn b r.1 = true) → curIn a c = true → curIn b c = true := by
    intro a b h hc
    unfold curIn at hc
    rw [List.any_eq_true] at hc
    obtain ⟨r, hr, he⟩ := hc
    have he := of_decide_eq_true he
    have := h r hr
    rwa [he] at this
  unfold curKnown
  cases h3 : curIn specTab c with
  | true => exact (key h1 h3).symm
  | false =>
    cases h4 : curIn implTab c with
    | false => rfl
    | true => rw [key h2 h4] at h3; cases h3
theorem spec_length : specTab.length = 20 := rfl
theorem spec_l08Find_c {w : World} (c : ByteArray) :
    Ret P n_spec_l08Find [.string c] w fun v w' => v = .agg ⟨curCells (curFind specTab c)⟩ ∧ Ext w w' := by
  have hlen := spec_length
  refine spec_l08Find_ret ?_
  unfold spec_l08Find
  intro r w1 hn1
  have e1 := hn1.r_eq; have s1 := hn1.size
  refine Ret.at (R := fun v w' => ∃ r, v = .slice (some ⟨r, 0, none⟩) 20 20 ∧ Seg w' r 0 (specTab.flatMap curCells) ∧ Ext w1 w') ?_ ?_
  · refine spec_l08Table_ret ?_
    unfold spec_l08Table
    intro r2 w2 hn2
    exact ⟨r2, rfl, hn2.blk.seg, hn2.ext⟩
  rintro v w2 ⟨r2, hv, hseg, y2⟩
  subst hv
  refine ⟨_, _, _, rfl, ?_⟩
  refine ⟨fun i wr => ∃ j : Nat, i = j ∧ j ≤ 20 ∧ Ext w2 wr ∧ curFind specTab c = curFind (specTab.drop j) c, fun i _ => 20 - i.toNat, ⟨0, rfl, by omega, Ext.refl _, rfl⟩, ?_⟩
  intro junk wr i ⟨j, hij, hj, hx, hf⟩
  subst hij
  have lx := hx.le; have ly := y2.le
  refine ifD (fun hlt => ?_) (fun hge => ?_)
  · have hjl : j < specTab.length := by omega
    rw [curFind_drop hjl] at hf
    have hrow : Seg wr r2 (0 + j * 4) (curCells (specTab[j]'hjl)) := by
      rw [← flat_row specTab j hjl]
      exact ((hseg.ext hx).drop (j * 4)).take 4
    refine ⟨⟨by omega, by omega⟩, _, _, _, _, (by simp only [addr_add, Int.toNat_natCast]; exact loadsA (cs := curCells (specTab[j]'hjl)) (by kernel_rfl) hrow), ?_⟩
    intro r1 w3 hn3
    obtain ⟨w4, st, hb4, y4⟩ := hn3.fill (P := P) (t := T_spec_l08Row) (xs := curCells (specTab[j]'hjl)) (by simp [curCells, Value.oneCell']) (by kernel_rfl) rfl
    refine ⟨w4, st, _, hb4.loadAt 0 rfl (by kernel_rfl) rfl, ifD (fun heq => ?_) (fun hne => ?_)⟩
    · have hf := hf.trans (if_pos heq)
      obtain ⟨w5, st5, hb5, ch, sz⟩ := (hn1.blk.ext ((y2.trans hx).trans y4)).storeA0 (P := P) (t := T_spec_l08Row) (xs := curCells (specTab[j]'hjl)) (by kernel_rfl) rfl (by simp [curCells, Value.oneCell'])
      refine ⟨_, _, _, _, hb4.loadA0 (by kernel_rfl), w5, st5, _, _, _, _, hb5.loadA0 (by kernel_rfl), ?_, (((hn1.ext.trans y2).trans hx).trans y4).chg ch (by simp; omega)⟩
      rw [hf]; rfl
    · have hf := hf.trans (if_neg hne)
      refine exW ⟨by omega, by omega⟩ ⟨⟨j + 1, by omega, by omega, hx.trans y4, hf⟩, ?_⟩
      show 20 - ((j : Int) + 1).toNat < 20 - (j : Int).toNat
      omega
  · rw [List.drop_of_length_le (by omega)] at hf
    obtain ⟨w4, st4, hb4, ch, sz⟩ := (hn1.blk.ext (y2.trans hx)).storeA0 (P := P) (t := T_spec_l08Row) (xs := curCells curZero) (by kernel_rfl) rfl (by simp [curCells, Value.oneCell'])
    refine ⟨w4, st4, _, _, _, _, hb4.loadA0 (by kernel_rfl), ?_, ((hn1.ext.trans y2).trans hx).chg ch (by simp; omega)⟩
    rw [hf]; rfl
theorem spec_CurKnown_c {w : World} (c : ByteArray) :
    Ret P n_spec_CurKnown [.string c] w fun v w' => v = .bool (curKnown c) ∧ Ext w w' := by
  refine spec_CurKnown_ret ?_
  unfold spec_CurKnown
  refine Ret.at (spec_l08Find_c c) ?_
  rintro v w1 ⟨hv, y1⟩
  subst hv
  refine ⟨_, _, _, _, rfl, ?_, y1⟩
  rw [← spec_known, ← curFind_fst spec_nonempty]
  rfl
end Go.Proofs.YtpaekkcgphljoaaDoor

namespace Go.Proofs.YtpaekkcgphljoaaDoor
open Go Go.Proofs.YtpaekkcgphljoaaDoor.Sx
set_option linter.unusedVariables false
set_option linter.unusedSimpArgs false
def bName : List D0 → ByteArray
  | .str s :: _ => s
  | _ => ByteArray.empty
theorem range_no {f : Nat → Bool} {n i : Nat} (hi : i < n) (h : f i = false) : (List.range n).all f = false := by
  rw [Bool.eq_false_iff]
  intro ha
  rw [List.all_eq_true] at ha
  have := ha i (List.mem_range.2 hi)
  rw [h] at this; cases this
theorem range_yes {f : Nat → Bool} {n : Nat} (h : ∀ i < n, f i = true) : (List.range n).all f = true := by
  rw [List.all_eq_true]
  exact fun i hi => h i (List.mem_range.1 hi)
theorem getD_row {l : List (List D0)} {i : Nat} (h : i < l.length) : l.getD i [] = l[i]'h := by
  rw [List.getD_eq_getElem?_getD, List.getElem?_eq_getElem h]; rfl
end Go.Proofs.YtpaekkcgphljoaaDoor

namespace Go.Proofs.YtpaekkcgphljoaaDoor
open Go Go.Proofs.YtpaekkcgphljoaaDoor.Sx
set_option linter.unusedVariables false
set_option linter.unusedSimpArgs false
def restOk : List D0 → Bool
  | [.str c, .bool s, .ints x, .ints y] => curKnown c && ratOk [.bool s, .ints x, .ints y] && !(decide (rsign [.bool s, .ints x, .ints y] = 0))
  | _ => false
def restRowOk (l : List (List D0)) (i : Nat) : Bool := restOk (l.getD i []) && !(decide (0 < i) && !(Op.bytesLess (bName (l.getD (i - 1) [])).toList (bName (l.getD i [])).toList))
def restsOk (l : List (List D0)) : Bool := (List.range l.length).all (restRowOk l)
theorem spec_RestsOk_c {w : World} {p : Option Addr} {n c : Nat} {l : List (List D0)} (h : RowsR w 4 p n c l) (hc : ∀ x ∈ l, x.map D0.code = [.str, .bool, .ints, .ints]) (hn : n ≤ 1048576) (hb : ∀ x ∈ l, bulks x ≤ 1048576) :
    Ret P n_spec_RestsOk [.slice p n c] w fun v w' => v = .bool (restsOk l) ∧ Ext w w' := by
  have hz := h.1; have hcap := h.2.1; have hcm := h.2.2.1
  refine spec_RestsOk_ret ?_
  unfold spec_RestsOk
  refine ⟨fun i wr => ∃ j : Nat, i = j ∧ j ≤ n ∧ Ext w wr ∧ ∀ i < j, restRowOk l i = true, fun i _ => n - i.toNat, ⟨0, rfl, by omega, Ext.refl _, fun i h => absurd h (by omega)⟩, ?_⟩
  intro junk wr i ⟨j, hij, hj, hx, hall⟩
  subst hij
  refine ifD (fun hlt => ?_) (fun hge => ?_)
  · have hjn : j < n := by omega
    have hjl : j < l.length := by omega
    obtain ⟨b, off, hpp, hs⟩ := (h.ext hx).2.2.2 (by omega)
    subst hpp
    obtain ⟨cs, hk, hr, hsg⟩ := hs j _ (List.getElem?_eq_getElem hjl)
    have hrr := hr; have hcode := hc _ (List.getElem_mem hjl); have hbj := hb _ (List.getElem_mem hjl)
    obtain ⟨a0, a1, a2p, a2n, a2c, a2z, a3p, a3n, a3c, a3z, rfl, hd, ir2, ir3⟩ := open_Rest hr hcode
    have hgd : l.getD j [] = [.str a0, .bool a1, .ints a2z, .ints a3z] := by rw [getD_row hjl, hd]
    rw [hd] at hbj
    simp only [bulks, D0.bulk, List.map_cons, List.map_nil, List.sum_cons, List.sum_nil] at hbj
    have first : ∀ i (hi : i < l.length), ∀ W, Ext wr W → Loads P T_string (((⟨b, off, none⟩ : Addr).add (i * 4)).add 0) (.string (bName (l.getD i []))) W := by
      intro i hi W hW
      obtain ⟨cs, hk, hr, hsg⟩ := hs i _ (List.getElem?_eq_getElem hi)
      obtain ⟨a0, a1, a2p, a2n, a2c, a2z, a3p, a3n, a3c, a3z, rfl, hd, _⟩ := open_Rest hr (hc _ (List.getElem_mem hi))
      rw [getD_row hi, hd]
      exact (hsg.ext hW).loadAt 0 (by simp [Addr.add]) (by kernel_rfl) rfl
    have bad : restRowOk l j = false → restsOk l = false := fun h => range_no hjl h
    have hl : Loads P T_impl_Rest ((⟨b, off, none⟩ : Addr).add (j * 4)) (.agg ⟨[.string a0, .bool a1, .slice a2p a2n a2c, .slice a3p a3n a3c]⟩) wr := by
      rw [addr_add]; exact loadsA (by kernel_rfl) hsg
    refine ⟨⟨by omega, by omega⟩, _, _, _, _, _, _, _, _, by simpa using hl, ?_⟩
    intro r1 w2 hn2
    obtain ⟨w3, st, hb3, y3⟩ := hn2.fill (P := P) (t := T_impl_Rest) hrr.cells1 (by kernel_rfl) rfl
    have D := Ext.drew w3
    have y4 := y3.trans D
    have hb4 := hb3.ext D
    have X4 := hx.trans y4
    refine ⟨w3, st, _, fun W hW => (hb4.ext hW).loadAt 0 rfl (by kernel_rfl) rfl, ?_⟩
    refine Ret.at (spec_CurKnown_c a0) ?_
    rintro v w4 ⟨hv, z4⟩
    subst hv
    have X5 := X4.trans z4
    have hb5 := hb4.ext z4
    refine ⟨_, rfl, ifN (fun hno => ifT (ifT (ifT ⟨by rw [bad (by simp only [restRowOk, hgd, restOk, hno, Bool.false_and])], X5⟩))) (fun h1 => ?_)⟩
    have hm : ∀ {W}, Ext wr W → Reps W [.bool a1, .slice a2p a2n a2c, .slice a3p a3n a3c] [.bool a1, .ints a2z, .ints a3z] := fun hW => ⟨rfl, ⟨_, _, _, rfl, ir2.ext hW⟩, ⟨_, _, _, rfl, ir3.ext hW⟩, trivial⟩
    refine ⟨_, _, _, _, _, _, _, fun W hW => (hb5.ext hW).loadAAt 1 [.bool a1, .slice a2p a2n a2c, .slice a3p a3n a3c] rfl (by kernel_rfl) rfl, ?_⟩
    refine Ret.at (spec_RatOk_c (hm (y4.trans z4)) rfl) ?_
    rintro v w5 ⟨hv, z5⟩
    subst hv
    have X6 := X5.trans z5
    have hb6 := hb5.ext z5
    refine ⟨_, rfl, ifN (fun hno => ifT (ifT ⟨by rw [bad (by simp only [restRowOk, hgd, restOk, hno, Bool.and_false, Bool.false_and])], X6⟩)) (fun h2 => ?_)⟩
    refine ⟨_, _, _, _, _, _, _, fun W hW => (hb6.ext hW).loadAAt 1 [.bool a1, .slice a2p a2n a2c, .slice a3p a3n a3c] rfl (by kernel_rfl) rfl, ?_⟩
    refine Ret.at (spec_RatSign_c (hm ((y4.trans z4).trans z5)) rfl) ?_
    rintro v w6 ⟨hv, z6⟩
    subst hv
    have Z := ((y4.trans z4).trans z5).trans z6
    have X7 := X6.trans z6
    have hb7 := hb6.ext z6
    refine ⟨_, rfl, ifD (fun hno => ifT ⟨by rw [bad (by simp only [restRowOk, hgd, restOk, decide_eq_true hno, Bool.not_true, Bool.and_false, Bool.false_and])], X7⟩) (fun h3 => ?_)⟩
    have next : restRowOk l j = true → ∃ t48 : Int, t48 = IntKind.wrap .i64 ((j : Int) + 1) ∧ (fun (i : Int) (wr : World) => ∃ j : Nat, i = j ∧ j ≤ n ∧ Ext w wr ∧ ∀ i < j, restRowOk l i = true) t48 w6 ∧ (fun (i : Int) (_ : World) => n - i.toNat) t48 w6 < (fun (i : Int) (_ : World) => n - i.toNat) (j : Int) wr := by
      intro hs
      refine exW ⟨by omega, by omega⟩ ⟨⟨j + 1, by omega, by omega, X7, fun i hi => ?_⟩, ?_⟩
      · rcases Nat.lt_or_ge i j with h | h
        · exact hall i h
        · have : i = j := by omega
          subst this; exact hs
      · show n - ((j : Int) + 1).toNat < n - (j : Int).toNat
        omega
    have hleg : restOk (l.getD j []) = true := by rw [hgd]; simp only [restOk, h1, h2, decide_eq_false h3, Bool.and_self, Bool.not_false]
    refine ifD (fun hpos => ?_) (fun hzero => ifF (next ?_))
    · refine exW ⟨by omega, by omega⟩ ⟨⟨by omega, by omega⟩, bName (l.getD (j - 1) []), fun W hW => ?_, a0, fun W hW => (hb7.ext hW).loadAt 0 rfl (by kernel_rfl) rfl, fun hle => ⟨?_, X7⟩, fun hgt => next ?_⟩
      · have := first (j - 1) (by omega) W (Z.trans hW)
        rw [show ((j : Int) - 1).toNat = j - 1 by omega]
        exact this
      · rw [bad]
        unfold restRowOk
        rw [hleg, hgd, decide_eq_true (show 0 < j by omega)]
        rw [show (!(Op.bytesLess (bName (l.getD (j - 1) [])).toList (bName [.str a0, .bool a1, .ints a2z, .ints a3z]).toList)) = true from hle]
        rfl
      · unfold restRowOk
        rw [hleg, hgd, decide_eq_true (show 0 < j by omega)]
        rw [show (!(Op.bytesLess (bName (l.getD (j - 1) [])).toList (bName [.str a0, .bool a1, .ints a2z, .ints a3z]).toList)) = false from hgt]
        rfl
    · unfold restRowOk
      rw [hleg, decide_eq_false (show ¬ 0 < j by omega)]
      rfl
  · refine ⟨?_, hx⟩
    unfold restsOk
    rw [range_yes (fun i hi => hall i (by omega))]
theorem impl_RestsOk_c {w : World} {p : Option Addr} {n c : Nat} {l : List (List D0)} (h : RowsR w 4 p n c l) (hc : ∀ x ∈ l, x.map D0.code = [.str, .bool, .ints, .ints]) (hn : n ≤ 1048576) (hb : ∀ x ∈ l, bulks x ≤ 1048576) (ht : Tab w) :
    Ret P n_impl_RestsOk [.slice p n c] w fun v w' => v = .bool (restsOk l) ∧ Ext w w' := by
  have hz := h.1; have hcap := h.2.1; have hcm := h.2.2.1
  refine impl_RestsOk_ret ?_
  unfold impl_RestsOk
  refine ⟨fun i wr => ∃ j : Nat, i = j ∧ j ≤ n ∧ Ext w wr ∧ ∀ i < j, restRowOk l i = true, fun i _ => n - i.toNat, ⟨0, rfl, by omega, Ext.refl _, fun i h => absurd h (by omega)⟩, ?_⟩
  intro junk wr i ⟨j, hij, hj, hx, hall⟩
  subst hij
  refine ifD (fun hlt => ?_) (fun hge => ?_)
  · have hjn : j < n := by omega
    have hjl : j < l.length := by omega
    obtain ⟨b, off, hpp, hs⟩ := (h.ext hx).2.2.2 (by omega)
    subst hpp
    obtain ⟨cs, hk, hr, hsg⟩ := hs j _ (List.getElem?_eq_getElem hjl)
    have hrr := hr; have hcode := hc _ (List.getElem_mem hjl); have hbj := hb _ (List.getElem_mem hjl)
    obtain ⟨a0, a1, a2p, a2n, a2c, a2z, a3p, a3n, a3c, a3z, rfl, hd, ir2, ir3⟩ := open_Rest hr hcode
    have hgd : l.getD j [] = [.str a0, .bool a1, .ints a2z, .ints a3z] := by rw [getD_row hjl, hd]
    rw [hd] at hbj
    simp only [bulks, D0.bulk, List.map_cons, List.map_nil, List.sum_cons, List.sum_nil] at hbj
    have first : ∀ i (hi : i < l.length), ∀ W, Ext wr W → Loads P T_string (((⟨b, off, none⟩ : Addr).add (i * 4)).add 0) (.string (bName (l.getD i []))) W := by
      intro i hi W hW
      obtain ⟨cs, hk, hr, hsg⟩ := hs i _ (List.getElem?_eq_getElem hi)
      obtain ⟨a0, a1, a2p, a2n, a2c, a2z, a3p, a3n, a3c, a3z, rfl, hd, _⟩ := open_Rest hr (hc _ (List.getElem_mem hi))
      rw [getD_row hi, hd]
      exact (hsg.ext hW).loadAt 0 (by simp [Addr.add]) (by kernel_rfl) rfl
    have bad : restRowOk l j = false → restsOk l = false := fun h => range_no hjl h
    have hl : Loads P T_impl_Rest ((⟨b, off, none⟩ : Addr).add (j * 4)) (.agg ⟨[.string a0, .bool a1, .slice a2p a2n a2c, .slice a3p a3n a3c]⟩) wr := by
      rw [addr_add]; exact loadsA (by kernel_rfl) hsg
    refine ⟨⟨by omega, by omega⟩, _, _, _, _, _, _, _, _, by simpa using hl, ?_⟩
    intro r1 w2 hn2
    obtain ⟨w3, st, hb3, y3⟩ := hn2.fill (P := P) (t := T_impl_Rest) hrr.cells1 (by kernel_rfl) rfl
    have D := Ext.drew w3
    have y4 := y3.trans D
    have hb4 := hb3.ext D
    have X4 := hx.trans y4
    refine ⟨w3, st, _, fun W hW => (hb4.ext hW).loadAt 0 rfl (by kernel_rfl) rfl, ?_⟩
    refine Ret.at (impl_CurKnown_c (ht.ext X4) a0) ?_
    rintro v w4 ⟨hv, z4⟩
    subst hv
    have X5 := X4.trans z4
    have hb5 := hb4.ext z4
    refine ⟨_, rfl, ifN (fun hno => ifT (ifT (ifT ⟨by rw [bad (by simp only [restRowOk, hgd, restOk, hno, Bool.false_and])], X5⟩))) (fun h1 => ?_)⟩
    have hm : ∀ {W}, Ext wr W → Reps W [.bool a1, .slice a2p a2n a2c, .slice a3p a3n a3c] [.bool a1, .ints a2z, .ints a3z] := fun hW => ⟨rfl, ⟨_, _, _, rfl, ir2.ext hW⟩, ⟨_, _, _, rfl, ir3.ext hW⟩, trivial⟩
    refine ⟨_, _, _, _, _, _, _, fun W hW => (hb5.ext hW).loadAAt 1 [.bool a1, .slice a2p a2n a2c, .slice a3p a3n a3c] rfl (by kernel_rfl) rfl, ?_⟩
    refine Ret.at (impl_RatOk_c (hm (y4.trans z4)) rfl) ?_
    rintro v w5 ⟨hv, z5⟩
    subst hv
    have X6 := X5.trans z5
    have hb6 := hb5.ext z5
    refine ⟨_, rfl, ifN (fun hno => ifT (ifT ⟨by rw [bad (by simp only [restRowOk, hgd, restOk, hno, Bool.and_false, Bool.false_and])], X6⟩)) (fun h2 => ?_)⟩
    refine ⟨_, _, _, _, _, _, _, fun W hW => (hb6.ext hW).loadAAt 1 [.bool a1, .slice a2p a2n a2c, .slice a3p a3n a3c] rfl (by kernel_rfl) rfl, ?_⟩
    refine Ret.at (impl_RatSign_c (hm ((y4.trans z4).trans z5)) rfl) ?_
    rintro v w6 ⟨hv, z6⟩
    subst hv
    have Z := ((y4.trans z4).trans z5).trans z6
    have X7 := X6.trans z6
    have hb7 := hb6.ext z6
    refine ⟨_, rfl, ifD (fun hno => ifT ⟨by rw [bad (by simp only [restRowOk, hgd, restOk, decide_eq_true hno, Bool.not_true, Bool.and_false, Bool.false_and])], X7⟩) (fun h3 => ?_)⟩
    have next : restRowOk l j = true → ∃ t48 : Int, t48 = IntKind.wrap .i64 ((j : Int) + 1) ∧ (fun (i : Int) (wr : World) => ∃ j : Nat, i = j ∧ j ≤ n ∧ Ext w wr ∧ ∀ i < j, restRowOk l i = true) t48 w6 ∧ (fun (i : Int) (_ : World) => n - i.toNat) t48 w6 < (fun (i : Int) (_ : World) => n - i.toNat) (j : Int) wr := by
      intro hs
      refine exW ⟨by omega, by omega⟩ ⟨⟨j + 1, by omega, by omega, X7, fun i hi => ?_⟩, ?_⟩
      · rcases Nat.lt_or_ge i j with h | h
        · exact hall i h
        · have : i = j := by omega
          subst this; exact hs
      · show n - ((j : Int) + 1).toNat < n - (j : Int).toNat
        omega
    have hleg : restOk (l.getD j []) = true := by rw [hgd]; simp only [restOk, h1, h2, decide_eq_false h3, Bool.and_self, Bool.not_false]
    refine ifD (fun hpos => ?_) (fun hzero => ifF (next ?_))
    · refine exW ⟨by omega, by omega⟩ ⟨⟨by omega, by omega⟩, bName (l.getD (j - 1) []), fun W hW => ?_, a0, fun W hW => (hb7.ext hW).loadAt 0 rfl (by kernel_rfl) rfl, fun hle => ⟨?_, X7⟩, fun hgt => next ?_⟩
      · have := first (j - 1) (by omega) W (Z.trans hW)
        rw [show ((j : Int) - 1).toNat = j - 1 by omega]
        exact this
      · rw [bad]
        unfold restRowOk
        rw [hleg, hgd, decide_eq_true (show 0 < j by omega)]
        rw [show (!(Op.bytesLess (bName (l.getD (j - 1) [])).toList (bName [.str a0, .bool a1, .ints a2z, .ints a3z]).toList)) = true from hle]
        rfl
      · unfold restRowOk
        rw [hleg, hgd, decide_eq_true (show 0 < j by omega)]
        rw [show (!(Op.bytesLess (bName (l.getD (j - 1) [])).toList (bName [.str a0, .bool a1, .ints a2z, .ints a3z]).toList)) = false from hgt]
        rfl
    · unfold restRowOk
      rw [hleg, decide_eq_false (show ¬ 0 < j by omega)]
      rfl
  · refine ⟨?_, hx⟩
    unfold restsOk
    rw [range_yes (fun i hi => hall i (by omega))]
end Go.Proofs.YtpaekkcgphljoaaDoor

namespace Go.Proofs.YtpaekkcgphljoaaDoor
open Go Go.Proofs.YtpaekkcgphljoaaDoor.Sx
set_option linter.unusedVariables false
set_option linter.unusedSimpArgs false
theorem laws_markIntS_c {w : World} {B : Nat} {p : Option Addr} {n c : Nat} {zs : List Int} {k : Int} (h : Own w B T_int 1 p n c (zs.map (Value.int .i64))) (h0 : 0 ≤ k) (h1 : k + n ≤ 9223372036854775807) :
    Ret P n_laws_markIntS [.slice p n c, .int .i64 k] w fun v w' => v = .int .i64 (k + n) ∧ Own w' B T_int 1 p n c ((mkI n k).map (Value.int .i64)) ∧ Chg (p.map (·.block)).toList w w' := by
  have hz : zs.length = n := by have := h.len; simpa using this
  have hcap := h.le
  refine laws_markIntS_ret ?_
  unfold laws_markIntS
  refine ⟨fun k1 i wr => ∃ j : Nat, i = j ∧ j ≤ n ∧ k1 = k + j ∧ Own wr B T_int 1 p n c ((mkI j k ++ zs.drop j).map (Value.int .i64)) ∧ Chg (p.map (·.block)).toList w wr, fun _ i _ => n - i.toNat, ⟨0, rfl, by omega, by omega, by simpa [mkI] using h, Chg.refl _ _⟩, ?_⟩
  intro junk wr k1 i ⟨j, hij, hj, hk1, ho, hch⟩
  subst hij; subst hk1
  refine ifD (fun hlt => ?_) (fun hge => ?_)
  · obtain ⟨b, w2, hp, st, ho2, ch2, sz2⟩ := ho.set (P := P) (t := T_int) (i := j) (v := .int .i64 (k + j)) (by simp [mkI_len]; omega) (by kernel_rfl) rfl
    subst hp
    refine ⟨⟨by omega, by omega⟩, w2, by simpa using st, exW ⟨by omega, by omega⟩ (exW ⟨by omega, by omega⟩ ⟨⟨j + 1, by omega, by omega, by omega, ?_, hch.trans ch2⟩, ?_⟩)⟩
    · have e : (mkI j k ++ zs.drop j).set j (k + (j : Nat)) = mkI (j + 1) k ++ zs.drop (j + 1) := by
        rw [List.set_append_right _ _ (by rw [mkI_len]; omega), mkI_len, Nat.sub_self, mkI_succ, List.drop_eq_getElem_cons (show j < zs.length by omega), List.set_cons_zero, List.append_assoc]
        rfl
      rw [← e, List.map_set]
      exact ho2
    · show n - ((j : Int) + 1).toNat < n - (j : Int).toNat
      omega
  · have hjn : j = n := by omega
    subst hjn
    rw [List.drop_of_length_le (by omega), List.append_nil] at ho
    exact ⟨rfl, ho, hch⟩
theorem laws_heldIntS_c {w : World} {p : Option Addr} {n c : Nat} {k : Int} (h : IntsR w p n c (mkI n k)) (h0 : 0 ≤ k) (h1 : k + n ≤ 9223372036854775807) :
    Ret P n_laws_heldIntS [.slice p n c, .int .i64 k] w fun v w' => v = .int .i64 (k + n) ∧ Ext w w' := by
  have hcap := h.2.1; have hcm := h.2.2.1
  refine laws_heldIntS_ret ?_
  unfold laws_heldIntS
  refine ⟨fun k1 i wr => ∃ j : Nat, i = j ∧ j ≤ n ∧ k1 = k + j ∧ Ext w wr, fun _ i _ => n - i.toNat, ⟨0, rfl, by omega, by omega, Ext.refl _⟩, ?_⟩
  intro junk wr k1 i ⟨j, hij, hj, hk1, hx⟩
  subst hij; subst hk1
  refine ifD (fun hlt => ?_) (fun hge => ?_)
  · have hjn : j < n := by omega
    obtain ⟨a, hpa, hl⟩ := (h.ext hx).at (P := P) (t := T_int) (by kernel_rfl) hjn
    subst hpa
    rw [mkI_get] at hl
    refine ⟨⟨by omega, by omega⟩, k + (j : Nat), by simpa using hl, ifD (fun hne => absurd rfl hne) (fun _ => exW ⟨by omega, by omega⟩ (exW ⟨by omega, by omega⟩ ⟨⟨j + 1, by omega, by omega, by omega, hx⟩, ?_⟩))⟩
    show n - ((j : Int) + 1).toNat < n - (j : Int).toNat
    omega
  · have hjn : j = n := by omega
    subst hjn
    exact ⟨rfl, hx⟩
theorem bne_no {a b : Bool} (e : a = b) : ¬ (!(a == b)) = true := by subst e; simp
theorem convs_bytes {w : World} {s e d ee : TypeId} {r : Nat} (xs : List Int) (hs : P.underlying s = some (.slice e)) (he : P.underlying e = some (.int .u8)) (hd : P.underlying d = some .string) (hb : Blk w r ee (xs.map (Value.int .u8))) :
    Convs P s d (.slice (some ⟨r, 0, none⟩) xs.length xs.length) (.string (strOfNums xs)) w :=
  run_convert_bytes_arg w s e hs he r 0 xs.length xs.length xs rfl (fun i hi => by
    have := hb.seg i (.int .u8 (xs.getD i 0)) (by simp [List.getD_eq_getElem?_getD, List.getElem?_eq_getElem hi])
    simpa using this) d hd
theorem laws_markText_c {k : Int} (hk : k ≤ 1000000000000000000) (w : World) : Ret P n_laws_markText [.int .i64 k] w fun v w' => v = .string (mtext k) ∧ Ext w w' := by
  refine laws_markText_ret ?_
  unfold laws_markText
  refine ifD (fun h => ⟨by rw [mtext, if_pos h], Ext.refl _⟩) (fun h => ?_)
  refine ⟨fun k1 out wr => 0 ≤ k1 ∧ k1 ≤ k ∧ out.size + k1 ≤ k ∧ mdig k1.toNat out = mdig k.toNat ByteArray.empty ∧ Ext w wr, fun k1 _ _ => k1.toNat, ⟨by omega, by omega, by show (0 : Int) + k ≤ k; omega, rfl, Ext.refl _⟩, ?_⟩
  intro junk wr k1 out ⟨h0, hle, hsz, hm, hx⟩
  refine ifD (fun hpos => ?_) (fun hz => ?_)
  · have ht : Int.tmod k1 10 = k1 % 10 := Int.tmod_eq_emod_of_nonneg h0
    have htd : Int.tdiv k1 10 = k1 / 10 := Int.tdiv_eq_ediv_of_nonneg h0
    refine ⟨by decide, _, rfl, ?_⟩
    rw [ht]
    refine exW ⟨by omega, by omega⟩ ⟨_, rfl, ?_⟩
    have wu : IntKind.wrap .u8 (48 + k1 % 10) = 48 + k1 % 10 := by
      simp only [IntKind.wrap, IntKind.bits, IntKind.signed]
      simp
      omega
    rw [wu]
    intro r w1 hn
    refine ⟨_, convs_bytes (ee := T_uint8) [48 + k1 % 10] (e := T_uint8) (by kernel_rfl) (by kernel_rfl) (by kernel_rfl) hn.blk, ?_, _, rfl, by decide, ?_⟩
    · rw [strOfNums_size]; simp; omega
    rw [htd]
    refine exW ⟨by omega, by omega⟩ ⟨⟨by omega, by omega, ?_, ?_, hx.trans hn.ext⟩, ?_⟩
    · rw [ByteArray.size_append, strOfNums_size]; simp; omega
    · rw [← hm, mdig_pos (k := k1.toNat) (by omega)]
      have e1 : (k1 / 10).toNat = k1.toNat / 10 := by omega
      have e2 : (48 + k1 % 10) = ((48 + k1.toNat % 10 : Nat) : Int) := by omega
      rw [e1, e2]
    · show (k1 / 10).toNat < k1.toNat
      omega
  · have : k1.toNat = 0 := by omega
    rw [this, mdig_zero] at hm
    refine ⟨?_, _, rfl, ?_, hx⟩
    · show 1 + out.size ≤ 9223372036854775807
      omega
    · rw [mtext, if_neg h, hm]
end Go.Proofs.YtpaekkcgphljoaaDoor

namespace Go.Proofs.YtpaekkcgphljoaaDoor
open Go Go.Proofs.YtpaekkcgphljoaaDoor.Sx
set_option linter.unusedVariables false
set_option linter.unusedSimpArgs false
theorem cntL_nn {d : List (List D0)} {m : Int} (_ : cntL d ≤ m) : 0 ≤ cntL d := cntL_nonneg d
end Go.Proofs.YtpaekkcgphljoaaDoor

namespace Go.Proofs.YtpaekkcgphljoaaDoor
open Go Go.Proofs.YtpaekkcgphljoaaDoor.Sx
set_option linter.unusedVariables false
set_option linter.unusedSimpArgs false
theorem spec_IntNeg_c {w : World} {xs : List Value} {z : Int} (h : Reps w xs (enc z)) (hok : intOk (enc z) = true) :
    Ret P n_spec_IntNeg [.agg ⟨xs⟩] w fun v w' => ∃ vs' f, v = .agg ⟨vs'⟩ ∧ Owns w' w.heap.size vs' (enc (-z)) f ∧ f.Nodup ∧ Ext w w' := by
  have hr := h
  obtain ⟨a0, a1p, a1n, a1c, a1z, rfl, hd, ha⟩ := open_Signed h (enc_code _)
  simp only [enc, List.cons.injEq, D0.bool.injEq, D0.ints.injEq, and_true] at hd
  obtain ⟨rfl, rfl⟩ := hd
  have hlen : (digs z.natAbs).length ≤ 50 := by
    obtain ⟨_, _, _, h1, hc, hl⟩ := intOk_enc hok
    simp only [enc, List.cons.injEq, D0.bool.injEq, D0.ints.injEq, and_true] at h1
    rw [h1.2]; exact hl
  refine spec_IntNeg_ret ?_
  unfold spec_IntNeg
  intro r w1 hn1 r1 w2 hn2
  have X := hn1.ext.trans hn2.ext
  have e1 := hn1.r_eq; have e2 := hn2.r_eq; have s1 := hn1.size; have s2 := hn2.size
  refine ⟨_, _, _, _, (hn1.blk.ext hn2.ext).loadA0 (by kernel_rfl), ?_⟩
  refine Ret.at (spec_IntOk_c (hr.ext X) rfl) ?_
  rintro v w3 ⟨hv, y3⟩
  subst hv
  refine ⟨_, rfl, ifN (fun hno => absurd (hno.symm.trans hok) (by simp)) (fun _ => ?_)⟩
  have k0 := (hn1.blk.ext hn2.ext).ext y3
  refine ⟨_, k0.loadAt 0 rfl (by kernel_rfl) rfl, _, _, _, k0.loadAt 1 rfl (by kernel_rfl) rfl, ?_⟩
  refine Ret.at (spec_l04Make_c (ha.ext (X.trans y3)) (digs_limbs _)) ?_
  rintro v w4 ⟨b, q, qn, qc, hv, hbb, ho, y4⟩
  subst hv
  have l3 := y3.le
  obtain ⟨w5, st, hb5, ch, sz⟩ := ((hn2.blk.ext y3).ext y4).storeA0 (P := P) (t := T_impl_Signed) (xs := [.bool b, .slice q qn qc]) (by kernel_rfl) rfl (by simp [Value.oneCell'])
  have ow := Owns.int2 (b := b) ho
  rw [hbb, val_digs, show (((z.natAbs : Nat) : Int)).toNat = z.natAbs from rfl] at ow
  have e : mkS (!decide (z < 0)) (capL (digs z.natAbs)) = enc (-z) := by
    rw [← icap_fit (z := -z) (by rw [Int.natAbs_neg]; exact hlen)]
    refine mkS_digs (by rw [Int.natAbs_neg]) fun h0 => ?_
    by_cases h1 : z < 0
    · simp [h1]; omega
    · simp [h1]; omega
  have ow2 : Owns w4 w3.heap.size [.bool b, .slice q qn qc] (enc (-z)) (q.map (·.block)).toList := by
    rw [← e, hbb, val_digs, show (((z.natAbs : Nat) : Int)).toNat = z.natAbs from rfl]; exact ow
  exact ⟨_, _, _, _, rfl, w5, st, _, _, _, _, hb5.loadA0 (by kernel_rfl), _, _, rfl, (ow2.chg1 ch (by omega)).mono (by omega), nodup_opt q, ((X.trans y3).trans y4).chg ch (by simp; omega)⟩
theorem cntL_max {M : Int} (hM : 0 ≤ M) : ∀ (l : List (List D0)), (∀ x ∈ l, cnts x ≤ M) → cntL l ≤ (l.length : Nat) * M
  | [], _ => by simp [cntL]
  | x :: l, h => by
    have h1 := h x (.head _); have h2 := cntL_max hM l fun y hy => h y (.tail _ hy)
    simp only [cntL, List.length_cons, Int.natCast_add, Int.natCast_one, Int.add_mul, Int.one_mul]
    omega
end Go.Proofs.YtpaekkcgphljoaaDoor

namespace Go.Proofs.YtpaekkcgphljoaaDoor
open Go Go.Proofs.YtpaekkcgphljoaaDoor.Sx
set_option linter.unusedVariables false
set_option linter.unusedSimpArgs false
/-- a row turned, with new parts -/
theorem Sx.AllO.setNew {S : List Nat} {w w' : World} {B k : Nat} {cs' : List Value} {x' : List D0} {fi' : List Nat} (hc : Chg S w w') (hk : cs'.length = k) : ∀ {css : List (List Value)} {l : List (List D0)} {fs : List (List Nat)}, AllO w B k css l fs → ∀ (i : Nat), i < l.length →
    Owns w' B cs' x' fi' → (∀ y ∈ fs.flatten, y ∉ S) → AllO w' B k (css.set i cs') (l.set i x') (fs.set i fi')
  | [], [], [], _, i, hx, _, _ => by simp at hx
  | cs :: css, y :: l, f :: fs, h, 0, hx, ho, hS => by
    refine ⟨hk, ho, h.2.2.chg hc fun y hy => hS y (by rw [List.flatten_cons]; exact List.mem_append_right _ hy)⟩
  | cs :: css, y :: l, f :: fs, h, i + 1, hx, ho, hS => by
    refine ⟨h.1, h.2.1.chg hc fun y hy => hS y (by rw [List.flatten_cons]; exact List.mem_append_left _ hy), AllO.setNew hc hk h.2.2 i (by simpa using hx) ho fun y hy => hS y (by rw [List.flatten_cons]; exact List.mem_append_right _ hy)⟩
  | [], [], _ :: _, h, _, _, _, _ => h.elim
  | [], _ :: _, _, h, _, _, _, _ => h.elim
  | _ :: _, [], _, h, _, _, _, _ => h.elim
  | _ :: _, _ :: _, [], h, _, _, _, _ => h.elim
/-- a row of one's own block, turned -/
theorem Sx.Own.rowSet {w : World} {B : Nat} {e : TypeId} {k : Nat} {p : Option Addr} {n c : Nat} {css : List (List Value)} (h : Own w B e k p n c css.flatten) (hlen : ∀ cs ∈ css, cs.length = k) (hl : css.length = n) {i : Nat} {cs : List Value} (hcs : css[i]? = some cs) :
    ∃ b xs zs, p = some ⟨b, 0, none⟩ ∧ B ≤ b ∧ xs.length = i * k ∧ Blk w b e (xs ++ cs ++ zs) ∧
      ∀ w' cs', cs'.length = k → Blk w' b e (xs ++ cs' ++ zs) → Own w' B e k p n c (css.set i cs').flatten := by
  have hi : i < css.length := (List.getElem?_eq_some_iff.1 hcs).1
  obtain ⟨b, ys, rfl, hb, hblk, hyl, hnc, hc, hy⟩ := h.blk (by omega)
  have hsp := congrArg List.flatten (cons_at hcs)
  rw [List.flatten_append, List.flatten_cons] at hsp
  have hA : (css.take i).flatten.length = i * k := by
    rw [flat_len fun c hc => hlen c (List.mem_of_mem_take hc), List.length_take, Nat.min_eq_left (by omega)]
  have hys : ys = (css.take i).flatten ++ cs ++ ((css.drop (i + 1)).flatten ++ ys.drop (n * k)) := by
    conv => lhs; rw [← List.take_append_drop (n * k) ys, hy, hsp]
    simp
  have hk : cs.length = k := hlen _ (List.mem_of_getElem? hcs)
  rw [hys] at hblk
  refine ⟨b, _, _, rfl, hb, hA, hblk, fun w' cs' hk' hblk' => ?_⟩
  have hlen2 : ((css.take i).flatten ++ cs' ++ ((css.drop (i + 1)).flatten ++ ys.drop (n * k))).length = c * k := by
    have := congrArg List.length hys
    simp only [List.length_append] at this ⊢
    omega
  have := Own.of_blk' (n := n) hblk' hb hlen2 hnc hc
  have e : ((css.take i).flatten ++ cs' ++ ((css.drop (i + 1)).flatten ++ ys.drop (n * k))).take (n * k) = (css.set i cs').flatten := by
    rw [set_split hcs, List.flatten_append, List.flatten_cons, ← List.append_assoc, ← List.append_assoc, List.take_left']
    have h1 := congrArg List.length hsp
    have h2 := flat_len hlen
    simp only [List.length_append] at h1 ⊢
    rw [hl] at h2
    omega
  rwa [e] at this
def restNeg : List D0 → List D0
  | [.str c, .bool s, .ints x, .ints y] => .str c :: rmk (-(ratNum [.bool s, .ints x, .ints y])) (ratDen [.bool s, .ints x, .ints y])
  | y => y
def restsNeg (l : List (List D0)) : List (List D0) := if restsOk l then l.map restNeg else []
theorem restsOk_row {l : List (List D0)} (h : restsOk l = true) {i : Nat} (hi : i < l.length) : restOk (l[i]'hi) = true := by
  unfold restsOk at h
  rw [List.all_eq_true] at h
  have := h i (List.mem_range.2 hi)
  unfold restRowOk at this
  rw [getD_row hi, Bool.and_eq_true] at this
  exact this.1
theorem restOk_rat {c : ByteArray} {s : Bool} {x y : List Int} (h : restOk [.str c, .bool s, .ints x, .ints y] = true) : ratOk [.bool s, .ints x, .ints y] = true := by
  simp only [restOk, Bool.and_eq_true] at h
  exact h.1.2
theorem restNeg_code {x : List D0} (hc : x.map D0.code = [.str, .bool, .ints, .ints]) : (restNeg x).map D0.code = [.str, .bool, .ints, .ints] := by
  obtain ⟨a, es, rfl, h1⟩ := code_str hc
  obtain ⟨b, es, rfl, h2⟩ := code_bool h1
  obtain ⟨y, es, rfl, h3⟩ := code_ints h2
  obtain ⟨z, es, rfl, h4⟩ := code_ints h3
  have := code_nil h4; subst this
  rfl
theorem restsNeg_code {l : List (List D0)} (hc : ∀ x ∈ l, x.map D0.code = [.str, .bool, .ints, .ints]) : ∀ x ∈ restsNeg l, x.map D0.code = [.str, .bool, .ints, .ints] := by
  unfold restsNeg
  split
  · intro x hx
    obtain ⟨y, hy, rfl⟩ := List.mem_map.1 hx
    exact restNeg_code (hc y hy)
  · intro x hx; cases hx
theorem restNeg_cnt {x : List D0} (hc : x.map D0.code = [.str, .bool, .ints, .ints]) (h : restOk x = true) : cnts (restNeg x) ≤ 100 := by
  obtain ⟨a, es, rfl, h1⟩ := code_str hc
  obtain ⟨b, es, rfl, h2⟩ := code_bool h1
  obtain ⟨y, es, rfl, h3⟩ := code_ints h2
  obtain ⟨z, es, rfl, h4⟩ := code_ints h3
  have := code_nil h4; subst this
  obtain ⟨_, _, _, g1, g2⟩ := ratOk_enc (restOk_rat h)
  have g3 : (digs (-(ratNum [.bool b, .ints y, .ints z])).natAbs).length ≤ 18 := by rw [Int.natAbs_neg]; exact g1
  simp only [restNeg, rmk, cnts, D0.cnt]
  omega
theorem restsNeg_cnt {l : List (List D0)} (hc : ∀ x ∈ l, x.map D0.code = [.str, .bool, .ints, .ints]) (hl : l.length ≤ 1048576) : cntL (restsNeg l) ≤ 1000000000 := by
  unfold restsNeg
  split
  · rename_i h
    have := cntL_max (M := 100) (by omega) (l.map restNeg) fun x hx => by
      obtain ⟨y, hy, rfl⟩ := List.mem_map.1 hx
      obtain ⟨i, hi, rfl⟩ := List.getElem_of_mem hy
      exact restNeg_cnt (hc _ hy) (restsOk_row h hi)
    simp only [List.length_map] at this
    have h3 : ((l.length : Nat) : Int) * 100 ≤ 1048576 * 100 := by omega
    omega
  · simp [cntL]
theorem map_take_snoc {l : List (List D0)} {j : Nat} (hj : j < l.length) : (l.take (j + 1)).map restNeg = (l.take j).map restNeg ++ [restNeg (l[j]'hj)] := by
  rw [take_snoc (List.getElem?_eq_getElem hj), List.map_append]; rfl
theorem sliceT_rest : sliceT P T_s_impl_Rest T_impl_Rest (.agg ⟨[.string ByteArray.empty, .bool false, .slice none 0 0, .slice none 0 0]⟩) 4 72 := ⟨by kernel_rfl, by kernel_rfl, rfl, by decide⟩
theorem impl_ratNeg_c {w : World} {xs : List Value} {dx : List D0} (h : Reps w xs dx) (hc : dx.map D0.code = [.bool, .ints, .ints]) (hok : ratOk dx = true) :
    Ret P n_impl_ratNeg [.agg ⟨xs⟩] w fun v w' => ∃ vs' f, v = .agg ⟨vs'⟩ ∧ Owns w' w.heap.size vs' (rmk (-(ratNum dx)) (ratDen dx)) f ∧ f.Nodup ∧ Ext w w' := by
  have ok := (ratOk_enc hok).2
  obtain ⟨p1, n1, c1, p2, n2, c2, rfl, i1, i2, g1, g2, he⟩ := rat_parts h hc hok
  refine impl_ratNeg_ret ?_
  unfold impl_ratNeg
  intro r w1 hn1 r1 w2 hn2
  have D := Ext.drew w2
  have X := (hn1.ext.trans hn2.ext).trans D
  have k0 := hn1.blk.ext hn2.ext; have k1 := hn2.blk.ext D
  have e2 := hn2.r_eq; have s1 := hn1.size; have s2 := hn2.size; have lD := D.le
  refine ⟨_, _, _, _, fun W hW => (k0.ext (D.trans hW)).loadAAt 0 [.bool (decide (ratNum dx < 0)), .slice p1 n1 c1] rfl (by kernel_rfl) rfl, ?_⟩
  refine Ret.at (impl_intNeg_c (he.ext X) (by omega)) ?_
  rintro v w3 ⟨vs, f, hv, ho, nd, y3⟩
  subst hv
  obtain ⟨b0, bp, bn, bc, bz, rfl, hq, hbr⟩ := open_Signed ho.reps (enc_code _)
  refine ⟨_, _, _, _, rfl, y3, _, _, _, fun W hW => (k0.ext (D.trans hW)).loadAt 2 rfl (by kernel_rfl) rfl, ?_⟩
  refine Ret.at (impl_natCopy_c (i2.ext (X.trans y3)) (by omega)) ?_
  rintro v w4 ⟨p, c, hv, ho2, y4⟩
  subst hv
  have l3 := y3.le; have l4 := y4.le
  obtain ⟨w5, st, hb5, ch, sz⟩ := ((k1.ext y3).ext y4).storeA0 (P := P) (t := T_impl_Rat) (xs := [.bool b0, .slice bp bn bc, .slice p n2 c]) (by kernel_rfl) rfl (by simp [Value.oneCell'])
  have q1 := (ho.ext y4).chg1 ch (by omega)
  have q2 := (Owns.ints ho2).chg1 ch (by omega)
  refine ⟨_, _, _, rfl, w5, st, _, _, _, _, _, _, _, hb5.loadA0 (by kernel_rfl), _, f ++ (p.map (·.block)).toList, rfl, ?_, ?_, ((X.trans y3).trans y4).chg ch (by simp; omega)⟩
  · rw [rmk_enc]; exact Owns.append (q1.mono (by omega)) (q2.mono (by omega))
  exact nodup_append nd (nodup_opt p) (m := w3.heap.size) (fun k hk => (ho.lt k hk).2) (fun k hk => ((Owns.ints ho2).lt k hk).1)
theorem impl_RestsNeg_c {w : World} {p : Option Addr} {n c : Nat} {l : List (List D0)} (h : RowsR w 4 p n c l) (hc : ∀ x ∈ l, x.map D0.code = [.str, .bool, .ints, .ints]) (hn : n ≤ 1048576) (hb : ∀ x ∈ l, bulks x ≤ 1048576) (ht : Tab w) :
    Ret P n_impl_RestsNeg [.slice p n c] w fun v w' => ∃ p' n' c' f, v = .tuple #[.slice p' n' c', .bool (restsOk l)] ∧ OwnRows w' w.heap.size T_impl_Rest 4 p' n' c' (restsNeg l) f ∧ (∀ x ∈ restsNeg l, x.map D0.code = [.str, .bool, .ints, .ints]) ∧ cntL (restsNeg l) ≤ 1000000000 ∧ Ext w w' := by
  have hz := h.1; have hcap := h.2.1; have hcm := h.2.2.1
  refine impl_RestsNeg_ret ?_
  unfold impl_RestsNeg
  refine Ret.at (impl_RestsOk_c h hc hn hb ht) ?_
  rintro v w1 ⟨hv, y1⟩
  subst hv
  refine ⟨_, rfl, ifN (fun hno => ?_) (fun hok => ?_)⟩
  · refine ⟨none, 0, 0, [], by rw [hno], ?_, restsNeg_code hc, restsNeg_cnt hc (by omega), y1⟩
    unfold restsNeg
    rw [hno]
    exact ⟨rfl, [], [], trivial, Own.nil _ _ _ _, rfl, List.nodup_nil⟩
  have l1 := y1.le
  intro r w2 hn2
  have e2 := hn2.r_eq; have s2 := hn2.size
  refine ⟨fun op on oc i wr => ∃ (j : Nat) (f : List Nat), i = j ∧ j ≤ n ∧ on = j ∧ Ext w1 wr ∧ OwnRows wr w1.heap.size T_impl_Rest 4 op on oc ((l.take j).map restNeg) f, fun _ _ _ i _ => n - i.toNat, ⟨0, [r], rfl, by omega, rfl, hn2.ext, by rw [List.take_zero]; exact OwnRows.fresh hn2 (Nat.le_refl _)⟩, ?_⟩
  intro junk wr op on oc i ⟨j, f, hi, hj, hon, hx, how⟩
  subst hi; subst hon
  have lx := hx.le
  refine ifD (fun hlt => ?_) (fun hge => ?_)
  · have hjl : on < l.length := by omega
    obtain ⟨a, cs, hp, hk, hr, hl⟩ := ((h.ext y1).ext hx).at (P := P) (t := T_impl_Rest) (by kernel_rfl) (show on < n by omega)
    subst hp
    have hrr := hr; have hcode := hc _ (List.getElem_mem hjl)
    have hrow := restsOk_row hok hjl
    obtain ⟨a0, a1, a2p, a2n, a2c, a2z, a3p, a3n, a3c, a3z, rfl, hd, ir2, ir3⟩ := open_Rest hr hcode
    have hsnoc := map_take_snoc hjl
    rw [hd] at hrow hsnoc
    refine ⟨⟨by omega, by omega⟩, _, _, _, _, _, _, _, _, by simpa using hl, ?_⟩
    intro r1 w3 hn3
    obtain ⟨w4, st, hb4, y4⟩ := hn3.fill (P := P) (t := T_impl_Rest) hrr.cells1 (by kernel_rfl) rfl
    have D := Ext.drew w4
    have Y := y4.trans D
    have hb5 := hb4.ext D
    refine ⟨w4, st, _, fun W hW => (hb5.ext hW).loadAt 0 rfl (by kernel_rfl) rfl, _, _, _, _, _, _, _, fun W hW => (hb5.ext hW).loadAAt 1 [.bool a1, .slice a2p a2n a2c, .slice a3p a3n a3c] rfl (by kernel_rfl) rfl, ?_⟩
    have hs : Reps w4.drew [.bool a1, .slice a2p a2n a2c, .slice a3p a3n a3c] [.bool a1, .ints a2z, .ints a3z] := ⟨rfl, ⟨_, _, _, rfl, ir2.ext Y⟩, ⟨_, _, _, rfl, ir3.ext Y⟩, trivial⟩
    refine Ret.at (impl_ratNeg_c hs rfl (restOk_rat hrow)) ?_
    rintro v w5 ⟨vs, fx, hv, ho, hnd, y5⟩
    subst hv
    have ho' := ho
    obtain ⟨b0, b1p, b1n, b1c, b1z, b2p, b2n, b2c, b2z, rfl, hq, _⟩ := open_Rat ho.reps (rmk_code _ _)
    refine ⟨_, _, _, _, _, _, _, rfl, y5, ?_⟩
    intro r6 w6 hn6
    have Y6 := (Y.trans y5).trans hn6.ext
    have l6 := Y6.le; have lD := Y.le
    have ho6 := (Owns.append (Owns.str _ _ a0) (ho'.ext hn6.ext))
    obtain ⟨p7, c7, w7, fn, hap, hpush, hch, hxx⟩ := (how.ext Y6).push (P := P) sliceT_rest (by omega) hn6.blk rfl (ho6.mono (by omega)) hnd (fun q hq hm => by
      have h1 := (ho'.lt q hq).1
      have h2 := (how.lt q hm).2
      omega) (by omega) (by omega)
    have hxn := hxx w1 (hx.trans Y6) (Nat.le_refl _)
    refine ⟨_, _, _, _, hap, exW ⟨by omega, by omega⟩ ⟨⟨on + 1, fn, by omega, by omega, rfl, hxn, by rw [hsnoc]; exact hpush⟩, ?_⟩⟩
    show n - ((on : Int) + 1).toNat < n - (on : Int).toNat
    omega
  · have hjn : on = l.length := by omega
    rw [hjn, List.take_of_length_le (by omega)] at how
    refine ⟨op, _, oc, f, by rw [hok], ?_, restsNeg_code hc, restsNeg_cnt hc (by omega), y1.trans hx⟩
    unfold restsNeg
    rw [if_pos hok]
    rw [← hjn] at how
    exact how.mono (by omega)
theorem spec_RatNeg_c {w : World} {xs : List Value} {dx : List D0} (h : Reps w xs dx) (hc : dx.map D0.code = [.bool, .ints, .ints]) (hok : ratOk dx = true) :
    Ret P n_spec_RatNeg [.agg ⟨xs⟩] w fun v w' => ∃ vs' f, v = .tuple #[.agg ⟨vs'⟩, .bool true] ∧ Owns w' w.heap.size vs' (rmk (-(ratNum dx)) (ratDen dx)) f ∧ Ext w w' := by
  have ok := (ratOk_enc hok).2
  have hr := h
  obtain ⟨p1, n1, c1, p2, n2, c2, rfl, i1, i2, g1, g2, he⟩ := rat_parts h hc hok
  refine spec_RatNeg_ret ?_
  unfold spec_RatNeg
  intro r w1 hn1 r1 w2 hn2
  have X2 := hn1.ext.trans hn2.ext
  refine ⟨_, _, _, _, _, _, _, (hn1.blk.ext hn2.ext).loadA0 (by kernel_rfl), ?_⟩
  refine Ret.at (spec_RatOk_c (hr.ext X2) hc) ?_
  rintro v w3 ⟨hv, y3⟩
  subst hv
  refine ⟨_, rfl, ifN (fun e => by rw [hok] at e; cases e) (fun _ => ?_)⟩
  have D := Ext.drew w3
  have X := (X2.trans y3).trans D
  have k0 := ((hn1.blk.ext hn2.ext).ext y3).ext D; have k1 := (hn2.blk.ext y3).ext D
  have e2 := hn2.r_eq; have s1 := hn1.size; have s2 := hn2.size; have lD := D.le; have ly3 := y3.le
  refine ⟨_, _, _, _, fun W hW => (k0.ext hW).loadAAt 0 [.bool (decide (ratNum dx < 0)), .slice p1 n1 c1] rfl (by kernel_rfl) rfl, ?_⟩
  intro ss w4 f1
  have hok' : intOk (enc (ratNum dx)) = true := by
    have := icap_ok (ratNum dx)
    rwa [icap_fit (by omega)] at this
  refine Ret.at (spec_IntNeg_c (he.ext (X.trans f1.ext)) hok') ?_
  rintro v w5 ⟨vs, f, hv, ho, nd, y5⟩
  subst hv
  have ho' := ho
  obtain ⟨b0, bp, bn, bc, bz, rfl, hq, hbr⟩ := open_Signed ho.reps (enc_code _)
  refine ⟨_, _, _, _, rfl, y5, _, _, _, fun W hW => (k0.ext hW).loadAt 2 rfl (by kernel_rfl) rfl, ?_⟩
  intro ss1 w6 r3 f2 g3
  have Y := (f1.ext.trans y5).trans f2.ext
  have hb3 : w3.drew.heap.size ≤ r3 ∧ Blk w6 r3 T_int [] := by
    have len0 := f1.len
    cases hs : ss[0]? with
    | none =>
      rw [List.getElem?_eq_none_iff, len0] at hs
      simp at hs
    | some v =>
      cases v with
      | some q =>
        obtain ⟨b, hq⟩ := f1.got (k := 0) rfl rfl hs
        have e := (f2.keeps hs).symm.trans g3
        have e : q = r3 := by simpa using e
        rw [e] at b hq
        exact ⟨b, (Blk.ext (show Blk w4 r3 T_int [] from hq) y5).ext f2.ext⟩
      | none =>
        obtain ⟨b, hq⟩ := f2.got (k := 0) hs rfl g3
        exact ⟨Nat.le_trans ((f1.ext.trans y5).le) b, hq⟩
  obtain ⟨p7, c7, w7, a7, o7, y7⟩ := append0 hb3.2 (i2.ext (X.trans Y)) (by omega)
  have Z := Y.trans y7
  have lZ := f1.ext.le
  obtain ⟨w8, st, hb8, ch, sz⟩ := (k1.ext Z).storeA0 (P := P) (t := T_impl_Rat) (xs := [.bool b0, .slice bp bn bc, .slice p7 n2 c7]) (by kernel_rfl) rfl (by simp [Value.oneCell'])
  have q1 := ((ho'.ext f2.ext).ext y7).chg1 ch (by omega)
  have q2 := (Owns.ints (o7.mono hb3.1)).chg1 ch (by omega)
  refine ⟨_, _, _, _, a7, w8, st, _, _, _, _, _, _, _, hb8.loadA0 (by kernel_rfl), _, f ++ (p7.map (·.block)).toList, rfl, ?_, (X.trans Z).chg ch (by simp; omega)⟩
  rw [rmk_enc]; exact Owns.append (q1.mono (by omega)) (q2.mono (by omega))
/-- rows that share nothing with their own block -/
theorem spec_l19Copy_c {w : World} {p : Option Addr} {n c : Nat} {l : List (List D0)} (h : RowsR w 4 p n c l) (hc : ∀ x ∈ l, x.map D0.code = [.str, .bool, .ints, .ints]) (hn : n ≤ 1048576) (hb : ∀ x ∈ l, bulks x ≤ 1048576) :
    Ret P n_spec_l19Copy [.slice p n c] w fun v w' => ∃ p' c' css fs, v = .slice p' n c' ∧ AllO w' w.heap.size 4 css l fs ∧ Own w' w.heap.size T_impl_Rest 4 p' n c' css.flatten ∧ (∀ y ∈ fs.flatten, p'.map (·.block) ≠ some y) ∧ Ext w w' := by
  have hz := h.1; have hcap := h.2.1; have hcm := h.2.2.1
  refine spec_l19Copy_ret ?_
  unfold spec_l19Copy
  intro r w2 hn2
  have e2 := hn2.r_eq; have s2 := hn2.size
  have o2 : Own w2 w.heap.size T_impl_Rest 4 (some ⟨r, 0, none⟩) 0 0 [] := Own.of_blk0 hn2.blk (by omega) (by simp) (by decide)
  refine ⟨fun op on oc i wr => ∃ (j : Nat) (css : List (List Value)) (fs : List (List Nat)), i = j ∧ j ≤ n ∧ on = j ∧ Ext w wr ∧ AllO wr w.heap.size 4 css (l.take j) fs ∧ Own wr w.heap.size T_impl_Rest 4 op on oc css.flatten ∧ (∀ y ∈ fs.flatten, op.map (·.block) ≠ some y), fun _ _ _ i _ => n - i.toNat, ⟨0, [], [], rfl, by omega, rfl, hn2.ext, by rw [List.take_zero]; trivial, o2, fun y hy => by simp at hy⟩, ?_⟩
  intro junk wr op on oc i ⟨j, css, fs, hi, hj, hon, hx, hall, how, hdis⟩
  subst hi; subst hon
  have lx := hx.le
  refine ifD (fun hlt => ?_) (fun hge => ?_)
  · have hjl : on < l.length := by omega
    obtain ⟨a, cs, hp, hk, hr, hl⟩ := (h.ext hx).at (P := P) (t := T_impl_Rest) (by kernel_rfl) (show on < n by omega)
    subst hp
    have hrr := hr; have hcode := hc _ (List.getElem_mem hjl); have hbj := hb _ (List.getElem_mem hjl)
    obtain ⟨a0, a1, a2p, a2n, a2c, a2z, a3p, a3n, a3c, a3z, rfl, hd, ir2, ir3⟩ := open_Rest hr hcode
    rw [hd] at hbj
    simp only [bulks, D0.bulk, List.map_cons, List.map_nil, List.sum_cons, List.sum_nil] at hbj
    refine ⟨⟨by omega, by omega⟩, _, _, _, _, _, _, _, _, by simpa using hl, ?_⟩
    intro r1 w3 hn3
    obtain ⟨w4, st, hb4, y4⟩ := hn3.fill (P := P) (t := T_impl_Rest) hrr.cells1 (by kernel_rfl) rfl
    have D := Ext.drew w4
    have Y := y4.trans D
    have hb5 := hb4.ext D
    refine ⟨w4, st, _, fun W hW => (hb5.ext hW).loadAt 0 rfl (by kernel_rfl) rfl, _, _, _, _, _, _, _, fun W hW => (hb5.ext hW).loadAAt 1 [.bool a1, .slice a2p a2n a2c, .slice a3p a3n a3c] rfl (by kernel_rfl) rfl, ?_⟩
    have hs : Reps w4.drew [.bool a1, .slice a2p a2n a2c, .slice a3p a3n a3c] [.bool a1, .ints a2z, .ints a3z] := ⟨rfl, ⟨_, _, _, rfl, ir2.ext Y⟩, ⟨_, _, _, rfl, ir3.ext Y⟩, trivial⟩
    refine Ret.at (spec_l19Rat_c hs rfl (by simp only [bulks, D0.bulk, List.map_cons, List.map_nil, List.sum_cons, List.sum_nil]; omega)) ?_
    rintro v w5 ⟨vs, fx, hv, ho, y5⟩
    subst hv
    have ho' := ho
    obtain ⟨b0, b1p, b1n, b1c, b1z, b2p, b2n, b2c, b2z, rfl, hq, _⟩ := open_Rat ho.reps rfl
    refine ⟨_, _, _, _, _, _, _, rfl, y5, ?_⟩
    intro r6 w6 hn6
    have Y6 := (Y.trans y5).trans hn6.ext
    have l6 := Y6.le; have lD := Y.le; have e6 := hn6.r_eq
    have ho6 := (Owns.append (Owns.str _ _ a0) (ho'.ext hn6.ext))
    obtain ⟨p7, c7, w7, hap, o7, ch7, d7⟩ := (how.ext Y6).push1 (P := P) sliceT_rest (by omega) hn6.blk rfl ho6.reps.cells1 (by omega) (by omega)
    have opl : ∀ q, op.map (·.block) = some q → w.heap.size ≤ q ∧ q < wr.heap.size := fun q hq => World.ownsRow.lt how q (by rw [← hq]; cases op <;> rfl)
    have all7 := (hall.ext Y6).chg ch7 (fun y hy hm => hdis y hy (opt_mem hm))
    have ho7 := (ho6.mono (B' := w.heap.size) (by omega)).chg ch7 (fun y hy hm => by
      have h1 := (ho'.lt y hy).1
      have h2 := (opl y (opt_mem hm)).2
      omega)
    have hsn : l.take (on + 1) = l.take on ++ [[.str a0, .bool a1, .ints a2z, .ints a3z]] := by rw [take_snoc (List.getElem?_eq_getElem hjl), hd]
    refine ⟨_, _, _, _, hap, exW ⟨by omega, by omega⟩ ⟨⟨on + 1, css ++ [[.string a0, .bool b0, .slice b1p b1n b1c, .slice b2p b2n b2c]], fs ++ [fx], by omega, by omega, rfl, (hx.trans Y6).chg ch7 (fun q hq => (opl q (opt_mem hq)).1), ?_, by simpa using o7, ?_⟩, ?_⟩⟩
    · rw [hsn]
      exact AllO.snoc rfl ho7 all7
    · intro y hy e
      rw [List.flatten_append, List.mem_append] at hy
      have hy7 : y < w6.heap.size := by
        rcases hy with hy | hy
        · have := (hall.lt y hy).2; omega
        · have := (ho'.lt y (by simpa using hy)).2; have := hn6.ext.le; omega
      rcases d7 with d7 | d7
      · rcases hy with hy | hy
        · exact hdis y hy (d7 ▸ e)
        · have h1 := (ho'.lt y (by simpa using hy)).1
          have h2 := (opl y (d7 ▸ e)).2
          omega
      · have := d7 y e; omega
    · show n - ((on : Int) + 1).toNat < n - (on : Int).toNat
      omega
  · have hjn : on = n := by omega
    subst hjn
    rw [List.take_of_length_le (by omega)] at hall
    exact ⟨_, _, css, fs, rfl, hall, how, hdis, hx⟩
theorem spec_RestsNeg_c {w : World} {p : Option Addr} {n c : Nat} {l : List (List D0)} (h : RowsR w 4 p n c l) (hc : ∀ x ∈ l, x.map D0.code = [.str, .bool, .ints, .ints]) (hn : n ≤ 1048576) (hb : ∀ x ∈ l, bulks x ≤ 1048576) :
    Ret P n_spec_RestsNeg [.slice p n c] w fun v w' => ∃ p' n' c', v = .tuple #[.slice p' n' c', .bool (restsOk l)] ∧ RowsR w' 4 p' n' c' (restsNeg l) ∧ (∀ x ∈ restsNeg l, x.map D0.code = [.str, .bool, .ints, .ints]) ∧ Ext w w' := by
  have hz := h.1; have hcap := h.2.1; have hcm := h.2.2.1
  refine spec_RestsNeg_ret ?_
  unfold spec_RestsNeg
  refine Ret.at (spec_RestsOk_c h hc hn hb) ?_
  rintro v w1 ⟨hv, y1⟩
  subst hv
  refine ⟨_, rfl, ifN (fun hno => ?_) (fun hok => ?_)⟩
  · refine ⟨none, 0, 0, by rw [hno], ?_, restsNeg_code hc, y1⟩
    unfold restsNeg
    rw [hno]
    exact RowsR.nil _ _ _ (by omega)
  have l1 := y1.le
  refine Ret.at (spec_l19Copy_c (h.ext y1) hc hn hb) ?_
  rintro v w2 ⟨p2, c2, css2, fs2, hv, hall2, how2, hdis2, y2⟩
  subst hv
  have x2 := y1.trans y2
  have l2 := y2.le
  refine ⟨_, _, _, rfl, ?_⟩
  refine ⟨fun i wr => ∃ (j : Nat) (css : List (List Value)) (fs : List (List Nat)), i = j ∧ j ≤ n ∧ Ext w1 wr ∧ AllO wr w1.heap.size 4 css ((l.take j).map restNeg ++ l.drop j) fs ∧ Own wr w1.heap.size T_impl_Rest 4 p2 n c2 css.flatten ∧ (∀ y ∈ fs.flatten, p2.map (·.block) ≠ some y), fun i _ => n - i.toNat, ⟨0, css2, fs2, rfl, by omega, y2, by rw [List.take_zero, List.drop_zero, List.map_nil, List.nil_append]; exact hall2, how2, hdis2⟩, ?_⟩
  intro junk wr i ⟨j, css, fs, hi, hj, hx, hall, how, hdis⟩
  subst hi
  have lx := hx.le
  refine ifD (fun hlt => ?_) (fun hge => ?_)
  · have hjl : j < l.length := by omega
    have hat : ((l.take j).map restNeg ++ l.drop j)[j]? = some (l[j]'hjl) := by
      have hl : ((l.take j).map restNeg).length = j := by rw [List.length_map, List.length_take]; omega
      rw [List.getElem?_append_right (by omega), hl, Nat.sub_self, List.getElem?_drop, Nat.add_zero, List.getElem?_eq_getElem hjl]
    obtain ⟨cs, fi, hcs, hfi, hk, ho0⟩ := hall.focus j _ hat
    obtain ⟨hlen, hcl, hfl⟩ := hall.lens
    have hcn : css.length = n := by
      rw [hcl, List.length_append, List.length_map, List.length_take, List.length_drop]; omega
    obtain ⟨b, xs, zs, rfl, hbb, hxl, hblk, hput⟩ := how.rowSet hlen hcn hcs
    have hcode := hc _ (List.getElem_mem hjl)
    have hrow := restsOk_row hok hjl
    have hr := ho0.reps
    have hrr := hr
    obtain ⟨a0, a1, a2p, a2n, a2c, a2z, a3p, a3n, a3c, a3z, rfl, hd, ir2, ir3⟩ := open_Rest hr hcode
    have hrow' := hrow
    rw [hd] at hrow'
    have hblt := hblk.lt
    have hload : Loads P T_impl_Rest ((⟨b, 0, none⟩ : Addr).add (j * 4)) (.agg ⟨[.string a0, .bool a1, .slice a2p a2n a2c, .slice a3p a3n a3c]⟩) wr := by
      rw [addr_add]
      exact loadsA (by kernel_rfl) (by rw [Nat.zero_add]; exact hblk.segMid hxl)
    refine ⟨⟨by omega, by omega⟩, _, _, _, _, _, _, _, _, by simpa using hload, ?_⟩
    intro r1 w3 hn3
    obtain ⟨w4, st, hb4, y4⟩ := hn3.fill (P := P) (t := T_impl_Rest) hrr.cells1 (by kernel_rfl) rfl
    have l4 := y4.le
    refine ⟨w4, st, _, _, _, _, _, _, _, hb4.loadAAt 1 [.bool a1, .slice a2p a2n a2c, .slice a3p a3n a3c] rfl (by kernel_rfl) rfl, ?_⟩
    have hs : Reps w4 [.bool a1, .slice a2p a2n a2c, .slice a3p a3n a3c] [.bool a1, .ints a2z, .ints a3z] := ⟨rfl, ⟨_, _, _, rfl, ir2.ext y4⟩, ⟨_, _, _, rfl, ir3.ext y4⟩, trivial⟩
    refine Ret.at (spec_RatNeg_c hs rfl (restOk_rat hrow')) ?_
    rintro v w5 ⟨vs, fx, hv, ho, y5⟩
    subst hv
    have ho' := ho
    obtain ⟨b0, b1p, b1n, b1c, b1z, b2p, b2n, b2c, b2z, rfl, hq, _⟩ := open_Rat ho.reps (rmk_code _ _)
    refine ⟨_, _, _, _, _, _, _, _, rfl, ⟨by omega, by omega⟩, ?_⟩
    have Y := y4.trans y5
    obtain ⟨w6, st6, hb6, ch6, sz6⟩ := (hblk.ext Y).storeA (P := P) (t := T_impl_Rat) (k := j * 4 + 1) (xs := [.bool b0, .slice b1p b1n b1c, .slice b2p b2n b2c]) (by kernel_rfl) (by simp; omega) (by simp [Value.oneCell'])
    have hb6' : Blk w6 b T_impl_Rest (xs ++ [.string a0, .bool b0, .slice b1p b1n b1c, .slice b2p b2n b2c] ++ zs) := by
      have e : (xs ++ [Value.string a0, .bool a1, .slice a2p a2n a2c, .slice a3p a3n a3c] ++ zs).take (j * 4 + 1) ++ [.bool b0, .slice b1p b1n b1c, .slice b2p b2n b2c] ++ (xs ++ [Value.string a0, .bool a1, .slice a2p a2n a2c, .slice a3p a3n a3c] ++ zs).drop (j * 4 + 1 + 3) = xs ++ [.string a0, .bool b0, .slice b1p b1n b1c, .slice b2p b2n b2c] ++ zs := by
        have h1 : (xs ++ [Value.string a0, .bool a1, .slice a2p a2n a2c, .slice a3p a3n a3c] ++ zs).take (j * 4 + 1) = xs ++ [.string a0] := by
          have : xs ++ [Value.string a0, .bool a1, .slice a2p a2n a2c, .slice a3p a3n a3c] ++ zs = (xs ++ [.string a0]) ++ ([.bool a1, .slice a2p a2n a2c, .slice a3p a3n a3c] ++ zs) := by simp
          rw [this, List.take_left' (by simp [hxl])]
        have h2 : (xs ++ [Value.string a0, .bool a1, .slice a2p a2n a2c, .slice a3p a3n a3c] ++ zs).drop (j * 4 + 1 + 3) = zs := by
          rw [List.drop_left' (by simp [hxl])]
        rw [h1, h2]; simp
      rw [← e]; exact hb6
    have hnew : Owns w6 w1.heap.size [.string a0, .bool b0, .slice b1p b1n b1c, .slice b2p b2n b2c] (restNeg (l[j]'hjl)) fx := by
      rw [hd]
      have := Owns.append (Owns.str _ _ a0) (ho'.chg ch6 (fun y hy hm => by
        have h1 := (ho'.lt y hy).1
        simp at hm; omega))
      exact this.mono (by omega)
    have hall6 := (hall.ext Y).setNew ch6 (cs' := [.string a0, .bool b0, .slice b1p b1n b1c, .slice b2p b2n b2c]) rfl j (by rw [List.length_append, List.length_map, List.length_take, List.length_drop]; omega) hnew (fun y hy hm => hdis y hy (by simp at hm; rw [hm]; rfl))
    have hset : ((l.take j).map restNeg ++ l.drop j).set j (restNeg (l[j]'hjl)) = (l.take (j + 1)).map restNeg ++ l.drop (j + 1) := by
      rw [set_split hat, map_take_snoc hjl]
      have hl : ((l.take j).map restNeg).length = j := by rw [List.length_map, List.length_take]; omega
      rw [List.take_left' hl]
      have : ((l.take j).map restNeg ++ l.drop j).drop (j + 1) = l.drop (j + 1) := by
        rw [List.drop_append, List.drop_of_length_le (by omega), hl, List.nil_append, List.drop_drop]
        exact congrArg (fun k => l.drop k) (by omega)
      rw [this]; simp
    rw [hset] at hall6
    have x6 : Ext w1 w6 := (hx.trans Y).chg ch6 (by simp; omega)
    refine ⟨w6, by simpa [addr_add] using st6, exW ⟨by omega, by omega⟩ ⟨⟨j + 1, css.set j [.string a0, .bool b0, .slice b1p b1n b1c, .slice b2p b2n b2c], fs.set j fx, by omega, by omega, x6, hall6, hput w6 _ rfl hb6', ?_⟩, ?_⟩⟩
    · intro y hy e
      obtain ⟨g, hg, hyg⟩ := List.mem_flatten.1 hy
      rcases List.mem_or_eq_of_mem_set hg with h3 | h3
      · exact hdis y (List.mem_flatten.2 ⟨g, h3, hyg⟩) e
      · subst h3
        have h1 := (ho'.lt y hyg).1
        simp at e; omega
    · show n - ((j : Int) + 1).toNat < n - (j : Int).toNat
      omega
  · have hjn : j = n := by omega
    subst hjn
    rw [List.take_of_length_le (by omega), List.drop_of_length_le (by omega), List.append_nil] at hall
    refine ⟨p2, j, c2, by rw [hok], ?_, restsNeg_code hc, y1.trans hx⟩
    unfold restsNeg
    rw [if_pos hok]
    refine ⟨by rw [List.length_map]; omega, how.le, ?_, fun hn0 => ?_⟩
    · exact how.capLe
    · obtain ⟨b, hp, _, hs⟩ := how.seg hn0
      refine ⟨b, 0, hp, fun i x hx => ?_⟩
      obtain ⟨cs, h1, h2, h3⟩ := hall.at i x hx
      exact ⟨cs, h1, h2, by rw [← h3]; exact (hs.drop (i * 4)).take 4⟩
end Go.Proofs.YtpaekkcgphljoaaDoor

namespace Go.Proofs.YtpaekkcgphljoaaDoor
open Go Go.Proofs.YtpaekkcgphljoaaDoor.Sx
set_option linter.unusedVariables false
set_option linter.unusedSimpArgs false
theorem laws_markRestS_c {w : World} {B : Nat} {e : TypeId} {p : Option Addr} {n c : Nat} {l : List (List D0)} {f : List Nat} {k : Int} (h : OwnRows w B e 4 p n c l f) (hc : ∀ x ∈ l, x.map D0.code = [.str, .bool, .ints, .ints]) (h0 : 0 ≤ k) (h1 : k + cntL l ≤ 1000000000000000000) :
    Ret P n_laws_markRestS [.slice p n c, .int .i64 k] w fun v w' => v = .int .i64 (k + cntL l) ∧ OwnRows w' B e 4 p n c (markL l k) f ∧ Chg f w w' := by
  have hz := h.1; have hcap := h.rows.2.1; have hcm := h.rows.2.2.1
  refine laws_markRestS_ret ?_
  unfold laws_markRestS
  refine ⟨fun k1 i wr => ∃ j : Nat, i = j ∧ j ≤ n ∧ k1 = k + cntL (l.take j) ∧ OwnRows wr B e 4 p n c (markL (l.take j) k ++ l.drop j) f ∧ Chg f w wr, fun _ i _ => n - i.toNat, ⟨0, rfl, by omega, by simp [cntL], by simpa [markL] using h, Chg.refl _ _⟩, ?_⟩
  intro junk wr k1 i ⟨j, hij, hj, hk1, ho, hch⟩
  subst hij
  refine ifD (fun hlt => ?_) (fun hge => ?_)
  · have hjl : j < l.length := by omega
    obtain ⟨x, hxe⟩ : ∃ x, l[j]? = some x := ⟨_, List.getElem?_eq_getElem hjl⟩
    have hcode := hc x (List.mem_of_getElem? hxe)
    obtain ⟨hct, hcle⟩ := cntL_row hxe
    have hcn := cntL_nonneg (l.take j)
    obtain ⟨b, xs, cs, zs, fi, hp, hB, hA, hk, blk, ow, ndf, hbf, hbm, hfm, back⟩ := ho.focus (markL_at hxe)
    subst hp
    obtain ⟨a0, us, es, rfl, rfl, ow2, hcode2⟩ := ow.consStr hcode
    clear ow hcode; have ow := ow2; have hcode := hcode2; clear ow2 hcode2
    obtain ⟨a1, us, es, rfl, rfl, ow2, hcode2⟩ := ow.consBool hcode
    clear ow hcode; have ow := ow2; have hcode := hcode2; clear ow2 hcode2
    obtain ⟨a2p, a2n, a2c, a2z, us, es, f2, rfl, rfl, rfl, o2, ow2, hcode2⟩ := ow.consInts hcode
    clear ow hcode; have ow := ow2; have hcode := hcode2; clear ow2 hcode2
    obtain ⟨a3p, a3n, a3c, a3z, us, es, f3, rfl, rfl, rfl, o3, ow2, hcode2⟩ := ow.consInts hcode
    clear ow hcode; have ow := ow2; have hcode := hcode2; clear ow2 hcode2
    obtain ⟨rfl, rfl, rfl⟩ := ow.done hcode
    simp only [cnts, D0.cnt] at hct hcle
    have z2 : a2z.length = a2n := by have := o2.len; simpa using this
    have z3 : a3z.length = a3n := by have := o3.len; simpa using this
    have m2 : ∀ q, a2p.map (·.block) = some q → q ∈ ((a2p.map (·.block)).toList ++ ((a3p.map (·.block)).toList ++ ([] : List Nat))) := fun q hq => List.mem_append_left _ (mem_opt hq)
    have u2 : ∀ {W : World} {W2 : World} {zs : List Value}, Own W B T_int 1 a2p a2n a2c zs → Chg [b] W W2 → Own W2 B T_int 1 a2p a2n a2c zs := fun o ch => o.chg ch (fun q hq hm => hbf (List.mem_singleton.1 hm ▸ m2 q hq))
    have m3 : ∀ q, a3p.map (·.block) = some q → q ∈ ((a2p.map (·.block)).toList ++ ((a3p.map (·.block)).toList ++ ([] : List Nat))) := fun q hq => List.mem_append_right _ (List.mem_append_left _ (mem_opt hq))
    have u3 : ∀ {W : World} {W2 : World} {zs : List Value}, Own W B T_int 1 a3p a3n a3c zs → Chg [b] W W2 → Own W2 B T_int 1 a3p a3n a3c zs := fun o ch => o.chg ch (fun q hq hm => hbf (List.mem_singleton.1 hm ▸ m3 q hq))
    have x2 := (List.nodup_append.1 ndf).2.2; have nd2 := (List.nodup_append.1 ndf).2.1
    have d2_3 : ∀ q, a2p.map (·.block) = some q → q ∉ (a3p.map (·.block)).toList := fun q hq hm => x2 q (mem_opt hq) q (List.mem_append_left _ hm) rfl
    have d3_2 : ∀ q, a3p.map (·.block) = some q → q ∉ (a2p.map (·.block)).toList := fun q hq hm => x2 q hm q (List.mem_append_left _ (mem_opt hq)) rfl
    have chT : Chg (b :: ((a2p.map (·.block)).toList ++ ((a3p.map (·.block)).toList ++ ([] : List Nat)))) wr wr := Chg.refl _ _
    have sub1 : ∀ q ∈ [b], q ∈ b :: ((a2p.map (·.block)).toList ++ ((a3p.map (·.block)).toList ++ ([] : List Nat))) := fun q hq => by rw [List.mem_singleton.1 hq]; exact List.mem_cons_self
    refine Ret.at (laws_markText_c (by omega) _) ?_
    rintro v w1 ⟨hv, y⟩
    subst hv
    have blk := blk.ext y; have chT := chT.trans y.toChg
    have o2 := o2.ext y
    have o3 := o3.ext y
    obtain ⟨w2, st, blk2, ch, sz⟩ := blk.storeMid (P := P) (t := T_string) (v := .string (mtext (k1))) hA 0 (by simp) (by kernel_rfl) rfl rfl
    have blk : Blk w2 b e (xs ++ [.string (mtext (k1)), .bool a1, .slice a2p a2n a2c, .slice a3p a3n a3c] ++ zs) := blk2; clear blk2
    have chT := chT.trans (ch.mono sub1)
    have o2 := u2 o2 ch
    have o3 := u3 o3 ch
    refine ⟨_, rfl, ⟨by omega, by omega⟩, w2, (by simp only [addr_add, Int.toNat_natCast, Nat.zero_add, Nat.add_zero]; exact st), exW ⟨by omega, by omega⟩ ?_⟩
    refine ⟨by decide, _, rfl, ⟨by omega, by omega⟩, ?_⟩
    rw [Int.tmod_eq_emod_of_nonneg (show (0 : Int) ≤ k1 + 1 by omega)]
    obtain ⟨w3, st, blk2, ch, sz⟩ := blk.storeMid (P := P) (t := T_bool) (v := .bool (decide ((k1 + 1) % 3 = 0))) hA 1 (by simp) (by kernel_rfl) rfl rfl
    have blk : Blk w3 b e (xs ++ [.string (mtext (k1)), .bool (decide ((k1 + 1) % 3 = 0)), .slice a2p a2n a2c, .slice a3p a3n a3c] ++ zs) := blk2; clear blk2
    have chT := chT.trans (ch.mono sub1)
    have o2 := u2 o2 ch
    have o3 := u3 o3 ch
    refine ⟨w3, (by simp only [addr_add, Int.toNat_natCast, Nat.zero_add, Nat.add_zero]; exact st), exW ⟨by omega, by omega⟩ ?_⟩
    refine ⟨⟨by omega, by omega⟩, _, _, _, (by simp only [addr_add, Int.toNat_natCast, Nat.zero_add, Nat.add_zero]; exact (blk.segMid hA).loadAt 2 rfl (by kernel_rfl) rfl), ?_⟩
    refine Ret.at (laws_markIntS_c o2 (by omega) (by omega)) ?_
    rintro v w4 ⟨hv, on, ch⟩
    subst hv
    have blk := blk.chg ch (fun hm => hbf (m2 _ (opt_mem hm)))
    have chT := chT.trans (ch.mono (fun q hq => List.mem_cons_of_mem _ (m2 q (opt_mem hq))))
    have o3 := o3.chg ch d3_2
    have o2 := on; clear on
    refine ⟨_, rfl, ?_⟩
    refine ⟨⟨by omega, by omega⟩, _, _, _, (by simp only [addr_add, Int.toNat_natCast, Nat.zero_add, Nat.add_zero]; exact (blk.segMid hA).loadAt 3 rfl (by kernel_rfl) rfl), ?_⟩
    refine Ret.at (laws_markIntS_c o3 (by omega) (by omega)) ?_
    rintro v w5 ⟨hv, on, ch⟩
    subst hv
    have blk := blk.chg ch (fun hm => hbf (m3 _ (opt_mem hm)))
    have chT := chT.trans (ch.mono (fun q hq => List.mem_cons_of_mem _ (m3 q (opt_mem hq))))
    have o2 := o2.chg ch d2_3
    have o3 := on; clear on
    refine ⟨_, rfl, ?_⟩
    refine exW ⟨by omega, by omega⟩ ⟨⟨j + 1, by omega, by omega, by omega, ?_, hch.trans (chT.mono (fun q hq => ?_))⟩, ?_⟩
    · rw [← markL_set hxe, ← hk1]
      have e : marks [.str a0, .bool a1, .ints a2z, .ints a3z] k1 = [.str (mtext (k1)), .bool (decide ((k1 + 1) % 3 = 0)), .ints (mkI a2n (k1 + 1 + 1)), .ints (mkI a3n (k1 + 1 + 1 + (a2n : Nat)))] := by simp only [marks, D0.mark, D0.cnt, z2, z3] <;> rfl
      rw [e]
      exact back _ [.string (mtext (k1)), .bool (decide ((k1 + 1) % 3 = 0)), .slice a2p a2n a2c, .slice a3p a3n a3c] _ chT rfl blk (Owns.append (Owns.str _ _ _) (Owns.append (Owns.bool _ _ _) (Owns.append (Owns.ints o2) (Owns.append (Owns.ints o3) (Owns.nil _ _)))))
    · rcases List.mem_cons.1 hq with h | h
      · rw [h]; exact hbm
      · exact hfm q h
    · show n - ((j : Int) + 1).toNat < n - (j : Int).toNat
      omega
  · have hjn : j = n := by omega
    subst hjn
    rw [List.take_of_length_le (by omega), List.drop_of_length_le (by omega), List.append_nil] at ho
    rw [List.take_of_length_le (by omega)] at hk1
    exact ⟨by rw [hk1], ho, hch⟩
theorem laws_heldRestS_c {w : World} {p : Option Addr} {n c : Nat} {l : List (List D0)} {k : Int} (h : RowsR w 4 p n c (markL l k)) (hc : ∀ x ∈ l, x.map D0.code = [.str, .bool, .ints, .ints]) (h0 : 0 ≤ k) (h1 : k + cntL l ≤ 1000000000000000000) :
    Ret P n_laws_heldRestS [.slice p n c, .int .i64 k] w fun v w' => v = .int .i64 (k + cntL l) ∧ Ext w w' := by
  have hz : l.length = n := by have := h.1; rwa [markL_len] at this
  have hcap := h.2.1; have hcm := h.2.2.1
  refine laws_heldRestS_ret ?_
  unfold laws_heldRestS
  refine ⟨fun k1 i wr => ∃ j : Nat, i = j ∧ j ≤ n ∧ k1 = k + cntL (l.take j) ∧ Ext w wr, fun _ i _ => n - i.toNat, ⟨0, rfl, by omega, by simp [cntL], Ext.refl _⟩, ?_⟩
  intro junk wr k1 i ⟨j, hij, hj, hk1, hx⟩
  subst hij
  refine ifD (fun hlt => ?_) (fun hge => ?_)
  · have hjl : j < l.length := by omega
    obtain ⟨x, hxe⟩ : ∃ x, l[j]? = some x := ⟨_, List.getElem?_eq_getElem hjl⟩
    have hcode := hc x (List.mem_of_getElem? hxe)
    obtain ⟨hct, hcle⟩ := cntL_row hxe
    have hcn := cntL_nonneg (l.take j)
    obtain ⟨b, off, hp, hs⟩ := (h.ext hx).2.2.2 (by omega)
    subst hp
    obtain ⟨cs, hk, hr, hsg⟩ := hs j _ (markL_get l k j x hxe)
    rw [← hk1] at hr
    obtain ⟨s0, es, rfl, hcode2⟩ := code_str hcode
    clear hcode; have hcode := hcode2; clear hcode2
    obtain ⟨s1, es, rfl, hcode2⟩ := code_bool hcode
    clear hcode; have hcode := hcode2; clear hcode2
    obtain ⟨z2, es, rfl, hcode2⟩ := code_ints hcode
    clear hcode; have hcode := hcode2; clear hcode2
    obtain ⟨z3, es, rfl, hcode2⟩ := code_ints hcode
    clear hcode; have hcode := hcode2; clear hcode2
    have hn := code_nil hcode; subst hn
    simp only [marks, D0.mark, D0.cnt] at hr
    simp only [cnts, D0.cnt] at hct hcle
    obtain ⟨a0, us, es, rfl, hd, hr2, hc2⟩ := hr.str rfl
    cases hd
    clear hr hc2; have hr := hr2; clear hr2
    obtain ⟨a1, us, es, rfl, hd, hr2, hc2⟩ := hr.bool rfl
    cases hd
    clear hr hc2; have hr := hr2; clear hr2
    obtain ⟨a2p, a2n, a2c, a2z, us, es, rfl, hd, g2, hr2, hc2⟩ := hr.ints rfl
    cases hd
    clear hr hc2; have hr := hr2; clear hr2
    obtain ⟨a3p, a3n, a3c, a3z, us, es, rfl, hd, g3, hr2, hc2⟩ := hr.ints rfl
    cases hd
    clear hr hc2; have hr := hr2; clear hr2
    obtain ⟨hv, _⟩ := hr.done rfl
    subst hv
    have y2 : z2.length = a2n := by have := g2.1; rwa [mkI_len] at this
    rw [y2] at g2
    have y3 : z3.length = a3n := by have := g3.1; rwa [mkI_len] at this
    rw [y3] at g3
    have X : Ext wr wr := Ext.refl _
    have D := Ext.drew wr; have X := X.trans D
    refine ⟨⟨by omega, by omega⟩, _, fun W' hW => (by simp only [addr_add, Int.toNat_natCast, Nat.zero_add, Nat.add_zero]; exact (hsg.ext (X.trans hW)).loadAt 0 rfl (by kernel_rfl) rfl), ?_⟩
    refine Ret.at (laws_markText_c (by omega) _) ?_
    rintro v w1 ⟨hv, y⟩
    subst hv
    have X := X.trans y
    refine ⟨_, rfl, y, ifD (fun hne => absurd rfl hne) (fun _ => exW ⟨by omega, by omega⟩ ?_)⟩
    refine ⟨⟨by omega, by omega⟩, _, (by simp only [addr_add, Int.toNat_natCast, Nat.zero_add, Nat.add_zero]; exact (hsg.ext X).loadAt 1 rfl (by kernel_rfl) rfl), by decide, _, rfl, ?_⟩
    rw [Int.tmod_eq_emod_of_nonneg (show (0 : Int) ≤ k1 + 1 by omega)]
    refine ⟨fun h => absurd h (bne_no rfl), fun _ => exW ⟨by omega, by omega⟩ ?_⟩
    refine ⟨⟨by omega, by omega⟩, _, _, _, (by simp only [addr_add, Int.toNat_natCast, Nat.zero_add, Nat.add_zero]; exact (hsg.ext X).loadAt 2 rfl (by kernel_rfl) rfl), ?_⟩
    refine Ret.at (laws_heldIntS_c (n := a2n) (k := k1 + 1 + 1) (by have := g2.ext X;  exact this) (by omega) (by omega)) ?_
    rintro v w2 ⟨hv, y⟩
    subst hv
    have X := X.trans y
    refine ⟨_, rfl, ifD (fun h => absurd h (by omega)) (fun _ => ?_)⟩
    refine ⟨⟨by omega, by omega⟩, _, _, _, (by simp only [addr_add, Int.toNat_natCast, Nat.zero_add, Nat.add_zero]; exact (hsg.ext X).loadAt 3 rfl (by kernel_rfl) rfl), ?_⟩
    refine Ret.at (laws_heldIntS_c (n := a3n) (k := k1 + 1 + 1 + (a2n : Nat)) (by have := g3.ext X; simp only [y2] at this; exact this) (by omega) (by omega)) ?_
    rintro v w3 ⟨hv, y⟩
    subst hv
    have X := X.trans y
    refine ⟨_, rfl, ifD (fun h => absurd h (by omega)) (fun _ => ?_)⟩
    refine exW ⟨by omega, by omega⟩ ⟨⟨j + 1, by omega, by omega, by omega, hx.trans X⟩, ?_⟩
    show n - ((j : Int) + 1).toNat < n - (j : Int).toNat
    omega
  · have hjn : j = n := by omega
    subst hjn
    rw [List.take_of_length_le (by omega)] at hk1
    exact ⟨by rw [hk1], hx⟩
end Go.Proofs.YtpaekkcgphljoaaDoor

namespace Go.Proofs.YtpaekkcgphljoaaDoor
open Go Go.Proofs.YtpaekkcgphljoaaDoor.Sx
set_option linter.unusedVariables false
set_option linter.unusedSimpArgs false
theorem laws_FnExactRestsNeg_c {w : World} {p0 : Option Addr} {n0 c0 : Nat} {l0 : List (List D0)} (h0 : RowsR w 4 p0 n0 c0 l0) (hc0 : ∀ x ∈ l0, x.map D0.code = [.str, .bool, .ints, .ints]) (hk0 : ∀ x ∈ l0, ∀ d ∈ x, d.ok) (ht : Tab w) :
    Ret P n_laws_FnExactRestsNeg [.slice p0 n0 c0] w fun v w' => v = .bool true ∧ Ext w w' := by
  refine laws_FnExactRestsNeg_ret ?_
  unfold laws_FnExactRestsNeg
  have x : Ext w w := Ext.refl w
  refine Ret.at (laws_szRestS_c (h0.ext x) hc0 hk0 (by omega) (by omega)) ?_
  rintro v W1 ⟨k0, hv, hs0, hm0, y⟩
  subst hv
  have x := x.trans y
  have ll1 := y.le
  refine ⟨_, rfl, ifD (fun _ => ⟨rfl, x⟩) (fun hp0 => ?_)⟩
  have hs0 := hs0 (by omega)
  have hb0 : ∀ y ∈ l0, bulks y ≤ 1048576 := fun y hy => by have := bulks_le hy; omega
  have hz0 : n0 ≤ 1048576 := by omega
  have hsum0 : (l0.map bulks).sum ≤ 1048576 := by omega
  refine Ret.at (laws_toRestS_c (h0.ext x) hc0 hz0 hb0) ?_
  rintro v W2 ⟨p_s0, c_s0, f_s0, hv, o_s0, y⟩
  subst hv
  have lt_o_s0 : ∀ k ∈ f_s0, W1.heap.size ≤ k ∧ k < W2.heap.size := o_s0.lt
  have yy := y
  have x := x.trans y
  have ll2 := y.le
  refine ⟨_, _, _, rfl, ?_⟩
  refine Ret.at (spec_RestsNeg_c o_s0.rows hc0 hz0 hb0) ?_
  rintro v W3 ⟨p_w0, m_w0, c_w0, hv, o_w0, co_w0, y⟩
  subst hv
  have x := x.trans y
  have ll3 := y.le
  have xS := Ext.refl W3
  refine ⟨_, _, _, _, rfl, ?_⟩
  refine Ret.at (laws_toRestS_c (h0.ext x) hc0 hz0 hb0) ?_
  rintro v W4 ⟨p_x0, c_x0, f_x0, hv, o_x0, y⟩
  subst hv
  have lt_o_x0 : ∀ k ∈ f_x0, W3.heap.size ≤ k ∧ k < W4.heap.size := o_x0.lt
  have x := x.trans y
  have xS := xS.trans y
  have ll4 := y.le
  refine ⟨_, _, _, rfl, ?_⟩
  refine Ret.at (impl_RestsNeg_c o_x0.rows hc0 hz0 hb0 (ht.ext x)) ?_
  rintro v W5 ⟨p_g0, m_g0, c_g0, f_g0, hv, o_g0, co_g0, ct_g0, y⟩
  subst hv
  have tn_g0 := cntL_nn ct_g0
  have lt_o_g0 : ∀ k ∈ f_g0, W4.heap.size ≤ k ∧ k < W5.heap.size := o_g0.lt
  have x := x.trans y
  have xS := xS.trans y
  have o_x0 := o_x0.ext y
  have ll5 := y.le
  refine ⟨_, _, _, _, rfl, ?_⟩
  refine Ret.at (laws_eqRestS_c o_g0.rows (o_w0.ext xS) co_g0 co_w0) ?_
  rintro v W6 ⟨hv, y⟩
  subst hv
  have x := x.trans y
  have xS := xS.trans y
  have o_x0 := o_x0.ext y
  have o_g0 := o_g0.ext y
  have ll6 := y.le
  refine ⟨_, rfl, ifN (fun h => absurd h (by simp)) (fun _ => ?_)⟩
  refine ⟨fun h => absurd h (bne_no rfl), fun _ => ?_⟩
  unfold laws_FnExactRestsNeg_j0
  refine Ret.at (laws_toRestS_c (h0.ext x) hc0 hz0 hb0) ?_
  rintro v W7 ⟨p_y0, c_y0, f_y0, hv, o_y0, y⟩
  subst hv
  have lt_o_y0 : ∀ k ∈ f_y0, W6.heap.size ≤ k ∧ k < W7.heap.size := o_y0.lt
  have y2 := y
  have x := x.trans y
  have xS := xS.trans y
  have o_x0 := o_x0.ext y
  have o_g0 := o_g0.ext y
  have ll7 := y.le
  refine ⟨_, _, _, rfl, ?_⟩
  refine Ret.at (laws_eqRestS_c o_x0.rows o_y0.rows hc0 hc0) ?_
  rintro v W8 ⟨hv, y⟩
  subst hv
  have x := x.trans y
  have xS := xS.trans y
  have o_x0 := o_x0.ext y
  have o_g0 := o_g0.ext y
  have ll8 := y.le
  refine ⟨_, rfl, ifN (fun h => absurd h (by simp)) (fun _ => ?_)⟩
  have cn0 := cntL_nonneg l0; have cb0 := cntL_le l0 (m := 4) (fun y hy => by rw [code_len (hc0 y hy)]; decide)
  have cl0 : cntL l0 ≤ 100000000 := by have := h0.1; omega
  refine Ret.at (laws_markRestS_c o_x0 hc0 (by omega) (by omega)) ?_
  rintro v W9 ⟨hv, on, ch⟩
  subst hv
  have x := x.chg ch (fun k hk => by have := lt_o_x0 k hk; omega)
  have xS := xS.chg ch (fun k hk => by have := lt_o_x0 k hk; omega)
  have o_g0 := o_g0.chg ch (fun k hk hm => by have h1 := lt_o_g0 k hk; have h2 := lt_o_x0 k hm; omega)
  have ll9 := ch.size
  have o_x0 := on; clear on
  refine ⟨_, rfl, ?_⟩
  refine ifD (fun h => absurd h (by omega)) (fun _ => ?_)
  refine Ret.at (laws_eqRestS_c o_g0.rows (o_w0.ext xS) co_g0 co_w0) ?_
  rintro v W10 ⟨hv, y⟩
  subst hv
  have x := x.trans y
  have xS := xS.trans y
  have o_x0 := o_x0.ext y
  have o_g0 := o_g0.ext y
  have ll10 := y.le
  refine ⟨_, rfl, ifN (fun h => absurd h (by simp)) (fun _ => ?_)⟩
  refine ⟨fun h => absurd h (bne_no rfl), fun _ => ?_⟩
  unfold laws_FnExactRestsNeg_j1
  refine Ret.at (laws_markRestS_c o_g0 co_g0 (by omega) (by omega)) ?_
  rintro v W11 ⟨hv, on, ch⟩
  subst hv
  have x := x.chg ch (fun k hk => by have := lt_o_g0 k hk; omega)
  have xS := xS.chg ch (fun k hk => by have := lt_o_g0 k hk; omega)
  have o_x0 := o_x0.chg ch (fun k hk hm => by have h1 := lt_o_x0 k hk; have h2 := lt_o_g0 k hm; omega)
  have ll11 := ch.size
  have o_g0 := on; clear on
  refine ⟨_, rfl, ?_⟩
  refine Ret.at (laws_heldRestS_c o_g0.rows co_g0 (by omega) (by omega)) ?_
  rintro v W12 ⟨hv, y⟩
  subst hv
  have x := x.trans y
  have xS := xS.trans y
  have o_x0 := o_x0.ext y
  have o_g0 := o_g0.ext y
  have ll12 := y.le
  refine ⟨_, rfl, ifD (fun h => absurd h (by omega)) (fun _ => ?_)⟩
  refine ifD (fun h => absurd rfl h) (fun _ => ?_)
  refine Ret.at (laws_toRestS_c (h0.ext x) hc0 hz0 hb0) ?_
  rintro v W13 ⟨p_h0, c_h0, f_h0, hv, o_h0, y⟩
  subst hv
  have lt_o_h0 : ∀ k ∈ f_h0, W12.heap.size ≤ k ∧ k < W13.heap.size := o_h0.lt
  have yy := y
  have x := x.trans y
  have xS := xS.trans y
  have o_x0 := o_x0.ext y
  have o_g0 := o_g0.ext y
  have ll13 := y.le
  refine ⟨_, _, _, rfl, ?_⟩
  refine Ret.at (impl_RestsNeg_c o_h0.rows hc0 hz0 hb0 (ht.ext x)) ?_
  rintro v W14 ⟨p_h0, m_h0, c_h0, f_h0, hv, o_h0, co_h0, ct_h0, y⟩
  subst hv
  have tn_h0 := cntL_nn ct_h0
  have lt_o_h0 : ∀ k ∈ f_h0, W13.heap.size ≤ k ∧ k < W14.heap.size := o_h0.lt
  have x := x.trans y
  have xS := xS.trans y
  have o_x0 := o_x0.ext y
  have o_g0 := o_g0.ext y
  have ll14 := y.le
  refine ⟨_, _, _, _, rfl, ?_⟩
  refine Ret.at (laws_eqRestS_c o_h0.rows (o_w0.ext xS) co_h0 co_w0) ?_
  rintro v W15 ⟨hv, y⟩
  subst hv
  have x := x.trans y
  have xS := xS.trans y
  have o_x0 := o_x0.ext y
  have o_g0 := o_g0.ext y
  have o_h0 := o_h0.ext y
  have ll15 := y.le
  refine ⟨_, rfl, ifN (fun h => absurd h (by simp)) (fun _ => ?_)⟩
  refine ⟨fun h => absurd h (bne_no rfl), fun _ => ?_⟩
  unfold laws_FnExactRestsNeg_j2
  refine Ret.at (laws_heldRestS_c o_g0.rows co_g0 (by omega) (by omega)) ?_
  rintro v W16 ⟨hv, y⟩
  subst hv
  have x := x.trans y
  have xS := xS.trans y
  have o_x0 := o_x0.ext y
  have o_g0 := o_g0.ext y
  have o_h0 := o_h0.ext y
  have ll16 := y.le
  refine ⟨_, rfl, ifD (fun h => absurd h (by omega)) (fun _ => ?_)⟩
  refine ifD (fun h => absurd rfl h) (fun _ => ?_)
  exact ⟨rfl, x⟩
end Go.Proofs.YtpaekkcgphljoaaDoor

namespace Go.Proofs.YtpaekkcgphljoaaDoor.Sx
open Go Go.RowKit Go.ChangeShapes Go.WideShapes
set_option linter.unusedVariables false
set_option linter.unusedSimpArgs false
/-- each named variable's type can be read and is a row of the table -/
def rowedV (P : Program) (ns : List String) : Bool := ns.all fun n => ((P.globalNamed n).bind (P.globals[·]?)).all fun gl => P.readableRec gl.type && decide (gl.type < P.types.size)
section
variable {H : Type} {enc : TypeId × Value → H} {P : Program}
theorem trodAll_ext (hl : laidOutB P = true) {W W' : World} (hb : Ext W W') (sp' : Nat → Bool) : ∀ {ts : List TypeId} {vs : List Value} {ds : List (DataW H)} {ps : List MemPlace},
    (∀ t ∈ ts, P.readableRec t = true ∧ t < P.types.size) → (∀ p ∈ ps, p.block < W.heap.size) → (∀ p ∈ ps, sp' p.block = true) →
    DataW.TrodAll enc P W 0 (fun _ => true) true ts vs ds ps → DataW.TrodAll enc P W' 0 sp' true ts vs ds ps
  | [], _, _, _, _, _, _, h => by
    obtain ⟨rfl, rfl, rfl⟩ := trodAll_nil h
    exact rfl
  | t :: ts, _, _, _, hr, hlt, hsp, h => by
    obtain ⟨v, vs1, d, ds1, a, b, rfl, rfl, rfl, h1, h2⟩ := trodAll_cons h
    have hrt := hr t (by simp)
    exact ⟨a, b, WideElems.Trod_stays hl hrt.1 hrt.2 h1 (fun x hx => Below.same hb (hlt x (by simp [hx]))) (fun x hx => hsp x (by simp [hx])),
      trodAll_ext hl hb sp' (fun u hu => hr u (by simp [hu])) (fun x hx => hlt x (by simp [hx])) (fun x hx => hsp x (by simp [hx])) h2, rfl⟩
theorem trodVars_sp (hl : laidOutB P = true) {W W' : World} (hb : Ext W W') (sp' : Nat → Bool) :
    ∀ {ns : List String} {gs : List (DataW H)} {ps : List MemPlace}, rowedV P ns = true → (∀ p ∈ ps, sp' p.block = true) → DataW.TrodVars enc P W (fun _ => true) ns gs ps → DataW.TrodVars enc P W' sp' ns gs ps
  | [], [], _, _, _, h => h
  | [], _ :: _, _, _, _, h => h.elim
  | _ :: _, [], _, _, _, h => h.elim
  | n :: ns, d :: ds, ps, hv, hsp, h => by
    have hlt := h.lt
    obtain ⟨g, t, cs, fuel, p, q, h1, h2, h3, h4, hs, e⟩ := h
    simp only [rowedV, List.all_cons, Bool.and_eq_true] at hv
    have ht : P.readableRec t = true ∧ t < P.types.size := by
      have := hv.1
      rw [h1] at this
      cases hg : P.globals[g]? with
      | none => rw [hg] at h2; cases h2
      | some gl =>
        rw [hg] at h2
        obtain rfl : gl.type = t := Option.some.inj h2
        simpa [hg] using this
    have hp : ∀ x ∈ p, x.block < W.heap.size := fun x hx => hlt x (by rw [e]; simp [hx])
    have h3' : W'.var? P n = some cs := by
      unfold World.var? at h3 ⊢
      rw [h1] at h3 ⊢
      simp only [Option.bind_some] at h3 ⊢
      have hg : g < W.heap.size := by
        cases hh : W.heap[g]? with
        | none => rw [hh] at h3; cases h3
        | some o => exact (Array.getElem?_eq_some_iff.1 hh).1
      rw [hb.block g hg]; exact h3
    exact ⟨g, t, cs, fuel, p, q, h1, h2, h3', DataW.trod_stays (kids_book hl ht.1) (book_sized ht.1) (fun h => by cases h) ⟨ht.2, book_self t⟩ h4 (fun x hx => Below.same hb (hp x hx)) (fun x hx => hsp x (by rw [e]; simp [hx])),
      trodVars_sp hl hb sp' (by simpa [rowedV] using hv.2) (fun x hx => hsp x (by rw [e]; simp [hx])) hs, e⟩
/-- what the row asks of a law that answered true in a world with more behind it -/
theorem post_of_ext {f : Func} {s : ChangeSpec} {apart fresh handsOn again : Bool} {W W' : World} {args : Array Value} {ds gs : List (DataW H)} {before : List MemPlace} {tb : TypeId}
    (hl : laidOutB P = true) (hpar : ∀ t ∈ f.params.toList, P.readableRec t = true ∧ t < P.types.size) (hvr : rowedV P s.vars = true)
    (hrt : f.resultTypes = #[tb]) (htb : P.underlying tb = some .bool)
    (hW : DataW.Whole enc P f.params.toList s.vars apart W args.toList ds gs before) (hx : Ext W W')
    (hfn : s.fn H (ds ++ gs) = { results := [.lit (.bool true)], args := ds, vars := gs }) :
    s.post enc P f apart fresh handsOn again W args (.bool true) W' := by
  have hW0 := hW
  have hlt : ∀ p ∈ before, p.block < W.heap.size := hW.lt
  obtain ⟨pa, pv, hA, hV, rfl, hz, hn⟩ := hW
  have hlta : ∀ p ∈ pa, p.block < W.heap.size := fun p hp => hlt p (by simp [hp])
  have hltv : ∀ p ∈ pv, p.block < W.heap.size := fun p hp => hlt p (by simp [hp])
  have hr : (Value.bool true).resultList f.resultTypes.size = [Value.bool true] := by rw [hrt]; rfl
  refine ⟨ds, gs, pa ++ pv, [], pa, pv, hW0, ?_, ?_, ?_, Below.frame hx _, fun _ => ?_⟩
  · rw [hfn, hr, hrt]
    exact trodAll_mk1 (shut_bool htb _)
  · rw [hfn]
    exact trodAll_ext hl hx _ hpar hlta (fun p hp => by simpa using hlta p hp) hA
  · rw [hfn]
    exact trodVars_sp hl hx _ hvr (fun p hp => by simpa using hltv p hp) hV
  · refine ⟨?_, (.lit (.bool true)) :: ds, gs, pa ++ pv, ⟨[] ++ pa, pv, ?_, ?_, by simp, ?_, ?_⟩, fun p hp _ => hp⟩
    · rw [hr, hrt]
      exact ok_one (f := { f with resultTypes := #[tb] }) rfl rfl (okWide_bool_mk htb _)
    · rw [hr, hrt]
      exact trodAll_append (trodAll_ext hl hx _ hpar hlta (fun _ _ => rfl) hA) (trodAll_mk1 (shut_bool htb _))
    · exact trodVars_sp hl hx _ hvr (fun _ _ => rfl) hV
    · intro b off hp
      have := hlt _ hp
      rw [Below.frozen hx (p := ⟨b, off, none⟩) this]
      exact hz b off hp
    · exact hn
end
end Go.Proofs.YtpaekkcgphljoaaDoor.Sx

namespace Go.Proofs.YtpaekkcgphljoaaDoor.Sx
open Go Go.RowKit Go.ChangeShapes Go.WideShapes
set_option linter.unusedVariables false
set_option linter.unusedSimpArgs false
/-- the cells of a struct's fields, one behind the other -/
def flatF (P : Program) (g : TypeId → Option (List C0)) : Nat → List Field → Option (List C0)
  | _, [] => some []
  | o, f :: r => match Nat.beq f.offset o, g f.type with
    | true, some a => match Nat.beq (P.cellsOf f.type) a.length, flatF P g (o + a.length) r with
      | true, some b => some (a ++ b)
      | _, _ => none
    | _, _ => none
/-- the cells of a type -/
def flatC (P : Program) : Nat → TypeId → Option (List C0)
  | 0, _ => none
  | n + 1, t => match P.underlying t with
    | some .bool => some [.bool]
    | some (.int .i64) => some [.int]
    | some .string => some [.str]
    | some (.slice e) => match P.underlying e, P.cellsOf e with
      | some (.int .i64), 1 => some [.ints]
      | _, _ => none
    | some (.struct fs) => match flatF P (flatC P n) 0 fs.toList with
      | some a => if Nat.beq (P.cellsOf t) a.length then some a else none
      | none => none
    | _ => none
section
variable {H : Type} {enc : TypeId × Value → H} {P : Program} {w : World}
theorem seg_of_cells {b off n : Nat} {sp : Option Nat} {cs : List Value} (h : w.cells? 0 ⟨b, off, none⟩ n = some cs) : cs.length = n ∧ Seg w b off cs := by
  obtain ⟨_, hl, hc⟩ := World.cells?_some h
  refine ⟨hl, fun j v hj => ?_⟩
  have hjl : j < n := by rw [← hl]; exact (List.getElem?_eq_some_iff.1 hj).1
  rw [← addr_add, hc j hjl, hj]
theorem spot_none {a : Addr} {v : Value} (h : w.cell? a = some v) : a = ⟨a.block, a.off, none⟩ := by
  obtain ⟨b, o, spot⟩ := a
  have : spot = none := by simpa using World.cell?_spot h
  subst this; rfl
theorem ints_of_trod {t e : TypeId} {fuel : Nat} {sp : Nat → Bool} {hd : Bool} {cs : List Value} {x : DataW H × List MemPlace} (ht : P.underlying t = some (.slice e)) (he : P.underlying e = some (.int .i64)) (hc : P.cellsOf e = 1)
    (h : DataW.trod enc P w 0 sp hd fuel t cs = some x) : ∃ p n c zs, cs = [.slice p n c] ∧ IntsR w p n c zs ∧ zs.length ≤ 9223372036854775807 := by
  rcases Go.ChangeShapes.open_ints ht he hc h with ⟨rfl, _⟩ | ⟨a, len, cap, zs, rfl, _, hl, hm, hz, _, hcell, _⟩
  · exact ⟨none, 0, 0, [], rfl, ⟨rfl, Nat.le_refl _, by omega, fun h => absurd h (by omega)⟩, by simp⟩
  · have hlz : len ≤ zs.length := by rw [hz]; split <;> omega
    refine ⟨some a, len, cap, zs.take len, rfl, ⟨by simp; omega, hl, by simpa [maxLen] using hm, fun hpos => ?_⟩, by simp only [maxLen] at hm; simp; omega⟩
    have h0 := hcell 0 (by omega)
    have hs := spot_none h0
    have ha : a = ⟨a.block, a.off, none⟩ := by
      obtain ⟨b, o, s⟩ := a
      simp [Addr.add] at hs
      simp [hs]
    refine ⟨a.block, a.off, by rw [← ha], fun j v hj => ?_⟩
    simp only [List.getElem?_map, List.getElem?_take] at hj
    split at hj
    · rename_i hjl
      have hjz : j < zs.length := by omega
      have := hcell j hjz
      rw [ha, addr_add] at this
      rw [this]
      rw [List.getElem?_eq_getElem hjz] at hj
      simp at hj
      rw [← hj]
      simp [hjz]
    · simp at hj
theorem flatF_open {g : TypeId → Option (List C0)} {n : Nat} {sp : Nat → Bool} {hd : Bool}
    (ih : ∀ {t : TypeId} {ks : List C0} {cs : List Value} {x : DataW H × List MemPlace}, g t = some ks → DataW.trod enc P w 0 sp hd n t cs = some x → ∃ ds, Reps w cs ds ∧ ds.map D0.code = ks ∧ ∀ d ∈ ds, d.ok) :
    ∀ (fs : List Field) (o : Nat) (ks : List C0) (cs : List Value), flatF P g o fs = some ks → cs.length = o + ks.length →
      (∀ f ∈ fs, ∃ x, DataW.trod enc P w 0 sp hd n f.type ((cs.drop f.offset).take (P.cellsOf f.type)) = some x) → ∃ ds, Reps w (cs.drop o) ds ∧ ds.map D0.code = ks ∧ ∀ d ∈ ds, d.ok
  | [], o, ks, cs, hf, hl, _ => by
    simp only [flatF, Option.some.injEq] at hf
    subst hf
    rw [List.drop_of_length_le (by simp at hl; omega)]
    exact ⟨[], trivial, rfl, by simp⟩
  | f :: r, o, ks, cs, hf, hl, hx => by
    simp only [flatF] at hf
    split at hf
    · rename_i a h1 h2
      split at hf
      · rename_i b h3 h4
        have h1' := Nat.eq_of_beq_eq_true h1
        have h3' := Nat.eq_of_beq_eq_true h3
        cases hf
        rw [List.length_append] at hl
        obtain ⟨x, hx0⟩ := hx f (by simp)
        obtain ⟨ds, r1, c1, k1⟩ := ih h2 hx0
        obtain ⟨es, r2, c2, k2⟩ := flatF_open ih r (o + a.length) b cs h4 (by omega) (fun f' hf' => hx f' (by simp [hf']))
        refine ⟨ds ++ es, ?_, by simp [c1, c2], fun d hd => ?_⟩
        · rw [h1', h3'] at r1
          have : cs.drop o = (cs.drop o).take a.length ++ cs.drop (o + a.length) := by
            rw [← List.drop_drop, List.take_append_drop]
          rw [this]
          exact r1.append r2
        · rcases List.mem_append.1 hd with h | h
          · exact k1 d h
          · exact k2 d h
      · cases hf
    · cases hf
theorem flat_open {sp : Nat → Bool} {hd : Bool} : ∀ (m : Nat) {fuel : Nat} {t : TypeId} {ks : List C0} {cs : List Value} {x : DataW H × List MemPlace}, flatC P m t = some ks → DataW.trod enc P w 0 sp hd fuel t cs = some x →
    ∃ ds, Reps w cs ds ∧ ds.map D0.code = ks ∧ ∀ d ∈ ds, d.ok
  | 0, _, _, _, _, _, h, _ => by cases h
  | m + 1, fuel, t, ks, cs, x, h, ht => by
    simp only [flatC] at h
    split at h
    · rename_i hu
      obtain ⟨b, rfl, _⟩ := DataW.trod_bool hu ht
      cases h
      exact ⟨[.bool b], ⟨rfl, trivial⟩, rfl, by simp [D0.ok]⟩
    · rename_i hu
      obtain ⟨b, rfl, _, hw⟩ := DataW.trod_int hu ht
      cases h
      refine ⟨[.int b], ⟨rfl, trivial⟩, rfl, ?_⟩
      simp only [List.mem_singleton, forall_eq, D0.ok]
      simp [Lit.wf, IntKind.min, IntKind.max, IntKind.bits, IntKind.signed] at hw
      omega
    · rename_i hu
      obtain ⟨s, rfl, _, hw⟩ := DataW.trod_string hu ht
      cases h
      exact ⟨[.str s], ⟨rfl, trivial⟩, rfl, by simpa [D0.ok, maxLen] using hw⟩
    · rename_i e hu
      split at h
      · rename_i he hc
        cases h
        obtain ⟨p, n, c, zs, rfl, hr, hz⟩ := ints_of_trod hu he hc ht
        exact ⟨[.ints zs], ⟨⟨p, n, c, rfl, hr⟩, trivial⟩, rfl, by simpa [D0.ok] using hz⟩
      · cases h
    · rename_i fs hu
      split at h
      · rename_i a hf
        split at h
        · rename_i hsz
          cases h
          obtain ⟨xs, n, rfl, _, hlen, hxl, hfs⟩ := DataW.trod_struct hu ht
          have hsz' := Nat.eq_of_beq_eq_true hsz
          have := flatF_open (fun h1 h2 => flat_open m h1 h2) fs.toList 0 ks cs hf (by omega) (fun f hf => by
            obtain ⟨i, hi⟩ := List.getElem?_of_mem hf
            have hil : i < fs.size := by simpa using (List.getElem?_eq_some_iff.1 hi).1
            have := hfs i f (by simpa using hi)
            rw [List.getElem?_eq_getElem (by omega)] at this
            exact ⟨_, this⟩)
          simpa using this
        · cases h
      · cases h
    · cases h
theorem rows_open {sp : Nat → Bool} {hd : Bool} {m fuel : Nat} {t e : TypeId} {ks : List C0} {cs : List Value} {x : DataW H × List MemPlace} (hu : P.underlying t = some (.slice e)) (hk : flatC P m e = some ks) (hc : P.cellsOf e = ks.length) (hpos : 0 < ks.length)
    (ht : DataW.trod enc P w 0 sp hd fuel t cs = some x) : ∃ p n c l, cs = [.slice p n c] ∧ RowsR w ks.length p n c l ∧ (∀ y ∈ l, y.map D0.code = ks) ∧ ∀ y ∈ l, ∀ d ∈ y, d.ok := by
  rcases Go.Deep.open_slice hu ht with ⟨rfl, _⟩ | ⟨a, len, cap, mm, n, D, Pl, rfl, _, hl, hm, hmm, _, hx⟩
  · exact ⟨none, 0, 0, [], rfl, RowsR.nil _ _ _ (by omega), by simp, by simp⟩
  · have hlm : len ≤ mm := by rw [hmm]; split <;> omega
    have hex : ∀ i, i < len → ∃ ds : List D0, (∃ cs', cs'.length = ks.length ∧ Reps w cs' ds ∧ w.cells? 0 (a.add (i * ks.length)) ks.length = some cs') ∧ ds.map D0.code = ks ∧ ∀ d ∈ ds, d.ok := fun i hi => by
      obtain ⟨cs', h1, h2⟩ := hx i (by omega)
      obtain ⟨ds, r, c, k⟩ := flat_open m hk h2
      rw [hc] at h1
      exact ⟨ds, ⟨cs', (World.cells?_some h1).2.1, r, h1⟩, c, k⟩
    obtain ⟨F, hF⟩ := Go.Deep.choose_lt hex
    refine ⟨some a, len, cap, (List.range len).map F, rfl, ⟨by simp, hl, by simpa [maxLen] using hm, fun hn => ?_⟩, ?_, ?_⟩
    · obtain ⟨⟨cs', _, _, h1⟩, _⟩ := hF 0 hn
      have h0 := (World.cells?_some h1).2.2 0 hpos
      have hlen := (World.cells?_some h1).2.1
      rw [List.getElem?_eq_getElem (by omega)] at h0
      have hs := spot_none h0
      have ha : a = ⟨a.block, a.off, none⟩ := by
        obtain ⟨b, o, s⟩ := a
        simp [Addr.add] at hs
        simp [hs]
      refine ⟨a.block, a.off, by rw [← ha], fun i y hy => ?_⟩
      have hil : i < len := by
        have := (List.getElem?_eq_some_iff.1 hy).1
        simpa using this
      obtain ⟨⟨cs', q1, q2, q3⟩, _⟩ := hF i hil
      have : y = F i := by simpa [hil] using hy.symm
      subst this
      rw [ha, addr_add] at q3
      exact ⟨cs', q1, q2, (seg_of_cells (sp := none) q3).2⟩
    · intro y hy
      obtain ⟨i, hi, rfl⟩ := List.mem_map.1 hy
      exact (hF i (by simpa using hi)).2.1
    · intro y hy
      obtain ⟨i, hi, rfl⟩ := List.mem_map.1 hy
      exact (hF i (by simpa using hi)).2.2
end
end Go.Proofs.YtpaekkcgphljoaaDoor.Sx

namespace Go.Proofs.YtpaekkcgphljoaaDoor
open Go Go.Proofs.YtpaekkcgphljoaaDoor.Sx
set_option linter.unusedVariables false
set_option linter.unusedSimpArgs false
def curData {H : Type} (r : CurRow) : DataW H := .agg [.lit (.string r.1.data.toList), .lit (.string r.2.1.data.toList), .lit (.int .i64 r.2.2.1), .lit (.int .i64 r.2.2.2)]
theorem bytes_eq {a b : ByteArray} (h : a.data.toList = b.data.toList) : a = b := by
  obtain ⟨⟨x⟩⟩ := a; obtain ⟨⟨y⟩⟩ := b
  simp at h; subst h; rfl
set_option maxRecDepth 100000 in
theorem cur_cells {H : Type} {enc : TypeId × Value → H} {w : World} {sp : Nat → Bool} {hd : Bool} {fuel : Nat} {cs : List Value} {r : CurRow} {p : List MemPlace}
    (h : DataW.trod enc P w 0 sp hd fuel T_impl_currency cs = some (curData r, p)) : cs = curCells r := by
  obtain ⟨fs, hu, hsz, ⟨f0, e0, t0, o0⟩, ⟨f1, e1, t1, o1⟩, ⟨f2, e2, t2, o2⟩, ⟨f3, e3, t3, o3⟩⟩ := cur_fields
  have hu : P.underlying T_impl_currency = some (.struct fs) := hu
  have hs : P.underlying T_string = some .string := by kernel_rfl
  have hi : P.underlying T_int = some (.int .i64) := by kernel_rfl
  have cS : P.cellsOf T_string = 1 := by kernel_rfl
  have cI : P.cellsOf T_int = 1 := by kernel_rfl
  have cC : P.cellsOf T_impl_currency = 4 := by kernel_rfl
  obtain ⟨xs, n, rfl, hx, hlen, hxl, hf⟩ := DataW.trod_struct hu h
  rw [cC] at hlen
  rw [hsz] at hxl
  have h0 := hf 0 f0 e0; have h1 := hf 1 f1 e1; have h2 := hf 2 f2 e2; have h3 := hf 3 f3 e3
  rw [t0, o0, cS] at h0; rw [t1, o1, cS] at h1; rw [t2, o2, cI] at h2; rw [t3, o3, cI] at h3
  match cs, hlen, xs, hxl, hx, h0, h1, h2, h3 with
  | [c0, c1, c2, c3], _, [x0, x1, x2, x3], _, hx, h0, h1, h2, h3 =>
    simp only [List.drop_succ_cons, List.drop_zero, List.take_succ_cons, List.take_zero, List.getElem?_cons_zero, List.getElem?_cons_succ] at h0 h1 h2 h3
    obtain ⟨s0, a0, b0, _⟩ := DataW.trod_string hs h0
    obtain ⟨s1, a1, b1, _⟩ := DataW.trod_string hs h1
    obtain ⟨z2, a2, b2, _⟩ := DataW.trod_int hi h2
    obtain ⟨z3, a3, b3, _⟩ := DataW.trod_int hi h3
    simp only [Prod.mk.injEq, curData, DataW.agg.injEq, List.map_cons, List.map_nil, List.cons.injEq, b0, b1, b2, b3, DataW.lit.injEq, Lit.string.injEq, Lit.int.injEq, true_and, and_true] at hx
    simp only [List.cons.injEq, and_true] at a0 a1 a2 a3
    obtain ⟨⟨q0, q1, q2, q3⟩, _⟩ := hx
    rw [a0, a1, a2, a3, ← bytes_eq q0, ← bytes_eq q1, ← q2, ← q3]
    rfl
theorem flat_of_rows : ∀ (l : List CurRow) (cs : List Value), cs.length = l.length * 4 → (∀ i (hi : i < l.length), (cs.drop (i * 4)).take 4 = curCells (l[i]'hi)) → cs = l.flatMap curCells
  | [], cs, h, _ => by simpa using h
  | r :: l, cs, h, hr => by
    have h0 := hr 0 (by simp)
    simp only [Nat.zero_mul, List.drop_zero, List.getElem_cons_zero] at h0
    rw [List.flatMap_cons, ← h0, ← flat_of_rows l (cs.drop 4) (by simp at h ⊢; omega) (fun i hi => by
      have := hr (i + 1) (by simpa using hi)
      rw [List.drop_drop, show 4 + i * 4 = (i + 1) * 4 by omega]
      simpa using this), List.take_append_drop]
def curVar : String := "loop.example/g00793/impl.currencies"
set_option maxRecDepth 100000 in
theorem tab_of_head {W : World} {rest : List (String × DataW Unit)} (h : laidMet P ((curVar, Rows.laid_loop_example_g00793_impl_currencies) :: rest) W) : Tab W := by
  obtain ⟨ps, ⟨g, t, cs, fuel, p, q, hg, ht, hvar, hd, _, _⟩, _⟩ := h
  have hg0 : P.globalNamed curVar = some 0 := by kernel_rfl
  have ht0 : (P.globals[0]?).map (·.type) = some T_20_impl_currency := by kernel_rfl
  obtain rfl := Option.some.inj (hg0.symm.trans hg)
  obtain rfl := Option.some.inj (ht0.symm.trans ht)
  have hu : P.underlying T_20_impl_currency = some (.array 20 T_impl_currency) := und_T_20_impl_currency
  have cC : P.cellsOf T_impl_currency = 4 := by kernel_rfl
  have cA : P.cellsOf T_20_impl_currency = 80 := by kernel_rfl
  obtain ⟨xs, m, rfl, hx, hlen, hxl, hf⟩ := DataW.trod_array hu hd
  rw [cA] at hlen
  have hdat : (Rows.laid_loop_example_g00793_impl_currencies : DataW Unit) = .agg (implTab.map curData) := by rfl
  rw [hdat] at hx
  simp only [Prod.mk.injEq, DataW.agg.injEq] at hx
  have hl := impl_length
  have hcs : cs.toList = implTab.flatMap curCells := by
    refine flat_of_rows implTab _ (by omega) fun i hi => ?_
    have h1 := hf i (by omega)
    rw [cC] at h1
    have h2 : (xs.map (·.1))[i]? = some (curData (implTab[i]'hi)) := by rw [← hx.1]; simp [hi]
    rw [List.getElem?_map] at h2
    cases h3 : xs[i]? with
    | none => rw [h3] at h2; cases h2
    | some x =>
      rw [h3] at h1 h2
      simp only [Option.map_some, Option.some.injEq] at h2
      obtain ⟨d, pp⟩ := x
      simp only at h2
      subst h2
      exact cur_cells h1
  intro i v hv
  have := World.var?_cell hg0 hvar i
  rw [Nat.zero_add, this, ← hv, ← hcs]
  simp
theorem tab_of_laid {W : World} (h : laidMetH P [(curVar, Rows.laid_loop_example_g00793_impl_currencies)] W) : Tab W := tab_of_head (rest := []) h
/-- a world for the witness: the settled one, the table laid in its variable -/
noncomputable def laidWorld (os : Os) (args : Array Value) : World :=
  { World.holding P os ⟨#[], args, []⟩ with heap := (World.holding P os ⟨#[], args, []⟩).heap.modify 0 fun
      | .cells _ t frozen => .cells ⟨implTab.flatMap curCells⟩ t frozen
      | o => o }
theorem trodVars_one {H : Type} {enc : TypeId × Value → H} {w : World} {sp : Nat → Bool} {n : String} {gs : List (DataW H)} {ps : List MemPlace} (h : DataW.TrodVars enc P w sp [n] gs ps) : ∃ g, gs = [g] := by
  match gs, h with
  | [g], _ => exact ⟨g, rfl⟩
  | g :: g2 :: r, h =>
    obtain ⟨_, _, _, _, _, _, _, _, _, _, h2, _⟩ := h
    exact h2.elim
end Go.Proofs.YtpaekkcgphljoaaDoor
