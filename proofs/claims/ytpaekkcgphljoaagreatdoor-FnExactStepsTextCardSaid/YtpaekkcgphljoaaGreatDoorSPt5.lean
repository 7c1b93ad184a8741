/-
  Parts of the proof of stepsText_holds: CStepsText, WStepsText, SxRow, SxOpen, Tab, CTabP.
  Conditions: none.
-/
import Derived.ProofKit
import Derived.Deep.Slices
import Derived.Test.YtpaekkcgphljoaaGreatDoorRows
import Derived.OpenShut
import Derived.Lib.LaidTab
import Derived.Test.YtpaekkcgphljoaaGreatDoorSPt4

namespace Go.Proofs.YtpaekkcgphljoaaGreatDoor
open Go Go.Proofs.YtpaekkcgphljoaaGreatDoor.Sx
set_option linter.unusedVariables false
set_option linter.unusedSimpArgs false
def stepT : List D0 → ByteArray
  | [.int a, .bool b, .ints z, .int s] => (itxt a.toNat ++ S [58]) ++ percentT [.bool b, .ints z, .int s]
  | _ => S []
def stepsT (l : List (List D0)) : ByteArray := if stepsOk l then joinT (S [44]) (l.map stepT) else S []
theorem stepsOk_parts {l : List (List D0)} (h : stepsOk l = true) : l.length ≤ 8 ∧ ∀ i (hi : i < l.length), 0 ≤ stepFrom (l[i]'hi) ∧ stepFrom (l[i]'hi) ≤ 1000000000 := by
  simp only [stepsOk, Bool.and_eq_true, decide_eq_true_eq, List.all_eq_true] at h
  refine ⟨h.1.1.2, fun i hi => ?_⟩
  have h2 := h.2 i (List.mem_range.2 hi)
  simp only [stepOk, Bool.and_eq_true, decide_eq_true_eq] at h2
  have := h2.1.1
  rwa [getD_lt hi] at this
theorem stepT_size {x : List D0} (hc : x.map D0.code = [.int, .bool, .ints, .int]) (h : 0 ≤ stepFrom x ∧ stepFrom x ≤ 1000000000) : (stepT x).size ≤ 300 := by
  unfold stepT
  split
  · rename_i a b z s
    have N := percentT_size [.bool b, .ints z, .int s]
    have s1 : (S [58]).size = 1 := rfl
    have h2 : 0 ≤ a ∧ a ≤ 1000000000 := h
    have I : (itxt a.toNat).size ≤ 10 := itxt_lt 9 (by
      have : (10 : Nat) ^ (9 + 1) = 10000000000 := by decide
      omega)
    simp only [ByteArray.size_append, s1]
    omega
  · show 0 ≤ _; omega
theorem spec_StepsText_c {w : World} {p : Option Addr} {n c : Nat} {l : List (List D0)} (h : RowsR w 4 p n c l) (hc : ∀ x ∈ l, x.map D0.code = [.int, .bool, .ints, .int]) :
    Ret P n_spec_StepsText [.slice p n c] w fun v w' => v = .string (stepsT l) ∧ Ext w w' := by
  have hln := h.1
  refine spec_StepsText_ret ?_
  unfold spec_StepsText
  refine Ret.at (spec_StepsOk_c h hc) ?_
  rintro v w0 ⟨hv, y0⟩
  subst hv
  refine ⟨_, rfl, ifN (fun e => ⟨by simp only [stepsT, e, Bool.false_eq_true, if_false], y0⟩) (fun e => ?_)⟩
  have hgoal : stepsT l = joinT (S [44]) (l.map stepT) := by simp only [stepsT, e, if_true]
  rw [hgoal]
  obtain ⟨h8, hfrom⟩ := stepsOk_parts e
  intro r w1 hn1
  have e1 := hn1.r_eq; have z1 := hn1.size
  have l0 := y0.le
  refine ⟨fun q m d i wr => ∃ j : Nat, i = j ∧ j ≤ n ∧ m = j ∧ Own wr w.heap.size T_string 1 q j d (((l.take j).map stepT).map Value.string) ∧ Ext w wr, fun _ _ _ i _ => n - i.toNat, ⟨0, rfl, by omega, rfl, Own.of_blk0 hn1.blk (by omega) (by simp) (by decide), y0.trans hn1.ext⟩, ?_⟩
  intro junk wr q m d i ⟨j, hij, hj, hm, how, hx⟩
  subst hij; subst hm
  have lx := hx.le
  refine ifD (fun hlt => ?_) (fun hge => ?_)
  · have hjn : m < n := by omega
    have hjl : m < l.length := by omega
    obtain ⟨a, cs, hp', hk, hr, hl⟩ := (h.ext hx).at (P := P) (t := T_impl_Step) (by kernel_rfl) hjn
    subst hp'
    have hrr := hr; have hcode := hc _ (List.getElem_mem hjl)
    have hfj := hfrom m hjl
    have hsz := stepT_size hcode hfj
    obtain ⟨a0, a1, a2p, a2n, a2c, a2z, a3, rfl, hd, ha⟩ := open_Step hr hcode
    have hnext : ((l.take (m + 1)).map stepT).map Value.string = ((l.take m).map stepT).map Value.string ++ [.string (stepT (l[m]'hjl))] := by
      rw [List.take_add_one, List.getElem?_eq_getElem hjl, List.map_append, List.map_append]; rfl
    rw [hd] at hnext hfj hsz
    have hf0 : 0 ≤ a0 ∧ a0 ≤ 1000000000 := hfj
    have hsz' : (itxt a0.toNat ++ S [58]).size + (percentT [.bool a1, .ints a2z, .int a3]).size ≤ 300 := by rw [← ByteArray.size_append]; exact hsz
    have hsz2 : (itxt a0.toNat).size + 1 ≤ 300 := by
      rw [ByteArray.size_append] at hsz'
      have : (S [58]).size = 1 := rfl
      omega
    refine ⟨⟨by omega, by omega⟩, _, _, _, _, _, _, by simpa using hl, ?_⟩
    intro r2 w2 hn2
    obtain ⟨w3, st, hb3, y3⟩ := hn2.fill (P := P) (t := T_impl_Step) hrr.cells1 (by kernel_rfl) rfl
    have D := Ext.drew w3
    have X3 := (hx.trans y3).trans D
    have bk := hb3.ext D
    refine ⟨w3, st, _, fun W hW => (bk.ext hW).loadAt 0 rfl (by kernel_rfl) rfl, ?_⟩
    refine Ret.at (spec_IntText_c  (by omega) (by omega)) ?_
    rintro v w4 ⟨hv, y4⟩
    subst hv
    have X4 := X3.trans y4
    refine ⟨_, rfl, y4, ?_, _, rfl, _, _, _, _, _, fun W hW => (bk.ext hW).loadAAt 1 [.bool a1, .slice a2p a2n a2c, .int .i64 a3] rfl (by kernel_rfl) rfl, ?_⟩
    · show _ + 1 ≤ _
      omega
    have hm : Reps w4 [.bool a1, .slice a2p a2n a2c, .int .i64 a3] [.bool a1, .ints a2z, .int a3] := ⟨rfl, ⟨_, _, _, rfl, ha.ext ((y3.trans D).trans y4)⟩, rfl, trivial⟩
    refine Ret.at (spec_Percent_c hm rfl ) ?_
    rintro v w6 ⟨hv, y6⟩
    subst hv
    refine ⟨_, rfl, by omega, _, rfl, ?_⟩
    intro r5 w5 hn5
    have Y5 := (((y3.trans D).trans y4).trans y6).trans hn5.ext
    have hb5 : w.heap.size ≤ w5.heap.size := (hx.trans Y5).le
    obtain ⟨p', c', w7, hap, how7, hch, _⟩ := (how.ext Y5).push1 (P := P) sliceT_string hb5 hn5.blk rfl (by simp [Value.oneCell']) (by omega) (by decide)
    refine ⟨p', m + 1, c', w7, hap, exW ⟨by omega, by omega⟩ ⟨⟨m + 1, by omega, by omega, rfl, by rw [hnext]; exact how7, ?_⟩, ?_⟩⟩
    · exact (hx.trans Y5).chg hch fun k hk => (World.ownsRow.lt how k (by cases q <;> simp_all [Value.ownBlock])).1
    · show n - ((m : Int) + 1).toNat < n - (m : Int).toNat
      omega
  · have hmn : m = n := by omega
    subst hmn
    rw [List.take_of_length_le (by omega)] at how
    have hst := own_strs how
    refine Ret.at (spec_Join_c hst (S [44]) (k := 300) ?_ ?_) ?_
    · intro x hx'
      obtain ⟨y, hy, rfl⟩ := List.mem_map.1 hx'
      obtain ⟨i, hi, rfl⟩ := List.getElem_of_mem hy
      exact stepT_size (hc _ (List.getElem_mem hi)) (hfrom i hi)
    · have : m * (300 + (S [44]).size) ≤ 8 * (300 + (S [44]).size) := Nat.mul_le_mul_right _ (by omega)
      have s2 : (S [44]).size = 1 := rfl
      rw [s2] at this ⊢
      omega
    rintro v w6 ⟨hv, y6⟩
    subst hv
    exact ⟨_, rfl, rfl, hx.trans y6⟩
theorem impl_StepsText_c {w : World} {p : Option Addr} {n c : Nat} {l : List (List D0)} (h : RowsR w 4 p n c l) (hc : ∀ x ∈ l, x.map D0.code = [.int, .bool, .ints, .int]) (hp : TabP w) :
    Ret P n_impl_StepsText [.slice p n c] w fun v w' => v = .string (stepsT l) ∧ Ext w w' := by
  have hln := h.1
  refine impl_StepsText_ret ?_
  unfold impl_StepsText
  refine Ret.at (impl_StepsOk_c h hc) ?_
  rintro v w0 ⟨hv, y0⟩
  subst hv
  refine ⟨_, rfl, ifN (fun e => ⟨by simp only [stepsT, e, Bool.false_eq_true, if_false], y0⟩) (fun e => ?_)⟩
  have hgoal : stepsT l = joinT (S [44]) (l.map stepT) := by simp only [stepsT, e, if_true]
  rw [hgoal]
  obtain ⟨h8, hfrom⟩ := stepsOk_parts e
  intro r w1 hn1
  have e1 := hn1.r_eq; have z1 := hn1.size
  have l0 := y0.le
  refine ⟨fun q m d i wr => ∃ j : Nat, i = j ∧ j ≤ n ∧ m = j ∧ Own wr w.heap.size T_string 1 q j d (((l.take j).map stepT).map Value.string) ∧ Ext w wr, fun _ _ _ i _ => n - i.toNat, ⟨0, rfl, by omega, rfl, Own.of_blk0 hn1.blk (by omega) (by simp) (by decide), y0.trans hn1.ext⟩, ?_⟩
  intro junk wr q m d i ⟨j, hij, hj, hm, how, hx⟩
  subst hij; subst hm
  have lx := hx.le
  refine ifD (fun hlt => ?_) (fun hge => ?_)
  · have hjn : m < n := by omega
    have hjl : m < l.length := by omega
    obtain ⟨a, cs, hp', hk, hr, hl⟩ := (h.ext hx).at (P := P) (t := T_impl_Step) (by kernel_rfl) hjn
    subst hp'
    have hrr := hr; have hcode := hc _ (List.getElem_mem hjl)
    have hfj := hfrom m hjl
    have hsz := stepT_size hcode hfj
    obtain ⟨a0, a1, a2p, a2n, a2c, a2z, a3, rfl, hd, ha⟩ := open_Step hr hcode
    have hnext : ((l.take (m + 1)).map stepT).map Value.string = ((l.take m).map stepT).map Value.string ++ [.string (stepT (l[m]'hjl))] := by
      rw [List.take_add_one, List.getElem?_eq_getElem hjl, List.map_append, List.map_append]; rfl
    rw [hd] at hnext hfj hsz
    have hf0 : 0 ≤ a0 ∧ a0 ≤ 1000000000 := hfj
    have hsz' : (itxt a0.toNat ++ S [58]).size + (percentT [.bool a1, .ints a2z, .int a3]).size ≤ 300 := by rw [← ByteArray.size_append]; exact hsz
    have hsz2 : (itxt a0.toNat).size + 1 ≤ 300 := by
      rw [ByteArray.size_append] at hsz'
      have : (S [58]).size = 1 := rfl
      omega
    refine ⟨⟨by omega, by omega⟩, _, _, _, _, _, _, by simpa using hl, ?_⟩
    intro r2 w2 hn2
    obtain ⟨w3, st, hb3, y3⟩ := hn2.fill (P := P) (t := T_impl_Step) hrr.cells1 (by kernel_rfl) rfl
    have D := Ext.drew w3
    have X3 := (hx.trans y3).trans D
    have bk := hb3.ext D
    refine ⟨w3, st, _, fun W hW => (bk.ext hW).loadAt 0 rfl (by kernel_rfl) rfl, ?_⟩
    refine Ret.at (impl_IntText_c (hp.ext X3) (by omega) (by omega)) ?_
    rintro v w4 ⟨hv, y4⟩
    subst hv
    have X4 := X3.trans y4
    refine ⟨_, rfl, y4, ?_, _, rfl, _, _, _, _, _, fun W hW => (bk.ext hW).loadAAt 1 [.bool a1, .slice a2p a2n a2c, .int .i64 a3] rfl (by kernel_rfl) rfl, ?_⟩
    · show _ + 1 ≤ _
      omega
    have hm : Reps w4 [.bool a1, .slice a2p a2n a2c, .int .i64 a3] [.bool a1, .ints a2z, .int a3] := ⟨rfl, ⟨_, _, _, rfl, ha.ext ((y3.trans D).trans y4)⟩, rfl, trivial⟩
    refine Ret.at (impl_Percent_c hm rfl (hp.ext (X4))) ?_
    rintro v w6 ⟨hv, y6⟩
    subst hv
    refine ⟨_, rfl, by omega, _, rfl, ?_⟩
    intro r5 w5 hn5
    have Y5 := (((y3.trans D).trans y4).trans y6).trans hn5.ext
    have hb5 : w.heap.size ≤ w5.heap.size := (hx.trans Y5).le
    obtain ⟨p', c', w7, hap, how7, hch, _⟩ := (how.ext Y5).push1 (P := P) sliceT_string hb5 hn5.blk rfl (by simp [Value.oneCell']) (by omega) (by decide)
    refine ⟨p', m + 1, c', w7, hap, exW ⟨by omega, by omega⟩ ⟨⟨m + 1, by omega, by omega, rfl, by rw [hnext]; exact how7, ?_⟩, ?_⟩⟩
    · exact (hx.trans Y5).chg hch fun k hk => (World.ownsRow.lt how k (by cases q <;> simp_all [Value.ownBlock])).1
    · show n - ((m : Int) + 1).toNat < n - (m : Int).toNat
      omega
  · have hmn : m = n := by omega
    subst hmn
    rw [List.take_of_length_le (by omega)] at how
    have hst := own_strs how
    refine Ret.at (impl_Join_c hst (S [44]) (k := 300) ?_ ?_ (by omega)) ?_
    · intro x hx'
      obtain ⟨y, hy, rfl⟩ := List.mem_map.1 hx'
      obtain ⟨i, hi, rfl⟩ := List.getElem_of_mem hy
      exact stepT_size (hc _ (List.getElem_mem hi)) (hfrom i hi)
    · have : m * (300 + (S [44]).size) ≤ 8 * (300 + (S [44]).size) := Nat.mul_le_mul_right _ (by omega)
      have s2 : (S [44]).size = 1 := rfl
      rw [s2] at this ⊢
      omega
    rintro v w6 ⟨hv, y6⟩
    subst hv
    exact ⟨_, rfl, rfl, hx.trans y6⟩
end Go.Proofs.YtpaekkcgphljoaaGreatDoor

namespace Go.Proofs.YtpaekkcgphljoaaGreatDoor
open Go Go.Proofs.YtpaekkcgphljoaaGreatDoor.Sx
set_option linter.unusedVariables false
set_option linter.unusedSimpArgs false
theorem laws_FnExactStepsText_c {w : World} {p0 : Option Addr} {n0 c0 : Nat} {l0 : List (List D0)} (h0 : RowsR w 4 p0 n0 c0 l0) (hc0 : ∀ x ∈ l0, x.map D0.code = [.int, .bool, .ints, .int]) (hk0 : ∀ x ∈ l0, ∀ d ∈ x, d.ok) (hp : TabP w) :
    Ret P n_laws_FnExactStepsText [.slice p0 n0 c0] w fun v w' => v = .bool true ∧ Ext w w' := by
  refine laws_FnExactStepsText_ret ?_
  unfold laws_FnExactStepsText
  have x : Ext w w := Ext.refl w
  refine Ret.at (laws_szStepS_c (h0.ext x) hc0 hk0 (by omega) (by omega)) ?_
  rintro v W1 ⟨k0, hv, hs0, hm0, y⟩
  subst hv
  have x := x.trans y
  refine ⟨_, rfl, ifD (fun _ => ⟨rfl, x⟩) (fun hp0 => ?_)⟩
  have hs0 := hs0 (by omega)
  have hb0 : ∀ y ∈ l0, bulks y ≤ 1048576 := fun y hy => by have := bulks_le hy; omega
  have hz0 : n0 ≤ 1048576 := by omega
  refine Ret.at (laws_toStepS_c (h0.ext x) hc0 hz0 hb0) ?_
  rintro v W2 ⟨ps0, cs0, fs0, hv, os0, y⟩
  subst hv
  have yy := y
  have x := x.trans y
  refine ⟨_, _, _, rfl, ?_⟩
  refine Ret.at (spec_StepsText_c os0.rows hc0) ?_
  rintro v W3 ⟨hv, y⟩
  subst hv
  have x := x.trans y
  refine ⟨_, rfl, ?_⟩
  refine Ret.at (laws_toStepS_c (h0.ext x) hc0 hz0 hb0) ?_
  rintro v W4 ⟨px0, cx0, fx0, hv, ox0, y⟩
  subst hv
  have x := x.trans y
  refine ⟨_, _, _, rfl, ?_⟩
  refine Ret.at (impl_StepsText_c ox0.rows hc0 (hp.ext x)) ?_
  rintro v W5 ⟨hv, y⟩
  subst hv
  have x := x.trans y
  have ox0 := ox0.ext y
  refine ⟨_, rfl, ⟨fun h => absurd h (by simp), fun _ => ?_⟩⟩
  refine Ret.at (laws_toStepS_c (h0.ext x) hc0 hz0 hb0) ?_
  rintro v W6 ⟨py0, cy0, fy0, hv, oy0, y⟩
  subst hv
  have y2 := y
  have x := x.trans y
  have ox0 := ox0.ext y
  refine ⟨_, _, _, rfl, ?_⟩
  refine Ret.at (laws_eqStepS_c ox0.rows oy0.rows hc0 hc0) ?_
  rintro v W7 ⟨hv, y⟩
  subst hv
  have x := x.trans y
  have ox0 := ox0.ext y
  refine ⟨_, rfl, ifN (fun h => absurd h (by simp)) (fun _ => ?_)⟩
  exact ⟨rfl, x⟩
end Go.Proofs.YtpaekkcgphljoaaGreatDoor

namespace Go.Proofs.YtpaekkcgphljoaaGreatDoor.Sx
open Go Go.RowKit Go.ChangeShapes Go.WideShapes
set_option linter.unusedVariables false
set_option linter.unusedSimpArgs false
/-- each named variable's type can be read and is a row of the table -/
def rowedV (P : Program) (ns : List String) : Bool := ns.all fun n => ((P.globalNamed n).bind (P.globals[·]?)).all fun gl => P.readableRec gl.type && decide (gl.type < P.types.size)
section
variable {H : Type} {enc : TypeId × Value → H} {P : Program}
theorem trodAll_ext (hl : laidOutB P = true) {W W' : World} (hb : Ext W W') (sp' : Nat → Bool) : ∀ {ts : List TypeId} {vs : List Value} {ds : List (DataW H)} {ps : List MemPlace},
    (∀ t ∈ ts, P.readableRec t = true ∧ t < P.types.size) → (∀ p ∈ ps, p.block < W.heap.size) → (∀ p ∈ ps, sp' p.block = true) →
    DataW.TrodAll enc P W 0 (fun _ => true) true ts vs ds ps → DataW.TrodAll enc P W' 0 sp' true ts vs ds ps
  | [], _, _, _, _, _, _, h => by
    obtain ⟨rfl, rfl, rfl⟩ := trodAll_nil h
    exact rfl
  | t :: ts, _, _, _, hr, hlt, hsp, h => by
    obtain ⟨v, vs1, d, ds1, a, b, rfl, rfl, rfl, h1, h2⟩ := trodAll_cons h
    have hrt := hr t (by simp)
    exact ⟨a, b, WideElems.Trod_stays hl hrt.1 hrt.2 h1 (fun x hx => Below.same hb (hlt x (by simp [hx]))) (fun x hx => hsp x (by simp [hx])),
      trodAll_ext hl hb sp' (fun u hu => hr u (by simp [hu])) (fun x hx => hlt x (by simp [hx])) (fun x hx => hsp x (by simp [hx])) h2, rfl⟩
theorem trodVars_sp (hl : laidOutB P = true) {W W' : World} (hb : Ext W W') (sp' : Nat → Bool) :
    ∀ {ns : List String} {gs : List (DataW H)} {ps : List MemPlace}, rowedV P ns = true → (∀ p ∈ ps, sp' p.block = true) → DataW.TrodVars enc P W (fun _ => true) ns gs ps → DataW.TrodVars enc P W' sp' ns gs ps
  | [], [], _, _, _, h => h
  | [], _ :: _, _, _, _, h => h.elim
  | _ :: _, [], _, _, _, h => h.elim
  | n :: ns, d :: ds, ps, hv, hsp, h => by
    have hlt := h.lt
    obtain ⟨g, t, cs, fuel, p, q, h1, h2, h3, h4, hs, e⟩ := h
    simp only [rowedV, List.all_cons, Bool.and_eq_true] at hv
    have ht : P.readableRec t = true ∧ t < P.types.size := by
      have := hv.1
      rw [h1] at this
      cases hg : P.globals[g]? with
      | none => rw [hg] at h2; cases h2
      | some gl =>
        rw [hg] at h2
        obtain rfl : gl.type = t := Option.some.inj h2
        simpa [hg] using this
    have hp : ∀ x ∈ p, x.block < W.heap.size := fun x hx => hlt x (by rw [e]; simp [hx])
    have h3' : W'.var? P n = some cs := by
      unfold World.var? at h3 ⊢
      rw [h1] at h3 ⊢
      simp only [Option.bind_some] at h3 ⊢
      have hg : g < W.heap.size := by
        cases hh : W.heap[g]? with
        | none => rw [hh] at h3; cases h3
        | some o => exact (Array.getElem?_eq_some_iff.1 hh).1
      rw [hb.block g hg]; exact h3
    exact ⟨g, t, cs, fuel, p, q, h1, h2, h3', DataW.trod_stays (kids_book hl ht.1) (book_sized ht.1) (fun h => by cases h) ⟨ht.2, book_self t⟩ h4 (fun x hx => Below.same hb (hp x hx)) (fun x hx => hsp x (by rw [e]; simp [hx])),
      trodVars_sp hl hb sp' (by simpa [rowedV] using hv.2) (fun x hx => hsp x (by rw [e]; simp [hx])) hs, e⟩
/-- what the row asks of a law that answered true in a world with more behind it -/
theorem post_of_ext {f : Func} {s : ChangeSpec} {apart fresh handsOn again : Bool} {W W' : World} {args : Array Value} {ds gs : List (DataW H)} {before : List MemPlace} {tb : TypeId}
    (hl : laidOutB P = true) (hpar : ∀ t ∈ f.params.toList, P.readableRec t = true ∧ t < P.types.size) (hvr : rowedV P s.vars = true)
    (hrt : f.resultTypes = #[tb]) (htb : P.underlying tb = some .bool)
    (hW : DataW.Whole enc P f.params.toList s.vars apart W args.toList ds gs before) (hx : Ext W W')
    (hfn : s.fn H (ds ++ gs) = { results := [.lit (.bool true)], args := ds, vars := gs }) :
    s.post enc P f apart fresh handsOn again W args (.bool true) W' := by
  have hW0 := hW
  have hlt : ∀ p ∈ before, p.block < W.heap.size := hW.lt
  obtain ⟨pa, pv, hA, hV, rfl, hz, hn⟩ := hW
  have hlta : ∀ p ∈ pa, p.block < W.heap.size := fun p hp => hlt p (by simp [hp])
  have hltv : ∀ p ∈ pv, p.block < W.heap.size := fun p hp => hlt p (by simp [hp])
  have hr : (Value.bool true).resultList f.resultTypes.size = [Value.bool true] := by rw [hrt]; rfl
  refine ⟨ds, gs, pa ++ pv, [], pa, pv, hW0, ?_, ?_, ?_, Below.frame hx _, fun _ => ?_⟩
  · rw [hfn, hr, hrt]
    exact trodAll_mk1 (shut_bool htb _)
  · rw [hfn]
    exact trodAll_ext hl hx _ hpar hlta (fun p hp => by simpa using hlta p hp) hA
  · rw [hfn]
    exact trodVars_sp hl hx _ hvr (fun p hp => by simpa using hltv p hp) hV
  · refine ⟨?_, (.lit (.bool true)) :: ds, gs, pa ++ pv, ⟨[] ++ pa, pv, ?_, ?_, by simp, ?_, ?_⟩, fun p hp _ => hp⟩
    · rw [hr, hrt]
      exact ok_one (f := { f with resultTypes := #[tb] }) rfl rfl (okWide_bool_mk htb _)
    · rw [hr, hrt]
      exact trodAll_append (trodAll_ext hl hx _ hpar hlta (fun _ _ => rfl) hA) (trodAll_mk1 (shut_bool htb _))
    · exact trodVars_sp hl hx _ hvr (fun _ _ => rfl) hV
    · intro b off hp
      have := hlt _ hp
      rw [Below.frozen hx (p := ⟨b, off, none⟩) this]
      exact hz b off hp
    · exact hn
end
end Go.Proofs.YtpaekkcgphljoaaGreatDoor.Sx

namespace Go.Proofs.YtpaekkcgphljoaaGreatDoor.Sx
open Go Go.RowKit Go.ChangeShapes Go.WideShapes
set_option linter.unusedVariables false
set_option linter.unusedSimpArgs false
/-- the cells of a struct's fields, one behind the other -/
def flatF (P : Program) (g : TypeId → Option (List C0)) : Nat → List Field → Option (List C0)
  | _, [] => some []
  | o, f :: r => match Nat.beq f.offset o, g f.type with
    | true, some a => match Nat.beq (P.cellsOf f.type) a.length, flatF P g (o + a.length) r with
      | true, some b => some (a ++ b)
      | _, _ => none
    | _, _ => none
/-- the cells of a type -/
def flatC (P : Program) : Nat → TypeId → Option (List C0)
  | 0, _ => none
  | n + 1, t => match P.underlying t with
    | some .bool => some [.bool]
    | some (.int .i64) => some [.int]
    | some .string => some [.str]
    | some (.slice e) => match P.underlying e, P.cellsOf e with
      | some (.int .i64), 1 => some [.ints]
      | _, _ => none
    | some (.struct fs) => match flatF P (flatC P n) 0 fs.toList with
      | some a => if Nat.beq (P.cellsOf t) a.length then some a else none
      | none => none
    | _ => none
section
variable {H : Type} {enc : TypeId × Value → H} {P : Program} {w : World}
theorem seg_of_cells {b off n : Nat} {sp : Option Nat} {cs : List Value} (h : w.cells? 0 ⟨b, off, none⟩ n = some cs) : cs.length = n ∧ Seg w b off cs := by
  obtain ⟨_, hl, hc⟩ := World.cells?_some h
  refine ⟨hl, fun j v hj => ?_⟩
  have hjl : j < n := by rw [← hl]; exact (List.getElem?_eq_some_iff.1 hj).1
  rw [← addr_add, hc j hjl, hj]
theorem spot_none {a : Addr} {v : Value} (h : w.cell? a = some v) : a = ⟨a.block, a.off, none⟩ := by
  obtain ⟨b, o, spot⟩ := a
  have : spot = none := by simpa using World.cell?_spot h
  subst this; rfl
theorem ints_of_trod {t e : TypeId} {fuel : Nat} {sp : Nat → Bool} {hd : Bool} {cs : List Value} {x : DataW H × List MemPlace} (ht : P.underlying t = some (.slice e)) (he : P.underlying e = some (.int .i64)) (hc : P.cellsOf e = 1)
    (h : DataW.trod enc P w 0 sp hd fuel t cs = some x) : ∃ p n c zs, cs = [.slice p n c] ∧ IntsR w p n c zs ∧ zs.length ≤ 9223372036854775807 := by
  rcases Go.ChangeShapes.open_ints ht he hc h with ⟨rfl, _⟩ | ⟨a, len, cap, zs, rfl, _, hl, hm, hz, _, hcell, _⟩
  · exact ⟨none, 0, 0, [], rfl, ⟨rfl, Nat.le_refl _, by omega, fun h => absurd h (by omega)⟩, by simp⟩
  · have hlz : len ≤ zs.length := by rw [hz]; split <;> omega
    refine ⟨some a, len, cap, zs.take len, rfl, ⟨by simp; omega, hl, by simpa [maxLen] using hm, fun hpos => ?_⟩, by simp only [maxLen] at hm; simp; omega⟩
    have h0 := hcell 0 (by omega)
    have hs := spot_none h0
    have ha : a = ⟨a.block, a.off, none⟩ := by
      obtain ⟨b, o, s⟩ := a
      simp [Addr.add] at hs
      simp [hs]
    refine ⟨a.block, a.off, by rw [← ha], fun j v hj => ?_⟩
    simp only [List.getElem?_map, List.getElem?_take] at hj
    split at hj
    · rename_i hjl
      have hjz : j < zs.length := by omega
      have := hcell j hjz
      rw [ha, addr_add] at this
      rw [this]
      rw [List.getElem?_eq_getElem hjz] at hj
      simp at hj
      rw [← hj]
      simp [hjz]
    · simp at hj
theorem flatF_open {g : TypeId → Option (List C0)} {n : Nat} {sp : Nat → Bool} {hd : Bool}
    (ih : ∀ {t : TypeId} {ks : List C0} {cs : List Value} {x : DataW H × List MemPlace}, g t = some ks → DataW.trod enc P w 0 sp hd n t cs = some x → ∃ ds, Reps w cs ds ∧ ds.map D0.code = ks ∧ ∀ d ∈ ds, d.ok) :
    ∀ (fs : List Field) (o : Nat) (ks : List C0) (cs : List Value), flatF P g o fs = some ks → cs.length = o + ks.length →
      (∀ f ∈ fs, ∃ x, DataW.trod enc P w 0 sp hd n f.type ((cs.drop f.offset).take (P.cellsOf f.type)) = some x) → ∃ ds, Reps w (cs.drop o) ds ∧ ds.map D0.code = ks ∧ ∀ d ∈ ds, d.ok
  | [], o, ks, cs, hf, hl, _ => by
    simp only [flatF, Option.some.injEq] at hf
    subst hf
    rw [List.drop_of_length_le (by simp at hl; omega)]
    exact ⟨[], trivial, rfl, by simp⟩
  | f :: r, o, ks, cs, hf, hl, hx => by
    simp only [flatF] at hf
    split at hf
    · rename_i a h1 h2
      split at hf
      · rename_i b h3 h4
        have h1' := Nat.eq_of_beq_eq_true h1
        have h3' := Nat.eq_of_beq_eq_true h3
        cases hf
        rw [List.length_append] at hl
        obtain ⟨x, hx0⟩ := hx f (by simp)
        obtain ⟨ds, r1, c1, k1⟩ := ih h2 hx0
        obtain ⟨es, r2, c2, k2⟩ := flatF_open ih r (o + a.length) b cs h4 (by omega) (fun f' hf' => hx f' (by simp [hf']))
        refine ⟨ds ++ es, ?_, by simp [c1, c2], fun d hd => ?_⟩
        · rw [h1', h3'] at r1
          have : cs.drop o = (cs.drop o).take a.length ++ cs.drop (o + a.length) := by
            rw [← List.drop_drop, List.take_append_drop]
          rw [this]
          exact r1.append r2
        · rcases List.mem_append.1 hd with h | h
          · exact k1 d h
          · exact k2 d h
      · cases hf
    · cases hf
theorem flat_open {sp : Nat → Bool} {hd : Bool} : ∀ (m : Nat) {fuel : Nat} {t : TypeId} {ks : List C0} {cs : List Value} {x : DataW H × List MemPlace}, flatC P m t = some ks → DataW.trod enc P w 0 sp hd fuel t cs = some x →
    ∃ ds, Reps w cs ds ∧ ds.map D0.code = ks ∧ ∀ d ∈ ds, d.ok
  | 0, _, _, _, _, _, h, _ => by cases h
  | m + 1, fuel, t, ks, cs, x, h, ht => by
    simp only [flatC] at h
    split at h
    · rename_i hu
      obtain ⟨b, rfl, _⟩ := DataW.trod_bool hu ht
      cases h
      exact ⟨[.bool b], ⟨rfl, trivial⟩, rfl, by simp [D0.ok]⟩
    · rename_i hu
      obtain ⟨b, rfl, _, hw⟩ := DataW.trod_int hu ht
      cases h
      refine ⟨[.int b], ⟨rfl, trivial⟩, rfl, ?_⟩
      simp only [List.mem_singleton, forall_eq, D0.ok]
      simp [Lit.wf, IntKind.min, IntKind.max, IntKind.bits, IntKind.signed] at hw
      omega
    · rename_i hu
      obtain ⟨s, rfl, _, hw⟩ := DataW.trod_string hu ht
      cases h
      exact ⟨[.str s], ⟨rfl, trivial⟩, rfl, by simpa [D0.ok, maxLen] using hw⟩
    · rename_i e hu
      split at h
      · rename_i he hc
        cases h
        obtain ⟨p, n, c, zs, rfl, hr, hz⟩ := ints_of_trod hu he hc ht
        exact ⟨[.ints zs], ⟨⟨p, n, c, rfl, hr⟩, trivial⟩, rfl, by simpa [D0.ok] using hz⟩
      · cases h
    · rename_i fs hu
      split at h
      · rename_i a hf
        split at h
        · rename_i hsz
          cases h
          obtain ⟨xs, n, rfl, _, hlen, hxl, hfs⟩ := DataW.trod_struct hu ht
          have hsz' := Nat.eq_of_beq_eq_true hsz
          have := flatF_open (fun h1 h2 => flat_open m h1 h2) fs.toList 0 ks cs hf (by omega) (fun f hf => by
            obtain ⟨i, hi⟩ := List.getElem?_of_mem hf
            have hil : i < fs.size := by simpa using (List.getElem?_eq_some_iff.1 hi).1
            have := hfs i f (by simpa using hi)
            rw [List.getElem?_eq_getElem (by omega)] at this
            exact ⟨_, this⟩)
          simpa using this
        · cases h
      · cases h
    · cases h
theorem rows_open {sp : Nat → Bool} {hd : Bool} {m fuel : Nat} {t e : TypeId} {ks : List C0} {cs : List Value} {x : DataW H × List MemPlace} (hu : P.underlying t = some (.slice e)) (hk : flatC P m e = some ks) (hc : P.cellsOf e = ks.length) (hpos : 0 < ks.length)
    (ht : DataW.trod enc P w 0 sp hd fuel t cs = some x) : ∃ p n c l, cs = [.slice p n c] ∧ RowsR w ks.length p n c l ∧ (∀ y ∈ l, y.map D0.code = ks) ∧ ∀ y ∈ l, ∀ d ∈ y, d.ok := by
  rcases Go.Deep.open_slice hu ht with ⟨rfl, _⟩ | ⟨a, len, cap, mm, n, D, Pl, rfl, _, hl, hm, hmm, _, hx⟩
  · exact ⟨none, 0, 0, [], rfl, RowsR.nil _ _ _ (by omega), by simp, by simp⟩
  · have hlm : len ≤ mm := by rw [hmm]; split <;> omega
    have hex : ∀ i, i < len → ∃ ds : List D0, (∃ cs', cs'.length = ks.length ∧ Reps w cs' ds ∧ w.cells? 0 (a.add (i * ks.length)) ks.length = some cs') ∧ ds.map D0.code = ks ∧ ∀ d ∈ ds, d.ok := fun i hi => by
      obtain ⟨cs', h1, h2⟩ := hx i (by omega)
      obtain ⟨ds, r, c, k⟩ := flat_open m hk h2
      rw [hc] at h1
      exact ⟨ds, ⟨cs', (World.cells?_some h1).2.1, r, h1⟩, c, k⟩
    obtain ⟨F, hF⟩ := Go.Deep.choose_lt hex
    refine ⟨some a, len, cap, (List.range len).map F, rfl, ⟨by simp, hl, by simpa [maxLen] using hm, fun hn => ?_⟩, ?_, ?_⟩
    · obtain ⟨⟨cs', _, _, h1⟩, _⟩ := hF 0 hn
      have h0 := (World.cells?_some h1).2.2 0 hpos
      have hlen := (World.cells?_some h1).2.1
      rw [List.getElem?_eq_getElem (by omega)] at h0
      have hs := spot_none h0
      have ha : a = ⟨a.block, a.off, none⟩ := by
        obtain ⟨b, o, s⟩ := a
        simp [Addr.add] at hs
        simp [hs]
      refine ⟨a.block, a.off, by rw [← ha], fun i y hy => ?_⟩
      have hil : i < len := by
        have := (List.getElem?_eq_some_iff.1 hy).1
        simpa using this
      obtain ⟨⟨cs', q1, q2, q3⟩, _⟩ := hF i hil
      have : y = F i := by simpa [hil] using hy.symm
      subst this
      rw [ha, addr_add] at q3
      exact ⟨cs', q1, q2, (seg_of_cells (sp := none) q3).2⟩
    · intro y hy
      obtain ⟨i, hi, rfl⟩ := List.mem_map.1 hy
      exact (hF i (by simpa using hi)).2.1
    · intro y hy
      obtain ⟨i, hi, rfl⟩ := List.mem_map.1 hy
      exact (hF i (by simpa using hi)).2.2
end
end Go.Proofs.YtpaekkcgphljoaaGreatDoor.Sx

namespace Go.Proofs.YtpaekkcgphljoaaGreatDoor
open Go Go.Proofs.YtpaekkcgphljoaaGreatDoor.Sx
abbrev G_d32 : Nat := 2
def L_d32 : List Int := [0, 1, 28, 2, 29, 14, 24, 3, 30, 22, 20, 15, 25, 17, 4, 8, 31, 27, 13, 23, 21, 19, 16, 7, 26, 12, 18, 6, 11, 5, 10, 9]
abbrev G_d64 : Nat := 3
def L_d64 : List Int := [0, 1, 56, 2, 57, 49, 28, 3, 61, 58, 42, 50, 38, 29, 17, 4, 62, 47, 59, 36, 45, 43, 51, 22, 53, 39, 33, 30, 24, 18, 12, 5, 63, 55, 48, 27, 60, 41, 37, 16, 46, 35, 44, 21, 52, 32, 23, 11, 54, 26, 40, 15, 34, 20, 31, 10, 25, 14, 19, 9, 13, 8, 7, 6]
abbrev G_pow : Nat := 0
abbrev TA_pow : Nat := 126
abbrev TE_pow : Nat := 72
def L_pow : List Int := [1, 10, 100, 1000, 10000, 100000, 1000000, 10000000, 100000000, 1000000000, 10000000000, 100000000000, 1000000000000, 10000000000000, 100000000000000, 1000000000000000, 10000000000000000, 100000000000000000, 1000000000000000000, 10000000000000000000]
theorem und_A_pow : Tryz.prog.underlying TA_pow = some (.array 20 TE_pow) := Tryz.underlying126
theorem und_E_pow : Tryz.prog.underlying TE_pow = some (.int .u64) := Tryz.underlying72
end Go.Proofs.YtpaekkcgphljoaaGreatDoor

namespace Go.Proofs.YtpaekkcgphljoaaGreatDoor
open Go Go.Proofs.YtpaekkcgphljoaaGreatDoor.Sx
set_option linter.unusedVariables false
set_option linter.unusedSimpArgs false
theorem laidMet_tail {W : World} {x : String × DataW Unit} {rest : List (String × DataW Unit)} (h : laidMet P (x :: rest) W) : laidMet P rest W := by
  obtain ⟨ps, hv, hn, hr⟩ := h
  obtain ⟨n, d⟩ := x
  obtain ⟨g, t, cs, fuel, p, q, _, _, _, _, hrest, rfl⟩ := hv
  exact ⟨q, hrest, (List.nodup_append.1 hn).2.1, fun b off hm => hr b off (List.mem_append_right _ hm)⟩
theorem pow_data : (Rows.laid_internal_strconv_uint64pow10 : DataW Unit) = Lib.tabData .u64 Lib.pow10Tab := by kernel_rfl
set_option maxRecDepth 100000 in
theorem tabP_of_head {W : World} {rest : List (String × DataW Unit)} (h : laidMet P (("internal/strconv.uint64pow10", Rows.laid_internal_strconv_uint64pow10) :: rest) W) : TabP W := by
  rw [pow_data] at h
  exact Lib.tabIs_of_head (g := G_pow) (t := TA_pow) (e := TE_pow) (n := 20) (by kernel_rfl) (by kernel_rfl) und_A_pow und_E_pow (by kernel_rfl) (by kernel_rfl) h
theorem tabP_of_laid {W : World} (h : laidMetH P [("math/bits.deBruijn32tab", Rows.laid_math_bits_deBruijn32tab), ("math/bits.deBruijn64tab", Rows.laid_math_bits_deBruijn64tab), ("internal/strconv.uint64pow10", Rows.laid_internal_strconv_uint64pow10)] W) : TabP W := by
  have h : laidMet P [("math/bits.deBruijn32tab", Rows.laid_math_bits_deBruijn32tab), ("math/bits.deBruijn64tab", Rows.laid_math_bits_deBruijn64tab), ("internal/strconv.uint64pow10", Rows.laid_internal_strconv_uint64pow10)] W := h
  exact tabP_of_head (laidMet_tail (laidMet_tail h))
/-- the cells of a variable that holds a list -/
def layAt (cs : List Value) : Obj → Obj
  | .cells _ t frozen => .cells ⟨cs⟩ t frozen
  | o => o
/-- a world for the witness: the settled one, the tables of numbers laid in their variables -/
noncomputable def laidWorldP (os : Os) (args : Array Value) : World :=
  { World.holding P os ⟨#[], args, []⟩ with heap := ((((World.holding P os ⟨#[], args, []⟩).heap.modify G_pow (layAt (L_pow.map (Value.int .u64)))).modify G_d32 (layAt (L_d32.map (Value.int .u8)))).modify G_d64 (layAt (L_d64.map (Value.int .u8)))) }
theorem trodVars_zero {H : Type} {enc : TypeId × Value → H} {w : World} {sp : Nat → Bool} {gs : List (DataW H)} {ps : List MemPlace} (h : DataW.TrodVars enc P w sp [] gs ps) : gs = [] := by
  match gs, h with
  | [], _ => rfl
  | g :: r, h => exact h.elim
end Go.Proofs.YtpaekkcgphljoaaGreatDoor
