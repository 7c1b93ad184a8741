/-
  Parts of the proof of restsText_holds: CRatText, CJoin, CRestsText, WRestsText, SxRow, SxOpen, CTab, CTabX.
  Conditions: none.
-/
import Derived.Shelf.Strings.OnBuilder
import Derived.ProofKit
import Derived.Deep.Slices
import Derived.Test.YtpaekkcgphljoaaDoorRows
import Derived.OpenShut
import Derived.Lib.LaidTab
import Derived.Test.YtpaekkcgphljoaaDoorSTx3

namespace Go.Proofs.YtpaekkcgphljoaaDoor
open Go Go.Proofs.YtpaekkcgphljoaaDoor.Sx
set_option linter.unusedVariables false
set_option linter.unusedSimpArgs false
def intT : List D0 → ByteArray
  | [.bool b, .ints z] => if intOk [.bool b, .ints z] then (if b then S [45] ++ natT z else natT z) else S []
  | _ => S []
theorem intOk_nat {b : Bool} {z : List Int} (h : intOk [.bool b, .ints z] = true) : natOk z = true := by
  simp only [intOk, Bool.and_eq_true] at h
  exact h.1
theorem intT_size (b : Bool) (z : List Int) : (intT [.bool b, .ints z]).size ≤ 460 := by
  simp only [intT]
  split
  · rename_i h
    have hno := natOk_spec.1 (intOk_nat h)
    have N := natT_size hno.1.1
    have h2 := hno.2
    split
    · rw [ByteArray.size_append]
      show 1 + _ ≤ _
      omega
    · omega
  · show 0 ≤ _; omega
def ratT : List D0 → ByteArray
  | [.bool b, .ints x, .ints z] => if ratOk [.bool b, .ints x, .ints z] then (if z = [1] then intT [.bool b, .ints x] else (intT [.bool b, .ints x] ++ S [47]) ++ natT z) else S []
  | _ => S []
theorem ratOk_parts {b : Bool} {x z : List Int} (h : ratOk [.bool b, .ints x, .ints z] = true) : intOk [.bool b, .ints x] = true ∧ natOk z = true := by
  simp only [ratOk, Bool.and_eq_true] at h
  exact ⟨h.1.1.1.1.1, h.1.1.1.1.2⟩
theorem ratT_size (b : Bool) (x z : List Int) : (ratT [.bool b, .ints x, .ints z]).size ≤ 1000 := by
  have I := intT_size b x
  simp only [ratT]
  split
  · rename_i h
    have hno := natOk_spec.1 (ratOk_parts h).2
    have N := natT_size hno.1.1
    have h2 := hno.2
    split
    · omega
    · rw [ByteArray.size_append, ByteArray.size_append]
      show _ + 1 + _ ≤ _
      omega
  · show 0 ≤ _; omega
theorem impl_NatText_c {w : World} {p : Option Addr} {n c : Nat} {z : List Int} (h : IntsR w p n c z) (hp : TabP w) :
    Ret P n_impl_NatText [.slice p n c] w fun v w' => v = .string (if natOk z then natT z else S []) ∧ Ext w w' := by
  refine impl_NatText_ret ?_
  unfold impl_NatText
  refine Ret.at (impl_NatOk_c h) ?_
  rintro v w1 ⟨hv, y1⟩
  subst hv
  refine ⟨_, rfl, ifN (fun e => ⟨by rw [e]; rfl, y1⟩) (fun e => ?_)⟩
  rw [e, if_pos rfl]
  refine Ret.at (impl_natText_c (h.ext y1) (natOk_spec.1 e).1.1 (by have := (natOk_spec.1 e).2; have := h.1; omega) (hp.ext y1)) ?_
  rintro v w2 ⟨hv, y2⟩
  subst hv
  exact ⟨_, rfl, rfl, y1.trans y2⟩
theorem impl_isOne_c {w : World} {p : Option Addr} {n c : Nat} {z : List Int} (h : IntsR w p n c z) : Ret P n_impl_isOne [.slice p n c] w fun v w' => v = .bool (decide (z = [1])) ∧ Ext w w' := by
  have hl := h.1
  refine impl_isOne_ret ?_
  unfold impl_isOne
  refine ifD (fun h1 => ?_) (fun h1 => ⟨?_, Ext.refl _⟩)
  · obtain ⟨ad, hp', hld⟩ := h.at (P := P) (t := T_int) (by kernel_rfl) (k := 0) (by omega)
    subst hp'
    refine ⟨⟨by omega, by omega⟩, _, by simpa using hld, ?_, Ext.refl _⟩
    have hz1 : z.length = 1 := by omega
    obtain ⟨x, rfl⟩ := List.length_eq_one_iff.1 hz1
    simp
  · have : ¬ z = [1] := by
      intro e
      rw [e] at hl
      simp at hl
      omega
    rw [decide_eq_false this]
theorem spec_IntStr_c {w : World} {xs : List Value} {dx : List D0} (h : Reps w xs dx) (hc : dx.map D0.code = [.bool, .ints]) :
    Ret P n_spec_IntStr [.agg ⟨xs⟩] w fun v w' => v = .string (intT dx) ∧ Ext w w' := by
  have hr := h
  obtain ⟨a0, a1p, a1n, a1c, a1z, rfl, rfl, ha⟩ := open_Signed h hc
  have hl := ha.1
  refine spec_IntStr_ret ?_
  unfold spec_IntStr
  intro r w1 hn1
  refine ⟨_, _, _, _, hn1.blk.loadA0 (by kernel_rfl), ?_⟩
  refine Ret.at (spec_IntOk_c (hr.ext hn1.ext) rfl) ?_
  rintro v w2 ⟨hv, y2⟩
  subst hv
  have X2 := hn1.ext.trans y2
  have bk := hn1.blk.ext y2
  refine ⟨_, rfl, ifN (fun e => ⟨by simp only [intT, e, Bool.false_eq_true, if_false], X2⟩) (fun e => ?_)⟩
  have hno : natOk a1z = true := intOk_nat e
  have hz := (natOk_spec.1 hno).1.1; have h50 := (natOk_spec.1 hno).2
  have N := natT_size hz
  refine ⟨_, bk.loadAt 0 rfl (by kernel_rfl) rfl, fun e0 => ?_, fun e0 => ?_⟩
  · refine ⟨_, _, _, bk.loadAt 1 rfl (by kernel_rfl) rfl, ?_⟩
    refine Ret.at (spec_NatText_c (ha.ext X2)) ?_
    rintro v w3 ⟨hv, y3⟩
    subst hv
    rw [hno, if_pos rfl]
    refine ⟨_, rfl, ?_, _, rfl, ?_, X2.trans y3⟩
    · show 1 + (natT a1z).size ≤ _
      omega
    · subst e0
      simp only [intT, e, if_true]
  · refine ⟨_, _, _, bk.loadAt 1 rfl (by kernel_rfl) rfl, ?_⟩
    refine Ret.at (spec_NatText_c (ha.ext X2)) ?_
    rintro v w3 ⟨hv, y3⟩
    subst hv
    rw [hno, if_pos rfl]
    refine ⟨_, rfl, ?_, X2.trans y3⟩
    subst e0
    simp only [intT, e, if_true, Bool.false_eq_true, if_false]
theorem spec_RatText_c {w : World} {xs : List Value} {dx : List D0} (h : Reps w xs dx) (hc : dx.map D0.code = [.bool, .ints, .ints]) :
    Ret P n_spec_RatText [.agg ⟨xs⟩] w fun v w' => v = .string (ratT dx) ∧ Ext w w' := by
  have hr := h
  obtain ⟨a0, a1p, a1n, a1c, a1z, a2p, a2n, a2c, a2z, rfl, rfl, ir1, ir2⟩ := open_Rat h hc
  have hl2 := ir2.1
  refine spec_RatText_ret ?_
  unfold spec_RatText
  intro r w1 hn1
  refine ⟨_, _, _, _, _, _, _, hn1.blk.loadA0 (by kernel_rfl), ?_⟩
  refine Ret.at (spec_RatOk_c (hr.ext hn1.ext) rfl) ?_
  rintro v w2 ⟨hv, y2⟩
  subst hv
  have X2 := hn1.ext.trans y2
  have bk := hn1.blk.ext y2
  refine ⟨_, rfl, ifN (fun e => ⟨by simp only [ratT, e, Bool.false_eq_true, if_false], X2⟩) (fun e => ?_)⟩
  obtain ⟨hio, hno⟩ := ratOk_parts e
  have hz := (natOk_spec.1 hno).1.1; have h50 := (natOk_spec.1 hno).2
  have N := natT_size hz
  have I := intT_size a0 a1z
  refine ⟨_, _, _, bk.loadAt 2 rfl (by kernel_rfl) rfl, ?_⟩
  intro r5 w5 hn5
  have one : IntsR w5 (some ⟨r5, 0, none⟩) 1 1 [1] := ⟨rfl, Nat.le_refl _, by omega, fun _ => ⟨_, 0, rfl, hn5.blk.seg⟩⟩
  refine Ret.at (spec_l02Cmp_c ((ir2.ext X2).ext hn5.ext) one) ?_
  rintro v w3 ⟨hv, y3⟩
  subst hv
  have X3 := X2.trans (hn5.ext.trans y3)
  have bk3 := bk.ext (hn5.ext.trans y3)
  refine ⟨_, rfl, ifD (fun e1 => ?_) (fun e1 => ?_)⟩
  · have e1 := cmpL_zero.1 e1
    have hs : Reps w3 [.bool a0, .slice a1p a1n a1c] [.bool a0, .ints a1z] := ⟨rfl, ⟨_, _, _, rfl, ir1.ext X3⟩, trivial⟩
    refine ⟨_, _, _, _, bk3.loadAAt 0 [.bool a0, .slice a1p a1n a1c] rfl (by kernel_rfl) rfl, ?_⟩
    refine Ret.at (spec_IntStr_c hs rfl ) ?_
    rintro v w4 ⟨hv, y4⟩
    subst hv
    exact ⟨_, rfl, by simp only [ratT, e, if_true, if_pos e1], X3.trans y4⟩
  · have e1 : ¬ a2z = [1] := fun hh => e1 (cmpL_zero.2 hh)
    have D := Ext.drew w3
    have X4 := X3.trans D
    have bk4 := bk3.ext D
    have hs : Reps w3.drew [.bool a0, .slice a1p a1n a1c] [.bool a0, .ints a1z] := ⟨rfl, ⟨_, _, _, rfl, ir1.ext X4⟩, trivial⟩
    refine ⟨_, _, _, _, fun W hW => (bk4.ext hW).loadAAt 0 [.bool a0, .slice a1p a1n a1c] rfl (by kernel_rfl) rfl, ?_⟩
    refine Ret.at (spec_IntStr_c hs rfl ) ?_
    rintro v w5 ⟨hv, y5⟩
    subst hv
    have X5 := X4.trans y5
    refine ⟨_, rfl, y5, ?_, _, rfl, _, _, _, fun W hW => (bk4.ext hW).loadAt 2 rfl (by kernel_rfl) rfl, ?_⟩
    · show _ + 1 ≤ _
      omega
    refine Ret.at (spec_NatText_c (ir2.ext X5) ) ?_
    rintro v w6 ⟨hv, y6⟩
    subst hv
    rw [hno, if_pos rfl]
    refine ⟨_, rfl, ?_, _, rfl, by simp only [ratT, e, if_true, if_neg e1], X5.trans y6⟩
    rw [ByteArray.size_append]
    show _ + 1 + _ ≤ _
    omega
theorem impl_IntStr_c {w : World} {xs : List Value} {dx : List D0} (h : Reps w xs dx) (hc : dx.map D0.code = [.bool, .ints]) (hp : TabP w) :
    Ret P n_impl_IntStr [.agg ⟨xs⟩] w fun v w' => v = .string (intT dx) ∧ Ext w w' := by
  have hr := h
  obtain ⟨a0, a1p, a1n, a1c, a1z, rfl, rfl, ha⟩ := open_Signed h hc
  have hl := ha.1
  refine impl_IntStr_ret ?_
  unfold impl_IntStr
  intro r w1 hn1
  refine ⟨_, _, _, _, hn1.blk.loadA0 (by kernel_rfl), ?_⟩
  refine Ret.at (impl_IntOk_c (hr.ext hn1.ext) rfl) ?_
  rintro v w2 ⟨hv, y2⟩
  subst hv
  have X2 := hn1.ext.trans y2
  have bk := hn1.blk.ext y2
  refine ⟨_, rfl, ifN (fun e => ⟨by simp only [intT, e, Bool.false_eq_true, if_false], X2⟩) (fun e => ?_)⟩
  have hno : natOk a1z = true := intOk_nat e
  have hz := (natOk_spec.1 hno).1.1; have h50 := (natOk_spec.1 hno).2
  have N := natT_size hz
  refine ⟨_, bk.loadAt 0 rfl (by kernel_rfl) rfl, fun e0 => ?_, fun e0 => ?_⟩
  · refine ⟨_, _, _, bk.loadAt 1 rfl (by kernel_rfl) rfl, ?_⟩
    refine Ret.at (impl_natText_c (ha.ext X2) hz (by omega) (hp.ext X2)) ?_
    rintro v w3 ⟨hv, y3⟩
    subst hv
    refine ⟨_, rfl, ?_, _, rfl, ?_, X2.trans y3⟩
    · show 1 + (natT a1z).size ≤ _
      omega
    · subst e0
      simp only [intT, e, if_true]
  · refine ⟨_, _, _, bk.loadAt 1 rfl (by kernel_rfl) rfl, ?_⟩
    refine Ret.at (impl_natText_c (ha.ext X2) hz (by omega) (hp.ext X2)) ?_
    rintro v w3 ⟨hv, y3⟩
    subst hv
    refine ⟨_, rfl, ?_, X2.trans y3⟩
    subst e0
    simp only [intT, e, if_true, Bool.false_eq_true, if_false]
theorem impl_RatText_c {w : World} {xs : List Value} {dx : List D0} (h : Reps w xs dx) (hc : dx.map D0.code = [.bool, .ints, .ints]) (hp : TabP w) :
    Ret P n_impl_RatText [.agg ⟨xs⟩] w fun v w' => v = .string (ratT dx) ∧ Ext w w' := by
  have hr := h
  obtain ⟨a0, a1p, a1n, a1c, a1z, a2p, a2n, a2c, a2z, rfl, rfl, ir1, ir2⟩ := open_Rat h hc
  have hl2 := ir2.1
  refine impl_RatText_ret ?_
  unfold impl_RatText
  intro r w1 hn1
  refine ⟨_, _, _, _, _, _, _, hn1.blk.loadA0 (by kernel_rfl), ?_⟩
  refine Ret.at (impl_RatOk_c (hr.ext hn1.ext) rfl) ?_
  rintro v w2 ⟨hv, y2⟩
  subst hv
  have X2 := hn1.ext.trans y2
  have bk := hn1.blk.ext y2
  refine ⟨_, rfl, ifN (fun e => ⟨by simp only [ratT, e, Bool.false_eq_true, if_false], X2⟩) (fun e => ?_)⟩
  obtain ⟨hio, hno⟩ := ratOk_parts e
  have hz := (natOk_spec.1 hno).1.1; have h50 := (natOk_spec.1 hno).2
  have N := natT_size hz
  have I := intT_size a0 a1z
  refine ⟨_, _, _, bk.loadAt 2 rfl (by kernel_rfl) rfl, ?_⟩
  refine Ret.at (impl_isOne_c (ir2.ext X2)) ?_
  rintro v w3 ⟨hv, y3⟩
  subst hv
  have X3 := X2.trans y3
  have bk3 := bk.ext y3
  refine ⟨_, rfl, fun e1 => ?_, fun e1 => ?_⟩
  · have e1 := of_decide_eq_true e1
    have hs : Reps w3 [.bool a0, .slice a1p a1n a1c] [.bool a0, .ints a1z] := ⟨rfl, ⟨_, _, _, rfl, ir1.ext X3⟩, trivial⟩
    refine ⟨_, _, _, _, bk3.loadAAt 0 [.bool a0, .slice a1p a1n a1c] rfl (by kernel_rfl) rfl, ?_⟩
    refine Ret.at (impl_IntStr_c hs rfl (hp.ext (X3))) ?_
    rintro v w4 ⟨hv, y4⟩
    subst hv
    exact ⟨_, rfl, by simp only [ratT, e, if_true, if_pos e1], X3.trans y4⟩
  · have e1 := of_decide_eq_false e1
    have D := Ext.drew w3
    have X4 := X3.trans D
    have bk4 := bk3.ext D
    have hs : Reps w3.drew [.bool a0, .slice a1p a1n a1c] [.bool a0, .ints a1z] := ⟨rfl, ⟨_, _, _, rfl, ir1.ext X4⟩, trivial⟩
    refine ⟨_, _, _, _, fun W hW => (bk4.ext hW).loadAAt 0 [.bool a0, .slice a1p a1n a1c] rfl (by kernel_rfl) rfl, ?_⟩
    refine Ret.at (impl_IntStr_c hs rfl (hp.ext (X4))) ?_
    rintro v w5 ⟨hv, y5⟩
    subst hv
    have X5 := X4.trans y5
    refine ⟨_, rfl, y5, ?_, _, rfl, _, _, _, fun W hW => (bk4.ext hW).loadAt 2 rfl (by kernel_rfl) rfl, ?_⟩
    · show _ + 1 ≤ _
      omega
    refine Ret.at (impl_NatText_c (ir2.ext X5) (hp.ext (X5))) ?_
    rintro v w6 ⟨hv, y6⟩
    subst hv
    rw [hno, if_pos rfl]
    refine ⟨_, rfl, ?_, _, rfl, by simp only [ratT, e, if_true, if_neg e1], X5.trans y6⟩
    rw [ByteArray.size_append]
    show _ + 1 + _ ≤ _
    omega
end Go.Proofs.YtpaekkcgphljoaaDoor

namespace Go.Proofs.YtpaekkcgphljoaaDoor
open Go Go.Proofs.YtpaekkcgphljoaaDoor.Sx
set_option linter.unusedVariables false
set_option linter.unusedSimpArgs false
/-- a slice of texts -/
def StrsR (w : World) (p : Option Addr) (n c : Nat) (l : List ByteArray) : Prop :=
  l.length = n ∧ n ≤ c ∧ c ≤ 9223372036854775807 ∧ (0 < n → ∃ b off, p = some ⟨b, off, none⟩ ∧ Seg w b off (l.map Value.string))
theorem StrsR.ext {w w' : World} {p : Option Addr} {n c : Nat} {l : List ByteArray} (h : StrsR w p n c l) (he : Ext w w') : StrsR w' p n c l :=
  ⟨h.1, h.2.1, h.2.2.1, fun hn => let ⟨b, off, hp, hs⟩ := h.2.2.2 hn; ⟨b, off, hp, hs.ext he⟩⟩
theorem StrsR.at {P : Program} {w : World} {p : Option Addr} {n c k : Nat} {l : List ByteArray} (h : StrsR w p n c l) {t : TypeId} (ht : cellT P t = true) (hk : k < n) :
    ∃ a, p = some a ∧ Loads P t (a.add (k * 1)) (.string (l[k]'(by rw [h.1]; exact hk))) w := by
  obtain ⟨b, off, hp, hs⟩ := h.2.2.2 (by omega)
  refine ⟨_, hp, ?_⟩
  rw [Nat.mul_one]
  exact hs.load ht (by simp [List.getElem?_eq_getElem (by rw [h.1]; exact hk : k < l.length)])
theorem own_strs {w : World} {base : Nat} {e : TypeId} {p : Option Addr} {n c : Nat} {l : List ByteArray} (h : Own w base e 1 p n c (l.map Value.string)) : StrsR w p n c l :=
  ⟨by simpa using h.len, h.le, h.capLe, fun hn => let ⟨b, hp, _, hs⟩ := h.seg hn; ⟨b, 0, hp, hs⟩⟩
theorem sliceT_string : sliceT P T_s_string T_string (.string ByteArray.empty) 1 16 := ⟨by kernel_rfl, by kernel_rfl, rfl, by decide⟩
/-- texts with another between them -/
def joinT (by' : ByteArray) (l : List ByteArray) : ByteArray := ⟨(Lib.join (l.map (·.data.toList)) by'.data.toList).toArray⟩
theorem joinT_nil (b : ByteArray) : joinT b [] = ByteArray.empty := rfl
theorem joinT_one (b x : ByteArray) : joinT b [x] = x := ba_ext (by simp [joinT, Lib.join_one])
theorem joinT_snoc {b x : ByteArray} : ∀ {l : List ByteArray}, l ≠ [] → joinT b (l ++ [x]) = (joinT b l ++ b) ++ x
  | [], h => absurd rfl h
  | y :: r, _ => ba_ext (by simp [joinT, Lib.join_cons, Lib.joinTail])
theorem joinT_size {b : ByteArray} {k : Nat} : ∀ {l : List ByteArray}, (∀ x ∈ l, x.size ≤ k) → (joinT b l).size ≤ l.length * (k + b.size) := by
  intro l
  have key : ∀ (n : Nat) (l : List ByteArray), l.length = n → (∀ x ∈ l, x.size ≤ k) → (joinT b l).size ≤ l.length * (k + b.size) := by
    intro n
    induction n with
    | zero =>
      intro l hl _
      rw [List.eq_nil_of_length_eq_zero hl, joinT_nil]
      show 0 ≤ _
      omega
    | succ n ih =>
      intro l hl hx
      have hne : l ≠ [] := by intro e; rw [e] at hl; simp at hl
      have hl2 := List.dropLast_concat_getLast hne
      have hd : l.dropLast.length = n := by simp [hl]
      have h1 := ih l.dropLast hd fun x hx' => hx x ((List.dropLast_sublist l).subset hx')
      have h2 := hx _ (List.getLast_mem hne)
      by_cases h0 : l.dropLast = []
      · rw [h0, List.nil_append] at hl2
        rw [← hl2, joinT_one]
        simp only [List.length_cons, List.length_nil]
        omega
      · rw [← hl2, joinT_snoc h0, ByteArray.size_append, ByteArray.size_append, List.length_append, List.length_singleton, hd]
        rw [hd] at h1
        rw [Nat.succ_mul]
        omega
  exact key _ l rfl
theorem spec_Join_c {w : World} {p : Option Addr} {n c : Nat} {l : List ByteArray} (h : StrsR w p n c l) (b : ByteArray) {k : Nat} (hk : ∀ x ∈ l, x.size ≤ k) (hb : n * (k + b.size) ≤ 140737488355328) :
    Ret P n_spec_Join [.slice p n c, .string b] w fun v w' => v = .string (joinT b l) ∧ Ext w w' := by
  have hz := h.1; have hcap := h.2.1; have hcm := h.2.2.1
  refine spec_Join_ret ?_
  unfold spec_Join
  have fit : ∀ j ≤ n, (joinT b (l.take j)).size ≤ j * (k + b.size) := fun j hj => by
    have := joinT_size (b := b) (k := k) (l := l.take j) fun x hx => hk x (List.mem_of_mem_take hx)
    rwa [List.length_take, Nat.min_eq_left (by omega)] at this
  have mono : ∀ j ≤ n, j * (k + b.size) ≤ 140737488355328 := fun j hj => Nat.le_trans (Nat.mul_le_mul_right _ hj) hb
  refine ⟨fun s i wr => ∃ j : Nat, i = j ∧ j ≤ n ∧ s = joinT b (l.take j) ∧ Ext w wr, fun _ i _ => n - i.toNat, ⟨0, rfl, by omega, rfl, Ext.refl _⟩, ?_⟩
  intro junk wr s i ⟨j, hij, hj, hs, hx⟩
  subst hij
  have hf := fit j hj; have hm := mono j hj
  refine ifD (fun hlt => ?_) (fun hge => ⟨by rw [hs, List.take_of_length_le (by omega)], hx⟩)
  have hjn : j < n := by omega
  have hjl : j < l.length := by omega
  obtain ⟨a, hp', hl⟩ := (h.ext hx).at (P := P) (t := T_string) (by kernel_rfl) hjn
  subst hp'
  have hf1 := fit (j + 1) hjn; have hm1 := mono (j + 1) hjn
  have hjk := hk _ (List.getElem_mem hjl)
  have htk : l.take (j + 1) = l.take j ++ [l[j]'hjl] := by rw [List.take_add_one, List.getElem?_eq_getElem hjl]; rfl
  refine ⟨⟨by omega, by omega⟩, _, by simpa using hl, ifD (fun hpos => ⟨?_, _, rfl, ?_⟩) (fun h0 => ?_)⟩
  · have hj0 : (l.take j) ≠ [] := by
      intro e
      have := congrArg List.length e
      rw [List.length_take, List.length_nil] at this
      omega
    have hsn : joinT b (l.take (j + 1)) = (joinT b (l.take j) ++ b) ++ l[j]'hjl := by rw [htk, joinT_snoc hj0]
    rw [hsn, ByteArray.size_append, ByteArray.size_append] at hf1
    rw [hs]; omega
  · have hj0 : (l.take j) ≠ [] := by
      intro e
      have := congrArg List.length e
      rw [List.length_take, List.length_nil] at this
      omega
    have hsn : joinT b (l.take (j + 1)) = (joinT b (l.take j) ++ b) ++ l[j]'hjl := by rw [htk, joinT_snoc hj0]
    unfold spec_Join_j0
    have hf2 := hf1
    rw [hsn, ByteArray.size_append] at hf2
    refine ⟨?_, _, rfl, exW ⟨by omega, by omega⟩ ⟨⟨j + 1, by omega, by omega, ?_, hx⟩, ?_⟩⟩
    · rw [hs]; omega
    · rw [hsn, hs]
    · show n - ((j : Int) + 1).toNat < n - (j : Int).toNat
      omega
  · have hj0 : j = 0 := by omega
    subst hj0
    have hsn : joinT b (l.take (0 + 1)) = l[0]'hjl := by rw [htk, List.take_zero, List.nil_append, joinT_one]
    have hs0 : s = ByteArray.empty := by rw [hs, List.take_zero]; rfl
    unfold spec_Join_j0
    refine ⟨?_, _, rfl, exW ⟨by omega, by omega⟩ ⟨⟨1, by omega, by omega, ?_, hx⟩, ?_⟩⟩
    · rw [hs0]
      rw [hsn] at hf1
      show 0 + _ ≤ _
      omega
    · rw [show l.take 1 = l.take (0 + 1) from rfl, hsn, hs0, ba_empty_append]
    · show n - (((0 : Nat) : Int) + 1).toNat < n - ((0 : Nat) : Int).toNat
      omega
theorem X156 : Go.Proofs.Builder.Extra P ren156 where
  sizeBuilder := by kernel_rfl
  liesBuilder := by kernel_rfl
  t5 := lays105.t5
  a5 := lays105.a5
  z5 := lays105.z5
  v5 := lays105.v5
  infoByte := by kernel_rfl
  cellsByte := by kernel_rfl
  sizeByte := by kernel_rfl
  neB5 := by decide
theorem impl_Join_c {w : World} {p : Option Addr} {n c : Nat} {l : List ByteArray} (h : StrsR w p n c l) (b : ByteArray) {k : Nat} (hk : ∀ x ∈ l, x.size ≤ k) (hb : n * (k + b.size) ≤ 140737488355328) (hn : n ≤ 140737488355328) :
    Ret P n_impl_Join [.slice p n c, .string b] w fun v w' => v = .string (joinT b l) ∧ Ext w w' := by
  refine impl_Join_ret ?_
  unfold impl_Join
  have hz := h.1; have hcap := h.2.1
  have hsz := joinT_size (b := b) hk
  rw [hz] at hsz
  have hlen : (Lib.join (l.map (·.data.toList)) b.data.toList).length ≤ 140737488355328 := by
    have : (joinT b l).size = (Lib.join (l.map (·.data.toList)) b.data.toList).length := by simp [joinT, ByteArray.size]
    omega
  rcases Nat.eq_zero_or_pos n with h0 | h0
  · subst h0
    have : l = [] := List.eq_nil_of_length_eq_zero hz
    subst this
    refine (Any.strings_Join_none lays156 X156 p c b w).mono ?_
    rintro e w' ⟨rfl, rfl⟩
    exact ⟨_, rfl, rfl, Ext.refl _⟩
  · obtain ⟨r, o, rfl, hs⟩ := h.2.2.2 h0
    have hcells : ∀ (j : Nat) x, l[j]? = some x → w.cell? ⟨r, o + j, none⟩ = some (.string x) := fun j x hx => hs j _ (by simp [hx])
    have hbk : r < w.heap.size := World.block_lt_of_cell? w _ (hcells 0 _ (List.getElem?_eq_getElem (by omega)))
    have := Any.strings_Join lays156 X156 r o c l b w hcells hbk (by omega) (by omega) hlen
    rw [hz] at this
    refine this.mono ?_
    rintro e w' ⟨rfl, hx⟩
    exact ⟨_, rfl, rfl, hx⟩
end Go.Proofs.YtpaekkcgphljoaaDoor

namespace Go.Proofs.YtpaekkcgphljoaaDoor
open Go Go.Proofs.YtpaekkcgphljoaaDoor.Sx
set_option linter.unusedVariables false
set_option linter.unusedSimpArgs false
def restT : List D0 → ByteArray
  | [.str a, .bool b, .ints x, .ints z] => (a ++ S [32]) ++ ratT [.bool b, .ints x, .ints z]
  | _ => S []
def restsT (l : List (List D0)) : ByteArray := joinT (S [59, 32]) (l.map restT)
theorem restT_size {x : List D0} (hc : x.map D0.code = [.str, .bool, .ints, .ints]) (hb : bulks x ≤ 1048576) : (restT x).size ≤ 1050000 := by
  unfold restT
  split
  · rename_i a b y z
    have N := ratT_size b y z
    have s1 : (S [32]).size = 1 := rfl
    simp only [bulks, D0.bulk, List.map_cons, List.map_nil, List.sum_cons, List.sum_nil] at hb
    simp only [ByteArray.size_append, s1]
    omega
  · show 0 ≤ _; omega
theorem impl_restText_c {w : World} {xs : List Value} {dx : List D0} (h : Reps w xs dx) (hc : dx.map D0.code = [.str, .bool, .ints, .ints]) (hb : bulks dx ≤ 1048576) (hp : TabP w) :
    Ret P n_impl_restText [.agg ⟨xs⟩] w fun v w' => v = .string (restT dx) ∧ Ext w w' := by
  obtain ⟨a0, a1, a2p, a2n, a2c, a2z, a3p, a3n, a3c, a3z, rfl, rfl, ir2, ir3⟩ := open_Rest h hc
  simp only [bulks, D0.bulk, List.map_cons, List.map_nil, List.sum_cons, List.sum_nil] at hb
  refine impl_restText_ret ?_
  unfold impl_restText
  intro r w1 hn1
  have D := Ext.drew w1
  have bk := hn1.blk.ext D
  have X := hn1.ext.trans D
  have s1 : (S [32]).size = 1 := rfl
  have N := ratT_size a1 a2z a3z
  have hm : Reps w1.drew [.bool a1, .slice a2p a2n a2c, .slice a3p a3n a3c] [.bool a1, .ints a2z, .ints a3z] := ⟨rfl, ⟨_, _, _, rfl, ir2.ext X⟩, ⟨_, _, _, rfl, ir3.ext X⟩, trivial⟩
  refine ⟨_, fun W hW => (bk.ext hW).loadAt 0 rfl (by kernel_rfl) rfl, by omega, _, rfl, _, _, _, _, _, _, _, fun W hW => (bk.ext hW).loadAAt 1 [.bool a1, .slice a2p a2n a2c, .slice a3p a3n a3c] rfl (by kernel_rfl) rfl, ?_⟩
  refine Ret.at (impl_RatText_c hm rfl (hp.ext X)) ?_
  rintro v w2 ⟨hv, y2⟩
  subst hv
  refine ⟨_, rfl, y2, ?_, _, rfl, rfl, X.trans y2⟩
  simp only [ByteArray.size_append, s1]
  omega
theorem spec_RestsText_c {w : World} {p : Option Addr} {n c : Nat} {l : List (List D0)} (h : RowsR w 4 p n c l) (hc : ∀ x ∈ l, x.map D0.code = [.str, .bool, .ints, .ints]) (hz : n ≤ 1048576) (hb : ∀ x ∈ l, bulks x ≤ 1048576) :
    Ret P n_spec_RestsText [.slice p n c] w fun v w' => v = .string (restsT l) ∧ Ext w w' := by
  have hln := h.1
  refine spec_RestsText_ret ?_
  unfold spec_RestsText
  intro r w1 hn1
  have e1 := hn1.r_eq; have z1 := hn1.size
  refine ⟨fun q m d i wr => ∃ j : Nat, i = j ∧ j ≤ n ∧ m = j ∧ Own wr w.heap.size T_string 1 q j d (((l.take j).map restT).map Value.string) ∧ Ext w wr, fun _ _ _ i _ => n - i.toNat, ⟨0, rfl, by omega, rfl, Own.of_blk0 hn1.blk (by omega) (by simp) (by decide), hn1.ext⟩, ?_⟩
  intro junk wr q m d i ⟨j, hij, hj, hm, how, hx⟩
  subst hij; subst hm
  have lx := hx.le
  refine ifD (fun hlt => ?_) (fun hge => ?_)
  · have hjn : m < n := by omega
    have hjl : m < l.length := by omega
    obtain ⟨a, cs, hp', hk, hr, hl⟩ := (h.ext hx).at (P := P) (t := T_impl_Rest) (by kernel_rfl) hjn
    subst hp'
    have hrr := hr; have hcode := hc _ (List.getElem_mem hjl); have hbj := hb _ (List.getElem_mem hjl)
    obtain ⟨a0, a1, a2p, a2n, a2c, a2z, a3p, a3n, a3c, a3z, rfl, hd, ha, ha3⟩ := open_Rest hr hcode
    have hnext : ((l.take (m + 1)).map restT).map Value.string = ((l.take m).map restT).map Value.string ++ [.string (restT (l[m]'hjl))] := by
      rw [List.take_add_one, List.getElem?_eq_getElem hjl, List.map_append, List.map_append]; rfl
    rw [hd] at hbj hnext
    simp only [bulks, D0.bulk, List.map_cons, List.map_nil, List.sum_cons, List.sum_nil] at hbj
    refine ⟨⟨by omega, by omega⟩, _, _, _, _, _, _, _, _, by simpa using hl, ?_⟩
    intro r2 w2 hn2
    obtain ⟨w3, st, hb3, y3⟩ := hn2.fill (P := P) (t := T_impl_Rest) hrr.cells1 (by kernel_rfl) rfl
    have D := Ext.drew w3
    have X3 := (hx.trans y3).trans D
    have bk := hb3.ext D
    have hm : Reps w3.drew [.bool a1, .slice a2p a2n a2c, .slice a3p a3n a3c] [.bool a1, .ints a2z, .ints a3z] := ⟨rfl, ⟨_, _, _, rfl, ha.ext (y3.trans D)⟩, ⟨_, _, _, rfl, ha3.ext (y3.trans D)⟩, trivial⟩
    have N := ratT_size a1 a2z a3z
    have s1 : (S [32]).size = 1 := rfl
    refine ⟨w3, st, _, fun W hW => (bk.ext hW).loadAt 0 rfl (by kernel_rfl) rfl, by omega, _, rfl, _, _, _, _, _, _, _, fun W hW => (bk.ext hW).loadAAt 1 [.bool a1, .slice a2p a2n a2c, .slice a3p a3n a3c] rfl (by kernel_rfl) rfl, ?_⟩
    refine Ret.at (spec_RatText_c hm rfl) ?_
    rintro v w4 ⟨hv, y4⟩
    subst hv
    refine ⟨_, rfl, y4, ?_, _, rfl, ?_⟩
    · simp only [ByteArray.size_append, s1]; omega
    intro r5 w5 hn5
    have Y5 := ((y3.trans D).trans y4).trans hn5.ext
    have hb5 : w.heap.size ≤ w5.heap.size := (hx.trans Y5).le
    obtain ⟨p', c', w6, hap, how6, hch, _⟩ := (how.ext Y5).push1 (P := P) sliceT_string hb5 hn5.blk rfl (by simp [Value.oneCell']) (by omega) (by decide)
    refine ⟨p', m + 1, c', w6, hap, exW ⟨by omega, by omega⟩ ⟨⟨m + 1, by omega, by omega, rfl, by rw [hnext]; exact how6, ?_⟩, ?_⟩⟩
    · exact (hx.trans Y5).chg hch fun k hk => (World.ownsRow.lt how k (by cases q <;> simp_all [Value.ownBlock])).1
    · show n - ((m : Int) + 1).toNat < n - (m : Int).toNat
      omega
  · have hmn : m = n := by omega
    subst hmn
    rw [List.take_of_length_le (by omega)] at how
    have hst := own_strs how
    refine Ret.at (spec_Join_c hst (S [59, 32]) (k := 1050000) ?_ ?_) ?_
    · intro x hx'
      obtain ⟨y, hy, rfl⟩ := List.mem_map.1 hx'
      exact restT_size (hc y hy) (hb y hy)
    · have : m * (1050000 + (S [59, 32]).size) ≤ 1048576 * (1050000 + (S [59, 32]).size) := Nat.mul_le_mul_right _ hz
      have s2 : (S [59, 32]).size = 2 := rfl
      rw [s2] at this ⊢
      omega
    rintro v w6 ⟨hv, y6⟩
    subst hv
    exact ⟨_, rfl, rfl, hx.trans y6⟩
theorem impl_RestsText_c {w : World} {p : Option Addr} {n c : Nat} {l : List (List D0)} (h : RowsR w 4 p n c l) (hc : ∀ x ∈ l, x.map D0.code = [.str, .bool, .ints, .ints]) (hz : n ≤ 1048576) (hb : ∀ x ∈ l, bulks x ≤ 1048576) (hp : TabP w) :
    Ret P n_impl_RestsText [.slice p n c] w fun v w' => v = .string (restsT l) ∧ Ext w w' := by
  have hln := h.1
  refine impl_RestsText_ret ?_
  unfold impl_RestsText
  intro r w1 hn1
  have e1 := hn1.r_eq; have z1 := hn1.size
  refine ⟨fun q m d i wr => ∃ j : Nat, i = j ∧ j ≤ n ∧ m = j ∧ Own wr w.heap.size T_string 1 q j d (((l.take j).map restT).map Value.string) ∧ Ext w wr, fun _ _ _ i _ => n - i.toNat, ⟨0, rfl, by omega, rfl, Own.of_blk0 hn1.blk (by omega) (by simp) (by decide), hn1.ext⟩, ?_⟩
  intro junk wr q m d i ⟨j, hij, hj, hm, how, hx⟩
  subst hij; subst hm
  have lx := hx.le
  refine ifD (fun hlt => ?_) (fun hge => ?_)
  · have hjn : m < n := by omega
    have hjl : m < l.length := by omega
    obtain ⟨a, cs, hp', hk, hr, hl⟩ := (h.ext hx).at (P := P) (t := T_impl_Rest) (by kernel_rfl) hjn
    subst hp'
    have hrr := hr; have hcode := hc _ (List.getElem_mem hjl); have hbj := hb _ (List.getElem_mem hjl)
    obtain ⟨a0, a1, a2p, a2n, a2c, a2z, a3p, a3n, a3c, a3z, rfl, hd, ha, ha3⟩ := open_Rest hr hcode
    have hnext : ((l.take (m + 1)).map restT).map Value.string = ((l.take m).map restT).map Value.string ++ [.string (restT (l[m]'hjl))] := by
      rw [List.take_add_one, List.getElem?_eq_getElem hjl, List.map_append, List.map_append]; rfl
    rw [hd] at hbj hnext
    simp only [bulks, D0.bulk, List.map_cons, List.map_nil, List.sum_cons, List.sum_nil] at hbj
    refine ⟨⟨by omega, by omega⟩, _, _, _, _, _, _, _, _, by simpa using hl, ?_⟩
    intro r2 w2 hn2
    obtain ⟨w3, st, hb3, y3⟩ := hn2.fill (P := P) (t := T_impl_Rest) hrr.cells1 (by kernel_rfl) rfl
    have X3 := hx.trans y3
    refine ⟨w3, st, _, _, _, _, _, _, _, _, hb3.loadA0 (by kernel_rfl), ?_⟩
    refine Ret.at (impl_restText_c (dx := [.str a0, .bool a1, .ints a2z, .ints a3z]) (by rw [← hd]; exact hrr.ext y3) rfl (by simp only [bulks, D0.bulk, List.map_cons, List.map_nil, List.sum_cons, List.sum_nil]; omega) (hp.ext X3)) ?_
    rintro v w4 ⟨hv, y4⟩
    subst hv
    refine ⟨_, rfl, ?_⟩
    intro r5 w5 hn5
    have Y5 := (y3.trans y4).trans hn5.ext
    have hb5 : w.heap.size ≤ w5.heap.size := (hx.trans Y5).le
    obtain ⟨p', c', w6, hap, how6, hch, _⟩ := (how.ext Y5).push1 (P := P) sliceT_string hb5 hn5.blk rfl (by simp [Value.oneCell']) (by omega) (by decide)
    refine ⟨p', m + 1, c', w6, hap, exW ⟨by omega, by omega⟩ ⟨⟨m + 1, by omega, by omega, rfl, by rw [hnext]; exact how6, ?_⟩, ?_⟩⟩
    · exact (hx.trans Y5).chg hch fun k hk => (World.ownsRow.lt how k (by cases q <;> simp_all [Value.ownBlock])).1
    · show n - ((m : Int) + 1).toNat < n - (m : Int).toNat
      omega
  · have hmn : m = n := by omega
    subst hmn
    rw [List.take_of_length_le (by omega)] at how
    have hst := own_strs how
    refine Ret.at (impl_Join_c hst (S [59, 32]) (k := 1050000) ?_ ?_ (by omega)) ?_
    · intro x hx'
      obtain ⟨y, hy, rfl⟩ := List.mem_map.1 hx'
      exact restT_size (hc y hy) (hb y hy)
    · have : m * (1050000 + (S [59, 32]).size) ≤ 1048576 * (1050000 + (S [59, 32]).size) := Nat.mul_le_mul_right _ hz
      have s2 : (S [59, 32]).size = 2 := rfl
      rw [s2] at this ⊢
      omega
    rintro v w6 ⟨hv, y6⟩
    subst hv
    exact ⟨_, rfl, rfl, hx.trans y6⟩
end Go.Proofs.YtpaekkcgphljoaaDoor

namespace Go.Proofs.YtpaekkcgphljoaaDoor
open Go Go.Proofs.YtpaekkcgphljoaaDoor.Sx
set_option linter.unusedVariables false
set_option linter.unusedSimpArgs false
theorem laws_FnExactRestsText_c {w : World} {p0 : Option Addr} {n0 c0 : Nat} {l0 : List (List D0)} (h0 : RowsR w 4 p0 n0 c0 l0) (hc0 : ∀ x ∈ l0, x.map D0.code = [.str, .bool, .ints, .ints]) (hk0 : ∀ x ∈ l0, ∀ d ∈ x, d.ok) (hp : TabP w) :
    Ret P n_laws_FnExactRestsText [.slice p0 n0 c0] w fun v w' => v = .bool true ∧ Ext w w' := by
  refine laws_FnExactRestsText_ret ?_
  unfold laws_FnExactRestsText
  have x : Ext w w := Ext.refl w
  refine Ret.at (laws_szRestS_c (h0.ext x) hc0 hk0 (by omega) (by omega)) ?_
  rintro v W1 ⟨k0, hv, hs0, hm0, y⟩
  subst hv
  have x := x.trans y
  refine ⟨_, rfl, ifD (fun _ => ⟨rfl, x⟩) (fun hp0 => ?_)⟩
  have hs0 := hs0 (by omega)
  have hb0 : ∀ y ∈ l0, bulks y ≤ 1048576 := fun y hy => by have := bulks_le hy; omega
  have hz0 : n0 ≤ 1048576 := by omega
  refine Ret.at (laws_toRestS_c (h0.ext x) hc0 hz0 hb0) ?_
  rintro v W2 ⟨ps0, cs0, fs0, hv, os0, y⟩
  subst hv
  have yy := y
  have x := x.trans y
  refine ⟨_, _, _, rfl, ?_⟩
  refine Ret.at (spec_RestsText_c os0.rows hc0 hz0 hb0) ?_
  rintro v W3 ⟨hv, y⟩
  subst hv
  have x := x.trans y
  refine ⟨_, rfl, ?_⟩
  refine Ret.at (laws_toRestS_c (h0.ext x) hc0 hz0 hb0) ?_
  rintro v W4 ⟨px0, cx0, fx0, hv, ox0, y⟩
  subst hv
  have x := x.trans y
  refine ⟨_, _, _, rfl, ?_⟩
  refine Ret.at (impl_RestsText_c ox0.rows hc0 hz0 hb0 (hp.ext x)) ?_
  rintro v W5 ⟨hv, y⟩
  subst hv
  have x := x.trans y
  have ox0 := ox0.ext y
  refine ⟨_, rfl, ⟨fun h => absurd h (by simp), fun _ => ?_⟩⟩
  refine Ret.at (laws_toRestS_c (h0.ext x) hc0 hz0 hb0) ?_
  rintro v W6 ⟨py0, cy0, fy0, hv, oy0, y⟩
  subst hv
  have y2 := y
  have x := x.trans y
  have ox0 := ox0.ext y
  refine ⟨_, _, _, rfl, ?_⟩
  refine Ret.at (laws_eqRestS_c ox0.rows oy0.rows hc0 hc0) ?_
  rintro v W7 ⟨hv, y⟩
  subst hv
  have x := x.trans y
  have ox0 := ox0.ext y
  refine ⟨_, rfl, ifN (fun h => absurd h (by simp)) (fun _ => ?_)⟩
  exact ⟨rfl, x⟩
end Go.Proofs.YtpaekkcgphljoaaDoor

namespace Go.Proofs.YtpaekkcgphljoaaDoor.Sx
open Go Go.RowKit Go.ChangeShapes Go.WideShapes
set_option linter.unusedVariables false
set_option linter.unusedSimpArgs false
/-- each named variable's type can be read and is a row of the table -/
def rowedV (P : Program) (ns : List String) : Bool := ns.all fun n => ((P.globalNamed n).bind (P.globals[·]?)).all fun gl => P.readableRec gl.type && decide (gl.type < P.types.size)
section
variable {H : Type} {enc : TypeId × Value → H} {P : Program}
theorem trodAll_ext (hl : laidOutB P = true) {W W' : World} (hb : Ext W W') (sp' : Nat → Bool) : ∀ {ts : List TypeId} {vs : List Value} {ds : List (DataW H)} {ps : List MemPlace},
    (∀ t ∈ ts, P.readableRec t = true ∧ t < P.types.size) → (∀ p ∈ ps, p.block < W.heap.size) → (∀ p ∈ ps, sp' p.block = true) →
    DataW.TrodAll enc P W 0 (fun _ => true) true ts vs ds ps → DataW.TrodAll enc P W' 0 sp' true ts vs ds ps
  | [], _, _, _, _, _, _, h => by
    obtain ⟨rfl, rfl, rfl⟩ := trodAll_nil h
    exact rfl
  | t :: ts, _, _, _, hr, hlt, hsp, h => by
    obtain ⟨v, vs1, d, ds1, a, b, rfl, rfl, rfl, h1, h2⟩ := trodAll_cons h
    have hrt := hr t (by simp)
    exact ⟨a, b, WideElems.Trod_stays hl hrt.1 hrt.2 h1 (fun x hx => Below.same hb (hlt x (by simp [hx]))) (fun x hx => hsp x (by simp [hx])),
      trodAll_ext hl hb sp' (fun u hu => hr u (by simp [hu])) (fun x hx => hlt x (by simp [hx])) (fun x hx => hsp x (by simp [hx])) h2, rfl⟩
theorem trodVars_sp (hl : laidOutB P = true) {W W' : World} (hb : Ext W W') (sp' : Nat → Bool) :
    ∀ {ns : List String} {gs : List (DataW H)} {ps : List MemPlace}, rowedV P ns = true → (∀ p ∈ ps, sp' p.block = true) → DataW.TrodVars enc P W (fun _ => true) ns gs ps → DataW.TrodVars enc P W' sp' ns gs ps
  | [], [], _, _, _, h => h
  | [], _ :: _, _, _, _, h => h.elim
  | _ :: _, [], _, _, _, h => h.elim
  | n :: ns, d :: ds, ps, hv, hsp, h => by
    have hlt := h.lt
    obtain ⟨g, t, cs, fuel, p, q, h1, h2, h3, h4, hs, e⟩ := h
    simp only [rowedV, List.all_cons, Bool.and_eq_true] at hv
    have ht : P.readableRec t = true ∧ t < P.types.size := by
      have := hv.1
      rw [h1] at this
      cases hg : P.globals[g]? with
      | none => rw [hg] at h2; cases h2
      | some gl =>
        rw [hg] at h2
        obtain rfl : gl.type = t := Option.some.inj h2
        simpa [hg] using this
    have hp : ∀ x ∈ p, x.block < W.heap.size := fun x hx => hlt x (by rw [e]; simp [hx])
    have h3' : W'.var? P n = some cs := by
      unfold World.var? at h3 ⊢
      rw [h1] at h3 ⊢
      simp only [Option.bind_some] at h3 ⊢
      have hg : g < W.heap.size := by
        cases hh : W.heap[g]? with
        | none => rw [hh] at h3; cases h3
        | some o => exact (Array.getElem?_eq_some_iff.1 hh).1
      rw [hb.block g hg]; exact h3
    exact ⟨g, t, cs, fuel, p, q, h1, h2, h3', DataW.trod_stays (kids_book hl ht.1) (book_sized ht.1) (fun h => by cases h) ⟨ht.2, book_self t⟩ h4 (fun x hx => Below.same hb (hp x hx)) (fun x hx => hsp x (by rw [e]; simp [hx])),
      trodVars_sp hl hb sp' (by simpa [rowedV] using hv.2) (fun x hx => hsp x (by rw [e]; simp [hx])) hs, e⟩
/-- what the row asks of a law that answered true in a world with more behind it -/
theorem post_of_ext {f : Func} {s : ChangeSpec} {apart fresh handsOn again : Bool} {W W' : World} {args : Array Value} {ds gs : List (DataW H)} {before : List MemPlace} {tb : TypeId}
    (hl : laidOutB P = true) (hpar : ∀ t ∈ f.params.toList, P.readableRec t = true ∧ t < P.types.size) (hvr : rowedV P s.vars = true)
    (hrt : f.resultTypes = #[tb]) (htb : P.underlying tb = some .bool)
    (hW : DataW.Whole enc P f.params.toList s.vars apart W args.toList ds gs before) (hx : Ext W W')
    (hfn : s.fn H (ds ++ gs) = { results := [.lit (.bool true)], args := ds, vars := gs }) :
    s.post enc P f apart fresh handsOn again W args (.bool true) W' := by
  have hW0 := hW
  have hlt : ∀ p ∈ before, p.block < W.heap.size := hW.lt
  obtain ⟨pa, pv, hA, hV, rfl, hz, hn⟩ := hW
  have hlta : ∀ p ∈ pa, p.block < W.heap.size := fun p hp => hlt p (by simp [hp])
  have hltv : ∀ p ∈ pv, p.block < W.heap.size := fun p hp => hlt p (by simp [hp])
  have hr : (Value.bool true).resultList f.resultTypes.size = [Value.bool true] := by rw [hrt]; rfl
  refine ⟨ds, gs, pa ++ pv, [], pa, pv, hW0, ?_, ?_, ?_, Below.frame hx _, fun _ => ?_⟩
  · rw [hfn, hr, hrt]
    exact trodAll_mk1 (shut_bool htb _)
  · rw [hfn]
    exact trodAll_ext hl hx _ hpar hlta (fun p hp => by simpa using hlta p hp) hA
  · rw [hfn]
    exact trodVars_sp hl hx _ hvr (fun p hp => by simpa using hltv p hp) hV
  · refine ⟨?_, (.lit (.bool true)) :: ds, gs, pa ++ pv, ⟨[] ++ pa, pv, ?_, ?_, by simp, ?_, ?_⟩, fun p hp _ => hp⟩
    · rw [hr, hrt]
      exact ok_one (f := { f with resultTypes := #[tb] }) rfl rfl (okWide_bool_mk htb _)
    · rw [hr, hrt]
      exact trodAll_append (trodAll_ext hl hx _ hpar hlta (fun _ _ => rfl) hA) (trodAll_mk1 (shut_bool htb _))
    · exact trodVars_sp hl hx _ hvr (fun _ _ => rfl) hV
    · intro b off hp
      have := hlt _ hp
      rw [Below.frozen hx (p := ⟨b, off, none⟩) this]
      exact hz b off hp
    · exact hn
end
end Go.Proofs.YtpaekkcgphljoaaDoor.Sx

namespace Go.Proofs.YtpaekkcgphljoaaDoor.Sx
open Go Go.RowKit Go.ChangeShapes Go.WideShapes
set_option linter.unusedVariables false
set_option linter.unusedSimpArgs false
/-- the cells of a struct's fields, one behind the other -/
def flatF (P : Program) (g : TypeId → Option (List C0)) : Nat → List Field → Option (List C0)
  | _, [] => some []
  | o, f :: r => match Nat.beq f.offset o, g f.type with
    | true, some a => match Nat.beq (P.cellsOf f.type) a.length, flatF P g (o + a.length) r with
      | true, some b => some (a ++ b)
      | _, _ => none
    | _, _ => none
/-- the cells of a type -/
def flatC (P : Program) : Nat → TypeId → Option (List C0)
  | 0, _ => none
  | n + 1, t => match P.underlying t with
    | some .bool => some [.bool]
    | some (.int .i64) => some [.int]
    | some .string => some [.str]
    | some (.slice e) => match P.underlying e, P.cellsOf e with
      | some (.int .i64), 1 => some [.ints]
      | _, _ => none
    | some (.struct fs) => match flatF P (flatC P n) 0 fs.toList with
      | some a => if Nat.beq (P.cellsOf t) a.length then some a else none
      | none => none
    | _ => none
section
variable {H : Type} {enc : TypeId × Value → H} {P : Program} {w : World}
theorem seg_of_cells {b off n : Nat} {sp : Option Nat} {cs : List Value} (h : w.cells? 0 ⟨b, off, none⟩ n = some cs) : cs.length = n ∧ Seg w b off cs := by
  obtain ⟨_, hl, hc⟩ := World.cells?_some h
  refine ⟨hl, fun j v hj => ?_⟩
  have hjl : j < n := by rw [← hl]; exact (List.getElem?_eq_some_iff.1 hj).1
  rw [← addr_add, hc j hjl, hj]
theorem spot_none {a : Addr} {v : Value} (h : w.cell? a = some v) : a = ⟨a.block, a.off, none⟩ := by
  obtain ⟨b, o, spot⟩ := a
  have : spot = none := by simpa using World.cell?_spot h
  subst this; rfl
theorem ints_of_trod {t e : TypeId} {fuel : Nat} {sp : Nat → Bool} {hd : Bool} {cs : List Value} {x : DataW H × List MemPlace} (ht : P.underlying t = some (.slice e)) (he : P.underlying e = some (.int .i64)) (hc : P.cellsOf e = 1)
    (h : DataW.trod enc P w 0 sp hd fuel t cs = some x) : ∃ p n c zs, cs = [.slice p n c] ∧ IntsR w p n c zs ∧ zs.length ≤ 9223372036854775807 := by
  rcases Go.ChangeShapes.open_ints ht he hc h with ⟨rfl, _⟩ | ⟨a, len, cap, zs, rfl, _, hl, hm, hz, _, hcell, _⟩
  · exact ⟨none, 0, 0, [], rfl, ⟨rfl, Nat.le_refl _, by omega, fun h => absurd h (by omega)⟩, by simp⟩
  · have hlz : len ≤ zs.length := by rw [hz]; split <;> omega
    refine ⟨some a, len, cap, zs.take len, rfl, ⟨by simp; omega, hl, by simpa [maxLen] using hm, fun hpos => ?_⟩, by simp only [maxLen] at hm; simp; omega⟩
    have h0 := hcell 0 (by omega)
    have hs := spot_none h0
    have ha : a = ⟨a.block, a.off, none⟩ := by
      obtain ⟨b, o, s⟩ := a
      simp [Addr.add] at hs
      simp [hs]
    refine ⟨a.block, a.off, by rw [← ha], fun j v hj => ?_⟩
    simp only [List.getElem?_map, List.getElem?_take] at hj
    split at hj
    · rename_i hjl
      have hjz : j < zs.length := by omega
      have := hcell j hjz
      rw [ha, addr_add] at this
      rw [this]
      rw [List.getElem?_eq_getElem hjz] at hj
      simp at hj
      rw [← hj]
      simp [hjz]
    · simp at hj
theorem flatF_open {g : TypeId → Option (List C0)} {n : Nat} {sp : Nat → Bool} {hd : Bool}
    (ih : ∀ {t : TypeId} {ks : List C0} {cs : List Value} {x : DataW H × List MemPlace}, g t = some ks → DataW.trod enc P w 0 sp hd n t cs = some x → ∃ ds, Reps w cs ds ∧ ds.map D0.code = ks ∧ ∀ d ∈ ds, d.ok) :
    ∀ (fs : List Field) (o : Nat) (ks : List C0) (cs : List Value), flatF P g o fs = some ks → cs.length = o + ks.length →
      (∀ f ∈ fs, ∃ x, DataW.trod enc P w 0 sp hd n f.type ((cs.drop f.offset).take (P.cellsOf f.type)) = some x) → ∃ ds, Reps w (cs.drop o) ds ∧ ds.map D0.code = ks ∧ ∀ d ∈ ds, d.ok
  | [], o, ks, cs, hf, hl, _ => by
    simp only [flatF, Option.some.injEq] at hf
    subst hf
    rw [List.drop_of_length_le (by simp at hl; omega)]
    exact ⟨[], trivial, rfl, by simp⟩
  | f :: r, o, ks, cs, hf, hl, hx => by
    simp only [flatF] at hf
    split at hf
    · rename_i a h1 h2
      split at hf
      · rename_i b h3 h4
        have h1' := Nat.eq_of_beq_eq_true h1
        have h3' := Nat.eq_of_beq_eq_true h3
        cases hf
        rw [List.length_append] at hl
        obtain ⟨x, hx0⟩ := hx f (by simp)
        obtain ⟨ds, r1, c1, k1⟩ := ih h2 hx0
        obtain ⟨es, r2, c2, k2⟩ := flatF_open ih r (o + a.length) b cs h4 (by omega) (fun f' hf' => hx f' (by simp [hf']))
        refine ⟨ds ++ es, ?_, by simp [c1, c2], fun d hd => ?_⟩
        · rw [h1', h3'] at r1
          have : cs.drop o = (cs.drop o).take a.length ++ cs.drop (o + a.length) := by
            rw [← List.drop_drop, List.take_append_drop]
          rw [this]
          exact r1.append r2
        · rcases List.mem_append.1 hd with h | h
          · exact k1 d h
          · exact k2 d h
      · cases hf
    · cases hf
theorem flat_open {sp : Nat → Bool} {hd : Bool} : ∀ (m : Nat) {fuel : Nat} {t : TypeId} {ks : List C0} {cs : List Value} {x : DataW H × List MemPlace}, flatC P m t = some ks → DataW.trod enc P w 0 sp hd fuel t cs = some x →
    ∃ ds, Reps w cs ds ∧ ds.map D0.code = ks ∧ ∀ d ∈ ds, d.ok
  | 0, _, _, _, _, _, h, _ => by cases h
  | m + 1, fuel, t, ks, cs, x, h, ht => by
    simp only [flatC] at h
    split at h
    · rename_i hu
      obtain ⟨b, rfl, _⟩ := DataW.trod_bool hu ht
      cases h
      exact ⟨[.bool b], ⟨rfl, trivial⟩, rfl, by simp [D0.ok]⟩
    · rename_i hu
      obtain ⟨b, rfl, _, hw⟩ := DataW.trod_int hu ht
      cases h
      refine ⟨[.int b], ⟨rfl, trivial⟩, rfl, ?_⟩
      simp only [List.mem_singleton, forall_eq, D0.ok]
      simp [Lit.wf, IntKind.min, IntKind.max, IntKind.bits, IntKind.signed] at hw
      omega
    · rename_i hu
      obtain ⟨s, rfl, _, hw⟩ := DataW.trod_string hu ht
      cases h
      exact ⟨[.str s], ⟨rfl, trivial⟩, rfl, by simpa [D0.ok, maxLen] using hw⟩
    · rename_i e hu
      split at h
      · rename_i he hc
        cases h
        obtain ⟨p, n, c, zs, rfl, hr, hz⟩ := ints_of_trod hu he hc ht
        exact ⟨[.ints zs], ⟨⟨p, n, c, rfl, hr⟩, trivial⟩, rfl, by simpa [D0.ok] using hz⟩
      · cases h
    · rename_i fs hu
      split at h
      · rename_i a hf
        split at h
        · rename_i hsz
          cases h
          obtain ⟨xs, n, rfl, _, hlen, hxl, hfs⟩ := DataW.trod_struct hu ht
          have hsz' := Nat.eq_of_beq_eq_true hsz
          have := flatF_open (fun h1 h2 => flat_open m h1 h2) fs.toList 0 ks cs hf (by omega) (fun f hf => by
            obtain ⟨i, hi⟩ := List.getElem?_of_mem hf
            have hil : i < fs.size := by simpa using (List.getElem?_eq_some_iff.1 hi).1
            have := hfs i f (by simpa using hi)
            rw [List.getElem?_eq_getElem (by omega)] at this
            exact ⟨_, this⟩)
          simpa using this
        · cases h
      · cases h
    · cases h
theorem rows_open {sp : Nat → Bool} {hd : Bool} {m fuel : Nat} {t e : TypeId} {ks : List C0} {cs : List Value} {x : DataW H × List MemPlace} (hu : P.underlying t = some (.slice e)) (hk : flatC P m e = some ks) (hc : P.cellsOf e = ks.length) (hpos : 0 < ks.length)
    (ht : DataW.trod enc P w 0 sp hd fuel t cs = some x) : ∃ p n c l, cs = [.slice p n c] ∧ RowsR w ks.length p n c l ∧ (∀ y ∈ l, y.map D0.code = ks) ∧ ∀ y ∈ l, ∀ d ∈ y, d.ok := by
  rcases Go.Deep.open_slice hu ht with ⟨rfl, _⟩ | ⟨a, len, cap, mm, n, D, Pl, rfl, _, hl, hm, hmm, _, hx⟩
  · exact ⟨none, 0, 0, [], rfl, RowsR.nil _ _ _ (by omega), by simp, by simp⟩
  · have hlm : len ≤ mm := by rw [hmm]; split <;> omega
    have hex : ∀ i, i < len → ∃ ds : List D0, (∃ cs', cs'.length = ks.length ∧ Reps w cs' ds ∧ w.cells? 0 (a.add (i * ks.length)) ks.length = some cs') ∧ ds.map D0.code = ks ∧ ∀ d ∈ ds, d.ok := fun i hi => by
      obtain ⟨cs', h1, h2⟩ := hx i (by omega)
      obtain ⟨ds, r, c, k⟩ := flat_open m hk h2
      rw [hc] at h1
      exact ⟨ds, ⟨cs', (World.cells?_some h1).2.1, r, h1⟩, c, k⟩
    obtain ⟨F, hF⟩ := Go.Deep.choose_lt hex
    refine ⟨some a, len, cap, (List.range len).map F, rfl, ⟨by simp, hl, by simpa [maxLen] using hm, fun hn => ?_⟩, ?_, ?_⟩
    · obtain ⟨⟨cs', _, _, h1⟩, _⟩ := hF 0 hn
      have h0 := (World.cells?_some h1).2.2 0 hpos
      have hlen := (World.cells?_some h1).2.1
      rw [List.getElem?_eq_getElem (by omega)] at h0
      have hs := spot_none h0
      have ha : a = ⟨a.block, a.off, none⟩ := by
        obtain ⟨b, o, s⟩ := a
        simp [Addr.add] at hs
        simp [hs]
      refine ⟨a.block, a.off, by rw [← ha], fun i y hy => ?_⟩
      have hil : i < len := by
        have := (List.getElem?_eq_some_iff.1 hy).1
        simpa using this
      obtain ⟨⟨cs', q1, q2, q3⟩, _⟩ := hF i hil
      have : y = F i := by simpa [hil] using hy.symm
      subst this
      rw [ha, addr_add] at q3
      exact ⟨cs', q1, q2, (seg_of_cells (sp := none) q3).2⟩
    · intro y hy
      obtain ⟨i, hi, rfl⟩ := List.mem_map.1 hy
      exact (hF i (by simpa using hi)).2.1
    · intro y hy
      obtain ⟨i, hi, rfl⟩ := List.mem_map.1 hy
      exact (hF i (by simpa using hi)).2.2
end
end Go.Proofs.YtpaekkcgphljoaaDoor.Sx

namespace Go.Proofs.YtpaekkcgphljoaaDoor
open Go Go.Proofs.YtpaekkcgphljoaaDoor.Sx
set_option linter.unusedVariables false
set_option linter.unusedSimpArgs false
theorem bytes_eq {a b : ByteArray} (h : a.data.toList = b.data.toList) : a = b := by
  obtain ⟨⟨x⟩⟩ := a; obtain ⟨⟨y⟩⟩ := b
  simp at h; subst h; rfl
end Go.Proofs.YtpaekkcgphljoaaDoor

namespace Go.Proofs.YtpaekkcgphljoaaDoor
open Go Go.Proofs.YtpaekkcgphljoaaDoor.Sx
set_option linter.unusedVariables false
set_option linter.unusedSimpArgs false
theorem laidMet_tail {W : World} {x : String × DataW Unit} {rest : List (String × DataW Unit)} (h : laidMet P (x :: rest) W) : laidMet P rest W := by
  obtain ⟨ps, hv, hn, hr⟩ := h
  obtain ⟨n, d⟩ := x
  obtain ⟨g, t, cs, fuel, p, q, _, _, _, _, hrest, rfl⟩ := hv
  exact ⟨q, hrest, (List.nodup_append.1 hn).2.1, fun b off hm => hr b off (List.mem_append_right _ hm)⟩
theorem pow_data : (Rows.laid_internal_strconv_uint64pow10 : DataW Unit) = Lib.tabData .u64 Lib.pow10Tab := by kernel_rfl
set_option maxRecDepth 100000 in
theorem tabP_of_head {W : World} {rest : List (String × DataW Unit)} (h : laidMet P (("internal/strconv.uint64pow10", Rows.laid_internal_strconv_uint64pow10) :: rest) W) : TabP W := by
  rw [pow_data] at h
  exact Lib.tabIs_of_head (g := G_pow) (t := TA_pow) (e := TE_pow) (n := 20) (by kernel_rfl) (by kernel_rfl) und_A_pow und_E_pow (by kernel_rfl) (by kernel_rfl) h
theorem tabP_of_laid {W : World} (h : laidMetH P [("math/bits.deBruijn32tab", Rows.laid_math_bits_deBruijn32tab), ("math/bits.deBruijn64tab", Rows.laid_math_bits_deBruijn64tab), ("internal/strconv.uint64pow10", Rows.laid_internal_strconv_uint64pow10)] W) : TabP W := by
  have h : laidMet P [("math/bits.deBruijn32tab", Rows.laid_math_bits_deBruijn32tab), ("math/bits.deBruijn64tab", Rows.laid_math_bits_deBruijn64tab), ("internal/strconv.uint64pow10", Rows.laid_internal_strconv_uint64pow10)] W := h
  exact tabP_of_head (laidMet_tail (laidMet_tail h))
/-- the cells of a variable that holds a list -/
def layAt (cs : List Value) : Obj → Obj
  | .cells _ t frozen => .cells ⟨cs⟩ t frozen
  | o => o
/-- a world for the witness: the settled one, the tables laid in their variables -/
noncomputable def laidWorldX (os : Os) (args : Array Value) : World :=
  { World.holding P os ⟨#[], args, []⟩ with heap := (((((World.holding P os ⟨#[], args, []⟩).heap.modify G_cur (layAt (implTab.flatMap curCells))).modify G_pow (layAt (L_pow.map (Value.int .u64)))).modify G_d32 (layAt (L_d32.map (Value.int .u8)))).modify G_d64 (layAt (L_d64.map (Value.int .u8)))) }
theorem trodVars_zero {H : Type} {enc : TypeId × Value → H} {w : World} {sp : Nat → Bool} {gs : List (DataW H)} {ps : List MemPlace} (h : DataW.TrodVars enc P w sp [] gs ps) : gs = [] := by
  match gs, h with
  | [], _ => rfl
  | g :: r, h => exact h.elim
end Go.Proofs.YtpaekkcgphljoaaDoor
