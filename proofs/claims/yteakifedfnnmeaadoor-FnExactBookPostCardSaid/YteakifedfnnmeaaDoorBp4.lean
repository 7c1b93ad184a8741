/-
  Parts of the proof of bookPost_holds: SxIns, CBookOpL, CIntAdd, CDebtsOk, CSpecInt, DMark, DMarkS, CBookSum, CUndo, CMoneySum, CMoneyB, CBookPoL, Mu, CChange, SxFlS, CBookPoI, CBookPoS, CBookPost, DM, DMarkB, WBookPost, SxRow, SxOpen, CTab.
  Conditions: none.
-/
import Derived.WalkKit
import Derived.Test.YteakifedfnnmeaaDoorProg
import Derived.Laws.CopyRow
import Derived.Laws.BytesArg
import Derived.Laws.Externs
import Derived.Lib.AppendZerosOnto
import Derived.Lib.Overlaps
import Derived.Conc.MuLone
import Derived.KernelRfl
import Derived.Defers
import Derived.ProofKit
import Derived.Deep.Slices
import Derived.Test.YteakifedfnnmeaaDoorRows
import Derived.OpenShut
import Derived.Lib.LaidTab
import Derived.Test.YteakifedfnnmeaaDoorBp3

namespace Go.Proofs.YteakifedfnnmeaaDoor.Sx
open Go Go.RowKit
set_option linter.unusedVariables false
set_option linter.unusedSimpArgs false
theorem Own.take {w : World} {B : Nat} {e : TypeId} {size : Nat} {p : Option Addr} {n c : Nat} {xs : List Value} (h : Own w B e size p n c xs) {i : Nat} (hi : i ≤ n) : Own w B e size p i c (xs.take (i * size)) := by
  have hl := h.len
  have him : i * size ≤ n * size := Nat.mul_le_mul_right _ hi
  refine ⟨by simp; omega, ?_⟩
  rcases h.2 with ⟨h1, h2⟩ | ⟨g, cap, cur, h1, hb, hg, h3, h4, h5, h6⟩
  · simp only [Value.slice.injEq] at h1
    obtain ⟨rfl, rfl, rfl⟩ := h1
    have : i = 0 := by omega
    subst this
    exact .inl ⟨rfl, rfl⟩
  · simp only [Value.slice.injEq] at h1
    obtain ⟨rfl, _, rfl⟩ := h1
    refine .inr ⟨g, c, cur, rfl, hb, hg, by omega, h4, h5, ?_⟩
    rw [← h6, List.take_take, Nat.min_eq_left him]
theorem AllO.put {w : World} {B k : Nat} {cs : List Value} {x : List D0} {f : List Nat} (hk : cs.length = k) (ho : Owns w B cs x f) : ∀ {css : List (List Value)} {l : List (List D0)} {fs : List (List Nat)} (i : Nat), AllO w B k css l fs → AllO w B k (css.set i cs) (l.set i x) (fs.set i f)
  | [], [], [], _, _ => trivial
  | _ :: _, _ :: _, _ :: _, 0, h => ⟨hk, ho, h.2.2⟩
  | _ :: _, _ :: _, _ :: _, i + 1, h => ⟨h.1, h.2.1, AllO.put hk ho i h.2.2⟩
  | [], [], _ :: _, _, h => h.elim
  | [], _ :: _, _, _, h => h.elim
  | _ :: _, [], _, _, h => h.elim
  | _ :: _, _ :: _, [], _, h => h.elim
theorem mem_put {α : Type} {fs : List (List α)} {f : List α} {i : Nat} {y : α} (h : y ∈ (fs.set i f).flatten) : y ∈ f ∨ y ∈ fs.flatten := by
  obtain ⟨g, hg, hy⟩ := List.mem_flatten.1 h
  rcases List.mem_or_eq_of_mem_set hg with h1 | h1
  · exact .inr (List.mem_flatten.2 ⟨g, h1, hy⟩)
  · rw [h1] at hy; exact .inl hy
theorem nodup_put {α : Type} {fs : List (List α)} {f : List α} (h : fs.flatten.Nodup) (hf : f.Nodup) (hd : ∀ y ∈ f, y ∉ fs.flatten) (i : Nat) : (fs.set i f).flatten.Nodup := by
  induction fs generalizing i with
  | nil => simp
  | cons g fs ih =>
    rw [List.flatten_cons, List.nodup_append] at h
    cases i with
    | zero =>
      rw [List.set_cons_zero, List.flatten_cons, List.nodup_append]
      exact ⟨hf, h.2.1, fun a ha b hb e => hd a ha (by rw [e, List.flatten_cons]; exact List.mem_append_right _ hb)⟩
    | succ i =>
      rw [List.set_cons_succ, List.flatten_cons, List.nodup_append]
      refine ⟨h.1, ih h.2.1 (fun y hy hm => hd y hy (by rw [List.flatten_cons]; exact List.mem_append_right _ hm)) i, fun a ha b hb e => ?_⟩
      rcases mem_put hb with hb | hb
      · exact hd b hb (by rw [← e, List.flatten_cons]; exact List.mem_append_left _ ha)
      · exact h.2.2 a ha b hb e
/-- a row of a slice of structs of one's own, another one put there -/
theorem OwnRows.put {w : World} {B : Nat} {e : TypeId} {k : Nat} {p : Option Addr} {n c : Nat} {l : List (List D0)} {f : List Nat} (h : OwnRows w B e k p n c l f) {i : Nat} {x : List D0} (hx : l[i]? = some x) :
    ∃ b xs cs zs, p = some ⟨b, 0, none⟩ ∧ B ≤ b ∧ b ∈ f ∧ xs.length = i * k ∧ cs.length = k ∧ Blk w b e (xs ++ cs ++ zs) ∧ Reps w cs x ∧
      ∀ w' cs' x' f', Chg [b] w w' → cs'.length = k → Blk w' b e (xs ++ cs' ++ zs) → Owns w' B cs' x' f' → f'.Nodup → (∀ y ∈ f', y ∉ f) → ∃ f'', OwnRows w' B e k p n c (l.set i x') f'' ∧ ∀ q ∈ f'', q ∈ f ∨ q ∈ f' := by
  obtain ⟨hl, css, fs, ha, ho, rfl, hnd⟩ := h
  have hi : i < l.length := (List.getElem?_eq_some_iff.1 hx).1
  obtain ⟨cs, fi, hcs, hfi, hk, how⟩ := ha.focus i x hx
  obtain ⟨hlen, hcl, hfl⟩ := ha.lens
  obtain ⟨b, ys, rfl, hb, hblk, hyl, hnc, hc, hy⟩ := ho.blk (by omega)
  have hsp := congrArg List.flatten (cons_at hcs)
  rw [List.flatten_append, List.flatten_cons] at hsp
  have hA : (css.take i).flatten.length = i * k := by
    rw [flat_len fun c hc => hlen c (List.mem_of_mem_take hc), List.length_take, Nat.min_eq_left (by omega)]
  have hys : ys = (css.take i).flatten ++ cs ++ ((css.drop (i + 1)).flatten ++ ys.drop (n * k)) := by
    conv => lhs; rw [← List.take_append_drop (n * k) ys, hy, hsp]
    simp
  have hnd1 := List.nodup_append.1 hnd
  have hpin : ∀ q ∈ fs.flatten, q ∉ [b] := fun q hq hm => hnd1.2.2 q (by simpa using hm) q hq rfl
  rw [hys] at hblk
  refine ⟨b, _, cs, _, rfl, hb, by simp, hA, hk, hblk, how.reps, ?_⟩
  intro w' cs' x' f' hch hk' hblk' how' hnf hdis
  have ha' := AllO.put hk' how' i (ha.chg hch hpin)
  have hset : (css.set i cs').flatten = (css.take i).flatten ++ cs' ++ (css.drop (i + 1)).flatten := by
    rw [List.set_eq_take_append_cons_drop, if_pos (by omega), List.flatten_append, List.flatten_cons, List.append_assoc]
  refine ⟨[b] ++ (fs.set i f').flatten, ⟨by simpa using hl, _, _, ha', ?_, by simp, ?_⟩, ?_⟩
  · rw [hset]
    have hlen2 : ((css.take i).flatten ++ cs' ++ (css.drop (i + 1)).flatten).length = n * k := by
      rw [← hset, flat_len (k := k) (fun c hc => by
        rcases List.mem_or_eq_of_mem_set hc with h1 | h1
        · exact hlen c h1
        · rw [h1]; exact hk')]
      rw [List.length_set, show css.length = n by omega]
    have hyl2 : ((css.take i).flatten ++ cs' ++ ((css.drop (i + 1)).flatten ++ ys.drop (n * k))).length = c * k := by
      rw [← hyl]
      conv => rhs; rw [hys]
      simp only [List.length_append, hk, hk']
    have := Own.of_blk' (B := B) (n := n) hblk' hb hyl2 hnc hc
    rwa [← List.append_assoc, List.take_left' hlen2] at this
  · rw [List.nodup_append]
    refine ⟨by simp, nodup_put hnd1.2.1 hnf (fun y hy hm => hdis y hy (List.mem_append_right _ hm)) i, ?_⟩
    intro a ha b' hb' hab
    subst hab
    rcases mem_put hb' with hb' | hb'
    · exact hdis a hb' (by simp at ha; subst ha; simp)
    · exact hpin a hb' ha
  · intro q hq
    rcases List.mem_append.1 hq with hq | hq
    · exact .inl (by simp at hq; subst hq; simp)
    · rcases mem_put hq with hq | hq
      · exact .inr hq
      · exact .inl (List.mem_append_right _ hq)
end Go.Proofs.YteakifedfnnmeaaDoor.Sx

namespace Go.Proofs.YteakifedfnnmeaaDoor
open Go Go.Proofs.YteakifedfnnmeaaDoor.Sx
set_option linter.unusedVariables false
set_option linter.unusedSimpArgs false
theorem bookOk_len {l : List (List D0)} (h : bookOk l = true) : l.length ≤ 12 := by
  simp only [bookOk, Bool.and_eq_true, decide_eq_true_eq] at h
  exact h.1
theorem bookOk_leg {l : List (List D0)} (h : bookOk l = true) : ∀ x ∈ l, legOk x = true := fun x hx => by
  obtain ⟨i, hi, rfl⟩ := List.getElem_of_mem hx
  simp only [bookOk, Bool.and_eq_true, List.all_eq_true] at h
  have := h.2 i (List.mem_range.2 hi)
  simp only [bookRowOk, Bool.and_eq_true] at this
  rw [getD_row hi] at this
  exact this.1
theorem leg_cnt {x : List D0} (hc : x.map D0.code = [.str, .str, .bool, .ints]) (h : legOk x = true) : cnts x ≤ 60 := by
  obtain ⟨a, es, he, c1⟩ := code_str hc
  obtain ⟨b, es2, he2, c2⟩ := code_str c1
  obtain ⟨s, es3, he3, c3⟩ := code_bool c2
  obtain ⟨z, es4, he4, c4⟩ := code_ints c3
  have := code_nil c4
  subst this; subst he4; subst he3; subst he2; subst he
  simp only [legOk, Bool.and_eq_true] at h
  have hm := h.2
  simp only [moneyOk, Bool.and_eq_true] at hm
  obtain ⟨_, b', z', he, _, hl⟩ := intOk_enc hm.1.2
  simp only [List.cons.injEq, D0.bool.injEq, D0.ints.injEq, and_true] at he
  obtain ⟨_, rfl⟩ := he
  have he : cnts [.str a, .str b, .bool s, .ints z] = 1 + (1 + (1 + ((z.length : Nat) + 0))) := rfl
  rw [he]
  omega
theorem cntL_maxA {M : Int} (hM : 0 ≤ M) : ∀ (l : List (List D0)), (∀ x ∈ l, cnts x ≤ M) → cntL l ≤ (l.length : Nat) * M
  | [], _ => by simp [cntL]
  | x :: l, h => by
    have h1 := h x (.head _); have h2 := cntL_maxA hM l fun y hy => h y (.tail _ hy)
    simp only [cntL, List.length_cons, Int.natCast_add, Int.natCast_one, Int.add_mul, Int.one_mul]
    omega
theorem rows0 (w : World) (B : Nat) (e : TypeId) (k : Nat) : OwnRows w B e k none 0 0 [] [] := ⟨rfl, [], [], trivial, Own.nil _ _ _ _, by simp, by simp⟩
end Go.Proofs.YteakifedfnnmeaaDoor

namespace Go.Proofs.YteakifedfnnmeaaDoor
open Go Go.Proofs.YteakifedfnnmeaaDoor.Sx
set_option linter.unusedVariables false
set_option linter.unusedSimpArgs false
def iadd (d e : List D0) : List D0 := if intOk d && intOk e then icap (ival d + ival e) else enc 0
theorem enc0 : enc 0 = [.bool false, .ints []] := by simp [enc, digs_zero]
theorem icap_code (z : Int) : (icap z).map D0.code = [.bool, .ints] := rfl
theorem capL_canon {n : Nat} : Canon (capL (digs n)) ∧ (capL (digs n)).length ≤ 50 := by
  unfold capL
  split
  · exact ⟨digs_canon n, by assumption⟩
  · exact ⟨⟨Limbs.nil, by simp⟩, by simp⟩
theorem icap_ok (z : Int) : intOk (icap z) = true := by
  have h := capL_canon (n := z.natAbs)
  simp only [icap, mkS, intOk, natOk_spec.2 h, Bool.true_and]
  cases decide (z < 0) <;> cases (capL (digs z.natAbs)) <;> simp
theorem mkS_digs {neg : Bool} {m : Nat} {z : Int} (hm : m = z.natAbs) (hs : m ≠ 0 → neg = decide (z < 0)) : mkS neg (capL (digs m)) = icap z := by
  subst hm
  by_cases h0 : z.natAbs = 0
  · have hz : z = 0 := by omega
    subst hz
    simp [icap, mkS, digs_zero, capL]
  · rw [hs h0]; rfl
end Go.Proofs.YteakifedfnnmeaaDoor

namespace Go.Proofs.YteakifedfnnmeaaDoor
open Go Go.Proofs.YteakifedfnnmeaaDoor.Sx
set_option linter.unusedVariables false
set_option linter.unusedSimpArgs false
theorem moneyOk_int {c : ByteArray} {b : Bool} {z : List Int} (h : moneyOk [.str c, .bool b, .ints z] = true) : intOk [.bool b, .ints z] = true := by
  simp only [moneyOk, Bool.and_eq_true] at h
  exact h.1.2
end Go.Proofs.YteakifedfnnmeaaDoor

namespace Go.Proofs.YteakifedfnnmeaaDoor
open Go Go.Proofs.YteakifedfnnmeaaDoor.Sx
set_option linter.unusedVariables false
set_option linter.unusedSimpArgs false
theorem digs_len : ∀ (k : Nat) {n : Nat}, n < 1000000000 ^ k → (digs n).length ≤ k
  | 0, n, h => by
    have : n = 0 := by simpa using h
    subst this; simp [digs_zero]
  | k + 1, n, h => by
    by_cases h0 : n = 0
    · subst h0; simp [digs_zero]
    · rw [digs_pos h0, List.length_cons]
      have := digs_len k (n := n / 1000000000) (Nat.div_lt_of_lt_mul (by rw [Nat.mul_comm, ← Nat.pow_succ]; exact h))
      omega
theorem icap_fit {z : Int} (h : (digs z.natAbs).length ≤ 50) : icap z = enc z := by
  unfold icap capL
  rw [if_pos h]
  simp only [mkS, enc, isEmpty_digs]
  by_cases h0 : z < 0
  · have : z.natAbs ≠ 0 := by omega
    simp [h0]; omega
  · simp [h0]
theorem spec_l04Make_c {w : World} {neg : Bool} {p : Option Addr} {n c : Nat} {z : List Int} (h : IntsR w p n c z) (hl : Limbs z) :
    Ret P n_spec_l04Make [.bool neg, .slice p n c] w fun v w' => ∃ b p n c, v = .agg ⟨[.bool b, .slice p n c]⟩ ∧ b = (neg && !(capL (digs (val z).toNat)).isEmpty) ∧ Own w' w.heap.size T_int 1 p n c ((capL (digs (val z).toNat)).map (Value.int .i64)) ∧ Ext w w' := by
  refine spec_l04Make_ret ?_
  unfold spec_l04Make
  intro r w1 hn1
  refine Ret.at (spec_l02Cap_c (h.ext hn1.ext)) ?_
  rintro v w2 ⟨p', n', c', hv, hw, hr⟩
  subst hv; subst hw
  rw [trimL_eq hl] at hr
  have hn' := hr.1
  have h50 : n' ≤ 50 := by
    have := (capL_canon (n := (val z).toNat)).2
    omega
  have e1 := hn1.r_eq
  refine ⟨_, _, _, rfl, fun e => ?_, fun e => ?_⟩
  all_goals
    intro r1 w3 hn3
    obtain ⟨p2, c2, w4, g1, g2, g3⟩ := Own.appendI (Own.fresh hn3) hn3.ext.le (hr.ext hn3.ext) (by omega)
    rw [Nat.zero_add] at g1 g2
    rw [List.nil_append] at g2
    have y4 : Ext w2 w4 := g3 w2 hn3.ext (Nat.le_refl _)
    refine ⟨_, _, _, _, g1, ?_⟩
  · obtain ⟨w5, st, hb5, ch, sz⟩ := (hn1.blk.ext y4).storeA0 (P := P) (t := T_impl_Signed) (xs := [.bool (decide ((0 : Int) < (n' : Nat))), .slice p2 n' c2]) (by kernel_rfl) rfl (by simp [Value.oneCell'])
    refine ⟨w5, st, _, _, _, _, hb5.loadA0 (by kernel_rfl), _, _, _, _, rfl, by rw [len_bool hn', e]; rfl, (g2.chg ch (fun q hq => ?_)).mono hn1.ext.le, (hn1.ext.trans y4).chg ch (by simp; omega)⟩
    have := (World.ownsRow.lt g2 q (by rw [← hq]; cases p2 <;> rfl)).1
    have := hn1.size
    simp; omega
  · obtain ⟨w5, st, hb5, ch, sz⟩ := (hn1.blk.ext y4).storeA0 (P := P) (t := T_impl_Signed) (xs := [.bool false, .slice p2 n' c2]) (by kernel_rfl) rfl (by simp [Value.oneCell'])
    refine ⟨w5, st, _, _, _, _, hb5.loadA0 (by kernel_rfl), _, _, _, _, rfl, by rw [e]; rfl, (g2.chg ch (fun q hq => ?_)).mono hn1.ext.le, (hn1.ext.trans y4).chg ch (by simp; omega)⟩
    have := (World.ownsRow.lt g2 q (by rw [← hq]; cases p2 <;> rfl)).1
    have := hn1.size
    simp; omega
theorem spec_l04Add_c {w : World} {xs ys : List Value} {x y : Int} (h : Reps w xs (enc x)) (k : Reps w ys (enc y)) (hx : (digs x.natAbs).length ≤ 1000000) (hy : (digs y.natAbs).length ≤ 1000000) :
    Ret P n_spec_l04Add [.agg ⟨xs⟩, .agg ⟨ys⟩] w fun v w' => ∃ vs' f, v = .agg ⟨vs'⟩ ∧ Owns w' w.heap.size vs' (icap (x + y)) f ∧ f.Nodup ∧ Ext w w' := by
  obtain ⟨a0, a1p, a1n, a1c, a1z, rfl, hd, ha⟩ := open_Signed h rfl
  obtain ⟨b0, b1p, b1n, b1c, b1z, rfl, he, hb⟩ := open_Signed k rfl
  simp only [enc, List.cons.injEq, D0.bool.injEq, D0.ints.injEq, and_true] at hd he
  obtain ⟨rfl, rfl⟩ := hd
  obtain ⟨rfl, rfl⟩ := he
  have la := ha.1; have lb := hb.1
  have ca := digs_canon x.natAbs; have cb := digs_canon y.natAbs
  have va := val_digs x.natAbs; have vb := val_digs y.natAbs
  refine spec_l04Add_ret ?_
  unfold spec_l04Add
  intro r w1 hn1 r1 w2 hn2 r2 w3 hn3
  have X := (hn1.ext.trans hn2.ext).trans hn3.ext
  have e1 := hn1.r_eq; have e2 := hn2.r_eq; have e3 := hn3.r_eq; have s1 := hn1.size; have s2 := hn2.size; have s3 := hn3.size
  have k0 := (hn1.blk.ext hn2.ext).ext hn3.ext; have k1 := hn2.blk.ext hn3.ext; have k2 := hn3.blk
  have fin : ∀ (W : World) (neg : Bool) (p : Option Addr) (n c : Nat) (z : List Int), IntsR W p n c z → Limbs z → Ext w3 W → (val z).toNat = (x + y).natAbs → ((val z).toNat ≠ 0 → neg = decide (x + y < 0)) →
      Calls P n_spec_l04Make ⟨[.bool neg, .slice p n c]⟩ W fun e_1 wv_7 => ∃ (t170 : Bool) (t171_p : Option Addr) (t171_n : Nat) (t171_c : Nat), e_1 = .returned (.agg #[(.bool t170), (.slice t171_p t171_n t171_c)]) ∧
        ∃ wv_8, Stores P T_impl_Signed ⟨r2, 0, none⟩ (.agg #[(.bool t170), (.slice t171_p t171_n t171_c)]) wv_7 wv_8 ∧
        ∃ (r0 : Bool) (r1_p : Option Addr) (r1_n : Nat) (r1_c : Nat), Loads P T_impl_Signed ⟨r2, 0, none⟩ (.agg #[(.bool r0), (.slice r1_p r1_n r1_c)]) wv_8 ∧ (fun (v : Value) (w' : World) => ∃ vs' f, v = .agg ⟨vs'⟩ ∧ Owns w' w.heap.size vs' (icap (x + y)) f ∧ f.Nodup ∧ Ext w w') (.agg #[(.bool r0), (.slice r1_p r1_n r1_c)]) wv_8 := by
    intro W neg p n c z hz hlz hW hm hs
    refine Ret.at (spec_l04Make_c hz hlz) ?_
    rintro v W2 ⟨b, q, qn, qc, hv, hbb, ho, y2⟩
    subst hv
    have hW0 := hW.le
    obtain ⟨W3, st, hb3, ch, sz⟩ := ((k2.ext hW).ext y2).storeA0 (P := P) (t := T_impl_Signed) (xs := [.bool b, .slice q qn qc]) (by kernel_rfl) rfl (by simp [Value.oneCell'])
    have ow := Owns.int2 (b := b) ho
    rw [hbb] at ow
    have ow2 : Owns W2 W.heap.size [.bool b, .slice q qn qc] (icap (x + y)) (q.map (·.block)).toList := by
      rw [← mkS_digs hm hs, hbb]; exact ow
    refine ⟨_, _, _, _, rfl, W3, st, _, _, _, _, hb3.loadA0 (by kernel_rfl), _, _, rfl, (ow2.chg1 ch (by omega)).mono (by have := X.le; omega), nodup_opt q, ((X.trans hW).trans y2).chg ch (by simp; omega)⟩
  refine ⟨_, k0.load (by kernel_rfl) rfl, _, k1.load (by kernel_rfl) rfl, fun es => ?_, fun es => ?_⟩
  · have es' : decide (x < 0) = decide (y < 0) := by simpa using es
    have D := Ext.drew w3
    refine ⟨_, fun W hW => (k0.ext (D.trans hW)).load (by kernel_rfl) rfl, _, _, _, fun W hW => (k0.ext (D.trans hW)).load (by kernel_rfl) rfl, _, _, _, fun W hW => (k1.ext (D.trans hW)).load (by kernel_rfl) rfl, ?_⟩
    refine Ret.at (spec_l02Add_c (ha.ext (X.trans D)) (hb.ext (X.trans D)) ca.1 cb.1 (by omega) (by omega)) ?_
    rintro v w4 ⟨p, n, c, o, hv, hr, hlo, hln, hvo, y4⟩
    subst hv
    rw [va, vb] at hvo
    refine ⟨_, _, _, rfl, y4, fin w4 _ p n c o hr hlo (D.trans y4) ?_ ?_⟩
    · by_cases hx0 : x < 0 <;> by_cases hy0 : y < 0 <;> simp [hx0, hy0] at es' <;> omega
    · intro h0
      by_cases hx0 : x < 0 <;> by_cases hy0 : y < 0 <;> simp [hx0, hy0] at es' ⊢ <;> omega
  · have es' : ¬ (decide (x < 0) = decide (y < 0)) := by simpa using es
    refine ⟨_, _, _, k0.load (by kernel_rfl) rfl, _, _, _, k1.load (by kernel_rfl) rfl, ?_⟩
    refine Ret.at (spec_l02Cmp_c (ha.ext X) (hb.ext X)) ?_
    rintro v w4 ⟨hv, y4⟩
    subst hv
    have cv := cmpL_val ca cb
    rw [va, vb] at cv
    have X4 := X.trans y4
    have k0 := k0.ext y4; have k1 := k1.ext y4
    have D := Ext.drew w4
    refine ⟨_, rfl, ifD (fun hge => ?_) (fun hlt => ?_)⟩
    · have hge' : y.natAbs ≤ x.natAbs := by
        rcases cv with h | h | h <;> omega
      refine ⟨_, fun W hW => (k0.ext (D.trans hW)).load (by kernel_rfl) rfl, _, _, _, fun W hW => (k0.ext (D.trans hW)).load (by kernel_rfl) rfl, _, _, _, fun W hW => (k1.ext (D.trans hW)).load (by kernel_rfl) rfl, ?_⟩
      have hll : b1n ≤ a1n := by
        rcases Nat.lt_or_ge a1n b1n with h | h
        · have := canon_len ca cb (by omega); omega
        · exact h
      refine Ret.at (spec_l02Sub_c (ha.ext (X4.trans D)) (hb.ext (X4.trans D)) ca.1 cb.1 (by omega) hll (by omega)) ?_
      rintro v w7 ⟨p, n, c, hv, hr, y7⟩
      subst hv
      rw [va, vb] at hr
      have vd := val_digs ((x.natAbs : Int) - y.natAbs).toNat
      refine ⟨_, _, _, rfl, y7, fin w7 _ p n c _ hr (digs_limbs _) ((y4.trans D).trans y7) ?_ ?_⟩
      · by_cases hx0 : x < 0 <;> by_cases hy0 : y < 0 <;> simp [hx0, hy0] at es' <;> omega
      · intro h0
        by_cases hx0 : x < 0 <;> by_cases hy0 : y < 0 <;> simp [hx0, hy0] at es' ⊢ <;> omega
    · have hlt' : x.natAbs < y.natAbs := by
        rcases cv with h | h | h <;> omega
      refine ⟨_, fun W hW => (k1.ext (D.trans hW)).load (by kernel_rfl) rfl, _, _, _, fun W hW => (k1.ext (D.trans hW)).load (by kernel_rfl) rfl, _, _, _, fun W hW => (k0.ext (D.trans hW)).load (by kernel_rfl) rfl, ?_⟩
      have hll : a1n ≤ b1n := by
        rcases Nat.lt_or_ge b1n a1n with h | h
        · have := canon_len cb ca (by omega); omega
        · exact h
      refine Ret.at (spec_l02Sub_c (hb.ext (X4.trans D)) (ha.ext (X4.trans D)) cb.1 ca.1 (by omega) hll (by omega)) ?_
      rintro v w7 ⟨p, n, c, hv, hr, y7⟩
      subst hv
      rw [va, vb] at hr
      have vd := val_digs ((y.natAbs : Int) - x.natAbs).toNat
      refine ⟨_, _, _, rfl, y7, fin w7 _ p n c _ hr (digs_limbs _) ((y4.trans D).trans y7) ?_ ?_⟩
      · by_cases hx0 : x < 0 <;> by_cases hy0 : y < 0 <;> simp [hx0, hy0] at es' <;> omega
      · intro h0
        by_cases hx0 : x < 0 <;> by_cases hy0 : y < 0 <;> simp [hx0, hy0] at es' ⊢ <;> omega
theorem spec_IntAdd_c {w : World} {xs ys : List Value} {dx dy : List D0} (h : Reps w xs dx) (k : Reps w ys dy) (hc : dx.map D0.code = [.bool, .ints]) (kc : dy.map D0.code = [.bool, .ints]) :
    Ret P n_spec_IntAdd [.agg ⟨xs⟩, .agg ⟨ys⟩] w fun v w' => ∃ vs' f, v = .agg ⟨vs'⟩ ∧ Owns w' w.heap.size vs' (iadd dx dy) f ∧ f.Nodup ∧ Ext w w' := by
  have hr := h; have kr := k
  obtain ⟨a0, a1p, a1n, a1c, a1z, rfl, hd, ha⟩ := open_Signed h hc
  obtain ⟨b0, b1p, b1n, b1c, b1z, rfl, he, hb⟩ := open_Signed k kc
  refine spec_IntAdd_ret ?_
  unfold spec_IntAdd
  intro r w1 hn1 r1 w2 hn2 r2 w3 hn3
  have X := (hn1.ext.trans hn2.ext).trans hn3.ext
  have e1 := hn1.r_eq; have e2 := hn2.r_eq; have e3 := hn3.r_eq; have s1 := hn1.size; have s2 := hn2.size; have s3 := hn3.size
  have k0 := (hn1.blk.ext hn2.ext).ext hn3.ext; have k1 := hn2.blk.ext hn3.ext; have k2 := hn3.blk
  have bad : ∀ W, Ext w3 W → (intOk dx && intOk dy) = false → ∃ wv_8, Stores P T_impl_Signed ⟨r2, 0, none⟩ (.agg #[(.bool false), (.slice none 0 0)]) W wv_8 ∧
      ∃ (r0 : Bool) (r1_p : Option Addr) (r1_n : Nat) (r1_c : Nat), Loads P T_impl_Signed ⟨r2, 0, none⟩ (.agg #[(.bool r0), (.slice r1_p r1_n r1_c)]) wv_8 ∧ (fun (v : Value) (w' : World) => ∃ vs' f, v = .agg ⟨vs'⟩ ∧ Owns w' w.heap.size vs' (iadd dx dy) f ∧ f.Nodup ∧ Ext w w') (.agg #[(.bool r0), (.slice r1_p r1_n r1_c)]) wv_8 := by
    intro W hW hno
    obtain ⟨w5, st, hb5, ch, sz⟩ := (k2.ext hW).storeA0 (P := P) (t := T_impl_Signed) (xs := [.bool false, .slice none 0 0]) (by kernel_rfl) rfl (by simp [Value.oneCell'])
    refine ⟨w5, st, _, _, _, _, hb5.loadA0 (by kernel_rfl), _, _, rfl, ?_, nodup_opt none, (X.trans hW).chg ch (by simp; omega)⟩
    have : iadd dx dy = [.bool false, .ints []] := by rw [iadd, hno, ← enc0]; rfl
    rw [this]
    exact Owns.int2 (z := []) (Own.nil w5 _ T_int 1 : Own w5 w.heap.size T_int 1 none 0 0 (([] : List Int).map (Value.int .i64)))
  refine ⟨_, _, _, _, k0.loadA0 (by kernel_rfl), ?_⟩
  refine Ret.at (spec_IntOk_c (hr.ext X) hc) ?_
  rintro v w4 ⟨hv, y4⟩
  subst hv
  refine ⟨_, rfl, ifN (fun hno => ifT (bad w4 y4 (by simp [hno]))) (fun hok1 => ?_)⟩
  refine ⟨_, _, _, _, (k1.ext y4).loadA0 (by kernel_rfl), ?_⟩
  refine Ret.at (spec_IntOk_c (kr.ext (X.trans y4)) kc) ?_
  rintro v w5 ⟨hv, y5⟩
  subst hv
  refine ⟨_, rfl, ifN (fun hno => bad w5 (y4.trans y5) (by simp [hno])) (fun hok2 => ?_)⟩
  have X5 := (X.trans y4).trans y5
  obtain ⟨ex, _, zx, hx1, cx, lx⟩ := intOk_enc hok1
  obtain ⟨ey, _, zy, hy1, cy, ly⟩ := intOk_enc hok2
  have lenx : (digs (ival dx).natAbs).length ≤ 50 := by
    rw [ex] at hx1
    simp only [enc, List.cons.injEq, D0.ints.injEq, and_true] at hx1
    rw [hx1.2]; exact lx
  have leny : (digs (ival dy).natAbs).length ≤ 50 := by
    rw [ey] at hy1
    simp only [enc, List.cons.injEq, D0.ints.injEq, and_true] at hy1
    rw [hy1.2]; exact ly
  refine ⟨_, _, _, _, ((k0.ext y4).ext y5).loadA0 (by kernel_rfl), _, _, _, _, ((k1.ext y4).ext y5).loadA0 (by kernel_rfl), ?_⟩
  refine Ret.at (spec_l04Add_c (x := ival dx) (y := ival dy) (by rw [← ex]; exact hr.ext X5) (by rw [← ey]; exact kr.ext X5) (by omega) (by omega)) ?_
  rintro v w6 ⟨vs', f, hv, ho, hnd, y6⟩
  subst hv
  obtain ⟨q0, q1p, q1n, q1c, q1z, rfl, hq, hqi⟩ := open_Signed ho.reps (icap_code _)
  have X6 := X5.trans y6
  have s4 := X5.le; have s34 := y4.le; have s35 := y5.le
  obtain ⟨w7, st, hb7, ch, sz⟩ := (((k2.ext y4).ext y5).ext y6).storeA0 (P := P) (t := T_impl_Signed) (xs := [.bool q0, .slice q1p q1n q1c]) (by kernel_rfl) rfl ho.reps.cells1
  refine ⟨_, _, _, _, rfl, w7, st, _, _, _, _, hb7.loadA0 (by kernel_rfl), _, f, rfl, ?_, hnd, X6.chg ch (by simp; omega)⟩
  have : iadd dx dy = icap (ival dx + ival dy) := by rw [iadd, hok1, hok2]; rfl
  rw [this]
  exact (ho.chg1 ch (by omega)).mono (by omega)
end Go.Proofs.YteakifedfnnmeaaDoor

namespace Go.Proofs.YteakifedfnnmeaaDoor
open Go Go.Proofs.YteakifedfnnmeaaDoor.Sx
set_option linter.unusedVariables false
set_option linter.unusedSimpArgs false
theorem laws_markIntS_c {w : World} {B : Nat} {p : Option Addr} {n c : Nat} {zs : List Int} {k : Int} (h : Own w B T_int 1 p n c (zs.map (Value.int .i64))) (h0 : 0 ≤ k) (h1 : k + n ≤ 9223372036854775807) :
    Ret P n_laws_markIntS [.slice p n c, .int .i64 k] w fun v w' => v = .int .i64 (k + n) ∧ Own w' B T_int 1 p n c ((mkI n k).map (Value.int .i64)) ∧ Chg (p.map (·.block)).toList w w' := by
  have hz : zs.length = n := by have := h.len; simpa using this
  have hcap := h.le
  refine laws_markIntS_ret ?_
  unfold laws_markIntS
  refine ⟨fun k1 i wr => ∃ j : Nat, i = j ∧ j ≤ n ∧ k1 = k + j ∧ Own wr B T_int 1 p n c ((mkI j k ++ zs.drop j).map (Value.int .i64)) ∧ Chg (p.map (·.block)).toList w wr, fun _ i _ => n - i.toNat, ⟨0, rfl, by omega, by omega, by simpa [mkI] using h, Chg.refl _ _⟩, ?_⟩
  intro junk wr k1 i ⟨j, hij, hj, hk1, ho, hch⟩
  subst hij; subst hk1
  refine ifD (fun hlt => ?_) (fun hge => ?_)
  · obtain ⟨b, w2, hp, st, ho2, ch2, sz2⟩ := ho.set (P := P) (t := T_int) (i := j) (v := .int .i64 (k + j)) (by simp [mkI_len]; omega) (by kernel_rfl) rfl
    subst hp
    refine ⟨⟨by omega, by omega⟩, w2, by simpa using st, exW ⟨by omega, by omega⟩ (exW ⟨by omega, by omega⟩ ⟨⟨j + 1, by omega, by omega, by omega, ?_, hch.trans ch2⟩, ?_⟩)⟩
    · have e : (mkI j k ++ zs.drop j).set j (k + (j : Nat)) = mkI (j + 1) k ++ zs.drop (j + 1) := by
        rw [List.set_append_right _ _ (by rw [mkI_len]; omega), mkI_len, Nat.sub_self, mkI_succ, List.drop_eq_getElem_cons (show j < zs.length by omega), List.set_cons_zero, List.append_assoc]
        rfl
      rw [← e, List.map_set]
      exact ho2
    · show n - ((j : Int) + 1).toNat < n - (j : Int).toNat
      omega
  · have hjn : j = n := by omega
    subst hjn
    rw [List.drop_of_length_le (by omega), List.append_nil] at ho
    exact ⟨rfl, ho, hch⟩
theorem laws_heldIntS_c {w : World} {p : Option Addr} {n c : Nat} {k : Int} (h : IntsR w p n c (mkI n k)) (h0 : 0 ≤ k) (h1 : k + n ≤ 9223372036854775807) :
    Ret P n_laws_heldIntS [.slice p n c, .int .i64 k] w fun v w' => v = .int .i64 (k + n) ∧ Ext w w' := by
  have hcap := h.2.1; have hcm := h.2.2.1
  refine laws_heldIntS_ret ?_
  unfold laws_heldIntS
  refine ⟨fun k1 i wr => ∃ j : Nat, i = j ∧ j ≤ n ∧ k1 = k + j ∧ Ext w wr, fun _ i _ => n - i.toNat, ⟨0, rfl, by omega, by omega, Ext.refl _⟩, ?_⟩
  intro junk wr k1 i ⟨j, hij, hj, hk1, hx⟩
  subst hij; subst hk1
  refine ifD (fun hlt => ?_) (fun hge => ?_)
  · have hjn : j < n := by omega
    obtain ⟨a, hpa, hl⟩ := (h.ext hx).at (P := P) (t := T_int) (by kernel_rfl) hjn
    subst hpa
    rw [mkI_get] at hl
    refine ⟨⟨by omega, by omega⟩, k + (j : Nat), by simpa using hl, ifD (fun hne => absurd rfl hne) (fun _ => exW ⟨by omega, by omega⟩ (exW ⟨by omega, by omega⟩ ⟨⟨j + 1, by omega, by omega, by omega, hx⟩, ?_⟩))⟩
    show n - ((j : Int) + 1).toNat < n - (j : Int).toNat
    omega
  · have hjn : j = n := by omega
    subst hjn
    exact ⟨rfl, hx⟩
theorem bne_no {a b : Bool} (e : a = b) : ¬ (!(a == b)) = true := by subst e; simp
theorem convs_bytes {w : World} {s e d ee : TypeId} {r : Nat} (xs : List Int) (hs : P.underlying s = some (.slice e)) (he : P.underlying e = some (.int .u8)) (hd : P.underlying d = some .string) (hb : Blk w r ee (xs.map (Value.int .u8))) :
    Convs P s d (.slice (some ⟨r, 0, none⟩) xs.length xs.length) (.string (strOfNums xs)) w :=
  run_convert_bytes_arg w s e hs he r 0 xs.length xs.length xs rfl (fun i hi => by
    have := hb.seg i (.int .u8 (xs.getD i 0)) (by simp [List.getD_eq_getElem?_getD, List.getElem?_eq_getElem hi])
    simpa using this) d hd
theorem laws_markText_c {k : Int} (hk : k ≤ 1000000000000000000) (w : World) : Ret P n_laws_markText [.int .i64 k] w fun v w' => v = .string (mtext k) ∧ Ext w w' := by
  refine laws_markText_ret ?_
  unfold laws_markText
  refine ifD (fun h => ⟨by rw [mtext, if_pos h], Ext.refl _⟩) (fun h => ?_)
  refine ⟨fun k1 out wr => 0 ≤ k1 ∧ k1 ≤ k ∧ out.size + k1 ≤ k ∧ mdig k1.toNat out = mdig k.toNat ByteArray.empty ∧ Ext w wr, fun k1 _ _ => k1.toNat, ⟨by omega, by omega, by show (0 : Int) + k ≤ k; omega, rfl, Ext.refl _⟩, ?_⟩
  intro junk wr k1 out ⟨h0, hle, hsz, hm, hx⟩
  refine ifD (fun hpos => ?_) (fun hz => ?_)
  · have ht : Int.tmod k1 10 = k1 % 10 := Int.tmod_eq_emod_of_nonneg h0
    have htd : Int.tdiv k1 10 = k1 / 10 := Int.tdiv_eq_ediv_of_nonneg h0
    refine ⟨by decide, _, rfl, ?_⟩
    rw [ht]
    refine exW ⟨by omega, by omega⟩ ⟨_, rfl, ?_⟩
    have wu : IntKind.wrap .u8 (48 + k1 % 10) = 48 + k1 % 10 := by
      simp only [IntKind.wrap, IntKind.bits, IntKind.signed]
      simp
      omega
    rw [wu]
    intro r w1 hn
    refine ⟨_, convs_bytes (ee := T_uint8) [48 + k1 % 10] (e := T_uint8) (by kernel_rfl) (by kernel_rfl) (by kernel_rfl) hn.blk, ?_, _, rfl, by decide, ?_⟩
    · rw [strOfNums_size]; simp; omega
    rw [htd]
    refine exW ⟨by omega, by omega⟩ ⟨⟨by omega, by omega, ?_, ?_, hx.trans hn.ext⟩, ?_⟩
    · rw [ByteArray.size_append, strOfNums_size]; simp; omega
    · rw [← hm, mdig_pos (k := k1.toNat) (by omega)]
      have e1 : (k1 / 10).toNat = k1.toNat / 10 := by omega
      have e2 : (48 + k1 % 10) = ((48 + k1.toNat % 10 : Nat) : Int) := by omega
      rw [e1, e2]
    · show (k1 / 10).toNat < k1.toNat
      omega
  · have : k1.toNat = 0 := by omega
    rw [this, mdig_zero] at hm
    refine ⟨?_, _, rfl, ?_, hx⟩
    · show 1 + out.size ≤ 9223372036854775807
      omega
    · rw [mtext, if_neg h, hm]
end Go.Proofs.YteakifedfnnmeaaDoor

namespace Go.Proofs.YteakifedfnnmeaaDoor
open Go Go.Proofs.YteakifedfnnmeaaDoor.Sx
set_option linter.unusedVariables false
set_option linter.unusedSimpArgs false
theorem cntL_nn {d : List (List D0)} {m : Int} (_ : cntL d ≤ m) : 0 ≤ cntL d := cntL_nonneg d
theorem opt_nil {p : Option Addr} {q : Nat} (h : q ∈ (p.map (·.block)).toList) : q ∈ (p.map (·.block)).toList ++ ([] : List Nat) := List.mem_append_left _ h
theorem laws_markSigned_c {w : World} {B : Nat} {vs : List Value} {ds : List D0} {f : List Nat} {k : Int} (h : Owns w B vs ds f) (nd : f.Nodup) (hc : ds.map D0.code = [.bool, .ints]) (h0 : 0 ≤ k) (h1 : k + tcnts ds ≤ 1000000000000000000) :
    Ret P n_laws_markSigned [.agg ⟨vs⟩, .int .i64 k] w fun v w' => v = .int .i64 (k + tcnts ds) ∧ Owns w' B vs (tmarks ds k) f ∧ Chg f w w' := by
  obtain ⟨b, us, es, rfl, rfl, h2, hc2⟩ := h.consBool hc
  obtain ⟨p, n, c, z, us, es, f2, rfl, rfl, rfl, o, h3, hc3⟩ := h2.consInts hc2
  obtain ⟨rfl, rfl, rfl⟩ := h3.done hc3
  have hz : z.length = n := by have := o.len; simpa using this
  simp only [tcnts] at h1 ⊢
  refine laws_markSigned_ret ?_
  unfold laws_markSigned
  intro r w1 hn
  refine ⟨_, _, _, hn.blk.loadAt 1 rfl (by kernel_rfl) rfl, ?_⟩
  refine Ret.at (laws_markIntS_c (o.ext hn.ext) h0 (by omega)) ?_
  rintro v w2 ⟨hv, o2, ch⟩
  subst hv
  refine ⟨_, rfl, by rw [hz, Int.add_zero], ?_, hn.ext.toChg.trans (ch.mono fun q hq => opt_nil hq)⟩
  simp only [tmarks, hz]
  exact Owns.append (Owns.bool _ _ b) (Owns.append (Owns.ints o2) (Owns.nil _ _))
theorem laws_markMoney_c {w : World} {B : Nat} {vs : List Value} {ds : List D0} {f : List Nat} {k : Int} (h : Owns w B vs ds f) (nd : f.Nodup) (hc : ds.map D0.code = [.str, .bool, .ints]) (h0 : 0 ≤ k) (h1 : k + tcnts ds ≤ 1000000000000000000) :
    Ret P n_laws_markMoney [.agg ⟨vs⟩, .int .i64 k] w fun v w' => v = .int .i64 (k + tcnts ds) ∧ Owns w' B vs (tmarks ds k) f ∧ Chg f w w' := by
  obtain ⟨s, us, es, rfl, rfl, h2, hc2⟩ := h.consStr hc
  have h2' := h2
  obtain ⟨b, us, es, rfl, rfl, h3, hc3⟩ := h2.consBool hc2
  obtain ⟨p, n, c, z, us, es, f2, rfl, rfl, rfl, o, h4, hc4⟩ := h3.consInts hc3
  obtain ⟨rfl, rfl, rfl⟩ := h4.done hc4
  refine laws_markMoney_ret ?_
  unfold laws_markMoney
  intro r w1 hn
  refine ⟨_, _, _, _, hn.blk.loadAAt 1 [.bool b, .slice p n c] rfl (by kernel_rfl) rfl, ?_⟩
  refine Ret.at (laws_markSigned_c (h2'.ext hn.ext) nd rfl h0 h1) ?_
  rintro v w2 ⟨hv, o2, ch⟩
  subst hv
  exact ⟨_, rfl, rfl, Owns.append (Owns.str _ _ s) o2, hn.ext.toChg.trans ch⟩
end Go.Proofs.YteakifedfnnmeaaDoor

namespace Go.Proofs.YteakifedfnnmeaaDoor
open Go Go.Proofs.YteakifedfnnmeaaDoor.Sx
set_option linter.unusedVariables false
set_option linter.unusedSimpArgs false
theorem digs_len_le {n : Nat} (h : n < 1000000000000000000000000000000000000000000000000000000) : (digs n).length ≤ 6 := digs_len 6 (by omega)
theorem money_bound {c : ByteArray} {b : Bool} {z : List Int} (h : moneyOk [.str c, .bool b, .ints z] = true) : (ival [.bool b, .ints z]).natAbs ≤ 1000000000000000000000000000000000000 := by
  have hi := moneyOk_int h
  simp only [moneyOk, Bool.and_eq_true, decide_eq_true_eq] at h
  obtain ⟨_, _, _, h1, hc, _⟩ := intOk_enc hi
  simp only [List.cons.injEq, D0.bool.injEq, D0.ints.injEq, and_true] at h1
  obtain ⟨rfl, rfl⟩ := h1
  have hv := val_nonneg hc.1
  have hlt := val_lt hc.1
  have h6 : (1000000000 : Nat) ^ z.length ≤ 1000000000 ^ 4 := Nat.pow_le_pow_right (by decide) h.2
  have h6' := Int.ofNat_le.2 h6
  rw [Int.natCast_pow, Int.natCast_pow] at h6'
  have h7 : val z < (1000000000 : Int) ^ 4 := Int.lt_of_lt_of_le hlt h6'
  have h8 : ((1000000000 : Int) ^ 4) = 1000000000000000000000000000000000000 := by decide
  rw [h8] at h7
  cases b <;> simp only [ival, if_true, Bool.false_eq_true, if_false] <;> omega
theorem enc_small {z : Int} (h : z.natAbs < 1000000000000000000000000000000000000000000000000000000) : intOk (enc z) = true := by
  have := digs_len_le h
  rw [← icap_fit (by omega)]; exact icap_ok z
theorem iadd_small {x y : Int} (hx : x.natAbs < 100000000000000000000000000000000000000000000000000000) (hy : y.natAbs < 100000000000000000000000000000000000000000000000000000) : iadd (enc x) (enc y) = enc (x + y) := by
  have h3 : (digs (x + y).natAbs).length ≤ 6 := digs_len_le (by omega)
  rw [iadd, enc_small (by omega), enc_small (by omega)]
  simp only [Bool.and_self, if_true]
  rw [ival_enc, ival_enc]
  exact icap_fit (by omega)
end Go.Proofs.YteakifedfnnmeaaDoor

namespace Go.Proofs.YteakifedfnnmeaaDoor
open Go Go.Proofs.YteakifedfnnmeaaDoor.Sx
set_option linter.unusedVariables false
set_option linter.unusedSimpArgs false
def zeroMoney : List D0 := [.str ByteArray.empty, .bool false, .ints []]
def moneyMk (cur : ByteArray) (z : Int) : List D0 := if moneyOk (.str cur :: enc z) then .str cur :: enc z else zeroMoney
theorem moneyMk_code (cur : ByteArray) (z : Int) : (moneyMk cur z).map D0.code = [.str, .bool, .ints] := by unfold moneyMk; split <;> rfl
/-- an amount made: it holds the very integer that it is made of -/
theorem spec_l09Make_c {w : World} {B : Nat} {xs : List Value} {z : Int} {f : List Nat} (cur : ByteArray) (h : Owns w B xs (enc z) f) (hnd : f.Nodup) (hB : B ≤ w.heap.size) :
    Ret P n_spec_l09Make [.string cur, .agg ⟨xs⟩] w fun v w' => ∃ vs f', v = .tuple #[.agg ⟨vs⟩, .bool (moneyOk (.str cur :: enc z))] ∧ Owns w' B vs (moneyMk cur z) f' ∧ f'.Nodup ∧ Ext w w' := by
  have ho := h
  obtain ⟨a0, a1p, a1n, a1c, a1z, rfl, hd, ha⟩ := open_Signed h.reps (enc_code _)
  refine spec_l09Make_ret ?_
  unfold spec_l09Make
  intro r w1 hn1 r1 w2 hn2
  refine ⟨_, _, _, _, (hn1.blk.ext hn2.ext).loadA0 (by kernel_rfl), ?_⟩
  intro r2 w3 hn3
  have e1 := hn1.r_eq; have e2 := hn2.r_eq; have e3 := hn3.r_eq; have s1 := hn1.size; have s2 := hn2.size; have s3 := hn3.size
  obtain ⟨w4, st4, hb4, y4⟩ := hn3.fill (P := P) (t := T_impl_Money) (xs := [.string cur, .bool a0, .slice a1p a1n a1c]) (by simp [Value.oneCell']) (by kernel_rfl) rfl
  have X := (hn1.ext.trans hn2.ext).trans y4
  have k1 := hn2.blk.ext y4
  refine ⟨w4, st4, _, _, _, _, _, hb4.loadA0 (by kernel_rfl), ?_⟩
  have hm : Reps w4 [.string cur, .bool a0, .slice a1p a1n a1c] (.str cur :: enc z) := ⟨rfl, h.reps.ext X⟩
  refine Ret.at (spec_MoneyOk_c hm rfl) ?_
  rintro v w5 ⟨hv, y5⟩
  subst hv
  have X5 := X.trans y5
  refine ⟨_, rfl, ifN (fun hno => ?_) (fun hyes => ?_)⟩
  · obtain ⟨w6, st6, hb6, ch, sz⟩ := (k1.ext y5).storeA0 (P := P) (t := T_impl_Money) (xs := [.string ByteArray.empty, .bool false, .slice none 0 0]) (by kernel_rfl) rfl (by simp [Value.oneCell'])
    refine ⟨w6, st6, _, _, _, _, _, hb6.loadA0 (by kernel_rfl), [.string ByteArray.empty, .bool false, .slice none 0 0], [], by rw [hno], ?_, List.nodup_nil, X5.chg ch (by simp; omega)⟩
    unfold moneyMk
    rw [hno]
    exact Owns.append (Owns.str _ _ _) (Owns.append (Owns.bool _ _ false) (Owns.ints (zs := []) (Own.nil w6 B T_int 1)))
  · obtain ⟨w6, st6, hb6, ch, sz⟩ := (k1.ext y5).storeA0 (P := P) (t := T_impl_Money) (xs := [.string cur, .bool a0, .slice a1p a1n a1c]) (by kernel_rfl) rfl (by simp [Value.oneCell'])
    refine ⟨_, _, _, _, _, (hb4.ext y5).loadA0 (by kernel_rfl), w6, st6, _, _, _, _, _, hb6.loadA0 (by kernel_rfl), [.string cur, .bool a0, .slice a1p a1n a1c], f, by rw [hyes], ?_, hnd, X5.chg ch (by simp; omega)⟩
    unfold moneyMk
    rw [hyes]
    have h5 := ((ho.ext X5).chg ch fun k hk hm => by
      have := (ho.lt k hk).2
      simp at hm; omega)
    exact Owns.append (Owns.str _ _ cur) h5
end Go.Proofs.YteakifedfnnmeaaDoor

namespace Go.Proofs.YteakifedfnnmeaaDoor
open Go Go.Proofs.YteakifedfnnmeaaDoor.Sx
set_option linter.unusedVariables false
set_option linter.unusedSimpArgs false
theorem impl_moneyOf_c {w : World} (ht : Tab w) {B : Nat} {xs : List Value} {z : Int} {f : List Nat} (cur : ByteArray) (h : Owns w B xs (enc z) f) (hnd : f.Nodup) (hB : B ≤ w.heap.size) :
    Ret P n_impl_moneyOf [.string cur, .agg ⟨xs⟩] w fun v w' => ∃ vs f', v = .tuple #[.agg ⟨vs⟩, .bool (moneyOk (.str cur :: enc z))] ∧ Owns w' B vs (moneyMk cur z) f' ∧ f'.Nodup ∧ Ext w w' := by
  have ho := h
  obtain ⟨a0, a1p, a1n, a1c, a1z, rfl, hd, ha⟩ := open_Signed h.reps (enc_code _)
  refine impl_moneyOf_ret ?_
  unfold impl_moneyOf
  intro r w1 hn1 r1 w2 hn2
  refine ⟨_, _, _, _, (hn1.blk.ext hn2.ext).loadA0 (by kernel_rfl), ?_⟩
  intro r2 w3 hn3
  have e1 := hn1.r_eq; have e2 := hn2.r_eq; have e3 := hn3.r_eq; have s1 := hn1.size; have s2 := hn2.size; have s3 := hn3.size
  obtain ⟨w4, st4, hb4, y4⟩ := hn3.fill (P := P) (t := T_impl_Money) (xs := [.string cur, .bool a0, .slice a1p a1n a1c]) (by simp [Value.oneCell']) (by kernel_rfl) rfl
  have X := (hn1.ext.trans hn2.ext).trans y4
  have k1 := hn2.blk.ext y4
  refine ⟨w4, st4, _, _, _, _, _, hb4.loadA0 (by kernel_rfl), ?_⟩
  have hm : Reps w4 [.string cur, .bool a0, .slice a1p a1n a1c] (.str cur :: enc z) := ⟨rfl, h.reps.ext X⟩
  refine Ret.at (impl_MoneyOk_c (ht.ext X) hm rfl) ?_
  rintro v w5 ⟨hv, y5⟩
  subst hv
  have X5 := X.trans y5
  refine ⟨_, rfl, fun hyes => ?_, fun hno => ?_⟩
  · obtain ⟨w6, st6, hb6, ch, sz⟩ := (k1.ext y5).storeA0 (P := P) (t := T_impl_Money) (xs := [.string cur, .bool a0, .slice a1p a1n a1c]) (by kernel_rfl) rfl (by simp [Value.oneCell'])
    refine ⟨_, _, _, _, _, (hb4.ext y5).loadA0 (by kernel_rfl), w6, st6, _, _, _, _, _, hb6.loadA0 (by kernel_rfl), [.string cur, .bool a0, .slice a1p a1n a1c], f, by rw [hyes], ?_, hnd, X5.chg ch (by simp; omega)⟩
    unfold moneyMk
    rw [hyes]
    have h5 := ((ho.ext X5).chg ch fun k hk hm => by
      have := (ho.lt k hk).2
      simp at hm; omega)
    exact Owns.append (Owns.str _ _ cur) h5
  · obtain ⟨w6, st6, hb6, ch, sz⟩ := (k1.ext y5).storeA0 (P := P) (t := T_impl_Money) (xs := [.string ByteArray.empty, .bool false, .slice none 0 0]) (by kernel_rfl) rfl (by simp [Value.oneCell'])
    refine ⟨w6, st6, _, _, _, _, _, hb6.loadA0 (by kernel_rfl), [.string ByteArray.empty, .bool false, .slice none 0 0], [], by rw [hno], ?_, List.nodup_nil, X5.chg ch (by simp; omega)⟩
    unfold moneyMk
    rw [hno]
    exact Owns.append (Owns.str _ _ _) (Owns.append (Owns.bool _ _ false) (Owns.ints (zs := []) (Own.nil w6 B T_int 1)))
end Go.Proofs.YteakifedfnnmeaaDoor

namespace Go.Proofs.YteakifedfnnmeaaDoor
open Go Go.Proofs.YteakifedfnnmeaaDoor.Sx
set_option linter.unusedVariables false
set_option linter.unusedSimpArgs false
theorem agg_end {t : TypeId} {w W : World} {r : Nat} {e : TypeId} {old xs : List Value} {d : List D0} {f : List Nat} {B : Nat} (hb : Blk W r e old) (X : Ext w W) (hr : w.heap.size ≤ r)
    (ho : Owns W B xs d f) (ht : aggT P t xs.length = true) (hlen : xs.length = old.length) (hrB : r < B) (hwB : w.heap.size ≤ B) :
    ∃ W', Stores P t ⟨r, 0, none⟩ (.agg ⟨xs⟩) W W' ∧ Loads P t ⟨r, 0, none⟩ (.agg ⟨xs⟩) W' ∧ Owns W' w.heap.size xs d f ∧ Ext w W' ∧ Chg [r] W W' ∧ Blk W' r e xs := by
  obtain ⟨W', st, hb', ch, _⟩ := hb.storeA0 (P := P) (t := t) (xs := xs) ht hlen ho.reps.cells1
  exact ⟨W', st, hb'.loadA0 ht, (ho.chg1 ch hrB).mono hwB, X.chg ch (by simp; exact hr), ch, hb'⟩
theorem own_money0 (W : World) (B : Nat) : Owns W B [.string ByteArray.empty, .bool false, .slice none 0 0] zeroMoney [] :=
  Owns.append (Owns.str _ _ _) (Owns.append (Owns.bool _ _ false) (Owns.ints (zs := []) (Own.nil W B T_int 1)))
/-- two amounts of one currency -/
def alk : List D0 → List D0 → Bool
  | [.str c, .bool b, .ints z], [.str c2, .bool b2, .ints z2] => moneyOk [.str c, .bool b, .ints z] && (moneyOk [.str c2, .bool b2, .ints z2] && decide (c = c2))
  | _, _ => false
/-- what is made of two amounts of one currency and an integer -/
def mres (al : Bool) (c : ByteArray) (z : Int) : Bool × List D0 := if al then (moneyOk (.str c :: enc z), moneyMk c z) else (false, zeroMoney)
theorem mres_code (al : Bool) (c : ByteArray) (z : Int) : (mres al c z).2.map D0.code = [.str, .bool, .ints] := by
  unfold mres
  split
  · exact moneyMk_code _ _
  · rfl
theorem alk_parts {c c2 : ByteArray} {b b2 : Bool} {z z2 : List Int} (h : alk [.str c, .bool b, .ints z] [.str c2, .bool b2, .ints z2] = true) : moneyOk [.str c, .bool b, .ints z] = true ∧ moneyOk [.str c2, .bool b2, .ints z2] = true ∧ c = c2 := by
  simpa [alk] using h
theorem impl_intAdd_n {w : World} {xs ys : List Value} {x y : Int} (h : Reps w xs (enc x)) (k : Reps w ys (enc y)) (hx : x.natAbs ≤ 1000000000000000000000000000000000000) (hy : y.natAbs ≤ 1000000000000000000000000000000000000) :
    Ret P n_impl_intAdd [.agg ⟨xs⟩, .agg ⟨ys⟩] w fun v w' => ∃ vs f, v = .agg ⟨vs⟩ ∧ Owns w' w.heap.size vs (enc (x + y)) f ∧ f.Nodup ∧ Ext w w' := by
  have d1 : (digs x.natAbs).length ≤ 6 := digs_len_le (by omega)
  have d2 : (digs y.natAbs).length ≤ 6 := digs_len_le (by omega)
  exact (impl_intAdd_c h k (by omega) (by omega)).mono fun v w' ⟨p, n, c, hv, ho, hx⟩ => ⟨_, _, hv, Owns.int2 ho, nodup_opt p, hx⟩
theorem spec_IntAdd_n {w : World} {xs ys : List Value} {x y : Int} (h : Reps w xs (enc x)) (k : Reps w ys (enc y)) (hx : x.natAbs ≤ 1000000000000000000000000000000000000) (hy : y.natAbs ≤ 1000000000000000000000000000000000000) :
    Ret P n_spec_IntAdd [.agg ⟨xs⟩, .agg ⟨ys⟩] w fun v w' => ∃ vs f, v = .agg ⟨vs⟩ ∧ Owns w' w.heap.size vs (enc (x + y)) f ∧ f.Nodup ∧ Ext w w' :=
  (spec_IntAdd_c h k (enc_code _) (enc_code _)).mono fun v w' ⟨vs, f, hv, ho, hn, hx'⟩ => ⟨vs, f, hv, by rwa [iadd_small (by omega) (by omega)] at ho, hn, hx'⟩
theorem impl_alike_c {w : World} {xs ys : List Value} {c c2 : ByteArray} {b b2 : Bool} {z z2 : List Int} (h : Reps w xs [.str c, .bool b, .ints z]) (g : Reps w ys [.str c2, .bool b2, .ints z2]) (ht : Tab w) :
    Ret P n_impl_alike [.agg ⟨xs⟩, .agg ⟨ys⟩] w fun v w' => v = .bool (alk [.str c, .bool b, .ints z] [.str c2, .bool b2, .ints z2]) ∧ Ext w w' := by
  have hr := h; have gr := g
  obtain ⟨cur, a0, ap, an, ac, az, rfl, hd, ha⟩ := open_Money h rfl
  cases hd
  obtain ⟨cur2, d0, bp, bn, bc, bz, rfl, hd, hb⟩ := open_Money g rfl
  cases hd
  refine impl_alike_ret ?_
  unfold impl_alike
  intro r w1 hn1 r1 w2 hn2
  have X := hn1.ext.trans hn2.ext
  have q0 := hn1.blk.ext hn2.ext; have q1 := hn2.blk
  refine ⟨_, _, _, _, _, q0.loadA0 (by kernel_rfl), ?_⟩
  refine Ret.at (impl_MoneyOk_c (ht.ext X) (hr.ext X) rfl) ?_
  rintro v w3 ⟨hv, y3⟩
  subst hv
  refine ⟨_, rfl, fun e => ⟨_, _, _, _, _, (q1.ext y3).loadA0 (by kernel_rfl), ?_⟩, fun e => ⟨fun hh => absurd hh (by simp), fun _ => ⟨by simp only [alk, e, Bool.false_and], X.trans y3⟩⟩⟩
  have X3 := X.trans y3
  refine Ret.at (impl_MoneyOk_c (ht.ext X3) (gr.ext X3) rfl) ?_
  rintro v w4 ⟨hv, y4⟩
  subst hv
  have Y := y3.trans y4
  exact ⟨_, rfl, fun e2 => ⟨_, (q0.ext Y).loadAt 0 rfl (by kernel_rfl) rfl, _, (q1.ext Y).loadAt 0 rfl (by kernel_rfl) rfl, by simp only [alk, e, e2, Bool.true_and], X.trans Y⟩, fun e2 => ⟨by simp only [alk, e, e2, Bool.false_and, Bool.and_false], X.trans Y⟩⟩
theorem spec_l09Both_c {w : World} {xs ys : List Value} {c c2 : ByteArray} {b b2 : Bool} {z z2 : List Int} (h : Reps w xs [.str c, .bool b, .ints z]) (g : Reps w ys [.str c2, .bool b2, .ints z2]) :
    Ret P n_spec_l09Both [.agg ⟨xs⟩, .agg ⟨ys⟩] w fun v w' => v = .bool (alk [.str c, .bool b, .ints z] [.str c2, .bool b2, .ints z2]) ∧ Ext w w' := by
  have hr := h; have gr := g
  obtain ⟨cur, a0, ap, an, ac, az, rfl, hd, ha⟩ := open_Money h rfl
  cases hd
  obtain ⟨cur2, d0, bp, bn, bc, bz, rfl, hd, hb⟩ := open_Money g rfl
  cases hd
  refine spec_l09Both_ret ?_
  unfold spec_l09Both
  intro r w1 hn1 r1 w2 hn2
  have X := hn1.ext.trans hn2.ext
  have q0 := hn1.blk.ext hn2.ext; have q1 := hn2.blk
  refine ⟨_, _, _, _, _, q0.loadA0 (by kernel_rfl), ?_⟩
  refine Ret.at (spec_MoneyOk_c (hr.ext X) rfl) ?_
  rintro v w3 ⟨hv, y3⟩
  subst hv
  refine ⟨_, rfl, fun e => ⟨_, _, _, _, _, (q1.ext y3).loadA0 (by kernel_rfl), ?_⟩, fun e => ⟨fun hh => absurd hh (by simp), fun _ => ⟨by simp only [alk, e, Bool.false_and], X.trans y3⟩⟩⟩
  have X3 := X.trans y3
  refine Ret.at (spec_MoneyOk_c (gr.ext X3) rfl) ?_
  rintro v w4 ⟨hv, y4⟩
  subst hv
  have Y := y3.trans y4
  exact ⟨_, rfl, fun e2 => ⟨_, (q0.ext Y).loadAt 0 rfl (by kernel_rfl) rfl, _, (q1.ext Y).loadAt 0 rfl (by kernel_rfl) rfl, by simp only [alk, e, e2, Bool.true_and], X.trans Y⟩, fun e2 => ⟨by simp only [alk, e, e2, Bool.false_and, Bool.and_false], X.trans Y⟩⟩
theorem impl_MoneyAdd_n {w : World} {xs ys : List Value} {c c2 : ByteArray} {b b2 : Bool} {z z2 : List Int} (h : Reps w xs [.str c, .bool b, .ints z]) (g : Reps w ys [.str c2, .bool b2, .ints z2]) (ht : Tab w) :
    Ret P n_impl_MoneyAdd [.agg ⟨xs⟩, .agg ⟨ys⟩] w fun v w' => ∃ vs f, v = .tuple #[.agg ⟨vs⟩, .bool (mres (alk [.str c, .bool b, .ints z] [.str c2, .bool b2, .ints z2]) c (ival [.bool b, .ints z] + ival [.bool b2, .ints z2])).1] ∧ Owns w' w.heap.size vs (mres (alk [.str c, .bool b, .ints z] [.str c2, .bool b2, .ints z2]) c (ival [.bool b, .ints z] + ival [.bool b2, .ints z2])).2 f ∧ f.Nodup ∧ Ext w w' := by
  have hr := h; have gr := g
  obtain ⟨cur, a0, ap, an, ac, az, rfl, hd, ha⟩ := open_Money h rfl
  cases hd
  obtain ⟨cur2, d0, bp, bn, bc, bz, rfl, hd, hb⟩ := open_Money g rfl
  cases hd
  refine impl_MoneyAdd_ret ?_
  unfold impl_MoneyAdd
  intro r w1 hn1 r1 w2 hn2 r2 w3 hn3
  have e1 := hn1.r_eq; have e2 := hn2.r_eq; have e3 := hn3.r_eq; have s1 := hn1.size; have s2 := hn2.size; have s3 := hn3.size
  have X := (hn1.ext.trans hn2.ext).trans hn3.ext
  have q0 := (hn1.blk.ext hn2.ext).ext hn3.ext; have q1 := hn2.blk.ext hn3.ext; have q2 := hn3.blk
  refine ⟨_, _, _, _, _, q0.loadA0 (by kernel_rfl), _, _, _, _, _, q1.loadA0 (by kernel_rfl), ?_⟩
  refine Ret.at (impl_alike_c (hr.ext X) (gr.ext X) (ht.ext X)) ?_
  rintro v w4 ⟨hv, y4⟩
  subst hv
  have l4 := y4.le
  generalize hal : alk [.str c, .bool b, .ints z] [.str c2, .bool b2, .ints z2] = al
  refine ⟨_, rfl, ifN (fun hno => ?_) (fun hyes => ?_)⟩
  · subst hno
    obtain ⟨W', st', ld', ow', xx', _, _⟩ := agg_end (t := T_impl_Money) (q2.ext y4) (X.trans y4) (by omega) (own_money0 w4 (r2 + 1)) (by kernel_rfl) rfl (by omega) (by omega)
    exact ⟨W', st', _, _, _, _, _, ld', _, [], rfl, ow', List.nodup_nil, xx'⟩
  subst hyes
  obtain ⟨m1, m2, rfl⟩ := alk_parts hal
  have E1 := (intOk_enc (moneyOk_int m1)).1; have E2 := (intOk_enc (moneyOk_int m2)).1
  have B1 := money_bound m1; have B2 := money_bound m2
  have Y := y4.trans (Ext.drew w4)
  have X4 := X.trans Y
  have lY := Y.le
  have k0 := q0.ext Y; have k1 := q1.ext Y; have k2 := q2.ext Y
  have hx : Reps w4.drew [.bool b, .slice ap an ac] (enc (ival [.bool b, .ints z])) := by
    rw [← E1]; exact ⟨rfl, ⟨_, _, _, rfl, ha.ext X4⟩, trivial⟩
  have hy : Reps w4.drew [.bool b2, .slice bp bn bc] (enc (ival [.bool b2, .ints z2])) := by
    rw [← E2]; exact ⟨rfl, ⟨_, _, _, rfl, hb.ext X4⟩, trivial⟩
  generalize ival [.bool b, .ints z] = U at B1 hx
  generalize ival [.bool b2, .ints z2] = V at B2 hy
  refine ⟨_, fun W hW => (k0.ext hW).loadAt 0 rfl (by kernel_rfl) rfl, _, _, _, _, fun W hW => (k0.ext hW).loadAAt 1 [.bool b, .slice ap an ac] rfl (by kernel_rfl) rfl, _, _, _, _, fun W hW => (k1.ext hW).loadAAt 1 [.bool b2, .slice bp bn bc] rfl (by kernel_rfl) rfl, ?_⟩
  refine Ret.at (impl_intAdd_n hx hy B1 B2) ?_
  rintro v w6 ⟨vs6, f6, hv, ho6, nd6, y6⟩
  subst hv
  have Z6 := y6
  obtain ⟨g0, gp, gn, gc, gz, rfl, _, _⟩ := open_Signed ho6.reps (enc_code _)
  have l6 := y6.le
  refine ⟨_, _, _, _, rfl, y6, ?_⟩
  refine Ret.at (impl_moneyOf_c (ht.ext (X4.trans y6)) c ho6 nd6 (by omega)) ?_
  rintro v w7 ⟨vs7, f7, hv, ho7, nd7, y7⟩
  subst hv
  obtain ⟨u0, u1, up, un, uc, uz, rfl, _, _⟩ := open_Money ho7.reps (moneyMk_code _ _)
  obtain ⟨W', st', ld', ow', xx', _, _⟩ := agg_end (t := T_impl_Money) ((k2.ext Z6).ext y7) ((X4.trans Z6).trans y7) (by omega) ho7 (by kernel_rfl) rfl (by omega) (by omega)
  exact ⟨_, _, _, _, _, _, rfl, W', st', _, _, _, _, _, ld', _, f7, rfl, ow', nd7, xx'⟩
theorem spec_MoneyAdd_n {w : World} {xs ys : List Value} {c c2 : ByteArray} {b b2 : Bool} {z z2 : List Int} (h : Reps w xs [.str c, .bool b, .ints z]) (g : Reps w ys [.str c2, .bool b2, .ints z2]) :
    Ret P n_spec_MoneyAdd [.agg ⟨xs⟩, .agg ⟨ys⟩] w fun v w' => ∃ vs f, v = .tuple #[.agg ⟨vs⟩, .bool (mres (alk [.str c, .bool b, .ints z] [.str c2, .bool b2, .ints z2]) c (ival [.bool b, .ints z] + ival [.bool b2, .ints z2])).1] ∧ Owns w' w.heap.size vs (mres (alk [.str c, .bool b, .ints z] [.str c2, .bool b2, .ints z2]) c (ival [.bool b, .ints z] + ival [.bool b2, .ints z2])).2 f ∧ f.Nodup ∧ Ext w w' := by
  have hr := h; have gr := g
  obtain ⟨cur, a0, ap, an, ac, az, rfl, hd, ha⟩ := open_Money h rfl
  cases hd
  obtain ⟨cur2, d0, bp, bn, bc, bz, rfl, hd, hb⟩ := open_Money g rfl
  cases hd
  refine spec_MoneyAdd_ret ?_
  unfold spec_MoneyAdd
  intro r w1 hn1 r1 w2 hn2 r2 w3 hn3
  have e1 := hn1.r_eq; have e2 := hn2.r_eq; have e3 := hn3.r_eq; have s1 := hn1.size; have s2 := hn2.size; have s3 := hn3.size
  have X := (hn1.ext.trans hn2.ext).trans hn3.ext
  have q0 := (hn1.blk.ext hn2.ext).ext hn3.ext; have q1 := hn2.blk.ext hn3.ext; have q2 := hn3.blk
  refine ⟨_, _, _, _, _, q0.loadA0 (by kernel_rfl), _, _, _, _, _, q1.loadA0 (by kernel_rfl), ?_⟩
  refine Ret.at (spec_l09Both_c (hr.ext X) (gr.ext X)) ?_
  rintro v w4 ⟨hv, y4⟩
  subst hv
  have l4 := y4.le
  generalize hal : alk [.str c, .bool b, .ints z] [.str c2, .bool b2, .ints z2] = al
  refine ⟨_, rfl, ifN (fun hno => ?_) (fun hyes => ?_)⟩
  · subst hno
    obtain ⟨W', st', ld', ow', xx', _, _⟩ := agg_end (t := T_impl_Money) (q2.ext y4) (X.trans y4) (by omega) (own_money0 w4 (r2 + 1)) (by kernel_rfl) rfl (by omega) (by omega)
    exact ⟨W', st', _, _, _, _, _, ld', _, [], rfl, ow', List.nodup_nil, xx'⟩
  subst hyes
  obtain ⟨m1, m2, rfl⟩ := alk_parts hal
  have E1 := (intOk_enc (moneyOk_int m1)).1; have E2 := (intOk_enc (moneyOk_int m2)).1
  have B1 := money_bound m1; have B2 := money_bound m2
  have Y := y4.trans (Ext.drew w4)
  have X4 := X.trans Y
  have lY := Y.le
  have k0 := q0.ext Y; have k1 := q1.ext Y; have k2 := q2.ext Y
  have hx : Reps w4.drew [.bool b, .slice ap an ac] (enc (ival [.bool b, .ints z])) := by
    rw [← E1]; exact ⟨rfl, ⟨_, _, _, rfl, ha.ext X4⟩, trivial⟩
  have hy : Reps w4.drew [.bool b2, .slice bp bn bc] (enc (ival [.bool b2, .ints z2])) := by
    rw [← E2]; exact ⟨rfl, ⟨_, _, _, rfl, hb.ext X4⟩, trivial⟩
  generalize ival [.bool b, .ints z] = U at B1 hx
  generalize ival [.bool b2, .ints z2] = V at B2 hy
  refine ⟨_, fun W hW => (k0.ext hW).loadAt 0 rfl (by kernel_rfl) rfl, _, _, _, _, fun W hW => (k0.ext hW).loadAAt 1 [.bool b, .slice ap an ac] rfl (by kernel_rfl) rfl, _, _, _, _, fun W hW => (k1.ext hW).loadAAt 1 [.bool b2, .slice bp bn bc] rfl (by kernel_rfl) rfl, ?_⟩
  refine Ret.at (spec_IntAdd_n hx hy B1 B2) ?_
  rintro v w6 ⟨vs6, f6, hv, ho6, nd6, y6⟩
  subst hv
  have Z6 := y6
  obtain ⟨g0, gp, gn, gc, gz, rfl, _, _⟩ := open_Signed ho6.reps (enc_code _)
  have l6 := y6.le
  refine ⟨_, _, _, _, rfl, y6, ?_⟩
  refine Ret.at (spec_l09Make_c c ho6 nd6 (by omega)) ?_
  rintro v w7 ⟨vs7, f7, hv, ho7, nd7, y7⟩
  subst hv
  obtain ⟨u0, u1, up, un, uc, uz, rfl, _, _⟩ := open_Money ho7.reps (moneyMk_code _ _)
  obtain ⟨W', st', ld', ow', xx', _, _⟩ := agg_end (t := T_impl_Money) ((k2.ext Z6).ext y7) ((X4.trans Z6).trans y7) (by omega) ho7 (by kernel_rfl) rfl (by omega) (by omega)
  exact ⟨_, _, _, _, _, _, rfl, W', st', _, _, _, _, _, ld', _, f7, rfl, ow', nd7, xx'⟩
end Go.Proofs.YteakifedfnnmeaaDoor

namespace Go.Proofs.YteakifedfnnmeaaDoor
open Go Go.Proofs.YteakifedfnnmeaaDoor.Sx
set_option linter.unusedVariables false
set_option linter.unusedSimpArgs false
def addM : List D0 → List D0 → Bool × List D0
  | [.str c, .bool b, .ints z], [.str c2, .bool b2, .ints z2] => mres (alk [.str c, .bool b, .ints z] [.str c2, .bool b2, .ints z2]) c (ival [.bool b, .ints z] + ival [.bool b2, .ints z2])
  | _, _ => (false, zeroMoney)
def rowAt (l : List (List D0)) (name : ByteArray) : List D0 := l.getD (acctAt l name).toNat []
def postL (l : List (List D0)) (name : ByteArray) (m : List D0) : List (List D0) := l.set (acctAt l name).toNat ((rowAt l name).take 1 ++ (addM ((rowAt l name).drop 1) m).2)
def postOk (l : List (List D0)) (name : ByteArray) (m : List D0) : Bool := bookOk l && (decide (0 ≤ acctAt l name) && (addM ((rowAt l name).drop 1) m).1)
def postT (l : List (List D0)) (name : ByteArray) (m : List D0) : List (List D0) := if postOk l name m then postL l name m else []
theorem addM_code (x m : List D0) : (addM x m).2.map D0.code = [.str, .bool, .ints] := by
  unfold addM
  split
  · exact mres_code _ _ _
  · rfl
theorem addM_cnt {x m : List D0} (h : (addM x m).1 = true) : cnts (addM x m).2 ≤ 59 := by
  unfold addM at h ⊢
  split at h
  · unfold mres at h ⊢
    split at h
    · rename_i hal
      rw [if_pos hal]
      simp only at h ⊢
      unfold moneyMk
      rw [if_pos h]
      have hm := h
      simp only [enc, moneyOk, Bool.and_eq_true] at hm
      obtain ⟨_, b', z', he, _, hl⟩ := intOk_enc hm.1.2
      simp only [List.cons.injEq, D0.bool.injEq, D0.ints.injEq, and_true] at he
      obtain ⟨_, he⟩ := he
      rw [enc, he]
      show (1 : Int) + (1 + ((z'.length : Nat) + 0)) ≤ 59
      omega
    · cases h
  · cases h
theorem acct_in {l : List (List D0)} {name : ByteArray} (h : 0 ≤ acctAt l name) : ∃ j, ∃ hj : j < l.length, acctAt l name = j ∧ rowAt l name = l[j] := by
  rcases firstI_spec (fun x => decide (strOf x = name)) l with ⟨h1, _⟩ | ⟨j, hj, h1, _⟩
  · unfold acctAt at h; omega
  · refine ⟨j, hj, h1, ?_⟩
    unfold rowAt acctAt
    rw [h1, Int.toNat_natCast, getD_row hj]
theorem postL_code {l : List (List D0)} (hc : ∀ x ∈ l, x.map D0.code = [.str, .str, .bool, .ints]) {name : ByteArray} (m : List D0) (h0 : 0 ≤ acctAt l name) : ∀ x ∈ postL l name m, x.map D0.code = [.str, .str, .bool, .ints] := fun x hx => by
  obtain ⟨j, hj, h1, h2⟩ := acct_in h0
  rcases List.mem_or_eq_of_mem_set hx with h | h
  · exact hc x h
  · rw [h, h2, List.map_append, addM_code, List.map_take, hc _ (List.getElem_mem hj)]
    rfl
theorem postT_code {l : List (List D0)} (hc : ∀ x ∈ l, x.map D0.code = [.str, .str, .bool, .ints]) (name : ByteArray) (m : List D0) : ∀ x ∈ postT l name m, x.map D0.code = [.str, .str, .bool, .ints] := by
  unfold postT
  split
  · rename_i h
    simp only [postOk, Bool.and_eq_true, decide_eq_true_eq] at h
    exact postL_code hc m h.2.1
  · intro x hx; simp at hx
theorem cnts_app : ∀ (a b : List D0), cnts (a ++ b) = cnts a + cnts b
  | [], b => by simp [cnts]
  | x :: a, b => by
    have := cnts_app a b
    simp only [List.cons_append, cnts]
    omega
theorem postT_cnt {l : List (List D0)} (hc : ∀ x ∈ l, x.map D0.code = [.str, .str, .bool, .ints]) (name : ByteArray) (m : List D0) : cntL (postT l name m) ≤ 1000000000 := by
  unfold postT
  split
  · rename_i h
    simp only [postOk, Bool.and_eq_true, decide_eq_true_eq] at h
    obtain ⟨h1, h2, h3⟩ := h
    obtain ⟨j, hj, h4, h5⟩ := acct_in h2
    have hl := bookOk_len h1
    have : cntL (postL l name m) ≤ ((postL l name m).length : Nat) * 60 := cntL_maxA (by decide) _ (fun x hx => by
      rcases List.mem_or_eq_of_mem_set hx with h | h
      · exact leg_cnt (hc x h) (bookOk_leg h1 x h)
      · rw [h, cnts_app]
        have e1 := addM_cnt h3
        obtain ⟨a, es, he, _⟩ := code_str (hc _ (List.getElem_mem hj))
        rw [h5, he] at e1 ⊢
        show (1 : Int) + 0 + _ ≤ 60
        omega)
    have hl2 : (postL l name m).length = l.length := by simp [postL]
    omega
  · decide
/-- what lies at a place of a book, and what is put there -/
theorem acct_row {w : World} {B b n c j : Nat} {l : List (List D0)} {f : List Nat} {e : TypeId} (ho : OwnRows w B e 4 (some ⟨b, 0, none⟩) n c l f) (hj : j < l.length) (hcj : l[j].map D0.code = [.str, .str, .bool, .ints]) (ht : aggT P T_impl_Money 3 = true) :
    ∃ (m0 : ByteArray) (m1 : Bool) (kp : Option Addr) (kn kc : Nat) (mz : List Int), B ≤ b ∧ b < w.heap.size ∧ b ∈ f ∧ l[j].drop 1 = [.str m0, .bool m1, .ints mz] ∧
      (∀ W, Ext w W → Loads P T_impl_Money (((⟨b, 0, none⟩ : Addr).add (j * 4)).add 1) (.agg #[.string m0, .bool m1, .slice kp kn kc]) W) ∧
      Reps w [.string m0, .bool m1, .slice kp kn kc] [.str m0, .bool m1, .ints mz] ∧
      ∀ (d : List D0) (W8 : World) (s8 : ByteArray) (b8 : Bool) (p8 : Option Addr) (n8 c8 : Nat) (f8 : List Nat), Ext w W8 → Owns W8 B [.string s8, .bool b8, .slice p8 n8 c8] d f8 → f8.Nodup → (∀ q ∈ f8, q ∉ f) →
        ∃ w9 f9, Stores P T_impl_Money (((⟨b, 0, none⟩ : Addr).add (j * 4)).add 1) (.agg #[.string s8, .bool b8, .slice p8 n8 c8]) W8 w9 ∧ OwnRows w9 B e 4 (some ⟨b, 0, none⟩) n c (l.set j (l[j].take 1 ++ d)) f9 ∧ Chg [b] W8 w9 ∧ w9.heap.size = W8.heap.size ∧ (∀ q ∈ f9, q ∈ f ∨ q ∈ f8) := by
  obtain ⟨b', xs, cs5, zs, hpb, hbB, hbf, hxl, hcl, hblk, hrep, hput⟩ := ho.put (List.getElem?_eq_getElem hj)
  simp only [Option.some.injEq, Addr.mk.injEq, and_true] at hpb
  obtain rfl := hpb
  obtain ⟨k0, m0, m1, kp, kn, kc, kz, rfl, hkd, hki⟩ := open_Acct hrep hcj
  rw [hkd]
  refine ⟨m0, m1, kp, kn, kc, kz, hbB, hblk.lt, hbf, rfl, fun W hW => (hblk.ext hW).loadAAt (j * 4 + 1) [.string m0, .bool m1, .slice kp kn kc] (by rw [addr_add, addr_add, Nat.zero_add]) ht (by rw [← hxl, List.append_assoc, List.drop_length_add_append]; rfl), ⟨rfl, rfl, ⟨_, _, _, rfl, hki⟩, trivial⟩, ?_⟩
  intro d W8 s8 b8 p8 n8 c8 f8 hx h8 hn8 hf8
  have hblk8 := hblk.ext hx
  obtain ⟨w9, st9, hb9, ch9, sz9⟩ := hblk8.storeA (P := P) (t := T_impl_Money) (k := j * 4 + 1) (xs := [.string s8, .bool b8, .slice p8 n8 c8]) ht (by simp only [List.length_append, List.length_cons, List.length_nil]; omega) (by simp [Value.oneCell'])
  have hnew : (xs ++ [Value.string k0, .string m0, .bool m1, .slice kp kn kc] ++ zs).take (j * 4 + 1) ++ [Value.string s8, .bool b8, .slice p8 n8 c8] ++ (xs ++ [Value.string k0, .string m0, .bool m1, .slice kp kn kc] ++ zs).drop (j * 4 + 1 + [Value.string s8, .bool b8, .slice p8 n8 c8].length) = xs ++ [Value.string k0, .string s8, .bool b8, .slice p8 n8 c8] ++ zs := by
    rw [← hxl, List.append_assoc xs, List.take_length_add_append, Nat.add_assoc, List.drop_length_add_append]
    simp
  rw [hnew] at hb9
  have hbl := hblk.lt
  have ho9 : Owns w9 B [.string k0, .string s8, .bool b8, .slice p8 n8 c8] (.str k0 :: d) f8 := Owns.append (Owns.str _ _ k0) (h8.chg ch9 (fun k hk hm => by
    simp at hm; subst hm; exact hf8 _ hk hbf))
  obtain ⟨f9, hor9, hf9⟩ := hput w9 _ _ f8 (hx.toChg.trans ch9) rfl hb9 ho9 hn8 hf8
  refine ⟨w9, f9, ?_, hor9, ch9, sz9, hf9⟩
  rw [addr_add] at st9
  rw [addr_add, addr_add, Nat.zero_add]
  rw [Nat.zero_add] at st9
  exact st9
end Go.Proofs.YteakifedfnnmeaaDoor

namespace Go.Proofs.YteakifedfnnmeaaDoor
open Go
abbrev muLink : Go.Conc.Locks.MuLink := { lock := 72, unlock := 73, ilock := 84, iunlock := 85, lockSlow := 98, unlockSlow := 101, disable := 94, enable := 96, acquire := 97, relMerge := 99, cas32 := 95, add32 := 100, tMutex := 83, tIMutex := 81, tPMutex := 111, tPIMutex := 117, tPI32 := 119, tUP := 121, tNoCopy := 78, tU32 := 79 }
theorem muLib : Go.Conc.Locks.MuLib Tryd.prog muLink :=
  ⟨Tryd.func72, Tryd.func73, Tryd.func84, Tryd.func85, Tryd.func94, Tryd.func96, Tryd.func97, Tryd.func99, Tryd.func95, Tryd.func100, Tryd.underlying81, Tryd.runUnderlying81, Tryd.sizeOf81, Tryd.isAgg81, Tryd.zeroValue81, Tryd.underlying83, Tryd.runUnderlying83, Tryd.sizeOf83, Tryd.isAgg83, Tryd.zeroValue83, Tryd.underlying111, Tryd.runUnderlying111, Tryd.sizeOf111, Tryd.isAgg111, Tryd.zeroValue111, Tryd.underlying117, Tryd.runUnderlying117, Tryd.sizeOf117, Tryd.isAgg117, Tryd.zeroValue117, Tryd.underlying119, Tryd.runUnderlying119, Tryd.sizeOf119, Tryd.isAgg119, Tryd.zeroValue119, Tryd.underlying121, Tryd.runUnderlying121, Tryd.sizeOf121, Tryd.isAgg121, Tryd.zeroValue121, Tryd.underlying78, Tryd.runUnderlying78, Tryd.sizeOf78, Tryd.isAgg78, Tryd.zeroValue78, Tryd.underlying21, Tryd.runUnderlying21, Tryd.sizeOf21, Tryd.isAgg21, Tryd.zeroValue21, (by kernel_rfl)⟩
end Go.Proofs.YteakifedfnnmeaaDoor

namespace Go.Proofs.YteakifedfnnmeaaDoor
open Go Go.Proofs Go.Proofs.YteakifedfnnmeaaDoor.Sx
set_option linter.unusedVariables false
set_option linter.unusedSimpArgs false
theorem blk_setCellC {w : World} {b k : Nat} {e : TypeId} {cs : List Value} (h : Blk w b e cs) (v : Value) : Blk (w.setCell ⟨b, k, none⟩ v) b e (cs.set k v) ∧ Chg [b] w (w.setCell ⟨b, k, none⟩ v) := by
  have h' : w.heap[b]? = some (.cells ⟨cs⟩ e (0, 0)) := h
  refine ⟨?_, rfl, rfl, rfl, by simp [World.setCell], fun j hj hn => ?_⟩
  rotate_left
  · show (w.heap.modify b _)[j]? = _
    rw [Array.getElem?_modify, if_neg (fun e => hn (by rw [e]; simp))]
  show (w.heap.modify b _)[b]? = _
  rw [Array.getElem?_modify, if_pos rfl, h']
  simp
theorem blk_frozenC {w : World} {b k : Nat} {e : TypeId} {cs : List Value} (h : Blk w b e cs) : w.frozen? ⟨b, k, none⟩ = false := by
  have h' : w.heap[b]? = some (.cells ⟨cs⟩ e (0, 0)) := h
  simp [World.frozen?, h']
set_option maxHeartbeats 1000000 in
theorem change_BookPost {w : World} {r n c : Nat} {e : TypeId} {p : Option Addr} {c0 c1 : Value} {Q : Bool → Option Addr → Nat → Nat → World → Prop} (hb : Blk w r e [.int .i32 0, .int .u32 0, .slice p n c])
    (hcall : ∀ w1, Blk w1 r e [.int .i32 1, .int .u32 0, .slice p n c] → Chg [r] w w1 → w1.heap.size = w.heap.size → Calls Tryd.prog 34 #[.pointer (some ⟨r, 2, none⟩), c0, c1] w1 fun ed w2 => ∃ ok p' n' c', ed = .returned (.bool ok) ∧ Q ok p' n' c' w2 ∧ Blk w2 r e [.int .i32 1, .int .u32 0, .slice p' n' c']) :
    Calls Tryd.prog 48 #[.pointer (some ⟨r, 0, none⟩), .func (.func 34) #[] #[c0, c1]] w fun ed w' => ∃ v, ed = .returned v ∧ ∃ ok p' n' c' w2, v = .bool ok ∧ Q ok p' n' c' w2 ∧ Chg [r] w2 w' ∧ w'.heap.size = w2.heap.size ∧ Blk w' r e [.int .i32 0, .int .u32 0, .slice p' n' c'] := by
  obtain ⟨hb1, ch1⟩ := blk_setCellC (k := 0) hb (.int .i32 1)
  have hc0 : w.cell? ⟨r, 0, none⟩ = some (.int .i32 0) := by rw [hb.cell]; rfl
  have hcl := hcall (w.setCell ⟨r, 0, none⟩ (.int .i32 1)) hb1 ch1 (by simp [World.setCell])
  go_enter_defers Tryd.func48, Tryd.ntmps48
  go_wp2_with (first | (go_at_call 72; refine (Go.MuLone.lock_free muLib ⟨r, 0, none⟩ _ hc0 (blk_frozenC hb)).mono ?_; rintro e w' ⟨rfl, rfl⟩) | (go_at_call 34; refine hcl.mono ?_; rintro e w2 ⟨ok, p', n', c', rfl, hQ, hb2⟩))
  refine leaves_cons (f := 73) (args := #[.pointer (some ⟨r, 0, none⟩)]) (by simp) (by simp [go_sem]) ?_
  refine (Go.MuLone.unlock_deferred muLib ⟨r, 0, none⟩ .returning _ (by rw [hb2.cell]; rfl) (blk_frozenC hb2)).mono ?_
  rintro e u' w'' ⟨rfl, rfl, rfl⟩
  obtain ⟨hb3, ch3⟩ := blk_setCellC (k := 0) hb2 (.int .i32 0)
  exact ⟨_, results_tmp rfl _ _ _, _, rfl, ok, p', n', c', w2, rfl, hQ, ch3, by simp [World.setCell], hb3⟩
end Go.Proofs.YteakifedfnnmeaaDoor

namespace Go.Proofs.YteakifedfnnmeaaDoor.Sx
open Go Go.RowKit
set_option linter.unusedVariables false
set_option linter.unusedSimpArgs false
theorem Fl.trans {os : List Obj} {ss : List (Option Nat)} {w : World} {s1 : List (Option Nat)} {w1 : World} {s2 : List (Option Nat)} {w2 : World} (h : Fl os ss w s1 w1) (g : Fl os s1 w1 s2 w2) : Fl os ss w s2 w2 := by
  induction h with
  | refl => exact g
  | step h1 h2 _ ih => exact .step h1 h2 (ih g)
theorem Fl.old {os : List Obj} {ss : List (Option Nat)} {w : World} {s1 : List (Option Nat)} {w1 : World} (h : Fl os ss w s1 w1) {k r : Nat} (hk : s1[k]? = some (some r)) : ss[k]? = some (some r) ∨ w.heap.size ≤ r := by
  induction h with
  | refl => exact .inl hk
  | step h1 h2 h3 ih =>
    rename_i ss w k' o s' w'
    have hs : (w.alloc o).heap.size = w.heap.size + 1 := by simp
    rcases ih hk with h | h
    · by_cases e : k' = k
      · subst e
        have hl : k' < ss.length := by
          rcases Nat.lt_or_ge k' ss.length with h | h
          · exact h
          · rw [List.getElem?_eq_none h] at h1; cases h1
        rw [List.getElem?_set_self hl] at h
        simp at h
        exact .inr (by omega)
      · rw [List.getElem?_set_ne e] at h
        exact .inl h
    · exact .inr (by omega)
def FlS (os : List Obj) (w0 : World) (ss : List (Option Nat)) (w : World) : Prop :=
  Ext w0 w ∧ (∀ (k r : Nat), ss[k]? = some (some r) → w0.heap.size ≤ r ∧ r < w.heap.size ∧ w.heap[r]? = os[k]?) ∧ (∀ (k l r : Nat), ss[k]? = some (some r) → ss[l]? = some (some r) → k = l)
theorem FlS.ext {os : List Obj} {w0 w w' : World} {ss : List (Option Nat)} (h : FlS os w0 ss w) (y : Ext w w') : FlS os w0 ss w' :=
  ⟨h.1.trans y, fun k r hk => by
    obtain ⟨a, b, c⟩ := h.2.1 k r hk
    exact ⟨a, Nat.lt_of_lt_of_le b y.le, (y.block r b).trans c⟩, h.2.2⟩
theorem FlS.step {os : List Obj} {w0 w w' : World} {ss ss' : List (Option Nat)} (h : FlS os w0 ss w) (f : Fl os ss w ss' w') : FlS os w0 ss' w' := by
  induction f with
  | refl => exact h
  | step h1 h2 h3 ih =>
    rename_i ss w k' o s' w'
    refine ih ?_
    have y : Ext w (w.alloc o) := (Below.refl _ _).alloc (Nat.le_refl _) _
    have hs : (w.alloc o).heap.size = w.heap.size + 1 := by simp
    have hg : (w.alloc o).heap[w.heap.size]? = some o := heap_alloc_new w _
    have hl : k' < ss.length := by
      rcases Nat.lt_or_ge k' ss.length with h | h
      · exact h
      · rw [List.getElem?_eq_none h] at h1; cases h1
    have hx := h.ext y
    have hle := h.1.le
    refine ⟨hx.1, fun k r hk => ?_, fun k l r hk hl' => ?_⟩
    · by_cases e : k' = k
      · subst e
        rw [List.getElem?_set_self hl] at hk
        simp at hk
        subst hk
        exact ⟨hle, by omega, hg.trans h2.symm⟩
      · rw [List.getElem?_set_ne e] at hk
        exact hx.2.1 k r hk
    · by_cases e : k' = k
      · by_cases e2 : k' = l
        · omega
        · subst e
          rw [List.getElem?_set_self hl] at hk
          simp at hk
          subst hk
          rw [List.getElem?_set_ne e2] at hl'
          have := (h.2.1 l _ hl').2.1
          omega
      · rw [List.getElem?_set_ne e] at hk
        by_cases e2 : k' = l
        · subst e2
          rw [List.getElem?_set_self hl] at hl'
          simp at hl'
          subst hl'
          have := (h.2.1 k _ hk).2.1
          omega
        · rw [List.getElem?_set_ne e2] at hl'
          exact h.2.2 k l r hk hl'
theorem FlS.first {os : List Obj} {w0 w : World} {ss0 ss : List (Option Nat)} (f : Fl os ss0 w0 ss w) (h : ss0.all Option.isNone = true) : FlS os w0 ss w := by
  refine FlS.step ⟨Ext.refl _, fun k r hk => ?_, fun k l r hk _ => ?_⟩ f <;>
  · have hm := List.mem_of_getElem? hk
    have := List.all_eq_true.1 h _ hm
    simp at this
theorem FlS.blk {os : List Obj} {w0 w : World} {ss : List (Option Nat)} {k r : Nat} {cs : List Value} {e : TypeId} (h : FlS os w0 ss w) (hk : ss[k]? = some (some r)) (ho : os[k]? = some (.cells ⟨cs⟩ e (0, 0))) : w0.heap.size ≤ r ∧ r < w.heap.size ∧ Blk w r e cs := by
  obtain ⟨a, b, c⟩ := h.2.1 k r hk
  exact ⟨a, b, c.trans ho⟩
theorem FlS.ne {os : List Obj} {w0 w : World} {ss : List (Option Nat)} {k l r s : Nat} (h : FlS os w0 ss w) (hk : ss[k]? = some (some r)) (hl : ss[l]? = some (some s)) (e : k ≠ l) : r ≠ s := fun hh => e (h.2.2 k l r hk (hh ▸ hl))
theorem FlS.apart {os : List Obj} {w0 wc we w' : World} {ss ss' : List (Option Nat)} {k r : Nat} (h : FlS os w0 ss wc) (f : Fl os ss we ss' w') (hk : ss'[k]? = some (some r)) : r < wc.heap.size ∨ we.heap.size ≤ r := by
  rcases f.old hk with a | a
  · exact .inl (h.2.1 k r a).2.1
  · exact .inr a
end Go.Proofs.YteakifedfnnmeaaDoor.Sx

namespace Go.Proofs.YteakifedfnnmeaaDoor
open Go Go.Proofs.YteakifedfnnmeaaDoor.Sx
set_option linter.unusedVariables false
set_option linter.unusedSimpArgs false
set_option maxHeartbeats 1000000 in
theorem impl_BookPost_1_c {w0 w : World} {B r n c rj rm j : Nat} {e : TypeId} {p : Option Addr} {l : List (List D0)} {f : List Nat} {d0 : ByteArray} {d1 : Bool} {dp : Option Addr} {dn dc : Nat} {dz : List Int} (ht : Tab w0) (hx0 : Ext w0 w)
    (hb : Blk w r e [.int .i32 1, .int .u32 0, .slice p n c]) (ho : OwnRows w B T_impl_Acct 4 p n c l f) (hrf : r ∉ f) (hB : B ≤ w.heap.size) (hc : ∀ x ∈ l, x.map D0.code = [.str, .str, .bool, .ints]) (hn : n ≤ 1000) (hj : j < l.length)
    (hjb : Blk w rj T_int [.int .i64 (j : Int)]) (hmb : Blk w rm T_impl_Money [.string d0, .bool d1, .slice dp dn dc]) (g : Reps w [.string d0, .bool d1, .slice dp dn dc] [.str d0, .bool d1, .ints dz]) :
    Ret P n_impl_BookPost_1 [.pointer (some ⟨r, 2, none⟩), .pointer (some ⟨rj, 0, none⟩), .pointer (some ⟨rm, 0, none⟩)] w fun v w2 => ∃ f', v = .bool (addM (l[j].drop 1) [.str d0, .bool d1, .ints dz]).1 ∧ OwnRows w2 B T_impl_Acct 4 p n c (l.set j (l[j].take 1 ++ (addM (l[j].drop 1) [.str d0, .bool d1, .ints dz]).2)) f' ∧ (∀ q ∈ f', q ∈ f ∨ w.heap.size ≤ q) ∧ Blk w2 r e [.int .i32 1, .int .u32 0, .slice p n c] ∧ Chg (p.map (·.block)).toList w w2 := by
  have hln := ho.1
  obtain ⟨b, _, _, _, hpb, _⟩ := ho.put (List.getElem?_eq_getElem hj)
  subst hpb
  obtain ⟨m0, m1, kp, kn, kc, mz, hbB, hbl, hbf, hrow, hld, hrep, hput⟩ := acct_row ho hj (hc _ (List.getElem_mem hj)) (by kernel_rfl)
  have hadd : addM (l[j].drop 1) [.str d0, .bool d1, .ints dz] = mres (alk [.str m0, .bool m1, .ints mz] [.str d0, .bool d1, .ints dz]) m0 (ival [.bool m1, .ints mz] + ival [.bool d1, .ints dz]) := by rw [hrow]; rfl
  rw [hadd]
  have d := Ext.drew w
  refine impl_BookPost_1_ret ?_
  unfold impl_BookPost_1
  refine ⟨_, _, _, fun V hV => (hb.ext (d.trans hV)).loadAt 2 rfl (by kernel_rfl) rfl, _, fun V hV => (hjb.ext (d.trans hV)).loadAt 0 rfl (by kernel_rfl) rfl, ⟨by omega, by omega⟩, _, _, _, _, _, fun V hV => hld V (d.trans hV), _, _, _, _, _, fun V hV => (hmb.ext (d.trans hV)).loadA0 (by kernel_rfl), ?_⟩
  intro ss w4 F1
  have S1 := FlS.first F1 rfl
  have Y4 := d.trans F1.ext
  refine Ret.at (impl_MoneyAdd_n (hrep.ext Y4) (g.ext Y4) (ht.ext (hx0.trans Y4))) ?_
  rintro v w5 ⟨vs, fx, hv, hox, ndx, y5⟩
  subst hv
  obtain ⟨q0, q1, qp, qn, qc, qz, rfl, _, _⟩ := open_Money hox.reps (mres_code _ _ _)
  refine ⟨_, _, _, _, _, _, rfl, ?_⟩
  intro ss1 w6 rf F2 G
  have S2 := (S1.ext y5).step F2
  obtain ⟨hrf1, hrf2, hbk⟩ := S2.blk G rfl
  have hap := FlS.apart S1 F2 G
  have ld := d.le; have lF1 := F1.ext.le; have ly5 := y5.le
  obtain ⟨w7, st7, b7, ch7, sz7⟩ := hbk.storeA0 (P := P) (t := T_impl_Money) (xs := [.string q0, .bool q1, .slice qp qn qc]) (by kernel_rfl) rfl (by simp [Value.oneCell'])
  have hox7 := (hox.ext F2.ext).chg ch7 (fun k hk hm => by have := hox.lt k hk; simp at hm; omega)
  have Y7 : Ext w w7 := ((Y4.trans y5).trans F2.ext).chg ch7 (by simp; omega)
  have D7 := Ext.drew w7
  have Y7' := Y7.trans D7
  refine ⟨w7, st7, _, _, _, fun V hV => (hb.ext (Y7'.trans hV)).loadAt 2 rfl (by kernel_rfl) rfl, _, fun V hV => (hjb.ext (Y7'.trans hV)).loadAt 0 rfl (by kernel_rfl) rfl, _, _, _, _, _, fun V hV => (b7.ext (D7.trans hV)).loadA0 (by kernel_rfl), ⟨by omega, by omega⟩, ?_⟩
  obtain ⟨w9, f9, st9, hor9, ch9, sz9, hf9⟩ := hput _ w7.drew q0 q1 qp qn qc fx Y7' ((hox7.ext D7).mono (by omega)) ndx (fun q hq hm => by have := (hox.lt q hq).1; have := (ho.lt q hm).2; omega)
  exact ⟨w9, st9, f9, rfl, hor9, fun q hq => by
    rcases hf9 q hq with h | h
    · exact .inl h
    · exact .inr (by have := (hox.lt q h).1; omega), (hb.ext Y7').chg ch9 (by simp; exact fun h => hrf (h ▸ hbf)), Y7'.toChg.trans ch9⟩
set_option maxHeartbeats 1000000 in
theorem impl_changed_BookPost_c {w : World} {n c rj rm j : Nat} {p : Option Addr} {l : List (List D0)} {d0 : ByteArray} {d1 : Bool} {dp : Option Addr} {dn dc : Nat} {dz : List Int} (ht : Tab w) (h : RowsR w 4 p n c l) (hc : ∀ x ∈ l, x.map D0.code = [.str, .str, .bool, .ints]) (hn : n ≤ 1000) (hbk : ∀ x ∈ l, bulks x ≤ 1048576) (hj : j < l.length)
    (hjb : Blk w rj T_int [.int .i64 (j : Int)]) (hmb : Blk w rm T_impl_Money [.string d0, .bool d1, .slice dp dn dc]) (g : Reps w [.string d0, .bool d1, .slice dp dn dc] [.str d0, .bool d1, .ints dz]) :
    Ret P n_impl_changed [.agg ⟨[.slice p n c]⟩, .func (.func 34) #[] #[.pointer (some ⟨rj, 0, none⟩), .pointer (some ⟨rm, 0, none⟩)]] w fun v w' => ∃ p' n' c' f, v = .tuple #[.agg ⟨[.slice p' n' c']⟩, .bool (addM (l[j].drop 1) [.str d0, .bool d1, .ints dz]).1] ∧ OwnRows w' w.heap.size T_impl_Acct 4 p' n' c' (if (addM (l[j].drop 1) [.str d0, .bool d1, .ints dz]).1 then (l.set j (l[j].take 1 ++ (addM (l[j].drop 1) [.str d0, .bool d1, .ints dz]).2)) else []) f ∧ Ext w w' := by
  have hln := h.1
  refine impl_changed_ret ?_
  unfold impl_changed
  intro r w1 hn1 r1 w2 hn2
  have e1 := hn1.r_eq; have z1 := hn1.size; have e2 := hn2.r_eq; have z2 := hn2.size
  have X2 := hn1.ext.trans hn2.ext
  refine ⟨_, _, _, (hn1.blk.ext hn2.ext).loadA0 (by kernel_rfl), ?_⟩
  refine Ret.at (impl_bookCopy_c (h.ext X2) hc (by omega) hbk) ?_
  rintro v w3 ⟨p3, c3, f3, hv, ho3, y3⟩
  subst hv
  refine ⟨_, _, _, rfl, ?_⟩
  intro r2 w4 hn4
  have e4 := hn4.r_eq; have z4 := hn4.size
  obtain ⟨w5, st5, b5, y5⟩ := hn4.fill (P := P) (t := T_impl_guarded) (xs := [.int .i32 0, .int .u32 0, .slice p3 n c3]) (by simp [Value.oneCell']) (by kernel_rfl) rfl
  have l3 := y3.le; have l5 := y5.le
  refine ⟨w5, st5, ?_⟩
  have X5 := (X2.trans y3).trans y5
  have hr23 : r2 ∉ f3 := fun hm => by have := (ho3.lt r2 hm).2; omega
  have lt5 := b5.lt
  refine Ret.at (P := P) (change_BookPost (Q := fun ok p' n' c' W => ok = (addM (l[j].drop 1) [.str d0, .bool d1, .ints dz]).1 ∧ ∃ f', OwnRows W w.heap.size T_impl_Acct 4 p' n' c' (l.set j (l[j].take 1 ++ (addM (l[j].drop 1) [.str d0, .bool d1, .ints dz]).2)) f' ∧ r2 ∉ f' ∧ r1 ∉ f' ∧ Ext w W ∧ Blk W r1 T_impl_Book [.slice none 0 0]) b5 ?_) ?_
  · intro w6 b6 ch6 sz6
    have X6 : Ext w w6 := X5.chg ch6 (by simp; omega)
    refine Calls.mono (impl_BookPost_1_c (w0 := w) (f := f3) (B := w.heap.size) ht X6 b6 (((ho3.ext y5).mono (by omega)).chg ch6 (fun q hq hm => by simp at hm; subst hm; exact hr23 hq)) hr23 (by omega) hc hn hj (hjb.ext X6) (hmb.ext X6) (g.ext X6)) ?_
    rintro ed w7 ⟨v, hv, f', hvb, hor, hff, hb7, C7⟩
    subst hv
    subst hvb
    have hp3 : ∀ q ∈ (p3.map (·.block)).toList, w2.heap.size ≤ q := fun q hq => by
      obtain ⟨_, _, _, _, _, hf, _⟩ := id ho3
      exact (ho3.lt q (by rw [hf]; exact List.mem_append_left _ hq)).1
    refine ⟨_, p3, n, c3, rfl, ⟨rfl, f', hor, fun hm => ?_, fun hm => ?_, X6.chg C7 (fun q hq => by have := hp3 q hq; omega), ?_⟩, hb7⟩
    · rcases hff r2 hm with h | h
      · exact hr23 h
      · omega
    · rcases hff r1 hm with h | h
      · have := (ho3.lt r1 h).1; omega
      · omega
    · refine ((((hn2.blk.ext y3).ext y5).chg ch6 (by simp; omega))).chg C7 (fun hm => ?_)
      have := hp3 r1 hm; omega
  rintro v w7 ⟨ok, p', n', c', w8, hv, ⟨hok, f', hor, hrf, hr1f, hx8, hb18⟩, ch7, sz7, b7⟩
  subst hv
  subst hok
  have X7 : Ext w w7 := hx8.chg ch7 (by simp; omega)
  have hor7 := hor.chg ch7 (fun q hq hm => by simp at hm; subst hm; exact hrf hq)
  have hb17 := hb18.chg ch7 (by simp; omega)
  refine ⟨_, rfl, ifN (fun hno => ?_) (fun hyes => ?_)⟩
  · obtain ⟨w12, st12, b12, ch12, sz12⟩ := hb17.storeA0 (P := P) (t := T_impl_Book) (xs := [.slice none 0 0]) (by kernel_rfl) rfl (by simp [Value.oneCell'])
    refine ⟨w12, st12, _, _, _, b12.loadA0 (by kernel_rfl), none, 0, 0, [], by rw [hno], ?_, X7.chg ch12 (by simp; omega)⟩
    rw [hno]
    exact rows0 _ _ _ _
  · have hl1 := hb17.lt
    obtain ⟨w12, st12, b12, ch12, sz12⟩ := hb17.storeA0 (P := P) (t := T_impl_Book) (xs := [.slice p' n' c']) (by kernel_rfl) rfl (by simp [Value.oneCell'])
    refine ⟨_, _, _, b7.loadAAt 2 [.slice p' n' c'] rfl (by kernel_rfl) rfl, w12, st12, _, _, _, b12.loadA0 (by kernel_rfl), p', n', c', f', by rw [hyes], ?_, X7.chg ch12 (by simp; omega)⟩
    rw [hyes, if_pos rfl]
    exact hor7.chg ch12 (fun q hq hm => by simp at hm; subst hm; exact hr1f hq)
theorem postT_no {l : List (List D0)} {name : ByteArray} {m : List D0} (h : postOk l name m = false) : postT l name m = [] := by unfold postT; rw [h]; rfl
theorem postT_yes {l : List (List D0)} {name : ByteArray} {m : List D0} {j : Nat} (h1 : bookOk l = true) (hj : j < l.length) (h2 : acctAt l name = j) (h3 : rowAt l name = l[j]) : postOk l name m = (addM (l[j].drop 1) m).1 ∧ postT l name m = if (addM (l[j].drop 1) m).1 then l.set j (l[j].take 1 ++ (addM (l[j].drop 1) m).2) else [] := by
  have : postOk l name m = (addM (l[j].drop 1) m).1 := by unfold postOk; rw [h1, h3, decide_eq_true (by omega)]; rfl
  refine ⟨this, ?_⟩
  unfold postT postL
  rw [this, h3, h2, Int.toNat_natCast]
set_option maxHeartbeats 1000000 in
theorem impl_BookPost_o {w : World} {p : Option Addr} {n c : Nat} {l : List (List D0)} (h : RowsR w 4 p n c l) (hc : ∀ x ∈ l, x.map D0.code = [.str, .str, .bool, .ints]) (hn : n ≤ 1048576) (hb : ∀ x ∈ l, bulks x ≤ 1048576) (name : ByteArray) {ys : List Value} {dm : List D0} (g : Reps w ys dm) (gc : dm.map D0.code = [.str, .bool, .ints]) (gb : bulks dm ≤ 100000000) (ht : Tab w) :
    Ret P n_impl_BookPost [.agg ⟨[.slice p n c]⟩, .string name, .agg ⟨ys⟩] w fun v w' => ∃ p' n' c' f, v = .tuple #[.agg ⟨[.slice p' n' c']⟩, .bool (postOk l name dm)] ∧ OwnRows w' w.heap.size T_impl_Acct 4 p' n' c' (postT l name dm) f ∧ Ext w w' := by
  have hln := h.1
  have g0 := g
  obtain ⟨d0, d1, dp, dn, dc, dz, rfl, rfl, _⟩ := open_Money g gc
  refine impl_BookPost_ret ?_
  unfold impl_BookPost
  intro r w1 hn1 r1 w2 hn2 r2 w3 hn3
  have e1 := hn1.r_eq; have z1 := hn1.size; have e2 := hn2.r_eq; have z2 := hn2.size; have e3 := hn3.r_eq; have z3 := hn3.size
  have Y1 := hn2.ext.trans hn3.ext
  have X3 := hn1.ext.trans Y1
  have b0 := hn1.blk.ext Y1
  have b1 := hn2.blk.ext hn3.ext
  have b2 := hn3.blk
  have lt2 := b2.lt
  refine ⟨_, _, _, b0.loadA0 (by kernel_rfl), ?_⟩
  refine Ret.at (impl_AcctAt_c (h.ext X3) hc name) ?_
  rintro v w4 ⟨hv, y4⟩
  subst hv
  refine ⟨_, rfl, ?_⟩
  intro r3 w5 hn5
  have e5 := hn5.r_eq; have z5 := hn5.size
  obtain ⟨w6, st6, b6, ch6, sz6⟩ := hn5.blk.store0 (P := P) (t := T_int) (k := 0) (v := .int .i64 (acctAt l name)) (by kernel_rfl) (by simp) rfl
  have l4 := y4.le
  have Y6 : Ext w3 w6 := (y4.trans hn5.ext).chg ch6 (by simp; omega)
  have X6 := X3.trans Y6
  refine ⟨w6, st6, _, _, _, (b0.ext Y6).loadA0 (by kernel_rfl), ?_⟩
  refine Ret.at (impl_BookOk_c (h.ext X6) hc hn hb (ht.ext X6)) ?_
  rintro v w7 ⟨hv, y7⟩
  subst hv
  have Y7 := Y6.trans y7
  have X7 := X3.trans Y7
  have b67 : Blk w7 r3 T_int [.int .i64 (acctAt l name)] := b6.ext y7
  have no : ∀ W, Ext w3 W → postOk l name [.str d0, .bool d1, .ints dz] = false → ∃ wv, Stores P T_impl_Book ⟨r2, 0, none⟩ (.agg #[.slice none 0 0]) W wv ∧ ∃ p n c, Loads P T_impl_Book ⟨r2, 0, none⟩ (.agg #[.slice p n c]) wv ∧ ∃ p' n' c' f, Value.tuple #[.agg #[.slice p n c], .bool false] = .tuple #[.agg ⟨[.slice p' n' c']⟩, .bool (postOk l name [.str d0, .bool d1, .ints dz])] ∧ OwnRows wv w.heap.size T_impl_Acct 4 p' n' c' (postT l name [.str d0, .bool d1, .ints dz]) f ∧ Ext w wv := fun W hW hno => by
    obtain ⟨w12, st12, b12, ch12, sz12⟩ := (b2.ext hW).storeA0 (P := P) (t := T_impl_Book) (xs := [.slice none 0 0]) (by kernel_rfl) rfl (by simp [Value.oneCell'])
    refine ⟨w12, st12, _, _, _, b12.loadA0 (by kernel_rfl), none, 0, 0, [], by rw [hno], ?_, (X3.trans hW).chg ch12 (by simp; omega)⟩
    rw [postT_no hno]
    exact rows0 _ _ _ _
  refine ⟨_, rfl, ifN (fun hno => ifT (no w7 Y7 (by unfold postOk; rw [hno]; rfl))) (fun hok => ?_)⟩
  have h12 := bookOk_len hok
  refine ⟨_, b67.loadAt 0 rfl (by kernel_rfl) rfl, ifD (fun hlt => no w7 Y7 (by unfold postOk; rw [hok, decide_eq_false (by omega)]; rfl)) (fun hge => ?_)⟩
  obtain ⟨j, hj, h1, h2⟩ := acct_in (show 0 ≤ acctAt l name by omega)
  obtain ⟨q1, q2⟩ := postT_yes (m := [.str d0, .bool d1, .ints dz]) hok hj h1 h2
  rw [h1] at b67
  refine ⟨_, _, _, (b0.ext Y7).loadA0 (by kernel_rfl), ?_⟩
  refine Ret.at (impl_changed_BookPost_c (ht.ext X7) (h.ext X7) hc (by omega) hb hj b67 (b1.ext Y7) (g0.ext X7)) ?_
  rintro v w8 ⟨p', n', c', f, hv, hor, y8⟩
  subst hv
  have l7 := Y7.le
  obtain ⟨w9, st9, b9, ch9, sz9⟩ := ((b2.ext Y7).ext y8).storeA0 (P := P) (t := T_impl_Book) (xs := [.slice p' n' c']) (by kernel_rfl) rfl (by simp [Value.oneCell'])
  refine ⟨_, _, _, _, rfl, w9, st9, _, _, _, b9.loadA0 (by kernel_rfl), p', n', c', f, by rw [q1], ?_, (X7.trans y8).chg ch9 (by simp; omega)⟩
  rw [q2]
  exact (hor.chg ch9 (fun q hq hm => by have := (hor.lt q hq).1; simp at hm; omega)).mono X7.le
end Go.Proofs.YteakifedfnnmeaaDoor

namespace Go.Proofs.YteakifedfnnmeaaDoor
open Go Go.Proofs.YteakifedfnnmeaaDoor.Sx
set_option linter.unusedVariables false
set_option linter.unusedSimpArgs false
set_option maxHeartbeats 1000000 in
theorem spec_BookPost_o {w : World} {p : Option Addr} {n c : Nat} {l : List (List D0)} (h : RowsR w 4 p n c l) (hc : ∀ x ∈ l, x.map D0.code = [.str, .str, .bool, .ints]) (hn : n ≤ 1048576) (hb : ∀ x ∈ l, bulks x ≤ 1048576) (name : ByteArray) {ys : List Value} {dm : List D0} (g : Reps w ys dm) (gc : dm.map D0.code = [.str, .bool, .ints]) (gb : bulks dm ≤ 100000000) :
    Ret P n_spec_BookPost [.agg ⟨[.slice p n c]⟩, .string name, .agg ⟨ys⟩] w fun v w' => ∃ p' n' c' f, v = .tuple #[.agg ⟨[.slice p' n' c']⟩, .bool (postOk l name dm)] ∧ OwnRows w' w.heap.size T_impl_Acct 4 p' n' c' (postT l name dm) f ∧ Ext w w' := by
  have hln := h.1
  have g0 := g
  obtain ⟨d0, d1, dp, dn, dc, dz, rfl, rfl, _⟩ := open_Money g gc
  refine spec_BookPost_ret ?_
  unfold spec_BookPost
  intro r w1 hn1 r1 w2 hn2 r2 w3 hn3
  have e1 := hn1.r_eq; have z1 := hn1.size; have e2 := hn2.r_eq; have z2 := hn2.size; have e3 := hn3.r_eq; have z3 := hn3.size
  have Y1 := hn2.ext.trans hn3.ext
  have X3 := hn1.ext.trans Y1
  have b0 := hn1.blk.ext Y1
  have b1 := hn2.blk.ext hn3.ext
  have b2 := hn3.blk
  have lt2 := b2.lt
  refine ⟨_, _, _, b0.loadA0 (by kernel_rfl), ?_⟩
  refine Ret.at (spec_AcctAt_c (h.ext X3) hc name) ?_
  rintro v w4 ⟨hv, y4⟩
  subst hv
  refine ⟨_, rfl, _, _, _, (b0.ext y4).loadA0 (by kernel_rfl), ?_⟩
  refine Ret.at (spec_BookOk_c (h.ext (X3.trans y4)) hc hn hb) ?_
  rintro v w7 ⟨hv, y7⟩
  subst hv
  have Y7 := y4.trans y7
  have X7 := X3.trans Y7
  have no : ∀ W, Ext w3 W → postOk l name [.str d0, .bool d1, .ints dz] = false → ∃ wv, Stores P T_impl_Book ⟨r2, 0, none⟩ (.agg #[.slice none 0 0]) W wv ∧ ∃ p n c, Loads P T_impl_Book ⟨r2, 0, none⟩ (.agg #[.slice p n c]) wv ∧ ∃ p' n' c' f, Value.tuple #[.agg #[.slice p n c], .bool false] = .tuple #[.agg ⟨[.slice p' n' c']⟩, .bool (postOk l name [.str d0, .bool d1, .ints dz])] ∧ OwnRows wv w.heap.size T_impl_Acct 4 p' n' c' (postT l name [.str d0, .bool d1, .ints dz]) f ∧ Ext w wv := fun W hW hno => by
    obtain ⟨w12, st12, b12, ch12, sz12⟩ := (b2.ext hW).storeA0 (P := P) (t := T_impl_Book) (xs := [.slice none 0 0]) (by kernel_rfl) rfl (by simp [Value.oneCell'])
    refine ⟨w12, st12, _, _, _, b12.loadA0 (by kernel_rfl), none, 0, 0, [], by rw [hno], ?_, (X3.trans hW).chg ch12 (by simp; omega)⟩
    rw [postT_no hno]
    exact rows0 _ _ _ _
  refine ⟨_, rfl, ifN (fun hno => ifT (no w7 Y7 (by unfold postOk; rw [hno]; rfl))) (fun hok => ?_)⟩
  have h12 := bookOk_len hok
  refine ifD (fun hlt => no w7 Y7 (by unfold postOk; rw [hok, decide_eq_false (by omega)]; rfl)) (fun hge => ?_)
  obtain ⟨j, hj, h1, h2⟩ := acct_in (show 0 ≤ acctAt l name by omega)
  obtain ⟨q1, q2⟩ := postT_yes (m := [.str d0, .bool d1, .ints dz]) hok hj h1 h2
  rw [h1]
  have d := Ext.drew w7
  have Y8 := Y7.trans d
  obtain ⟨bl, off, hpp, hs⟩ := (h.ext X7).2.2.2 (by omega)
  subst hpp
  obtain ⟨cs, hk, hr, hsg⟩ := hs j _ (List.getElem?_eq_getElem hj)
  obtain ⟨k0, m0, m1, kp, kn, kc, mz, rfl, hkd, hki⟩ := open_Acct hr (hc _ (List.getElem_mem hj))
  have hrow : l[j].drop 1 = [.str m0, .bool m1, .ints mz] := by rw [hkd]; rfl
  have hadd : addM (l[j].drop 1) [.str d0, .bool d1, .ints dz] = mres (alk [.str m0, .bool m1, .ints mz] [.str d0, .bool d1, .ints dz]) m0 (ival [.bool m1, .ints mz] + ival [.bool d1, .ints dz]) := by rw [hrow]; rfl
  have hrep : Reps w7 [.string m0, .bool m1, .slice kp kn kc] [.str m0, .bool m1, .ints mz] := ⟨rfl, rfl, ⟨_, _, _, rfl, hki⟩, trivial⟩
  unfold spec_BookPost_j0
  refine ⟨_, _, _, fun V hV => ((b0.ext Y8).ext hV).loadAt 0 rfl (by kernel_rfl) rfl, ⟨by omega, by omega⟩, _, _, _, _, _, fun V hV => by rw [addr_add, addr_add, Int.toNat_natCast]; exact ((hsg.ext d).ext hV).loadAAt 1 [.string m0, .bool m1, .slice kp kn kc] rfl (by kernel_rfl) rfl, _, _, _, _, _, fun V hV => ((b1.ext Y8).ext hV).loadA0 (by kernel_rfl), ?_⟩
  intro ss w8 F1
  have S1 := FlS.first F1 rfl
  have Z8 := d.trans F1.ext
  refine Ret.at (spec_MoneyAdd_n (hrep.ext Z8) (g0.ext (X7.trans Z8))) ?_
  rintro v w9 ⟨vs, fx, hv, hox, ndx, y9⟩
  subst hv
  obtain ⟨a0, a1, ap, an, ac, az, rfl, _, _⟩ := open_Money hox.reps (mres_code _ _ _)
  refine ⟨_, _, _, _, _, _, rfl, ?_⟩
  intro ss1 w10 rf F2 G
  have S2 := (S1.ext y9).step F2
  obtain ⟨hrf1, hrf2, hbk⟩ := S2.blk G rfl
  have hap := FlS.apart S1 F2 G
  have ld := d.le; have lF1 := F1.ext.le; have ly9 := y9.le; have lY7 := Y7.le
  obtain ⟨w11, st11, b11, ch11, sz11⟩ := hbk.storeA0 (P := P) (t := T_impl_Money) (xs := [.string a0, .bool a1, .slice ap an ac]) (by kernel_rfl) rfl (by simp [Value.oneCell'])
  have hox11 := (hox.ext F2.ext).chg ch11 (fun k hk hm => by have := hox.lt k hk; simp at hm; omega)
  have Y11 : Ext w7 w11 := ((Z8.trans y9).trans F2.ext).chg ch11 (by simp; omega)
  have X11 := X7.trans Y11
  rw [← hadd] at hox11
  refine ⟨w11, st11, ifN (fun hno => ?_) (fun hyes => ?_)⟩
  · rw [← hadd] at hno
    exact no w11 (Y7.trans Y11) (by rw [q1, hno])
  rw [← hadd] at hyes
  refine ⟨_, _, _, ((b0.ext Y7).ext Y11).loadA0 (by kernel_rfl), ?_⟩
  refine Ret.at (spec_l17Copy_c (h.ext X11) hc (by omega) hb) ?_
  rintro v w12 ⟨p3, c3, f3, hv, ho3, y12⟩
  subst hv
  refine ⟨_, _, _, rfl, ?_⟩
  intro r4 w13 hn13
  have e13 := hn13.r_eq; have z13 := hn13.size
  obtain ⟨w14, st14, b14, y14⟩ := hn13.fill (P := P) (t := T_impl_Book) (xs := [.slice p3 n c3]) (by simp [Value.oneCell']) (by kernel_rfl) rfl
  have Y14 := y12.trans y14
  have ho14 := ho3.ext y14
  obtain ⟨b, _, _, _, hpb, _⟩ := ho14.put (List.getElem?_eq_getElem hj)
  subst hpb
  obtain ⟨_, _, _, _, _, _, hbB, hbl, hbf, _, _, _, hput⟩ := acct_row (ho14.mono (B' := w.heap.size) (by have := X11.le; omega)) hj (hc _ (List.getElem_mem hj)) (by kernel_rfl)
  have lY14 := Y14.le; have l12 := y12.le; have l14 := y14.le
  have hfx : ∀ q ∈ fx, q < w11.heap.size := fun q hq => (hox11.lt q hq).2
  refine ⟨w14, st14, _, _, _, b14.loadAt 0 rfl (by kernel_rfl) rfl, _, _, _, _, _, (b11.ext Y14).loadA0 (by kernel_rfl), ⟨by omega, by omega⟩, ?_⟩
  obtain ⟨w15, f15, st15, hor15, ch15, sz15, hf15⟩ := hput _ w14 a0 a1 ap an ac fx (Ext.refl _) ((hox11.ext Y14).mono (by omega)) ndx (fun q hq hm => by have := hfx q hq; have := (ho3.lt q hm).1; omega)
  have X14 := X11.trans Y14
  have h3l := ho3.lt
  have hbw : w11.heap.size ≤ b := (ho3.lt b hbf).1
  have X15 : Ext w w15 := X14.chg ch15 (by simp; omega)
  have hb2 : Blk w15 r2 T_impl_Book [.slice none 0 0] := (((b2.ext Y7).ext Y11).ext Y14).chg ch15 (by have := X11.le; have := Y11.le; simp; omega)
  obtain ⟨w16, st16, b16, ch16, sz16⟩ := hb2.storeA0 (P := P) (t := T_impl_Book) (xs := [.slice (some ⟨b, 0, none⟩) n c3]) (by kernel_rfl) rfl (by simp [Value.oneCell'])
  refine ⟨w15, st15, _, _, _, (b14.chg ch15 (by have := h3l b hbf; simp; omega)).loadA0 (by kernel_rfl), w16, st16, _, _, _, b16.loadA0 (by kernel_rfl), _, _, _, f15, by rw [q1, hyes], ?_, X15.chg ch16 (by simp; omega)⟩
  rw [q2, hyes, if_pos rfl]
  exact hor15.chg ch16 (fun q hq hm => by
    simp at hm; subst hm
    rcases hf15 q hq with h | h
    · have := (h3l q h).1; have := Y11.le; omega
    · have := (hox.lt q h).1; omega)
end Go.Proofs.YteakifedfnnmeaaDoor

namespace Go.Proofs.YteakifedfnnmeaaDoor
open Go Go.Proofs.YteakifedfnnmeaaDoor.Sx
set_option linter.unusedVariables false
set_option linter.unusedSimpArgs false
theorem impl_BookPost_c {w : World} {p : Option Addr} {n c : Nat} {l : List (List D0)} (h : RowsR w 4 p n c l) (hc : ∀ x ∈ l, x.map D0.code = [.str, .str, .bool, .ints]) (hn : n ≤ 1048576) (hb : ∀ x ∈ l, bulks x ≤ 1048576) (name : ByteArray) {ys : List Value} {dm : List D0} (g : Reps w ys dm) (gc : dm.map D0.code = [.str, .bool, .ints]) (gb : bulks dm ≤ 100000000) (ht : Tab w) :
    Ret P n_impl_BookPost [.agg ⟨[.slice p n c]⟩, .string name, .agg ⟨ys⟩] w fun v w' => ∃ p' n' c' f, v = .tuple #[.agg ⟨[.slice p' n' c']⟩, .bool (postOk l name dm)] ∧ OwnRows w' w.heap.size T_impl_Acct 4 p' n' c' (postT l name dm) f ∧ (∀ x ∈ postT l name dm, x.map D0.code = [.str, .str, .bool, .ints]) ∧ cntL (postT l name dm) ≤ 1000000000 ∧ Ext w w' :=
  (impl_BookPost_o h hc hn hb name g gc gb ht).mono fun v w' ⟨p', n', c', f, hv, ho, hx⟩ => ⟨p', n', c', f, hv, ho, postT_code hc name dm, postT_cnt hc name dm, hx⟩
theorem spec_BookPost_c {w : World} {p : Option Addr} {n c : Nat} {l : List (List D0)} (h : RowsR w 4 p n c l) (hc : ∀ x ∈ l, x.map D0.code = [.str, .str, .bool, .ints]) (hn : n ≤ 1048576) (hb : ∀ x ∈ l, bulks x ≤ 1048576) (name : ByteArray) {ys : List Value} {dm : List D0} (g : Reps w ys dm) (gc : dm.map D0.code = [.str, .bool, .ints]) (gb : bulks dm ≤ 100000000) :
    Ret P n_spec_BookPost [.agg ⟨[.slice p n c]⟩, .string name, .agg ⟨ys⟩] w fun v w' => ∃ p' n' c' f, v = .tuple #[.agg ⟨[.slice p' n' c']⟩, .bool (postOk l name dm)] ∧ OwnRows w' w.heap.size T_impl_Acct 4 p' n' c' (postT l name dm) f ∧ (∀ x ∈ postT l name dm, x.map D0.code = [.str, .str, .bool, .ints]) ∧ cntL (postT l name dm) ≤ 1000000000 ∧ Ext w w' :=
  (spec_BookPost_o h hc hn hb name g gc gb).mono fun v w' ⟨p', n', c', f, hv, ho, hx⟩ => ⟨p', n', c', f, hv, ho, postT_code hc name dm, postT_cnt hc name dm, hx⟩
end Go.Proofs.YteakifedfnnmeaaDoor

namespace Go.Proofs.YteakifedfnnmeaaDoor
open Go Go.Proofs.YteakifedfnnmeaaDoor.Sx
set_option linter.unusedVariables false
set_option linter.unusedSimpArgs false
theorem laws_markAcctS_c {w : World} {B : Nat} {e : TypeId} {p : Option Addr} {n c : Nat} {l : List (List D0)} {f : List Nat} {k : Int} (h : OwnRows w B e 4 p n c l f) (hc : ∀ x ∈ l, x.map D0.code = [.str, .str, .bool, .ints]) (h0 : 0 ≤ k) (h1 : k + cntL l ≤ 1000000000000000000) :
    Ret P n_laws_markAcctS [.slice p n c, .int .i64 k] w fun v w' => v = .int .i64 (k + cntL l) ∧ OwnRows w' B e 4 p n c (markL l k) f ∧ Chg f w w' := by
  have hz := h.1; have hcap := h.rows.2.1; have hcm := h.rows.2.2.1
  refine laws_markAcctS_ret ?_
  unfold laws_markAcctS
  refine ⟨fun k1 i wr => ∃ j : Nat, i = j ∧ j ≤ n ∧ k1 = k + cntL (l.take j) ∧ OwnRows wr B e 4 p n c (markL (l.take j) k ++ l.drop j) f ∧ Chg f w wr, fun _ i _ => n - i.toNat, ⟨0, rfl, by omega, by simp [cntL], by simpa [markL] using h, Chg.refl _ _⟩, ?_⟩
  intro junk wr k1 i ⟨j, hij, hj, hk1, ho, hch⟩
  subst hij
  refine ifD (fun hlt => ?_) (fun hge => ?_)
  · have hjl : j < l.length := by omega
    obtain ⟨x, hxe⟩ : ∃ x, l[j]? = some x := ⟨_, List.getElem?_eq_getElem hjl⟩
    have hcode := hc x (List.mem_of_getElem? hxe)
    obtain ⟨hct, hcle⟩ := cntL_row hxe
    have hcn := cntL_nonneg (l.take j)
    obtain ⟨b, xs, cs, zs, fi, hp, hB, hA, hk, blk, ow, ndf, hbf, hbm, hfm, back⟩ := ho.focus (markL_at hxe)
    subst hp
    obtain ⟨a0, us, es, rfl, rfl, ow2, hcode2⟩ := ow.consStr hcode
    clear ow hcode; have ow := ow2; have hcode := hcode2; clear ow2 hcode2
    obtain ⟨a1, us, es, rfl, rfl, ow2, hcode2⟩ := ow.consStr hcode
    clear ow hcode; have ow := ow2; have hcode := hcode2; clear ow2 hcode2
    obtain ⟨a2, us, es, rfl, rfl, ow2, hcode2⟩ := ow.consBool hcode
    clear ow hcode; have ow := ow2; have hcode := hcode2; clear ow2 hcode2
    obtain ⟨a3p, a3n, a3c, a3z, us, es, f3, rfl, rfl, rfl, o3, ow2, hcode2⟩ := ow.consInts hcode
    clear ow hcode; have ow := ow2; have hcode := hcode2; clear ow2 hcode2
    obtain ⟨rfl, rfl, rfl⟩ := ow.done hcode
    simp only [cnts, D0.cnt] at hct hcle
    have z3 : a3z.length = a3n := by have := o3.len; simpa using this
    have m3 : ∀ q, a3p.map (·.block) = some q → q ∈ ((a3p.map (·.block)).toList ++ ([] : List Nat)) := fun q hq => List.mem_append_left _ (mem_opt hq)
    have u3 : ∀ {W : World} {W2 : World} {zs : List Value}, Own W B T_int 1 a3p a3n a3c zs → Chg [b] W W2 → Own W2 B T_int 1 a3p a3n a3c zs := fun o ch => o.chg ch (fun q hq hm => hbf (List.mem_singleton.1 hm ▸ m3 q hq))
    have chT : Chg (b :: ((a3p.map (·.block)).toList ++ ([] : List Nat))) wr wr := Chg.refl _ _
    have sub1 : ∀ q ∈ [b], q ∈ b :: ((a3p.map (·.block)).toList ++ ([] : List Nat)) := fun q hq => by rw [List.mem_singleton.1 hq]; exact List.mem_cons_self
    refine Ret.at (laws_markText_c (by omega) _) ?_
    rintro v w1 ⟨hv, y⟩
    subst hv
    have blk := blk.ext y; have chT := chT.trans y.toChg
    have o3 := o3.ext y
    obtain ⟨w2, st, blk2, ch, sz⟩ := blk.storeMid (P := P) (t := T_string) (v := .string (mtext (k1))) hA 0 (by simp) (by kernel_rfl) rfl rfl
    have blk : Blk w2 b e (xs ++ [.string (mtext (k1)), .string a1, .bool a2, .slice a3p a3n a3c] ++ zs) := blk2; clear blk2
    have chT := chT.trans (ch.mono sub1)
    have o3 := u3 o3 ch
    refine ⟨_, rfl, ⟨by omega, by omega⟩, w2, (by simp only [addr_add, Int.toNat_natCast, Nat.zero_add, Nat.add_zero]; exact st), exW ⟨by omega, by omega⟩ ?_⟩
    refine Ret.at (laws_markText_c (by omega) _) ?_
    rintro v w3 ⟨hv, y⟩
    subst hv
    have blk := blk.ext y; have chT := chT.trans y.toChg
    have o3 := o3.ext y
    obtain ⟨w4, st, blk2, ch, sz⟩ := blk.storeMid (P := P) (t := T_string) (v := .string (mtext (k1 + 1))) hA 1 (by simp) (by kernel_rfl) rfl rfl
    have blk : Blk w4 b e (xs ++ [.string (mtext (k1)), .string (mtext (k1 + 1)), .bool a2, .slice a3p a3n a3c] ++ zs) := blk2; clear blk2
    have chT := chT.trans (ch.mono sub1)
    have o3 := u3 o3 ch
    refine ⟨_, rfl, ⟨by omega, by omega⟩, w4, (by simp only [addr_add, Int.toNat_natCast, Nat.zero_add, Nat.add_zero]; exact st), exW ⟨by omega, by omega⟩ ?_⟩
    refine ⟨by decide, _, rfl, ⟨by omega, by omega⟩, ?_⟩
    rw [Int.tmod_eq_emod_of_nonneg (show (0 : Int) ≤ k1 + 1 + 1 by omega)]
    obtain ⟨w5, st, blk2, ch, sz⟩ := blk.storeMid (P := P) (t := T_bool) (v := .bool (decide ((k1 + 1 + 1) % 3 = 0))) hA 2 (by simp) (by kernel_rfl) rfl rfl
    have blk : Blk w5 b e (xs ++ [.string (mtext (k1)), .string (mtext (k1 + 1)), .bool (decide ((k1 + 1 + 1) % 3 = 0)), .slice a3p a3n a3c] ++ zs) := blk2; clear blk2
    have chT := chT.trans (ch.mono sub1)
    have o3 := u3 o3 ch
    refine ⟨w5, (by simp only [addr_add, Int.toNat_natCast, Nat.zero_add, Nat.add_zero]; exact st), exW ⟨by omega, by omega⟩ ?_⟩
    refine ⟨⟨by omega, by omega⟩, _, _, _, (by simp only [addr_add, Int.toNat_natCast, Nat.zero_add, Nat.add_zero]; exact (blk.segMid hA).loadAt 3 rfl (by kernel_rfl) rfl), ?_⟩
    refine Ret.at (laws_markIntS_c o3 (by omega) (by omega)) ?_
    rintro v w6 ⟨hv, on, ch⟩
    subst hv
    have blk := blk.chg ch (fun hm => hbf (m3 _ (opt_mem hm)))
    have chT := chT.trans (ch.mono (fun q hq => List.mem_cons_of_mem _ (m3 q (opt_mem hq))))
    have o3 := on; clear on
    refine ⟨_, rfl, ?_⟩
    refine exW ⟨by omega, by omega⟩ ⟨⟨j + 1, by omega, by omega, by omega, ?_, hch.trans (chT.mono (fun q hq => ?_))⟩, ?_⟩
    · rw [← markL_set hxe, ← hk1]
      have e : marks [.str a0, .str a1, .bool a2, .ints a3z] k1 = [.str (mtext (k1)), .str (mtext (k1 + 1)), .bool (decide ((k1 + 1 + 1) % 3 = 0)), .ints (mkI a3n (k1 + 1 + 1 + 1))] := by simp only [marks, D0.mark, D0.cnt, z3] <;> rfl
      rw [e]
      exact back _ [.string (mtext (k1)), .string (mtext (k1 + 1)), .bool (decide ((k1 + 1 + 1) % 3 = 0)), .slice a3p a3n a3c] _ chT rfl blk (Owns.append (Owns.str _ _ _) (Owns.append (Owns.str _ _ _) (Owns.append (Owns.bool _ _ _) (Owns.append (Owns.ints o3) (Owns.nil _ _)))))
    · rcases List.mem_cons.1 hq with h | h
      · rw [h]; exact hbm
      · exact hfm q h
    · show n - ((j : Int) + 1).toNat < n - (j : Int).toNat
      omega
  · have hjn : j = n := by omega
    subst hjn
    rw [List.take_of_length_le (by omega), List.drop_of_length_le (by omega), List.append_nil] at ho
    rw [List.take_of_length_le (by omega)] at hk1
    exact ⟨by rw [hk1], ho, hch⟩
theorem laws_heldAcctS_c {w : World} {p : Option Addr} {n c : Nat} {l : List (List D0)} {k : Int} (h : RowsR w 4 p n c (markL l k)) (hc : ∀ x ∈ l, x.map D0.code = [.str, .str, .bool, .ints]) (h0 : 0 ≤ k) (h1 : k + cntL l ≤ 1000000000000000000) :
    Ret P n_laws_heldAcctS [.slice p n c, .int .i64 k] w fun v w' => v = .int .i64 (k + cntL l) ∧ Ext w w' := by
  have hz : l.length = n := by have := h.1; rwa [markL_len] at this
  have hcap := h.2.1; have hcm := h.2.2.1
  refine laws_heldAcctS_ret ?_
  unfold laws_heldAcctS
  refine ⟨fun k1 i wr => ∃ j : Nat, i = j ∧ j ≤ n ∧ k1 = k + cntL (l.take j) ∧ Ext w wr, fun _ i _ => n - i.toNat, ⟨0, rfl, by omega, by simp [cntL], Ext.refl _⟩, ?_⟩
  intro junk wr k1 i ⟨j, hij, hj, hk1, hx⟩
  subst hij
  refine ifD (fun hlt => ?_) (fun hge => ?_)
  · have hjl : j < l.length := by omega
    obtain ⟨x, hxe⟩ : ∃ x, l[j]? = some x := ⟨_, List.getElem?_eq_getElem hjl⟩
    have hcode := hc x (List.mem_of_getElem? hxe)
    obtain ⟨hct, hcle⟩ := cntL_row hxe
    have hcn := cntL_nonneg (l.take j)
    obtain ⟨b, off, hp, hs⟩ := (h.ext hx).2.2.2 (by omega)
    subst hp
    obtain ⟨cs, hk, hr, hsg⟩ := hs j _ (markL_get l k j x hxe)
    rw [← hk1] at hr
    obtain ⟨s0, es, rfl, hcode2⟩ := code_str hcode
    clear hcode; have hcode := hcode2; clear hcode2
    obtain ⟨s1, es, rfl, hcode2⟩ := code_str hcode
    clear hcode; have hcode := hcode2; clear hcode2
    obtain ⟨s2, es, rfl, hcode2⟩ := code_bool hcode
    clear hcode; have hcode := hcode2; clear hcode2
    obtain ⟨z3, es, rfl, hcode2⟩ := code_ints hcode
    clear hcode; have hcode := hcode2; clear hcode2
    have hn := code_nil hcode; subst hn
    simp only [marks, D0.mark, D0.cnt] at hr
    simp only [cnts, D0.cnt] at hct hcle
    obtain ⟨a0, us, es, rfl, hd, hr2, hc2⟩ := hr.str rfl
    cases hd
    clear hr hc2; have hr := hr2; clear hr2
    obtain ⟨a1, us, es, rfl, hd, hr2, hc2⟩ := hr.str rfl
    cases hd
    clear hr hc2; have hr := hr2; clear hr2
    obtain ⟨a2, us, es, rfl, hd, hr2, hc2⟩ := hr.bool rfl
    cases hd
    clear hr hc2; have hr := hr2; clear hr2
    obtain ⟨a3p, a3n, a3c, a3z, us, es, rfl, hd, g3, hr2, hc2⟩ := hr.ints rfl
    cases hd
    clear hr hc2; have hr := hr2; clear hr2
    obtain ⟨hv, _⟩ := hr.done rfl
    subst hv
    have y3 : z3.length = a3n := by have := g3.1; rwa [mkI_len] at this
    rw [y3] at g3
    have X : Ext wr wr := Ext.refl _
    have D := Ext.drew wr; have X := X.trans D
    refine ⟨⟨by omega, by omega⟩, _, fun W' hW => (by simp only [addr_add, Int.toNat_natCast, Nat.zero_add, Nat.add_zero]; exact (hsg.ext (X.trans hW)).loadAt 0 rfl (by kernel_rfl) rfl), ?_⟩
    refine Ret.at (laws_markText_c (by omega) _) ?_
    rintro v w1 ⟨hv, y⟩
    subst hv
    have X := X.trans y
    refine ⟨_, rfl, y, ifD (fun hne => absurd rfl hne) (fun _ => exW ⟨by omega, by omega⟩ ?_)⟩
    have D := Ext.drew w1; have X := X.trans D
    refine ⟨⟨by omega, by omega⟩, _, fun W' hW => (by simp only [addr_add, Int.toNat_natCast, Nat.zero_add, Nat.add_zero]; exact (hsg.ext (X.trans hW)).loadAt 1 rfl (by kernel_rfl) rfl), ?_⟩
    refine Ret.at (laws_markText_c (by omega) _) ?_
    rintro v w2 ⟨hv, y⟩
    subst hv
    have X := X.trans y
    refine ⟨_, rfl, y, ifD (fun hne => absurd rfl hne) (fun _ => exW ⟨by omega, by omega⟩ ?_)⟩
    refine ⟨⟨by omega, by omega⟩, _, (by simp only [addr_add, Int.toNat_natCast, Nat.zero_add, Nat.add_zero]; exact (hsg.ext X).loadAt 2 rfl (by kernel_rfl) rfl), by decide, _, rfl, ?_⟩
    rw [Int.tmod_eq_emod_of_nonneg (show (0 : Int) ≤ k1 + 1 + 1 by omega)]
    refine ⟨fun h => absurd h (bne_no rfl), fun _ => exW ⟨by omega, by omega⟩ ?_⟩
    refine ⟨⟨by omega, by omega⟩, _, _, _, (by simp only [addr_add, Int.toNat_natCast, Nat.zero_add, Nat.add_zero]; exact (hsg.ext X).loadAt 3 rfl (by kernel_rfl) rfl), ?_⟩
    refine Ret.at (laws_heldIntS_c (n := a3n) (k := k1 + 1 + 1 + 1) (by have := g3.ext X;  exact this) (by omega) (by omega)) ?_
    rintro v w3 ⟨hv, y⟩
    subst hv
    have X := X.trans y
    refine ⟨_, rfl, ifD (fun h => absurd h (by omega)) (fun _ => ?_)⟩
    refine exW ⟨by omega, by omega⟩ ⟨⟨j + 1, by omega, by omega, by omega, hx.trans X⟩, ?_⟩
    show n - ((j : Int) + 1).toNat < n - (j : Int).toNat
    omega
  · have hjn : j = n := by omega
    subst hjn
    rw [List.take_of_length_le (by omega)] at hk1
    exact ⟨by rw [hk1], hx⟩
end Go.Proofs.YteakifedfnnmeaaDoor

namespace Go.Proofs.YteakifedfnnmeaaDoor
open Go Go.Proofs.YteakifedfnnmeaaDoor.Sx
set_option linter.unusedVariables false
set_option linter.unusedSimpArgs false
theorem laws_markBook_c {w : World} {B : Nat} {e : TypeId} {p : Option Addr} {n c : Nat} {l : List (List D0)} {f : List Nat} {k : Int} (h : OwnRows w B e 4 p n c l f) (hc : ∀ x ∈ l, x.map D0.code = [.str, .str, .bool, .ints]) (h0 : 0 ≤ k) (h1 : k + cntL l ≤ 1000000000000000000) :
    Ret P n_laws_markBook [.agg ⟨[.slice p n c]⟩, .int .i64 k] w fun v w' => v = .int .i64 (k + cntL l) ∧ OwnRows w' B e 4 p n c (markL l k) f ∧ Chg f w w' := by
  refine laws_markBook_ret ?_
  unfold laws_markBook
  intro r w1 hn
  refine ⟨_, _, _, hn.blk.loadAt 0 rfl (by kernel_rfl) rfl, ?_⟩
  refine Ret.at (laws_markAcctS_c (h.ext hn.ext) hc h0 h1) ?_
  rintro v w2 ⟨hv, ho, ch⟩
  subst hv
  exact ⟨_, rfl, rfl, ho, hn.ext.toChg.trans ch⟩
theorem laws_heldBook_c {w : World} {p : Option Addr} {n c : Nat} {l : List (List D0)} {k : Int} (h : RowsR w 4 p n c (markL l k)) (hc : ∀ x ∈ l, x.map D0.code = [.str, .str, .bool, .ints]) (h0 : 0 ≤ k) (h1 : k + cntL l ≤ 1000000000000000000) :
    Ret P n_laws_heldBook [.agg ⟨[.slice p n c]⟩, .int .i64 k] w fun v w' => v = .int .i64 (k + cntL l) ∧ Ext w w' := by
  refine laws_heldBook_ret ?_
  unfold laws_heldBook
  intro r w1 hn
  refine ⟨_, _, _, hn.blk.loadAt 0 rfl (by kernel_rfl) rfl, ?_⟩
  refine Ret.at (laws_heldAcctS_c (h.ext hn.ext) hc h0 h1) ?_
  rintro v w2 ⟨hv, y⟩
  subst hv
  have := cntL_nonneg l
  exact ⟨_, rfl, ifD (fun h => absurd h (by omega)) (fun _ => ⟨rfl, hn.ext.trans y⟩)⟩
end Go.Proofs.YteakifedfnnmeaaDoor

namespace Go.Proofs.YteakifedfnnmeaaDoor
open Go Go.Proofs.YteakifedfnnmeaaDoor.Sx
set_option linter.unusedVariables false
set_option linter.unusedSimpArgs false
set_option maxHeartbeats 4000000
theorem laws_FnExactBookPost_c {w : World} {p0 : Option Addr} {n0 c0 : Nat} {l0 : List (List D0)} (h0 : RowsR w 4 p0 n0 c0 l0) (hc0 : ∀ x ∈ l0, x.map D0.code = [.str, .str, .bool, .ints]) (hk0 : ∀ x ∈ l0, ∀ d ∈ x, d.ok) (a1 : ByteArray) {vs2 : List Value} {d2 : List D0} (h2 : Reps w vs2 d2) (hc2 : d2.map D0.code = [.str, .bool, .ints]) (hk2 : ∀ x ∈ d2, x.ok) (ht : Tab w) :
    Ret P n_laws_FnExactBookPost [.agg ⟨[.slice p0 n0 c0]⟩, .string a1, .agg ⟨vs2⟩] w fun v w' => v = .bool true ∧ Ext w w' := by
  have hr2 := h2
  obtain ⟨u20, u21, u22p, u22n, u22c, u22z, rfl, rfl, u22h⟩ := open_Money h2 hc2
  refine laws_FnExactBookPost_ret ?_
  unfold laws_FnExactBookPost
  have x : Ext w w := Ext.refl w
  intro r_a0 W1 hn
  have er_a0 := hn.r_eq; have sr_a0 := hn.size
  have y := hn.ext
  replace x := x.trans y
  have ll1 := y.le
  have bk_a0 := hn.blk; clear hn
  intro r_a2 W2 hn
  have er_a2 := hn.r_eq; have sr_a2 := hn.size
  have y := hn.ext
  replace x := x.trans y
  replace bk_a0 := bk_a0.ext y
  have ll2 := y.le
  have bk_a2 := hn.blk; clear hn
  refine ifD (fun _ => ⟨rfl, x⟩) (fun hs1 => ?_)
  refine ⟨_, _, _, bk_a0.loadA0 (by kernel_rfl), ?_⟩
  refine Ret.at (laws_szBook_c (h0.ext x) hc0 hk0 (by omega) (by omega)) ?_
  rintro v W3 ⟨k0, hv, hs0, hm0, y⟩
  subst hv
  replace x := x.trans y
  replace bk_a0 := bk_a0.ext y
  replace bk_a2 := bk_a2.ext y
  have ll3 := y.le
  refine ⟨_, rfl, ifD (fun _ => ⟨rfl, x⟩) (fun hp0 => ?_)⟩
  refine ⟨_, _, _, _, _, bk_a2.loadA0 (by kernel_rfl), ?_⟩
  refine Ret.at (laws_szMoney_c (hr2.ext x) rfl hk2 (by omega) (by omega)) ?_
  rintro v W4 ⟨k2, hv, hs2, hm2, y⟩
  subst hv
  replace x := x.trans y
  replace bk_a0 := bk_a0.ext y
  replace bk_a2 := bk_a2.ext y
  have ll4 := y.le
  refine ⟨_, rfl, ifD (fun _ => ⟨rfl, x⟩) (fun hp2 => ?_)⟩
  have hs0 := hs0 (by omega)
  have hs2 := hs2 (by omega)
  have hb0 : ∀ y ∈ l0, bulks y ≤ 1048576 := fun y hy => by have := bulks_le hy; omega
  have hz0 : n0 ≤ 1048576 := by omega
  have hsum0 : (l0.map bulks).sum ≤ 1048576 := by omega
  simp only [bulks, D0.bulk, List.map_cons, List.map_nil, List.sum_cons, List.sum_nil] at hs2
  have y := Ext.drew W4
  replace x := x.trans y
  replace bk_a0 := bk_a0.ext y
  replace bk_a2 := bk_a2.ext y
  have ll5 := y.le
  have bd0 := bk_a0
  have bd2 := bk_a2
  refine ⟨_, _, _, fun W' hW => (bd0.ext hW).loadA0 (by kernel_rfl), ?_⟩
  intro ssx W5 F
  have S := FlS.first F rfl
  have y := F.ext
  replace x := x.trans y
  replace bk_a0 := bk_a0.ext y
  replace bk_a2 := bk_a2.ext y
  have ll6 := y.le
  refine Ret.at (laws_toBook_c (h0.ext x) hc0 hz0 hb0) ?_
  rintro v W6 ⟨p_s0, c_s0, f_s0, hv, o_s0, y⟩
  subst hv
  have lt_o_s0 : ∀ k ∈ f_s0, W5.heap.size ≤ k ∧ k < W6.heap.size := o_s0.lt
  have yy := y
  replace x := x.trans y
  replace bk_a0 := bk_a0.ext y
  replace bk_a2 := bk_a2.ext y
  replace S := S.ext y
  have ll7 := y.le
  refine ⟨_, _, _, rfl, yy, ?_⟩
  refine ⟨_, _, _, _, _, fun W' hW => (bd2.ext hW).loadA0 (by kernel_rfl), ?_⟩
  intro ssx W7 F
  have S := S.step F
  have y := F.ext
  replace x := x.trans y
  replace bk_a0 := bk_a0.ext y
  replace bk_a2 := bk_a2.ext y
  replace o_s0 := o_s0.ext y
  have ll8 := y.le
  refine Ret.at (laws_toMoney_c (hr2.ext x) rfl (by simp only [bulks, D0.bulk, List.map_cons, List.map_nil, List.sum_cons, List.sum_nil]; omega)) ?_
  rintro v W8 ⟨vs, f_s2, hv, o_s2, nd_s2, y⟩
  subst hv
  obtain ⟨ts20, ts21, ts22p, ts22n, ts22c, ts22z, rfl, hds2, ts22h⟩ := open_Money o_s2.reps rfl
  have lt_o_s2 : ∀ k ∈ f_s2, W7.heap.size ≤ k ∧ k < W8.heap.size := o_s2.lt
  have yy := y
  replace x := x.trans y
  replace bk_a0 := bk_a0.ext y
  replace bk_a2 := bk_a2.ext y
  replace o_s0 := o_s0.ext y
  replace S := S.ext y
  have ll9 := y.le
  refine ⟨_, _, _, _, _, rfl, ?_⟩
  intro ssx W9 F
  have S := S.step F
  have y := F.ext
  replace x := x.trans y
  replace bk_a0 := bk_a0.ext y
  replace bk_a2 := bk_a2.ext y
  replace o_s0 := o_s0.ext y
  replace o_s2 := o_s2.ext y
  have ll10 := y.le
  have Sc := S
  refine Ret.at (spec_BookPost_c o_s0.rows hc0 hz0 hb0 a1 o_s2.reps rfl (by simp only [bulks, D0.bulk, List.map_cons, List.map_nil, List.sum_cons, List.sum_nil]; omega)) ?_
  rintro v W10 ⟨p_w0, m_w0, c_w0, f_w0, hv, o_w0, co_w0, ct_w0, y⟩
  subst hv
  have tn_w0 := cntL_nn ct_w0
  have lt_o_w0 : ∀ k ∈ f_w0, W9.heap.size ≤ k ∧ k < W10.heap.size := o_w0.lt
  replace x := x.trans y
  replace bk_a0 := bk_a0.ext y
  replace bk_a2 := bk_a2.ext y
  replace S := S.ext y
  have ll11 := y.le
  refine ⟨_, _, _, _, rfl, ?_⟩
  intro ssx W11 r_w0 F G_w0
  have S := S.step F
  have y := F.ext
  replace x := x.trans y
  replace bk_a0 := bk_a0.ext y
  replace bk_a2 := bk_a2.ext y
  replace o_w0 := o_w0.ext y
  have ll12 := y.le
  have FF := F
  obtain ⟨sr_w0, lr_w0, bk_w0⟩ := S.blk G_w0 rfl
  have ap_w0 := Sc.apart FF G_w0
  obtain ⟨W12, st, bq, ch, sz⟩ := bk_w0.storeA0 (P := P) (t := T_impl_Book) (xs := [.slice p_w0 m_w0 c_w0]) (by kernel_rfl) rfl (by simp [Value.oneCell'])
  replace x := x.chg ch (by simp; omega)
  replace bk_a0 := bk_a0.chg ch (by simp; omega)
  replace bk_a2 := bk_a2.chg ch (by simp; omega)
  replace o_w0 := o_w0.chg ch (fun k hk hm => by have h1 := lt_o_w0 k hk; simp at hm; omega)
  have bk_w0 := bq; clear bq
  have ll13 := ch.size
  refine ⟨_, st, ?_⟩
  refine ⟨_, _, _, bk_a0.loadA0 (by kernel_rfl), ?_⟩
  refine Ret.at (laws_toBook_c (h0.ext x) hc0 hz0 hb0) ?_
  rintro v W13 ⟨p_x0, c_x0, f_x0, hv, o_x0, y⟩
  subst hv
  have lt_o_x0 : ∀ k ∈ f_x0, W12.heap.size ≤ k ∧ k < W13.heap.size := o_x0.lt
  replace x := x.trans y
  replace bk_a0 := bk_a0.ext y
  replace bk_a2 := bk_a2.ext y
  replace bk_w0 := bk_w0.ext y
  replace o_w0 := o_w0.ext y
  have ll14 := y.le
  refine ⟨_, _, _, rfl, ?_⟩
  intro r_x0 W14 hn
  have er_x0 := hn.r_eq; have sr_x0 := hn.size
  have y := hn.ext
  replace x := x.trans y
  replace bk_a0 := bk_a0.ext y
  replace bk_a2 := bk_a2.ext y
  replace bk_w0 := bk_w0.ext y
  replace o_w0 := o_w0.ext y
  replace o_x0 := o_x0.ext y
  have ll15 := y.le
  have bk_x0 := hn.blk; clear hn
  obtain ⟨W15, st, bq, ch, sz⟩ := bk_x0.storeA0 (P := P) (t := T_impl_Book) (xs := [.slice p_x0 n0 c_x0]) (by kernel_rfl) rfl (by simp [Value.oneCell'])
  replace x := x.chg ch (by simp; omega)
  replace bk_a0 := bk_a0.chg ch (by simp; omega)
  replace bk_a2 := bk_a2.chg ch (by simp; omega)
  replace bk_w0 := bk_w0.chg ch (by simp; omega)
  replace o_w0 := o_w0.chg ch (fun k hk hm => by have h1 := lt_o_w0 k hk; simp at hm; omega)
  replace o_x0 := o_x0.chg ch (fun k hk hm => by have h1 := lt_o_x0 k hk; simp at hm; omega)
  have bk_x0 := bq; clear bq
  have ll16 := ch.size
  refine ⟨_, st, ?_⟩
  refine ⟨_, _, _, _, _, bk_a2.loadA0 (by kernel_rfl), ?_⟩
  refine Ret.at (laws_toMoney_c (hr2.ext x) rfl (by simp only [bulks, D0.bulk, List.map_cons, List.map_nil, List.sum_cons, List.sum_nil]; omega)) ?_
  rintro v W16 ⟨vs, f_x2, hv, o_x2, nd_x2, y⟩
  subst hv
  obtain ⟨tx20, tx21, tx22p, tx22n, tx22c, tx22z, rfl, hdx2, tx22h⟩ := open_Money o_x2.reps rfl
  have lt_o_x2 : ∀ k ∈ f_x2, W15.heap.size ≤ k ∧ k < W16.heap.size := o_x2.lt
  replace x := x.trans y
  replace bk_a0 := bk_a0.ext y
  replace bk_a2 := bk_a2.ext y
  replace bk_w0 := bk_w0.ext y
  replace bk_x0 := bk_x0.ext y
  replace o_w0 := o_w0.ext y
  replace o_x0 := o_x0.ext y
  have ll17 := y.le
  refine ⟨_, _, _, _, _, rfl, ?_⟩
  intro r_x2 W17 hn
  have er_x2 := hn.r_eq; have sr_x2 := hn.size
  have y := hn.ext
  replace x := x.trans y
  replace bk_a0 := bk_a0.ext y
  replace bk_a2 := bk_a2.ext y
  replace bk_w0 := bk_w0.ext y
  replace bk_x0 := bk_x0.ext y
  replace o_w0 := o_w0.ext y
  replace o_x0 := o_x0.ext y
  replace o_x2 := o_x2.ext y
  have ll18 := y.le
  have bk_x2 := hn.blk; clear hn
  obtain ⟨W18, st, bq, ch, sz⟩ := bk_x2.storeA0 (P := P) (t := T_impl_Money) (xs := [.string tx20, .bool tx21, .slice tx22p tx22n tx22c]) (by kernel_rfl) rfl o_x2.reps.cells1
  replace x := x.chg ch (by simp; omega)
  replace bk_a0 := bk_a0.chg ch (by simp; omega)
  replace bk_a2 := bk_a2.chg ch (by simp; omega)
  replace bk_w0 := bk_w0.chg ch (by simp; omega)
  replace bk_x0 := bk_x0.chg ch (by simp; omega)
  replace o_w0 := o_w0.chg ch (fun k hk hm => by have h1 := lt_o_w0 k hk; simp at hm; omega)
  replace o_x0 := o_x0.chg ch (fun k hk hm => by have h1 := lt_o_x0 k hk; simp at hm; omega)
  replace o_x2 := o_x2.chg ch (fun k hk hm => by have h1 := lt_o_x2 k hk; simp at hm; omega)
  have bk_x2 := bq; clear bq
  have ll19 := ch.size
  refine ⟨_, st, ?_⟩
  refine ⟨_, _, _, bk_x0.loadA0 (by kernel_rfl), ?_⟩
  refine ⟨_, _, _, _, _, bk_x2.loadA0 (by kernel_rfl), ?_⟩
  refine Ret.at (impl_BookPost_c o_x0.rows hc0 hz0 hb0 a1 o_x2.reps rfl (by simp only [bulks, D0.bulk, List.map_cons, List.map_nil, List.sum_cons, List.sum_nil]; omega) (ht.ext x)) ?_
  rintro v W19 ⟨p_g0, m_g0, c_g0, f_g0, hv, o_g0, co_g0, ct_g0, y⟩
  subst hv
  have tn_g0 := cntL_nn ct_g0
  have lt_o_g0 : ∀ k ∈ f_g0, W18.heap.size ≤ k ∧ k < W19.heap.size := o_g0.lt
  replace x := x.trans y
  replace bk_a0 := bk_a0.ext y
  replace bk_a2 := bk_a2.ext y
  replace bk_w0 := bk_w0.ext y
  replace bk_x0 := bk_x0.ext y
  replace bk_x2 := bk_x2.ext y
  replace o_w0 := o_w0.ext y
  replace o_x0 := o_x0.ext y
  replace o_x2 := o_x2.ext y
  have ll20 := y.le
  refine ⟨_, _, _, _, rfl, ?_⟩
  intro r_g0 W20 hn
  have er_g0 := hn.r_eq; have sr_g0 := hn.size
  have y := hn.ext
  replace x := x.trans y
  replace bk_a0 := bk_a0.ext y
  replace bk_a2 := bk_a2.ext y
  replace bk_w0 := bk_w0.ext y
  replace bk_x0 := bk_x0.ext y
  replace bk_x2 := bk_x2.ext y
  replace o_w0 := o_w0.ext y
  replace o_x0 := o_x0.ext y
  replace o_x2 := o_x2.ext y
  replace o_g0 := o_g0.ext y
  have ll21 := y.le
  have bk_g0 := hn.blk; clear hn
  obtain ⟨W21, st, bq, ch, sz⟩ := bk_g0.storeA0 (P := P) (t := T_impl_Book) (xs := [.slice p_g0 m_g0 c_g0]) (by kernel_rfl) rfl (by simp [Value.oneCell'])
  replace x := x.chg ch (by simp; omega)
  replace bk_a0 := bk_a0.chg ch (by simp; omega)
  replace bk_a2 := bk_a2.chg ch (by simp; omega)
  replace bk_w0 := bk_w0.chg ch (by simp; omega)
  replace bk_x0 := bk_x0.chg ch (by simp; omega)
  replace bk_x2 := bk_x2.chg ch (by simp; omega)
  replace o_w0 := o_w0.chg ch (fun k hk hm => by have h1 := lt_o_w0 k hk; simp at hm; omega)
  replace o_x0 := o_x0.chg ch (fun k hk hm => by have h1 := lt_o_x0 k hk; simp at hm; omega)
  replace o_x2 := o_x2.chg ch (fun k hk hm => by have h1 := lt_o_x2 k hk; simp at hm; omega)
  replace o_g0 := o_g0.chg ch (fun k hk hm => by have h1 := lt_o_g0 k hk; simp at hm; omega)
  have bk_g0 := bq; clear bq
  have ll22 := ch.size
  refine ⟨_, st, ?_⟩
  refine ⟨_, _, _, bk_g0.loadA0 (by kernel_rfl), _, _, _, bk_w0.loadA0 (by kernel_rfl), ?_⟩
  refine Ret.at (laws_eqBook_c o_g0.rows o_w0.rows co_g0 co_w0) ?_
  rintro v W22 ⟨hv, y⟩
  subst hv
  replace x := x.trans y
  replace bk_a0 := bk_a0.ext y
  replace bk_a2 := bk_a2.ext y
  replace bk_w0 := bk_w0.ext y
  replace bk_x0 := bk_x0.ext y
  replace bk_x2 := bk_x2.ext y
  replace bk_g0 := bk_g0.ext y
  replace o_w0 := o_w0.ext y
  replace o_x0 := o_x0.ext y
  replace o_x2 := o_x2.ext y
  replace o_g0 := o_g0.ext y
  have ll23 := y.le
  refine ⟨_, rfl, ifN (fun h => absurd h (by simp)) (fun _ => ?_)⟩
  refine ⟨fun h => absurd h (bne_no rfl), fun _ => ?_⟩
  unfold laws_FnExactBookPost_j0
  refine ⟨_, _, _, fun W' hW => (bk_x0.ext ((Ext.drew _).trans hW)).loadA0 (by kernel_rfl), _, _, _, fun W' hW => (bk_a0.ext ((Ext.drew _).trans hW)).loadA0 (by kernel_rfl), ?_⟩
  have y := Ext.drew W22
  replace x := x.trans y
  replace bk_a0 := bk_a0.ext y
  replace bk_a2 := bk_a2.ext y
  replace bk_w0 := bk_w0.ext y
  replace bk_x0 := bk_x0.ext y
  replace bk_x2 := bk_x2.ext y
  replace bk_g0 := bk_g0.ext y
  replace o_w0 := o_w0.ext y
  replace o_x0 := o_x0.ext y
  replace o_x2 := o_x2.ext y
  replace o_g0 := o_g0.ext y
  have ll24 := y.le
  refine Ret.at (laws_toBook_c (h0.ext x) hc0 hz0 hb0) ?_
  rintro v W23 ⟨p_y0, c_y0, f_y0, hv, o_y0, y⟩
  subst hv
  have lt_o_y0 : ∀ k ∈ f_y0, W22.heap.size ≤ k ∧ k < W23.heap.size := o_y0.lt
  have y2 := y
  replace x := x.trans y
  replace bk_a0 := bk_a0.ext y
  replace bk_a2 := bk_a2.ext y
  replace bk_w0 := bk_w0.ext y
  replace bk_x0 := bk_x0.ext y
  replace bk_x2 := bk_x2.ext y
  replace bk_g0 := bk_g0.ext y
  replace o_w0 := o_w0.ext y
  replace o_x0 := o_x0.ext y
  replace o_x2 := o_x2.ext y
  replace o_g0 := o_g0.ext y
  have ll25 := y.le
  refine ⟨_, _, _, rfl, y, ?_⟩
  refine Ret.at (laws_eqBook_c o_x0.rows o_y0.rows hc0 hc0) ?_
  rintro v W24 ⟨hv, y⟩
  subst hv
  replace x := x.trans y
  replace bk_a0 := bk_a0.ext y
  replace bk_a2 := bk_a2.ext y
  replace bk_w0 := bk_w0.ext y
  replace bk_x0 := bk_x0.ext y
  replace bk_x2 := bk_x2.ext y
  replace bk_g0 := bk_g0.ext y
  replace o_w0 := o_w0.ext y
  replace o_x0 := o_x0.ext y
  replace o_x2 := o_x2.ext y
  replace o_g0 := o_g0.ext y
  have ll26 := y.le
  refine ⟨_, rfl, ifN (fun h => absurd h (by simp)) (fun _ => ?_)⟩
  refine ⟨_, _, _, _, _, fun W' hW => (bk_x2.ext ((Ext.drew _).trans hW)).loadA0 (by kernel_rfl), _, _, _, _, _, fun W' hW => (bk_a2.ext ((Ext.drew _).trans hW)).loadA0 (by kernel_rfl), ?_⟩
  have y := Ext.drew W24
  replace x := x.trans y
  replace bk_a0 := bk_a0.ext y
  replace bk_a2 := bk_a2.ext y
  replace bk_w0 := bk_w0.ext y
  replace bk_x0 := bk_x0.ext y
  replace bk_x2 := bk_x2.ext y
  replace bk_g0 := bk_g0.ext y
  replace o_w0 := o_w0.ext y
  replace o_x0 := o_x0.ext y
  replace o_x2 := o_x2.ext y
  replace o_g0 := o_g0.ext y
  have ll27 := y.le
  refine Ret.at (laws_toMoney_c (hr2.ext x) rfl (by simp only [bulks, D0.bulk, List.map_cons, List.map_nil, List.sum_cons, List.sum_nil]; omega)) ?_
  rintro v W25 ⟨vs, f_y2, hv, o_y2, nd_y2, y⟩
  subst hv
  obtain ⟨ty20, ty21, ty22p, ty22n, ty22c, ty22z, rfl, hdy2, ty22h⟩ := open_Money o_y2.reps rfl
  have lt_o_y2 : ∀ k ∈ f_y2, W24.heap.size ≤ k ∧ k < W25.heap.size := o_y2.lt
  have y2 := y
  replace x := x.trans y
  replace bk_a0 := bk_a0.ext y
  replace bk_a2 := bk_a2.ext y
  replace bk_w0 := bk_w0.ext y
  replace bk_x0 := bk_x0.ext y
  replace bk_x2 := bk_x2.ext y
  replace bk_g0 := bk_g0.ext y
  replace o_w0 := o_w0.ext y
  replace o_x0 := o_x0.ext y
  replace o_x2 := o_x2.ext y
  replace o_g0 := o_g0.ext y
  have ll28 := y.le
  refine ⟨_, _, _, _, _, rfl, y, ?_⟩
  refine Ret.at (laws_eqMoney_c o_x2.reps o_y2.reps rfl rfl) ?_
  rintro v W26 ⟨hv, y⟩
  subst hv
  replace x := x.trans y
  replace bk_a0 := bk_a0.ext y
  replace bk_a2 := bk_a2.ext y
  replace bk_w0 := bk_w0.ext y
  replace bk_x0 := bk_x0.ext y
  replace bk_x2 := bk_x2.ext y
  replace bk_g0 := bk_g0.ext y
  replace o_w0 := o_w0.ext y
  replace o_x0 := o_x0.ext y
  replace o_x2 := o_x2.ext y
  replace o_g0 := o_g0.ext y
  have ll29 := y.le
  refine ⟨_, rfl, ifN (fun h => absurd h (by simp)) (fun _ => ?_)⟩
  have cn0 := cntL_nonneg l0; have cb0 := cntL_le l0 (m := 4) (fun y hy => by rw [code_len (hc0 y hy)]; decide)
  have cl0 : cntL l0 ≤ 100000000 := by have := h0.1; omega
  refine ⟨_, _, _, bk_x0.loadA0 (by kernel_rfl), ?_⟩
  refine Ret.at (laws_markBook_c o_x0 hc0 (by omega) (by omega)) ?_
  rintro v W27 ⟨hv, on, ch⟩
  subst hv
  replace x := x.chg ch (fun k hk => by have := lt_o_x0 k hk; omega)
  replace bk_a0 := bk_a0.chg ch (fun hm => by have := lt_o_x0 _ hm; omega)
  replace bk_a2 := bk_a2.chg ch (fun hm => by have := lt_o_x0 _ hm; omega)
  replace bk_w0 := bk_w0.chg ch (fun hm => by have := lt_o_x0 _ hm; omega)
  replace bk_x0 := bk_x0.chg ch (fun hm => by have := lt_o_x0 _ hm; omega)
  replace bk_x2 := bk_x2.chg ch (fun hm => by have := lt_o_x0 _ hm; omega)
  replace bk_g0 := bk_g0.chg ch (fun hm => by have := lt_o_x0 _ hm; omega)
  replace o_w0 := o_w0.chg ch (fun k hk hm => by have h1 := lt_o_w0 k hk; have h2 := lt_o_x0 k hm; omega)
  replace o_x2 := o_x2.chg ch (fun k hk hm => by have h1 := lt_o_x2 k hk; have h2 := lt_o_x0 k hm; omega)
  replace o_g0 := o_g0.chg ch (fun k hk hm => by have h1 := lt_o_g0 k hk; have h2 := lt_o_x0 k hm; omega)
  have ll30 := ch.size
  replace o_x0 := on; clear on
  refine ⟨_, rfl, ?_⟩
  refine ⟨_, _, _, _, _, bk_x2.loadA0 (by kernel_rfl), ?_⟩
  refine Ret.at (laws_markMoney_c o_x2 nd_x2 rfl (by first | omega | (simp only [tcnts]; omega)) (by simp only [tcnts]; omega)) ?_
  rintro v W28 ⟨hv, on, ch⟩
  simp only [tcnts] at hv
  subst hv
  replace x := x.chg ch (fun k hk => by have := lt_o_x2 k hk; omega)
  replace bk_a0 := bk_a0.chg ch (fun hm => by have := lt_o_x2 _ hm; omega)
  replace bk_a2 := bk_a2.chg ch (fun hm => by have := lt_o_x2 _ hm; omega)
  replace bk_w0 := bk_w0.chg ch (fun hm => by have := lt_o_x2 _ hm; omega)
  replace bk_x0 := bk_x0.chg ch (fun hm => by have := lt_o_x2 _ hm; omega)
  replace bk_x2 := bk_x2.chg ch (fun hm => by have := lt_o_x2 _ hm; omega)
  replace bk_g0 := bk_g0.chg ch (fun hm => by have := lt_o_x2 _ hm; omega)
  replace o_w0 := o_w0.chg ch (fun k hk hm => by have h1 := lt_o_w0 k hk; have h2 := lt_o_x2 k hm; omega)
  replace o_x0 := o_x0.chg ch (fun k hk hm => by have h1 := lt_o_x0 k hk; have h2 := lt_o_x2 k hm; omega)
  replace o_g0 := o_g0.chg ch (fun k hk hm => by have h1 := lt_o_g0 k hk; have h2 := lt_o_x2 k hm; omega)
  have ll31 := ch.size
  replace o_x2 := on; clear on
  refine ⟨_, rfl, ?_⟩
  refine ifD (fun h => absurd h (by omega)) (fun _ => ?_)
  refine ⟨_, _, _, bk_g0.loadA0 (by kernel_rfl), _, _, _, bk_w0.loadA0 (by kernel_rfl), ?_⟩
  refine Ret.at (laws_eqBook_c o_g0.rows o_w0.rows co_g0 co_w0) ?_
  rintro v W29 ⟨hv, y⟩
  subst hv
  replace x := x.trans y
  replace bk_a0 := bk_a0.ext y
  replace bk_a2 := bk_a2.ext y
  replace bk_w0 := bk_w0.ext y
  replace bk_x0 := bk_x0.ext y
  replace bk_x2 := bk_x2.ext y
  replace bk_g0 := bk_g0.ext y
  replace o_w0 := o_w0.ext y
  replace o_x0 := o_x0.ext y
  replace o_x2 := o_x2.ext y
  replace o_g0 := o_g0.ext y
  have ll32 := y.le
  refine ⟨_, rfl, ifN (fun h => absurd h (by simp)) (fun _ => ?_)⟩
  refine ⟨fun h => absurd h (bne_no rfl), fun _ => ?_⟩
  unfold laws_FnExactBookPost_j1
  refine ⟨_, _, _, bk_g0.loadA0 (by kernel_rfl), ?_⟩
  refine Ret.at (laws_markBook_c o_g0 co_g0 (by omega) (by omega)) ?_
  rintro v W30 ⟨hv, on, ch⟩
  subst hv
  replace x := x.chg ch (fun k hk => by have := lt_o_g0 k hk; omega)
  replace bk_a0 := bk_a0.chg ch (fun hm => by have := lt_o_g0 _ hm; omega)
  replace bk_a2 := bk_a2.chg ch (fun hm => by have := lt_o_g0 _ hm; omega)
  replace bk_w0 := bk_w0.chg ch (fun hm => by have := lt_o_g0 _ hm; omega)
  replace bk_x0 := bk_x0.chg ch (fun hm => by have := lt_o_g0 _ hm; omega)
  replace bk_x2 := bk_x2.chg ch (fun hm => by have := lt_o_g0 _ hm; omega)
  replace bk_g0 := bk_g0.chg ch (fun hm => by have := lt_o_g0 _ hm; omega)
  replace o_w0 := o_w0.chg ch (fun k hk hm => by have h1 := lt_o_w0 k hk; have h2 := lt_o_g0 k hm; omega)
  replace o_x0 := o_x0.chg ch (fun k hk hm => by have h1 := lt_o_x0 k hk; have h2 := lt_o_g0 k hm; omega)
  replace o_x2 := o_x2.chg ch (fun k hk hm => by have h1 := lt_o_x2 k hk; have h2 := lt_o_g0 k hm; omega)
  have ll33 := ch.size
  replace o_g0 := on; clear on
  refine ⟨_, rfl, ?_⟩
  refine ⟨_, _, _, bk_g0.loadA0 (by kernel_rfl), ?_⟩
  refine Ret.at (laws_heldBook_c o_g0.rows co_g0 (by omega) (by omega)) ?_
  rintro v W31 ⟨hv, y⟩
  subst hv
  replace x := x.trans y
  replace bk_a0 := bk_a0.ext y
  replace bk_a2 := bk_a2.ext y
  replace bk_w0 := bk_w0.ext y
  replace bk_x0 := bk_x0.ext y
  replace bk_x2 := bk_x2.ext y
  replace bk_g0 := bk_g0.ext y
  replace o_w0 := o_w0.ext y
  replace o_x0 := o_x0.ext y
  replace o_x2 := o_x2.ext y
  replace o_g0 := o_g0.ext y
  have ll34 := y.le
  refine ⟨_, rfl, ifD (fun h => absurd h (by omega)) (fun _ => ?_)⟩
  refine ifD (fun h => absurd rfl h) (fun _ => ?_)
  have y := Ext.drew W31
  replace x := x.trans y
  replace bk_a0 := bk_a0.ext y
  replace bk_a2 := bk_a2.ext y
  replace bk_w0 := bk_w0.ext y
  replace bk_x0 := bk_x0.ext y
  replace bk_x2 := bk_x2.ext y
  replace bk_g0 := bk_g0.ext y
  replace o_w0 := o_w0.ext y
  replace o_x0 := o_x0.ext y
  replace o_x2 := o_x2.ext y
  replace o_g0 := o_g0.ext y
  have ll35 := y.le
  have bd0 := bk_a0
  have bd2 := bk_a2
  refine ⟨_, _, _, fun W' hW => (bd0.ext hW).loadA0 (by kernel_rfl), ?_⟩
  intro ssx W32 F
  have S := FlS.first F rfl
  have y := F.ext
  replace x := x.trans y
  replace bk_a0 := bk_a0.ext y
  replace bk_a2 := bk_a2.ext y
  replace bk_w0 := bk_w0.ext y
  replace bk_x0 := bk_x0.ext y
  replace bk_x2 := bk_x2.ext y
  replace bk_g0 := bk_g0.ext y
  replace o_w0 := o_w0.ext y
  replace o_x0 := o_x0.ext y
  replace o_x2 := o_x2.ext y
  replace o_g0 := o_g0.ext y
  have ll36 := y.le
  refine Ret.at (laws_toBook_c (h0.ext x) hc0 hz0 hb0) ?_
  rintro v W33 ⟨p_h0, c_h0, f_h0, hv, o_h0, y⟩
  subst hv
  have lt_o_h0 : ∀ k ∈ f_h0, W32.heap.size ≤ k ∧ k < W33.heap.size := o_h0.lt
  have yy := y
  replace x := x.trans y
  replace bk_a0 := bk_a0.ext y
  replace bk_a2 := bk_a2.ext y
  replace bk_w0 := bk_w0.ext y
  replace bk_x0 := bk_x0.ext y
  replace bk_x2 := bk_x2.ext y
  replace bk_g0 := bk_g0.ext y
  replace o_w0 := o_w0.ext y
  replace o_x0 := o_x0.ext y
  replace o_x2 := o_x2.ext y
  replace o_g0 := o_g0.ext y
  replace S := S.ext y
  have ll37 := y.le
  refine ⟨_, _, _, rfl, yy, ?_⟩
  refine ⟨_, _, _, _, _, fun W' hW => (bd2.ext hW).loadA0 (by kernel_rfl), ?_⟩
  intro ssx W34 F
  have S := S.step F
  have y := F.ext
  replace x := x.trans y
  replace bk_a0 := bk_a0.ext y
  replace bk_a2 := bk_a2.ext y
  replace bk_w0 := bk_w0.ext y
  replace bk_x0 := bk_x0.ext y
  replace bk_x2 := bk_x2.ext y
  replace bk_g0 := bk_g0.ext y
  replace o_w0 := o_w0.ext y
  replace o_x0 := o_x0.ext y
  replace o_x2 := o_x2.ext y
  replace o_g0 := o_g0.ext y
  replace o_h0 := o_h0.ext y
  have ll38 := y.le
  refine Ret.at (laws_toMoney_c (hr2.ext x) rfl (by simp only [bulks, D0.bulk, List.map_cons, List.map_nil, List.sum_cons, List.sum_nil]; omega)) ?_
  rintro v W35 ⟨vs, f_h2, hv, o_h2, nd_h2, y⟩
  subst hv
  obtain ⟨th20, th21, th22p, th22n, th22c, th22z, rfl, hdh2, th22h⟩ := open_Money o_h2.reps rfl
  have lt_o_h2 : ∀ k ∈ f_h2, W34.heap.size ≤ k ∧ k < W35.heap.size := o_h2.lt
  have yy := y
  replace x := x.trans y
  replace bk_a0 := bk_a0.ext y
  replace bk_a2 := bk_a2.ext y
  replace bk_w0 := bk_w0.ext y
  replace bk_x0 := bk_x0.ext y
  replace bk_x2 := bk_x2.ext y
  replace bk_g0 := bk_g0.ext y
  replace o_w0 := o_w0.ext y
  replace o_x0 := o_x0.ext y
  replace o_x2 := o_x2.ext y
  replace o_g0 := o_g0.ext y
  replace o_h0 := o_h0.ext y
  replace S := S.ext y
  have ll39 := y.le
  refine ⟨_, _, _, _, _, rfl, ?_⟩
  intro ssx W36 F
  have S := S.step F
  have y := F.ext
  replace x := x.trans y
  replace bk_a0 := bk_a0.ext y
  replace bk_a2 := bk_a2.ext y
  replace bk_w0 := bk_w0.ext y
  replace bk_x0 := bk_x0.ext y
  replace bk_x2 := bk_x2.ext y
  replace bk_g0 := bk_g0.ext y
  replace o_w0 := o_w0.ext y
  replace o_x0 := o_x0.ext y
  replace o_x2 := o_x2.ext y
  replace o_g0 := o_g0.ext y
  replace o_h0 := o_h0.ext y
  replace o_h2 := o_h2.ext y
  have ll40 := y.le
  have Sc := S
  refine Ret.at (impl_BookPost_c o_h0.rows hc0 hz0 hb0 a1 o_h2.reps rfl (by simp only [bulks, D0.bulk, List.map_cons, List.map_nil, List.sum_cons, List.sum_nil]; omega) (ht.ext x)) ?_
  rintro v W37 ⟨p_h0, m_h0, c_h0, f_h0, hv, o_h0, co_h0, ct_h0, y⟩
  subst hv
  have tn_h0 := cntL_nn ct_h0
  have lt_o_h0 : ∀ k ∈ f_h0, W36.heap.size ≤ k ∧ k < W37.heap.size := o_h0.lt
  replace x := x.trans y
  replace bk_a0 := bk_a0.ext y
  replace bk_a2 := bk_a2.ext y
  replace bk_w0 := bk_w0.ext y
  replace bk_x0 := bk_x0.ext y
  replace bk_x2 := bk_x2.ext y
  replace bk_g0 := bk_g0.ext y
  replace o_w0 := o_w0.ext y
  replace o_x0 := o_x0.ext y
  replace o_x2 := o_x2.ext y
  replace o_g0 := o_g0.ext y
  replace S := S.ext y
  have ll41 := y.le
  refine ⟨_, _, _, _, rfl, ?_⟩
  intro ssx W38 r_h0 F G_h0
  have S := S.step F
  have y := F.ext
  replace x := x.trans y
  replace bk_a0 := bk_a0.ext y
  replace bk_a2 := bk_a2.ext y
  replace bk_w0 := bk_w0.ext y
  replace bk_x0 := bk_x0.ext y
  replace bk_x2 := bk_x2.ext y
  replace bk_g0 := bk_g0.ext y
  replace o_w0 := o_w0.ext y
  replace o_x0 := o_x0.ext y
  replace o_x2 := o_x2.ext y
  replace o_g0 := o_g0.ext y
  replace o_h0 := o_h0.ext y
  have ll42 := y.le
  have FF := F
  obtain ⟨sr_h0, lr_h0, bk_h0⟩ := S.blk G_h0 rfl
  have ap_h0 := Sc.apart FF G_h0
  obtain ⟨W39, st, bq, ch, sz⟩ := bk_h0.storeA0 (P := P) (t := T_impl_Book) (xs := [.slice p_h0 m_h0 c_h0]) (by kernel_rfl) rfl (by simp [Value.oneCell'])
  replace x := x.chg ch (by simp; omega)
  replace bk_a0 := bk_a0.chg ch (by simp; omega)
  replace bk_a2 := bk_a2.chg ch (by simp; omega)
  replace bk_w0 := bk_w0.chg ch (by simp; omega)
  replace bk_x0 := bk_x0.chg ch (by simp; omega)
  replace bk_x2 := bk_x2.chg ch (by simp; omega)
  replace bk_g0 := bk_g0.chg ch (by simp; omega)
  replace o_w0 := o_w0.chg ch (fun k hk hm => by have h1 := lt_o_w0 k hk; simp at hm; omega)
  replace o_x0 := o_x0.chg ch (fun k hk hm => by have h1 := lt_o_x0 k hk; simp at hm; omega)
  replace o_x2 := o_x2.chg ch (fun k hk hm => by have h1 := lt_o_x2 k hk; simp at hm; omega)
  replace o_g0 := o_g0.chg ch (fun k hk hm => by have h1 := lt_o_g0 k hk; simp at hm; omega)
  replace o_h0 := o_h0.chg ch (fun k hk hm => by have h1 := lt_o_h0 k hk; simp at hm; omega)
  have bk_h0 := bq; clear bq
  have ll43 := ch.size
  refine ⟨_, st, ?_⟩
  refine ⟨_, _, _, bk_h0.loadA0 (by kernel_rfl), _, _, _, bk_w0.loadA0 (by kernel_rfl), ?_⟩
  refine Ret.at (laws_eqBook_c o_h0.rows o_w0.rows co_h0 co_w0) ?_
  rintro v W40 ⟨hv, y⟩
  subst hv
  replace x := x.trans y
  replace bk_a0 := bk_a0.ext y
  replace bk_a2 := bk_a2.ext y
  replace bk_w0 := bk_w0.ext y
  replace bk_x0 := bk_x0.ext y
  replace bk_x2 := bk_x2.ext y
  replace bk_g0 := bk_g0.ext y
  replace bk_h0 := bk_h0.ext y
  replace o_w0 := o_w0.ext y
  replace o_x0 := o_x0.ext y
  replace o_x2 := o_x2.ext y
  replace o_g0 := o_g0.ext y
  replace o_h0 := o_h0.ext y
  have ll44 := y.le
  refine ⟨_, rfl, ifN (fun h => absurd h (by simp)) (fun _ => ?_)⟩
  refine ⟨fun h => absurd h (bne_no rfl), fun _ => ?_⟩
  unfold laws_FnExactBookPost_j2
  refine ⟨_, _, _, bk_g0.loadA0 (by kernel_rfl), ?_⟩
  refine Ret.at (laws_heldBook_c o_g0.rows co_g0 (by omega) (by omega)) ?_
  rintro v W41 ⟨hv, y⟩
  subst hv
  replace x := x.trans y
  replace bk_a0 := bk_a0.ext y
  replace bk_a2 := bk_a2.ext y
  replace bk_w0 := bk_w0.ext y
  replace bk_x0 := bk_x0.ext y
  replace bk_x2 := bk_x2.ext y
  replace bk_g0 := bk_g0.ext y
  replace bk_h0 := bk_h0.ext y
  replace o_w0 := o_w0.ext y
  replace o_x0 := o_x0.ext y
  replace o_x2 := o_x2.ext y
  replace o_g0 := o_g0.ext y
  replace o_h0 := o_h0.ext y
  have ll45 := y.le
  refine ⟨_, rfl, ifD (fun h => absurd h (by omega)) (fun _ => ?_)⟩
  refine ifD (fun h => absurd rfl h) (fun _ => ?_)
  exact ⟨rfl, x⟩
end Go.Proofs.YteakifedfnnmeaaDoor

namespace Go.Proofs.YteakifedfnnmeaaDoor.Sx
open Go Go.RowKit Go.ChangeShapes Go.WideShapes
set_option linter.unusedVariables false
set_option linter.unusedSimpArgs false
/-- each named variable's type can be read and is a row of the table -/
def rowedV (P : Program) (ns : List String) : Bool := ns.all fun n => ((P.globalNamed n).bind (P.globals[·]?)).all fun gl => P.readableRec gl.type && decide (gl.type < P.types.size)
section
variable {H : Type} {enc : TypeId × Value → H} {P : Program}
theorem trodAll_ext (hl : laidOutB P = true) {W W' : World} (hb : Ext W W') (sp' : Nat → Bool) : ∀ {ts : List TypeId} {vs : List Value} {ds : List (DataW H)} {ps : List MemPlace},
    (∀ t ∈ ts, P.readableRec t = true ∧ t < P.types.size) → (∀ p ∈ ps, p.block < W.heap.size) → (∀ p ∈ ps, sp' p.block = true) →
    DataW.TrodAll enc P W 0 (fun _ => true) true ts vs ds ps → DataW.TrodAll enc P W' 0 sp' true ts vs ds ps
  | [], _, _, _, _, _, _, h => by
    obtain ⟨rfl, rfl, rfl⟩ := trodAll_nil h
    exact rfl
  | t :: ts, _, _, _, hr, hlt, hsp, h => by
    obtain ⟨v, vs1, d, ds1, a, b, rfl, rfl, rfl, h1, h2⟩ := trodAll_cons h
    have hrt := hr t (by simp)
    exact ⟨a, b, WideElems.Trod_stays hl hrt.1 hrt.2 h1 (fun x hx => Below.same hb (hlt x (by simp [hx]))) (fun x hx => hsp x (by simp [hx])),
      trodAll_ext hl hb sp' (fun u hu => hr u (by simp [hu])) (fun x hx => hlt x (by simp [hx])) (fun x hx => hsp x (by simp [hx])) h2, rfl⟩
theorem trodVars_sp (hl : laidOutB P = true) {W W' : World} (hb : Ext W W') (sp' : Nat → Bool) :
    ∀ {ns : List String} {gs : List (DataW H)} {ps : List MemPlace}, rowedV P ns = true → (∀ p ∈ ps, sp' p.block = true) → DataW.TrodVars enc P W (fun _ => true) ns gs ps → DataW.TrodVars enc P W' sp' ns gs ps
  | [], [], _, _, _, h => h
  | [], _ :: _, _, _, _, h => h.elim
  | _ :: _, [], _, _, _, h => h.elim
  | n :: ns, d :: ds, ps, hv, hsp, h => by
    have hlt := h.lt
    obtain ⟨g, t, cs, fuel, p, q, h1, h2, h3, h4, hs, e⟩ := h
    simp only [rowedV, List.all_cons, Bool.and_eq_true] at hv
    have ht : P.readableRec t = true ∧ t < P.types.size := by
      have := hv.1
      rw [h1] at this
      cases hg : P.globals[g]? with
      | none => rw [hg] at h2; cases h2
      | some gl =>
        rw [hg] at h2
        obtain rfl : gl.type = t := Option.some.inj h2
        simpa [hg] using this
    have hp : ∀ x ∈ p, x.block < W.heap.size := fun x hx => hlt x (by rw [e]; simp [hx])
    have h3' : W'.var? P n = some cs := by
      unfold World.var? at h3 ⊢
      rw [h1] at h3 ⊢
      simp only [Option.bind_some] at h3 ⊢
      have hg : g < W.heap.size := by
        cases hh : W.heap[g]? with
        | none => rw [hh] at h3; cases h3
        | some o => exact (Array.getElem?_eq_some_iff.1 hh).1
      rw [hb.block g hg]; exact h3
    exact ⟨g, t, cs, fuel, p, q, h1, h2, h3', DataW.trod_stays (kids_book hl ht.1) (book_sized ht.1) (fun h => by cases h) ⟨ht.2, book_self t⟩ h4 (fun x hx => Below.same hb (hp x hx)) (fun x hx => hsp x (by rw [e]; simp [hx])),
      trodVars_sp hl hb sp' (by simpa [rowedV] using hv.2) (fun x hx => hsp x (by rw [e]; simp [hx])) hs, e⟩
/-- what the row asks of a law that answered true in a world with more behind it -/
theorem post_of_ext {f : Func} {s : ChangeSpec} {apart fresh handsOn again : Bool} {W W' : World} {args : Array Value} {ds gs : List (DataW H)} {before : List MemPlace} {tb : TypeId}
    (hl : laidOutB P = true) (hpar : ∀ t ∈ f.params.toList, P.readableRec t = true ∧ t < P.types.size) (hvr : rowedV P s.vars = true)
    (hrt : f.resultTypes = #[tb]) (htb : P.underlying tb = some .bool)
    (hW : DataW.Whole enc P f.params.toList s.vars apart W args.toList ds gs before) (hx : Ext W W')
    (hfn : s.fn H (ds ++ gs) = { results := [.lit (.bool true)], args := ds, vars := gs }) :
    s.post enc P f apart fresh handsOn again W args (.bool true) W' := by
  have hW0 := hW
  have hlt : ∀ p ∈ before, p.block < W.heap.size := hW.lt
  obtain ⟨pa, pv, hA, hV, rfl, hz, hn⟩ := hW
  have hlta : ∀ p ∈ pa, p.block < W.heap.size := fun p hp => hlt p (by simp [hp])
  have hltv : ∀ p ∈ pv, p.block < W.heap.size := fun p hp => hlt p (by simp [hp])
  have hr : (Value.bool true).resultList f.resultTypes.size = [Value.bool true] := by rw [hrt]; rfl
  refine ⟨ds, gs, pa ++ pv, [], pa, pv, hW0, ?_, ?_, ?_, Below.frame hx _, fun _ => ?_⟩
  · rw [hfn, hr, hrt]
    exact trodAll_mk1 (shut_bool htb _)
  · rw [hfn]
    exact trodAll_ext hl hx _ hpar hlta (fun p hp => by simpa using hlta p hp) hA
  · rw [hfn]
    exact trodVars_sp hl hx _ hvr (fun p hp => by simpa using hltv p hp) hV
  · refine ⟨?_, (.lit (.bool true)) :: ds, gs, pa ++ pv, ⟨[] ++ pa, pv, ?_, ?_, by simp, ?_, ?_⟩, fun p hp _ => hp⟩
    · rw [hr, hrt]
      exact ok_one (f := { f with resultTypes := #[tb] }) rfl rfl (okWide_bool_mk htb _)
    · rw [hr, hrt]
      exact trodAll_append (trodAll_ext hl hx _ hpar hlta (fun _ _ => rfl) hA) (trodAll_mk1 (shut_bool htb _))
    · exact trodVars_sp hl hx _ hvr (fun _ _ => rfl) hV
    · intro b off hp
      have := hlt _ hp
      rw [Below.frozen hx (p := ⟨b, off, none⟩) this]
      exact hz b off hp
    · exact hn
end
end Go.Proofs.YteakifedfnnmeaaDoor.Sx

namespace Go.Proofs.YteakifedfnnmeaaDoor.Sx
open Go Go.RowKit Go.ChangeShapes Go.WideShapes
set_option linter.unusedVariables false
set_option linter.unusedSimpArgs false
/-- the cells of a struct's fields, one behind the other -/
def flatF (P : Program) (g : TypeId → Option (List C0)) : Nat → List Field → Option (List C0)
  | _, [] => some []
  | o, f :: r => match Nat.beq f.offset o, g f.type with
    | true, some a => match Nat.beq (P.cellsOf f.type) a.length, flatF P g (o + a.length) r with
      | true, some b => some (a ++ b)
      | _, _ => none
    | _, _ => none
/-- the cells of a type -/
def flatC (P : Program) : Nat → TypeId → Option (List C0)
  | 0, _ => none
  | n + 1, t => match P.underlying t with
    | some .bool => some [.bool]
    | some (.int .i64) => some [.int]
    | some .string => some [.str]
    | some (.slice e) => match P.underlying e, P.cellsOf e with
      | some (.int .i64), 1 => some [.ints]
      | _, _ => none
    | some (.struct fs) => match flatF P (flatC P n) 0 fs.toList with
      | some a => if Nat.beq (P.cellsOf t) a.length then some a else none
      | none => none
    | _ => none
section
variable {H : Type} {enc : TypeId × Value → H} {P : Program} {w : World}
theorem seg_of_cells {b off n : Nat} {sp : Option Nat} {cs : List Value} (h : w.cells? 0 ⟨b, off, none⟩ n = some cs) : cs.length = n ∧ Seg w b off cs := by
  obtain ⟨_, hl, hc⟩ := World.cells?_some h
  refine ⟨hl, fun j v hj => ?_⟩
  have hjl : j < n := by rw [← hl]; exact (List.getElem?_eq_some_iff.1 hj).1
  rw [← addr_add, hc j hjl, hj]
theorem spot_none {a : Addr} {v : Value} (h : w.cell? a = some v) : a = ⟨a.block, a.off, none⟩ := by
  obtain ⟨b, o, spot⟩ := a
  have : spot = none := by simpa using World.cell?_spot h
  subst this; rfl
theorem ints_of_trod {t e : TypeId} {fuel : Nat} {sp : Nat → Bool} {hd : Bool} {cs : List Value} {x : DataW H × List MemPlace} (ht : P.underlying t = some (.slice e)) (he : P.underlying e = some (.int .i64)) (hc : P.cellsOf e = 1)
    (h : DataW.trod enc P w 0 sp hd fuel t cs = some x) : ∃ p n c zs, cs = [.slice p n c] ∧ IntsR w p n c zs ∧ zs.length ≤ 9223372036854775807 := by
  rcases Go.ChangeShapes.open_ints ht he hc h with ⟨rfl, _⟩ | ⟨a, len, cap, zs, rfl, _, hl, hm, hz, _, hcell, _⟩
  · exact ⟨none, 0, 0, [], rfl, ⟨rfl, Nat.le_refl _, by omega, fun h => absurd h (by omega)⟩, by simp⟩
  · have hlz : len ≤ zs.length := by rw [hz]; split <;> omega
    refine ⟨some a, len, cap, zs.take len, rfl, ⟨by simp; omega, hl, by simpa [maxLen] using hm, fun hpos => ?_⟩, by simp only [maxLen] at hm; simp; omega⟩
    have h0 := hcell 0 (by omega)
    have hs := spot_none h0
    have ha : a = ⟨a.block, a.off, none⟩ := by
      obtain ⟨b, o, s⟩ := a
      simp [Addr.add] at hs
      simp [hs]
    refine ⟨a.block, a.off, by rw [← ha], fun j v hj => ?_⟩
    simp only [List.getElem?_map, List.getElem?_take] at hj
    split at hj
    · rename_i hjl
      have hjz : j < zs.length := by omega
      have := hcell j hjz
      rw [ha, addr_add] at this
      rw [this]
      rw [List.getElem?_eq_getElem hjz] at hj
      simp at hj
      rw [← hj]
      simp [hjz]
    · simp at hj
theorem flatF_open {g : TypeId → Option (List C0)} {n : Nat} {sp : Nat → Bool} {hd : Bool}
    (ih : ∀ {t : TypeId} {ks : List C0} {cs : List Value} {x : DataW H × List MemPlace}, g t = some ks → DataW.trod enc P w 0 sp hd n t cs = some x → ∃ ds, Reps w cs ds ∧ ds.map D0.code = ks ∧ ∀ d ∈ ds, d.ok) :
    ∀ (fs : List Field) (o : Nat) (ks : List C0) (cs : List Value), flatF P g o fs = some ks → cs.length = o + ks.length →
      (∀ f ∈ fs, ∃ x, DataW.trod enc P w 0 sp hd n f.type ((cs.drop f.offset).take (P.cellsOf f.type)) = some x) → ∃ ds, Reps w (cs.drop o) ds ∧ ds.map D0.code = ks ∧ ∀ d ∈ ds, d.ok
  | [], o, ks, cs, hf, hl, _ => by
    simp only [flatF, Option.some.injEq] at hf
    subst hf
    rw [List.drop_of_length_le (by simp at hl; omega)]
    exact ⟨[], trivial, rfl, by simp⟩
  | f :: r, o, ks, cs, hf, hl, hx => by
    simp only [flatF] at hf
    split at hf
    · rename_i a h1 h2
      split at hf
      · rename_i b h3 h4
        have h1' := Nat.eq_of_beq_eq_true h1
        have h3' := Nat.eq_of_beq_eq_true h3
        cases hf
        rw [List.length_append] at hl
        obtain ⟨x, hx0⟩ := hx f (by simp)
        obtain ⟨ds, r1, c1, k1⟩ := ih h2 hx0
        obtain ⟨es, r2, c2, k2⟩ := flatF_open ih r (o + a.length) b cs h4 (by omega) (fun f' hf' => hx f' (by simp [hf']))
        refine ⟨ds ++ es, ?_, by simp [c1, c2], fun d hd => ?_⟩
        · rw [h1', h3'] at r1
          have : cs.drop o = (cs.drop o).take a.length ++ cs.drop (o + a.length) := by
            rw [← List.drop_drop, List.take_append_drop]
          rw [this]
          exact r1.append r2
        · rcases List.mem_append.1 hd with h | h
          · exact k1 d h
          · exact k2 d h
      · cases hf
    · cases hf
theorem flat_open {sp : Nat → Bool} {hd : Bool} : ∀ (m : Nat) {fuel : Nat} {t : TypeId} {ks : List C0} {cs : List Value} {x : DataW H × List MemPlace}, flatC P m t = some ks → DataW.trod enc P w 0 sp hd fuel t cs = some x →
    ∃ ds, Reps w cs ds ∧ ds.map D0.code = ks ∧ ∀ d ∈ ds, d.ok
  | 0, _, _, _, _, _, h, _ => by cases h
  | m + 1, fuel, t, ks, cs, x, h, ht => by
    simp only [flatC] at h
    split at h
    · rename_i hu
      obtain ⟨b, rfl, _⟩ := DataW.trod_bool hu ht
      cases h
      exact ⟨[.bool b], ⟨rfl, trivial⟩, rfl, by simp [D0.ok]⟩
    · rename_i hu
      obtain ⟨b, rfl, _, hw⟩ := DataW.trod_int hu ht
      cases h
      refine ⟨[.int b], ⟨rfl, trivial⟩, rfl, ?_⟩
      simp only [List.mem_singleton, forall_eq, D0.ok]
      simp [Lit.wf, IntKind.min, IntKind.max, IntKind.bits, IntKind.signed] at hw
      omega
    · rename_i hu
      obtain ⟨s, rfl, _, hw⟩ := DataW.trod_string hu ht
      cases h
      exact ⟨[.str s], ⟨rfl, trivial⟩, rfl, by simpa [D0.ok, maxLen] using hw⟩
    · rename_i e hu
      split at h
      · rename_i he hc
        cases h
        obtain ⟨p, n, c, zs, rfl, hr, hz⟩ := ints_of_trod hu he hc ht
        exact ⟨[.ints zs], ⟨⟨p, n, c, rfl, hr⟩, trivial⟩, rfl, by simpa [D0.ok] using hz⟩
      · cases h
    · rename_i fs hu
      split at h
      · rename_i a hf
        split at h
        · rename_i hsz
          cases h
          obtain ⟨xs, n, rfl, _, hlen, hxl, hfs⟩ := DataW.trod_struct hu ht
          have hsz' := Nat.eq_of_beq_eq_true hsz
          have := flatF_open (fun h1 h2 => flat_open m h1 h2) fs.toList 0 ks cs hf (by omega) (fun f hf => by
            obtain ⟨i, hi⟩ := List.getElem?_of_mem hf
            have hil : i < fs.size := by simpa using (List.getElem?_eq_some_iff.1 hi).1
            have := hfs i f (by simpa using hi)
            rw [List.getElem?_eq_getElem (by omega)] at this
            exact ⟨_, this⟩)
          simpa using this
        · cases h
      · cases h
    · cases h
theorem rows_open {sp : Nat → Bool} {hd : Bool} {m fuel : Nat} {t e : TypeId} {ks : List C0} {cs : List Value} {x : DataW H × List MemPlace} (hu : P.underlying t = some (.slice e)) (hk : flatC P m e = some ks) (hc : P.cellsOf e = ks.length) (hpos : 0 < ks.length)
    (ht : DataW.trod enc P w 0 sp hd fuel t cs = some x) : ∃ p n c l, cs = [.slice p n c] ∧ RowsR w ks.length p n c l ∧ (∀ y ∈ l, y.map D0.code = ks) ∧ ∀ y ∈ l, ∀ d ∈ y, d.ok := by
  rcases Go.Deep.open_slice hu ht with ⟨rfl, _⟩ | ⟨a, len, cap, mm, n, D, Pl, rfl, _, hl, hm, hmm, _, hx⟩
  · exact ⟨none, 0, 0, [], rfl, RowsR.nil _ _ _ (by omega), by simp, by simp⟩
  · have hlm : len ≤ mm := by rw [hmm]; split <;> omega
    have hex : ∀ i, i < len → ∃ ds : List D0, (∃ cs', cs'.length = ks.length ∧ Reps w cs' ds ∧ w.cells? 0 (a.add (i * ks.length)) ks.length = some cs') ∧ ds.map D0.code = ks ∧ ∀ d ∈ ds, d.ok := fun i hi => by
      obtain ⟨cs', h1, h2⟩ := hx i (by omega)
      obtain ⟨ds, r, c, k⟩ := flat_open m hk h2
      rw [hc] at h1
      exact ⟨ds, ⟨cs', (World.cells?_some h1).2.1, r, h1⟩, c, k⟩
    obtain ⟨F, hF⟩ := Go.Deep.choose_lt hex
    refine ⟨some a, len, cap, (List.range len).map F, rfl, ⟨by simp, hl, by simpa [maxLen] using hm, fun hn => ?_⟩, ?_, ?_⟩
    · obtain ⟨⟨cs', _, _, h1⟩, _⟩ := hF 0 hn
      have h0 := (World.cells?_some h1).2.2 0 hpos
      have hlen := (World.cells?_some h1).2.1
      rw [List.getElem?_eq_getElem (by omega)] at h0
      have hs := spot_none h0
      have ha : a = ⟨a.block, a.off, none⟩ := by
        obtain ⟨b, o, s⟩ := a
        simp [Addr.add] at hs
        simp [hs]
      refine ⟨a.block, a.off, by rw [← ha], fun i y hy => ?_⟩
      have hil : i < len := by
        have := (List.getElem?_eq_some_iff.1 hy).1
        simpa using this
      obtain ⟨⟨cs', q1, q2, q3⟩, _⟩ := hF i hil
      have : y = F i := by simpa [hil] using hy.symm
      subst this
      rw [ha, addr_add] at q3
      exact ⟨cs', q1, q2, (seg_of_cells (sp := none) q3).2⟩
    · intro y hy
      obtain ⟨i, hi, rfl⟩ := List.mem_map.1 hy
      exact (hF i (by simpa using hi)).2.1
    · intro y hy
      obtain ⟨i, hi, rfl⟩ := List.mem_map.1 hy
      exact (hF i (by simpa using hi)).2.2
theorem book_open {sp : Nat → Bool} {hd : Bool} {m fuel : Nat} {t ft e : TypeId} {fs : Array Field} {ks : List C0} {cs : List Value} {x : DataW H × List MemPlace} (ht : P.underlying t = some (.struct fs)) (hu : P.underlying ft = some (.slice e))
    (hk : flatC P m e = some ks) (hc : P.cellsOf e = ks.length) (hpos : 0 < ks.length) (hf : (fs.toList.map fun f => (f.type, f.offset), P.cellsOf t, P.cellsOf ft) = ([(ft, 0)], 1, 1))
    (h : DataW.trod enc P w 0 sp hd fuel t cs = some x) : ∃ p n c l, cs = [.slice p n c] ∧ RowsR w ks.length p n c l ∧ (∀ y ∈ l, y.map D0.code = ks) ∧ ∀ y ∈ l, ∀ d ∈ y, d.ok := by
  obtain ⟨xs, n, rfl, _, hlen, hxl, hfs⟩ := DataW.trod_struct ht h
  simp only [Prod.mk.injEq] at hf
  obtain ⟨h1, h2, h3⟩ := hf
  cases hl : fs.toList with
  | nil => rw [hl] at h1; cases h1
  | cons f r =>
    rw [hl] at h1
    simp only [List.map_cons, List.cons.injEq, Prod.mk.injEq, List.map_eq_nil_iff] at h1
    obtain ⟨h1, hr⟩ := h1
    subst hr
    have hs : fs.size = 1 := by rw [← Array.length_toList, hl]; rfl
    have hf0 : fs[0]? = some f := by
      have : fs.toList[0]? = some f := by rw [hl]; rfl
      simpa using this
    have := hfs 0 f hf0
    rw [List.getElem?_eq_getElem (by omega), h1.1, h1.2, h3, List.drop_zero, List.take_of_length_le (by omega)] at this
    exact rows_open hu hk hc hpos this
end
end Go.Proofs.YteakifedfnnmeaaDoor.Sx

namespace Go.Proofs.YteakifedfnnmeaaDoor
open Go Go.Proofs.YteakifedfnnmeaaDoor.Sx
set_option linter.unusedVariables false
set_option linter.unusedSimpArgs false
def curData {H : Type} (r : CurRow) : DataW H := .agg [.lit (.string r.1.data.toList), .lit (.string r.2.1.data.toList), .lit (.int .i64 r.2.2.1), .lit (.int .i64 r.2.2.2)]
theorem bytes_eq {a b : ByteArray} (h : a.data.toList = b.data.toList) : a = b := by
  obtain ⟨⟨x⟩⟩ := a; obtain ⟨⟨y⟩⟩ := b
  simp at h; subst h; rfl
set_option maxRecDepth 100000 in
theorem cur_cells {H : Type} {enc : TypeId × Value → H} {w : World} {sp : Nat → Bool} {hd : Bool} {fuel : Nat} {cs : List Value} {r : CurRow} {p : List MemPlace}
    (h : DataW.trod enc P w 0 sp hd fuel T_impl_currency cs = some (curData r, p)) : cs = curCells r := by
  obtain ⟨fs, hu, hsz, ⟨f0, e0, t0, o0⟩, ⟨f1, e1, t1, o1⟩, ⟨f2, e2, t2, o2⟩, ⟨f3, e3, t3, o3⟩⟩ := cur_fields
  have hu : P.underlying T_impl_currency = some (.struct fs) := hu
  have hs : P.underlying T_string = some .string := by kernel_rfl
  have hi : P.underlying T_int = some (.int .i64) := by kernel_rfl
  have cS : P.cellsOf T_string = 1 := by kernel_rfl
  have cI : P.cellsOf T_int = 1 := by kernel_rfl
  have cC : P.cellsOf T_impl_currency = 4 := by kernel_rfl
  obtain ⟨xs, n, rfl, hx, hlen, hxl, hf⟩ := DataW.trod_struct hu h
  rw [cC] at hlen
  rw [hsz] at hxl
  have h0 := hf 0 f0 e0; have h1 := hf 1 f1 e1; have h2 := hf 2 f2 e2; have h3 := hf 3 f3 e3
  rw [t0, o0, cS] at h0; rw [t1, o1, cS] at h1; rw [t2, o2, cI] at h2; rw [t3, o3, cI] at h3
  match cs, hlen, xs, hxl, hx, h0, h1, h2, h3 with
  | [c0, c1, c2, c3], _, [x0, x1, x2, x3], _, hx, h0, h1, h2, h3 =>
    simp only [List.drop_succ_cons, List.drop_zero, List.take_succ_cons, List.take_zero, List.getElem?_cons_zero, List.getElem?_cons_succ] at h0 h1 h2 h3
    obtain ⟨s0, a0, b0, _⟩ := DataW.trod_string hs h0
    obtain ⟨s1, a1, b1, _⟩ := DataW.trod_string hs h1
    obtain ⟨z2, a2, b2, _⟩ := DataW.trod_int hi h2
    obtain ⟨z3, a3, b3, _⟩ := DataW.trod_int hi h3
    simp only [Prod.mk.injEq, curData, DataW.agg.injEq, List.map_cons, List.map_nil, List.cons.injEq, b0, b1, b2, b3, DataW.lit.injEq, Lit.string.injEq, Lit.int.injEq, true_and, and_true] at hx
    simp only [List.cons.injEq, and_true] at a0 a1 a2 a3
    obtain ⟨⟨q0, q1, q2, q3⟩, _⟩ := hx
    rw [a0, a1, a2, a3, ← bytes_eq q0, ← bytes_eq q1, ← q2, ← q3]
    rfl
theorem flat_of_rows : ∀ (l : List CurRow) (cs : List Value), cs.length = l.length * 4 → (∀ i (hi : i < l.length), (cs.drop (i * 4)).take 4 = curCells (l[i]'hi)) → cs = l.flatMap curCells
  | [], cs, h, _ => by simpa using h
  | r :: l, cs, h, hr => by
    have h0 := hr 0 (by simp)
    simp only [Nat.zero_mul, List.drop_zero, List.getElem_cons_zero] at h0
    rw [List.flatMap_cons, ← h0, ← flat_of_rows l (cs.drop 4) (by simp at h ⊢; omega) (fun i hi => by
      have := hr (i + 1) (by simpa using hi)
      rw [List.drop_drop, show 4 + i * 4 = (i + 1) * 4 by omega]
      simpa using this), List.take_append_drop]
def curVar : String := "loop.example/g00793/impl.currencies"
set_option maxRecDepth 100000 in
theorem tab_of_head {W : World} {rest : List (String × DataW Unit)} (h : laidMet P ((curVar, Rows.laid_loop_example_g00793_impl_currencies) :: rest) W) : Tab W := by
  obtain ⟨ps, ⟨g, t, cs, fuel, p, q, hg, ht, hvar, hd, _, _⟩, _⟩ := h
  have hg0 : P.globalNamed curVar = some 0 := by kernel_rfl
  have ht0 : (P.globals[0]?).map (·.type) = some T_20_impl_currency := by kernel_rfl
  obtain rfl := Option.some.inj (hg0.symm.trans hg)
  obtain rfl := Option.some.inj (ht0.symm.trans ht)
  have hu : P.underlying T_20_impl_currency = some (.array 20 T_impl_currency) := und_T_20_impl_currency
  have cC : P.cellsOf T_impl_currency = 4 := by kernel_rfl
  have cA : P.cellsOf T_20_impl_currency = 80 := by kernel_rfl
  obtain ⟨xs, m, rfl, hx, hlen, hxl, hf⟩ := DataW.trod_array hu hd
  rw [cA] at hlen
  have hdat : (Rows.laid_loop_example_g00793_impl_currencies : DataW Unit) = .agg (implTab.map curData) := by rfl
  rw [hdat] at hx
  simp only [Prod.mk.injEq, DataW.agg.injEq] at hx
  have hl := impl_length
  have hcs : cs.toList = implTab.flatMap curCells := by
    refine flat_of_rows implTab _ (by omega) fun i hi => ?_
    have h1 := hf i (by omega)
    rw [cC] at h1
    have h2 : (xs.map (·.1))[i]? = some (curData (implTab[i]'hi)) := by rw [← hx.1]; simp [hi]
    rw [List.getElem?_map] at h2
    cases h3 : xs[i]? with
    | none => rw [h3] at h2; cases h2
    | some x =>
      rw [h3] at h1 h2
      simp only [Option.map_some, Option.some.injEq] at h2
      obtain ⟨d, pp⟩ := x
      simp only at h2
      subst h2
      exact cur_cells h1
  intro i v hv
  have := World.var?_cell hg0 hvar i
  rw [Nat.zero_add, this, ← hv, ← hcs]
  simp
theorem tab_of_laid {W : World} (h : laidMetH P [(curVar, Rows.laid_loop_example_g00793_impl_currencies)] W) : Tab W := tab_of_head (rest := []) h
/-- a world for the witness: the settled one, the table laid in its variable -/
noncomputable def laidWorld (os : Os) (args : Array Value) : World :=
  { World.holding P os ⟨#[], args, []⟩ with heap := (World.holding P os ⟨#[], args, []⟩).heap.modify 0 fun
      | .cells _ t frozen => .cells ⟨implTab.flatMap curCells⟩ t frozen
      | o => o }
theorem trodVars_one {H : Type} {enc : TypeId × Value → H} {w : World} {sp : Nat → Bool} {n : String} {gs : List (DataW H)} {ps : List MemPlace} (h : DataW.TrodVars enc P w sp [n] gs ps) : ∃ g, gs = [g] := by
  match gs, h with
  | [g], _ => exact ⟨g, rfl⟩
  | g :: g2 :: r, h =>
    obtain ⟨_, _, _, _, _, _, _, _, _, _, h2, _⟩ := h
    exact h2.elim
end Go.Proofs.YteakifedfnnmeaaDoor
