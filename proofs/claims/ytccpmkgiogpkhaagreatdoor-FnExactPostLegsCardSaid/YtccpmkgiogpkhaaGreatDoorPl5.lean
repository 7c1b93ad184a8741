/-
  Parts of the proof of postLegs_holds: COrdL, COrd, CSums, CSumsS, CPlanDone, CBalanced, CEntL, Mu, CChange, SxFlS, CBookPoI, CMust, CPostAll, CEntI, CBookPoS, CEntS, DM, DMarkB, WPostLegs, SxRow, SxOpen, CTab.
  Conditions: none.
-/
import Derived.WalkKit
import Derived.Test.YtccpmkgiogpkhaaGreatDoorProg
import Derived.Conc.MuLone
import Derived.KernelRfl
import Derived.Defers
import Derived.Recover
import Derived.ProofKit
import Derived.Deep.Slices
import Derived.Test.YtccpmkgiogpkhaaGreatDoorRows
import Derived.OpenShut
import Derived.Lib.LaidTab
import Derived.Test.YtccpmkgiogpkhaaGreatDoorPl4

namespace Go.Proofs.YtccpmkgiogpkhaaGreatDoor
open Go Go.Proofs.YtccpmkgiogpkhaaGreatDoor.Sx
set_option linter.unusedVariables false
set_option linter.unusedSimpArgs false
def bLess (a b : ByteArray) : Bool := Op.bytesLess a.toList b.toList
theorem bytes_trans : ∀ x y z : List UInt8, Op.bytesLess x y = true → Op.bytesLess y z = true → Op.bytesLess x z = true
  | [], [], z, h, _ => by simp [Op.bytesLess] at h
  | [], _ :: _, [], _, h => by simp [Op.bytesLess] at h
  | [], _ :: _, _ :: _, _, _ => rfl
  | _ :: _, [], _, h, _ => by simp [Op.bytesLess] at h
  | _ :: _, _ :: _, [], _, h => by simp [Op.bytesLess] at h
  | a :: x, b :: y, c :: z, h, g => by
    simp only [Op.bytesLess, Bool.or_eq_true, decide_eq_true_eq, Bool.and_eq_true, beq_iff_eq] at h g ⊢
    rcases h with h | ⟨rfl, h⟩
    · rcases g with g | ⟨rfl, g⟩
      · exact .inl (UInt8.lt_trans h g)
      · exact .inl h
    · rcases g with g | ⟨rfl, g⟩
      · exact .inl g
      · exact .inr ⟨rfl, bytes_trans x y z h g⟩
theorem bytes_tri : ∀ x y : List UInt8, Op.bytesLess x y = false → Op.bytesLess y x = false → x = y
  | [], [], _, _ => rfl
  | [], _ :: _, h, _ => by simp [Op.bytesLess] at h
  | _ :: _, [], _, h => by simp [Op.bytesLess] at h
  | a :: x, b :: y, h, g => by
    simp only [Op.bytesLess, Bool.or_eq_false_iff, decide_eq_false_iff_not, Bool.and_eq_false_iff, beq_eq_false_iff_ne] at h g
    have hab : a = b := by
      have h1 := h.1
      have h2 := g.1
      rw [UInt8.not_lt] at h1 h2
      exact UInt8.le_antisymm h2 h1
    subst hab
    rcases h.2 with h2 | h2
    · exact absurd rfl h2
    · rcases g.2 with g2 | g2
      · exact absurd rfl g2
      · rw [bytes_tri x y h2 g2]
theorem bLess_trans {a b c : ByteArray} (h : bLess a b = true) (g : bLess b c = true) : bLess a c = true := bytes_trans _ _ _ h g
theorem toList_inj {a b : ByteArray} (h : a.toList = b.toList) : a = b := by
  have h1 : ∀ x : ByteArray, x.toList = x.data.toList := fun x => by rw [ByteArray.toList_eq]
  rw [h1, h1] at h
  cases a; cases b
  congr 1
  exact Array.ext' h
theorem bLess_tri {a b : ByteArray} (h : bLess a b = false) (g : bLess b a = false) : a = b := toList_inj (bytes_tri _ _ h g)
/-- how many of the first are less -/
def posOf : List (ByteArray × Int) → ByteArray → Nat
  | [], _ => 0
  | x :: r, c => if bLess x.1 c then posOf r c + 1 else 0
/-- u is added at c -/
def sumAdd : List (ByteArray × Int) → ByteArray → Int → List (ByteArray × Int)
  | [], c, u => [(c, u)]
  | x :: r, c, u => if bLess x.1 c then x :: sumAdd r c u else if x.1 = c then (x.1, x.2 + u) :: r else (c, u) :: x :: r
def Ordered (s : List (ByteArray × Int)) : Prop := s.Pairwise fun a b => bLess a.1 b.1 = true
def hasAt (s : List (ByteArray × Int)) (c : ByteArray) : Bool := match s[posOf s c]? with
  | some x => decide (x.1 = c)
  | none => false
theorem posOf_le : ∀ (s : List (ByteArray × Int)) (c : ByteArray), posOf s c ≤ s.length
  | [], _ => Nat.le_refl _
  | x :: r, c => by
    have := posOf_le r c
    unfold posOf
    split <;> simp; omega
theorem posOf_lo : ∀ (s : List (ByteArray × Int)) (c : ByteArray) (j : Nat) (x : ByteArray × Int), s[j]? = some x → j < posOf s c → bLess x.1 c = true
  | [], _, _, _, h, _ => by simp at h
  | y :: r, c, j, x, h, hj => by
    unfold posOf at hj
    split at hj
    · rename_i hy
      cases j with
      | zero => simp at h; subst h; exact hy
      | succ j => exact posOf_lo r c j x (by simpa using h) (by omega)
    · omega
theorem posOf_at : ∀ (s : List (ByteArray × Int)) (c : ByteArray) (x : ByteArray × Int), s[posOf s c]? = some x → bLess x.1 c = false
  | [], _, _, h => by simp at h
  | y :: r, c, x, h => by
    unfold posOf at h
    split at h
    · exact posOf_at r c x (by simpa using h)
    · rename_i hy
      simp at h; subst h
      simpa using hy
theorem posOf_hi {s : List (ByteArray × Int)} (ho : Ordered s) {c : ByteArray} {j : Nat} {x : ByteArray × Int} (h : s[j]? = some x) (hj : posOf s c ≤ j) : bLess x.1 c = false := by
  obtain ⟨hjl, he⟩ := List.getElem?_eq_some_iff.1 h
  have hk : posOf s c < s.length := by omega
  have h0 := posOf_at s c _ (List.getElem?_eq_getElem hk)
  rcases Nat.lt_or_ge (posOf s c) j with hlt | hge
  · have h1 := List.pairwise_iff_getElem.1 ho (posOf s c) j hk hjl hlt
    rw [he] at h1
    cases hx : bLess x.1 c with
    | false => rfl
    | true => rw [bLess_trans h1 hx] at h0; cases h0
  · have : posOf s c = j := by omega
    subst this
    rw [he] at h0; exact h0
theorem sumAdd_has : ∀ {s : List (ByteArray × Int)} {c : ByteArray} {u : Int}, hasAt s c = true → ∃ v, s[posOf s c]? = some (c, v) ∧ sumAdd s c u = s.set (posOf s c) (c, v + u)
  | [], c, u, h => by simp [hasAt] at h
  | x :: r, c, u, h => by
    unfold hasAt at h
    unfold posOf sumAdd
    unfold posOf at h
    by_cases hx : bLess x.1 c = true
    · simp only [hx, if_true, List.getElem?_cons_succ] at h
      obtain ⟨v, h1, h2⟩ := sumAdd_has (s := r) (c := c) (u := u) h
      exact ⟨v, by simp only [hx, if_true, List.getElem?_cons_succ]; exact h1, by simp only [hx, if_true, List.set_cons_succ, h2]⟩
    · simp only [hx, if_false, List.getElem?_cons_zero, decide_eq_true_eq, Bool.false_eq_true] at h
      exact ⟨x.2, by rw [if_neg hx]; simp [← h], by rw [if_neg hx, if_neg hx, if_pos h, List.set_cons_zero, h]⟩
theorem sumAdd_new : ∀ {s : List (ByteArray × Int)} {c : ByteArray} {u : Int}, hasAt s c = false → sumAdd s c u = s.take (posOf s c) ++ (c, u) :: s.drop (posOf s c)
  | [], c, u, _ => rfl
  | x :: r, c, u, h => by
    unfold hasAt at h
    unfold posOf sumAdd
    unfold posOf at h
    by_cases hx : bLess x.1 c = true
    · simp only [hx, if_true, List.getElem?_cons_succ] at h
      have := sumAdd_new (s := r) (c := c) (u := u) h
      simp only [hx, if_true, this, List.take_succ_cons, List.drop_succ_cons, List.cons_append]
    · simp only [hx, if_false, List.getElem?_cons_zero, decide_eq_false_iff_not, Bool.false_eq_true] at h
      simp only [hx, if_false, h, Bool.false_eq_true, List.take_zero, List.drop_zero, List.nil_append]
theorem sumAdd_fst : ∀ {s : List (ByteArray × Int)} {c : ByteArray} {u : Int} {x : ByteArray × Int}, x ∈ sumAdd s c u → x.1 = c ∨ ∃ y ∈ s, y.1 = x.1
  | [], c, u, x, h => by simp [sumAdd] at h; exact .inl (by rw [h])
  | y :: r, c, u, x, h => by
    unfold sumAdd at h
    split at h
    · rcases List.mem_cons.1 h with h | h
      · exact .inr ⟨y, List.mem_cons_self, by rw [h]⟩
      · rcases sumAdd_fst h with h | ⟨z, hz, e⟩
        · exact .inl h
        · exact .inr ⟨z, List.mem_cons_of_mem _ hz, e⟩
    · split at h
      · rcases List.mem_cons.1 h with h | h
        · exact .inr ⟨y, List.mem_cons_self, by rw [h]⟩
        · exact .inr ⟨x, List.mem_cons_of_mem _ h, rfl⟩
      · rcases List.mem_cons.1 h with h | h
        · exact .inl (by rw [h])
        · exact .inr ⟨x, h, rfl⟩
theorem sumAdd_ordered : ∀ {s : List (ByteArray × Int)} {c : ByteArray} {u : Int}, Ordered s → Ordered (sumAdd s c u)
  | [], c, u, _ => by simp [sumAdd, Ordered]
  | y :: r, c, u, h => by
    have hr := (List.pairwise_cons.1 h).2
    have hy := (List.pairwise_cons.1 h).1
    unfold sumAdd
    split
    · rename_i hlt
      refine List.pairwise_cons.2 ⟨fun x hx => ?_, sumAdd_ordered hr⟩
      rcases sumAdd_fst hx with e | ⟨z, hz, e⟩
      · rw [e]; exact hlt
      · rw [← e]; exact hy z hz
    · rename_i hge
      split
      · exact List.pairwise_cons.2 ⟨fun x hx => hy x hx, hr⟩
      · rename_i hne
        have hcy : bLess c y.1 = true := by
          cases hcy : bLess c y.1 with
          | true => rfl
          | false => exact absurd (bLess_tri (by simpa using hge) hcy) hne
        refine List.pairwise_cons.2 ⟨fun x hx => ?_, h⟩
        rcases List.mem_cons.1 hx with hx | hx
        · rw [hx]; exact hcy
        · exact bLess_trans hcy (hy x hx)
theorem sumAdd_len (s : List (ByteArray × Int)) (c : ByteArray) (u : Int) : (sumAdd s c u).length ≤ s.length + 1 ∧ posOf s c < (sumAdd s c u).length := by
  have hp := posOf_le s c
  cases h : hasAt s c with
  | true =>
    obtain ⟨v, h1, h2⟩ := sumAdd_has (u := u) h
    have := (List.getElem?_eq_some_iff.1 h1).1
    rw [h2, List.length_set]
    omega
  | false =>
    rw [sumAdd_new h]
    simp
    omega
/-- added in two steps -/
theorem sumAdd_two : ∀ {s : List (ByteArray × Int)} {c : ByteArray} {u : Int}, ∃ v, (sumAdd s c 0)[posOf s c]? = some (c, v) ∧ sumAdd s c u = (sumAdd s c 0).set (posOf s c) (c, v + u)
  | s, c, u => by
    cases h : hasAt s c with
    | true =>
      obtain ⟨v, h1, h2⟩ := sumAdd_has (u := u) h
      obtain ⟨v', h1', h2'⟩ := sumAdd_has (u := 0) h
      rw [h1] at h1'
      simp only [Option.some.injEq, Prod.mk.injEq, true_and] at h1'
      subst h1'
      have hl := (List.getElem?_eq_some_iff.1 h1).1
      refine ⟨v, by rw [h2', List.getElem?_set_self hl, Int.add_zero], by rw [h2, h2', List.set_set]⟩
    | false =>
      have hp := posOf_le s c
      have hl : (s.take (posOf s c)).length = posOf s c := by simp; omega
      refine ⟨0, ?_, ?_⟩
      · rw [sumAdd_new h, List.getElem?_append_right (by omega), hl, Nat.sub_self]
        rfl
      · rw [sumAdd_new h, sumAdd_new h, List.set_append_right _ _ (by omega), hl, Nat.sub_self, List.set_cons_zero, Int.zero_add]
def sumsRows (s : List (ByteArray × Int)) : List (List D0) := s.map fun x => .str x.1 :: enc x.2
theorem sumsRows_len (s : List (ByteArray × Int)) : (sumsRows s).length = s.length := by simp [sumsRows]
theorem sumsRows_code {s : List (ByteArray × Int)} : ∀ x ∈ sumsRows s, x.map D0.code = [.str, .bool, .ints] := by
  intro x hx
  obtain ⟨y, _, rfl⟩ := List.mem_map.1 hx
  rfl
end Go.Proofs.YtccpmkgiogpkhaaGreatDoor

namespace Go.Proofs.YtccpmkgiogpkhaaGreatDoor
open Go Go.Proofs.YtccpmkgiogpkhaaGreatDoor.Sx
set_option linter.unusedVariables false
set_option linter.unusedSimpArgs false
def cmpS (a b : ByteArray) : Int := if bLess a b then -1 else if a = b then 0 else 1
def rowKey (c : ByteArray) : List D0 → Int
  | .str a :: _ => cmpS a c
  | _ => 0
theorem cmpS_neg {a b : ByteArray} : cmpS a b < 0 ↔ bLess a b = true := by
  unfold cmpS
  by_cases h : bLess a b = true
  · rw [if_pos h]; simp [h]
  · rw [if_neg h]
    by_cases e : a = b
    · rw [if_pos e]; simp [h]
    · rw [if_neg e]; simp [h]
theorem cmpS_zero {a b : ByteArray} (h : bLess a b = false) : cmpS a b = 0 ↔ a = b := by
  unfold cmpS
  rw [if_neg (by simp [h])]
  by_cases e : a = b
  · rw [if_pos e]; simp [e]
  · rw [if_neg e]; simp [e]
theorem own_zero (W : World) (B : Nat) (key : ByteArray) : Owns W B [.string key, .bool false, .slice none 0 0] (.str key :: enc 0) [] := by
  have : enc 0 = [.bool false, .ints []] := by simp [enc, digs_zero]
  rw [this]
  exact Owns.append (Owns.str _ _ _) (Owns.append (Owns.bool _ _ false) (Owns.ints (zs := []) (Own.nil W B T_int 1)))
theorem wrapU {n : Int} (h0 : 0 ≤ n) (h1 : n < 18446744073709551616) : IntKind.wrap .u64 n = n := by
  have : (IntKind.wrap .u64 n) = n % 18446744073709551616 := rfl
  rw [this]; exact Int.emod_eq_of_lt h0 h1
theorem half {n : Int} (h0 : 0 ≤ n) : Int.fdiv n (2 ^ (min (1 : Int).toNat (IntKind.bits .u64))) = n / 2 := by
  have : ((2 : Int) ^ (min (1 : Int).toNat (IntKind.bits .u64))) = 2 := rfl
  rw [this, Int.fdiv_eq_ediv_of_nonneg _ (by decide)]
theorem sumsRows_at {s : List (ByteArray × Int)} {j : Nat} {x : List D0} (h : (sumsRows s)[j]? = some x) : ∃ y, s[j]? = some y ∧ x = .str y.1 :: enc y.2 := by
  unfold sumsRows at h
  rw [List.getElem?_map] at h
  cases hy : s[j]? with
  | none => rw [hy] at h; cases h
  | some y => rw [hy] at h; simp at h; exact ⟨y, rfl, h.symm⟩
theorem found_eq (s : List (ByteArray × Int)) (c : ByteArray) : (match (sumsRows s)[posOf s c]? with | some x => decide (rowKey c x = 0) | none => false) = hasAt s c := by
  unfold hasAt sumsRows
  rw [List.getElem?_map]
  cases hy : s[posOf s c]? with
  | none => rfl
  | some y =>
    have h0 := posOf_at s c y hy
    show decide (cmpS y.1 c = 0) = decide (y.1 = c)
    rw [decide_eq_decide]
    exact cmpS_zero h0
theorem cmp_Compare_string_c {w : World} (a b : ByteArray) : Ret P n_cmp_Compare_string [.string a, .string b] w fun v w' => v = .int .i64 (cmpS a b) ∧ Ext w w' := by
  have nan : ∀ (x : ByteArray) (w : World), Ret P n_cmp_isNaN_string [.string x] w fun v w' => v = .bool false ∧ Ext w w' := fun x w => by
    refine cmp_isNaN_string_ret ?_
    unfold cmp_isNaN_string
    exact ⟨by simp, Ext.refl w⟩
  refine cmp_Compare_string_ret ?_
  unfold cmp_Compare_string
  refine Ret.at (nan a w) ?_
  rintro v w1 ⟨hv, y1⟩
  subst hv
  refine ⟨_, rfl, ?_⟩
  refine Ret.at (nan b w1) ?_
  rintro v w2 ⟨hv, y2⟩
  subst hv
  have y := y1.trans y2
  refine ⟨_, rfl, fun h => absurd h (by simp), fun _ => ⟨fun h => absurd h (by simp), fun _ => ⟨fun h => ⟨?_, y⟩, fun h => ⟨fun g => ⟨?_, y⟩, fun g => ⟨?_, y⟩⟩⟩⟩⟩
  · show _ = Value.int .i64 (cmpS a b)
    unfold cmpS; rw [if_pos (show bLess a b = true from h)]
  · unfold cmpS
    rw [if_neg (show ¬ bLess a b = true by show ¬ Op.bytesLess _ _ = true; rw [h]; simp)]
    rw [h] at g
    simp at g
    rw [if_neg g]
  · unfold cmpS
    rw [if_neg (show ¬ bLess a b = true by show ¬ Op.bytesLess _ _ = true; rw [h]; simp)]
    rw [h] at g
    simp at g
    rw [if_pos g]
theorem impl_legSums_1_c {w : World} {xs ys : List Value} {a b : ByteArray} {d e : Bool} {z z2 : List Int} (h : Reps w xs [.str a, .bool d, .ints z]) (g : Reps w ys [.str b, .bool e, .ints z2]) :
    Ret P n_impl_legSums_1 [.agg ⟨xs⟩, .agg ⟨ys⟩] w fun v w' => v = .int .i64 (cmpS a b) ∧ Ext w w' := by
  obtain ⟨a0, a1, ap, an, ac, az, rfl, hd, _⟩ := open_Money h rfl
  obtain ⟨b0, b1, bp, bn, bc, bz, rfl, he, _⟩ := open_Money g rfl
  cases hd
  cases he
  refine impl_legSums_1_ret ?_
  unfold impl_legSums_1
  intro r w1 hn1 r1 w2 hn2
  have q0 := hn1.blk.ext hn2.ext; have q1 := hn2.blk
  refine ⟨_, q0.loadAt 0 rfl (by kernel_rfl) rfl, _, q1.loadAt 0 rfl (by kernel_rfl) rfl, ?_⟩
  refine Ret.at (cmp_Compare_string_c a b) ?_
  rintro v w3 ⟨hv, y3⟩
  subst hv
  exact ⟨_, rfl, rfl, (hn1.ext.trans hn2.ext).trans y3⟩
theorem bs_Money_c {w : World} {p : Option Addr} {n c : Nat} {l : List (List D0)} {xs : List Value} {dt : List D0} (h : RowsR w 3 p n c l) (hc : ∀ x ∈ l, x.map D0.code = [.str, .bool, .ints]) (g : Reps w xs dt) (gc : dt.map D0.code = [.str, .bool, .ints]) (f : Value) (q : List D0 → Int)
    (hf : ∀ cs x w', Ext w w' → x ∈ l → Reps w' cs x → Reps w' xs dt → CallW P f [.agg ⟨cs⟩, .agg ⟨xs⟩] w' fun e w'' => e = .returned (.int .i64 (q x)) ∧ Ext w' w'') (k : Nat) (hk : k ≤ n)
    (hlo : ∀ j x, l[j]? = some x → j < k → q x < 0) (hhi : ∀ j x, l[j]? = some x → k ≤ j → ¬ q x < 0) (hn : n ≤ 4611686018427387904) :
    Ret P n_slices_BinarySearchFunc_impl_Money_impl_Money_impl_Money [.slice p n c, .agg ⟨xs⟩, f] w fun v w' => v = .tuple #[.int .i64 (k : Nat), .bool (match l[k]? with | some x => decide (q x = 0) | none => false)] ∧ Ext w w' := by
  have hln := h.1
  have gr := g
  obtain ⟨t0, t1, tp, tn, tc, tz, rfl, rfl, _⟩ := open_Money g gc
  refine slices_BinarySearchFunc_impl_Money_impl_Money_impl_Money_ret ?_
  unfold slices_BinarySearchFunc_impl_Money_impl_Money_impl_Money
  intro r w1 hn1
  have q0 := hn1.blk
  have row : ∀ j (hj : j < n), ∃ b off cs, p = some ⟨b, off, none⟩ ∧ cs.length = 3 ∧ Reps w cs (l[j]'(by omega)) ∧ Seg w b (off + j * 3) cs := fun j hj => by
    obtain ⟨b, off, hp, hs⟩ := h.2.2.2 (by omega)
    obtain ⟨cs, h1, h2, h3⟩ := hs j _ (List.getElem?_eq_getElem (by omega))
    exact ⟨b, off, cs, hp, h1, h2, h3⟩
  refine ⟨fun i j wr => ∃ a b : Nat, i = a ∧ j = b ∧ a ≤ k ∧ k ≤ b ∧ b ≤ n ∧ Ext w1 wr, fun i j _ => (j - i).toNat, ⟨0, n, rfl, rfl, Nat.zero_le _, hk, Nat.le_refl _, Ext.refl _⟩, ?_⟩
  intro junk wr i j ⟨a, b, hia, hjb, ha, hb, hbn, hx⟩
  subst hia
  subst hjb
  have hd := hx.trans (Ext.drew wr)
  have X := hn1.ext.trans hd
  refine ifD (fun hlt => ?_) (fun hge => ?_)
  · have hm : (a + b) / 2 < n := by omega
    obtain ⟨pb, po, cs, hp, hcs, hr, hsg⟩ := row ((a + b) / 2) hm
    subst hp
    have hml : (a + b) / 2 < l.length := by omega
    have hmem : l[(a + b) / 2] ∈ l := List.getElem_mem hml
    have hr2 := hr
    obtain ⟨c0, c1, cp, cn, cc, cz, rfl, hdd, _⟩ := open_Money hr (hc _ hmem)
    refine exW ⟨by omega, by omega⟩ ⟨_, (wrapU (by omega) (by omega)).symm, by decide, _, (half (by omega)).symm, exW ⟨by omega, by omega⟩ ⟨⟨by omega, by omega⟩, ?_⟩⟩
    rw [show ((((a : Nat) : Int) + ((b : Nat) : Int)) / 2).toNat = (a + b) / 2 by omega]
    refine ⟨_, _, _, _, _, fun W hW => (hsg.ext (X.trans hW)).loadAAt 0 [.string c0, .bool c1, .slice cp cn cc] (by rw [addr_add, Nat.add_zero]) (by kernel_rfl) rfl, _, _, _, _, _, fun W hW => (q0.ext (hd.trans hW)).loadA0 (by kernel_rfl), ?_⟩
    obtain ⟨g1, first, captured, h1, h2, h3⟩ := hf _ _ _ X hmem (hr2.ext X) (gr.ext X)
    refine ⟨g1, first, captured, h1, h2, Calls.mono h3 fun e w2 ⟨he, hy⟩ => ?_⟩
    refine ⟨_, he, ifD (fun hneg => exW ⟨by omega, by omega⟩ ⟨⟨(a + b) / 2 + 1, b, by omega, rfl, ?_, hb, hbn, hd.trans hy⟩, ?_⟩) (fun hpos => ⟨⟨a, (a + b) / 2, rfl, by omega, ha, ?_, by omega, hd.trans hy⟩, ?_⟩)⟩
    · rcases Nat.lt_or_ge ((a + b) / 2) k with h | h
      · omega
      · exact absurd hneg (hhi _ _ (List.getElem?_eq_getElem hml) h)
    · show (((b : Nat) : Int) - (((a : Int) + (b : Int)) / 2 + 1)).toNat < (((b : Nat) : Int) - ((a : Nat) : Int)).toNat
      omega
    · rcases Nat.lt_or_ge ((a + b) / 2) k with h | h
      · exact absurd (hlo _ _ (List.getElem?_eq_getElem hml) h) hpos
      · omega
    · show ((((a : Int) + (b : Int)) / 2) - ((a : Nat) : Int)).toNat < (((b : Nat) : Int) - ((a : Nat) : Int)).toNat
      omega
  · have hak : a = k := by omega
    subst hak
    refine ifD (fun hlt => ?_) (fun hge2 => ?_)
    · obtain ⟨pb, po, cs, hp, hcs, hr, hsg⟩ := row a (by omega)
      subst hp
      have hml : a < l.length := by omega
      have hmem : l[a] ∈ l := List.getElem_mem hml
      have hr2 := hr
      obtain ⟨c0, c1, cp, cn, cc, cz, rfl, hdd, _⟩ := open_Money hr (hc _ hmem)
      refine ⟨⟨by omega, by omega⟩, ?_⟩
      rw [Int.toNat_natCast]
      refine ⟨_, _, _, _, _, fun W hW => (hsg.ext (X.trans hW)).loadAAt 0 [.string c0, .bool c1, .slice cp cn cc] (by rw [addr_add, Nat.add_zero]) (by kernel_rfl) rfl, _, _, _, _, _, fun W hW => (q0.ext (hd.trans hW)).loadA0 (by kernel_rfl), ?_⟩
      obtain ⟨g1, first, captured, h1, h2, h3⟩ := hf _ _ _ X hmem (hr2.ext X) (gr.ext X)
      refine ⟨g1, first, captured, h1, h2, Calls.mono h3 fun e w2 ⟨he, hy⟩ => ?_⟩
      exact ⟨_, he, by rw [List.getElem?_eq_getElem hml], X.trans hy⟩
    · exact ⟨by rw [List.getElem?_eq_none (by omega)], X⟩
theorem at_Money_c {w : World} {B q : Nat} {p : Option Addr} {n c : Nat} {s : List (ByteArray × Int)} {f : List Nat} {cf : Value} (hq : Blk w q T_impl_ordered_loop_example_g00793_impl_Money [.slice p n c, cf]) (ho : OwnRows w B T_impl_Money 3 p n c (sumsRows s) f) (hord : Ordered s) (hqf : q ∉ f) (hB : B ≤ w.heap.size) (hn : n ≤ 1000000)
    (hcf1 : cf.oneCell' = true) (hcf : ∀ cs ys a b d e z z2 w', Ext w w' → Reps w' cs [.str a, .bool d, .ints z] → Reps w' ys [.str b, .bool e, .ints z2] → CallW P cf [.agg ⟨cs⟩, .agg ⟨ys⟩] w' fun e w'' => e = .returned (.int .i64 (cmpS a b)) ∧ Ext w' w'') (key : ByteArray) :
    Ret P n_impl_ordered_impl_Money_at [.pointer (some ⟨q, 0, none⟩), .agg ⟨[.string key, .bool false, .slice none 0 0]⟩] w fun v w' => ∃ b n' c' f', v = .pointer (some ⟨b, posOf s key * 3, none⟩) ∧ Blk w' q T_impl_ordered_loop_example_g00793_impl_Money [.slice (some ⟨b, 0, none⟩) n' c', cf] ∧
      OwnRows w' B T_impl_Money 3 (some ⟨b, 0, none⟩) n' c' (sumsRows (sumAdd s key 0)) f' ∧ Chg (q :: (p.map (·.block)).toList) w w' ∧ (∀ k ∈ f', k ∈ f ∨ w.heap.size ≤ k) := by
  have hsl : s.length = n := by have := ho.1; rwa [sumsRows_len] at this
  have hpl := posOf_le s key
  have hql := hq.lt
  refine impl_ordered_impl_Money_at_ret ?_
  unfold impl_ordered_impl_Money_at
  intro r w1 hn1
  have q0 := hn1.blk
  have hd := Ext.drew w1
  have X1 := hn1.ext.trans hd
  have hcode := sumsRows_code (s := s)
  refine ⟨_, _, _, fun W hW => (hq.ext (X1.trans hW)).loadAt 0 rfl (by kernel_rfl) rfl, _, _, _, _, _, fun W hW => (q0.ext (hd.trans hW)).loadA0 (by kernel_rfl), _, fun W hW => (hq.ext (X1.trans hW)).loadAt 1 rfl (by kernel_rfl) rfl, ?_⟩
  have hz : Reps w1.drew [.string key, .bool false, .slice none 0 0] [.str key, .bool false, .ints []] := by
    have := (own_zero w1.drew 0 key).reps
    have e0 : enc 0 = [.bool false, .ints []] := by simp [enc, digs_zero]
    rwa [e0] at this
  refine Ret.at (bs_Money_c (ho.rows.ext X1) hcode hz rfl cf (rowKey key) (fun cs x w' hx hm hr hr2 => ?_) (posOf s key) (by omega) (fun j x hj hlt => ?_) (fun j x hj hge => ?_) (by omega)) ?_
  · obtain ⟨j, hj⟩ := List.getElem?_of_mem hm
    obtain ⟨y, _, rfl⟩ := sumsRows_at hj
    exact hcf _ _ _ _ _ _ _ _ _ (X1.trans hx) hr hr2
  · obtain ⟨y, hy, rfl⟩ := sumsRows_at hj
    exact cmpS_neg.2 (posOf_lo s key j y hy hlt)
  · obtain ⟨y, hy, rfl⟩ := sumsRows_at hj
    intro hh
    have := cmpS_neg.1 hh
    rw [posOf_hi hord hy hge] at this
    cases this
  rintro v w2 ⟨hv, y2⟩
  subst hv
  rw [found_eq]
  have X2 := X1.trans y2
  have fin : ∀ (W : World) (b n' c' : Nat) (f' : List Nat), Blk W q T_impl_ordered_loop_example_g00793_impl_Money [.slice (some ⟨b, 0, none⟩) n' c', cf] → OwnRows W B T_impl_Money 3 (some ⟨b, 0, none⟩) n' c' (sumsRows (sumAdd s key 0)) f' → Chg (q :: (p.map (·.block)).toList) w W → (∀ k ∈ f', k ∈ f ∨ w.heap.size ≤ k) →
      impl_ordered_impl_Money_at_j0 (some ⟨q, 0, none⟩) ((posOf s key : Nat) : Int) W (fun v w' => ∃ b n' c' f', v = .pointer (some ⟨b, posOf s key * 3, none⟩) ∧ Blk w' q T_impl_ordered_loop_example_g00793_impl_Money [.slice (some ⟨b, 0, none⟩) n' c', cf] ∧ OwnRows w' B T_impl_Money 3 (some ⟨b, 0, none⟩) n' c' (sumsRows (sumAdd s key 0)) f' ∧ Chg (q :: (p.map (·.block)).toList) w w' ∧ (∀ k ∈ f', k ∈ f ∨ w.heap.size ≤ k)) := by
    intro W b n' c' f' h1 h2 h3 h4
    have hl := h2.1
    rw [sumsRows_len] at hl
    have := (sumAdd_len s key 0).2
    unfold impl_ordered_impl_Money_at_j0
    refine ⟨_, _, _, h1.loadAt 0 rfl (by kernel_rfl) rfl, ⟨by omega, by omega⟩, ?_⟩
    rw [Int.toNat_natCast]
    exact ⟨b, n', c', f', by rw [addr_add, Nat.zero_add], h1, h2, h3, h4⟩
  refine ⟨_, _, rfl, ifN (fun hno => ?_) (fun hyes => ?_)⟩
  · have hd2 := Ext.drew w2
    have X3 := X2.trans hd2
    refine ⟨_, _, _, fun W hW => (hq.ext (X3.trans hW)).loadAt 0 rfl (by kernel_rfl) rfl, _, _, _, _, _, fun W hW => (q0.ext ((hd.trans y2).trans (hd2.trans hW))).loadA0 (by kernel_rfl), ?_⟩
    intro r1 w3 hn3
    have e3 := hn3.r_eq
    have z3 := hn3.size
    refine ⟨hn3.ext, ?_⟩
    have X4 := X3.trans hn3.ext
    have l3 := X3.le
    obtain ⟨xs, hown, h1, hput⟩ := (ho.ext X4).ins (i := posOf s key) (by omega)
    have hpb : p.map (·.block) ≠ some r1 := fun e => by
      have h2 := (ho.lt r1 (by obtain ⟨_, _, _, _, _, hf, _⟩ := ho; rw [hf]; exact List.mem_append_left _ (mem_opt e))).2
      have := X3.le
      omega
    refine Ret.at (ins_Money_c hown h1 hn3.blk rfl (by simp [Value.oneCell']) hpb (by omega) (by have := X4.le; omega) (by omega)) ?_
    rintro v w4 ⟨p', c', hv, hown', hch, hp⟩
    subst hv
    obtain ⟨f', hor, hf'⟩ := hput w4 p' c' _ _ [] hown' hch hp rfl (own_zero w4 B key) List.nodup_nil (fun q hq => by simp at hq) (fun q hq => by simp at hq)
    have hpq : q ∉ (p.map (·.block)).toList := fun hm => hqf (by obtain ⟨_, _, _, _, _, hf, _⟩ := ho; rw [hf]; exact List.mem_append_left _ hm)
    obtain ⟨w5, st5, hb5, ch5, sz5⟩ := ((hq.ext X4).chg hch hpq).store0 (P := P) (t := T_s_impl_Money) (k := 0) (v := .slice p' (n + 1) c') (by kernel_rfl) (by simp) rfl
    refine ⟨_, _, _, rfl, w5, st5, ?_⟩
    have hsum : sumsRows (sumAdd s key 0) = (sumsRows s).take (posOf s key) ++ (.str key :: enc 0) :: (sumsRows s).drop (posOf s key) := by
      rw [sumAdd_new hno]
      simp [sumsRows, List.map_take, List.map_drop]
    rw [← hsum] at hor
    have hqf' : q ∉ f' := fun hm => by
      rcases hf' q hm with h | h | h
      · exact hqf h
      · simp at h
      · have := X4.le; omega
    have hor5 := hor.chg ch5 (fun k hk hm => hqf' (by simp at hm; rwa [← hm]))
    obtain ⟨b', ys, rfl, _⟩ := hown'.blk (by omega)
    refine fin w5 b' (n + 1) c' f' hb5 hor5 ?_ (fun k hk => ?_)
    · exact (X4.toChg.trans (hch.mono (fun k hk => List.mem_cons_of_mem _ hk))).trans (ch5.mono (fun k hk => by simp at hk; simp [hk]))
    · rcases hf' k hk with h | h | h
      · exact .inl h
      · simp at h
      · exact .inr (by have := X4.le; omega)
  · obtain ⟨v, hv1, hv2⟩ := sumAdd_has (u := 0) hyes
    have hlt := (List.getElem?_eq_some_iff.1 hv1).1
    have hs : sumAdd s key 0 = s := by
      rw [hv2, Int.add_zero]
      obtain ⟨h1, h2⟩ := List.getElem?_eq_some_iff.1 hv1
      rw [← h2, List.set_getElem_self]
    obtain ⟨xs, hown, _, _⟩ := ho.ins (i := 0) (by omega)
    obtain ⟨b', ys, rfl, _⟩ := hown.blk (by omega)
    refine fin w2 b' n c f (hq.ext X2) ?_ X2.toChg (fun k hk => .inl hk)
    rw [hs]
    exact ho.ext X2
end Go.Proofs.YtccpmkgiogpkhaaGreatDoor

namespace Go.Proofs.YtccpmkgiogpkhaaGreatDoor
open Go Go.Proofs.YtccpmkgiogpkhaaGreatDoor.Sx
set_option linter.unusedVariables false
set_option linter.unusedSimpArgs false
def legKV : List D0 → ByteArray × Int
  | [_, .str c, .bool b, .ints z] => (c, ival [.bool b, .ints z])
  | _ => (ByteArray.empty, 0)
def sumsTo (l : List (List D0)) (j : Nat) : List (ByteArray × Int) := (l.take j).foldl (fun s x => sumAdd s (legKV x).1 (legKV x).2) []
theorem sumsTo_succ {l : List (List D0)} {j : Nat} (h : j < l.length) : sumsTo l (j + 1) = sumAdd (sumsTo l j) (legKV l[j]).1 (legKV l[j]).2 := by
  unfold sumsTo
  rw [List.take_succ_eq_append_getElem h, List.foldl_append]
  rfl
theorem sumsTo_ordered (l : List (List D0)) : ∀ j, j ≤ l.length → Ordered (sumsTo l j)
  | 0, _ => List.Pairwise.nil
  | j + 1, h => by rw [sumsTo_succ (by omega)]; exact sumAdd_ordered (sumsTo_ordered l j (by omega))
theorem sumsTo_len (l : List (List D0)) : ∀ j, j ≤ l.length → (sumsTo l j).length ≤ j
  | 0, _ => Nat.le_refl _
  | j + 1, h => by
    rw [sumsTo_succ (by omega)]
    have := (sumAdd_len (sumsTo l j) (legKV l[j]).1 (legKV l[j]).2).1
    have := sumsTo_len l j (by omega)
    omega
theorem sumAdd_bound {M N : Nat} : ∀ {s : List (ByteArray × Int)} {c : ByteArray} {u : Int}, (∀ x ∈ s, x.2.natAbs ≤ M) → u.natAbs ≤ N → ∀ x ∈ sumAdd s c u, x.2.natAbs ≤ M + N
  | [], c, u, _, hu, x, hx => by simp [sumAdd] at hx; subst hx; show u.natAbs ≤ M + N; omega
  | y :: r, c, u, h, hu, x, hx => by
    have hy := h y List.mem_cons_self
    have hr : ∀ x ∈ r, x.2.natAbs ≤ M := fun x hx => h x (List.mem_cons_of_mem _ hx)
    unfold sumAdd at hx
    split at hx
    · rcases List.mem_cons.1 hx with hx | hx
      · rw [hx]; omega
      · exact sumAdd_bound hr hu x hx
    · split at hx
      · rcases List.mem_cons.1 hx with hx | hx
        · rw [hx]; show (y.2 + u).natAbs ≤ M + N; omega
        · have := hr x hx; omega
      · rcases List.mem_cons.1 hx with hx | hx
        · rw [hx]; show u.natAbs ≤ M + N; omega
        · have := h x hx; omega
theorem money_abs {c : ByteArray} {b : Bool} {z : List Int} (h : moneyOk [.str c, .bool b, .ints z] = true) : ∃ u : Int, [D0.bool b, .ints z] = enc u ∧ u = ival [.bool b, .ints z] ∧ u.natAbs ≤ 1000000000000000000000000000000000000 := by
  have hi := moneyOk_int h
  refine ⟨_, (intOk_enc hi).1, rfl, ?_⟩
  have : msOk c [.str c, .bool b, .ints z] = true := by simp only [msOk, h, decide_true, Bool.and_self]
  exact val_bound this
theorem leg_facts {x : List D0} (hc : x.map D0.code = [.str, .str, .bool, .ints]) (h : legOk x = true) : ∃ nm c u, x = .str nm :: .str c :: enc u ∧ u.natAbs ≤ 1000000000000000000000000000000000000 ∧ legKV x = (c, u) ∧ moneyOk (.str c :: enc u) = true := by
  obtain ⟨nm, es, he, c1⟩ := code_str hc
  obtain ⟨c, es2, he2, c2⟩ := code_str c1
  obtain ⟨b, es3, he3, c3⟩ := code_bool c2
  obtain ⟨z, es4, he4, c4⟩ := code_ints c3
  have := code_nil c4
  subst this; subst he4; subst he3; subst he2; subst he
  simp only [legOk, Bool.and_eq_true] at h
  obtain ⟨u, h1, h2, h3⟩ := money_abs h.2
  refine ⟨nm, c, u, by rw [h1], h3, by rw [h2]; rfl, by rw [← h1]; exact h.2⟩
theorem legs_facts {l : List (List D0)} (hok : legsOk l = true) : 1 ≤ l.length ∧ l.length ≤ 8 ∧ ∀ x ∈ l, legOk x = true := by
  simp only [legsOk, Bool.and_eq_true, decide_eq_true_eq, List.all_eq_true] at hok
  exact ⟨hok.1.1, hok.1.2, hok.2⟩
theorem sumsTo_bound {l : List (List D0)} (hc : ∀ x ∈ l, x.map D0.code = [.str, .str, .bool, .ints]) (hok : legsOk l = true) : ∀ j, j ≤ l.length → ∀ x ∈ sumsTo l j, x.2.natAbs ≤ j * 1000000000000000000000000000000000000
  | 0, _, x, hx => by simp [sumsTo] at hx
  | j + 1, h, x, hx => by
    rw [sumsTo_succ (by omega)] at hx
    obtain ⟨_, _, hall⟩ := legs_facts hok
    have hm : l[j] ∈ l := List.getElem_mem (by omega)
    obtain ⟨nm, c, u, he, hu, hk, _⟩ := leg_facts (hc _ hm) (hall _ hm)
    rw [hk] at hx
    have := sumAdd_bound (sumsTo_bound hc hok j (by omega)) hu x hx
    rw [Nat.succ_mul]
    exact this
theorem impl_legSums_o {w : World} {p : Option Addr} {n c : Nat} {l : List (List D0)} (h : RowsR w 4 p n c l) (hc : ∀ x ∈ l, x.map D0.code = [.str, .str, .bool, .ints]) (hok : legsOk l = true) :
    Ret P n_impl_legSums [.slice p n c] w fun v w' => ∃ p' n' c' f, v = .slice p' n' c' ∧ OwnRows w' w.heap.size T_impl_Money 3 p' n' c' (sumsRows (sumsTo l n)) f ∧ Ext w w' := by
  have hln := h.1
  obtain ⟨hl1, hl8, hall⟩ := legs_facts hok
  refine impl_legSums_ret ?_
  unfold impl_legSums
  intro r w1 hn1
  have e1 := hn1.r_eq; have z1 := hn1.size
  obtain ⟨w2, st2, b2, y2⟩ := hn1.fill (P := P) (t := T_impl_ordered_loop_example_g00793_impl_Money) (xs := [.slice none 0 0, .func (.func 84) ⟨[]⟩ ⟨[]⟩]) (by simp [Value.oneCell']) (by kernel_rfl) rfl
  have lb2 := b2.lt
  refine ⟨w2, st2, fun i wr => ∃ (j : Nat) (p' : Option Addr) (n' c' : Nat) (f : List Nat), i = j ∧ j ≤ n ∧ Blk wr r T_impl_ordered_loop_example_g00793_impl_Money [.slice p' n' c', .func (.func 84) ⟨[]⟩ ⟨[]⟩] ∧ OwnRows wr (w.heap.size + 1) T_impl_Money 3 p' n' c' (sumsRows (sumsTo l j)) f ∧ Ext w wr, fun i _ => n - i.toNat, ⟨0, none, 0, 0, [], rfl, Nat.zero_le _, b2, ⟨rfl, [], [], trivial, Own.nil _ _ _ _, by simp, by simp⟩, y2⟩, ?_⟩
  intro junk wr i ⟨j, p', n', c', f, hij, hj, hbr, ho, hx⟩
  subst hij
  refine ifD (fun hlt => ?_) (fun hge => ?_)
  rotate_left
  · have hjn : j = n := by omega
    subst hjn
    exact ⟨_, _, _, hbr.loadAt 0 rfl (by kernel_rfl) rfl, _, _, _, f, rfl, ho.mono (by omega), hx⟩
  have hjn : j < n := by omega
  have hjl : j < l.length := by omega
  obtain ⟨a, cs, hp, hk, hr, hld⟩ := (h.ext hx).at (P := P) (t := T_impl_Leg) (by kernel_rfl) hjn
  subst hp
  have hm : l[j] ∈ l := List.getElem_mem hjl
  obtain ⟨nm, key, u, he, hu, hkv, _⟩ := leg_facts (hc _ hm) (hall _ hm)
  rw [he] at hr
  obtain ⟨s0, s1, s2, sp, sn, sc, sz, rfl, hd, hsi⟩ := open_Leg hr rfl
  simp only [enc, List.cons.injEq, D0.str.injEq, D0.bool.injEq, D0.ints.injEq, and_true] at hd
  obtain ⟨rfl, rfl, rfl, rfl⟩ := hd
  have hru : Reps wr [.bool (decide (u < 0)), .slice sp sn sc] (enc u) := ⟨rfl, ⟨_, _, _, rfl, hsi⟩, trivial⟩
  refine ⟨⟨by omega, by omega⟩, _, _, _, _, _, _, by simpa using hld, ?_⟩
  intro r1 w3 hn3
  have e3 := hn3.r_eq
  obtain ⟨w4, st4, b4, y4⟩ := hn3.fill (P := P) (t := T_impl_Leg) (xs := [.string nm, .string key, .bool (decide (u < 0)), .slice sp sn sc]) (by simp [Value.oneCell']) (by kernel_rfl) rfl
  have lx := hx.le; have l4 := y4.le
  have hrl := hbr.lt
  have hsl := ho.1
  rw [sumsRows_len] at hsl
  have hslen := sumsTo_len l j (by omega)
  refine ⟨w4, st4, _, b4.loadAt 1 rfl (by kernel_rfl) rfl, ?_⟩
  refine Ret.at (at_Money_c (hbr.ext y4) (ho.ext y4) (sumsTo_ordered l j (by omega)) (fun hm => by have := (ho.lt r hm).1; omega) (by omega) (by omega) rfl (fun cs ys a b d e z z2 w' hx2 h1 h2 => ?_) key) ?_
  · refine ⟨_, _, _, rfl, by kernel_rfl, ?_⟩
    refine Calls.mono (impl_legSums_1_c h1 h2) ?_
    rintro e w'' ⟨v, he, hv, y⟩
    subst hv
    exact ⟨he, y⟩
  rintro v w5 ⟨b, n2, c2, f2, hv, hb5, ho5, hch5, hf5⟩
  subst hv
  have hpB : ∀ q ∈ (p'.map (·.block)).toList, w.heap.size + 1 ≤ q := fun q hq => (ho.lt q (by obtain ⟨_, _, _, _, _, hf, _⟩ := ho; rw [hf]; exact List.mem_append_left _ hq)).1
  have hrl := hbr.lt
  have X5 : Ext w w5 := (hx.trans y4).chg hch5 (fun q hq => by
    rcases List.mem_cons.1 hq with hq | hq
    · omega
    · have := hpB q hq; omega)
  have b4' : Blk w5 r1 T_impl_Leg [.string nm, .string key, .bool (decide (u < 0)), .slice sp sn sc] := b4.chg hch5 (fun hm => by
    rcases List.mem_cons.1 hm with hm | hm
    · omega
    · have := (ho.lt r1 (by obtain ⟨_, _, _, _, _, hf, _⟩ := ho; rw [hf]; exact List.mem_append_left _ hm)).2; omega)
  obtain ⟨v, hv1, hv2⟩ := sumAdd_two (s := sumsTo l j) (c := key) (u := u)
  have hrow : (sumsRows (sumAdd (sumsTo l j) key 0))[posOf (sumsTo l j) key]? = some (.str key :: enc v) := by
    unfold sumsRows
    rw [List.getElem?_map, hv1]
    rfl
  have hvb : v.natAbs ≤ j * 1000000000000000000000000000000000000 := by
    have := sumAdd_bound (N := 0) (c := key) (u := 0) (sumsTo_bound hc hok j (by omega)) (by simp) _ (List.mem_of_getElem? hv1)
    simpa using this
  have hvb8 : v.natAbs ≤ 8 * 1000000000000000000000000000000000000 := Nat.le_trans hvb (Nat.mul_le_mul_right _ (by omega))
  obtain ⟨b', xs, cs5, zs, hpb, hbB, hbf, hxl, hcl, hblk, hrep, hput⟩ := ho5.put hrow
  simp only [Option.some.injEq, Addr.mk.injEq, and_true] at hpb
  obtain rfl := hpb
  obtain ⟨k0, k1, kp, kn, kc, kz, rfl, hkd, hki⟩ := open_Money hrep rfl
  simp only [enc, List.cons.injEq, D0.str.injEq, D0.bool.injEq, D0.ints.injEq, and_true] at hkd
  obtain ⟨rfl, rfl, rfl⟩ := hkd
  have d5 := Ext.drew w5
  have hld1 : ∀ W, Ext w5.drew W → Loads P T_impl_Signed ((⟨b, posOf (sumsTo l j) key * 3, none⟩ : Addr).add 1) (.agg #[.bool (decide (v < 0)), .slice kp kn kc]) W := fun W hW =>
    ((hblk.ext d5).ext hW).loadAAt (posOf (sumsTo l j) key * 3 + 1) [.bool (decide (v < 0)), .slice kp kn kc] (by rw [addr_add]) (by kernel_rfl) (by rw [← hxl, List.append_assoc, List.drop_length_add_append]; rfl)
  have hrv : Reps w5.drew [.bool (decide (v < 0)), .slice kp kn kc] (enc v) := ⟨rfl, ⟨_, _, _, rfl, hki.ext d5⟩, trivial⟩
  refine ⟨_, rfl, _, _, _, _, hld1, _, _, _, _, fun W hW => ((b4'.ext d5).ext hW).loadAAt 2 [.bool (decide (u < 0)), .slice sp sn sc] rfl (by kernel_rfl) rfl, ?_⟩
  have hru5 : Reps w5.drew [.bool (decide (u < 0)), .slice sp sn sc] (enc u) := by
    have hk2 : IntsR w sp sn sc (digs u.natAbs) := by
      obtain ⟨b0, off0, hp0, hs0⟩ := h.2.2.2 (by omega)
      obtain ⟨cs0, hc0, hr0, hsg0⟩ := hs0 j _ (List.getElem?_eq_getElem hjl)
      rw [he] at hr0
      obtain ⟨q0, q1, q2, qp, qn, qc, qz, rfl, hqd, hqi⟩ := open_Leg hr0 rfl
      simp only [enc, List.cons.injEq, D0.str.injEq, D0.bool.injEq, D0.ints.injEq, and_true] at hqd
      obtain ⟨rfl, rfl, rfl, rfl⟩ := hqd
      have hl2 : Loads P T_impl_Leg ((⟨b0, off0, none⟩ : Addr).add (j * 4)) (.agg ⟨[.string nm, .string key, .bool (decide (u < 0)), .slice qp qn qc]⟩) wr := (hsg0.ext hx).loadAAt 0 _ (by rw [addr_add]; rfl) (by kernel_rfl) rfl
      simp only [Option.some.injEq] at hp0
      subst hp0
      have := hl2.symm.trans hld
      injection this with h1 h2
      simp only [Value.agg.injEq, Array.mk.injEq, List.cons.injEq, Value.slice.injEq, true_and, and_true] at h1
      obtain ⟨rfl, rfl, rfl⟩ := h1
      exact hqi
    exact ⟨rfl, ⟨_, _, _, rfl, hk2.ext (X5.trans d5)⟩, trivial⟩
  have hlim : ∀ x : Int, x.natAbs ≤ 9 * 1000000000000000000000000000000000000 → (digs x.natAbs).length ≤ 10000000 := fun x hx => by have := digs_len_le (n := x.natAbs) (by omega); omega
  refine Ret.at (impl_intAdd_c hrv hru5 (hlim v (Nat.le_trans hvb8 (Nat.mul_le_mul_right _ (by decide)))) (hlim u (Nat.le_trans hu (Nat.le_mul_of_pos_left _ (by decide))))) ?_
  rintro v8 w8 ⟨mp, mn, mc, hv8, hown8, y8⟩
  subst hv8
  have Y8 := d5.trans y8
  have hblk8 := hblk.ext Y8
  have hpl : posOf (sumsTo l j) key * 3 + 3 ≤ (xs ++ [Value.string key, Value.bool (decide (v < 0)), Value.slice kp kn kc] ++ zs).length := by simp [hxl]
  obtain ⟨w9, st9, hb9, ch9, sz9⟩ := hblk8.storeA (P := P) (t := T_impl_Signed) (k := posOf (sumsTo l j) key * 3 + 1) (xs := [.bool (decide (v + u < 0)), .slice mp mn mc]) (by kernel_rfl) (by simp only [List.length_cons, List.length_nil]; omega) (by simp [Value.oneCell'])
  refine ⟨_, _, _, _, rfl, w9, ?_, ?_⟩
  · rw [addr_add] at st9 ⊢
    rw [Nat.zero_add] at st9
    exact st9
  have hnew : (xs ++ [Value.string key, Value.bool (decide (v < 0)), Value.slice kp kn kc] ++ zs).take (posOf (sumsTo l j) key * 3 + 1) ++ [Value.bool (decide (v + u < 0)), .slice mp mn mc] ++ (xs ++ [Value.string key, Value.bool (decide (v < 0)), Value.slice kp kn kc] ++ zs).drop (posOf (sumsTo l j) key * 3 + 1 + [Value.bool (decide (v + u < 0)), .slice mp mn mc].length) = xs ++ [Value.string key, Value.bool (decide (v + u < 0)), .slice mp mn mc] ++ zs := by
    rw [← hxl, List.append_assoc xs, List.take_length_add_append, Nat.add_assoc, List.drop_length_add_append]
    simp
  rw [hnew] at hb9
  have hown9 : Owns w9 (w.heap.size + 1) [.string key, .bool (decide (v + u < 0)), .slice mp mn mc] (.str key :: enc (v + u)) ((mp.map (·.block)).toList) := by
    have hb := hblk.lt
    have := (Owns.int2 (b := decide (v + u < 0)) hown8).chg ch9 (fun k hk hm => by
      have h1 := (World.ownsRow.lt hown8 k (by cases mp <;> simp_all [Value.ownBlock])).1
      have h2 := d5.le
      simp at hm; omega)
    have h3 := this.mono (B' := w.heap.size + 1) (by have := d5.le; have := X5.le; omega)
    exact Owns.append (Owns.str _ _ _) h3
  obtain ⟨f9, ho9, hf9⟩ := hput w9 _ _ _ (Y8.toChg.trans ch9) rfl hb9 hown9 (nodup_opt mp) (fun y hy hm => by
    have h1 := (World.ownsRow.lt hown8 y (by cases mp <;> simp_all [Value.ownBlock])).1
    have h2 := (ho5.lt y hm).2
    have h3 := d5.le
    omega)
  refine exW ⟨by omega, by omega⟩ ⟨⟨j + 1, _, _, _, f9, rfl, by omega, (hb5.ext Y8).chg ch9 (by simp; omega), ?_, ?_⟩, by show n - ((j : Int) + 1).toNat < n - (j : Int).toNat; omega⟩
  · rw [sumsTo_succ hjl, hkv]
    show OwnRows w9 _ _ _ _ _ _ (sumsRows (sumAdd (sumsTo l j) key u)) f9
    have : sumsRows (sumAdd (sumsTo l j) key u) = (sumsRows (sumAdd (sumsTo l j) key 0)).set (posOf (sumsTo l j) key) (.str key :: enc (v + u)) := by
      rw [hv2]
      unfold sumsRows
      rw [List.map_set]
    rw [this]
    exact ho9
  · exact (X5.trans Y8).chg ch9 (by simp; omega)
end Go.Proofs.YtccpmkgiogpkhaaGreatDoor

namespace Go.Proofs.YtccpmkgiogpkhaaGreatDoor
open Go Go.Proofs.YtccpmkgiogpkhaaGreatDoor.Sx
set_option linter.unusedVariables false
set_option linter.unusedSimpArgs false
def keysOf (S : List (List D0)) : List (ByteArray × Int) := S.map fun x => (strOf x, (0 : Int))
def stepD (S : List (List D0)) (x : List D0) : List (List D0) :=
  if hasAt (keysOf S) (strOf (x.drop 1)) then S.set (posOf (keysOf S) (strOf (x.drop 1))) (.str (strOf (x.drop 1)) :: iadd ((S.getD (posOf (keysOf S) (strOf (x.drop 1))) []).drop 1) (x.drop 2))
  else S.take (posOf (keysOf S) (strOf (x.drop 1))) ++ x.drop 1 :: S.drop (posOf (keysOf S) (strOf (x.drop 1)))
def specTo (l : List (List D0)) (j : Nat) : List (List D0) := (l.take j).foldl stepD []
theorem specTo_succ {l : List (List D0)} {j : Nat} (h : j < l.length) : specTo l (j + 1) = stepD (specTo l j) l[j] := by
  unfold specTo
  rw [List.take_succ_eq_append_getElem h, List.foldl_append]
  rfl
theorem keysOf_len (S : List (List D0)) : (keysOf S).length = S.length := by simp [keysOf]
theorem stepD_code {S : List (List D0)} {x : List D0} (hx : x.map D0.code = [.str, .str, .bool, .ints]) (h : ∀ y ∈ S, y.map D0.code = [.str, .bool, .ints]) : ∀ y ∈ stepD S x, y.map D0.code = [.str, .bool, .ints] := by
  intro y hy
  unfold stepD at hy
  split at hy
  · rcases List.mem_or_eq_of_mem_set hy with hy | hy
    · exact h y hy
    · rw [hy, List.map_cons, iadd_code]; rfl
  · rcases List.mem_append.1 hy with hy | hy
    · exact h y (List.mem_of_mem_take hy)
    · rcases List.mem_cons.1 hy with hy | hy
      · rw [hy, List.map_drop, hx]; rfl
      · exact h y (List.mem_of_mem_drop hy)
theorem specTo_code {l : List (List D0)} (hc : ∀ x ∈ l, x.map D0.code = [.str, .str, .bool, .ints]) : ∀ j, j ≤ l.length → ∀ y ∈ specTo l j, y.map D0.code = [.str, .bool, .ints]
  | 0, _, y, hy => by simp [specTo] at hy
  | j + 1, h, y, hy => by
    rw [specTo_succ (by omega)] at hy
    exact stepD_code (hc _ (List.getElem_mem (by omega))) (specTo_code hc j (by omega)) y hy
theorem stepD_len (S : List (List D0)) (x : List D0) : (stepD S x).length ≤ S.length + 1 := by
  unfold stepD
  split
  · simp
  · simp; omega
theorem specTo_len (l : List (List D0)) : ∀ j, j ≤ l.length → (specTo l j).length ≤ j
  | 0, _ => Nat.le_refl _
  | j + 1, h => by
    rw [specTo_succ (by omega)]
    have := stepD_len (specTo l j) l[j]
    have := specTo_len l j (by omega)
    omega
theorem keysOf_at {S : List (List D0)} {j : Nat} {x : List D0} (h : S[j]? = some x) : (keysOf S)[j]? = some (strOf x, 0) := by
  unfold keysOf; rw [List.getElem?_map, h]; rfl
/-- the first that is not less is the place -/
theorem posOf_unique : ∀ {s : List (ByteArray × Int)} {c : ByteArray} {k : Nat}, k ≤ s.length → (∀ j x, s[j]? = some x → j < k → bLess x.1 c = true) → (∀ x, s[k]? = some x → bLess x.1 c = false) → k = posOf s c
  | [], c, k, hk, _, _ => by simp at hk; subst hk; rfl
  | x :: r, c, 0, _, _, h2 => by
    have := h2 x rfl
    simp [posOf, this]
  | x :: r, c, k + 1, hk, h1, h2 => by
    have hx := h1 0 x rfl (by omega)
    have := posOf_unique (s := r) (c := c) (k := k) (by simpa using hk) (fun j y hy hj => h1 (j + 1) y (by simpa using hy) (by omega)) (fun y hy => h2 y (by simpa using hy))
    simp only [posOf, hx, if_true]
    omega
/-- sums of valid legs -/
theorem keys_sums (s : List (ByteArray × Int)) : keysOf (sumsRows s) = s.map fun x => (x.1, (0 : Int)) := by
  unfold keysOf sumsRows
  rw [List.map_map]
  rfl
theorem posOf_map : ∀ (s : List (ByteArray × Int)) (c : ByteArray), posOf (s.map fun x => (x.1, (0 : Int))) c = posOf s c
  | [], _ => rfl
  | x :: r, c => by simp only [List.map_cons, posOf, posOf_map r c]
theorem hasAt_map (s : List (ByteArray × Int)) (c : ByteArray) : hasAt (s.map fun x => (x.1, (0 : Int))) c = hasAt s c := by
  unfold hasAt
  rw [posOf_map, List.getElem?_map]
  cases s[posOf s c]? <;> rfl
theorem stepD_sums {s : List (ByteArray × Int)} {nm c : ByteArray} {u : Int} (hs : ∀ x ∈ s, x.2.natAbs ≤ 8000000000000000000000000000000000000) (hu : u.natAbs ≤ 1000000000000000000000000000000000000) : stepD (sumsRows s) (.str nm :: .str c :: enc u) = sumsRows (sumAdd s c u) := by
  have e1 : strOf ((D0.str nm :: .str c :: enc u).drop 1) = c := rfl
  have e2 : (D0.str nm :: .str c :: enc u).drop 2 = enc u := rfl
  have e3 : (D0.str nm :: .str c :: enc u).drop 1 = .str c :: enc u := rfl
  unfold stepD
  rw [e1, e2, e3, keys_sums, posOf_map, hasAt_map]
  cases h : hasAt s c with
  | true =>
    obtain ⟨v, h1, h2⟩ := sumAdd_has (u := u) h
    have hv := hs _ (List.mem_of_getElem? h1)
    have hg : (sumsRows s).getD (posOf s c) [] = .str c :: enc v := by
      unfold sumsRows
      rw [List.getD_eq_getElem?_getD, List.getElem?_map, h1]; rfl
    rw [if_pos rfl, hg, h2]
    show (sumsRows s).set _ (.str c :: iadd (enc v) (enc u)) = _
    rw [iadd_small (by omega) (by omega)]
    unfold sumsRows
    rw [List.map_set]
  | false =>
    rw [if_neg (by simp), sumAdd_new h]
    simp [sumsRows, List.map_take, List.map_drop]
theorem specTo_sums {l : List (List D0)} (hc : ∀ x ∈ l, x.map D0.code = [.str, .str, .bool, .ints]) (hok : legsOk l = true) : ∀ j, j ≤ l.length → specTo l j = sumsRows (sumsTo l j)
  | 0, _ => rfl
  | j + 1, h => by
    obtain ⟨_, h8, hall⟩ := legs_facts hok
    have hm : l[j] ∈ l := List.getElem_mem (by omega)
    obtain ⟨nm, c, u, he, hu, hk, _⟩ := leg_facts (hc _ hm) (hall _ hm)
    rw [specTo_succ (by omega), sumsTo_succ (by omega), specTo_sums hc hok j (by omega), hk, he]
    refine stepD_sums (fun x hx => ?_) hu
    have h1 := sumsTo_bound hc hok j (by omega) x hx
    exact Nat.le_trans h1 (Nat.le_trans (Nat.mul_le_mul_right _ (show j ≤ 8 by omega)) (by decide))
/-- append of any number of rows onto rows of one's own -/
theorem Sx.Own.pushM {w : World} {B : Nat} {t e : TypeId} {z : Value} {size bytes : Nat} {g n c m mc : Nat} {a : Addr} {xs news : List Value} (h : Sx.Own w B e size (some ⟨g, 0, none⟩) n c xs)
    (hT : sliceT P t e z size bytes) (hb : B ≤ w.heap.size) (hcells : ∀ j u, news[j]? = some u → w.cell? (a.add j) = some u) (hl : news.length = m * size) (h1 : ∀ u ∈ news, u.oneCell' = true)
    (hbytes : (n + m) * bytes ≤ 140737488355328) (hby : 1 ≤ bytes) :
    ∃ g' c' w', Appends P [t, t] [.slice (some ⟨g, 0, none⟩) n c, .slice (some a) m mc] (.slice (some ⟨g', 0, none⟩) (n + m) c') w w' ∧ Sx.Own w' B e size (some ⟨g', 0, none⟩) (n + m) c' (xs ++ news) ∧ Chg [g] w w' ∧ (g' = g ∨ w.heap.size ≤ g') := by
  rcases Nat.eq_zero_or_pos m with h0 | h0
  · subst h0
    have hn : news = [] := List.eq_nil_of_length_eq_zero (by simpa using hl)
    subst hn
    obtain ⟨hu, hi, hz, hs⟩ := hT
    cases hinf : P.info? e with
    | none => rw [hinf] at hi; cases hi
    | some i =>
      rw [hinf] at hi
      simp only [Option.map_some, Option.some.injEq, Prod.mk.injEq] at hi
      rcases h.2 with ⟨e1, e2⟩ | ⟨g2, cap, cur, e1, hB, hg, h3, h4, h5, h6⟩
      · simp at e1
      · simp only [Value.slice.injEq, Option.some.injEq, Addr.mk.injEq, and_true, true_and] at e1
        obtain ⟨rfl, rfl⟩ := e1
        have hsz : n * i.size + ([] : List Value).length ≤ cur.size := by
          have : n * size ≤ c * size := Nat.mul_le_mul_right _ h3
          simp only [List.length_nil, Nat.add_zero, hi.2.1, h5]
          exact this
        obtain ⟨v', w', hrun, hown, hgr, _⟩ := run_append_own (P := P) w B t 0 e i z size bytes hu hinf hi.1 hi.2.1 hi.2.2 hz hs (.slice (some ⟨g, 0, none⟩) n c) n xs h a 0 mc [] hl hcells h1 (by omega) (by simpa using hbytes) hb
        have hr := run_append_room (P := P) w t 0 e i hu hinf g n c cur hg a 0 mc [] (by simp) hcells h1 (by omega) hsz
        rw [hr] at hrun
        injection hrun with hv hw
        subst hv
        subst hw
        refine ⟨g, c, _, hr, hown, ⟨hgr.os, hgr.tape, hgr.output, hgr.size, fun k hk hn => hgr.block k hk ?_⟩, .inl rfl⟩
        intro e; simp [Value.ownBlock] at e; simp at hn; omega
  · obtain ⟨p', c', w', hA, hO, hC, hP⟩ := h.pushN (mc := mc) hT hb hcells hl h1 hbytes hby h0
    obtain ⟨g', ys, rfl, _⟩ := hO.blk (by omega)
    refine ⟨g', c', w', hA, hO, hC, ?_⟩
    rcases hP with ⟨hp, _⟩ | ⟨hp, _⟩
    · simp at hp; exact .inl hp
    · exact .inr (hp g' rfl)
set_option maxHeartbeats 1000000 in
theorem spec_l18Sums_o {w : World} {p : Option Addr} {n c : Nat} {l : List (List D0)} (h : RowsR w 4 p n c l) (hc : ∀ x ∈ l, x.map D0.code = [.str, .str, .bool, .ints]) (hn : n ≤ 1048576) (hb : ∀ x ∈ l, bulks x ≤ 1048576) :
    Ret P n_spec_l18Sums [.slice p n c] w fun v w' => ∃ p' n' c' f, v = .slice p' n' c' ∧ OwnRows w' w.heap.size T_impl_Money 3 p' n' c' (specTo l n) f ∧ Ext w w' := by
  have hln := h.1
  refine spec_l18Sums_ret ?_
  unfold spec_l18Sums
  intro r w1 hn1
  have e1 := hn1.r_eq; have z1 := hn1.size
  refine ⟨fun op on oc i wr => ∃ (j b : Nat) (f : List Nat), op = some ⟨b, 0, none⟩ ∧ i = j ∧ j ≤ n ∧ OwnRows wr w.heap.size T_impl_Money 3 op on oc (specTo l j) f ∧ Ext w wr, fun _ _ _ i _ => n - i.toNat, ⟨0, r, [r], rfl, rfl, Nat.zero_le _, OwnRows.fresh hn1 (by omega), hn1.ext⟩, ?_⟩
  intro junk wr op on oc i ⟨j, b, f, hop, hij, hj, ho, hx⟩
  subst hij
  subst hop
  refine ifD (fun hlt => ?_) (fun hge => ?_)
  rotate_left
  · have hjn : j = n := by omega
    subst hjn
    exact ⟨_, _, _, f, rfl, ho, hx⟩
  have hjn : j < n := by omega
  have hjl : j < l.length := by omega
  have hm : l[j] ∈ l := List.getElem_mem hjl
  have hcx := hc _ hm
  have hbx := hb _ hm
  have hon := ho.1
  have honl := specTo_len l j (by omega)
  have hcS := specTo_code hc j (by omega)
  obtain ⟨bl, offl, hpl, hsl⟩ := h.2.2.2 (by omega)
  subst hpl
  obtain ⟨cs, hk, hr0, hsg⟩ := hsl j _ (List.getElem?_eq_getElem hjl)
  have hr0' := hr0
  obtain ⟨s0, s1, s2, sp, sn, sc, sz, rfl, hd, hsi⟩ := open_Leg hr0 hcx
  have hld : Loads P T_impl_Leg ((⟨bl, offl, none⟩ : Addr).add (j * 4)) (.agg ⟨[.string s0, .string s1, .bool s2, .slice sp sn sc]⟩) wr := (hsg.ext hx).loadAAt 0 _ (by rw [addr_add]; rfl) (by kernel_rfl) rfl
  have hkey : strOf (l[j].drop 1) = s1 := by rw [hd]; rfl
  have hunit : l[j].drop 2 = [.bool s2, .ints sz] := by rw [hd]; rfl
  have hmon : l[j].drop 1 = [.str s1, .bool s2, .ints sz] := by rw [hd]; rfl
  refine ⟨⟨by omega, by omega⟩, _, _, _, _, _, _, by simpa using hld, ?_⟩
  intro r1 w3 hn3
  have e3 := hn3.r_eq
  obtain ⟨w4, st4, b4, y4⟩ := hn3.fill (P := P) (t := T_impl_Leg) (xs := [.string s0, .string s1, .bool s2, .slice sp sn sc]) (by simp [Value.oneCell']) (by kernel_rfl) rfl
  refine ⟨w4, st4, fun k wk => ∃ kk : Nat, k = kk ∧ kk ≤ on ∧ (∀ a x, (keysOf (specTo l j))[a]? = some x → a < kk → bLess x.1 s1 = true) ∧ Ext w4 wk, fun k _ => on - k.toNat, ⟨0, rfl, Nat.zero_le _, fun a x _ ha => absurd ha (by omega), Ext.refl _⟩, ?_⟩
  intro junk2 wk k ⟨kk, hkk, hkn, hless, hxk⟩
  subst hkk
  have X4 := hx.trans y4
  have lx := hx.le; have l4 := y4.le; have lk := hxk.le
  have hdk := Ext.drew wk
  have hdk2 := hdk.trans (Ext.drew wk.drew)
  have ho4 : ∀ W, Ext wk W → OwnRows W w.heap.size T_impl_Money 3 (some ⟨b, 0, none⟩) on oc (specTo l j) f := fun W hW => ho.ext ((y4.trans hxk).trans hW)
  have b4k : ∀ W, Ext wk W → Blk W r1 T_impl_Leg [.string s0, .string s1, .bool s2, .slice sp sn sc] := fun W hW => b4.ext (hxk.trans hW)
  have hmR : ∀ W, Ext wk W → Reps W [.bool s2, .slice sp sn sc] [.bool s2, .ints sz] := fun W hW => ⟨rfl, ⟨_, _, _, rfl, hsi.ext (((hx.trans y4).trans hxk).trans hW)⟩, trivial⟩
  have hrowK : ∀ (hlt : kk < on), ∃ b' xs cs zs x, (specTo l j)[kk]? = some x ∧ (some ⟨b, 0, none⟩ : Option Addr) = some ⟨b', 0, none⟩ ∧ xs.length = kk * 3 ∧ Blk wk b' T_impl_Money (xs ++ cs ++ zs) ∧ Reps wk cs x ∧ x.map D0.code = [.str, .bool, .ints] := fun hlt => by
    have hlt' : kk < (specTo l j).length := by omega
    obtain ⟨b', xs, cs, zs, h1, _, _, h2, _, h3, h4, _⟩ := (ho4 wk (Ext.refl _)).put (List.getElem?_eq_getElem hlt')
    exact ⟨b', xs, cs, zs, _, List.getElem?_eq_getElem hlt', h1, h2, h3, h4, hcS _ (List.getElem_mem hlt')⟩
  have fin : ∀ (g n' c' : Nat) (f' : List Nat) (W : World), OwnRows W w.heap.size T_impl_Money 3 (some ⟨g, 0, none⟩) n' c' (specTo l (j + 1)) f' → Ext w W →
      ∃ t76 : Int, t76 = IntKind.wrap .i64 ((j : Int) + 1) ∧ (∃ (j2 b2 : Nat) (f2 : List Nat), (some ⟨g, 0, none⟩ : Option Addr) = some ⟨b2, 0, none⟩ ∧ t76 = j2 ∧ j2 ≤ n ∧ OwnRows W w.heap.size T_impl_Money 3 (some ⟨g, 0, none⟩) n' c' (specTo l j2) f2 ∧ Ext w W) ∧ n - t76.toNat < n - (j : Int).toNat := fun g n' c' f' W h1 h2 =>
    exW ⟨by omega, by omega⟩ ⟨⟨j + 1, g, f', rfl, rfl, by omega, h1, h2⟩, by show n - ((j : Int) + 1).toNat < n - (j : Int).toNat; omega⟩
  have found : ∀ W, Ext wk W → kk = posOf (keysOf (specTo l j)) s1 → hasAt (keysOf (specTo l j)) s1 = true → ∀ (R : Option Addr → Nat → Nat → World → Prop), (∀ (g n' c' : Nat) (f' : List Nat) (W : World), OwnRows W w.heap.size T_impl_Money 3 (some ⟨g, 0, none⟩) n' c' (specTo l (j + 1)) f' → Ext w W → R (some ⟨g, 0, none⟩) n' c' W) →
      (0 ≤ ((kk : Nat) : Int) ∧ ((kk : Nat) : Int) < (on : Nat)) ∧ ∃ (t530 : Bool) (t531_p : Option Addr) (t531_n : Nat) (t531_c : Nat), (∀ wv_9, Ext W.drew wv_9 → Loads P T_impl_Signed ((((⟨b, 0, none⟩ : Addr)).add (((kk : Nat) : Int).toNat * 3)).add 1) (.agg #[(.bool t530), (.slice t531_p t531_n t531_c)]) wv_9) ∧ ∃ (t560 : Bool) (t561_p : Option Addr) (t561_n : Nat) (t561_c : Nat), (∀ wv_10, Ext W.drew wv_10 → Loads P T_impl_Signed (((⟨r1, 0, none⟩ : Addr).add 1).add 1) (.agg #[(.bool t560), (.slice t561_p t561_n t561_c)]) wv_10) ∧ Calls P n_spec_IntAdd ⟨[(.agg #[(.bool t530), (.slice t531_p t531_n t531_c)]), (.agg #[(.bool t560), (.slice t561_p t561_n t561_c)])]⟩ W.drew fun e wv_11 =>
        ∃ (t570 : Bool) (t571_p : Option Addr) (t571_n : Nat) (t571_c : Nat), e = .returned (.agg #[(.bool t570), (.slice t571_p t571_n t571_c)]) ∧
        (0 ≤ ((kk : Nat) : Int) ∧ ((kk : Nat) : Int) < (on : Nat)) ∧ ∃ wv_12, Stores P T_impl_Signed ((((⟨b, 0, none⟩ : Addr)).add (((kk : Nat) : Int).toNat * 3)).add 1) (.agg #[(.bool t570), (.slice t571_p t571_n t571_c)]) wv_11 wv_12 ∧ R (some ⟨b, 0, none⟩) on oc wv_12 := by
    intro W hW hpos hhas R hR
    have hsome : ∃ x, (specTo l j)[kk]? = some x ∧ strOf x = s1 := by
      unfold hasAt at hhas
      rw [← hpos] at hhas
      unfold keysOf at hhas
      rw [List.getElem?_map] at hhas
      cases hx : (specTo l j)[kk]? with
      | none => rw [hx] at hhas; cases hhas
      | some x => rw [hx] at hhas; exact ⟨x, rfl, of_decide_eq_true hhas⟩
    obtain ⟨x, hxx, hxs⟩ := hsome
    have hkon : kk < on := by have := (List.getElem?_eq_some_iff.1 hxx).1; omega
    have how := ho4 W hW
    obtain ⟨b', xs, cs5, zs, hpb, hbB, hbf, hxl, hcl, hblk, hrep, hput⟩ := how.put hxx
    simp only [Option.some.injEq, Addr.mk.injEq, and_true] at hpb
    obtain rfl := hpb
    obtain ⟨k0, k1, kp, kn, kc, kz, rfl, hkd, hki⟩ := open_Money hrep (hcS _ (List.mem_of_getElem? hxx))
    have hk0 : k0 = s1 := by rw [hkd] at hxs; exact hxs
    subst hk0
    have dW := Ext.drew W
    have hWd := hW.trans dW
    rw [Int.toNat_natCast]
    refine ⟨⟨by omega, by omega⟩, _, _, _, _, fun W2 hW2 => ((hblk.ext dW).ext hW2).loadAAt (kk * 3 + 1) [.bool k1, .slice kp kn kc] (by rw [addr_add, addr_add, Nat.zero_add]) (by kernel_rfl) (by rw [← hxl, List.append_assoc, List.drop_length_add_append]; rfl), _, _, _, _, fun W2 hW2 => (b4k W2 (hWd.trans hW2)).loadAAt 2 [.bool s2, .slice sp sn sc] rfl (by kernel_rfl) rfl, ?_⟩
    refine Ret.at (spec_IntAdd_c (dx := [.bool k1, .ints kz]) ⟨rfl, ⟨_, _, _, rfl, hki.ext dW⟩, trivial⟩ (hmR _ hWd) rfl rfl) ?_
    rintro v8 w8 ⟨vs8, f8, hv8, ho8, nd8, y8⟩
    subst hv8
    obtain ⟨m0, mp, mn, mc, mz, rfl, _, _⟩ := open_Signed ho8.reps (iadd_code _ _)
    have Y8 := dW.trans y8
    have hblk8 := hblk.ext Y8
    have hpl : kk * 3 + 3 ≤ (xs ++ [Value.string k0, Value.bool k1, Value.slice kp kn kc] ++ zs).length := by simp [hxl]
    obtain ⟨w9, st9, hb9, ch9, sz9⟩ := hblk8.storeA (P := P) (t := T_impl_Signed) (k := kk * 3 + 1) (xs := [.bool m0, .slice mp mn mc]) (by kernel_rfl) (by simp only [List.length_cons, List.length_nil]; omega) (by simp [Value.oneCell'])
    have hnew : (xs ++ [Value.string k0, Value.bool k1, Value.slice kp kn kc] ++ zs).take (kk * 3 + 1) ++ [Value.bool m0, .slice mp mn mc] ++ (xs ++ [Value.string k0, Value.bool k1, Value.slice kp kn kc] ++ zs).drop (kk * 3 + 1 + [Value.bool m0, .slice mp mn mc].length) = xs ++ [Value.string k0, Value.bool m0, .slice mp mn mc] ++ zs := by
      rw [← hxl, List.append_assoc xs, List.take_length_add_append, Nat.add_assoc, List.drop_length_add_append]
      simp
    rw [hnew] at hb9
    have hbl := hblk.lt
    have hWl := hW.le
    have ho9 := (ho8.chg ch9 (fun k hk hm => by
      have h1 := (ho8.lt k hk).1
      have h2 := dW.le
      simp at hm; omega)).mono (B' := w.heap.size) (by have := dW.le; omega)
    obtain ⟨f9, hor9, hf9⟩ := hput w9 _ (.str k0 :: iadd [.bool k1, .ints kz] [.bool s2, .ints sz]) f8 (Y8.toChg.trans ch9) rfl hb9 (Owns.append (Owns.str _ _ k0) ho9) nd8 (fun y hy hm => by
      have h1 := (ho8.lt y hy).1
      have h2 := (how.lt y hm).2
      have h3 := dW.le
      omega)
    refine ⟨_, _, _, _, rfl, ⟨by omega, by omega⟩, w9, ?_, hR b on oc f9 w9 ?_ ?_⟩
    · rw [addr_add] at st9 ⊢
      rw [addr_add, Nat.zero_add]
      rw [Nat.zero_add] at st9
      exact st9
    · rw [specTo_succ hjl]
      unfold stepD
      rw [hkey, hunit, if_pos hhas, ← hpos, List.getD_eq_getElem?_getD, hxx, hkd]
      exact hor9
    · exact ((((X4.trans hxk).trans hW).trans Y8)).chg ch9 (by simp; omega)
  have new : ∀ W, Ext wk W → kk = posOf (keysOf (specTo l j)) s1 → hasAt (keysOf (specTo l j)) s1 = false → ∀ (r2 : Nat) (wa : World), New W (.cells ⟨[]⟩ T_impl_Money (0, 0)) r2 wa → ∀ (R : Option Addr → Nat → Nat → World → Prop), (∀ (g n' c' : Nat) (f' : List Nat) (W : World), OwnRows W w.heap.size T_impl_Money 3 (some ⟨g, 0, none⟩) n' c' (specTo l (j + 1)) f' → Ext w W → R (some ⟨g, 0, none⟩) n' c' W) →
      (0 ≤ ((kk : Nat) : Int) ∧ ((kk : Nat) : Int) ≤ (oc : Nat)) ∧ ∃ (t64_p : Option Addr) (t64_n : Nat) (t64_c : Nat) (wv_14 : World), Appends P [T_s_impl_Money, T_s_impl_Money] [(.slice (some ⟨r2, 0, none⟩) 0 0), (.slice (Sx.sub (some ⟨b, 0, none⟩) 0 oc 3) (((kk : Nat) : Int).toNat - 0) (oc - 0))] (.slice t64_p t64_n t64_c) wa wv_14 ∧
      ∃ (t670 : ByteArray) (t671 : Bool) (t672_p : Option Addr) (t672_n : Nat) (t672_c : Nat), Loads P T_impl_Money ((⟨r1, 0, none⟩ : Addr).add 1) (.agg #[(.string t670), (.bool t671), (.slice t672_p t672_n t672_c)]) wv_14 ∧ Calls P n_spec_l17Money ⟨[(.agg #[(.string t670), (.bool t671), (.slice t672_p t672_n t672_c)])]⟩ wv_14 fun e_1 wv_15 =>
      ∃ (t680 : ByteArray) (t681 : Bool) (t682_p : Option Addr) (t682_n : Nat) (t682_c : Nat), e_1 = .returned (.agg #[(.string t680), (.bool t681), (.slice t682_p t682_n t682_c)]) ∧
      ∀ (r_3 : Nat) (wv_16 : World), New wv_15 (.cells ⟨[(.string t680), (.bool t681), (.slice t682_p t682_n t682_c)]⟩ T_impl_Money (0, 0)) r_3 wv_16 →
      ∃ (t70_p : Option Addr) (t70_n : Nat) (t70_c : Nat) (wv_17 : World), Appends P [T_s_impl_Money, T_s_impl_Money] [(.slice t64_p t64_n t64_c), (.slice (some ⟨r_3, 0, none⟩) 1 1)] (.slice t70_p t70_n t70_c) wv_16 wv_17 ∧
      (0 ≤ ((kk : Nat) : Int) ∧ ((kk : Nat) : Int) ≤ (on : Nat)) ∧ ∃ (t75_p : Option Addr) (t75_n : Nat) (t75_c : Nat) (wv_18 : World), Appends P [T_s_impl_Money, T_s_impl_Money] [(.slice t70_p t70_n t70_c), (.slice (Sx.sub (some ⟨b, 0, none⟩) ((kk : Nat) : Int).toNat oc 3) (on - ((kk : Nat) : Int).toNat) (oc - ((kk : Nat) : Int).toNat))] (.slice t75_p t75_n t75_c) wv_17 wv_18 ∧
      R t75_p t75_n t75_c wv_18 := by
    intro W hW hpos hhas r2 wa hna R hR
    have hra := hna.r_eq; have hza := hna.size
    have how := ho4 W hW
    have hWl := hW.le
    obtain ⟨xs, hown, h1, hins⟩ := how.ins (i := kk) hkn
    have hcap := how.rows.2.1
    have hxl : xs.length = on * 3 := hown.len
    obtain ⟨_, cur, hpb, hBb, hcb, hcl, hnc, hcm, htk⟩ : ∃ b' ys, (some ⟨b, 0, none⟩ : Option Addr) = some ⟨b', 0, none⟩ ∧ w.heap.size ≤ b' ∧ Blk W b' T_impl_Money ys ∧ ys.length = oc * 3 ∧ on ≤ oc ∧ oc ≤ maxLen ∧ ys.take (on * 3) = xs := by
      rcases hown.2 with ⟨e1, e2⟩ | ⟨g, cap, cu, e1, hB, hg, h3, h4, h5, h6⟩
      · simp at e1
      · simp only [Value.slice.injEq, Option.some.injEq, Addr.mk.injEq, and_true, true_and] at e1
        obtain ⟨rfl, rfl⟩ := e1
        exact ⟨b, cu.toList, rfl, hB, by cases cu; exact hg, by simpa using h5, h3, h4, h6⟩
    simp only [Option.some.injEq, Addr.mk.injEq, and_true] at hpb
    obtain rfl := hpb
    have hbl := hcb.lt
    have seg : ∀ W2, Ext W W2 → Seg W2 b 0 xs := fun W2 hW2 => by
      have := ((hcb.ext hW2).seg).take (on * 3)
      rwa [htk] at this
    rw [Int.toNat_natCast, Nat.sub_zero, Nat.sub_zero, sub0g]
    have hT := ins_sliceT_Money
    obtain ⟨g1, c1, w14, hA1, hO1, ch1, hg1⟩ := (Sx.Own.of_blk0 (base := w.heap.size) (size := 3) (n := 0) hna.blk (by omega) (by simp) (by decide) : Sx.Own wa w.heap.size T_impl_Money 3 (some ⟨r2, 0, none⟩) 0 0 []).pushM (m := kk) (mc := oc) (a := ⟨b, 0, none⟩) (news := xs.take (kk * 3)) hT (by omega) (fun j u hj => by
      have := ((seg wa hna.ext).take (kk * 3)) j u hj
      rw [addr_add]; exact this) (by simp; omega) (fun u hu => h1 u (List.mem_of_mem_take hu)) (by omega) (by decide)
    rw [Nat.zero_add, List.nil_append] at hO1
    rw [Nat.zero_add] at hA1
    have X14 : Ext W w14 := hna.ext.chg ch1 (by simp; omega)
    refine ⟨⟨by omega, by omega⟩, _, _, _, w14, hA1, _, _, _, _, _, (b4k w14 (hW.trans X14)).loadAAt 1 [.string s1, .bool s2, .slice sp sn sc] rfl (by kernel_rfl) rfl, ?_⟩
    have hmr : Reps w14 [.string s1, .bool s2, .slice sp sn sc] [.str s1, .bool s2, .ints sz] := ⟨rfl, hmR w14 (hW.trans X14)⟩
    refine Ret.at (spec_l17Money_c hmr rfl (by
      have := bulks_drop1 l[j]
      rw [hmon] at this
      omega)) ?_
    rintro v w15 ⟨vs, fx, hv, hox, ndx, y15⟩
    subst hv
    obtain ⟨m0, m1, mp, mn, mc, mz, rfl, _, _⟩ := open_Money hox.reps rfl
    refine ⟨_, _, _, _, _, rfl, ?_⟩
    intro r3 w16 hn16
    have e16 := hn16.r_eq; have z16 := hn16.size
    have l14 := X14.le; have l15 := y15.le
    have y16 := y15.trans hn16.ext
    have hg1l : g1 < w14.heap.size := by
      obtain ⟨_, _, hgp, _, hgb, _⟩ : ∃ b' ys, (some ⟨g1, 0, none⟩ : Option Addr) = some ⟨b', 0, none⟩ ∧ True ∧ Blk w14 b' T_impl_Money ys ∧ True := by
        rcases hO1.2 with ⟨e1, e2⟩ | ⟨g, cap, cu, e1, hB, hg, h3, h4, h5, h6⟩
        · simp at e1
        · simp only [Value.slice.injEq, Option.some.injEq, Addr.mk.injEq, and_true, true_and] at e1
          obtain ⟨rfl, rfl⟩ := e1
          exact ⟨g1, cu.toList, rfl, trivial, by cases cu; exact hg, trivial⟩
      simp only [Option.some.injEq, Addr.mk.injEq, and_true] at hgp
      subst hgp
      exact hgb.lt
    obtain ⟨g2, c2, w17, hA2, hO2, ch2, hg2⟩ := (hO1.ext y16).pushM (m := 1) (mc := 1) (a := ⟨r3, 0, none⟩) (news := [.string m0, .bool m1, .slice mp mn mc]) hT (by omega) (fun j u hj => by rw [addr_add, Nat.zero_add, hn16.blk.cell, hj]) rfl (by simp [Value.oneCell']) (by omega) (by decide)
    have hg1B : W.heap.size ≤ g1 := by rcases hg1 with h | h <;> omega
    have X17 : Ext W w17 := (X14.trans y16).chg ch2 (by simp; omega)
    refine ⟨_, _, _, w17, hA2, ⟨by omega, by omega⟩, ?_⟩
    obtain ⟨g3, c3, w18, hA3, hO3, ch3, hg3⟩ := hO2.pushM (m := on - kk) (mc := oc - kk) (a := if kk < oc then ⟨b, kk * 3, none⟩ else ⟨b, 0, none⟩) (news := xs.drop (kk * 3)) hT (by have := X17.le; omega) (fun j u hj => by
      have hkc : kk < oc := by
        have := (List.getElem?_eq_some_iff.1 hj).1
        simp at this; omega
      rw [if_pos hkc, addr_add]
      have := ((seg w17 X17).drop (kk * 3)) j u hj
      rwa [Nat.zero_add] at this) (by simp; omega) (fun u hu => h1 u (List.mem_of_mem_drop hu)) (by omega) (by decide)
    have hsub : Sx.sub (some ⟨b, 0, none⟩) kk oc 3 = some (if kk < oc then ⟨b, kk * 3, none⟩ else ⟨b, 0, none⟩) := by
      by_cases hk : kk < oc
      · rw [if_pos hk, subS hk]
      · rw [if_neg hk]
        have : kk = oc := by omega
        subst this
        simp [Sx.sub]
    have l16 := y16.le; have l17 := X17.le; have lc2 := ch2.size
    have hg2B : W.heap.size ≤ g2 := by rcases hg2 with h | h <;> omega
    have X18 : Ext W w18 := X17.chg ch3 (by simp; omega)
    have hfxl : ∀ q ∈ fx, w14.heap.size ≤ q ∧ q < w15.heap.size := hox.lt
    have hg2n : ∀ q ∈ fx, q ≠ g2 := fun q hq e => by
      have := hfxl q hq
      have := hn16.size
      rcases hg2 with h | h
      · omega
      · omega
    have hg3n : ∀ q ∈ fx, q ≠ g3 := fun q hq e => by
      have h1 := hfxl q hq
      rcases hg3 with h | h
      · exact hg2n q hq (by omega)
      · omega
    have hox18 : Owns w18 w.heap.size [.string m0, .bool m1, .slice mp mn mc] [.str s1, .bool s2, .ints sz] fx := (((hox.ext hn16.ext).chg ch2 (fun k hk hm => by
      have := hfxl k hk
      simp at hm; omega)).chg ch3 (fun k hk hm => hg2n k hk (by simp at hm; exact hm))).mono (by omega)
    rw [show kk + 1 + (on - kk) = on + 1 by omega] at hA3 hO3
    obtain ⟨f', hor, _⟩ := hins w18 (some ⟨g3, 0, none⟩) c3 _ _ fx hO3 X18.toChg (.inr (fun q hq => by simp at hq; rcases hg3 with h | h <;> omega)) rfl hox18 ndx (fun q hq hm => by have h1 := hfxl q hq; have h2 := (how.lt q hm).2; omega) (fun q hq e => hg3n q hq (by simp at e; omega))
    refine ⟨_, _, _, w18, by rw [hsub]; exact hA3, hR g3 (on + 1) c3 f' w18 ?_ (((X4.trans hxk).trans hW).trans X18)⟩
    rw [specTo_succ hjl]
    unfold stepD
    rw [hkey, hmon, if_neg (by rw [hhas]; simp), ← hpos]
    exact hor
  have hkl := keysOf_len (specTo l j)
  refine ifD (fun hlt2 => ?_) (fun hge2 => ⟨fun hh => absurd hh (by simp), fun _ => ⟨fun hh => absurd (of_decide_eq_true hh) hge2, fun _ => ?_⟩⟩)
  · have hkon : kk < on := by omega
    obtain ⟨b', xs, cs, zs, x, hxx, hpb, hxl, hblk, hrep, hcode⟩ := hrowK hkon
    simp only [Option.some.injEq, Addr.mk.injEq, and_true] at hpb
    subst hpb
    obtain ⟨k0, k1, kp, kn, kc, kz, rfl, hkd, _⟩ := open_Money hrep hcode
    have hks := keysOf_at hxx
    have hk0 : strOf x = k0 := by rw [hkd]; rfl
    rw [hk0] at hks
    have hld2 : ∀ W, Ext wk W → Loads P T_string (((⟨b, 0, none⟩ : Addr).add (kk * 3)).add 0) (.string k0) W := fun W hW => (hblk.ext hW).loadAt (kk * 3) (by rw [addr_add, addr_add, Nat.zero_add, Nat.add_zero]) (by kernel_rfl) (by rw [List.append_assoc, ← hxl, List.getElem?_append_right (Nat.le_refl _), Nat.sub_self]; rfl)
    rw [Int.toNat_natCast]
    refine ⟨⟨by omega, by omega⟩, _, fun W hW => hld2 W (hdk.trans hW), _, fun W hW => (b4k W (hdk.trans hW)).loadAt 1 rfl (by kernel_rfl) rfl, fun hl => exW ⟨by omega, by omega⟩ ⟨⟨kk + 1, rfl, by omega, fun a y hy ha => ?_, hxk.trans hdk⟩, by show on - ((kk : Int) + 1).toNat < on - (kk : Int).toNat; omega⟩, fun hnl => ?_⟩
    · by_cases hak : a < kk
      · exact hless a y hy hak
      · have : a = kk := by omega
        subst this
        rw [hks] at hy
        simp only [Option.some.injEq] at hy
        subst hy
        exact hl
    · have hpos : kk = posOf (keysOf (specTo l j)) s1 := posOf_unique (by omega) hless (fun y hy => by
        rw [hks] at hy
        simp only [Option.some.injEq] at hy
        subst hy
        exact hnl)
      refine ⟨fun _ => ⟨⟨by omega, by omega⟩, _, fun W hW => hld2 W (hdk2.trans hW), _, fun W hW => (b4k W (hdk2.trans hW)).loadAt 1 rfl (by kernel_rfl) rfl, ?_⟩, fun hh => absurd hkon (by have := of_decide_eq_false hh; omega)⟩
      have hhas : hasAt (keysOf (specTo l j)) s1 = decide (k0 = s1) := by
        unfold hasAt
        rw [← hpos, hks]
      unfold spec_l18Sums_j0
      refine ⟨fun hh => ?_, fun hh => ?_⟩
      · exact found wk.drew.drew hdk2 hpos (hhas.trans hh) (fun (p' : Option Addr) (n' c' : Nat) (W : World) => ∃ t76 : Int, t76 = IntKind.wrap .i64 ((j : Int) + 1) ∧ (∃ (j2 b2 : Nat) (f2 : List Nat), p' = some ⟨b2, 0, none⟩ ∧ t76 = j2 ∧ j2 ≤ n ∧ OwnRows W w.heap.size T_impl_Money 3 p' n' c' (specTo l j2) f2 ∧ Ext w W) ∧ n - t76.toNat < n - (j : Int).toNat) (fun g n' c' f' W h1 h2 => fin g n' c' f' W h1 h2)
      · unfold spec_l18Sums_j2
        intro r2 wa hna
        exact new wk.drew.drew hdk2 hpos (hhas.trans hh) r2 wa hna (fun (p' : Option Addr) (n' c' : Nat) (W : World) => ∃ t76 : Int, t76 = IntKind.wrap .i64 ((j : Int) + 1) ∧ (∃ (j2 b2 : Nat) (f2 : List Nat), p' = some ⟨b2, 0, none⟩ ∧ t76 = j2 ∧ j2 ≤ n ∧ OwnRows W w.heap.size T_impl_Money 3 p' n' c' (specTo l j2) f2 ∧ Ext w W) ∧ n - t76.toNat < n - (j : Int).toNat) (fun g n' c' f' W h1 h2 => fin g n' c' f' W h1 h2)
  · have hkon : kk = on := by omega
    have hpos : kk = posOf (keysOf (specTo l j)) s1 := posOf_unique (by omega) hless (fun y hy => by
      rw [List.getElem?_eq_none (by omega)] at hy; cases hy)
    have hhas : hasAt (keysOf (specTo l j)) s1 = false := by
      unfold hasAt
      rw [← hpos, List.getElem?_eq_none (by omega)]
    unfold spec_l18Sums_j3
    refine ⟨fun hh => absurd hh (by simp), fun _ => ?_⟩
    unfold spec_l18Sums_j4
    intro r2 wa hna
    exact new wk.drew.drew hdk2 hpos hhas r2 wa hna (fun (p' : Option Addr) (n' c' : Nat) (W : World) => ∃ t76 : Int, t76 = IntKind.wrap .i64 ((j : Int) + 1) ∧ (∃ (j2 b2 : Nat) (f2 : List Nat), p' = some ⟨b2, 0, none⟩ ∧ t76 = j2 ∧ j2 ≤ n ∧ OwnRows W w.heap.size T_impl_Money 3 p' n' c' (specTo l j2) f2 ∧ Ext w W) ∧ n - t76.toNat < n - (j : Int).toNat) (fun g n' c' f' W h1 h2 => fin g n' c' f' W h1 h2)
end Go.Proofs.YtccpmkgiogpkhaaGreatDoor

namespace Go.Proofs.YtccpmkgiogpkhaaGreatDoor
open Go Go.Proofs.YtccpmkgiogpkhaaGreatDoor.Sx
set_option linter.unusedVariables false
set_option linter.unusedSimpArgs false
theorem impl_isZero_c {w : World} {xs : List Value} {s : ByteArray} {b : Bool} {z : List Int} (h : Reps w xs [.str s, .bool b, .ints z]) :
    Ret P n_impl_isZero [.agg ⟨xs⟩] w fun v w' => v = .bool (intOk [.bool b, .ints z] && decide (isign [.bool b, .ints z] = 0)) ∧ Ext w w' := by
  obtain ⟨a0, a1, a2p, a2n, a2c, a2z, rfl, hd, ha⟩ := open_Money h rfl
  cases hd
  refine impl_isZero_ret ?_
  unfold impl_isZero
  intro r w1 hn
  refine ⟨_, _, _, _, hn.blk.loadAAt 1 [.bool b, .slice a2p a2n a2c] rfl (by kernel_rfl) rfl, ?_⟩
  refine Ret.at (impl_IntOk_c (dx := [.bool b, .ints z]) ⟨rfl, ⟨_, _, _, rfl, ha.ext hn.ext⟩, trivial⟩ rfl) ?_
  rintro v w2 ⟨hv, y⟩
  subst hv
  have x := hn.ext.trans y
  refine ⟨_, rfl, fun e => ⟨_, _, _, (hn.blk.ext y).loadAt 2 rfl (by kernel_rfl) rfl, ?_, x⟩, fun e => ⟨by rw [e]; rfl, x⟩⟩
  rw [e]
  congr 1
  have hl := ha.1
  simp only [Bool.true_and, isign, e]
  cases z with
  | nil => simp at hl; simp [← hl]
  | cons q qs =>
    simp at hl
    cases b <;> simp [← hl] <;> omega
end Go.Proofs.YtccpmkgiogpkhaaGreatDoor

namespace Go.Proofs.YtccpmkgiogpkhaaGreatDoor
open Go Go.Proofs.YtccpmkgiogpkhaaGreatDoor.Sx
set_option linter.unusedVariables false
set_option linter.unusedSimpArgs false
def balT (l : List (List D0)) : Bool := legsOk l && (sumsTo l l.length).all fun x => decide (x.2 = 0)
theorem enc_small8 {v : Int} (h : v.natAbs ≤ 8000000000000000000000000000000000000) : intOk (enc v) = true := by
  exact enc_small (by omega)
theorem isign_zero {v : Int} (h : v.natAbs ≤ 8000000000000000000000000000000000000) : isign (enc v) = 0 ↔ v = 0 := by
  rw [isign_enc (enc_small8 h)]
  constructor
  · intro hh
    split at hh
    · omega
    · split at hh
      · assumption
      · omega
  · intro hh; subst hh; rfl
theorem sums8 {l : List (List D0)} (hc : ∀ x ∈ l, x.map D0.code = [.str, .str, .bool, .ints]) (hok : legsOk l = true) : ∀ x ∈ sumsTo l l.length, x.2.natAbs ≤ 8000000000000000000000000000000000000 := fun x hx => by
  have h1 := sumsTo_bound hc hok l.length (Nat.le_refl _) x hx
  exact Nat.le_trans h1 (Nat.le_trans (Nat.mul_le_mul_right _ (legs_facts hok).2.1) (by decide))
theorem row_at {s : List (ByteArray × Int)} {j : Nat} (h : j < s.length) (h2 : j < (sumsRows s).length) : (sumsRows s)[j] = .str s[j].1 :: enc s[j].2 := by simp [sumsRows]
theorem impl_Balanced_c {w : World} {p : Option Addr} {n c : Nat} {l : List (List D0)} (h : RowsR w 4 p n c l) (hc : ∀ x ∈ l, x.map D0.code = [.str, .str, .bool, .ints]) (hn : n ≤ 1048576) (hb : ∀ x ∈ l, bulks x ≤ 1048576) (ht : Tab w) :
    Ret P n_impl_Balanced [.slice p n c] w fun v w' => v = .bool (balT l) ∧ Ext w w' := by
  have hln := h.1
  refine impl_Balanced_ret ?_
  unfold impl_Balanced
  refine Ret.at (impl_LegsOk_c h hc hn hb ht) ?_
  rintro v w1 ⟨hv, y1⟩
  subst hv
  refine ⟨_, rfl, ifN (fun hno => ⟨by simp only [balT, hno, Bool.false_and], y1⟩) (fun hok => ?_)⟩
  refine Ret.at (impl_legSums_o (h.ext y1) hc hok) ?_
  rintro v w2 ⟨p2, n2, c2, f2, hv, ho, y2⟩
  subst hv
  have hrows := ho.rows
  have hsl := hrows.1
  rw [sumsRows_len] at hsl
  have hsz := sums8 hc hok
  rw [hln] at hsz
  have hs2 := sumsTo_len l n (by omega)
  refine ⟨_, _, _, rfl, fun i wr => ∃ j : Nat, i = j ∧ j ≤ n2 ∧ (∀ a (ha : a < (sumsTo l n).length), a < j → (sumsTo l n)[a].2 = 0) ∧ Ext w2 wr, fun i _ => n2 - i.toNat, ⟨0, rfl, Nat.zero_le _, fun a _ h => absurd h (by omega), Ext.refl _⟩, ?_⟩
  intro junk wr i ⟨j, hij, hj, hz, hx⟩
  subst hij
  have Y := (y1.trans y2).trans hx
  refine ifD (fun hlt => ?_) (fun hge => ⟨?_, Y⟩)
  · have hjn : j < n2 := by omega
    have hjs : j < (sumsTo l n).length := by omega
    obtain ⟨a, cs, hp, hk, hr, hld⟩ := (hrows.ext hx).at (P := P) (t := T_impl_Money) (by kernel_rfl) hjn
    subst hp
    rw [row_at hjs] at hr
    obtain ⟨k0, k1, kp, kn, kc, kz, rfl, hkd, hki⟩ := open_Money hr rfl
    have hb2 := hsz _ (List.getElem_mem hjs)
    refine ⟨⟨by omega, by omega⟩, _, _, _, _, _, by simpa using hld, ?_⟩
    intro r w3 hn3
    obtain ⟨w4, st4, b4, y4⟩ := hn3.fill (P := P) (t := T_impl_Money) (xs := [.string k0, .bool k1, .slice kp kn kc]) (by simp [Value.oneCell']) (by kernel_rfl) rfl
    refine ⟨w4, st4, _, _, _, _, _, b4.loadA0 (by kernel_rfl), ?_⟩
    refine Ret.at (impl_isZero_c (hr.ext y4)) ?_
    rintro v w5 ⟨hv, y5⟩
    subst hv
    have hzero : (intOk (enc (sumsTo l n)[j].2) && decide (isign (enc (sumsTo l n)[j].2) = 0)) = decide ((sumsTo l n)[j].2 = 0) := by
      rw [enc_small8 hb2, Bool.true_and, decide_eq_decide]
      exact isign_zero hb2
    refine ⟨_, rfl, ifN (fun hnz => ⟨?_, Y.trans (y4.trans y5)⟩) (fun hz0 => exW ⟨by omega, by omega⟩ ⟨⟨j + 1, rfl, by omega, fun a ha hlt2 => ?_, hx.trans (y4.trans y5)⟩, by show n2 - ((j : Int) + 1).toNat < n2 - (j : Int).toNat; omega⟩)⟩
    · have hne : (sumsTo l n)[j].2 ≠ 0 := by
        have := hzero.symm.trans hnz
        exact of_decide_eq_false this
      have : balT l = false := by
        unfold balT
        rw [hln, hok, Bool.true_and, Bool.eq_false_iff]
        intro hall
        rw [List.all_eq_true] at hall
        exact hne (of_decide_eq_true (hall _ (List.getElem_mem hjs)))
      rw [this]
    · by_cases haj : a < j
      · exact hz a ha haj
      · have : a = j := by omega
        subst this
        exact of_decide_eq_true (hzero.symm.trans hz0)
  · have : balT l = true := by
      unfold balT
      rw [hln, hok, Bool.true_and, List.all_eq_true]
      intro x hx
      obtain ⟨a, ha, rfl⟩ := List.getElem_of_mem hx
      exact decide_eq_true (hz a ha (by omega))
    rw [this]
theorem spec_Balanced_c {w : World} {p : Option Addr} {n c : Nat} {l : List (List D0)} (h : RowsR w 4 p n c l) (hc : ∀ x ∈ l, x.map D0.code = [.str, .str, .bool, .ints]) (hn : n ≤ 1048576) (hb : ∀ x ∈ l, bulks x ≤ 1048576) :
    Ret P n_spec_Balanced [.slice p n c] w fun v w' => v = .bool (balT l) ∧ Ext w w' := by
  have hln := h.1
  refine spec_Balanced_ret ?_
  unfold spec_Balanced
  refine Ret.at (spec_l18Sums_o h hc hn hb) ?_
  rintro v w2 ⟨p2, n2, c2, f2, hv, ho, y2⟩
  subst hv
  have hrows := ho.rows
  have hsl := hrows.1
  have hcode := specTo_code hc n (by omega)
  have hs2 := specTo_len l n (by omega)
  refine ⟨_, _, _, rfl, fun i wr => ∃ j : Nat, i = j ∧ j ≤ n2 ∧ (∀ a (ha : a < (specTo l n).length), a < j → isign ((specTo l n)[a].drop 1) = 0) ∧ Ext w2 wr, fun i _ => n2 - i.toNat, ⟨0, rfl, Nat.zero_le _, fun a _ h => absurd h (by omega), Ext.refl _⟩, ?_⟩
  intro junk wr i ⟨j, hij, hj, hz, hx⟩
  subst hij
  have Y := y2.trans hx
  refine ifD (fun hlt => ?_) (fun hge => ?_)
  · have hjn : j < n2 := by omega
    have hjs : j < (specTo l n).length := by omega
    obtain ⟨a, cs, hp, hk, hr, hld⟩ := (hrows.ext hx).at (P := P) (t := T_impl_Money) (by kernel_rfl) hjn
    subst hp
    have hr2 := hr
    obtain ⟨k0, k1, kp, kn, kc, kz, rfl, hkd, hki⟩ := open_Money hr (hcode _ (List.getElem_mem hjs))
    refine ⟨⟨by omega, by omega⟩, _, _, _, _, _, by simpa using hld, ?_⟩
    intro r w3 hn3
    obtain ⟨w4, st4, b4, y4⟩ := hn3.fill (P := P) (t := T_impl_Money) (xs := [.string k0, .bool k1, .slice kp kn kc]) (by simp [Value.oneCell']) (by kernel_rfl) rfl
    refine ⟨w4, st4, _, _, _, _, b4.loadAAt 1 [.bool k1, .slice kp kn kc] rfl (by kernel_rfl) rfl, ?_⟩
    refine Ret.at (spec_IntSign_c (dx := [.bool k1, .ints kz]) ⟨rfl, ⟨_, _, _, rfl, hki.ext y4⟩, trivial⟩ rfl) ?_
    rintro v w5 ⟨hv, y5⟩
    subst hv
    have hdrop : (specTo l n)[j].drop 1 = [.bool k1, .ints kz] := by rw [hkd]; rfl
    refine ⟨_, rfl, ifD (fun hnz => ⟨?_, Y.trans (y4.trans y5)⟩) (fun hz0 => exW ⟨by omega, by omega⟩ ⟨⟨j + 1, rfl, by omega, fun a ha hlt2 => ?_, hx.trans (y4.trans y5)⟩, by show n2 - ((j : Int) + 1).toNat < n2 - (j : Int).toNat; omega⟩)⟩
    · have : balT l = false := by
        unfold balT
        cases hok : legsOk l with
        | false => rfl
        | true =>
          rw [hln, Bool.true_and, Bool.eq_false_iff]
          intro hall
          rw [List.all_eq_true] at hall
          have hsp := specTo_sums hc hok n (by omega)
          have hsz := sums8 hc hok
          rw [hln] at hsz
          have hjs2 : j < (sumsTo l n).length := by have := congrArg List.length hsp; rw [sumsRows_len] at this; omega
          have hrj : (specTo l n)[j] = .str (sumsTo l n)[j].1 :: enc (sumsTo l n)[j].2 := by simp only [hsp]; exact row_at hjs2 _
          have h0 := of_decide_eq_true (hall _ (List.getElem_mem hjs2))
          rw [hrj] at hdrop
          have : enc (sumsTo l n)[j].2 = [.bool k1, .ints kz] := hdrop
          rw [← this, h0] at hnz
          exact hnz ((isign_zero (v := 0) (by simp)).2 rfl)
      rw [this]
    · by_cases haj : a < j
      · exact hz a ha haj
      · have : a = j := by omega
        subst this
        rw [hdrop]
        exact Decidable.not_not.1 hz0
  · refine Ret.at (spec_LegsOk_c (h.ext Y) hc hn hb) ?_
    rintro v w5 ⟨hv, y5⟩
    subst hv
    refine ⟨_, rfl, ?_, Y.trans y5⟩
    have : balT l = legsOk l := by
      unfold balT
      cases hok : legsOk l with
      | false => rfl
      | true =>
        rw [hln, Bool.true_and, List.all_eq_true]
        intro x hx
        obtain ⟨a, ha, rfl⟩ := List.getElem_of_mem hx
        have hsp := specTo_sums hc hok n (by omega)
        have hsz := sums8 hc hok
        rw [hln] at hsz
        have hja : a < (specTo l n).length := by have := congrArg List.length hsp; rw [sumsRows_len] at this; omega
        have hrj : (specTo l n)[a] = .str (sumsTo l n)[a].1 :: enc (sumsTo l n)[a].2 := by simp only [hsp]; exact row_at ha _
        have h0 := hz a hja (by omega)
        rw [hrj] at h0
        exact decide_eq_true ((isign_zero (hsz _ (List.getElem_mem ha))).1 h0)
    rw [this]
end Go.Proofs.YtccpmkgiogpkhaaGreatDoor

namespace Go.Proofs.YtccpmkgiogpkhaaGreatDoor
open Go Go.Proofs.YtccpmkgiogpkhaaGreatDoor.Sx
set_option linter.unusedVariables false
set_option linter.unusedSimpArgs false
def badAcct (b : List (List D0)) (x : List D0) : Bool := decide (acctAt b (strOf x) < 0)
def badCur (b : List (List D0)) (x : List D0) : Bool := decide (strOf (balOf b (strOf x)) ≠ strOf (x.drop 1))
def entCode (b l : List (List D0)) : Int :=
  if (bookOk b && legsOk l) = false then 1 else if l.any (badAcct b) then 2 else if l.any (badCur b) then 3 else if balT l = false then 4 else if (postN b l).isSome then 0 else 5
def entBook (b l : List (List D0)) : List (List D0) := if entCode b l = 0 then (postN b l).getD [] else []
theorem any_succ {f : List D0 → Bool} {l : List (List D0)} {j : Nat} (h : j < l.length) : (l.take (j + 1)).any f = ((l.take j).any f || f l[j]) := by
  rw [List.take_succ_eq_append_getElem h, List.any_append]
  simp
theorem any_at {f : List D0 → Bool} {l : List (List D0)} {j : Nat} (h : j < l.length) (hf : f l[j] = true) : l.any f = true := by
  rw [List.any_eq_true]; exact ⟨_, List.getElem_mem h, hf⟩
theorem postN_all : ∀ (l : List (List D0)) {bk r : List (List D0)}, (∀ x ∈ bk, x.map D0.code = [.str, .str, .bool, .ints]) → (∀ x ∈ bk, cnts x ≤ 60) → postN bk l = some r → r.length = bk.length ∧ (∀ x ∈ r, x.map D0.code = [.str, .str, .bool, .ints]) ∧ ∀ x ∈ r, cnts x ≤ 60
  | [], bk, r, hc, hb, h => by
    simp only [postN, Option.some.injEq] at h
    subst h; exact ⟨rfl, hc, hb⟩
  | x :: l, bk, r, hc, hb, h => by
    unfold postN at h
    split at h
    · rename_i hok
      obtain ⟨h1, h2, h3⟩ := postOk_parts hok
      obtain ⟨j, hj, e1, e2⟩ := acct_in h2
      have := postN_all l (postL_code' hc hok) (fun y hy => by
        rcases List.mem_or_eq_of_mem_set hy with hy | hy
        · exact hb y hy
        · rw [hy, cnts_app]
          have e3 := addM_cnt h3
          obtain ⟨a, es, he, _⟩ := code_str (hc _ (List.getElem_mem hj))
          rw [e2, he] at e3 ⊢
          show (1 : Int) + 0 + _ ≤ 60
          omega) h
      rw [postL_len] at this
      exact this
    · cases h
theorem entCode_one {b l : List (List D0)} (h : (bookOk b && legsOk l) = false) : entCode b l = 1 := by unfold entCode; rw [if_pos h]
theorem entCode_two {b l : List (List D0)} (h : (bookOk b && legsOk l) = true) (h2 : l.any (badAcct b) = true) : entCode b l = 2 := by unfold entCode; rw [if_neg (by rw [h]; simp), if_pos h2]
theorem entCode_three {b l : List (List D0)} (h : (bookOk b && legsOk l) = true) (h2 : l.any (badAcct b) = false) (h3 : l.any (badCur b) = true) : entCode b l = 3 := by
  unfold entCode; rw [if_neg (by rw [h]; simp), if_neg (by rw [h2]; simp), if_pos h3]
theorem entCode_four {b l : List (List D0)} (h : (bookOk b && legsOk l) = true) (h2 : l.any (badAcct b) = false) (h3 : l.any (badCur b) = false) (h4 : balT l = false) : entCode b l = 4 := by
  unfold entCode; rw [if_neg (by rw [h]; simp), if_neg (by rw [h2]; simp), if_neg (by rw [h3]; simp), if_pos h4]
theorem entCode_rest {b l : List (List D0)} (h : (bookOk b && legsOk l) = true) (h2 : l.any (badAcct b) = false) (h3 : l.any (badCur b) = false) (h4 : balT l = true) : entCode b l = if (postN b l).isSome then 0 else 5 := by
  unfold entCode; rw [if_neg (by rw [h]; simp), if_neg (by rw [h2]; simp), if_neg (by rw [h3]; simp), if_neg (by rw [h4]; simp)]
theorem entCode_zero {b l : List (List D0)} (h : entCode b l = 0) : bookOk b = true ∧ legsOk l = true ∧ ∃ r, postN b l = some r := by
  unfold entCode at h
  split at h
  · cases h
  · rename_i h1
    split at h
    · cases h
    · split at h
      · cases h
      · split at h
        · cases h
        · split at h
          · rename_i h5
            simp only [Bool.not_eq_false, Bool.and_eq_true] at h1
            exact ⟨h1.1, h1.2, Option.isSome_iff_exists.1 h5⟩
          · cases h
theorem entBook_facts {b l : List (List D0)} (hc : ∀ x ∈ b, x.map D0.code = [.str, .str, .bool, .ints]) : (∀ x ∈ entBook b l, x.map D0.code = [.str, .str, .bool, .ints]) ∧ cntL (entBook b l) ≤ 1000000000 := by
  unfold entBook
  split
  · rename_i h
    obtain ⟨h1, h2, r, hr⟩ := entCode_zero h
    obtain ⟨e1, e2, e3⟩ := postN_all l hc (fun x hx => leg_cnt (hc x hx) (bookOk_leg h1 x hx)) hr
    rw [hr]
    have hl := bookOk_len h1
    have := cntL_maxA (M := 60) (by decide) r e3
    exact ⟨e2, by show cntL r ≤ _; omega⟩
  · exact ⟨fun x hx => by simp at hx, by decide⟩
end Go.Proofs.YtccpmkgiogpkhaaGreatDoor

namespace Go.Proofs.YtccpmkgiogpkhaaGreatDoor
open Go
abbrev muLink : Go.Conc.Locks.MuLink := { lock := 116, unlock := 117, ilock := 119, iunlock := 120, lockSlow := 125, unlockSlow := 128, disable := 121, enable := 123, acquire := 124, relMerge := 126, cas32 := 122, add32 := 127, tMutex := 139, tIMutex := 137, tPMutex := 145, tPIMutex := 146, tPI32 := 148, tUP := 150, tNoCopy := 134, tU32 := 135 }
theorem muLib : Go.Conc.Locks.MuLib Tryz.prog muLink :=
  ⟨Tryz.func116, Tryz.func117, Tryz.func119, Tryz.func120, Tryz.func121, Tryz.func123, Tryz.func124, Tryz.func126, Tryz.func122, Tryz.func127, Tryz.underlying137, Tryz.runUnderlying137, Tryz.sizeOf137, Tryz.isAgg137, Tryz.zeroValue137, Tryz.underlying139, Tryz.runUnderlying139, Tryz.sizeOf139, Tryz.isAgg139, Tryz.zeroValue139, Tryz.underlying145, Tryz.runUnderlying145, Tryz.sizeOf145, Tryz.isAgg145, Tryz.zeroValue145, Tryz.underlying146, Tryz.runUnderlying146, Tryz.sizeOf146, Tryz.isAgg146, Tryz.zeroValue146, Tryz.underlying148, Tryz.runUnderlying148, Tryz.sizeOf148, Tryz.isAgg148, Tryz.zeroValue148, Tryz.underlying150, Tryz.runUnderlying150, Tryz.sizeOf150, Tryz.isAgg150, Tryz.zeroValue150, Tryz.underlying134, Tryz.runUnderlying134, Tryz.sizeOf134, Tryz.isAgg134, Tryz.zeroValue134, Tryz.underlying21, Tryz.runUnderlying21, Tryz.sizeOf21, Tryz.isAgg21, Tryz.zeroValue21, (by kernel_rfl)⟩
end Go.Proofs.YtccpmkgiogpkhaaGreatDoor

namespace Go.Proofs.YtccpmkgiogpkhaaGreatDoor
open Go Go.Proofs Go.Proofs.YtccpmkgiogpkhaaGreatDoor.Sx
set_option linter.unusedVariables false
set_option linter.unusedSimpArgs false
theorem blk_setCellC {w : World} {b k : Nat} {e : TypeId} {cs : List Value} (h : Blk w b e cs) (v : Value) : Blk (w.setCell ⟨b, k, none⟩ v) b e (cs.set k v) ∧ Chg [b] w (w.setCell ⟨b, k, none⟩ v) := by
  have h' : w.heap[b]? = some (.cells ⟨cs⟩ e (0, 0)) := h
  refine ⟨?_, rfl, rfl, rfl, by simp [World.setCell], fun j hj hn => ?_⟩
  rotate_left
  · show (w.heap.modify b _)[j]? = _
    rw [Array.getElem?_modify, if_neg (fun e => hn (by rw [e]; simp))]
  show (w.heap.modify b _)[b]? = _
  rw [Array.getElem?_modify, if_pos rfl, h']
  simp
theorem blk_frozenC {w : World} {b k : Nat} {e : TypeId} {cs : List Value} (h : Blk w b e cs) : w.frozen? ⟨b, k, none⟩ = false := by
  have h' : w.heap[b]? = some (.cells ⟨cs⟩ e (0, 0)) := h
  simp [World.frozen?, h']
set_option maxHeartbeats 1000000 in
theorem change_BookPost {w : World} {r n c : Nat} {e : TypeId} {p : Option Addr} {c0 c1 : Value} {Q : Bool → Option Addr → Nat → Nat → World → Prop} (hb : Blk w r e [.int .i32 0, .int .u32 0, .slice p n c])
    (hcall : ∀ w1, Blk w1 r e [.int .i32 1, .int .u32 0, .slice p n c] → Chg [r] w w1 → w1.heap.size = w.heap.size → Calls Tryz.prog 104 #[.pointer (some ⟨r, 2, none⟩), c0, c1] w1 fun ed w2 => ∃ ok p' n' c', ed = .returned (.bool ok) ∧ Q ok p' n' c' w2 ∧ Blk w2 r e [.int .i32 1, .int .u32 0, .slice p' n' c']) :
    Calls Tryz.prog 112 #[.pointer (some ⟨r, 0, none⟩), .func (.func 104) #[] #[c0, c1]] w fun ed w' => ∃ v, ed = .returned v ∧ ∃ ok p' n' c' w2, v = .bool ok ∧ Q ok p' n' c' w2 ∧ Chg [r] w2 w' ∧ w'.heap.size = w2.heap.size ∧ Blk w' r e [.int .i32 0, .int .u32 0, .slice p' n' c'] := by
  obtain ⟨hb1, ch1⟩ := blk_setCellC (k := 0) hb (.int .i32 1)
  have hc0 : w.cell? ⟨r, 0, none⟩ = some (.int .i32 0) := by rw [hb.cell]; rfl
  have hcl := hcall (w.setCell ⟨r, 0, none⟩ (.int .i32 1)) hb1 ch1 (by simp [World.setCell])
  go_enter_defers Tryz.func112, Tryz.ntmps112
  go_wp2_with (first | (go_at_call 116; refine (Go.MuLone.lock_free muLib ⟨r, 0, none⟩ _ hc0 (blk_frozenC hb)).mono ?_; rintro e w' ⟨rfl, rfl⟩) | (go_at_call 104; refine hcl.mono ?_; rintro e w2 ⟨ok, p', n', c', rfl, hQ, hb2⟩))
  refine leaves_cons (f := 117) (args := #[.pointer (some ⟨r, 0, none⟩)]) (by simp) (by simp [go_sem]) ?_
  refine (Go.MuLone.unlock_deferred muLib ⟨r, 0, none⟩ .returning _ (by rw [hb2.cell]; rfl) (blk_frozenC hb2)).mono ?_
  rintro e u' w'' ⟨rfl, rfl, rfl⟩
  obtain ⟨hb3, ch3⟩ := blk_setCellC (k := 0) hb2 (.int .i32 0)
  exact ⟨_, results_tmp rfl _ _ _, _, rfl, ok, p', n', c', w2, rfl, hQ, ch3, by simp [World.setCell], hb3⟩
end Go.Proofs.YtccpmkgiogpkhaaGreatDoor

namespace Go.Proofs.YtccpmkgiogpkhaaGreatDoor.Sx
open Go Go.RowKit
set_option linter.unusedVariables false
set_option linter.unusedSimpArgs false
theorem Fl.trans {os : List Obj} {ss : List (Option Nat)} {w : World} {s1 : List (Option Nat)} {w1 : World} {s2 : List (Option Nat)} {w2 : World} (h : Fl os ss w s1 w1) (g : Fl os s1 w1 s2 w2) : Fl os ss w s2 w2 := by
  induction h with
  | refl => exact g
  | step h1 h2 _ ih => exact .step h1 h2 (ih g)
theorem Fl.old {os : List Obj} {ss : List (Option Nat)} {w : World} {s1 : List (Option Nat)} {w1 : World} (h : Fl os ss w s1 w1) {k r : Nat} (hk : s1[k]? = some (some r)) : ss[k]? = some (some r) ∨ w.heap.size ≤ r := by
  induction h with
  | refl => exact .inl hk
  | step h1 h2 h3 ih =>
    rename_i ss w k' o s' w'
    have hs : (w.alloc o).heap.size = w.heap.size + 1 := by simp
    rcases ih hk with h | h
    · by_cases e : k' = k
      · subst e
        have hl : k' < ss.length := by
          rcases Nat.lt_or_ge k' ss.length with h | h
          · exact h
          · rw [List.getElem?_eq_none h] at h1; cases h1
        rw [List.getElem?_set_self hl] at h
        simp at h
        exact .inr (by omega)
      · rw [List.getElem?_set_ne e] at h
        exact .inl h
    · exact .inr (by omega)
def FlS (os : List Obj) (w0 : World) (ss : List (Option Nat)) (w : World) : Prop :=
  Ext w0 w ∧ (∀ (k r : Nat), ss[k]? = some (some r) → w0.heap.size ≤ r ∧ r < w.heap.size ∧ w.heap[r]? = os[k]?) ∧ (∀ (k l r : Nat), ss[k]? = some (some r) → ss[l]? = some (some r) → k = l)
theorem FlS.ext {os : List Obj} {w0 w w' : World} {ss : List (Option Nat)} (h : FlS os w0 ss w) (y : Ext w w') : FlS os w0 ss w' :=
  ⟨h.1.trans y, fun k r hk => by
    obtain ⟨a, b, c⟩ := h.2.1 k r hk
    exact ⟨a, Nat.lt_of_lt_of_le b y.le, (y.block r b).trans c⟩, h.2.2⟩
theorem FlS.step {os : List Obj} {w0 w w' : World} {ss ss' : List (Option Nat)} (h : FlS os w0 ss w) (f : Fl os ss w ss' w') : FlS os w0 ss' w' := by
  induction f with
  | refl => exact h
  | step h1 h2 h3 ih =>
    rename_i ss w k' o s' w'
    refine ih ?_
    have y : Ext w (w.alloc o) := (Below.refl _ _).alloc (Nat.le_refl _) _
    have hs : (w.alloc o).heap.size = w.heap.size + 1 := by simp
    have hg : (w.alloc o).heap[w.heap.size]? = some o := heap_alloc_new w _
    have hl : k' < ss.length := by
      rcases Nat.lt_or_ge k' ss.length with h | h
      · exact h
      · rw [List.getElem?_eq_none h] at h1; cases h1
    have hx := h.ext y
    have hle := h.1.le
    refine ⟨hx.1, fun k r hk => ?_, fun k l r hk hl' => ?_⟩
    · by_cases e : k' = k
      · subst e
        rw [List.getElem?_set_self hl] at hk
        simp at hk
        subst hk
        exact ⟨hle, by omega, hg.trans h2.symm⟩
      · rw [List.getElem?_set_ne e] at hk
        exact hx.2.1 k r hk
    · by_cases e : k' = k
      · by_cases e2 : k' = l
        · omega
        · subst e
          rw [List.getElem?_set_self hl] at hk
          simp at hk
          subst hk
          rw [List.getElem?_set_ne e2] at hl'
          have := (h.2.1 l _ hl').2.1
          omega
      · rw [List.getElem?_set_ne e] at hk
        by_cases e2 : k' = l
        · subst e2
          rw [List.getElem?_set_self hl] at hl'
          simp at hl'
          subst hl'
          have := (h.2.1 k _ hk).2.1
          omega
        · rw [List.getElem?_set_ne e2] at hl'
          exact h.2.2 k l r hk hl'
theorem FlS.first {os : List Obj} {w0 w : World} {ss0 ss : List (Option Nat)} (f : Fl os ss0 w0 ss w) (h : ss0.all Option.isNone = true) : FlS os w0 ss w := by
  refine FlS.step ⟨Ext.refl _, fun k r hk => ?_, fun k l r hk _ => ?_⟩ f <;>
  · have hm := List.mem_of_getElem? hk
    have := List.all_eq_true.1 h _ hm
    simp at this
theorem FlS.blk {os : List Obj} {w0 w : World} {ss : List (Option Nat)} {k r : Nat} {cs : List Value} {e : TypeId} (h : FlS os w0 ss w) (hk : ss[k]? = some (some r)) (ho : os[k]? = some (.cells ⟨cs⟩ e (0, 0))) : w0.heap.size ≤ r ∧ r < w.heap.size ∧ Blk w r e cs := by
  obtain ⟨a, b, c⟩ := h.2.1 k r hk
  exact ⟨a, b, c.trans ho⟩
theorem FlS.ne {os : List Obj} {w0 w : World} {ss : List (Option Nat)} {k l r s : Nat} (h : FlS os w0 ss w) (hk : ss[k]? = some (some r)) (hl : ss[l]? = some (some s)) (e : k ≠ l) : r ≠ s := fun hh => e (h.2.2 k l r hk (hh ▸ hl))
theorem FlS.apart {os : List Obj} {w0 wc we w' : World} {ss ss' : List (Option Nat)} {k r : Nat} (h : FlS os w0 ss wc) (f : Fl os ss we ss' w') (hk : ss'[k]? = some (some r)) : r < wc.heap.size ∨ we.heap.size ≤ r := by
  rcases f.old hk with a | a
  · exact .inl (h.2.1 k r a).2.1
  · exact .inr a
end Go.Proofs.YtccpmkgiogpkhaaGreatDoor.Sx

namespace Go.Proofs.YtccpmkgiogpkhaaGreatDoor
open Go Go.Proofs.YtccpmkgiogpkhaaGreatDoor.Sx
set_option linter.unusedVariables false
set_option linter.unusedSimpArgs false
set_option maxHeartbeats 1000000 in
theorem impl_BookPost_1_c {w0 w : World} {B r n c rj rm j : Nat} {e : TypeId} {p : Option Addr} {l : List (List D0)} {f : List Nat} {d0 : ByteArray} {d1 : Bool} {dp : Option Addr} {dn dc : Nat} {dz : List Int} (ht : Tab w0) (hx0 : Ext w0 w)
    (hb : Blk w r e [.int .i32 1, .int .u32 0, .slice p n c]) (ho : OwnRows w B T_impl_Acct 4 p n c l f) (hrf : r ∉ f) (hB : B ≤ w.heap.size) (hc : ∀ x ∈ l, x.map D0.code = [.str, .str, .bool, .ints]) (hn : n ≤ 1000) (hj : j < l.length)
    (hjb : Blk w rj T_int [.int .i64 (j : Int)]) (hmb : Blk w rm T_impl_Money [.string d0, .bool d1, .slice dp dn dc]) (g : Reps w [.string d0, .bool d1, .slice dp dn dc] [.str d0, .bool d1, .ints dz]) :
    Ret P n_impl_BookPost_1 [.pointer (some ⟨r, 2, none⟩), .pointer (some ⟨rj, 0, none⟩), .pointer (some ⟨rm, 0, none⟩)] w fun v w2 => ∃ f', v = .bool (addM (l[j].drop 1) [.str d0, .bool d1, .ints dz]).1 ∧ OwnRows w2 B T_impl_Acct 4 p n c (l.set j (l[j].take 1 ++ (addM (l[j].drop 1) [.str d0, .bool d1, .ints dz]).2)) f' ∧ (∀ q ∈ f', q ∈ f ∨ w.heap.size ≤ q) ∧ Blk w2 r e [.int .i32 1, .int .u32 0, .slice p n c] ∧ Chg (p.map (·.block)).toList w w2 := by
  have hln := ho.1
  obtain ⟨b, _, _, _, hpb, _⟩ := ho.put (List.getElem?_eq_getElem hj)
  subst hpb
  obtain ⟨m0, m1, kp, kn, kc, mz, hbB, hbl, hbf, hrow, hld, hrep, hput⟩ := acct_row ho hj (hc _ (List.getElem_mem hj)) (by kernel_rfl)
  have hadd : addM (l[j].drop 1) [.str d0, .bool d1, .ints dz] = mres (alk [.str m0, .bool m1, .ints mz] [.str d0, .bool d1, .ints dz]) m0 (ival [.bool m1, .ints mz] + ival [.bool d1, .ints dz]) := by rw [hrow]; rfl
  rw [hadd]
  have d := Ext.drew w
  refine impl_BookPost_1_ret ?_
  unfold impl_BookPost_1
  refine ⟨_, _, _, fun V hV => (hb.ext (d.trans hV)).loadAt 2 rfl (by kernel_rfl) rfl, _, fun V hV => (hjb.ext (d.trans hV)).loadAt 0 rfl (by kernel_rfl) rfl, ⟨by omega, by omega⟩, _, _, _, _, _, fun V hV => hld V (d.trans hV), _, _, _, _, _, fun V hV => (hmb.ext (d.trans hV)).loadA0 (by kernel_rfl), ?_⟩
  intro ss w4 F1
  have S1 := FlS.first F1 rfl
  have Y4 := d.trans F1.ext
  refine Ret.at (impl_MoneyAdd_n (hrep.ext Y4) (g.ext Y4) (ht.ext (hx0.trans Y4))) ?_
  rintro v w5 ⟨vs, fx, hv, hox, ndx, y5⟩
  subst hv
  obtain ⟨q0, q1, qp, qn, qc, qz, rfl, _, _⟩ := open_Money hox.reps (mres_code _ _ _)
  refine ⟨_, _, _, _, _, _, rfl, ?_⟩
  intro ss1 w6 rf F2 G
  have S2 := (S1.ext y5).step F2
  obtain ⟨hrf1, hrf2, hbk⟩ := S2.blk G rfl
  have hap := FlS.apart S1 F2 G
  have ld := d.le; have lF1 := F1.ext.le; have ly5 := y5.le
  obtain ⟨w7, st7, b7, ch7, sz7⟩ := hbk.storeA0 (P := P) (t := T_impl_Money) (xs := [.string q0, .bool q1, .slice qp qn qc]) (by kernel_rfl) rfl (by simp [Value.oneCell'])
  have hox7 := (hox.ext F2.ext).chg ch7 (fun k hk hm => by have := hox.lt k hk; simp at hm; omega)
  have Y7 : Ext w w7 := ((Y4.trans y5).trans F2.ext).chg ch7 (by simp; omega)
  have D7 := Ext.drew w7
  have Y7' := Y7.trans D7
  refine ⟨w7, st7, _, _, _, fun V hV => (hb.ext (Y7'.trans hV)).loadAt 2 rfl (by kernel_rfl) rfl, _, fun V hV => (hjb.ext (Y7'.trans hV)).loadAt 0 rfl (by kernel_rfl) rfl, _, _, _, _, _, fun V hV => (b7.ext (D7.trans hV)).loadA0 (by kernel_rfl), ⟨by omega, by omega⟩, ?_⟩
  obtain ⟨w9, f9, st9, hor9, ch9, sz9, hf9⟩ := hput _ w7.drew q0 q1 qp qn qc fx Y7' ((hox7.ext D7).mono (by omega)) ndx (fun q hq hm => by have := (hox.lt q hq).1; have := (ho.lt q hm).2; omega)
  exact ⟨w9, st9, f9, rfl, hor9, fun q hq => by
    rcases hf9 q hq with h | h
    · exact .inl h
    · exact .inr (by have := (hox.lt q h).1; omega), (hb.ext Y7').chg ch9 (by simp; exact fun h => hrf (h ▸ hbf)), Y7'.toChg.trans ch9⟩
set_option maxHeartbeats 1000000 in
theorem impl_changed_BookPost_c {w : World} {n c rj rm j : Nat} {p : Option Addr} {l : List (List D0)} {d0 : ByteArray} {d1 : Bool} {dp : Option Addr} {dn dc : Nat} {dz : List Int} (ht : Tab w) (h : RowsR w 4 p n c l) (hc : ∀ x ∈ l, x.map D0.code = [.str, .str, .bool, .ints]) (hn : n ≤ 1000) (hbk : ∀ x ∈ l, bulks x ≤ 4194304) (hj : j < l.length)
    (hjb : Blk w rj T_int [.int .i64 (j : Int)]) (hmb : Blk w rm T_impl_Money [.string d0, .bool d1, .slice dp dn dc]) (g : Reps w [.string d0, .bool d1, .slice dp dn dc] [.str d0, .bool d1, .ints dz]) :
    Ret P n_impl_changed [.agg ⟨[.slice p n c]⟩, .func (.func 104) #[] #[.pointer (some ⟨rj, 0, none⟩), .pointer (some ⟨rm, 0, none⟩)]] w fun v w' => ∃ p' n' c' f, v = .tuple #[.agg ⟨[.slice p' n' c']⟩, .bool (addM (l[j].drop 1) [.str d0, .bool d1, .ints dz]).1] ∧ OwnRows w' w.heap.size T_impl_Acct 4 p' n' c' (if (addM (l[j].drop 1) [.str d0, .bool d1, .ints dz]).1 then (l.set j (l[j].take 1 ++ (addM (l[j].drop 1) [.str d0, .bool d1, .ints dz]).2)) else []) f ∧ Ext w w' := by
  have hln := h.1
  refine impl_changed_ret ?_
  unfold impl_changed
  intro r w1 hn1 r1 w2 hn2
  have e1 := hn1.r_eq; have z1 := hn1.size; have e2 := hn2.r_eq; have z2 := hn2.size
  have X2 := hn1.ext.trans hn2.ext
  refine ⟨_, _, _, (hn1.blk.ext hn2.ext).loadA0 (by kernel_rfl), ?_⟩
  refine Ret.at (impl_bookCopy_c (h.ext X2) hc (by omega) hbk) ?_
  rintro v w3 ⟨p3, c3, f3, hv, ho3, y3⟩
  subst hv
  refine ⟨_, _, _, rfl, ?_⟩
  intro r2 w4 hn4
  have e4 := hn4.r_eq; have z4 := hn4.size
  obtain ⟨w5, st5, b5, y5⟩ := hn4.fill (P := P) (t := T_impl_guarded) (xs := [.int .i32 0, .int .u32 0, .slice p3 n c3]) (by simp [Value.oneCell']) (by kernel_rfl) rfl
  have l3 := y3.le; have l5 := y5.le
  refine ⟨w5, st5, ?_⟩
  have X5 := (X2.trans y3).trans y5
  have hr23 : r2 ∉ f3 := fun hm => by have := (ho3.lt r2 hm).2; omega
  have lt5 := b5.lt
  refine Ret.at (P := P) (change_BookPost (Q := fun ok p' n' c' W => ok = (addM (l[j].drop 1) [.str d0, .bool d1, .ints dz]).1 ∧ ∃ f', OwnRows W w.heap.size T_impl_Acct 4 p' n' c' (l.set j (l[j].take 1 ++ (addM (l[j].drop 1) [.str d0, .bool d1, .ints dz]).2)) f' ∧ r2 ∉ f' ∧ r1 ∉ f' ∧ Ext w W ∧ Blk W r1 T_impl_Book [.slice none 0 0]) b5 ?_) ?_
  · intro w6 b6 ch6 sz6
    have X6 : Ext w w6 := X5.chg ch6 (by simp; omega)
    refine Calls.mono (impl_BookPost_1_c (w0 := w) (f := f3) (B := w.heap.size) ht X6 b6 (((ho3.ext y5).mono (by omega)).chg ch6 (fun q hq hm => by simp at hm; subst hm; exact hr23 hq)) hr23 (by omega) hc hn hj (hjb.ext X6) (hmb.ext X6) (g.ext X6)) ?_
    rintro ed w7 ⟨v, hv, f', hvb, hor, hff, hb7, C7⟩
    subst hv
    subst hvb
    have hp3 : ∀ q ∈ (p3.map (·.block)).toList, w2.heap.size ≤ q := fun q hq => by
      obtain ⟨_, _, _, _, _, hf, _⟩ := id ho3
      exact (ho3.lt q (by rw [hf]; exact List.mem_append_left _ hq)).1
    refine ⟨_, p3, n, c3, rfl, ⟨rfl, f', hor, fun hm => ?_, fun hm => ?_, X6.chg C7 (fun q hq => by have := hp3 q hq; omega), ?_⟩, hb7⟩
    · rcases hff r2 hm with h | h
      · exact hr23 h
      · omega
    · rcases hff r1 hm with h | h
      · have := (ho3.lt r1 h).1; omega
      · omega
    · refine ((((hn2.blk.ext y3).ext y5).chg ch6 (by simp; omega))).chg C7 (fun hm => ?_)
      have := hp3 r1 hm; omega
  rintro v w7 ⟨ok, p', n', c', w8, hv, ⟨hok, f', hor, hrf, hr1f, hx8, hb18⟩, ch7, sz7, b7⟩
  subst hv
  subst hok
  have X7 : Ext w w7 := hx8.chg ch7 (by simp; omega)
  have hor7 := hor.chg ch7 (fun q hq hm => by simp at hm; subst hm; exact hrf hq)
  have hb17 := hb18.chg ch7 (by simp; omega)
  refine ⟨_, rfl, ifN (fun hno => ?_) (fun hyes => ?_)⟩
  · obtain ⟨w12, st12, b12, ch12, sz12⟩ := hb17.storeA0 (P := P) (t := T_impl_Book) (xs := [.slice none 0 0]) (by kernel_rfl) rfl (by simp [Value.oneCell'])
    refine ⟨w12, st12, _, _, _, b12.loadA0 (by kernel_rfl), none, 0, 0, [], by rw [hno], ?_, X7.chg ch12 (by simp; omega)⟩
    rw [hno]
    exact rows0 _ _ _ _
  · have hl1 := hb17.lt
    obtain ⟨w12, st12, b12, ch12, sz12⟩ := hb17.storeA0 (P := P) (t := T_impl_Book) (xs := [.slice p' n' c']) (by kernel_rfl) rfl (by simp [Value.oneCell'])
    refine ⟨_, _, _, b7.loadAAt 2 [.slice p' n' c'] rfl (by kernel_rfl) rfl, w12, st12, _, _, _, b12.loadA0 (by kernel_rfl), p', n', c', f', by rw [hyes], ?_, X7.chg ch12 (by simp; omega)⟩
    rw [hyes, if_pos rfl]
    exact hor7.chg ch12 (fun q hq hm => by simp at hm; subst hm; exact hr1f hq)
theorem postT_no {l : List (List D0)} {name : ByteArray} {m : List D0} (h : postOk l name m = false) : postT l name m = [] := by unfold postT; rw [h]; rfl
theorem postT_yes {l : List (List D0)} {name : ByteArray} {m : List D0} {j : Nat} (h1 : bookOk l = true) (hj : j < l.length) (h2 : acctAt l name = j) (h3 : rowAt l name = l[j]) : postOk l name m = (addM (l[j].drop 1) m).1 ∧ postT l name m = if (addM (l[j].drop 1) m).1 then l.set j (l[j].take 1 ++ (addM (l[j].drop 1) m).2) else [] := by
  have : postOk l name m = (addM (l[j].drop 1) m).1 := by unfold postOk; rw [h1, h3, decide_eq_true (by omega)]; rfl
  refine ⟨this, ?_⟩
  unfold postT postL
  rw [this, h3, h2, Int.toNat_natCast]
set_option maxHeartbeats 1000000 in
theorem impl_BookPost_o {w : World} {p : Option Addr} {n c : Nat} {l : List (List D0)} (h : RowsR w 4 p n c l) (hc : ∀ x ∈ l, x.map D0.code = [.str, .str, .bool, .ints]) (hn : n ≤ 1048576) (hb : ∀ x ∈ l, bulks x ≤ 4194304) (name : ByteArray) {ys : List Value} {dm : List D0} (g : Reps w ys dm) (gc : dm.map D0.code = [.str, .bool, .ints]) (gb : bulks dm ≤ 100000000) (ht : Tab w) :
    Ret P n_impl_BookPost [.agg ⟨[.slice p n c]⟩, .string name, .agg ⟨ys⟩] w fun v w' => ∃ p' n' c' f, v = .tuple #[.agg ⟨[.slice p' n' c']⟩, .bool (postOk l name dm)] ∧ OwnRows w' w.heap.size T_impl_Acct 4 p' n' c' (postT l name dm) f ∧ Ext w w' := by
  have hln := h.1
  have g0 := g
  obtain ⟨d0, d1, dp, dn, dc, dz, rfl, rfl, _⟩ := open_Money g gc
  refine impl_BookPost_ret ?_
  unfold impl_BookPost
  intro r w1 hn1 r1 w2 hn2 r2 w3 hn3
  have e1 := hn1.r_eq; have z1 := hn1.size; have e2 := hn2.r_eq; have z2 := hn2.size; have e3 := hn3.r_eq; have z3 := hn3.size
  have Y1 := hn2.ext.trans hn3.ext
  have X3 := hn1.ext.trans Y1
  have b0 := hn1.blk.ext Y1
  have b1 := hn2.blk.ext hn3.ext
  have b2 := hn3.blk
  have lt2 := b2.lt
  refine ⟨_, _, _, b0.loadA0 (by kernel_rfl), ?_⟩
  refine Ret.at (impl_AcctAt_c (h.ext X3) hc name) ?_
  rintro v w4 ⟨hv, y4⟩
  subst hv
  refine ⟨_, rfl, ?_⟩
  intro r3 w5 hn5
  have e5 := hn5.r_eq; have z5 := hn5.size
  obtain ⟨w6, st6, b6, ch6, sz6⟩ := hn5.blk.store0 (P := P) (t := T_int) (k := 0) (v := .int .i64 (acctAt l name)) (by kernel_rfl) (by simp) rfl
  have l4 := y4.le
  have Y6 : Ext w3 w6 := (y4.trans hn5.ext).chg ch6 (by simp; omega)
  have X6 := X3.trans Y6
  refine ⟨w6, st6, _, _, _, (b0.ext Y6).loadA0 (by kernel_rfl), ?_⟩
  refine Ret.at (impl_BookOk_w (h.ext X6) hc hn hb (ht.ext X6)) ?_
  rintro v w7 ⟨hv, y7⟩
  subst hv
  have Y7 := Y6.trans y7
  have X7 := X3.trans Y7
  have b67 : Blk w7 r3 T_int [.int .i64 (acctAt l name)] := b6.ext y7
  have no : ∀ W, Ext w3 W → postOk l name [.str d0, .bool d1, .ints dz] = false → ∃ wv, Stores P T_impl_Book ⟨r2, 0, none⟩ (.agg #[.slice none 0 0]) W wv ∧ ∃ p n c, Loads P T_impl_Book ⟨r2, 0, none⟩ (.agg #[.slice p n c]) wv ∧ ∃ p' n' c' f, Value.tuple #[.agg #[.slice p n c], .bool false] = .tuple #[.agg ⟨[.slice p' n' c']⟩, .bool (postOk l name [.str d0, .bool d1, .ints dz])] ∧ OwnRows wv w.heap.size T_impl_Acct 4 p' n' c' (postT l name [.str d0, .bool d1, .ints dz]) f ∧ Ext w wv := fun W hW hno => by
    obtain ⟨w12, st12, b12, ch12, sz12⟩ := (b2.ext hW).storeA0 (P := P) (t := T_impl_Book) (xs := [.slice none 0 0]) (by kernel_rfl) rfl (by simp [Value.oneCell'])
    refine ⟨w12, st12, _, _, _, b12.loadA0 (by kernel_rfl), none, 0, 0, [], by rw [hno], ?_, (X3.trans hW).chg ch12 (by simp; omega)⟩
    rw [postT_no hno]
    exact rows0 _ _ _ _
  refine ⟨_, rfl, ifN (fun hno => ifT (no w7 Y7 (by unfold postOk; rw [hno]; rfl))) (fun hok => ?_)⟩
  have h12 := bookOk_len hok
  refine ⟨_, b67.loadAt 0 rfl (by kernel_rfl) rfl, ifD (fun hlt => no w7 Y7 (by unfold postOk; rw [hok, decide_eq_false (by omega)]; rfl)) (fun hge => ?_)⟩
  obtain ⟨j, hj, h1, h2⟩ := acct_in (show 0 ≤ acctAt l name by omega)
  obtain ⟨q1, q2⟩ := postT_yes (m := [.str d0, .bool d1, .ints dz]) hok hj h1 h2
  rw [h1] at b67
  refine ⟨_, _, _, (b0.ext Y7).loadA0 (by kernel_rfl), ?_⟩
  refine Ret.at (impl_changed_BookPost_c (ht.ext X7) (h.ext X7) hc (by omega) hb hj b67 (b1.ext Y7) (g0.ext X7)) ?_
  rintro v w8 ⟨p', n', c', f, hv, hor, y8⟩
  subst hv
  have l7 := Y7.le
  obtain ⟨w9, st9, b9, ch9, sz9⟩ := ((b2.ext Y7).ext y8).storeA0 (P := P) (t := T_impl_Book) (xs := [.slice p' n' c']) (by kernel_rfl) rfl (by simp [Value.oneCell'])
  refine ⟨_, _, _, _, rfl, w9, st9, _, _, _, b9.loadA0 (by kernel_rfl), p', n', c', f, by rw [q1], ?_, (X7.trans y8).chg ch9 (by simp; omega)⟩
  rw [q2]
  exact (hor.chg ch9 (fun q hq hm => by have := (hor.lt q hq).1; simp at hm; omega)).mono X7.le
end Go.Proofs.YtccpmkgiogpkhaaGreatDoor

namespace Go.Proofs.YtccpmkgiogpkhaaGreatDoor
open Go Go.Proofs.YtccpmkgiogpkhaaGreatDoor.Sx
set_option linter.unusedVariables false
set_option linter.unusedSimpArgs false
set_option maxHeartbeats 1000000 in
theorem impl_mustPost_c {w : World} {p q : Option Addr} {n c m d : Nat} {b l : List (List D0)} (h : RowsR w 4 p n c b) (hc : ∀ x ∈ b, x.map D0.code = [.str, .str, .bool, .ints]) (hn : n ≤ 1000) (hb : ∀ x ∈ b, bulks x ≤ 1048576)
    (k : RowsR w 4 q m d l) (kc : ∀ x ∈ l, x.map D0.code = [.str, .str, .bool, .ints]) (hm : m ≤ 1000) (h0 : 0 < m) (kb : ∀ x ∈ l, bulks x ≤ 1048576) (ht : Tab w) :
    RetZ P n_impl_mustPost [.agg ⟨[.slice p n c]⟩, .slice q m d] w
      (fun v w' => ∃ bk p' n' c' f, postN b l = some bk ∧ v = .agg ⟨[.slice p' n' c']⟩ ∧ OwnRows w' w.heap.size T_impl_Acct 4 p' n' c' bk f ∧ (∀ x ∈ bk, x.map D0.code = [.str, .str, .bool, .ints]) ∧ Ext w w')
      (fun v w' => postN b l = none ∧ v = .iface T_int (.int .i64 5) ∧ Ext w w') := by
  have hln := h.1; have kln := k.1
  refine impl_mustPost_ret ?_
  unfold impl_mustPost
  intro r w1 hn1 r1 w2 hn2
  have e1 := hn1.r_eq; have z1 := hn1.size; have e2 := hn2.r_eq; have z2 := hn2.size
  have X2 := hn1.ext.trans hn2.ext
  refine ⟨fun i wr => ∃ (j : Nat) (bk : List (List D0)) (p' : Option Addr) (n' c' : Nat), i = j ∧ j ≤ m ∧ Blk wr r T_impl_Book [.slice p' n' c'] ∧ Blk wr r1 T_impl_Book [.slice none 0 0] ∧ RowsR wr 4 p' n' c' bk ∧ n' ≤ 1000 ∧ (∀ x ∈ bk, x.map D0.code = [.str, .str, .bool, .ints]) ∧ (∀ x ∈ bk, bulks x ≤ 1048576 + 50 * j) ∧ postN b l = postN bk (l.drop j) ∧ (0 < j → ∃ f, OwnRows wr w.heap.size T_impl_Acct 4 p' n' c' bk f ∧ r ∉ f ∧ r1 ∉ f) ∧ Ext w wr,
    fun i _ => m - i.toNat, ⟨0, b, p, n, c, rfl, Nat.zero_le _, hn1.blk.ext hn2.ext, hn2.blk, h.ext X2, hn, hc, fun x hx => by have := hb x hx; omega, by rw [List.drop_zero], fun hh => absurd hh (by omega), X2⟩, ?_⟩
  intro junk wr i ⟨j, bk, p', n', c', hi, hj, hbr, hbr1, hrow, hn', hbc, hbb, hpn, hown, hx⟩
  subst hi
  have lx := hx.le
  have ltr := hbr.lt; have ltr1 := hbr1.lt
  refine ifD (fun hlt => ?_) (fun hge => ?_)
  · have hjm : j < m := by omega
    have hjl : j < l.length := by omega
    obtain ⟨bl, off, hpp, hs⟩ := (k.ext hx).2.2.2 (by omega)
    subst hpp
    obtain ⟨cs, hk, hr, hsg⟩ := hs j _ (List.getElem?_eq_getElem hjl)
    have hcode := kc _ (List.getElem_mem hjl)
    have hkb := kb _ (List.getElem_mem hjl)
    obtain ⟨a0, a1, a2, a3p, a3n, a3c, a3z, rfl, hd, ha⟩ := open_Leg hr hcode
    have hs0 : strOf l[j] = a0 := by rw [hd]; rfl
    have hm1 : l[j].drop 1 = [.str a1, .bool a2, .ints a3z] := by rw [hd]; rfl
    rw [hd] at hkb
    refine ⟨⟨by omega, by omega⟩, _, _, _, _, _, _, by rw [addr_add, Int.toNat_natCast]; exact hsg.loadAAt 0 [.string a0, .string a1, .bool a2, .slice a3p a3n a3c] rfl (by kernel_rfl) rfl, ?_⟩
    intro r4 w6 hn6
    have e6 := hn6.r_eq; have z6 := hn6.size
    obtain ⟨w7, st7, b7, y7⟩ := hn6.fill (P := P) (t := T_impl_Leg) (xs := [.string a0, .string a1, .bool a2, .slice a3p a3n a3c]) (by simp [Value.oneCell']) (by kernel_rfl) rfl
    have hmr : Reps wr [.string a1, .bool a2, .slice a3p a3n a3c] [.str a1, .bool a2, .ints a3z] := ⟨rfl, rfl, ⟨_, _, _, rfl, ha⟩, trivial⟩
    refine ⟨w7, st7, _, _, _, (hbr.ext y7).loadA0 (by kernel_rfl), _, b7.loadAt 0 rfl (by kernel_rfl) rfl, _, _, _, _, _, b7.loadAAt 1 [.string a1, .bool a2, .slice a3p a3n a3c] rfl (by kernel_rfl) rfl, ?_⟩
    refine Ret.at (impl_BookPost_o (hrow.ext y7) hbc (by omega) (fun x hx => by have := hbb x hx; omega) a0 (hmr.ext y7) rfl (by simp only [bulks, D0.bulk, List.map_cons, List.map_nil, List.sum_cons, List.sum_nil] at hkb ⊢; omega) (ht.ext (hx.trans y7))) ?_
    rintro v w8 ⟨p8, n8, c8, f8, hv, ho8, y8⟩
    subst hv
    have Y8 := y7.trans y8
    have l7 := y7.le; have l8 := y8.le
    refine ⟨_, _, _, _, rfl, ?_⟩
    intro r5 w9 hn9
    have e9 := hn9.r_eq; have z9 := hn9.size
    obtain ⟨w10, st10, b10, y10⟩ := hn9.fill (P := P) (t := T_impl_Book) (xs := [.slice p8 n8 c8]) (by simp [Value.oneCell']) (by kernel_rfl) rfl
    have Y10 := Y8.trans y10
    have hstep := postN_drop (bk := bk) hjl
    rw [hs0, hm1] at hstep
    refine ⟨w10, st10, ifN (fun hno => ⟨?_, rfl, hx.trans Y10⟩) (fun hyes => ?_)⟩
    · rw [hpn, hstep, hno]; rfl
    · obtain ⟨w11, st11, b11, ch11, sz11⟩ := (hbr.ext Y10).storeA0 (P := P) (t := T_impl_Book) (xs := [.slice p8 n8 c8]) (by kernel_rfl) rfl (by simp [Value.oneCell'])
      have hT : postT bk a0 [.str a1, .bool a2, .ints a3z] = postL bk a0 [.str a1, .bool a2, .ints a3z] := by unfold postT; rw [if_pos hyes]
      rw [hT] at ho8
      have hlen : n8 = n' := by
        have h1 := ho8.1
        have h2 := hrow.1
        rw [postL_len] at h1; omega
      have hf8 : ∀ q ∈ f8, w7.heap.size ≤ q := fun q hq => (ho8.lt q hq).1
      have ho11 : OwnRows w11 w.heap.size T_impl_Acct 4 p8 n8 c8 (postL bk a0 [.str a1, .bool a2, .ints a3z]) f8 := ((ho8.ext y10).chg ch11 (fun q hq hm => by have := hf8 q hq; simp at hm; omega)).mono (by omega)
      refine ⟨_, _, _, b10.loadA0 (by kernel_rfl), w11, st11, exW ⟨by omega, by omega⟩ ⟨⟨j + 1, _, p8, n8, c8, rfl, by omega, b11, (hbr1.ext Y10).chg ch11 (by simp; omega), ho11.rows, by omega, postL_code' hbc hyes, fun x hx => by have := postL_bulk hbc hbb hyes x hx; omega, by rw [hpn, hstep, if_pos hyes], fun _ => ⟨f8, ho11, fun hm => by have := hf8 r hm; omega, fun hm => by have := hf8 r1 hm; omega⟩, (hx.trans Y10).chg ch11 (by simp; omega)⟩, by show m - ((j : Int) + 1).toNat < m - (j : Int).toNat; omega⟩⟩
  · have hjm : j = m := by omega
    subst hjm
    obtain ⟨f, ho, hrf, hr1f⟩ := hown (by omega)
    rw [List.drop_of_length_le (by omega)] at hpn
    obtain ⟨w12, st12, b12, ch12, sz12⟩ := hbr1.storeA0 (P := P) (t := T_impl_Book) (xs := [.slice p' n' c']) (by kernel_rfl) rfl (by simp [Value.oneCell'])
    exact ⟨_, _, _, hbr.loadA0 (by kernel_rfl), w12, st12, _, _, _, b12.loadA0 (by kernel_rfl), bk, p', n', c', f, hpn, rfl, ho.chg ch12 (fun q hq hm => by simp at hm; subst hm; exact hr1f hq), hbc, hx.chg ch12 (by simp; omega)⟩
end Go.Proofs.YtccpmkgiogpkhaaGreatDoor

namespace Go.Proofs.YtccpmkgiogpkhaaGreatDoor
open Go Go.Proofs Go.Proofs.YtccpmkgiogpkhaaGreatDoor.Sx
set_option linter.unusedVariables false
set_option linter.unusedSimpArgs false
theorem blk_setCellP {w : World} {b k : Nat} {e : TypeId} {cs : List Value} (h : Blk w b e cs) (v : Value) : Blk (w.setCell ⟨b, k, none⟩ v) b e (cs.set k v) ∧ Chg [b] w (w.setCell ⟨b, k, none⟩ v) := by
  have h' : w.heap[b]? = some (.cells ⟨cs⟩ e (0, 0)) := h
  refine ⟨?_, rfl, rfl, rfl, by simp [World.setCell], fun j hj hn => ?_⟩
  rotate_left
  · show (w.heap.modify b _)[j]? = _
    rw [Array.getElem?_modify, if_neg (fun e => hn (by rw [e]; simp))]
  show (w.heap.modify b _)[b]? = _
  rw [Array.getElem?_modify, if_pos rfl, h']
  simp
theorem blk_frozenP {w : World} {b k : Nat} {e : TypeId} {cs : List Value} (h : Blk w b e cs) : w.frozen? ⟨b, k, none⟩ = false := by
  have h' : w.heap[b]? = some (.cells ⟨cs⟩ e (0, 0)) := h
  simp [World.frozen?, h']
theorem post_idle (p q : Addr) (w : World) :
    CallsD Tryz.prog 69 #[.pointer (some p), .pointer (some q)] .returning w fun e u' w' => e = .returned (.tuple #[]) ∧ u' = .returning ∧ w' = w := by
  refine callsD_of_wpS Tryz.func69 rfl fun c₀ cs hu => ?_
  apply wpS_seq
  apply wpS_region
  simp [wpOpsS, go_sem, recoverD, hu, Tryz.ntmps69, Exit.thenS]
  refine wpS_cond (t := false) (by simp [Act.eval, Array.replicate]) ?_
  simp only [Bool.false_eq_true, if_false]
  refine wpS_of_wp (wp_skip ?_)
  cases c₀
  simp_all [bodyPostS, results, Tryz.results69]
theorem post_caught {r1 r2 : Nat} {e1 e2 : TypeId} {x y : Value} (u : TypeId) (pv : Value) (w : World) (h1 : Blk w r1 e1 [x]) (h2 : Blk w r2 e2 [y]) (hne : r1 ≠ r2) :
    CallsD Tryz.prog 69 #[.pointer (some ⟨r1, 0, none⟩), .pointer (some ⟨r2, 0, none⟩)] (.panicking [{ v := .iface u pv, recovered := false }]) w fun e u' w' =>
      e = .returned (.tuple #[]) ∧ u' = .panicking [{ v := .iface u pv, recovered := true }] ∧ w' = (w.setCell ⟨r1, 0, none⟩ (.slice none 0 0)).setCell ⟨r2, 0, none⟩ (.bool false) := by
  have c1 : w.cell? ⟨r1, 0, none⟩ = some x := by rw [h1.cell]; rfl
  have f1 : w.frozen? ⟨r1, 0, none⟩ = false := blk_frozenP h1
  obtain ⟨g1, ch1⟩ := blk_setCellP (k := 0) h1 (.slice none 0 0)
  have h2' := h2.chg ch1 (by simp; omega)
  have c2 : (w.setCell ⟨r1, 0, none⟩ (.slice none 0 0)).cell? ⟨r2, 0, none⟩ = some y := by rw [h2'.cell]; rfl
  have f2 : (w.setCell ⟨r1, 0, none⟩ (.slice none 0 0)).frozen? ⟨r2, 0, none⟩ = false := blk_frozenP h2'
  refine callsD_of_wpS Tryz.func69 rfl fun c₀ cs hu => ?_
  apply wpS_seq
  apply wpS_region
  simp [wpOpsS, go_sem, recoverD, hu, Tryz.ntmps69, Exit.thenS]
  refine wpS_cond (t := true) (by simp [Act.eval, Array.replicate]) ?_
  simp only [if_true]
  apply wpS_region
  simp [wpOpsS, go_sem, c1, f1, c2, f2, bodyPostS, results, Tryz.results69]
theorem New.alloc (w : World) (o : Obj) : New w o w.heap.size (w.alloc o) := ⟨rfl, rfl⟩
set_option maxHeartbeats 1000000 in
theorem impl_postAll_c {w : World} {p q : Option Addr} {n c m d : Nat} {b l : List (List D0)} (h : RowsR w 4 p n c b) (hc : ∀ x ∈ b, x.map D0.code = [.str, .str, .bool, .ints]) (hn : n ≤ 1000) (hb : ∀ x ∈ b, bulks x ≤ 1048576)
    (k : RowsR w 4 q m d l) (kc : ∀ x ∈ l, x.map D0.code = [.str, .str, .bool, .ints]) (hm : m ≤ 1000) (h0 : 0 < m) (kb : ∀ x ∈ l, bulks x ≤ 1048576) (ht : Tab w) :
    Calls Tryz.prog 49 #[.agg #[.slice p n c], .slice q m d] w fun ed w' => ∃ v, ed = .returned v ∧ ∃ p' n' c' f, v = .tuple #[.agg ⟨[.slice p' n' c']⟩, .bool (postN b l).isSome] ∧ OwnRows w' w.heap.size T_impl_Acct 4 p' n' c' ((postN b l).getD []) f ∧ (∀ x ∈ (postN b l).getD [], x.map D0.code = [.str, .str, .bool, .ints]) ∧ Ext w w' := by
  have hmf : ∀ (fn : Fn) (first cap : Array Value) (w : World), (Instr.makeFunc fn first cap).run Tryz.prog w = .ok (.func fn first cap) w := fun _ _ _ _ => rfl
  have N1 := New.alloc w (.cells #[.slice p n c] T_impl_Book)
  have N2 := New.alloc (w.alloc (.cells #[.slice p n c] T_impl_Book)) (.cells #[.slice none 0 0] T_impl_Book)
  have N3 := New.alloc ((w.alloc (.cells #[.slice p n c] T_impl_Book)).alloc (.cells #[.slice none 0 0] T_impl_Book)) (.cells #[.bool false] T_bool)
  have X3 := (N1.ext.trans N2.ext).trans N3.ext
  have hcl := impl_mustPost_c (h.ext X3) hc hn hb (k.ext X3) kc hm h0 kb (ht.ext X3)
  have B1 : Blk (((w.alloc (.cells #[.slice p n c] T_impl_Book)).alloc (.cells #[.slice none 0 0] T_impl_Book)).alloc (.cells #[.bool false] T_bool)) (w.heap.size + 1) T_impl_Book [.slice none 0 0] := by
    have := N2.blk.ext N3.ext
    have e := N1.size
    rwa [e] at this
  have B2 : Blk (((w.alloc (.cells #[.slice p n c] T_impl_Book)).alloc (.cells #[.slice none 0 0] T_impl_Book)).alloc (.cells #[.bool false] T_bool)) (w.heap.size + 1 + 1) T_bool [.bool false] := by
    have := N3.blk
    have e := N1.size
    have e2 := N2.size
    rwa [e2, e] at this
  have Z3 : (((w.alloc (.cells #[.slice p n c] T_impl_Book)).alloc (.cells #[.slice none 0 0] T_impl_Book)).alloc (.cells #[.bool false] T_bool)).heap.size = w.heap.size + 1 + 1 + 1 := by
    rw [N3.size, N2.size, N1.size]
  have c0 : (((w.alloc (.cells #[.slice p n c] T_impl_Book)).alloc (.cells #[.slice none 0 0] T_impl_Book)).alloc (.cells #[.bool false] T_bool)).cell? ⟨w.heap.size, 0, none⟩ = some (.slice p n c) := by
    rw [((N1.blk.ext N2.ext).ext N3.ext).cell]; rfl
  generalize hW : (((w.alloc (.cells #[.slice p n c] T_impl_Book)).alloc (.cells #[.slice none 0 0] T_impl_Book)).alloc (.cells #[.bool false] T_bool)) = W3 at *
  go_enter_defers Tryz.func49, Tryz.ntmps49
  go_wp2_with (go_at_call 70; (try rw [hW]); refine hcl.mono ?_; rintro ed w' (⟨v, rfl, bk, p', n', c', f, hp, rfl, ho, hcd, hx⟩ | ⟨v, rfl, hp, rfl, hx⟩) <;> have B1' := B1.ext hx <;> have B2' := B2.ext hx <;> have c1 : w'.cell? ⟨w.heap.size + 1, 0, none⟩ = some (.slice none 0 0) := (by rw [B1'.cell]; rfl) <;> have c2 : w'.cell? ⟨w.heap.size + 1 + 1, 0, none⟩ = some (.bool false) := (by rw [B2'.cell]; rfl) <;> have f1 := blk_frozenP (k := 0) B1' <;> have f2 := blk_frozenP (k := 0) B2')
  · obtain ⟨G1, g1⟩ := blk_setCellP (k := 0) B1' (.slice p' n' c')
    obtain ⟨G2, g2⟩ := blk_setCellP (k := 0) (B2'.chg g1 (by simp)) (.bool true)
    have G1' := G1.chg g2 (by simp)
    refine leaves_cons (f := 69) (args := #[.pointer (some ⟨w.heap.size + 1, 0, none⟩), .pointer (some ⟨w.heap.size + 1 + 1, 0, none⟩)]) (by simp) (by simp [go_sem]) ?_
    refine (post_idle _ _ _).mono ?_
    rintro e u' w'' ⟨rfl, rfl, rfl⟩
    have Xf : Ext w ((w'.setCell ⟨w.heap.size + 1, 0, none⟩ (.slice p' n' c')).setCell ⟨w.heap.size + 1 + 1, 0, none⟩ (.bool true)) := ((X3.trans hx).chg g1 (by simp)).chg g2 (by simp; omega)
    have hof := (ho.chg g1 (fun q hq hm => by have := (ho.lt q hq).1; simp at hm; omega))
    have hof2 := (hof.chg g2 (fun q hq hm => by have := (ho.lt q hq).1; simp at hm; omega)).mono (B' := w.heap.size) (by omega)
    have d1 := G1'.cell 0
    have d2 := G2.cell 0
    generalize (w'.setCell ⟨w.heap.size + 1, 0, none⟩ (.slice p' n' c')).setCell ⟨w.heap.size + 1 + 1, 0, none⟩ (.bool true) = W' at *
    simp at d1 d2
    refine ⟨.tuple #[.agg ⟨[.slice p' n' c']⟩, .bool true], ?_, _, rfl, p', n', c', f, by rw [hp]; rfl, by rw [hp]; exact hof2, by rw [hp]; exact hcd, Xf⟩
    simp [results, Tryz.results49, go_sem, d1, d2]
  · obtain ⟨G1, g1⟩ := blk_setCellP (k := 0) B1' (.slice none 0 0)
    obtain ⟨G2, g2⟩ := blk_setCellP (k := 0) (B2'.chg g1 (by simp)) (.bool false)
    have G1' := G1.chg g2 (by simp)
    refine leaves_cons (f := 69) (args := #[.pointer (some ⟨w.heap.size + 1, 0, none⟩), .pointer (some ⟨w.heap.size + 1 + 1, 0, none⟩)]) (by simp) (by simp [go_sem]) ?_
    refine (post_caught _ _ _ B1' B2' (by simp)).mono ?_
    rintro e u' w'' ⟨rfl, rfl, rfl⟩
    have Xf : Ext w ((w'.setCell ⟨w.heap.size + 1, 0, none⟩ (.slice none 0 0)).setCell ⟨w.heap.size + 1 + 1, 0, none⟩ (.bool false)) := ((X3.trans hx).chg g1 (by simp)).chg g2 (by simp; omega)
    have d1 := G1'.cell 0
    have d2 := G2.cell 0
    generalize (w'.setCell ⟨w.heap.size + 1, 0, none⟩ (.slice none 0 0)).setCell ⟨w.heap.size + 1 + 1, 0, none⟩ (.bool false) = W' at *
    simp at d1 d2
    refine ⟨.tuple #[.agg ⟨[.slice none 0 0]⟩, .bool false], ?_, _, rfl, none, 0, 0, [], by rw [hp]; rfl, by rw [hp]; exact rows0 _ _ _ _, by rw [hp]; intro x hx; simp at hx, Xf⟩
    simp [results, Tryz.results49, go_sem, d1, d2]
end Go.Proofs.YtccpmkgiogpkhaaGreatDoor

namespace Go.Proofs.YtccpmkgiogpkhaaGreatDoor
open Go Go.Proofs.YtccpmkgiogpkhaaGreatDoor.Sx
set_option linter.unusedVariables false
set_option linter.unusedSimpArgs false
def EntQ (w : World) (b l : List (List D0)) (v : Value) (w' : World) : Prop :=
  ∃ p' n' c' f, v = .tuple #[.agg ⟨[.slice p' n' c']⟩, .int .i64 (entCode b l)] ∧ OwnRows w' w.heap.size T_impl_Acct 4 p' n' c' (entBook b l) f ∧ Ext w w'
theorem entBook_no {b l : List (List D0)} {z : Int} (h : entCode b l = z) (hz : z ≠ 0) : entBook b l = [] := by unfold entBook; rw [h, if_neg hz]
theorem ent_zero {w W : World} {r1 : Nat} {b l : List (List D0)} {z : Int} (h : entCode b l = z) (hz : z ≠ 0) (X : Ext w W) (b1 : Blk W r1 T_impl_Book [.slice none 0 0]) (hr1 : w.heap.size ≤ r1) :
    ∃ wv, Stores P T_impl_Book ⟨r1, 0, none⟩ (.agg #[.slice none 0 0]) W wv ∧ ∃ p n c, Loads P T_impl_Book ⟨r1, 0, none⟩ (.agg #[.slice p n c]) wv ∧ EntQ w b l (.tuple #[.agg #[.slice p n c], .int .i64 z]) wv := by
  obtain ⟨w12, st12, b12, ch12, sz12⟩ := b1.storeA0 (P := P) (t := T_impl_Book) (xs := [.slice none 0 0]) (by kernel_rfl) rfl (by simp [Value.oneCell'])
  refine ⟨w12, st12, _, _, _, b12.loadA0 (by kernel_rfl), none, 0, 0, [], by rw [h], ?_, X.chg ch12 (by simp; omega)⟩
  rw [entBook_no h hz]
  exact rows0 _ _ _ _
set_option maxHeartbeats 1000000 in
theorem impl_checkEntry_j2_c {w W : World} {p q : Option Addr} {n c m d : Nat} {b l : List (List D0)} (h : RowsR w 4 p n c b) (hc : ∀ x ∈ b, x.map D0.code = [.str, .str, .bool, .ints]) (hn : n ≤ 1000) (hb : ∀ x ∈ b, bulks x ≤ 1048576) (k : RowsR w 4 q m d l) (kc : ∀ x ∈ l, x.map D0.code = [.str, .str, .bool, .ints]) (km : m ≤ 1000) (kb : ∀ x ∈ l, bulks x ≤ 1048576) (h0 : 0 < m) {r r1 : Nat} {code : Int} (ht : Tab w) (X : Ext w W) (b0 : Blk W r T_impl_Book [.slice p n c]) (b1 : Blk W r1 T_impl_Book [.slice none 0 0]) (hr1 : w.heap.size ≤ r1)
    (hz : code = 0 → entCode b l = if (postN b l).isSome then 0 else 5) (hnz : code ≠ 0 → entCode b l = code) : impl_checkEntry_j2 q m d r r1 code W (EntQ w b l) := by
  unfold impl_checkEntry_j2
  refine ifD (fun hne => ent_zero (hnz hne) hne X b1 hr1) (fun he => ?_)
  have he : code = 0 := Decidable.byContradiction he
  have hz := hz he
  refine ⟨_, _, _, b0.loadA0 (by kernel_rfl), ?_⟩
  refine Ret.at (P := P) (impl_postAll_c (h.ext X) hc hn hb (k.ext X) kc km h0 kb (ht.ext X)) ?_
  rintro v w2 ⟨p', n', c', f, hv, ho, hcd, y2⟩
  subst hv
  refine ⟨_, _, _, _, rfl, ?_⟩
  intro r4 w3 hn3
  have e3 := hn3.r_eq; have z3 := hn3.size
  obtain ⟨w4, st4, b4, y4⟩ := hn3.fill (P := P) (t := T_impl_Book) (xs := [.slice p' n' c']) (by simp [Value.oneCell']) (by kernel_rfl) rfl
  have Y4 := y2.trans y4
  have l2 := y2.le; have lX := X.le
  have ltr1 := b1.lt
  refine ⟨w4, st4, ifN (fun hno => ?_) (fun hyes => ?_)⟩
  · rw [hno] at hz
    exact ent_zero hz (by decide) (X.trans Y4) (b1.ext Y4) hr1
  · rw [hyes] at hz
    obtain ⟨w5, st5, b5, ch5, sz5⟩ := (b1.ext Y4).storeA0 (P := P) (t := T_impl_Book) (xs := [.slice p' n' c']) (by kernel_rfl) rfl (by simp [Value.oneCell'])
    refine ⟨_, _, _, b4.loadA0 (by kernel_rfl), w5, st5, _, _, _, b5.loadA0 (by kernel_rfl), p', n', c', f, by rw [hz]; rfl, ?_, (X.trans Y4).chg ch5 (by simp; omega)⟩
    have : entBook b l = (postN b l).getD [] := by unfold entBook; rw [hz]; rfl
    rw [this]
    exact ((ho.ext y4).chg ch5 (fun x hx hm => by have := (ho.lt x hx).1; simp at hm; omega)).mono (by omega)
set_option maxHeartbeats 1000000 in
theorem impl_checkEntry_j0_c {w W : World} {p q : Option Addr} {n c m d : Nat} {b l : List (List D0)} (h : RowsR w 4 p n c b) (hc : ∀ x ∈ b, x.map D0.code = [.str, .str, .bool, .ints]) (hn : n ≤ 1000) (hb : ∀ x ∈ b, bulks x ≤ 1048576) (k : RowsR w 4 q m d l) (kc : ∀ x ∈ l, x.map D0.code = [.str, .str, .bool, .ints]) (km : m ≤ 1000) (kb : ∀ x ∈ l, bulks x ≤ 1048576) (h0 : 0 < m) {r r1 : Nat} (ht : Tab w) (X : Ext w W) (b0 : Blk W r T_impl_Book [.slice p n c]) (b1 : Blk W r1 T_impl_Book [.slice none 0 0]) (hr1 : w.heap.size ≤ r1)
    (hok : (bookOk b && legsOk l) = true) : impl_checkEntry_j0 q m d r r1 W (EntQ w b l) := by
  have kln := k.1
  unfold impl_checkEntry_j0
  refine ⟨fun code i wr => ∃ j : Nat, i = j ∧ j ≤ m ∧ code = (if (l.take j).any (badCur b) then 3 else 0) ∧ (l.take j).any (badAcct b) = false ∧ Ext W wr, fun _ i _ => m - i.toNat, ⟨0, rfl, Nat.zero_le _, rfl, rfl, Ext.refl _⟩, ?_⟩
  intro junk wr code i ⟨j, hi, hj, hcode, hacct, hx⟩
  subst hi
  have Xr := X.trans hx
  refine ifD (fun hlt => ?_) (fun hge => ?_)
  · have hjm : j < m := by omega
    have hjl : j < l.length := by omega
    obtain ⟨bl, off, hpp, hs⟩ := (k.ext Xr).2.2.2 (by omega)
    subst hpp
    obtain ⟨cs, hk, hr, hsg⟩ := hs j _ (List.getElem?_eq_getElem hjl)
    obtain ⟨a0, a1, a2, a3p, a3n, a3c, a3z, rfl, hd, ha⟩ := open_Leg hr (kc _ (List.getElem_mem hjl))
    have hs0 : strOf l[j] = a0 := by rw [hd]; rfl
    have hs1 : strOf (l[j].drop 1) = a1 := by rw [hd]; rfl
    refine ⟨⟨by omega, by omega⟩, _, _, _, _, _, _, by rw [addr_add, Int.toNat_natCast]; exact hsg.loadAAt 0 [.string a0, .string a1, .bool a2, .slice a3p a3n a3c] rfl (by kernel_rfl) rfl, ?_⟩
    intro r4 w6 hn6
    obtain ⟨w7, st7, b7, y7⟩ := hn6.fill (P := P) (t := T_impl_Leg) (xs := [.string a0, .string a1, .bool a2, .slice a3p a3n a3c]) (by simp [Value.oneCell']) (by kernel_rfl) rfl
    have Y7 := hx.trans y7
    refine ⟨w7, st7, _, _, _, (b0.ext Y7).loadA0 (by kernel_rfl), _, b7.loadAt 0 rfl (by kernel_rfl) rfl, ?_⟩
    refine Ret.at (impl_BalanceOf_c (h.ext (X.trans Y7)) hc (by omega) hb a0) ?_
    rintro v w8 ⟨vs, fx, hv, ho, hnd, hbc, _, y8⟩
    subst hv
    obtain ⟨m0, m1, mp, mn, mc, mz, rfl, hmd, _⟩ := open_Money ho.reps hbc
    refine ⟨_, _, _, _, _, _, rfl, ?_⟩
    intro r5 w9 hn9
    obtain ⟨w10, st10, b10, y10⟩ := hn9.fill (P := P) (t := T_impl_Money) (xs := [.string m0, .bool m1, .slice mp mn mc]) (by simp [Value.oneCell']) (by kernel_rfl) rfl
    have Y10 := (Y7.trans y8).trans y10
    refine ⟨w10, st10, ifN (fun hno => ?_) (fun hyes => ?_)⟩
    · have h2 : l.any (badAcct b) = true := any_at hjl (by
        unfold badAcct
        rw [hs0]
        simp only [decide_eq_false_iff_not] at hno
        simp only [decide_eq_true_eq]
        omega)
      exact ent_zero (entCode_two hok h2) (by decide) (X.trans Y10) (b1.ext Y10) hr1
    · have hac : badAcct b l[j] = false := by
        unfold badAcct
        rw [hs0]
        simp only [decide_eq_true_eq] at hyes
        simp only [decide_eq_false_iff_not]
        omega
      have hcb : badCur b l[j] = decide (m0 ≠ a1) := by
        unfold badCur
        rw [hs0, hs1, hmd]
        rfl
      have ha1 : (l.take (j + 1)).any (badAcct b) = false := by rw [any_succ hjl, hacct, hac]; rfl
      have hc1 : (l.take (j + 1)).any (badCur b) = ((l.take j).any (badCur b) || decide (m0 ≠ a1)) := by rw [any_succ hjl, hcb]
      refine ⟨_, b10.loadAt 0 rfl (by kernel_rfl) rfl, _, ((b7.ext y8).ext y10).loadAt 1 rfl (by kernel_rfl) rfl, fun hne => ?_, fun heq => ?_⟩
      · unfold impl_checkEntry_j1
        refine exW ⟨by omega, by omega⟩ ⟨⟨j + 1, rfl, by omega, by rw [hc1, hne, Bool.or_true]; rfl, ha1, Y10⟩, by show m - ((j : Int) + 1).toNat < m - (j : Int).toNat; omega⟩
      · unfold impl_checkEntry_j1
        refine exW ⟨by omega, by omega⟩ ⟨⟨j + 1, rfl, by omega, by rw [hc1, heq, Bool.or_false]; exact hcode, ha1, Y10⟩, by show m - ((j : Int) + 1).toNat < m - (j : Int).toNat; omega⟩
  · have hjm : j = m := by omega
    subst hjm
    rw [List.take_of_length_le (by omega)] at hcode hacct
    refine ifD (fun hz => ?_) (fun hnz => ⟨fun hh => absurd hh (by simp), fun _ => ?_⟩)
    · have h3 : l.any (badCur b) = false := by
        cases hh : l.any (badCur b) with
        | false => rfl
        | true => rw [hh, if_pos rfl] at hcode; omega
      refine Ret.at (impl_Balanced_c (k.ext Xr) kc (by omega) kb (ht.ext Xr)) ?_
      rintro v w8 ⟨hv, y8⟩
      subst hv
      have Y8 := hx.trans y8
      refine ⟨_, rfl, ifN (fun hno => ?_) (fun hyes => ?_)⟩
      · exact impl_checkEntry_j2_c h hc hn hb k kc km kb h0 ht (X.trans Y8) (b0.ext Y8) (b1.ext Y8) hr1 (fun hh => absurd hh (by decide)) (fun _ => entCode_four hok hacct h3 hno)
      · exact impl_checkEntry_j2_c h hc hn hb k kc km kb h0 ht (X.trans Y8) (b0.ext Y8) (b1.ext Y8) hr1 (fun _ => entCode_rest hok hacct h3 hyes) (fun hh => absurd hz hh)
    · have h3 : l.any (badCur b) = true := by
        cases hh : l.any (badCur b) with
        | true => rfl
        | false => rw [hh] at hcode; exact absurd hcode hnz
      have h33 := entCode_three hok hacct h3
      rw [h3, if_pos rfl] at hcode
      exact impl_checkEntry_j2_c h hc hn hb k kc km kb h0 ht Xr (b0.ext hx) (b1.ext hx) hr1 (fun hh => absurd hh (by omega)) (fun _ => by rw [h33, hcode])
theorem impl_checkEntry_c {w : World} {p q : Option Addr} {n c m d : Nat} {b l : List (List D0)} (h : RowsR w 4 p n c b) (hc : ∀ x ∈ b, x.map D0.code = [.str, .str, .bool, .ints]) (hn : n ≤ 1048576) (hb : ∀ x ∈ b, bulks x ≤ 1048576) (k : RowsR w 4 q m d l) (kc : ∀ x ∈ l, x.map D0.code = [.str, .str, .bool, .ints]) (km : m ≤ 1048576) (kb : ∀ x ∈ l, bulks x ≤ 1048576) (ht : Tab w) :
    Ret P n_impl_checkEntry [.agg ⟨[.slice p n c]⟩, .slice q m d] w (EntQ w b l) := by
  refine impl_checkEntry_ret ?_
  unfold impl_checkEntry
  intro r w1 hn1 r1 w2 hn2
  have e1 := hn1.r_eq; have z1 := hn1.size; have e2 := hn2.r_eq; have z2 := hn2.size
  have X2 := hn1.ext.trans hn2.ext
  have b0 := hn1.blk.ext hn2.ext
  have b1 := hn2.blk
  refine ⟨_, _, _, b0.loadA0 (by kernel_rfl), ?_⟩
  refine Ret.at (impl_BookOk_c (h.ext X2) hc hn hb (ht.ext X2)) ?_
  rintro v w3 ⟨hv, y3⟩
  subst hv
  refine ⟨_, rfl, ifN (fun hno => ifT (ent_zero (entCode_one (by rw [hno]; rfl)) (by decide) (X2.trans y3) (b1.ext y3) (by omega))) (fun hbk => ?_)⟩
  refine Ret.at (impl_LegsOk_c (k.ext (X2.trans y3)) kc km kb (ht.ext (X2.trans y3))) ?_
  rintro v w4 ⟨hv, y4⟩
  subst hv
  have Y4 := y3.trans y4
  refine ⟨_, rfl, ifN (fun hno => ent_zero (entCode_one (by rw [hno, Bool.and_false])) (by decide) (X2.trans Y4) (b1.ext Y4) (by omega)) (fun hlk => ?_)⟩
  have hl12 := bookOk_len hbk
  have hln := h.1; have kln := k.1
  have hl8 : 1 ≤ l.length ∧ l.length ≤ 8 := by
    have := hlk
    simp only [legsOk, Bool.and_eq_true, decide_eq_true_eq] at this
    exact this.1
  exact impl_checkEntry_j0_c h hc (by omega) hb k kc (by omega) kb (by omega) ht (X2.trans Y4) (b0.ext Y4) (b1.ext Y4) (by omega) (by rw [hbk, hlk]; rfl)
theorem impl_PostLegs_c {w : World} {p q : Option Addr} {n c m d : Nat} {b l : List (List D0)} (h : RowsR w 4 p n c b) (hc : ∀ x ∈ b, x.map D0.code = [.str, .str, .bool, .ints]) (hn : n ≤ 1048576) (hb : ∀ x ∈ b, bulks x ≤ 1048576) (k : RowsR w 4 q m d l) (kc : ∀ x ∈ l, x.map D0.code = [.str, .str, .bool, .ints]) (km : m ≤ 1048576) (kb : ∀ x ∈ l, bulks x ≤ 1048576) (ht : Tab w) :
    Ret P n_impl_PostLegs [.agg ⟨[.slice p n c]⟩, .slice q m d] w fun v w' => ∃ p' n' c' f, v = .tuple #[.agg ⟨[.slice p' n' c']⟩, .bool (decide (entCode b l = 0))] ∧ OwnRows w' w.heap.size T_impl_Acct 4 p' n' c' (entBook b l) f ∧ (∀ x ∈ entBook b l, x.map D0.code = [.str, .str, .bool, .ints]) ∧ cntL (entBook b l) ≤ 1000000000 ∧ Ext w w' := by
  refine impl_PostLegs_ret ?_
  unfold impl_PostLegs
  intro r w1 hn1 r1 w2 hn2
  have e1 := hn1.r_eq; have z1 := hn1.size; have e2 := hn2.r_eq; have z2 := hn2.size
  have X2 := hn1.ext.trans hn2.ext
  refine ⟨_, _, _, (hn1.blk.ext hn2.ext).loadA0 (by kernel_rfl), ?_⟩
  refine Ret.at (impl_checkEntry_c (h.ext X2) hc hn hb (k.ext X2) kc km kb (ht.ext X2)) ?_
  rintro v w3 ⟨p', n', c', f, hv, ho, y3⟩
  subst hv
  refine ⟨_, _, _, _, rfl, ?_⟩
  intro r2 w4 hn4
  obtain ⟨w5, st5, b5, y5⟩ := hn4.fill (P := P) (t := T_impl_Book) (xs := [.slice p' n' c']) (by simp [Value.oneCell']) (by kernel_rfl) rfl
  have Y5 := y3.trans y5
  obtain ⟨w6, st6, b6, ch6, sz6⟩ := (hn2.blk.ext Y5).storeA0 (P := P) (t := T_impl_Book) (xs := [.slice p' n' c']) (by kernel_rfl) rfl (by simp [Value.oneCell'])
  obtain ⟨q1, q2⟩ := entBook_facts (l := l) hc
  exact ⟨w5, st5, _, _, _, b5.loadA0 (by kernel_rfl), w6, st6, _, _, _, b6.loadA0 (by kernel_rfl), p', n', c', f, rfl, ((ho.ext y5).chg ch6 (fun x hx hm => by have := (ho.lt x hx).1; simp at hm; omega)).mono (by omega), q1, q2, (X2.trans Y5).chg ch6 (by simp; omega)⟩
end Go.Proofs.YtccpmkgiogpkhaaGreatDoor

namespace Go.Proofs.YtccpmkgiogpkhaaGreatDoor
open Go Go.Proofs.YtccpmkgiogpkhaaGreatDoor.Sx
set_option linter.unusedVariables false
set_option linter.unusedSimpArgs false
set_option maxHeartbeats 1000000 in
theorem spec_BookPost_o {w : World} {p : Option Addr} {n c : Nat} {l : List (List D0)} (h : RowsR w 4 p n c l) (hc : ∀ x ∈ l, x.map D0.code = [.str, .str, .bool, .ints]) (hn : n ≤ 1048576) (hb : ∀ x ∈ l, bulks x ≤ 4194304) (name : ByteArray) {ys : List Value} {dm : List D0} (g : Reps w ys dm) (gc : dm.map D0.code = [.str, .bool, .ints]) (gb : bulks dm ≤ 100000000) :
    Ret P n_spec_BookPost [.agg ⟨[.slice p n c]⟩, .string name, .agg ⟨ys⟩] w fun v w' => ∃ p' n' c' f, v = .tuple #[.agg ⟨[.slice p' n' c']⟩, .bool (postOk l name dm)] ∧ OwnRows w' w.heap.size T_impl_Acct 4 p' n' c' (postT l name dm) f ∧ Ext w w' := by
  have hln := h.1
  have g0 := g
  obtain ⟨d0, d1, dp, dn, dc, dz, rfl, rfl, _⟩ := open_Money g gc
  refine spec_BookPost_ret ?_
  unfold spec_BookPost
  intro r w1 hn1 r1 w2 hn2 r2 w3 hn3
  have e1 := hn1.r_eq; have z1 := hn1.size; have e2 := hn2.r_eq; have z2 := hn2.size; have e3 := hn3.r_eq; have z3 := hn3.size
  have Y1 := hn2.ext.trans hn3.ext
  have X3 := hn1.ext.trans Y1
  have b0 := hn1.blk.ext Y1
  have b1 := hn2.blk.ext hn3.ext
  have b2 := hn3.blk
  have lt2 := b2.lt
  refine ⟨_, _, _, b0.loadA0 (by kernel_rfl), ?_⟩
  refine Ret.at (spec_AcctAt_c (h.ext X3) hc name) ?_
  rintro v w4 ⟨hv, y4⟩
  subst hv
  refine ⟨_, rfl, _, _, _, (b0.ext y4).loadA0 (by kernel_rfl), ?_⟩
  refine Ret.at (spec_BookOk_w (h.ext (X3.trans y4)) hc hn hb) ?_
  rintro v w7 ⟨hv, y7⟩
  subst hv
  have Y7 := y4.trans y7
  have X7 := X3.trans Y7
  have no : ∀ W, Ext w3 W → postOk l name [.str d0, .bool d1, .ints dz] = false → ∃ wv, Stores P T_impl_Book ⟨r2, 0, none⟩ (.agg #[.slice none 0 0]) W wv ∧ ∃ p n c, Loads P T_impl_Book ⟨r2, 0, none⟩ (.agg #[.slice p n c]) wv ∧ ∃ p' n' c' f, Value.tuple #[.agg #[.slice p n c], .bool false] = .tuple #[.agg ⟨[.slice p' n' c']⟩, .bool (postOk l name [.str d0, .bool d1, .ints dz])] ∧ OwnRows wv w.heap.size T_impl_Acct 4 p' n' c' (postT l name [.str d0, .bool d1, .ints dz]) f ∧ Ext w wv := fun W hW hno => by
    obtain ⟨w12, st12, b12, ch12, sz12⟩ := (b2.ext hW).storeA0 (P := P) (t := T_impl_Book) (xs := [.slice none 0 0]) (by kernel_rfl) rfl (by simp [Value.oneCell'])
    refine ⟨w12, st12, _, _, _, b12.loadA0 (by kernel_rfl), none, 0, 0, [], by rw [hno], ?_, (X3.trans hW).chg ch12 (by simp; omega)⟩
    rw [postT_no hno]
    exact rows0 _ _ _ _
  refine ⟨_, rfl, ifN (fun hno => ifT (no w7 Y7 (by unfold postOk; rw [hno]; rfl))) (fun hok => ?_)⟩
  have h12 := bookOk_len hok
  refine ifD (fun hlt => no w7 Y7 (by unfold postOk; rw [hok, decide_eq_false (by omega)]; rfl)) (fun hge => ?_)
  obtain ⟨j, hj, h1, h2⟩ := acct_in (show 0 ≤ acctAt l name by omega)
  obtain ⟨q1, q2⟩ := postT_yes (m := [.str d0, .bool d1, .ints dz]) hok hj h1 h2
  rw [h1]
  have d := Ext.drew w7
  have Y8 := Y7.trans d
  obtain ⟨bl, off, hpp, hs⟩ := (h.ext X7).2.2.2 (by omega)
  subst hpp
  obtain ⟨cs, hk, hr, hsg⟩ := hs j _ (List.getElem?_eq_getElem hj)
  obtain ⟨k0, m0, m1, kp, kn, kc, mz, rfl, hkd, hki⟩ := open_Acct hr (hc _ (List.getElem_mem hj))
  have hrow : l[j].drop 1 = [.str m0, .bool m1, .ints mz] := by rw [hkd]; rfl
  have hadd : addM (l[j].drop 1) [.str d0, .bool d1, .ints dz] = mres (alk [.str m0, .bool m1, .ints mz] [.str d0, .bool d1, .ints dz]) m0 (ival [.bool m1, .ints mz] + ival [.bool d1, .ints dz]) := by rw [hrow]; rfl
  have hrep : Reps w7 [.string m0, .bool m1, .slice kp kn kc] [.str m0, .bool m1, .ints mz] := ⟨rfl, rfl, ⟨_, _, _, rfl, hki⟩, trivial⟩
  unfold spec_BookPost_j0
  refine ⟨_, _, _, fun V hV => ((b0.ext Y8).ext hV).loadAt 0 rfl (by kernel_rfl) rfl, ⟨by omega, by omega⟩, _, _, _, _, _, fun V hV => by rw [addr_add, addr_add, Int.toNat_natCast]; exact ((hsg.ext d).ext hV).loadAAt 1 [.string m0, .bool m1, .slice kp kn kc] rfl (by kernel_rfl) rfl, _, _, _, _, _, fun V hV => ((b1.ext Y8).ext hV).loadA0 (by kernel_rfl), ?_⟩
  intro ss w8 F1
  have S1 := FlS.first F1 rfl
  have Z8 := d.trans F1.ext
  refine Ret.at (spec_MoneyAdd_n (hrep.ext Z8) (g0.ext (X7.trans Z8))) ?_
  rintro v w9 ⟨vs, fx, hv, hox, ndx, y9⟩
  subst hv
  obtain ⟨a0, a1, ap, an, ac, az, rfl, _, _⟩ := open_Money hox.reps (mres_code _ _ _)
  refine ⟨_, _, _, _, _, _, rfl, ?_⟩
  intro ss1 w10 rf F2 G
  have S2 := (S1.ext y9).step F2
  obtain ⟨hrf1, hrf2, hbk⟩ := S2.blk G rfl
  have hap := FlS.apart S1 F2 G
  have ld := d.le; have lF1 := F1.ext.le; have ly9 := y9.le; have lY7 := Y7.le
  obtain ⟨w11, st11, b11, ch11, sz11⟩ := hbk.storeA0 (P := P) (t := T_impl_Money) (xs := [.string a0, .bool a1, .slice ap an ac]) (by kernel_rfl) rfl (by simp [Value.oneCell'])
  have hox11 := (hox.ext F2.ext).chg ch11 (fun k hk hm => by have := hox.lt k hk; simp at hm; omega)
  have Y11 : Ext w7 w11 := ((Z8.trans y9).trans F2.ext).chg ch11 (by simp; omega)
  have X11 := X7.trans Y11
  rw [← hadd] at hox11
  refine ⟨w11, st11, ifN (fun hno => ?_) (fun hyes => ?_)⟩
  · rw [← hadd] at hno
    exact no w11 (Y7.trans Y11) (by rw [q1, hno])
  rw [← hadd] at hyes
  refine ⟨_, _, _, ((b0.ext Y7).ext Y11).loadA0 (by kernel_rfl), ?_⟩
  refine Ret.at (spec_l17Copy_c (h.ext X11) hc (by omega) hb) ?_
  rintro v w12 ⟨p3, c3, f3, hv, ho3, y12⟩
  subst hv
  refine ⟨_, _, _, rfl, ?_⟩
  intro r4 w13 hn13
  have e13 := hn13.r_eq; have z13 := hn13.size
  obtain ⟨w14, st14, b14, y14⟩ := hn13.fill (P := P) (t := T_impl_Book) (xs := [.slice p3 n c3]) (by simp [Value.oneCell']) (by kernel_rfl) rfl
  have Y14 := y12.trans y14
  have ho14 := ho3.ext y14
  obtain ⟨b, _, _, _, hpb, _⟩ := ho14.put (List.getElem?_eq_getElem hj)
  subst hpb
  obtain ⟨_, _, _, _, _, _, hbB, hbl, hbf, _, _, _, hput⟩ := acct_row (ho14.mono (B' := w.heap.size) (by have := X11.le; omega)) hj (hc _ (List.getElem_mem hj)) (by kernel_rfl)
  have lY14 := Y14.le; have l12 := y12.le; have l14 := y14.le
  have hfx : ∀ q ∈ fx, q < w11.heap.size := fun q hq => (hox11.lt q hq).2
  refine ⟨w14, st14, _, _, _, b14.loadAt 0 rfl (by kernel_rfl) rfl, _, _, _, _, _, (b11.ext Y14).loadA0 (by kernel_rfl), ⟨by omega, by omega⟩, ?_⟩
  obtain ⟨w15, f15, st15, hor15, ch15, sz15, hf15⟩ := hput _ w14 a0 a1 ap an ac fx (Ext.refl _) ((hox11.ext Y14).mono (by omega)) ndx (fun q hq hm => by have := hfx q hq; have := (ho3.lt q hm).1; omega)
  have X14 := X11.trans Y14
  have h3l := ho3.lt
  have hbw : w11.heap.size ≤ b := (ho3.lt b hbf).1
  have X15 : Ext w w15 := X14.chg ch15 (by simp; omega)
  have hb2 : Blk w15 r2 T_impl_Book [.slice none 0 0] := (((b2.ext Y7).ext Y11).ext Y14).chg ch15 (by have := X11.le; have := Y11.le; simp; omega)
  obtain ⟨w16, st16, b16, ch16, sz16⟩ := hb2.storeA0 (P := P) (t := T_impl_Book) (xs := [.slice (some ⟨b, 0, none⟩) n c3]) (by kernel_rfl) rfl (by simp [Value.oneCell'])
  refine ⟨w15, st15, _, _, _, (b14.chg ch15 (by have := h3l b hbf; simp; omega)).loadA0 (by kernel_rfl), w16, st16, _, _, _, b16.loadA0 (by kernel_rfl), _, _, _, f15, by rw [q1, hyes], ?_, X15.chg ch16 (by simp; omega)⟩
  rw [q2, hyes, if_pos rfl]
  exact hor15.chg ch16 (fun q hq hm => by
    simp at hm; subst hm
    rcases hf15 q hq with h | h
    · have := (h3l q h).1; have := Y11.le; omega
    · have := (hox.lt q h).1; omega)
end Go.Proofs.YtccpmkgiogpkhaaGreatDoor

namespace Go.Proofs.YtccpmkgiogpkhaaGreatDoor
open Go Go.Proofs.YtccpmkgiogpkhaaGreatDoor.Sx
set_option linter.unusedVariables false
set_option linter.unusedSimpArgs false
theorem curAt {b : List (List D0)} {x : List D0} {j : Nat} (hj : j < b.length) (h : acctAt b (strOf x) = j) : strOf (balOf b (strOf x)) = strOf (b[j].drop 1) := by
  unfold balOf
  rw [h, if_neg (by omega), Int.toNat_natCast, getD_row hj]
set_option maxHeartbeats 1000000 in
theorem spec_EntryCode_j0_c {w W : World} {p q : Option Addr} {n c m d : Nat} {b l : List (List D0)} (h : RowsR w 4 p n c b) (hc : ∀ x ∈ b, x.map D0.code = [.str, .str, .bool, .ints]) (hn : n ≤ 1000) (hb : ∀ x ∈ b, bulks x ≤ 1048576) (k : RowsR w 4 q m d l) (kc : ∀ x ∈ l, x.map D0.code = [.str, .str, .bool, .ints]) (km : m ≤ 1000) (kb : ∀ x ∈ l, bulks x ≤ 1048576) (h0 : 0 < m) {r : Nat} (X : Ext w W) (b0 : Blk W r T_impl_Book [.slice p n c])
    (hok : (bookOk b && legsOk l) = true) : spec_EntryCode_j0 q m d r W fun v w' => v = .int .i64 (entCode b l) ∧ Ext w w' := by
  have kln := k.1; have hln := h.1
  unfold spec_EntryCode_j0
  refine ⟨fun i wr => ∃ j : Nat, i = j ∧ j ≤ m ∧ (l.take j).any (badAcct b) = false ∧ Ext W wr, fun i _ => m - i.toNat, ⟨0, rfl, Nat.zero_le _, rfl, Ext.refl _⟩, ?_⟩
  intro junk wr i ⟨j, hi, hj, hacct, hx⟩
  subst hi
  have Xr := X.trans hx
  refine ifD (fun hlt => ?_) (fun hge => ?_)
  · have hjm : j < m := by omega
    have hjl : j < l.length := by omega
    obtain ⟨bl, off, hpp, hs⟩ := (k.ext Xr).2.2.2 (by omega)
    subst hpp
    obtain ⟨cs, hk, hr, hsg⟩ := hs j _ (List.getElem?_eq_getElem hjl)
    obtain ⟨a0, a1, a2, a3p, a3n, a3c, a3z, rfl, hd, ha⟩ := open_Leg hr (kc _ (List.getElem_mem hjl))
    have hs0 : strOf l[j] = a0 := by rw [hd]; rfl
    refine ⟨⟨by omega, by omega⟩, _, _, _, _, _, _, by rw [addr_add, Int.toNat_natCast]; exact hsg.loadAAt 0 [.string a0, .string a1, .bool a2, .slice a3p a3n a3c] rfl (by kernel_rfl) rfl, ?_⟩
    intro r4 w6 hn6
    obtain ⟨w7, st7, b7, y7⟩ := hn6.fill (P := P) (t := T_impl_Leg) (xs := [.string a0, .string a1, .bool a2, .slice a3p a3n a3c]) (by simp [Value.oneCell']) (by kernel_rfl) rfl
    have Y7 := hx.trans y7
    refine ⟨w7, st7, _, _, _, (b0.ext Y7).loadA0 (by kernel_rfl), _, b7.loadAt 0 rfl (by kernel_rfl) rfl, ?_⟩
    refine Ret.at (spec_AcctAt_c (h.ext (X.trans Y7)) hc a0) ?_
    rintro v w8 ⟨hv, y8⟩
    subst hv
    have Y8 := Y7.trans y8
    refine ⟨_, rfl, ifD (fun hneg => ⟨?_, X.trans Y8⟩) (fun hpos => ?_)⟩
    · rw [entCode_two hok (any_at hjl (by unfold badAcct; rw [hs0]; exact decide_eq_true hneg))]
    · refine exW ⟨by omega, by omega⟩ ⟨⟨j + 1, rfl, by omega, by rw [any_succ hjl, hacct]; unfold badAcct; rw [hs0, decide_eq_false hpos]; rfl, Y8⟩, by show m - ((j : Int) + 1).toNat < m - (j : Int).toNat; omega⟩
  have hjm : j = m := by omega
  subst hjm
  rw [List.take_of_length_le (by omega)] at hacct
  have hall : ∀ i (hi : i < l.length), 0 ≤ acctAt b (strOf l[i]) := fun i hi => by
    rw [List.any_eq_false] at hacct
    have := hacct _ (List.getElem_mem hi)
    unfold badAcct at this
    simp at this
    omega
  refine ⟨fun i wq => ∃ j' : Nat, i = j' ∧ j' ≤ j ∧ (l.take j').any (badCur b) = false ∧ Ext W wq, fun i _ => j - i.toNat, ⟨0, rfl, Nat.zero_le _, rfl, hx⟩, ?_⟩
  intro junk2 wq i ⟨i2, hi2, hij, hcur, hxq⟩
  subst hi2
  have Xq := X.trans hxq
  refine ifD (fun hlt => ?_) (fun hge2 => ?_)
  · have hil : i2 < l.length := by omega
    obtain ⟨bl, off, hpp, hs⟩ := (k.ext Xq).2.2.2 (by omega)
    subst hpp
    obtain ⟨cs, hk, hr, hsg⟩ := hs i2 _ (List.getElem?_eq_getElem hil)
    obtain ⟨a0, a1, a2, a3p, a3n, a3c, a3z, rfl, hd, ha⟩ := open_Leg hr (kc _ (List.getElem_mem hil))
    have hs0 : strOf l[i2] = a0 := by rw [hd]; rfl
    have hs1 : strOf (l[i2].drop 1) = a1 := by rw [hd]; rfl
    refine ⟨⟨by omega, by omega⟩, _, _, _, _, _, _, by rw [addr_add, Int.toNat_natCast]; exact hsg.loadAAt 0 [.string a0, .string a1, .bool a2, .slice a3p a3n a3c] rfl (by kernel_rfl) rfl, ?_⟩
    intro r4 w6 hn6
    obtain ⟨w7, st7, b7, y7⟩ := hn6.fill (P := P) (t := T_impl_Leg) (xs := [.string a0, .string a1, .bool a2, .slice a3p a3n a3c]) (by simp [Value.oneCell']) (by kernel_rfl) rfl
    have D := Ext.drew w7
    have Y7 := hxq.trans (y7.trans D)
    refine ⟨w7, st7, _, _, _, fun V hV => ((b0.ext Y7).ext hV).loadAt 0 rfl (by kernel_rfl) rfl, _, _, _, fun V hV => ((b0.ext Y7).ext hV).loadA0 (by kernel_rfl), _, fun V hV => (b7.ext (D.trans hV)).loadAt 0 rfl (by kernel_rfl) rfl, ?_⟩
    refine Ret.at (spec_AcctAt_c (h.ext (X.trans Y7)) hc a0) ?_
    rintro v w8 ⟨hv, y8⟩
    subst hv
    have Y8 := Y7.trans y8
    have hpos := hall i2 hil
    rw [hs0] at hpos
    obtain ⟨jb, hjb, e1, e2⟩ := acct_in hpos
    obtain ⟨bb, offb, hpb, hsb⟩ := (h.ext (X.trans Y8)).2.2.2 (by omega)
    subst hpb
    obtain ⟨cb, hkb, hrb, hsgb⟩ := hsb jb _ (List.getElem?_eq_getElem hjb)
    obtain ⟨k0, m0, m1, mp, mn, mc, mz, rfl, hkd, _⟩ := open_Acct hrb (hc _ (List.getElem_mem hjb))
    have hcb : badCur b l[i2] = decide (m0 ≠ a1) := by
      unfold badCur
      rw [curAt hjb (by rw [hs0]; exact e1), hs1, hkd]
      rfl
    rw [e1]
    refine ⟨_, rfl, y8, ⟨by omega, by omega⟩, _, fun V hV => by rw [addr_add, addr_add, addr_add, Int.toNat_natCast]; exact (hsgb.ext hV).loadAt 1 rfl (by kernel_rfl) rfl, _, fun V hV => (b7.ext (D.trans hV)).loadAt 1 rfl (by kernel_rfl) rfl, fun hne => ⟨?_, X.trans Y8⟩, fun heq => ?_⟩
    · rw [entCode_three hok hacct (any_at hil (by rw [hcb, hne]))]
    · refine exW ⟨by omega, by omega⟩ ⟨⟨i2 + 1, rfl, by omega, by rw [any_succ hil, hcur, hcb, heq]; rfl, Y8⟩, by show j - ((i2 : Int) + 1).toNat < j - (i2 : Int).toNat; omega⟩
  have hij' : i2 = j := by omega
  subst hij'
  rw [List.take_of_length_le (by omega)] at hcur
  refine Ret.at (spec_Balanced_c (k.ext Xq) kc (by omega) kb) ?_
  rintro v w8 ⟨hv, y8⟩
  subst hv
  have Y8 := hxq.trans y8
  refine ⟨_, rfl, ifN (fun hno => ⟨by rw [entCode_four hok hacct hcur hno], X.trans Y8⟩) (fun hyes => ?_)⟩
  have hrest := entCode_rest hok hacct hcur hyes
  refine ⟨_, _, _, (b0.ext Y8).loadA0 (by kernel_rfl), ?_⟩
  intro r3 w9 hn9
  have e9 := hn9.r_eq; have z9 := hn9.size
  obtain ⟨w10, st10, b10, y10⟩ := hn9.fill (P := P) (t := T_impl_Book) (xs := [.slice p n c]) (by simp [Value.oneCell']) (by kernel_rfl) rfl
  have Y10 := Y8.trans y10
  have X10 := X.trans Y10
  have lX8 := (X.trans Y8).le
  refine ⟨w10, st10, fun i wr => ∃ (j : Nat) (bk : List (List D0)) (p' : Option Addr) (n' c' : Nat), i = j ∧ j ≤ i2 ∧ Blk wr r3 T_impl_Book [.slice p' n' c'] ∧ RowsR wr 4 p' n' c' bk ∧ n' ≤ 1000 ∧ (∀ x ∈ bk, x.map D0.code = [.str, .str, .bool, .ints]) ∧ (∀ x ∈ bk, bulks x ≤ 1048576 + 50 * j) ∧ postN b l = postN bk (l.drop j) ∧ Ext w wr ∧ w.heap.size ≤ r3,
    fun i _ => i2 - i.toNat, ⟨0, b, p, n, c, rfl, Nat.zero_le _, b10, h.ext X10, hn, hc, fun x hx => by have := hb x hx; omega, by rw [List.drop_zero], X10, by omega⟩, ?_⟩
  intro junk3 wr3 i ⟨j3, bk, p', n', c', hi3, hj3, hbr, hrow, hn', hbc, hbb, hpn, hx3, hr3w⟩
  subst hi3
  have ltr := hbr.lt
  refine ifD (fun hlt => ?_) (fun hge => ?_)
  · have hjl : j3 < l.length := by omega
    obtain ⟨bl, off, hpp, hs⟩ := (k.ext hx3).2.2.2 (by omega)
    subst hpp
    obtain ⟨cs, hk, hr, hsg⟩ := hs j3 _ (List.getElem?_eq_getElem hjl)
    have hkb := kb _ (List.getElem_mem hjl)
    obtain ⟨a0, a1, a2, a3p, a3n, a3c, a3z, rfl, hd, ha⟩ := open_Leg hr (kc _ (List.getElem_mem hjl))
    have hs0 : strOf l[j3] = a0 := by rw [hd]; rfl
    have hm1 : l[j3].drop 1 = [.str a1, .bool a2, .ints a3z] := by rw [hd]; rfl
    rw [hd] at hkb
    refine ⟨⟨by omega, by omega⟩, _, _, _, _, _, _, by rw [addr_add, Int.toNat_natCast]; exact hsg.loadAAt 0 [.string a0, .string a1, .bool a2, .slice a3p a3n a3c] rfl (by kernel_rfl) rfl, ?_⟩
    intro r4 w6 hn6
    obtain ⟨w7, st7, b7, y7⟩ := hn6.fill (P := P) (t := T_impl_Leg) (xs := [.string a0, .string a1, .bool a2, .slice a3p a3n a3c]) (by simp [Value.oneCell']) (by kernel_rfl) rfl
    have hmr : Reps wr3 [.string a1, .bool a2, .slice a3p a3n a3c] [.str a1, .bool a2, .ints a3z] := ⟨rfl, rfl, ⟨_, _, _, rfl, ha⟩, trivial⟩
    refine ⟨w7, st7, _, _, _, (hbr.ext y7).loadA0 (by kernel_rfl), _, b7.loadAt 0 rfl (by kernel_rfl) rfl, _, _, _, _, _, b7.loadAAt 1 [.string a1, .bool a2, .slice a3p a3n a3c] rfl (by kernel_rfl) rfl, ?_⟩
    refine Ret.at (spec_BookPost_o (hrow.ext y7) hbc (by omega) (fun x hx => by have := hbb x hx; omega) a0 (hmr.ext y7) rfl (by simp only [bulks, D0.bulk, List.map_cons, List.map_nil, List.sum_cons, List.sum_nil] at hkb ⊢; omega)) ?_
    rintro v w8 ⟨p8, n8, c8, f8, hv, ho8, y8⟩
    subst hv
    have Z8 := y7.trans y8
    have l7 := y7.le
    refine ⟨_, _, _, _, rfl, ?_⟩
    intro r5 w9 hn9
    obtain ⟨w10, st10, b10, y10⟩ := hn9.fill (P := P) (t := T_impl_Book) (xs := [.slice p8 n8 c8]) (by simp [Value.oneCell']) (by kernel_rfl) rfl
    have Z10 := Z8.trans y10
    have hstep := postN_drop (bk := bk) hjl
    rw [hs0, hm1] at hstep
    refine ⟨w10, st10, ifN (fun hno => ⟨?_, hx3.trans Z10⟩) (fun hyes => ?_)⟩
    · rw [hrest, hpn, hstep, hno]; rfl
    · obtain ⟨w11, st11, b11, ch11, sz11⟩ := (hbr.ext Z10).storeA0 (P := P) (t := T_impl_Book) (xs := [.slice p8 n8 c8]) (by kernel_rfl) rfl (by simp [Value.oneCell'])
      have hT : postT bk a0 [.str a1, .bool a2, .ints a3z] = postL bk a0 [.str a1, .bool a2, .ints a3z] := by unfold postT; rw [if_pos hyes]
      rw [hT] at ho8
      have hlen : n8 = n' := by
        have h1 := ho8.1
        have h2 := hrow.1
        rw [postL_len] at h1; omega
      have hf8 : ∀ q ∈ f8, w7.heap.size ≤ q := fun q hq => (ho8.lt q hq).1
      have ho11 := (ho8.ext y10).chg ch11 (fun q hq hm => by have := hf8 q hq; simp at hm; omega)
      refine ⟨_, _, _, b10.loadA0 (by kernel_rfl), w11, st11, exW ⟨by omega, by omega⟩ ⟨⟨j3 + 1, _, p8, n8, c8, rfl, by omega, b11, ho11.rows, by omega, postL_code' hbc hyes, fun x hx => by have := postL_bulk hbc hbb hyes x hx; omega, by rw [hpn, hstep, if_pos hyes], (hx3.trans Z10).chg ch11 (by simp; omega), hr3w⟩, by show i2 - ((j3 : Int) + 1).toNat < i2 - (j3 : Int).toNat; omega⟩⟩
  · rw [hrest, hpn]
    have : l.drop j3 = [] := List.drop_of_length_le (by omega)
    rw [this]
    exact ⟨rfl, hx3⟩
theorem spec_EntryCode_c {w : World} {p q : Option Addr} {n c m d : Nat} {b l : List (List D0)} (h : RowsR w 4 p n c b) (hc : ∀ x ∈ b, x.map D0.code = [.str, .str, .bool, .ints]) (hn : n ≤ 1048576) (hb : ∀ x ∈ b, bulks x ≤ 1048576) (k : RowsR w 4 q m d l) (kc : ∀ x ∈ l, x.map D0.code = [.str, .str, .bool, .ints]) (km : m ≤ 1048576) (kb : ∀ x ∈ l, bulks x ≤ 1048576) :
    Ret P n_spec_EntryCode [.agg ⟨[.slice p n c]⟩, .slice q m d] w fun v w' => v = .int .i64 (entCode b l) ∧ Ext w w' := by
  refine spec_EntryCode_ret ?_
  unfold spec_EntryCode
  intro r w1 hn1
  have X1 := hn1.ext
  have b0 := hn1.blk
  refine ⟨_, _, _, b0.loadA0 (by kernel_rfl), ?_⟩
  refine Ret.at (spec_BookOk_c (h.ext X1) hc hn hb) ?_
  rintro v w3 ⟨hv, y3⟩
  subst hv
  refine ⟨_, rfl, ifN (fun hno => ifT ⟨by rw [entCode_one (by rw [hno]; rfl)], X1.trans y3⟩) (fun hbk => ?_)⟩
  refine Ret.at (spec_LegsOk_c (k.ext (X1.trans y3)) kc km kb) ?_
  rintro v w4 ⟨hv, y4⟩
  subst hv
  have Y4 := y3.trans y4
  refine ⟨_, rfl, ifN (fun hno => ⟨by rw [entCode_one (by rw [hno, Bool.and_false])], X1.trans Y4⟩) (fun hlk => ?_)⟩
  have hl12 := bookOk_len hbk
  have hln := h.1; have kln := k.1
  have hl8 : 1 ≤ l.length ∧ l.length ≤ 8 := by
    have := hlk
    simp only [legsOk, Bool.and_eq_true, decide_eq_true_eq] at this
    exact this.1
  exact spec_EntryCode_j0_c h hc (by omega) hb k kc (by omega) kb (by omega) (X1.trans Y4) (b0.ext Y4) (by rw [hbk, hlk]; rfl)
set_option maxHeartbeats 1000000 in
theorem spec_PostLegs_c {w : World} {p q : Option Addr} {n c m d : Nat} {b l : List (List D0)} (h : RowsR w 4 p n c b) (hc : ∀ x ∈ b, x.map D0.code = [.str, .str, .bool, .ints]) (hn : n ≤ 1048576) (hb : ∀ x ∈ b, bulks x ≤ 1048576) (k : RowsR w 4 q m d l) (kc : ∀ x ∈ l, x.map D0.code = [.str, .str, .bool, .ints]) (km : m ≤ 1048576) (kb : ∀ x ∈ l, bulks x ≤ 1048576) :
    Ret P n_spec_PostLegs [.agg ⟨[.slice p n c]⟩, .slice q m d] w fun v w' => ∃ p' n' c', v = .tuple #[.agg ⟨[.slice p' n' c']⟩, .bool (decide (entCode b l = 0))] ∧ RowsR w' 4 p' n' c' (entBook b l) ∧ (∀ x ∈ entBook b l, x.map D0.code = [.str, .str, .bool, .ints]) ∧ Ext w w' := by
  have hln := h.1; have kln := k.1
  obtain ⟨hcd, _⟩ := entBook_facts (l := l) hc
  refine spec_PostLegs_ret ?_
  unfold spec_PostLegs
  intro r w1 hn1 r1 w2 hn2
  have e1 := hn1.r_eq; have z1 := hn1.size; have e2 := hn2.r_eq; have z2 := hn2.size
  have X2 := hn1.ext.trans hn2.ext
  have b0 := hn1.blk.ext hn2.ext
  have b1 := hn2.blk
  refine ⟨_, _, _, b0.loadA0 (by kernel_rfl), ?_⟩
  refine Ret.at (spec_EntryCode_c (h.ext X2) hc hn hb (k.ext X2) kc km kb) ?_
  rintro v w3 ⟨hv, y3⟩
  subst hv
  refine ⟨_, rfl, ifD (fun hne => ?_) (fun hz => ?_)⟩
  · obtain ⟨w4, st4, b4, ch4, sz4⟩ := (b1.ext y3).storeA0 (P := P) (t := T_impl_Book) (xs := [.slice none 0 0]) (by kernel_rfl) rfl (by simp [Value.oneCell'])
    refine ⟨w4, st4, _, _, _, b4.loadA0 (by kernel_rfl), none, 0, 0, by rw [decide_eq_false hne], ?_, hcd, (X2.trans y3).chg ch4 (by simp; omega)⟩
    rw [entBook_no rfl hne]
    exact (rows0 w4 w4.heap.size T_impl_Acct 4).rows
  · have hz : entCode b l = 0 := Decidable.byContradiction hz
    obtain ⟨hbk, hlk, R0, hR⟩ := entCode_zero hz
    have hl12 := bookOk_len hbk
    have hl8 : 1 ≤ l.length ∧ l.length ≤ 8 := by
      have := hlk
      simp only [legsOk, Bool.and_eq_true, decide_eq_true_eq] at this
      exact this.1
    have hE : entBook b l = R0 := by unfold entBook; rw [if_pos hz, hR]; rfl
    refine ⟨_, _, _, (b0.ext y3).loadA0 (by kernel_rfl), ?_⟩
    refine Ret.at (spec_l17Copy_c (h.ext (X2.trans y3)) hc (by omega) (wide hb)) ?_
    rintro v w4 ⟨p3, c3, f3, hv, ho3, y4⟩
    subst hv
    refine ⟨_, _, _, rfl, ?_⟩
    intro r2 w5 hn5
    have e5 := hn5.r_eq; have z5 := hn5.size
    obtain ⟨w6, st6, b6, y6⟩ := hn5.fill (P := P) (t := T_impl_Book) (xs := [.slice p3 n c3]) (by simp [Value.oneCell']) (by kernel_rfl) rfl
    have Y6 := (y3.trans y4).trans y6
    have X6 := X2.trans Y6
    have l3 := y3.le; have l4 := y4.le
    refine ⟨w6, st6, fun i wr => ∃ (j : Nat) (bk : List (List D0)) (p' : Option Addr) (n' c' : Nat), i = j ∧ j ≤ m ∧ Blk wr r2 T_impl_Book [.slice p' n' c'] ∧ Blk wr r1 T_impl_Book [.slice none 0 0] ∧ RowsR wr 4 p' n' c' bk ∧ n' ≤ 1000 ∧ (∀ x ∈ bk, x.map D0.code = [.str, .str, .bool, .ints]) ∧ (∀ x ∈ bk, bulks x ≤ 1048576 + 50 * j) ∧ postN bk (l.drop j) = some R0 ∧ Ext w wr ∧ (∃ f, OwnRows wr w2.heap.size T_impl_Acct 4 p' n' c' bk f ∧ r1 ∉ f),
      fun i _ => m - i.toNat, ⟨0, b, p3, n, c3, rfl, Nat.zero_le _, b6, b1.ext Y6, (ho3.ext y6).rows, by omega, hc, fun x hx => by have := hb x hx; omega, by rw [List.drop_zero]; exact hR, X6, f3, (ho3.ext y6).mono (by omega), fun hm => by have := (ho3.lt r1 hm).1; have := b1.lt; omega⟩, ?_⟩
    intro junk wr i ⟨j, bk, p', n', c', hi, hj, hbr, hbr1, hrow, hn', hbc, hbb, hpn, hx, f, hof, hr1f⟩
    subst hi
    have ltr := hbr.lt; have ltr1 := hbr1.lt
    refine ifD (fun hlt => ?_) (fun hge => ?_)
    · have hjl : j < l.length := by omega
      obtain ⟨bl, off, hpp, hs⟩ := (k.ext hx).2.2.2 (by omega)
      subst hpp
      obtain ⟨cs, hk, hr, hsg⟩ := hs j _ (List.getElem?_eq_getElem hjl)
      have hkb := kb _ (List.getElem_mem hjl)
      obtain ⟨a0, a1, a2, a3p, a3n, a3c, a3z, rfl, hd, ha⟩ := open_Leg hr (kc _ (List.getElem_mem hjl))
      have hs0 : strOf l[j] = a0 := by rw [hd]; rfl
      have hm1 : l[j].drop 1 = [.str a1, .bool a2, .ints a3z] := by rw [hd]; rfl
      rw [hd] at hkb
      refine ⟨⟨by omega, by omega⟩, _, _, _, _, _, _, by rw [addr_add, Int.toNat_natCast]; exact hsg.loadAAt 0 [.string a0, .string a1, .bool a2, .slice a3p a3n a3c] rfl (by kernel_rfl) rfl, ?_⟩
      intro r4 w8 hn8
      obtain ⟨w9, st9, b9, y9⟩ := hn8.fill (P := P) (t := T_impl_Leg) (xs := [.string a0, .string a1, .bool a2, .slice a3p a3n a3c]) (by simp [Value.oneCell']) (by kernel_rfl) rfl
      have hmr : Reps wr [.string a1, .bool a2, .slice a3p a3n a3c] [.str a1, .bool a2, .ints a3z] := ⟨rfl, rfl, ⟨_, _, _, rfl, ha⟩, trivial⟩
      refine ⟨w9, st9, _, _, _, (hbr.ext y9).loadA0 (by kernel_rfl), _, b9.loadAt 0 rfl (by kernel_rfl) rfl, _, _, _, _, _, b9.loadAAt 1 [.string a1, .bool a2, .slice a3p a3n a3c] rfl (by kernel_rfl) rfl, ?_⟩
      refine Ret.at (spec_BookPost_o (hrow.ext y9) hbc (by omega) (fun x hx => by have := hbb x hx; omega) a0 (hmr.ext y9) rfl (by simp only [bulks, D0.bulk, List.map_cons, List.map_nil, List.sum_cons, List.sum_nil] at hkb ⊢; omega)) ?_
      rintro v w10 ⟨p8, n8, c8, f8, hv, ho8, y10⟩
      subst hv
      have Y10 := y9.trans y10
      have l9 := y9.le
      have hstep := postN_drop (bk := bk) hjl
      rw [hs0, hm1] at hstep
      have hyes : postOk bk a0 [.str a1, .bool a2, .ints a3z] = true := by
        cases hh : postOk bk a0 [.str a1, .bool a2, .ints a3z] with
        | true => rfl
        | false => rw [hpn, hh] at hstep; cases hstep
      rw [hyes, if_pos rfl] at hstep
      have hT : postT bk a0 [.str a1, .bool a2, .ints a3z] = postL bk a0 [.str a1, .bool a2, .ints a3z] := by unfold postT; rw [if_pos hyes]
      rw [hT] at ho8
      have hlen : n8 = n' := by
        have h1 := ho8.1
        have h2 := hrow.1
        rw [postL_len] at h1; omega
      have hf8 : ∀ q ∈ f8, w9.heap.size ≤ q := fun q hq => (ho8.lt q hq).1
      have lw2 : w2.heap.size ≤ wr.heap.size := by have := hof.rows; have := ltr; have := ltr1; omega
      obtain ⟨w11, st11, b11, ch11, sz11⟩ := (hbr.ext Y10).storeA0 (P := P) (t := T_impl_Book) (xs := [.slice p8 n8 c8]) (by kernel_rfl) rfl (by simp [Value.oneCell'])
      have ho11 : OwnRows w11 w2.heap.size T_impl_Acct 4 p8 n8 c8 (postL bk a0 [.str a1, .bool a2, .ints a3z]) f8 := ((ho8.chg ch11 (fun q hq hm => by have := hf8 q hq; simp at hm; omega))).mono (by omega)
      refine ⟨_, _, _, _, rfl, w11, st11, exW ⟨by omega, by omega⟩ ⟨⟨j + 1, _, p8, n8, c8, rfl, by omega, b11, (hbr1.ext Y10).chg ch11 (by simp; omega), ho11.rows, by omega, postL_code' hbc hyes, fun x hx => by have := postL_bulk hbc hbb hyes x hx; omega, by rw [← hstep]; exact hpn, (hx.trans Y10).chg ch11 (by simp; omega), f8, ho11, fun hm => by have := hf8 r1 hm; omega⟩, by show m - ((j : Int) + 1).toNat < m - (j : Int).toNat; omega⟩⟩
    · have hjm : j = m := by omega
      subst hjm
      rw [List.drop_of_length_le (by omega)] at hpn
      simp only [postN, Option.some.injEq] at hpn
      subst hpn
      obtain ⟨w12, st12, b12, ch12, sz12⟩ := hbr1.storeA0 (P := P) (t := T_impl_Book) (xs := [.slice p' n' c']) (by kernel_rfl) rfl (by simp [Value.oneCell'])
      refine ⟨_, _, _, hbr.loadA0 (by kernel_rfl), w12, st12, _, _, _, b12.loadA0 (by kernel_rfl), p', n', c', by rw [decide_eq_true hz], ?_, hcd, hx.chg ch12 (by simp; omega)⟩
      rw [hE]
      exact (hof.chg ch12 (fun q hq hm => by simp at hm; subst hm; exact hr1f hq)).rows
end Go.Proofs.YtccpmkgiogpkhaaGreatDoor

namespace Go.Proofs.YtccpmkgiogpkhaaGreatDoor
open Go Go.Proofs.YtccpmkgiogpkhaaGreatDoor.Sx
set_option linter.unusedVariables false
set_option linter.unusedSimpArgs false
theorem laws_markAcctS_c {w : World} {B : Nat} {e : TypeId} {p : Option Addr} {n c : Nat} {l : List (List D0)} {f : List Nat} {k : Int} (h : OwnRows w B e 4 p n c l f) (hc : ∀ x ∈ l, x.map D0.code = [.str, .str, .bool, .ints]) (h0 : 0 ≤ k) (h1 : k + cntL l ≤ 1000000000000000000) :
    Ret P n_laws_markAcctS [.slice p n c, .int .i64 k] w fun v w' => v = .int .i64 (k + cntL l) ∧ OwnRows w' B e 4 p n c (markL l k) f ∧ Chg f w w' := by
  have hz := h.1; have hcap := h.rows.2.1; have hcm := h.rows.2.2.1
  refine laws_markAcctS_ret ?_
  unfold laws_markAcctS
  refine ⟨fun k1 i wr => ∃ j : Nat, i = j ∧ j ≤ n ∧ k1 = k + cntL (l.take j) ∧ OwnRows wr B e 4 p n c (markL (l.take j) k ++ l.drop j) f ∧ Chg f w wr, fun _ i _ => n - i.toNat, ⟨0, rfl, by omega, by simp [cntL], by simpa [markL] using h, Chg.refl _ _⟩, ?_⟩
  intro junk wr k1 i ⟨j, hij, hj, hk1, ho, hch⟩
  subst hij
  refine ifD (fun hlt => ?_) (fun hge => ?_)
  · have hjl : j < l.length := by omega
    obtain ⟨x, hxe⟩ : ∃ x, l[j]? = some x := ⟨_, List.getElem?_eq_getElem hjl⟩
    have hcode := hc x (List.mem_of_getElem? hxe)
    obtain ⟨hct, hcle⟩ := cntL_row hxe
    have hcn := cntL_nonneg (l.take j)
    obtain ⟨b, xs, cs, zs, fi, hp, hB, hA, hk, blk, ow, ndf, hbf, hbm, hfm, back⟩ := ho.focus (markL_at hxe)
    subst hp
    obtain ⟨a0, us, es, rfl, rfl, ow2, hcode2⟩ := ow.consStr hcode
    clear ow hcode; have ow := ow2; have hcode := hcode2; clear ow2 hcode2
    obtain ⟨a1, us, es, rfl, rfl, ow2, hcode2⟩ := ow.consStr hcode
    clear ow hcode; have ow := ow2; have hcode := hcode2; clear ow2 hcode2
    obtain ⟨a2, us, es, rfl, rfl, ow2, hcode2⟩ := ow.consBool hcode
    clear ow hcode; have ow := ow2; have hcode := hcode2; clear ow2 hcode2
    obtain ⟨a3p, a3n, a3c, a3z, us, es, f3, rfl, rfl, rfl, o3, ow2, hcode2⟩ := ow.consInts hcode
    clear ow hcode; have ow := ow2; have hcode := hcode2; clear ow2 hcode2
    obtain ⟨rfl, rfl, rfl⟩ := ow.done hcode
    simp only [cnts, D0.cnt] at hct hcle
    have z3 : a3z.length = a3n := by have := o3.len; simpa using this
    have m3 : ∀ q, a3p.map (·.block) = some q → q ∈ ((a3p.map (·.block)).toList ++ ([] : List Nat)) := fun q hq => List.mem_append_left _ (mem_opt hq)
    have u3 : ∀ {W : World} {W2 : World} {zs : List Value}, Own W B T_int 1 a3p a3n a3c zs → Chg [b] W W2 → Own W2 B T_int 1 a3p a3n a3c zs := fun o ch => o.chg ch (fun q hq hm => hbf (List.mem_singleton.1 hm ▸ m3 q hq))
    have chT : Chg (b :: ((a3p.map (·.block)).toList ++ ([] : List Nat))) wr wr := Chg.refl _ _
    have sub1 : ∀ q ∈ [b], q ∈ b :: ((a3p.map (·.block)).toList ++ ([] : List Nat)) := fun q hq => by rw [List.mem_singleton.1 hq]; exact List.mem_cons_self
    refine Ret.at (laws_markText_c (by omega) _) ?_
    rintro v w1 ⟨hv, y⟩
    subst hv
    have blk := blk.ext y; have chT := chT.trans y.toChg
    have o3 := o3.ext y
    obtain ⟨w2, st, blk2, ch, sz⟩ := blk.storeMid (P := P) (t := T_string) (v := .string (mtext (k1))) hA 0 (by simp) (by kernel_rfl) rfl rfl
    have blk : Blk w2 b e (xs ++ [.string (mtext (k1)), .string a1, .bool a2, .slice a3p a3n a3c] ++ zs) := blk2; clear blk2
    have chT := chT.trans (ch.mono sub1)
    have o3 := u3 o3 ch
    refine ⟨_, rfl, ⟨by omega, by omega⟩, w2, (by simp only [addr_add, Int.toNat_natCast, Nat.zero_add, Nat.add_zero]; exact st), exW ⟨by omega, by omega⟩ ?_⟩
    refine Ret.at (laws_markText_c (by omega) _) ?_
    rintro v w3 ⟨hv, y⟩
    subst hv
    have blk := blk.ext y; have chT := chT.trans y.toChg
    have o3 := o3.ext y
    obtain ⟨w4, st, blk2, ch, sz⟩ := blk.storeMid (P := P) (t := T_string) (v := .string (mtext (k1 + 1))) hA 1 (by simp) (by kernel_rfl) rfl rfl
    have blk : Blk w4 b e (xs ++ [.string (mtext (k1)), .string (mtext (k1 + 1)), .bool a2, .slice a3p a3n a3c] ++ zs) := blk2; clear blk2
    have chT := chT.trans (ch.mono sub1)
    have o3 := u3 o3 ch
    refine ⟨_, rfl, ⟨by omega, by omega⟩, w4, (by simp only [addr_add, Int.toNat_natCast, Nat.zero_add, Nat.add_zero]; exact st), exW ⟨by omega, by omega⟩ ?_⟩
    refine ⟨by decide, _, rfl, ⟨by omega, by omega⟩, ?_⟩
    rw [Int.tmod_eq_emod_of_nonneg (show (0 : Int) ≤ k1 + 1 + 1 by omega)]
    obtain ⟨w5, st, blk2, ch, sz⟩ := blk.storeMid (P := P) (t := T_bool) (v := .bool (decide ((k1 + 1 + 1) % 3 = 0))) hA 2 (by simp) (by kernel_rfl) rfl rfl
    have blk : Blk w5 b e (xs ++ [.string (mtext (k1)), .string (mtext (k1 + 1)), .bool (decide ((k1 + 1 + 1) % 3 = 0)), .slice a3p a3n a3c] ++ zs) := blk2; clear blk2
    have chT := chT.trans (ch.mono sub1)
    have o3 := u3 o3 ch
    refine ⟨w5, (by simp only [addr_add, Int.toNat_natCast, Nat.zero_add, Nat.add_zero]; exact st), exW ⟨by omega, by omega⟩ ?_⟩
    refine ⟨⟨by omega, by omega⟩, _, _, _, (by simp only [addr_add, Int.toNat_natCast, Nat.zero_add, Nat.add_zero]; exact (blk.segMid hA).loadAt 3 rfl (by kernel_rfl) rfl), ?_⟩
    refine Ret.at (laws_markIntS_c o3 (by omega) (by omega)) ?_
    rintro v w6 ⟨hv, on, ch⟩
    subst hv
    have blk := blk.chg ch (fun hm => hbf (m3 _ (opt_mem hm)))
    have chT := chT.trans (ch.mono (fun q hq => List.mem_cons_of_mem _ (m3 q (opt_mem hq))))
    have o3 := on; clear on
    refine ⟨_, rfl, ?_⟩
    refine exW ⟨by omega, by omega⟩ ⟨⟨j + 1, by omega, by omega, by omega, ?_, hch.trans (chT.mono (fun q hq => ?_))⟩, ?_⟩
    · rw [← markL_set hxe, ← hk1]
      have e : marks [.str a0, .str a1, .bool a2, .ints a3z] k1 = [.str (mtext (k1)), .str (mtext (k1 + 1)), .bool (decide ((k1 + 1 + 1) % 3 = 0)), .ints (mkI a3n (k1 + 1 + 1 + 1))] := by simp only [marks, D0.mark, D0.cnt, z3] <;> rfl
      rw [e]
      exact back _ [.string (mtext (k1)), .string (mtext (k1 + 1)), .bool (decide ((k1 + 1 + 1) % 3 = 0)), .slice a3p a3n a3c] _ chT rfl blk (Owns.append (Owns.str _ _ _) (Owns.append (Owns.str _ _ _) (Owns.append (Owns.bool _ _ _) (Owns.append (Owns.ints o3) (Owns.nil _ _)))))
    · rcases List.mem_cons.1 hq with h | h
      · rw [h]; exact hbm
      · exact hfm q h
    · show n - ((j : Int) + 1).toNat < n - (j : Int).toNat
      omega
  · have hjn : j = n := by omega
    subst hjn
    rw [List.take_of_length_le (by omega), List.drop_of_length_le (by omega), List.append_nil] at ho
    rw [List.take_of_length_le (by omega)] at hk1
    exact ⟨by rw [hk1], ho, hch⟩
theorem laws_heldAcctS_c {w : World} {p : Option Addr} {n c : Nat} {l : List (List D0)} {k : Int} (h : RowsR w 4 p n c (markL l k)) (hc : ∀ x ∈ l, x.map D0.code = [.str, .str, .bool, .ints]) (h0 : 0 ≤ k) (h1 : k + cntL l ≤ 1000000000000000000) :
    Ret P n_laws_heldAcctS [.slice p n c, .int .i64 k] w fun v w' => v = .int .i64 (k + cntL l) ∧ Ext w w' := by
  have hz : l.length = n := by have := h.1; rwa [markL_len] at this
  have hcap := h.2.1; have hcm := h.2.2.1
  refine laws_heldAcctS_ret ?_
  unfold laws_heldAcctS
  refine ⟨fun k1 i wr => ∃ j : Nat, i = j ∧ j ≤ n ∧ k1 = k + cntL (l.take j) ∧ Ext w wr, fun _ i _ => n - i.toNat, ⟨0, rfl, by omega, by simp [cntL], Ext.refl _⟩, ?_⟩
  intro junk wr k1 i ⟨j, hij, hj, hk1, hx⟩
  subst hij
  refine ifD (fun hlt => ?_) (fun hge => ?_)
  · have hjl : j < l.length := by omega
    obtain ⟨x, hxe⟩ : ∃ x, l[j]? = some x := ⟨_, List.getElem?_eq_getElem hjl⟩
    have hcode := hc x (List.mem_of_getElem? hxe)
    obtain ⟨hct, hcle⟩ := cntL_row hxe
    have hcn := cntL_nonneg (l.take j)
    obtain ⟨b, off, hp, hs⟩ := (h.ext hx).2.2.2 (by omega)
    subst hp
    obtain ⟨cs, hk, hr, hsg⟩ := hs j _ (markL_get l k j x hxe)
    rw [← hk1] at hr
    obtain ⟨s0, es, rfl, hcode2⟩ := code_str hcode
    clear hcode; have hcode := hcode2; clear hcode2
    obtain ⟨s1, es, rfl, hcode2⟩ := code_str hcode
    clear hcode; have hcode := hcode2; clear hcode2
    obtain ⟨s2, es, rfl, hcode2⟩ := code_bool hcode
    clear hcode; have hcode := hcode2; clear hcode2
    obtain ⟨z3, es, rfl, hcode2⟩ := code_ints hcode
    clear hcode; have hcode := hcode2; clear hcode2
    have hn := code_nil hcode; subst hn
    simp only [marks, D0.mark, D0.cnt] at hr
    simp only [cnts, D0.cnt] at hct hcle
    obtain ⟨a0, us, es, rfl, hd, hr2, hc2⟩ := hr.str rfl
    cases hd
    clear hr hc2; have hr := hr2; clear hr2
    obtain ⟨a1, us, es, rfl, hd, hr2, hc2⟩ := hr.str rfl
    cases hd
    clear hr hc2; have hr := hr2; clear hr2
    obtain ⟨a2, us, es, rfl, hd, hr2, hc2⟩ := hr.bool rfl
    cases hd
    clear hr hc2; have hr := hr2; clear hr2
    obtain ⟨a3p, a3n, a3c, a3z, us, es, rfl, hd, g3, hr2, hc2⟩ := hr.ints rfl
    cases hd
    clear hr hc2; have hr := hr2; clear hr2
    obtain ⟨hv, _⟩ := hr.done rfl
    subst hv
    have y3 : z3.length = a3n := by have := g3.1; rwa [mkI_len] at this
    rw [y3] at g3
    have X : Ext wr wr := Ext.refl _
    have D := Ext.drew wr; have X := X.trans D
    refine ⟨⟨by omega, by omega⟩, _, fun W' hW => (by simp only [addr_add, Int.toNat_natCast, Nat.zero_add, Nat.add_zero]; exact (hsg.ext (X.trans hW)).loadAt 0 rfl (by kernel_rfl) rfl), ?_⟩
    refine Ret.at (laws_markText_c (by omega) _) ?_
    rintro v w1 ⟨hv, y⟩
    subst hv
    have X := X.trans y
    refine ⟨_, rfl, y, ifD (fun hne => absurd rfl hne) (fun _ => exW ⟨by omega, by omega⟩ ?_)⟩
    have D := Ext.drew w1; have X := X.trans D
    refine ⟨⟨by omega, by omega⟩, _, fun W' hW => (by simp only [addr_add, Int.toNat_natCast, Nat.zero_add, Nat.add_zero]; exact (hsg.ext (X.trans hW)).loadAt 1 rfl (by kernel_rfl) rfl), ?_⟩
    refine Ret.at (laws_markText_c (by omega) _) ?_
    rintro v w2 ⟨hv, y⟩
    subst hv
    have X := X.trans y
    refine ⟨_, rfl, y, ifD (fun hne => absurd rfl hne) (fun _ => exW ⟨by omega, by omega⟩ ?_)⟩
    refine ⟨⟨by omega, by omega⟩, _, (by simp only [addr_add, Int.toNat_natCast, Nat.zero_add, Nat.add_zero]; exact (hsg.ext X).loadAt 2 rfl (by kernel_rfl) rfl), by decide, _, rfl, ?_⟩
    rw [Int.tmod_eq_emod_of_nonneg (show (0 : Int) ≤ k1 + 1 + 1 by omega)]
    refine ⟨fun h => absurd h (bne_no rfl), fun _ => exW ⟨by omega, by omega⟩ ?_⟩
    refine ⟨⟨by omega, by omega⟩, _, _, _, (by simp only [addr_add, Int.toNat_natCast, Nat.zero_add, Nat.add_zero]; exact (hsg.ext X).loadAt 3 rfl (by kernel_rfl) rfl), ?_⟩
    refine Ret.at (laws_heldIntS_c (n := a3n) (k := k1 + 1 + 1 + 1) (by have := g3.ext X;  exact this) (by omega) (by omega)) ?_
    rintro v w3 ⟨hv, y⟩
    subst hv
    have X := X.trans y
    refine ⟨_, rfl, ifD (fun h => absurd h (by omega)) (fun _ => ?_)⟩
    refine exW ⟨by omega, by omega⟩ ⟨⟨j + 1, by omega, by omega, by omega, hx.trans X⟩, ?_⟩
    show n - ((j : Int) + 1).toNat < n - (j : Int).toNat
    omega
  · have hjn : j = n := by omega
    subst hjn
    rw [List.take_of_length_le (by omega)] at hk1
    exact ⟨by rw [hk1], hx⟩
theorem laws_markLegS_c {w : World} {B : Nat} {e : TypeId} {p : Option Addr} {n c : Nat} {l : List (List D0)} {f : List Nat} {k : Int} (h : OwnRows w B e 4 p n c l f) (hc : ∀ x ∈ l, x.map D0.code = [.str, .str, .bool, .ints]) (h0 : 0 ≤ k) (h1 : k + cntL l ≤ 1000000000000000000) :
    Ret P n_laws_markLegS [.slice p n c, .int .i64 k] w fun v w' => v = .int .i64 (k + cntL l) ∧ OwnRows w' B e 4 p n c (markL l k) f ∧ Chg f w w' := by
  have hz := h.1; have hcap := h.rows.2.1; have hcm := h.rows.2.2.1
  refine laws_markLegS_ret ?_
  unfold laws_markLegS
  refine ⟨fun k1 i wr => ∃ j : Nat, i = j ∧ j ≤ n ∧ k1 = k + cntL (l.take j) ∧ OwnRows wr B e 4 p n c (markL (l.take j) k ++ l.drop j) f ∧ Chg f w wr, fun _ i _ => n - i.toNat, ⟨0, rfl, by omega, by simp [cntL], by simpa [markL] using h, Chg.refl _ _⟩, ?_⟩
  intro junk wr k1 i ⟨j, hij, hj, hk1, ho, hch⟩
  subst hij
  refine ifD (fun hlt => ?_) (fun hge => ?_)
  · have hjl : j < l.length := by omega
    obtain ⟨x, hxe⟩ : ∃ x, l[j]? = some x := ⟨_, List.getElem?_eq_getElem hjl⟩
    have hcode := hc x (List.mem_of_getElem? hxe)
    obtain ⟨hct, hcle⟩ := cntL_row hxe
    have hcn := cntL_nonneg (l.take j)
    obtain ⟨b, xs, cs, zs, fi, hp, hB, hA, hk, blk, ow, ndf, hbf, hbm, hfm, back⟩ := ho.focus (markL_at hxe)
    subst hp
    obtain ⟨a0, us, es, rfl, rfl, ow2, hcode2⟩ := ow.consStr hcode
    clear ow hcode; have ow := ow2; have hcode := hcode2; clear ow2 hcode2
    obtain ⟨a1, us, es, rfl, rfl, ow2, hcode2⟩ := ow.consStr hcode
    clear ow hcode; have ow := ow2; have hcode := hcode2; clear ow2 hcode2
    obtain ⟨a2, us, es, rfl, rfl, ow2, hcode2⟩ := ow.consBool hcode
    clear ow hcode; have ow := ow2; have hcode := hcode2; clear ow2 hcode2
    obtain ⟨a3p, a3n, a3c, a3z, us, es, f3, rfl, rfl, rfl, o3, ow2, hcode2⟩ := ow.consInts hcode
    clear ow hcode; have ow := ow2; have hcode := hcode2; clear ow2 hcode2
    obtain ⟨rfl, rfl, rfl⟩ := ow.done hcode
    simp only [cnts, D0.cnt] at hct hcle
    have z3 : a3z.length = a3n := by have := o3.len; simpa using this
    have m3 : ∀ q, a3p.map (·.block) = some q → q ∈ ((a3p.map (·.block)).toList ++ ([] : List Nat)) := fun q hq => List.mem_append_left _ (mem_opt hq)
    have u3 : ∀ {W : World} {W2 : World} {zs : List Value}, Own W B T_int 1 a3p a3n a3c zs → Chg [b] W W2 → Own W2 B T_int 1 a3p a3n a3c zs := fun o ch => o.chg ch (fun q hq hm => hbf (List.mem_singleton.1 hm ▸ m3 q hq))
    have chT : Chg (b :: ((a3p.map (·.block)).toList ++ ([] : List Nat))) wr wr := Chg.refl _ _
    have sub1 : ∀ q ∈ [b], q ∈ b :: ((a3p.map (·.block)).toList ++ ([] : List Nat)) := fun q hq => by rw [List.mem_singleton.1 hq]; exact List.mem_cons_self
    refine Ret.at (laws_markText_c (by omega) _) ?_
    rintro v w1 ⟨hv, y⟩
    subst hv
    have blk := blk.ext y; have chT := chT.trans y.toChg
    have o3 := o3.ext y
    obtain ⟨w2, st, blk2, ch, sz⟩ := blk.storeMid (P := P) (t := T_string) (v := .string (mtext (k1))) hA 0 (by simp) (by kernel_rfl) rfl rfl
    have blk : Blk w2 b e (xs ++ [.string (mtext (k1)), .string a1, .bool a2, .slice a3p a3n a3c] ++ zs) := blk2; clear blk2
    have chT := chT.trans (ch.mono sub1)
    have o3 := u3 o3 ch
    refine ⟨_, rfl, ⟨by omega, by omega⟩, w2, (by simp only [addr_add, Int.toNat_natCast, Nat.zero_add, Nat.add_zero]; exact st), exW ⟨by omega, by omega⟩ ?_⟩
    refine Ret.at (laws_markText_c (by omega) _) ?_
    rintro v w3 ⟨hv, y⟩
    subst hv
    have blk := blk.ext y; have chT := chT.trans y.toChg
    have o3 := o3.ext y
    obtain ⟨w4, st, blk2, ch, sz⟩ := blk.storeMid (P := P) (t := T_string) (v := .string (mtext (k1 + 1))) hA 1 (by simp) (by kernel_rfl) rfl rfl
    have blk : Blk w4 b e (xs ++ [.string (mtext (k1)), .string (mtext (k1 + 1)), .bool a2, .slice a3p a3n a3c] ++ zs) := blk2; clear blk2
    have chT := chT.trans (ch.mono sub1)
    have o3 := u3 o3 ch
    refine ⟨_, rfl, ⟨by omega, by omega⟩, w4, (by simp only [addr_add, Int.toNat_natCast, Nat.zero_add, Nat.add_zero]; exact st), exW ⟨by omega, by omega⟩ ?_⟩
    refine ⟨by decide, _, rfl, ⟨by omega, by omega⟩, ?_⟩
    rw [Int.tmod_eq_emod_of_nonneg (show (0 : Int) ≤ k1 + 1 + 1 by omega)]
    obtain ⟨w5, st, blk2, ch, sz⟩ := blk.storeMid (P := P) (t := T_bool) (v := .bool (decide ((k1 + 1 + 1) % 3 = 0))) hA 2 (by simp) (by kernel_rfl) rfl rfl
    have blk : Blk w5 b e (xs ++ [.string (mtext (k1)), .string (mtext (k1 + 1)), .bool (decide ((k1 + 1 + 1) % 3 = 0)), .slice a3p a3n a3c] ++ zs) := blk2; clear blk2
    have chT := chT.trans (ch.mono sub1)
    have o3 := u3 o3 ch
    refine ⟨w5, (by simp only [addr_add, Int.toNat_natCast, Nat.zero_add, Nat.add_zero]; exact st), exW ⟨by omega, by omega⟩ ?_⟩
    refine ⟨⟨by omega, by omega⟩, _, _, _, (by simp only [addr_add, Int.toNat_natCast, Nat.zero_add, Nat.add_zero]; exact (blk.segMid hA).loadAt 3 rfl (by kernel_rfl) rfl), ?_⟩
    refine Ret.at (laws_markIntS_c o3 (by omega) (by omega)) ?_
    rintro v w6 ⟨hv, on, ch⟩
    subst hv
    have blk := blk.chg ch (fun hm => hbf (m3 _ (opt_mem hm)))
    have chT := chT.trans (ch.mono (fun q hq => List.mem_cons_of_mem _ (m3 q (opt_mem hq))))
    have o3 := on; clear on
    refine ⟨_, rfl, ?_⟩
    refine exW ⟨by omega, by omega⟩ ⟨⟨j + 1, by omega, by omega, by omega, ?_, hch.trans (chT.mono (fun q hq => ?_))⟩, ?_⟩
    · rw [← markL_set hxe, ← hk1]
      have e : marks [.str a0, .str a1, .bool a2, .ints a3z] k1 = [.str (mtext (k1)), .str (mtext (k1 + 1)), .bool (decide ((k1 + 1 + 1) % 3 = 0)), .ints (mkI a3n (k1 + 1 + 1 + 1))] := by simp only [marks, D0.mark, D0.cnt, z3] <;> rfl
      rw [e]
      exact back _ [.string (mtext (k1)), .string (mtext (k1 + 1)), .bool (decide ((k1 + 1 + 1) % 3 = 0)), .slice a3p a3n a3c] _ chT rfl blk (Owns.append (Owns.str _ _ _) (Owns.append (Owns.str _ _ _) (Owns.append (Owns.bool _ _ _) (Owns.append (Owns.ints o3) (Owns.nil _ _)))))
    · rcases List.mem_cons.1 hq with h | h
      · rw [h]; exact hbm
      · exact hfm q h
    · show n - ((j : Int) + 1).toNat < n - (j : Int).toNat
      omega
  · have hjn : j = n := by omega
    subst hjn
    rw [List.take_of_length_le (by omega), List.drop_of_length_le (by omega), List.append_nil] at ho
    rw [List.take_of_length_le (by omega)] at hk1
    exact ⟨by rw [hk1], ho, hch⟩
end Go.Proofs.YtccpmkgiogpkhaaGreatDoor

namespace Go.Proofs.YtccpmkgiogpkhaaGreatDoor
open Go Go.Proofs.YtccpmkgiogpkhaaGreatDoor.Sx
set_option linter.unusedVariables false
set_option linter.unusedSimpArgs false
theorem laws_markBook_c {w : World} {B : Nat} {e : TypeId} {p : Option Addr} {n c : Nat} {l : List (List D0)} {f : List Nat} {k : Int} (h : OwnRows w B e 4 p n c l f) (hc : ∀ x ∈ l, x.map D0.code = [.str, .str, .bool, .ints]) (h0 : 0 ≤ k) (h1 : k + cntL l ≤ 1000000000000000000) :
    Ret P n_laws_markBook [.agg ⟨[.slice p n c]⟩, .int .i64 k] w fun v w' => v = .int .i64 (k + cntL l) ∧ OwnRows w' B e 4 p n c (markL l k) f ∧ Chg f w w' := by
  refine laws_markBook_ret ?_
  unfold laws_markBook
  intro r w1 hn
  refine ⟨_, _, _, hn.blk.loadAt 0 rfl (by kernel_rfl) rfl, ?_⟩
  refine Ret.at (laws_markAcctS_c (h.ext hn.ext) hc h0 h1) ?_
  rintro v w2 ⟨hv, ho, ch⟩
  subst hv
  exact ⟨_, rfl, rfl, ho, hn.ext.toChg.trans ch⟩
theorem laws_heldBook_c {w : World} {p : Option Addr} {n c : Nat} {l : List (List D0)} {k : Int} (h : RowsR w 4 p n c (markL l k)) (hc : ∀ x ∈ l, x.map D0.code = [.str, .str, .bool, .ints]) (h0 : 0 ≤ k) (h1 : k + cntL l ≤ 1000000000000000000) :
    Ret P n_laws_heldBook [.agg ⟨[.slice p n c]⟩, .int .i64 k] w fun v w' => v = .int .i64 (k + cntL l) ∧ Ext w w' := by
  refine laws_heldBook_ret ?_
  unfold laws_heldBook
  intro r w1 hn
  refine ⟨_, _, _, hn.blk.loadAt 0 rfl (by kernel_rfl) rfl, ?_⟩
  refine Ret.at (laws_heldAcctS_c (h.ext hn.ext) hc h0 h1) ?_
  rintro v w2 ⟨hv, y⟩
  subst hv
  have := cntL_nonneg l
  exact ⟨_, rfl, ifD (fun h => absurd h (by omega)) (fun _ => ⟨rfl, hn.ext.trans y⟩)⟩
end Go.Proofs.YtccpmkgiogpkhaaGreatDoor

namespace Go.Proofs.YtccpmkgiogpkhaaGreatDoor
open Go Go.Proofs.YtccpmkgiogpkhaaGreatDoor.Sx
set_option linter.unusedVariables false
set_option linter.unusedSimpArgs false
set_option maxHeartbeats 4000000
theorem laws_FnExactPostLegs_c {w : World} {p0 : Option Addr} {n0 c0 : Nat} {l0 : List (List D0)} (h0 : RowsR w 4 p0 n0 c0 l0) (hc0 : ∀ x ∈ l0, x.map D0.code = [.str, .str, .bool, .ints]) (hk0 : ∀ x ∈ l0, ∀ d ∈ x, d.ok) {p1 : Option Addr} {n1 c1 : Nat} {l1 : List (List D0)} (h1 : RowsR w 4 p1 n1 c1 l1) (hc1 : ∀ x ∈ l1, x.map D0.code = [.str, .str, .bool, .ints]) (hk1 : ∀ x ∈ l1, ∀ d ∈ x, d.ok) (ht : Tab w) :
    Ret P n_laws_FnExactPostLegs [.agg ⟨[.slice p0 n0 c0]⟩, .slice p1 n1 c1] w fun v w' => v = .bool true ∧ Ext w w' := by
  refine laws_FnExactPostLegs_ret ?_
  unfold laws_FnExactPostLegs
  have x : Ext w w := Ext.refl w
  intro r_a0 W1 hn
  have er_a0 := hn.r_eq; have sr_a0 := hn.size
  have y := hn.ext
  replace x := x.trans y
  have ll1 := y.le
  have bk_a0 := hn.blk; clear hn
  refine ⟨_, _, _, bk_a0.loadA0 (by kernel_rfl), ?_⟩
  refine Ret.at (laws_szBook_c (h0.ext x) hc0 hk0 (by omega) (by omega)) ?_
  rintro v W2 ⟨k0, hv, hs0, hm0, y⟩
  subst hv
  replace x := x.trans y
  replace bk_a0 := bk_a0.ext y
  have ll2 := y.le
  refine ⟨_, rfl, ifD (fun _ => ⟨rfl, x⟩) (fun hp0 => ?_)⟩
  refine Ret.at (laws_szLegS_c (h1.ext x) hc1 hk1 (by omega) (by omega)) ?_
  rintro v W3 ⟨k1, hv, hs1, hm1, y⟩
  subst hv
  replace x := x.trans y
  replace bk_a0 := bk_a0.ext y
  have ll3 := y.le
  refine ⟨_, rfl, ifD (fun _ => ⟨rfl, x⟩) (fun hp1 => ?_)⟩
  have hs0 := hs0 (by omega)
  have hs1 := hs1 (by omega)
  have hb0 : ∀ y ∈ l0, bulks y ≤ 1048576 := fun y hy => by have := bulks_le hy; omega
  have hz0 : n0 ≤ 1048576 := by omega
  have hsum0 : (l0.map bulks).sum ≤ 1048576 := by omega
  have hb1 : ∀ y ∈ l1, bulks y ≤ 1048576 := fun y hy => by have := bulks_le hy; omega
  have hz1 : n1 ≤ 1048576 := by omega
  have hsum1 : (l1.map bulks).sum ≤ 1048576 := by omega
  refine ⟨_, _, _, bk_a0.loadA0 (by kernel_rfl), ?_⟩
  refine Ret.at (laws_toBook_c (h0.ext x) hc0 hz0 hb0) ?_
  rintro v W4 ⟨p_s0, c_s0, f_s0, hv, o_s0, y⟩
  subst hv
  have lt_o_s0 : ∀ k ∈ f_s0, W3.heap.size ≤ k ∧ k < W4.heap.size := o_s0.lt
  have yy := y
  replace x := x.trans y
  replace bk_a0 := bk_a0.ext y
  have ll4 := y.le
  refine ⟨_, _, _, rfl, ?_⟩
  refine Ret.at (laws_toLegS_c (h1.ext x) hc1 hz1 hb1) ?_
  rintro v W5 ⟨p_s1, c_s1, f_s1, hv, o_s1, y⟩
  subst hv
  have lt_o_s1 : ∀ k ∈ f_s1, W4.heap.size ≤ k ∧ k < W5.heap.size := o_s1.lt
  have yy := y
  replace x := x.trans y
  replace bk_a0 := bk_a0.ext y
  replace o_s0 := o_s0.ext y
  have ll5 := y.le
  refine ⟨_, _, _, rfl, ?_⟩
  refine Ret.at (spec_PostLegs_c o_s0.rows hc0 hz0 hb0 o_s1.rows hc1 hz1 hb1) ?_
  rintro v W6 ⟨p_w0, m_w0, c_w0, hv, o_w0, co_w0, y⟩
  subst hv
  replace x := x.trans y
  replace bk_a0 := bk_a0.ext y
  have ll6 := y.le
  have xS := Ext.refl W6
  refine ⟨_, _, _, _, rfl, ?_⟩
  intro r_w0 W7 hn
  have er_w0 := hn.r_eq; have sr_w0 := hn.size
  have y := hn.ext
  replace x := x.trans y
  replace xS := xS.trans y
  replace bk_a0 := bk_a0.ext y
  have ll7 := y.le
  have bk_w0 := hn.blk; clear hn
  obtain ⟨W8, st, bq, ch, sz⟩ := bk_w0.storeA0 (P := P) (t := T_impl_Book) (xs := [.slice p_w0 m_w0 c_w0]) (by kernel_rfl) rfl (by simp [Value.oneCell'])
  replace x := x.chg ch (by simp; omega)
  replace xS := xS.chg ch (by simp; omega)
  replace bk_a0 := bk_a0.chg ch (by simp; omega)
  have bk_w0 := bq; clear bq
  have ll8 := ch.size
  refine ⟨_, st, ?_⟩
  refine ⟨_, _, _, bk_a0.loadA0 (by kernel_rfl), ?_⟩
  refine Ret.at (laws_toBook_c (h0.ext x) hc0 hz0 hb0) ?_
  rintro v W9 ⟨p_x0, c_x0, f_x0, hv, o_x0, y⟩
  subst hv
  have lt_o_x0 : ∀ k ∈ f_x0, W8.heap.size ≤ k ∧ k < W9.heap.size := o_x0.lt
  replace x := x.trans y
  replace xS := xS.trans y
  replace bk_a0 := bk_a0.ext y
  replace bk_w0 := bk_w0.ext y
  have ll9 := y.le
  refine ⟨_, _, _, rfl, ?_⟩
  intro r_x0 W10 hn
  have er_x0 := hn.r_eq; have sr_x0 := hn.size
  have y := hn.ext
  replace x := x.trans y
  replace xS := xS.trans y
  replace bk_a0 := bk_a0.ext y
  replace bk_w0 := bk_w0.ext y
  replace o_x0 := o_x0.ext y
  have ll10 := y.le
  have bk_x0 := hn.blk; clear hn
  obtain ⟨W11, st, bq, ch, sz⟩ := bk_x0.storeA0 (P := P) (t := T_impl_Book) (xs := [.slice p_x0 n0 c_x0]) (by kernel_rfl) rfl (by simp [Value.oneCell'])
  replace x := x.chg ch (by simp; omega)
  replace xS := xS.chg ch (by simp; omega)
  replace bk_a0 := bk_a0.chg ch (by simp; omega)
  replace bk_w0 := bk_w0.chg ch (by simp; omega)
  replace o_x0 := o_x0.chg ch (fun k hk hm => by have h1 := lt_o_x0 k hk; simp at hm; omega)
  have bk_x0 := bq; clear bq
  have ll11 := ch.size
  refine ⟨_, st, ?_⟩
  refine Ret.at (laws_toLegS_c (h1.ext x) hc1 hz1 hb1) ?_
  rintro v W12 ⟨p_x1, c_x1, f_x1, hv, o_x1, y⟩
  subst hv
  have lt_o_x1 : ∀ k ∈ f_x1, W11.heap.size ≤ k ∧ k < W12.heap.size := o_x1.lt
  replace x := x.trans y
  replace xS := xS.trans y
  replace bk_a0 := bk_a0.ext y
  replace bk_w0 := bk_w0.ext y
  replace bk_x0 := bk_x0.ext y
  replace o_x0 := o_x0.ext y
  have ll12 := y.le
  refine ⟨_, _, _, rfl, ?_⟩
  refine ⟨_, _, _, bk_x0.loadA0 (by kernel_rfl), ?_⟩
  refine Ret.at (impl_PostLegs_c o_x0.rows hc0 hz0 hb0 o_x1.rows hc1 hz1 hb1 (ht.ext x)) ?_
  rintro v W13 ⟨p_g0, m_g0, c_g0, f_g0, hv, o_g0, co_g0, ct_g0, y⟩
  subst hv
  have tn_g0 := cntL_nn ct_g0
  have lt_o_g0 : ∀ k ∈ f_g0, W12.heap.size ≤ k ∧ k < W13.heap.size := o_g0.lt
  replace x := x.trans y
  replace xS := xS.trans y
  replace bk_a0 := bk_a0.ext y
  replace bk_w0 := bk_w0.ext y
  replace bk_x0 := bk_x0.ext y
  replace o_x0 := o_x0.ext y
  replace o_x1 := o_x1.ext y
  have ll13 := y.le
  refine ⟨_, _, _, _, rfl, ?_⟩
  intro r_g0 W14 hn
  have er_g0 := hn.r_eq; have sr_g0 := hn.size
  have y := hn.ext
  replace x := x.trans y
  replace xS := xS.trans y
  replace bk_a0 := bk_a0.ext y
  replace bk_w0 := bk_w0.ext y
  replace bk_x0 := bk_x0.ext y
  replace o_x0 := o_x0.ext y
  replace o_x1 := o_x1.ext y
  replace o_g0 := o_g0.ext y
  have ll14 := y.le
  have bk_g0 := hn.blk; clear hn
  obtain ⟨W15, st, bq, ch, sz⟩ := bk_g0.storeA0 (P := P) (t := T_impl_Book) (xs := [.slice p_g0 m_g0 c_g0]) (by kernel_rfl) rfl (by simp [Value.oneCell'])
  replace x := x.chg ch (by simp; omega)
  replace xS := xS.chg ch (by simp; omega)
  replace bk_a0 := bk_a0.chg ch (by simp; omega)
  replace bk_w0 := bk_w0.chg ch (by simp; omega)
  replace bk_x0 := bk_x0.chg ch (by simp; omega)
  replace o_x0 := o_x0.chg ch (fun k hk hm => by have h1 := lt_o_x0 k hk; simp at hm; omega)
  replace o_x1 := o_x1.chg ch (fun k hk hm => by have h1 := lt_o_x1 k hk; simp at hm; omega)
  replace o_g0 := o_g0.chg ch (fun k hk hm => by have h1 := lt_o_g0 k hk; simp at hm; omega)
  have bk_g0 := bq; clear bq
  have ll15 := ch.size
  refine ⟨_, st, ?_⟩
  refine ⟨_, _, _, bk_g0.loadA0 (by kernel_rfl), _, _, _, bk_w0.loadA0 (by kernel_rfl), ?_⟩
  refine Ret.at (laws_eqBook_c o_g0.rows (o_w0.ext xS) co_g0 co_w0) ?_
  rintro v W16 ⟨hv, y⟩
  subst hv
  replace x := x.trans y
  replace xS := xS.trans y
  replace bk_a0 := bk_a0.ext y
  replace bk_w0 := bk_w0.ext y
  replace bk_x0 := bk_x0.ext y
  replace bk_g0 := bk_g0.ext y
  replace o_x0 := o_x0.ext y
  replace o_x1 := o_x1.ext y
  replace o_g0 := o_g0.ext y
  have ll16 := y.le
  refine ⟨_, rfl, ifN (fun h => absurd h (by simp)) (fun _ => ?_)⟩
  refine ⟨fun h => absurd h (bne_no rfl), fun _ => ?_⟩
  unfold laws_FnExactPostLegs_j0
  refine ⟨_, _, _, fun W' hW => (bk_x0.ext ((Ext.drew _).trans hW)).loadA0 (by kernel_rfl), _, _, _, fun W' hW => (bk_a0.ext ((Ext.drew _).trans hW)).loadA0 (by kernel_rfl), ?_⟩
  have y := Ext.drew W16
  replace x := x.trans y
  replace xS := xS.trans y
  replace bk_a0 := bk_a0.ext y
  replace bk_w0 := bk_w0.ext y
  replace bk_x0 := bk_x0.ext y
  replace bk_g0 := bk_g0.ext y
  replace o_x0 := o_x0.ext y
  replace o_x1 := o_x1.ext y
  replace o_g0 := o_g0.ext y
  have ll17 := y.le
  refine Ret.at (laws_toBook_c (h0.ext x) hc0 hz0 hb0) ?_
  rintro v W17 ⟨p_y0, c_y0, f_y0, hv, o_y0, y⟩
  subst hv
  have lt_o_y0 : ∀ k ∈ f_y0, W16.heap.size ≤ k ∧ k < W17.heap.size := o_y0.lt
  have y2 := y
  replace x := x.trans y
  replace xS := xS.trans y
  replace bk_a0 := bk_a0.ext y
  replace bk_w0 := bk_w0.ext y
  replace bk_x0 := bk_x0.ext y
  replace bk_g0 := bk_g0.ext y
  replace o_x0 := o_x0.ext y
  replace o_x1 := o_x1.ext y
  replace o_g0 := o_g0.ext y
  have ll18 := y.le
  refine ⟨_, _, _, rfl, y, ?_⟩
  refine Ret.at (laws_eqBook_c o_x0.rows o_y0.rows hc0 hc0) ?_
  rintro v W18 ⟨hv, y⟩
  subst hv
  replace x := x.trans y
  replace xS := xS.trans y
  replace bk_a0 := bk_a0.ext y
  replace bk_w0 := bk_w0.ext y
  replace bk_x0 := bk_x0.ext y
  replace bk_g0 := bk_g0.ext y
  replace o_x0 := o_x0.ext y
  replace o_x1 := o_x1.ext y
  replace o_g0 := o_g0.ext y
  have ll19 := y.le
  refine ⟨_, rfl, ifN (fun h => absurd h (by simp)) (fun _ => ?_)⟩
  refine Ret.at (laws_toLegS_c (h1.ext x) hc1 hz1 hb1) ?_
  rintro v W19 ⟨p_y1, c_y1, f_y1, hv, o_y1, y⟩
  subst hv
  have lt_o_y1 : ∀ k ∈ f_y1, W18.heap.size ≤ k ∧ k < W19.heap.size := o_y1.lt
  have y2 := y
  replace x := x.trans y
  replace xS := xS.trans y
  replace bk_a0 := bk_a0.ext y
  replace bk_w0 := bk_w0.ext y
  replace bk_x0 := bk_x0.ext y
  replace bk_g0 := bk_g0.ext y
  replace o_x0 := o_x0.ext y
  replace o_x1 := o_x1.ext y
  replace o_g0 := o_g0.ext y
  have ll20 := y.le
  refine ⟨_, _, _, rfl, ?_⟩
  refine Ret.at (laws_eqLegS_c o_x1.rows o_y1.rows hc1 hc1) ?_
  rintro v W20 ⟨hv, y⟩
  subst hv
  replace x := x.trans y
  replace xS := xS.trans y
  replace bk_a0 := bk_a0.ext y
  replace bk_w0 := bk_w0.ext y
  replace bk_x0 := bk_x0.ext y
  replace bk_g0 := bk_g0.ext y
  replace o_x0 := o_x0.ext y
  replace o_x1 := o_x1.ext y
  replace o_g0 := o_g0.ext y
  have ll21 := y.le
  refine ⟨_, rfl, ifN (fun h => absurd h (by simp)) (fun _ => ?_)⟩
  have cn0 := cntL_nonneg l0; have cb0 := cntL_le l0 (m := 4) (fun y hy => by rw [code_len (hc0 y hy)]; decide)
  have cl0 : cntL l0 ≤ 100000000 := by have := h0.1; omega
  have cn1 := cntL_nonneg l1; have cb1 := cntL_le l1 (m := 4) (fun y hy => by rw [code_len (hc1 y hy)]; decide)
  have cl1 : cntL l1 ≤ 100000000 := by have := h1.1; omega
  refine ⟨_, _, _, bk_x0.loadA0 (by kernel_rfl), ?_⟩
  refine Ret.at (laws_markBook_c o_x0 hc0 (by omega) (by omega)) ?_
  rintro v W21 ⟨hv, on, ch⟩
  subst hv
  replace x := x.chg ch (fun k hk => by have := lt_o_x0 k hk; omega)
  replace xS := xS.chg ch (fun k hk => by have := lt_o_x0 k hk; omega)
  replace bk_a0 := bk_a0.chg ch (fun hm => by have := lt_o_x0 _ hm; omega)
  replace bk_w0 := bk_w0.chg ch (fun hm => by have := lt_o_x0 _ hm; omega)
  replace bk_x0 := bk_x0.chg ch (fun hm => by have := lt_o_x0 _ hm; omega)
  replace bk_g0 := bk_g0.chg ch (fun hm => by have := lt_o_x0 _ hm; omega)
  replace o_x1 := o_x1.chg ch (fun k hk hm => by have h1 := lt_o_x1 k hk; have h2 := lt_o_x0 k hm; omega)
  replace o_g0 := o_g0.chg ch (fun k hk hm => by have h1 := lt_o_g0 k hk; have h2 := lt_o_x0 k hm; omega)
  have ll22 := ch.size
  replace o_x0 := on; clear on
  refine ⟨_, rfl, ?_⟩
  refine Ret.at (laws_markLegS_c o_x1 hc1 (by omega) (by omega)) ?_
  rintro v W22 ⟨hv, on, ch⟩
  subst hv
  replace x := x.chg ch (fun k hk => by have := lt_o_x1 k hk; omega)
  replace xS := xS.chg ch (fun k hk => by have := lt_o_x1 k hk; omega)
  replace bk_a0 := bk_a0.chg ch (fun hm => by have := lt_o_x1 _ hm; omega)
  replace bk_w0 := bk_w0.chg ch (fun hm => by have := lt_o_x1 _ hm; omega)
  replace bk_x0 := bk_x0.chg ch (fun hm => by have := lt_o_x1 _ hm; omega)
  replace bk_g0 := bk_g0.chg ch (fun hm => by have := lt_o_x1 _ hm; omega)
  replace o_x0 := o_x0.chg ch (fun k hk hm => by have h1 := lt_o_x0 k hk; have h2 := lt_o_x1 k hm; omega)
  replace o_g0 := o_g0.chg ch (fun k hk hm => by have h1 := lt_o_g0 k hk; have h2 := lt_o_x1 k hm; omega)
  have ll23 := ch.size
  replace o_x1 := on; clear on
  refine ⟨_, rfl, ?_⟩
  refine ifD (fun h => absurd h (by omega)) (fun _ => ?_)
  refine ⟨_, _, _, bk_g0.loadA0 (by kernel_rfl), _, _, _, bk_w0.loadA0 (by kernel_rfl), ?_⟩
  refine Ret.at (laws_eqBook_c o_g0.rows (o_w0.ext xS) co_g0 co_w0) ?_
  rintro v W23 ⟨hv, y⟩
  subst hv
  replace x := x.trans y
  replace xS := xS.trans y
  replace bk_a0 := bk_a0.ext y
  replace bk_w0 := bk_w0.ext y
  replace bk_x0 := bk_x0.ext y
  replace bk_g0 := bk_g0.ext y
  replace o_x0 := o_x0.ext y
  replace o_x1 := o_x1.ext y
  replace o_g0 := o_g0.ext y
  have ll24 := y.le
  refine ⟨_, rfl, ifN (fun h => absurd h (by simp)) (fun _ => ?_)⟩
  refine ⟨fun h => absurd h (bne_no rfl), fun _ => ?_⟩
  unfold laws_FnExactPostLegs_j1
  refine ⟨_, _, _, bk_g0.loadA0 (by kernel_rfl), ?_⟩
  refine Ret.at (laws_markBook_c o_g0 co_g0 (by omega) (by omega)) ?_
  rintro v W24 ⟨hv, on, ch⟩
  subst hv
  replace x := x.chg ch (fun k hk => by have := lt_o_g0 k hk; omega)
  replace xS := xS.chg ch (fun k hk => by have := lt_o_g0 k hk; omega)
  replace bk_a0 := bk_a0.chg ch (fun hm => by have := lt_o_g0 _ hm; omega)
  replace bk_w0 := bk_w0.chg ch (fun hm => by have := lt_o_g0 _ hm; omega)
  replace bk_x0 := bk_x0.chg ch (fun hm => by have := lt_o_g0 _ hm; omega)
  replace bk_g0 := bk_g0.chg ch (fun hm => by have := lt_o_g0 _ hm; omega)
  replace o_x0 := o_x0.chg ch (fun k hk hm => by have h1 := lt_o_x0 k hk; have h2 := lt_o_g0 k hm; omega)
  replace o_x1 := o_x1.chg ch (fun k hk hm => by have h1 := lt_o_x1 k hk; have h2 := lt_o_g0 k hm; omega)
  have ll25 := ch.size
  replace o_g0 := on; clear on
  refine ⟨_, rfl, ?_⟩
  refine ⟨_, _, _, bk_g0.loadA0 (by kernel_rfl), ?_⟩
  refine Ret.at (laws_heldBook_c o_g0.rows co_g0 (by omega) (by omega)) ?_
  rintro v W25 ⟨hv, y⟩
  subst hv
  replace x := x.trans y
  replace xS := xS.trans y
  replace bk_a0 := bk_a0.ext y
  replace bk_w0 := bk_w0.ext y
  replace bk_x0 := bk_x0.ext y
  replace bk_g0 := bk_g0.ext y
  replace o_x0 := o_x0.ext y
  replace o_x1 := o_x1.ext y
  replace o_g0 := o_g0.ext y
  have ll26 := y.le
  refine ⟨_, rfl, ifD (fun h => absurd h (by omega)) (fun _ => ?_)⟩
  refine ifD (fun h => absurd rfl h) (fun _ => ?_)
  refine ⟨_, _, _, bk_a0.loadA0 (by kernel_rfl), ?_⟩
  refine Ret.at (laws_toBook_c (h0.ext x) hc0 hz0 hb0) ?_
  rintro v W26 ⟨p_h0, c_h0, f_h0, hv, o_h0, y⟩
  subst hv
  have lt_o_h0 : ∀ k ∈ f_h0, W25.heap.size ≤ k ∧ k < W26.heap.size := o_h0.lt
  have yy := y
  replace x := x.trans y
  replace xS := xS.trans y
  replace bk_a0 := bk_a0.ext y
  replace bk_w0 := bk_w0.ext y
  replace bk_x0 := bk_x0.ext y
  replace bk_g0 := bk_g0.ext y
  replace o_x0 := o_x0.ext y
  replace o_x1 := o_x1.ext y
  replace o_g0 := o_g0.ext y
  have ll27 := y.le
  refine ⟨_, _, _, rfl, ?_⟩
  refine Ret.at (laws_toLegS_c (h1.ext x) hc1 hz1 hb1) ?_
  rintro v W27 ⟨p_h1, c_h1, f_h1, hv, o_h1, y⟩
  subst hv
  have lt_o_h1 : ∀ k ∈ f_h1, W26.heap.size ≤ k ∧ k < W27.heap.size := o_h1.lt
  have yy := y
  replace x := x.trans y
  replace xS := xS.trans y
  replace bk_a0 := bk_a0.ext y
  replace bk_w0 := bk_w0.ext y
  replace bk_x0 := bk_x0.ext y
  replace bk_g0 := bk_g0.ext y
  replace o_x0 := o_x0.ext y
  replace o_x1 := o_x1.ext y
  replace o_g0 := o_g0.ext y
  replace o_h0 := o_h0.ext y
  have ll28 := y.le
  refine ⟨_, _, _, rfl, ?_⟩
  refine Ret.at (impl_PostLegs_c o_h0.rows hc0 hz0 hb0 o_h1.rows hc1 hz1 hb1 (ht.ext x)) ?_
  rintro v W28 ⟨p_h0, m_h0, c_h0, f_h0, hv, o_h0, co_h0, ct_h0, y⟩
  subst hv
  have tn_h0 := cntL_nn ct_h0
  have lt_o_h0 : ∀ k ∈ f_h0, W27.heap.size ≤ k ∧ k < W28.heap.size := o_h0.lt
  replace x := x.trans y
  replace xS := xS.trans y
  replace bk_a0 := bk_a0.ext y
  replace bk_w0 := bk_w0.ext y
  replace bk_x0 := bk_x0.ext y
  replace bk_g0 := bk_g0.ext y
  replace o_x0 := o_x0.ext y
  replace o_x1 := o_x1.ext y
  replace o_g0 := o_g0.ext y
  have ll29 := y.le
  refine ⟨_, _, _, _, rfl, ?_⟩
  intro r_h0 W29 hn
  have er_h0 := hn.r_eq; have sr_h0 := hn.size
  have y := hn.ext
  replace x := x.trans y
  replace xS := xS.trans y
  replace bk_a0 := bk_a0.ext y
  replace bk_w0 := bk_w0.ext y
  replace bk_x0 := bk_x0.ext y
  replace bk_g0 := bk_g0.ext y
  replace o_x0 := o_x0.ext y
  replace o_x1 := o_x1.ext y
  replace o_g0 := o_g0.ext y
  replace o_h0 := o_h0.ext y
  have ll30 := y.le
  have bk_h0 := hn.blk; clear hn
  obtain ⟨W30, st, bq, ch, sz⟩ := bk_h0.storeA0 (P := P) (t := T_impl_Book) (xs := [.slice p_h0 m_h0 c_h0]) (by kernel_rfl) rfl (by simp [Value.oneCell'])
  replace x := x.chg ch (by simp; omega)
  replace xS := xS.chg ch (by simp; omega)
  replace bk_a0 := bk_a0.chg ch (by simp; omega)
  replace bk_w0 := bk_w0.chg ch (by simp; omega)
  replace bk_x0 := bk_x0.chg ch (by simp; omega)
  replace bk_g0 := bk_g0.chg ch (by simp; omega)
  replace o_x0 := o_x0.chg ch (fun k hk hm => by have h1 := lt_o_x0 k hk; simp at hm; omega)
  replace o_x1 := o_x1.chg ch (fun k hk hm => by have h1 := lt_o_x1 k hk; simp at hm; omega)
  replace o_g0 := o_g0.chg ch (fun k hk hm => by have h1 := lt_o_g0 k hk; simp at hm; omega)
  replace o_h0 := o_h0.chg ch (fun k hk hm => by have h1 := lt_o_h0 k hk; simp at hm; omega)
  have bk_h0 := bq; clear bq
  have ll31 := ch.size
  refine ⟨_, st, ?_⟩
  refine ⟨_, _, _, bk_h0.loadA0 (by kernel_rfl), _, _, _, bk_w0.loadA0 (by kernel_rfl), ?_⟩
  refine Ret.at (laws_eqBook_c o_h0.rows (o_w0.ext xS) co_h0 co_w0) ?_
  rintro v W31 ⟨hv, y⟩
  subst hv
  replace x := x.trans y
  replace xS := xS.trans y
  replace bk_a0 := bk_a0.ext y
  replace bk_w0 := bk_w0.ext y
  replace bk_x0 := bk_x0.ext y
  replace bk_g0 := bk_g0.ext y
  replace bk_h0 := bk_h0.ext y
  replace o_x0 := o_x0.ext y
  replace o_x1 := o_x1.ext y
  replace o_g0 := o_g0.ext y
  replace o_h0 := o_h0.ext y
  have ll32 := y.le
  refine ⟨_, rfl, ifN (fun h => absurd h (by simp)) (fun _ => ?_)⟩
  refine ⟨fun h => absurd h (bne_no rfl), fun _ => ?_⟩
  unfold laws_FnExactPostLegs_j2
  refine ⟨_, _, _, bk_g0.loadA0 (by kernel_rfl), ?_⟩
  refine Ret.at (laws_heldBook_c o_g0.rows co_g0 (by omega) (by omega)) ?_
  rintro v W32 ⟨hv, y⟩
  subst hv
  replace x := x.trans y
  replace xS := xS.trans y
  replace bk_a0 := bk_a0.ext y
  replace bk_w0 := bk_w0.ext y
  replace bk_x0 := bk_x0.ext y
  replace bk_g0 := bk_g0.ext y
  replace bk_h0 := bk_h0.ext y
  replace o_x0 := o_x0.ext y
  replace o_x1 := o_x1.ext y
  replace o_g0 := o_g0.ext y
  replace o_h0 := o_h0.ext y
  have ll33 := y.le
  refine ⟨_, rfl, ifD (fun h => absurd h (by omega)) (fun _ => ?_)⟩
  refine ifD (fun h => absurd rfl h) (fun _ => ?_)
  exact ⟨rfl, x⟩
end Go.Proofs.YtccpmkgiogpkhaaGreatDoor

namespace Go.Proofs.YtccpmkgiogpkhaaGreatDoor.Sx
open Go Go.RowKit Go.ChangeShapes Go.WideShapes
set_option linter.unusedVariables false
set_option linter.unusedSimpArgs false
/-- each named variable's type can be read and is a row of the table -/
def rowedV (P : Program) (ns : List String) : Bool := ns.all fun n => ((P.globalNamed n).bind (P.globals[·]?)).all fun gl => P.readableRec gl.type && decide (gl.type < P.types.size)
section
variable {H : Type} {enc : TypeId × Value → H} {P : Program}
theorem trodAll_ext (hl : laidOutB P = true) {W W' : World} (hb : Ext W W') (sp' : Nat → Bool) : ∀ {ts : List TypeId} {vs : List Value} {ds : List (DataW H)} {ps : List MemPlace},
    (∀ t ∈ ts, P.readableRec t = true ∧ t < P.types.size) → (∀ p ∈ ps, p.block < W.heap.size) → (∀ p ∈ ps, sp' p.block = true) →
    DataW.TrodAll enc P W 0 (fun _ => true) true ts vs ds ps → DataW.TrodAll enc P W' 0 sp' true ts vs ds ps
  | [], _, _, _, _, _, _, h => by
    obtain ⟨rfl, rfl, rfl⟩ := trodAll_nil h
    exact rfl
  | t :: ts, _, _, _, hr, hlt, hsp, h => by
    obtain ⟨v, vs1, d, ds1, a, b, rfl, rfl, rfl, h1, h2⟩ := trodAll_cons h
    have hrt := hr t (by simp)
    exact ⟨a, b, WideElems.Trod_stays hl hrt.1 hrt.2 h1 (fun x hx => Below.same hb (hlt x (by simp [hx]))) (fun x hx => hsp x (by simp [hx])),
      trodAll_ext hl hb sp' (fun u hu => hr u (by simp [hu])) (fun x hx => hlt x (by simp [hx])) (fun x hx => hsp x (by simp [hx])) h2, rfl⟩
theorem trodVars_sp (hl : laidOutB P = true) {W W' : World} (hb : Ext W W') (sp' : Nat → Bool) :
    ∀ {ns : List String} {gs : List (DataW H)} {ps : List MemPlace}, rowedV P ns = true → (∀ p ∈ ps, sp' p.block = true) → DataW.TrodVars enc P W (fun _ => true) ns gs ps → DataW.TrodVars enc P W' sp' ns gs ps
  | [], [], _, _, _, h => h
  | [], _ :: _, _, _, _, h => h.elim
  | _ :: _, [], _, _, _, h => h.elim
  | n :: ns, d :: ds, ps, hv, hsp, h => by
    have hlt := h.lt
    obtain ⟨g, t, cs, fuel, p, q, h1, h2, h3, h4, hs, e⟩ := h
    simp only [rowedV, List.all_cons, Bool.and_eq_true] at hv
    have ht : P.readableRec t = true ∧ t < P.types.size := by
      have := hv.1
      rw [h1] at this
      cases hg : P.globals[g]? with
      | none => rw [hg] at h2; cases h2
      | some gl =>
        rw [hg] at h2
        obtain rfl : gl.type = t := Option.some.inj h2
        simpa [hg] using this
    have hp : ∀ x ∈ p, x.block < W.heap.size := fun x hx => hlt x (by rw [e]; simp [hx])
    have h3' : W'.var? P n = some cs := by
      unfold World.var? at h3 ⊢
      rw [h1] at h3 ⊢
      simp only [Option.bind_some] at h3 ⊢
      have hg : g < W.heap.size := by
        cases hh : W.heap[g]? with
        | none => rw [hh] at h3; cases h3
        | some o => exact (Array.getElem?_eq_some_iff.1 hh).1
      rw [hb.block g hg]; exact h3
    exact ⟨g, t, cs, fuel, p, q, h1, h2, h3', DataW.trod_stays (kids_book hl ht.1) (book_sized ht.1) (fun h => by cases h) ⟨ht.2, book_self t⟩ h4 (fun x hx => Below.same hb (hp x hx)) (fun x hx => hsp x (by rw [e]; simp [hx])),
      trodVars_sp hl hb sp' (by simpa [rowedV] using hv.2) (fun x hx => hsp x (by rw [e]; simp [hx])) hs, e⟩
/-- what the row asks of a law that answered true in a world with more behind it -/
theorem post_of_ext {f : Func} {s : ChangeSpec} {apart fresh handsOn again : Bool} {W W' : World} {args : Array Value} {ds gs : List (DataW H)} {before : List MemPlace} {tb : TypeId}
    (hl : laidOutB P = true) (hpar : ∀ t ∈ f.params.toList, P.readableRec t = true ∧ t < P.types.size) (hvr : rowedV P s.vars = true)
    (hrt : f.resultTypes = #[tb]) (htb : P.underlying tb = some .bool)
    (hW : DataW.Whole enc P f.params.toList s.vars apart W args.toList ds gs before) (hx : Ext W W')
    (hfn : s.fn H (ds ++ gs) = { results := [.lit (.bool true)], args := ds, vars := gs }) :
    s.post enc P f apart fresh handsOn again W args (.bool true) W' := by
  have hW0 := hW
  have hlt : ∀ p ∈ before, p.block < W.heap.size := hW.lt
  obtain ⟨pa, pv, hA, hV, rfl, hz, hn⟩ := hW
  have hlta : ∀ p ∈ pa, p.block < W.heap.size := fun p hp => hlt p (by simp [hp])
  have hltv : ∀ p ∈ pv, p.block < W.heap.size := fun p hp => hlt p (by simp [hp])
  have hr : (Value.bool true).resultList f.resultTypes.size = [Value.bool true] := by rw [hrt]; rfl
  refine ⟨ds, gs, pa ++ pv, [], pa, pv, hW0, ?_, ?_, ?_, Below.frame hx _, fun _ => ?_⟩
  · rw [hfn, hr, hrt]
    exact trodAll_mk1 (shut_bool htb _)
  · rw [hfn]
    exact trodAll_ext hl hx _ hpar hlta (fun p hp => by simpa using hlta p hp) hA
  · rw [hfn]
    exact trodVars_sp hl hx _ hvr (fun p hp => by simpa using hltv p hp) hV
  · refine ⟨?_, (.lit (.bool true)) :: ds, gs, pa ++ pv, ⟨[] ++ pa, pv, ?_, ?_, by simp, ?_, ?_⟩, fun p hp _ => hp⟩
    · rw [hr, hrt]
      exact ok_one (f := { f with resultTypes := #[tb] }) rfl rfl (okWide_bool_mk htb _)
    · rw [hr, hrt]
      exact trodAll_append (trodAll_ext hl hx _ hpar hlta (fun _ _ => rfl) hA) (trodAll_mk1 (shut_bool htb _))
    · exact trodVars_sp hl hx _ hvr (fun _ _ => rfl) hV
    · intro b off hp
      have := hlt _ hp
      rw [Below.frozen hx (p := ⟨b, off, none⟩) this]
      exact hz b off hp
    · exact hn
end
end Go.Proofs.YtccpmkgiogpkhaaGreatDoor.Sx

namespace Go.Proofs.YtccpmkgiogpkhaaGreatDoor.Sx
open Go Go.RowKit Go.ChangeShapes Go.WideShapes
set_option linter.unusedVariables false
set_option linter.unusedSimpArgs false
/-- the cells of a struct's fields, one behind the other -/
def flatF (P : Program) (g : TypeId → Option (List C0)) : Nat → List Field → Option (List C0)
  | _, [] => some []
  | o, f :: r => match Nat.beq f.offset o, g f.type with
    | true, some a => match Nat.beq (P.cellsOf f.type) a.length, flatF P g (o + a.length) r with
      | true, some b => some (a ++ b)
      | _, _ => none
    | _, _ => none
/-- the cells of a type -/
def flatC (P : Program) : Nat → TypeId → Option (List C0)
  | 0, _ => none
  | n + 1, t => match P.underlying t with
    | some .bool => some [.bool]
    | some (.int .i64) => some [.int]
    | some .string => some [.str]
    | some (.slice e) => match P.underlying e, P.cellsOf e with
      | some (.int .i64), 1 => some [.ints]
      | _, _ => none
    | some (.struct fs) => match flatF P (flatC P n) 0 fs.toList with
      | some a => if Nat.beq (P.cellsOf t) a.length then some a else none
      | none => none
    | _ => none
section
variable {H : Type} {enc : TypeId × Value → H} {P : Program} {w : World}
theorem seg_of_cells {b off n : Nat} {sp : Option Nat} {cs : List Value} (h : w.cells? 0 ⟨b, off, none⟩ n = some cs) : cs.length = n ∧ Seg w b off cs := by
  obtain ⟨_, hl, hc⟩ := World.cells?_some h
  refine ⟨hl, fun j v hj => ?_⟩
  have hjl : j < n := by rw [← hl]; exact (List.getElem?_eq_some_iff.1 hj).1
  rw [← addr_add, hc j hjl, hj]
theorem spot_none {a : Addr} {v : Value} (h : w.cell? a = some v) : a = ⟨a.block, a.off, none⟩ := by
  obtain ⟨b, o, spot⟩ := a
  have : spot = none := by simpa using World.cell?_spot h
  subst this; rfl
theorem ints_of_trod {t e : TypeId} {fuel : Nat} {sp : Nat → Bool} {hd : Bool} {cs : List Value} {x : DataW H × List MemPlace} (ht : P.underlying t = some (.slice e)) (he : P.underlying e = some (.int .i64)) (hc : P.cellsOf e = 1)
    (h : DataW.trod enc P w 0 sp hd fuel t cs = some x) : ∃ p n c zs, cs = [.slice p n c] ∧ IntsR w p n c zs ∧ zs.length ≤ 9223372036854775807 := by
  rcases Go.ChangeShapes.open_ints ht he hc h with ⟨rfl, _⟩ | ⟨a, len, cap, zs, rfl, _, hl, hm, hz, _, hcell, _⟩
  · exact ⟨none, 0, 0, [], rfl, ⟨rfl, Nat.le_refl _, by omega, fun h => absurd h (by omega)⟩, by simp⟩
  · have hlz : len ≤ zs.length := by rw [hz]; split <;> omega
    refine ⟨some a, len, cap, zs.take len, rfl, ⟨by simp; omega, hl, by simpa [maxLen] using hm, fun hpos => ?_⟩, by simp only [maxLen] at hm; simp; omega⟩
    have h0 := hcell 0 (by omega)
    have hs := spot_none h0
    have ha : a = ⟨a.block, a.off, none⟩ := by
      obtain ⟨b, o, s⟩ := a
      simp [Addr.add] at hs
      simp [hs]
    refine ⟨a.block, a.off, by rw [← ha], fun j v hj => ?_⟩
    simp only [List.getElem?_map, List.getElem?_take] at hj
    split at hj
    · rename_i hjl
      have hjz : j < zs.length := by omega
      have := hcell j hjz
      rw [ha, addr_add] at this
      rw [this]
      rw [List.getElem?_eq_getElem hjz] at hj
      simp at hj
      rw [← hj]
      simp [hjz]
    · simp at hj
theorem flatF_open {g : TypeId → Option (List C0)} {n : Nat} {sp : Nat → Bool} {hd : Bool}
    (ih : ∀ {t : TypeId} {ks : List C0} {cs : List Value} {x : DataW H × List MemPlace}, g t = some ks → DataW.trod enc P w 0 sp hd n t cs = some x → ∃ ds, Reps w cs ds ∧ ds.map D0.code = ks ∧ ∀ d ∈ ds, d.ok) :
    ∀ (fs : List Field) (o : Nat) (ks : List C0) (cs : List Value), flatF P g o fs = some ks → cs.length = o + ks.length →
      (∀ f ∈ fs, ∃ x, DataW.trod enc P w 0 sp hd n f.type ((cs.drop f.offset).take (P.cellsOf f.type)) = some x) → ∃ ds, Reps w (cs.drop o) ds ∧ ds.map D0.code = ks ∧ ∀ d ∈ ds, d.ok
  | [], o, ks, cs, hf, hl, _ => by
    simp only [flatF, Option.some.injEq] at hf
    subst hf
    rw [List.drop_of_length_le (by simp at hl; omega)]
    exact ⟨[], trivial, rfl, by simp⟩
  | f :: r, o, ks, cs, hf, hl, hx => by
    simp only [flatF] at hf
    split at hf
    · rename_i a h1 h2
      split at hf
      · rename_i b h3 h4
        have h1' := Nat.eq_of_beq_eq_true h1
        have h3' := Nat.eq_of_beq_eq_true h3
        cases hf
        rw [List.length_append] at hl
        obtain ⟨x, hx0⟩ := hx f (by simp)
        obtain ⟨ds, r1, c1, k1⟩ := ih h2 hx0
        obtain ⟨es, r2, c2, k2⟩ := flatF_open ih r (o + a.length) b cs h4 (by omega) (fun f' hf' => hx f' (by simp [hf']))
        refine ⟨ds ++ es, ?_, by simp [c1, c2], fun d hd => ?_⟩
        · rw [h1', h3'] at r1
          have : cs.drop o = (cs.drop o).take a.length ++ cs.drop (o + a.length) := by
            rw [← List.drop_drop, List.take_append_drop]
          rw [this]
          exact r1.append r2
        · rcases List.mem_append.1 hd with h | h
          · exact k1 d h
          · exact k2 d h
      · cases hf
    · cases hf
theorem flat_open {sp : Nat → Bool} {hd : Bool} : ∀ (m : Nat) {fuel : Nat} {t : TypeId} {ks : List C0} {cs : List Value} {x : DataW H × List MemPlace}, flatC P m t = some ks → DataW.trod enc P w 0 sp hd fuel t cs = some x →
    ∃ ds, Reps w cs ds ∧ ds.map D0.code = ks ∧ ∀ d ∈ ds, d.ok
  | 0, _, _, _, _, _, h, _ => by cases h
  | m + 1, fuel, t, ks, cs, x, h, ht => by
    simp only [flatC] at h
    split at h
    · rename_i hu
      obtain ⟨b, rfl, _⟩ := DataW.trod_bool hu ht
      cases h
      exact ⟨[.bool b], ⟨rfl, trivial⟩, rfl, by simp [D0.ok]⟩
    · rename_i hu
      obtain ⟨b, rfl, _, hw⟩ := DataW.trod_int hu ht
      cases h
      refine ⟨[.int b], ⟨rfl, trivial⟩, rfl, ?_⟩
      simp only [List.mem_singleton, forall_eq, D0.ok]
      simp [Lit.wf, IntKind.min, IntKind.max, IntKind.bits, IntKind.signed] at hw
      omega
    · rename_i hu
      obtain ⟨s, rfl, _, hw⟩ := DataW.trod_string hu ht
      cases h
      exact ⟨[.str s], ⟨rfl, trivial⟩, rfl, by simpa [D0.ok, maxLen] using hw⟩
    · rename_i e hu
      split at h
      · rename_i he hc
        cases h
        obtain ⟨p, n, c, zs, rfl, hr, hz⟩ := ints_of_trod hu he hc ht
        exact ⟨[.ints zs], ⟨⟨p, n, c, rfl, hr⟩, trivial⟩, rfl, by simpa [D0.ok] using hz⟩
      · cases h
    · rename_i fs hu
      split at h
      · rename_i a hf
        split at h
        · rename_i hsz
          cases h
          obtain ⟨xs, n, rfl, _, hlen, hxl, hfs⟩ := DataW.trod_struct hu ht
          have hsz' := Nat.eq_of_beq_eq_true hsz
          have := flatF_open (fun h1 h2 => flat_open m h1 h2) fs.toList 0 ks cs hf (by omega) (fun f hf => by
            obtain ⟨i, hi⟩ := List.getElem?_of_mem hf
            have hil : i < fs.size := by simpa using (List.getElem?_eq_some_iff.1 hi).1
            have := hfs i f (by simpa using hi)
            rw [List.getElem?_eq_getElem (by omega)] at this
            exact ⟨_, this⟩)
          simpa using this
        · cases h
      · cases h
    · cases h
theorem rows_open {sp : Nat → Bool} {hd : Bool} {m fuel : Nat} {t e : TypeId} {ks : List C0} {cs : List Value} {x : DataW H × List MemPlace} (hu : P.underlying t = some (.slice e)) (hk : flatC P m e = some ks) (hc : P.cellsOf e = ks.length) (hpos : 0 < ks.length)
    (ht : DataW.trod enc P w 0 sp hd fuel t cs = some x) : ∃ p n c l, cs = [.slice p n c] ∧ RowsR w ks.length p n c l ∧ (∀ y ∈ l, y.map D0.code = ks) ∧ ∀ y ∈ l, ∀ d ∈ y, d.ok := by
  rcases Go.Deep.open_slice hu ht with ⟨rfl, _⟩ | ⟨a, len, cap, mm, n, D, Pl, rfl, _, hl, hm, hmm, _, hx⟩
  · exact ⟨none, 0, 0, [], rfl, RowsR.nil _ _ _ (by omega), by simp, by simp⟩
  · have hlm : len ≤ mm := by rw [hmm]; split <;> omega
    have hex : ∀ i, i < len → ∃ ds : List D0, (∃ cs', cs'.length = ks.length ∧ Reps w cs' ds ∧ w.cells? 0 (a.add (i * ks.length)) ks.length = some cs') ∧ ds.map D0.code = ks ∧ ∀ d ∈ ds, d.ok := fun i hi => by
      obtain ⟨cs', h1, h2⟩ := hx i (by omega)
      obtain ⟨ds, r, c, k⟩ := flat_open m hk h2
      rw [hc] at h1
      exact ⟨ds, ⟨cs', (World.cells?_some h1).2.1, r, h1⟩, c, k⟩
    obtain ⟨F, hF⟩ := Go.Deep.choose_lt hex
    refine ⟨some a, len, cap, (List.range len).map F, rfl, ⟨by simp, hl, by simpa [maxLen] using hm, fun hn => ?_⟩, ?_, ?_⟩
    · obtain ⟨⟨cs', _, _, h1⟩, _⟩ := hF 0 hn
      have h0 := (World.cells?_some h1).2.2 0 hpos
      have hlen := (World.cells?_some h1).2.1
      rw [List.getElem?_eq_getElem (by omega)] at h0
      have hs := spot_none h0
      have ha : a = ⟨a.block, a.off, none⟩ := by
        obtain ⟨b, o, s⟩ := a
        simp [Addr.add] at hs
        simp [hs]
      refine ⟨a.block, a.off, by rw [← ha], fun i y hy => ?_⟩
      have hil : i < len := by
        have := (List.getElem?_eq_some_iff.1 hy).1
        simpa using this
      obtain ⟨⟨cs', q1, q2, q3⟩, _⟩ := hF i hil
      have : y = F i := by simpa [hil] using hy.symm
      subst this
      rw [ha, addr_add] at q3
      exact ⟨cs', q1, q2, (seg_of_cells (sp := none) q3).2⟩
    · intro y hy
      obtain ⟨i, hi, rfl⟩ := List.mem_map.1 hy
      exact (hF i (by simpa using hi)).2.1
    · intro y hy
      obtain ⟨i, hi, rfl⟩ := List.mem_map.1 hy
      exact (hF i (by simpa using hi)).2.2
theorem book_open {sp : Nat → Bool} {hd : Bool} {m fuel : Nat} {t ft e : TypeId} {fs : Array Field} {ks : List C0} {cs : List Value} {x : DataW H × List MemPlace} (ht : P.underlying t = some (.struct fs)) (hu : P.underlying ft = some (.slice e))
    (hk : flatC P m e = some ks) (hc : P.cellsOf e = ks.length) (hpos : 0 < ks.length) (hf : (fs.toList.map fun f => (f.type, f.offset), P.cellsOf t, P.cellsOf ft) = ([(ft, 0)], 1, 1))
    (h : DataW.trod enc P w 0 sp hd fuel t cs = some x) : ∃ p n c l, cs = [.slice p n c] ∧ RowsR w ks.length p n c l ∧ (∀ y ∈ l, y.map D0.code = ks) ∧ ∀ y ∈ l, ∀ d ∈ y, d.ok := by
  obtain ⟨xs, n, rfl, _, hlen, hxl, hfs⟩ := DataW.trod_struct ht h
  simp only [Prod.mk.injEq] at hf
  obtain ⟨h1, h2, h3⟩ := hf
  cases hl : fs.toList with
  | nil => rw [hl] at h1; cases h1
  | cons f r =>
    rw [hl] at h1
    simp only [List.map_cons, List.cons.injEq, Prod.mk.injEq, List.map_eq_nil_iff] at h1
    obtain ⟨h1, hr⟩ := h1
    subst hr
    have hs : fs.size = 1 := by rw [← Array.length_toList, hl]; rfl
    have hf0 : fs[0]? = some f := by
      have : fs.toList[0]? = some f := by rw [hl]; rfl
      simpa using this
    have := hfs 0 f hf0
    rw [List.getElem?_eq_getElem (by omega), h1.1, h1.2, h3, List.drop_zero, List.take_of_length_le (by omega)] at this
    exact rows_open hu hk hc hpos this
end
end Go.Proofs.YtccpmkgiogpkhaaGreatDoor.Sx

namespace Go.Proofs.YtccpmkgiogpkhaaGreatDoor
open Go Go.Proofs.YtccpmkgiogpkhaaGreatDoor.Sx
set_option linter.unusedVariables false
set_option linter.unusedSimpArgs false
def curData {H : Type} (r : CurRow) : DataW H := .agg [.lit (.string r.1.data.toList), .lit (.string r.2.1.data.toList), .lit (.int .i64 r.2.2.1), .lit (.int .i64 r.2.2.2)]
theorem bytes_eq {a b : ByteArray} (h : a.data.toList = b.data.toList) : a = b := by
  obtain ⟨⟨x⟩⟩ := a; obtain ⟨⟨y⟩⟩ := b
  simp at h; subst h; rfl
set_option maxRecDepth 100000 in
theorem cur_cells {H : Type} {enc : TypeId × Value → H} {w : World} {sp : Nat → Bool} {hd : Bool} {fuel : Nat} {cs : List Value} {r : CurRow} {p : List MemPlace}
    (h : DataW.trod enc P w 0 sp hd fuel T_impl_currency cs = some (curData r, p)) : cs = curCells r := by
  obtain ⟨fs, hu, hsz, ⟨f0, e0, t0, o0⟩, ⟨f1, e1, t1, o1⟩, ⟨f2, e2, t2, o2⟩, ⟨f3, e3, t3, o3⟩⟩ := cur_fields
  have hu : P.underlying T_impl_currency = some (.struct fs) := hu
  have hs : P.underlying T_string = some .string := by kernel_rfl
  have hi : P.underlying T_int = some (.int .i64) := by kernel_rfl
  have cS : P.cellsOf T_string = 1 := by kernel_rfl
  have cI : P.cellsOf T_int = 1 := by kernel_rfl
  have cC : P.cellsOf T_impl_currency = 4 := by kernel_rfl
  obtain ⟨xs, n, rfl, hx, hlen, hxl, hf⟩ := DataW.trod_struct hu h
  rw [cC] at hlen
  rw [hsz] at hxl
  have h0 := hf 0 f0 e0; have h1 := hf 1 f1 e1; have h2 := hf 2 f2 e2; have h3 := hf 3 f3 e3
  rw [t0, o0, cS] at h0; rw [t1, o1, cS] at h1; rw [t2, o2, cI] at h2; rw [t3, o3, cI] at h3
  match cs, hlen, xs, hxl, hx, h0, h1, h2, h3 with
  | [c0, c1, c2, c3], _, [x0, x1, x2, x3], _, hx, h0, h1, h2, h3 =>
    simp only [List.drop_succ_cons, List.drop_zero, List.take_succ_cons, List.take_zero, List.getElem?_cons_zero, List.getElem?_cons_succ] at h0 h1 h2 h3
    obtain ⟨s0, a0, b0, _⟩ := DataW.trod_string hs h0
    obtain ⟨s1, a1, b1, _⟩ := DataW.trod_string hs h1
    obtain ⟨z2, a2, b2, _⟩ := DataW.trod_int hi h2
    obtain ⟨z3, a3, b3, _⟩ := DataW.trod_int hi h3
    simp only [Prod.mk.injEq, curData, DataW.agg.injEq, List.map_cons, List.map_nil, List.cons.injEq, b0, b1, b2, b3, DataW.lit.injEq, Lit.string.injEq, Lit.int.injEq, true_and, and_true] at hx
    simp only [List.cons.injEq, and_true] at a0 a1 a2 a3
    obtain ⟨⟨q0, q1, q2, q3⟩, _⟩ := hx
    rw [a0, a1, a2, a3, ← bytes_eq q0, ← bytes_eq q1, ← q2, ← q3]
    rfl
theorem flat_of_rows : ∀ (l : List CurRow) (cs : List Value), cs.length = l.length * 4 → (∀ i (hi : i < l.length), (cs.drop (i * 4)).take 4 = curCells (l[i]'hi)) → cs = l.flatMap curCells
  | [], cs, h, _ => by simpa using h
  | r :: l, cs, h, hr => by
    have h0 := hr 0 (by simp)
    simp only [Nat.zero_mul, List.drop_zero, List.getElem_cons_zero] at h0
    rw [List.flatMap_cons, ← h0, ← flat_of_rows l (cs.drop 4) (by simp at h ⊢; omega) (fun i hi => by
      have := hr (i + 1) (by simpa using hi)
      rw [List.drop_drop, show 4 + i * 4 = (i + 1) * 4 by omega]
      simpa using this), List.take_append_drop]
def curVar : String := "loop.example/g00793/impl.currencies"
set_option maxRecDepth 100000 in
theorem tab_of_head {W : World} {rest : List (String × DataW Unit)} (h : laidMet P ((curVar, Rows.laid_loop_example_g00793_impl_currencies) :: rest) W) : Tab W := by
  obtain ⟨ps, ⟨g, t, cs, fuel, p, q, hg, ht, hvar, hd, _, _⟩, _⟩ := h
  have hg0 : P.globalNamed curVar = some 0 := by kernel_rfl
  have ht0 : (P.globals[0]?).map (·.type) = some T_20_impl_currency := by kernel_rfl
  obtain rfl := Option.some.inj (hg0.symm.trans hg)
  obtain rfl := Option.some.inj (ht0.symm.trans ht)
  have hu : P.underlying T_20_impl_currency = some (.array 20 T_impl_currency) := und_T_20_impl_currency
  have cC : P.cellsOf T_impl_currency = 4 := by kernel_rfl
  have cA : P.cellsOf T_20_impl_currency = 80 := by kernel_rfl
  obtain ⟨xs, m, rfl, hx, hlen, hxl, hf⟩ := DataW.trod_array hu hd
  rw [cA] at hlen
  have hdat : (Rows.laid_loop_example_g00793_impl_currencies : DataW Unit) = .agg (implTab.map curData) := by rfl
  rw [hdat] at hx
  simp only [Prod.mk.injEq, DataW.agg.injEq] at hx
  have hl := impl_length
  have hcs : cs.toList = implTab.flatMap curCells := by
    refine flat_of_rows implTab _ (by omega) fun i hi => ?_
    have h1 := hf i (by omega)
    rw [cC] at h1
    have h2 : (xs.map (·.1))[i]? = some (curData (implTab[i]'hi)) := by rw [← hx.1]; simp [hi]
    rw [List.getElem?_map] at h2
    cases h3 : xs[i]? with
    | none => rw [h3] at h2; cases h2
    | some x =>
      rw [h3] at h1 h2
      simp only [Option.map_some, Option.some.injEq] at h2
      obtain ⟨d, pp⟩ := x
      simp only at h2
      subst h2
      exact cur_cells h1
  intro i v hv
  have := World.var?_cell hg0 hvar i
  rw [Nat.zero_add, this, ← hv, ← hcs]
  simp
theorem tab_of_laid {W : World} (h : laidMetH P [(curVar, Rows.laid_loop_example_g00793_impl_currencies)] W) : Tab W := tab_of_head (rest := []) h
/-- a world for the witness: the settled one, the table laid in its variable -/
noncomputable def laidWorld (os : Os) (args : Array Value) : World :=
  { World.holding P os ⟨#[], args, []⟩ with heap := (World.holding P os ⟨#[], args, []⟩).heap.modify 0 fun
      | .cells _ t frozen => .cells ⟨implTab.flatMap curCells⟩ t frozen
      | o => o }
theorem trodVars_one {H : Type} {enc : TypeId × Value → H} {w : World} {sp : Nat → Bool} {n : String} {gs : List (DataW H)} {ps : List MemPlace} (h : DataW.TrodVars enc P w sp [n] gs ps) : ∃ g, gs = [g] := by
  match gs, h with
  | [g], _ => exact ⟨g, rfl⟩
  | g :: g2 :: r, h =>
    obtain ⟨_, _, _, _, _, _, _, _, _, _, h2, _⟩ := h
    exact h2.elim
end Go.Proofs.YtccpmkgiogpkhaaGreatDoor
