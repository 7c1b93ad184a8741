/-
  Parts of the proof of legSums_holds: CSumsS, CPlanDone, CBalanced, CLegSums, SxFlS, DM, WLegSums, SxRow, SxOpen, CTab.
  Conditions: none.
-/
import Derived.ProofKit
import Derived.Deep.Slices
import Derived.Test.YtdidocmbcfbjdaaDoorRows
import Derived.OpenShut
import Derived.Lib.LaidTab
import Derived.Test.YtdidocmbcfbjdaaDoorLs3

namespace Go.Proofs.YtdidocmbcfbjdaaDoor
open Go Go.Proofs.YtdidocmbcfbjdaaDoor.Sx
set_option linter.unusedVariables false
set_option linter.unusedSimpArgs false
def keysOf (S : List (List D0)) : List (ByteArray × Int) := S.map fun x => (strOf x, (0 : Int))
def stepD (S : List (List D0)) (x : List D0) : List (List D0) :=
  if hasAt (keysOf S) (strOf (x.drop 1)) then S.set (posOf (keysOf S) (strOf (x.drop 1))) (.str (strOf (x.drop 1)) :: iadd ((S.getD (posOf (keysOf S) (strOf (x.drop 1))) []).drop 1) (x.drop 2))
  else S.take (posOf (keysOf S) (strOf (x.drop 1))) ++ x.drop 1 :: S.drop (posOf (keysOf S) (strOf (x.drop 1)))
def specTo (l : List (List D0)) (j : Nat) : List (List D0) := (l.take j).foldl stepD []
theorem specTo_succ {l : List (List D0)} {j : Nat} (h : j < l.length) : specTo l (j + 1) = stepD (specTo l j) l[j] := by
  unfold specTo
  rw [List.take_succ_eq_append_getElem h, List.foldl_append]
  rfl
theorem keysOf_len (S : List (List D0)) : (keysOf S).length = S.length := by simp [keysOf]
theorem stepD_code {S : List (List D0)} {x : List D0} (hx : x.map D0.code = [.str, .str, .bool, .ints]) (h : ∀ y ∈ S, y.map D0.code = [.str, .bool, .ints]) : ∀ y ∈ stepD S x, y.map D0.code = [.str, .bool, .ints] := by
  intro y hy
  unfold stepD at hy
  split at hy
  · rcases List.mem_or_eq_of_mem_set hy with hy | hy
    · exact h y hy
    · rw [hy, List.map_cons, iadd_code]; rfl
  · rcases List.mem_append.1 hy with hy | hy
    · exact h y (List.mem_of_mem_take hy)
    · rcases List.mem_cons.1 hy with hy | hy
      · rw [hy, List.map_drop, hx]; rfl
      · exact h y (List.mem_of_mem_drop hy)
theorem specTo_code {l : List (List D0)} (hc : ∀ x ∈ l, x.map D0.code = [.str, .str, .bool, .ints]) : ∀ j, j ≤ l.length → ∀ y ∈ specTo l j, y.map D0.code = [.str, .bool, .ints]
  | 0, _, y, hy => by simp [specTo] at hy
  | j + 1, h, y, hy => by
    rw [specTo_succ (by omega)] at hy
    exact stepD_code (hc _ (List.getElem_mem (by omega))) (specTo_code hc j (by omega)) y hy
theorem stepD_len (S : List (List D0)) (x : List D0) : (stepD S x).length ≤ S.length + 1 := by
  unfold stepD
  split
  · simp
  · simp; omega
theorem specTo_len (l : List (List D0)) : ∀ j, j ≤ l.length → (specTo l j).length ≤ j
  | 0, _ => Nat.le_refl _
  | j + 1, h => by
    rw [specTo_succ (by omega)]
    have := stepD_len (specTo l j) l[j]
    have := specTo_len l j (by omega)
    omega
theorem keysOf_at {S : List (List D0)} {j : Nat} {x : List D0} (h : S[j]? = some x) : (keysOf S)[j]? = some (strOf x, 0) := by
  unfold keysOf; rw [List.getElem?_map, h]; rfl
/-- the first that is not less is the place -/
theorem posOf_unique : ∀ {s : List (ByteArray × Int)} {c : ByteArray} {k : Nat}, k ≤ s.length → (∀ j x, s[j]? = some x → j < k → bLess x.1 c = true) → (∀ x, s[k]? = some x → bLess x.1 c = false) → k = posOf s c
  | [], c, k, hk, _, _ => by simp at hk; subst hk; rfl
  | x :: r, c, 0, _, _, h2 => by
    have := h2 x rfl
    simp [posOf, this]
  | x :: r, c, k + 1, hk, h1, h2 => by
    have hx := h1 0 x rfl (by omega)
    have := posOf_unique (s := r) (c := c) (k := k) (by simpa using hk) (fun j y hy hj => h1 (j + 1) y (by simpa using hy) (by omega)) (fun y hy => h2 y (by simpa using hy))
    simp only [posOf, hx, if_true]
    omega
/-- sums of valid legs -/
theorem keys_sums (s : List (ByteArray × Int)) : keysOf (sumsRows s) = s.map fun x => (x.1, (0 : Int)) := by
  unfold keysOf sumsRows
  rw [List.map_map]
  rfl
theorem posOf_map : ∀ (s : List (ByteArray × Int)) (c : ByteArray), posOf (s.map fun x => (x.1, (0 : Int))) c = posOf s c
  | [], _ => rfl
  | x :: r, c => by simp only [List.map_cons, posOf, posOf_map r c]
theorem hasAt_map (s : List (ByteArray × Int)) (c : ByteArray) : hasAt (s.map fun x => (x.1, (0 : Int))) c = hasAt s c := by
  unfold hasAt
  rw [posOf_map, List.getElem?_map]
  cases s[posOf s c]? <;> rfl
theorem stepD_sums {s : List (ByteArray × Int)} {nm c : ByteArray} {u : Int} (hs : ∀ x ∈ s, x.2.natAbs ≤ 8000000000000000000000000000000000000) (hu : u.natAbs ≤ 1000000000000000000000000000000000000) : stepD (sumsRows s) (.str nm :: .str c :: enc u) = sumsRows (sumAdd s c u) := by
  have e1 : strOf ((D0.str nm :: .str c :: enc u).drop 1) = c := rfl
  have e2 : (D0.str nm :: .str c :: enc u).drop 2 = enc u := rfl
  have e3 : (D0.str nm :: .str c :: enc u).drop 1 = .str c :: enc u := rfl
  unfold stepD
  rw [e1, e2, e3, keys_sums, posOf_map, hasAt_map]
  cases h : hasAt s c with
  | true =>
    obtain ⟨v, h1, h2⟩ := sumAdd_has (u := u) h
    have hv := hs _ (List.mem_of_getElem? h1)
    have hg : (sumsRows s).getD (posOf s c) [] = .str c :: enc v := by
      unfold sumsRows
      rw [List.getD_eq_getElem?_getD, List.getElem?_map, h1]; rfl
    rw [if_pos rfl, hg, h2]
    show (sumsRows s).set _ (.str c :: iadd (enc v) (enc u)) = _
    rw [iadd_small (by omega) (by omega)]
    unfold sumsRows
    rw [List.map_set]
  | false =>
    rw [if_neg (by simp), sumAdd_new h]
    simp [sumsRows, List.map_take, List.map_drop]
theorem specTo_sums {l : List (List D0)} (hc : ∀ x ∈ l, x.map D0.code = [.str, .str, .bool, .ints]) (hok : legsOk l = true) : ∀ j, j ≤ l.length → specTo l j = sumsRows (sumsTo l j)
  | 0, _ => rfl
  | j + 1, h => by
    obtain ⟨_, h8, hall⟩ := legs_facts hok
    have hm : l[j] ∈ l := List.getElem_mem (by omega)
    obtain ⟨nm, c, u, he, hu, hk, _⟩ := leg_facts (hc _ hm) (hall _ hm)
    rw [specTo_succ (by omega), sumsTo_succ (by omega), specTo_sums hc hok j (by omega), hk, he]
    refine stepD_sums (fun x hx => ?_) hu
    have h1 := sumsTo_bound hc hok j (by omega) x hx
    exact Nat.le_trans h1 (Nat.le_trans (Nat.mul_le_mul_right _ (show j ≤ 8 by omega)) (by decide))
/-- append of any number of rows onto rows of one's own -/
theorem Sx.Own.pushM {w : World} {B : Nat} {t e : TypeId} {z : Value} {size bytes : Nat} {g n c m mc : Nat} {a : Addr} {xs news : List Value} (h : Sx.Own w B e size (some ⟨g, 0, none⟩) n c xs)
    (hT : sliceT P t e z size bytes) (hb : B ≤ w.heap.size) (hcells : ∀ j u, news[j]? = some u → w.cell? (a.add j) = some u) (hl : news.length = m * size) (h1 : ∀ u ∈ news, u.oneCell' = true)
    (hbytes : (n + m) * bytes ≤ 140737488355328) (hby : 1 ≤ bytes) :
    ∃ g' c' w', Appends P [t, t] [.slice (some ⟨g, 0, none⟩) n c, .slice (some a) m mc] (.slice (some ⟨g', 0, none⟩) (n + m) c') w w' ∧ Sx.Own w' B e size (some ⟨g', 0, none⟩) (n + m) c' (xs ++ news) ∧ Chg [g] w w' ∧ (g' = g ∨ w.heap.size ≤ g') := by
  rcases Nat.eq_zero_or_pos m with h0 | h0
  · subst h0
    have hn : news = [] := List.eq_nil_of_length_eq_zero (by simpa using hl)
    subst hn
    obtain ⟨hu, hi, hz, hs⟩ := hT
    cases hinf : P.info? e with
    | none => rw [hinf] at hi; cases hi
    | some i =>
      rw [hinf] at hi
      simp only [Option.map_some, Option.some.injEq, Prod.mk.injEq] at hi
      rcases h.2 with ⟨e1, e2⟩ | ⟨g2, cap, cur, e1, hB, hg, h3, h4, h5, h6⟩
      · simp at e1
      · simp only [Value.slice.injEq, Option.some.injEq, Addr.mk.injEq, and_true, true_and] at e1
        obtain ⟨rfl, rfl⟩ := e1
        have hsz : n * i.size + ([] : List Value).length ≤ cur.size := by
          have : n * size ≤ c * size := Nat.mul_le_mul_right _ h3
          simp only [List.length_nil, Nat.add_zero, hi.2.1, h5]
          exact this
        obtain ⟨v', w', hrun, hown, hgr, _⟩ := run_append_own (P := P) w B t 0 e i z size bytes hu hinf hi.1 hi.2.1 hi.2.2 hz hs (.slice (some ⟨g, 0, none⟩) n c) n xs h a 0 mc [] hl hcells h1 (by omega) (by simpa using hbytes) hb
        have hr := run_append_room (P := P) w t 0 e i hu hinf g n c cur hg a 0 mc [] (by simp) hcells h1 (by omega) hsz
        rw [hr] at hrun
        injection hrun with hv hw
        subst hv
        subst hw
        refine ⟨g, c, _, hr, hown, ⟨hgr.os, hgr.tape, hgr.output, hgr.size, fun k hk hn => hgr.block k hk ?_⟩, .inl rfl⟩
        intro e; simp [Value.ownBlock] at e; simp at hn; omega
  · obtain ⟨p', c', w', hA, hO, hC, hP⟩ := h.pushN (mc := mc) hT hb hcells hl h1 hbytes hby h0
    obtain ⟨g', ys, rfl, _⟩ := hO.blk (by omega)
    refine ⟨g', c', w', hA, hO, hC, ?_⟩
    rcases hP with ⟨hp, _⟩ | ⟨hp, _⟩
    · simp at hp; exact .inl hp
    · exact .inr (hp g' rfl)
set_option maxHeartbeats 1000000 in
theorem spec_l18Sums_o {w : World} {p : Option Addr} {n c : Nat} {l : List (List D0)} (h : RowsR w 4 p n c l) (hc : ∀ x ∈ l, x.map D0.code = [.str, .str, .bool, .ints]) (hn : n ≤ 1048576) (hb : ∀ x ∈ l, bulks x ≤ 1048576) :
    Ret P n_spec_l18Sums [.slice p n c] w fun v w' => ∃ p' n' c' f, v = .slice p' n' c' ∧ OwnRows w' w.heap.size T_impl_Money 3 p' n' c' (specTo l n) f ∧ Ext w w' := by
  have hln := h.1
  refine spec_l18Sums_ret ?_
  unfold spec_l18Sums
  intro r w1 hn1
  have e1 := hn1.r_eq; have z1 := hn1.size
  refine ⟨fun op on oc i wr => ∃ (j b : Nat) (f : List Nat), op = some ⟨b, 0, none⟩ ∧ i = j ∧ j ≤ n ∧ OwnRows wr w.heap.size T_impl_Money 3 op on oc (specTo l j) f ∧ Ext w wr, fun _ _ _ i _ => n - i.toNat, ⟨0, r, [r], rfl, rfl, Nat.zero_le _, OwnRows.fresh hn1 (by omega), hn1.ext⟩, ?_⟩
  intro junk wr op on oc i ⟨j, b, f, hop, hij, hj, ho, hx⟩
  subst hij
  subst hop
  refine ifD (fun hlt => ?_) (fun hge => ?_)
  rotate_left
  · have hjn : j = n := by omega
    subst hjn
    exact ⟨_, _, _, f, rfl, ho, hx⟩
  have hjn : j < n := by omega
  have hjl : j < l.length := by omega
  have hm : l[j] ∈ l := List.getElem_mem hjl
  have hcx := hc _ hm
  have hbx := hb _ hm
  have hon := ho.1
  have honl := specTo_len l j (by omega)
  have hcS := specTo_code hc j (by omega)
  obtain ⟨bl, offl, hpl, hsl⟩ := h.2.2.2 (by omega)
  subst hpl
  obtain ⟨cs, hk, hr0, hsg⟩ := hsl j _ (List.getElem?_eq_getElem hjl)
  have hr0' := hr0
  obtain ⟨s0, s1, s2, sp, sn, sc, sz, rfl, hd, hsi⟩ := open_Leg hr0 hcx
  have hld : Loads P T_impl_Leg ((⟨bl, offl, none⟩ : Addr).add (j * 4)) (.agg ⟨[.string s0, .string s1, .bool s2, .slice sp sn sc]⟩) wr := (hsg.ext hx).loadAAt 0 _ (by rw [addr_add]; rfl) (by kernel_rfl) rfl
  have hkey : strOf (l[j].drop 1) = s1 := by rw [hd]; rfl
  have hunit : l[j].drop 2 = [.bool s2, .ints sz] := by rw [hd]; rfl
  have hmon : l[j].drop 1 = [.str s1, .bool s2, .ints sz] := by rw [hd]; rfl
  refine ⟨⟨by omega, by omega⟩, _, _, _, _, _, _, by simpa using hld, ?_⟩
  intro r1 w3 hn3
  have e3 := hn3.r_eq
  obtain ⟨w4, st4, b4, y4⟩ := hn3.fill (P := P) (t := T_impl_Leg) (xs := [.string s0, .string s1, .bool s2, .slice sp sn sc]) (by simp [Value.oneCell']) (by kernel_rfl) rfl
  refine ⟨w4, st4, fun k wk => ∃ kk : Nat, k = kk ∧ kk ≤ on ∧ (∀ a x, (keysOf (specTo l j))[a]? = some x → a < kk → bLess x.1 s1 = true) ∧ Ext w4 wk, fun k _ => on - k.toNat, ⟨0, rfl, Nat.zero_le _, fun a x _ ha => absurd ha (by omega), Ext.refl _⟩, ?_⟩
  intro junk2 wk k ⟨kk, hkk, hkn, hless, hxk⟩
  subst hkk
  have X4 := hx.trans y4
  have lx := hx.le; have l4 := y4.le; have lk := hxk.le
  have hdk := Ext.drew wk
  have hdk2 := hdk.trans (Ext.drew wk.drew)
  have ho4 : ∀ W, Ext wk W → OwnRows W w.heap.size T_impl_Money 3 (some ⟨b, 0, none⟩) on oc (specTo l j) f := fun W hW => ho.ext ((y4.trans hxk).trans hW)
  have b4k : ∀ W, Ext wk W → Blk W r1 T_impl_Leg [.string s0, .string s1, .bool s2, .slice sp sn sc] := fun W hW => b4.ext (hxk.trans hW)
  have hmR : ∀ W, Ext wk W → Reps W [.bool s2, .slice sp sn sc] [.bool s2, .ints sz] := fun W hW => ⟨rfl, ⟨_, _, _, rfl, hsi.ext (((hx.trans y4).trans hxk).trans hW)⟩, trivial⟩
  have hrowK : ∀ (hlt : kk < on), ∃ b' xs cs zs x, (specTo l j)[kk]? = some x ∧ (some ⟨b, 0, none⟩ : Option Addr) = some ⟨b', 0, none⟩ ∧ xs.length = kk * 3 ∧ Blk wk b' T_impl_Money (xs ++ cs ++ zs) ∧ Reps wk cs x ∧ x.map D0.code = [.str, .bool, .ints] := fun hlt => by
    have hlt' : kk < (specTo l j).length := by omega
    obtain ⟨b', xs, cs, zs, h1, _, _, h2, _, h3, h4, _⟩ := (ho4 wk (Ext.refl _)).put (List.getElem?_eq_getElem hlt')
    exact ⟨b', xs, cs, zs, _, List.getElem?_eq_getElem hlt', h1, h2, h3, h4, hcS _ (List.getElem_mem hlt')⟩
  have fin : ∀ (g n' c' : Nat) (f' : List Nat) (W : World), OwnRows W w.heap.size T_impl_Money 3 (some ⟨g, 0, none⟩) n' c' (specTo l (j + 1)) f' → Ext w W →
      ∃ t76 : Int, t76 = IntKind.wrap .i64 ((j : Int) + 1) ∧ (∃ (j2 b2 : Nat) (f2 : List Nat), (some ⟨g, 0, none⟩ : Option Addr) = some ⟨b2, 0, none⟩ ∧ t76 = j2 ∧ j2 ≤ n ∧ OwnRows W w.heap.size T_impl_Money 3 (some ⟨g, 0, none⟩) n' c' (specTo l j2) f2 ∧ Ext w W) ∧ n - t76.toNat < n - (j : Int).toNat := fun g n' c' f' W h1 h2 =>
    exW ⟨by omega, by omega⟩ ⟨⟨j + 1, g, f', rfl, rfl, by omega, h1, h2⟩, by show n - ((j : Int) + 1).toNat < n - (j : Int).toNat; omega⟩
  have found : ∀ W, Ext wk W → kk = posOf (keysOf (specTo l j)) s1 → hasAt (keysOf (specTo l j)) s1 = true → ∀ (R : Option Addr → Nat → Nat → World → Prop), (∀ (g n' c' : Nat) (f' : List Nat) (W : World), OwnRows W w.heap.size T_impl_Money 3 (some ⟨g, 0, none⟩) n' c' (specTo l (j + 1)) f' → Ext w W → R (some ⟨g, 0, none⟩) n' c' W) →
      (0 ≤ ((kk : Nat) : Int) ∧ ((kk : Nat) : Int) < (on : Nat)) ∧ ∃ (t530 : Bool) (t531_p : Option Addr) (t531_n : Nat) (t531_c : Nat), (∀ wv_9, Ext W.drew wv_9 → Loads P T_impl_Signed ((((⟨b, 0, none⟩ : Addr)).add (((kk : Nat) : Int).toNat * 3)).add 1) (.agg #[(.bool t530), (.slice t531_p t531_n t531_c)]) wv_9) ∧ ∃ (t560 : Bool) (t561_p : Option Addr) (t561_n : Nat) (t561_c : Nat), (∀ wv_10, Ext W.drew wv_10 → Loads P T_impl_Signed (((⟨r1, 0, none⟩ : Addr).add 1).add 1) (.agg #[(.bool t560), (.slice t561_p t561_n t561_c)]) wv_10) ∧ Calls P n_spec_IntAdd ⟨[(.agg #[(.bool t530), (.slice t531_p t531_n t531_c)]), (.agg #[(.bool t560), (.slice t561_p t561_n t561_c)])]⟩ W.drew fun e wv_11 =>
        ∃ (t570 : Bool) (t571_p : Option Addr) (t571_n : Nat) (t571_c : Nat), e = .returned (.agg #[(.bool t570), (.slice t571_p t571_n t571_c)]) ∧
        (0 ≤ ((kk : Nat) : Int) ∧ ((kk : Nat) : Int) < (on : Nat)) ∧ ∃ wv_12, Stores P T_impl_Signed ((((⟨b, 0, none⟩ : Addr)).add (((kk : Nat) : Int).toNat * 3)).add 1) (.agg #[(.bool t570), (.slice t571_p t571_n t571_c)]) wv_11 wv_12 ∧ R (some ⟨b, 0, none⟩) on oc wv_12 := by
    intro W hW hpos hhas R hR
    have hsome : ∃ x, (specTo l j)[kk]? = some x ∧ strOf x = s1 := by
      unfold hasAt at hhas
      rw [← hpos] at hhas
      unfold keysOf at hhas
      rw [List.getElem?_map] at hhas
      cases hx : (specTo l j)[kk]? with
      | none => rw [hx] at hhas; cases hhas
      | some x => rw [hx] at hhas; exact ⟨x, rfl, of_decide_eq_true hhas⟩
    obtain ⟨x, hxx, hxs⟩ := hsome
    have hkon : kk < on := by have := (List.getElem?_eq_some_iff.1 hxx).1; omega
    have how := ho4 W hW
    obtain ⟨b', xs, cs5, zs, hpb, hbB, hbf, hxl, hcl, hblk, hrep, hput⟩ := how.put hxx
    simp only [Option.some.injEq, Addr.mk.injEq, and_true] at hpb
    obtain rfl := hpb
    obtain ⟨k0, k1, kp, kn, kc, kz, rfl, hkd, hki⟩ := open_Money hrep (hcS _ (List.mem_of_getElem? hxx))
    have hk0 : k0 = s1 := by rw [hkd] at hxs; exact hxs
    subst hk0
    have dW := Ext.drew W
    have hWd := hW.trans dW
    rw [Int.toNat_natCast]
    refine ⟨⟨by omega, by omega⟩, _, _, _, _, fun W2 hW2 => ((hblk.ext dW).ext hW2).loadAAt (kk * 3 + 1) [.bool k1, .slice kp kn kc] (by rw [addr_add, addr_add, Nat.zero_add]) (by kernel_rfl) (by rw [← hxl, List.append_assoc, List.drop_length_add_append]; rfl), _, _, _, _, fun W2 hW2 => (b4k W2 (hWd.trans hW2)).loadAAt 2 [.bool s2, .slice sp sn sc] rfl (by kernel_rfl) rfl, ?_⟩
    refine Ret.at (spec_IntAdd_c (dx := [.bool k1, .ints kz]) ⟨rfl, ⟨_, _, _, rfl, hki.ext dW⟩, trivial⟩ (hmR _ hWd) rfl rfl) ?_
    rintro v8 w8 ⟨vs8, f8, hv8, ho8, nd8, y8⟩
    subst hv8
    obtain ⟨m0, mp, mn, mc, mz, rfl, _, _⟩ := open_Signed ho8.reps (iadd_code _ _)
    have Y8 := dW.trans y8
    have hblk8 := hblk.ext Y8
    have hpl : kk * 3 + 3 ≤ (xs ++ [Value.string k0, Value.bool k1, Value.slice kp kn kc] ++ zs).length := by simp [hxl]
    obtain ⟨w9, st9, hb9, ch9, sz9⟩ := hblk8.storeA (P := P) (t := T_impl_Signed) (k := kk * 3 + 1) (xs := [.bool m0, .slice mp mn mc]) (by kernel_rfl) (by simp only [List.length_cons, List.length_nil]; omega) (by simp [Value.oneCell'])
    have hnew : (xs ++ [Value.string k0, Value.bool k1, Value.slice kp kn kc] ++ zs).take (kk * 3 + 1) ++ [Value.bool m0, .slice mp mn mc] ++ (xs ++ [Value.string k0, Value.bool k1, Value.slice kp kn kc] ++ zs).drop (kk * 3 + 1 + [Value.bool m0, .slice mp mn mc].length) = xs ++ [Value.string k0, Value.bool m0, .slice mp mn mc] ++ zs := by
      rw [← hxl, List.append_assoc xs, List.take_length_add_append, Nat.add_assoc, List.drop_length_add_append]
      simp
    rw [hnew] at hb9
    have hbl := hblk.lt
    have hWl := hW.le
    have ho9 := (ho8.chg ch9 (fun k hk hm => by
      have h1 := (ho8.lt k hk).1
      have h2 := dW.le
      simp at hm; omega)).mono (B' := w.heap.size) (by have := dW.le; omega)
    obtain ⟨f9, hor9, hf9⟩ := hput w9 _ (.str k0 :: iadd [.bool k1, .ints kz] [.bool s2, .ints sz]) f8 (Y8.toChg.trans ch9) rfl hb9 (Owns.append (Owns.str _ _ k0) ho9) nd8 (fun y hy hm => by
      have h1 := (ho8.lt y hy).1
      have h2 := (how.lt y hm).2
      have h3 := dW.le
      omega)
    refine ⟨_, _, _, _, rfl, ⟨by omega, by omega⟩, w9, ?_, hR b on oc f9 w9 ?_ ?_⟩
    · rw [addr_add] at st9 ⊢
      rw [addr_add, Nat.zero_add]
      rw [Nat.zero_add] at st9
      exact st9
    · rw [specTo_succ hjl]
      unfold stepD
      rw [hkey, hunit, if_pos hhas, ← hpos, List.getD_eq_getElem?_getD, hxx, hkd]
      exact hor9
    · exact ((((X4.trans hxk).trans hW).trans Y8)).chg ch9 (by simp; omega)
  have new : ∀ W, Ext wk W → kk = posOf (keysOf (specTo l j)) s1 → hasAt (keysOf (specTo l j)) s1 = false → ∀ (r2 : Nat) (wa : World), New W (.cells ⟨[]⟩ T_impl_Money (0, 0)) r2 wa → ∀ (R : Option Addr → Nat → Nat → World → Prop), (∀ (g n' c' : Nat) (f' : List Nat) (W : World), OwnRows W w.heap.size T_impl_Money 3 (some ⟨g, 0, none⟩) n' c' (specTo l (j + 1)) f' → Ext w W → R (some ⟨g, 0, none⟩) n' c' W) →
      (0 ≤ ((kk : Nat) : Int) ∧ ((kk : Nat) : Int) ≤ (oc : Nat)) ∧ ∃ (t64_p : Option Addr) (t64_n : Nat) (t64_c : Nat) (wv_14 : World), Appends P [T_s_impl_Money, T_s_impl_Money] [(.slice (some ⟨r2, 0, none⟩) 0 0), (.slice (Sx.sub (some ⟨b, 0, none⟩) 0 oc 3) (((kk : Nat) : Int).toNat - 0) (oc - 0))] (.slice t64_p t64_n t64_c) wa wv_14 ∧
      ∃ (t670 : ByteArray) (t671 : Bool) (t672_p : Option Addr) (t672_n : Nat) (t672_c : Nat), Loads P T_impl_Money ((⟨r1, 0, none⟩ : Addr).add 1) (.agg #[(.string t670), (.bool t671), (.slice t672_p t672_n t672_c)]) wv_14 ∧ Calls P n_spec_l17Money ⟨[(.agg #[(.string t670), (.bool t671), (.slice t672_p t672_n t672_c)])]⟩ wv_14 fun e_1 wv_15 =>
      ∃ (t680 : ByteArray) (t681 : Bool) (t682_p : Option Addr) (t682_n : Nat) (t682_c : Nat), e_1 = .returned (.agg #[(.string t680), (.bool t681), (.slice t682_p t682_n t682_c)]) ∧
      ∀ (r_3 : Nat) (wv_16 : World), New wv_15 (.cells ⟨[(.string t680), (.bool t681), (.slice t682_p t682_n t682_c)]⟩ T_impl_Money (0, 0)) r_3 wv_16 →
      ∃ (t70_p : Option Addr) (t70_n : Nat) (t70_c : Nat) (wv_17 : World), Appends P [T_s_impl_Money, T_s_impl_Money] [(.slice t64_p t64_n t64_c), (.slice (some ⟨r_3, 0, none⟩) 1 1)] (.slice t70_p t70_n t70_c) wv_16 wv_17 ∧
      (0 ≤ ((kk : Nat) : Int) ∧ ((kk : Nat) : Int) ≤ (on : Nat)) ∧ ∃ (t75_p : Option Addr) (t75_n : Nat) (t75_c : Nat) (wv_18 : World), Appends P [T_s_impl_Money, T_s_impl_Money] [(.slice t70_p t70_n t70_c), (.slice (Sx.sub (some ⟨b, 0, none⟩) ((kk : Nat) : Int).toNat oc 3) (on - ((kk : Nat) : Int).toNat) (oc - ((kk : Nat) : Int).toNat))] (.slice t75_p t75_n t75_c) wv_17 wv_18 ∧
      R t75_p t75_n t75_c wv_18 := by
    intro W hW hpos hhas r2 wa hna R hR
    have hra := hna.r_eq; have hza := hna.size
    have how := ho4 W hW
    have hWl := hW.le
    obtain ⟨xs, hown, h1, hins⟩ := how.ins (i := kk) hkn
    have hcap := how.rows.2.1
    have hxl : xs.length = on * 3 := hown.len
    obtain ⟨_, cur, hpb, hBb, hcb, hcl, hnc, hcm, htk⟩ : ∃ b' ys, (some ⟨b, 0, none⟩ : Option Addr) = some ⟨b', 0, none⟩ ∧ w.heap.size ≤ b' ∧ Blk W b' T_impl_Money ys ∧ ys.length = oc * 3 ∧ on ≤ oc ∧ oc ≤ maxLen ∧ ys.take (on * 3) = xs := by
      rcases hown.2 with ⟨e1, e2⟩ | ⟨g, cap, cu, e1, hB, hg, h3, h4, h5, h6⟩
      · simp at e1
      · simp only [Value.slice.injEq, Option.some.injEq, Addr.mk.injEq, and_true, true_and] at e1
        obtain ⟨rfl, rfl⟩ := e1
        exact ⟨b, cu.toList, rfl, hB, by cases cu; exact hg, by simpa using h5, h3, h4, h6⟩
    simp only [Option.some.injEq, Addr.mk.injEq, and_true] at hpb
    obtain rfl := hpb
    have hbl := hcb.lt
    have seg : ∀ W2, Ext W W2 → Seg W2 b 0 xs := fun W2 hW2 => by
      have := ((hcb.ext hW2).seg).take (on * 3)
      rwa [htk] at this
    rw [Int.toNat_natCast, Nat.sub_zero, Nat.sub_zero, sub0g]
    have hT := ins_sliceT_Money
    obtain ⟨g1, c1, w14, hA1, hO1, ch1, hg1⟩ := (Sx.Own.of_blk0 (base := w.heap.size) (size := 3) (n := 0) hna.blk (by omega) (by simp) (by decide) : Sx.Own wa w.heap.size T_impl_Money 3 (some ⟨r2, 0, none⟩) 0 0 []).pushM (m := kk) (mc := oc) (a := ⟨b, 0, none⟩) (news := xs.take (kk * 3)) hT (by omega) (fun j u hj => by
      have := ((seg wa hna.ext).take (kk * 3)) j u hj
      rw [addr_add]; exact this) (by simp; omega) (fun u hu => h1 u (List.mem_of_mem_take hu)) (by omega) (by decide)
    rw [Nat.zero_add, List.nil_append] at hO1
    rw [Nat.zero_add] at hA1
    have X14 : Ext W w14 := hna.ext.chg ch1 (by simp; omega)
    refine ⟨⟨by omega, by omega⟩, _, _, _, w14, hA1, _, _, _, _, _, (b4k w14 (hW.trans X14)).loadAAt 1 [.string s1, .bool s2, .slice sp sn sc] rfl (by kernel_rfl) rfl, ?_⟩
    have hmr : Reps w14 [.string s1, .bool s2, .slice sp sn sc] [.str s1, .bool s2, .ints sz] := ⟨rfl, hmR w14 (hW.trans X14)⟩
    refine Ret.at (spec_l17Money_c hmr rfl (by
      have := bulks_drop1 l[j]
      rw [hmon] at this
      omega)) ?_
    rintro v w15 ⟨vs, fx, hv, hox, ndx, y15⟩
    subst hv
    obtain ⟨m0, m1, mp, mn, mc, mz, rfl, _, _⟩ := open_Money hox.reps rfl
    refine ⟨_, _, _, _, _, rfl, ?_⟩
    intro r3 w16 hn16
    have e16 := hn16.r_eq; have z16 := hn16.size
    have l14 := X14.le; have l15 := y15.le
    have y16 := y15.trans hn16.ext
    have hg1l : g1 < w14.heap.size := by
      obtain ⟨_, _, hgp, _, hgb, _⟩ : ∃ b' ys, (some ⟨g1, 0, none⟩ : Option Addr) = some ⟨b', 0, none⟩ ∧ True ∧ Blk w14 b' T_impl_Money ys ∧ True := by
        rcases hO1.2 with ⟨e1, e2⟩ | ⟨g, cap, cu, e1, hB, hg, h3, h4, h5, h6⟩
        · simp at e1
        · simp only [Value.slice.injEq, Option.some.injEq, Addr.mk.injEq, and_true, true_and] at e1
          obtain ⟨rfl, rfl⟩ := e1
          exact ⟨g1, cu.toList, rfl, trivial, by cases cu; exact hg, trivial⟩
      simp only [Option.some.injEq, Addr.mk.injEq, and_true] at hgp
      subst hgp
      exact hgb.lt
    obtain ⟨g2, c2, w17, hA2, hO2, ch2, hg2⟩ := (hO1.ext y16).pushM (m := 1) (mc := 1) (a := ⟨r3, 0, none⟩) (news := [.string m0, .bool m1, .slice mp mn mc]) hT (by omega) (fun j u hj => by rw [addr_add, Nat.zero_add, hn16.blk.cell, hj]) rfl (by simp [Value.oneCell']) (by omega) (by decide)
    have hg1B : W.heap.size ≤ g1 := by rcases hg1 with h | h <;> omega
    have X17 : Ext W w17 := (X14.trans y16).chg ch2 (by simp; omega)
    refine ⟨_, _, _, w17, hA2, ⟨by omega, by omega⟩, ?_⟩
    obtain ⟨g3, c3, w18, hA3, hO3, ch3, hg3⟩ := hO2.pushM (m := on - kk) (mc := oc - kk) (a := if kk < oc then ⟨b, kk * 3, none⟩ else ⟨b, 0, none⟩) (news := xs.drop (kk * 3)) hT (by have := X17.le; omega) (fun j u hj => by
      have hkc : kk < oc := by
        have := (List.getElem?_eq_some_iff.1 hj).1
        simp at this; omega
      rw [if_pos hkc, addr_add]
      have := ((seg w17 X17).drop (kk * 3)) j u hj
      rwa [Nat.zero_add] at this) (by simp; omega) (fun u hu => h1 u (List.mem_of_mem_drop hu)) (by omega) (by decide)
    have hsub : Sx.sub (some ⟨b, 0, none⟩) kk oc 3 = some (if kk < oc then ⟨b, kk * 3, none⟩ else ⟨b, 0, none⟩) := by
      by_cases hk : kk < oc
      · rw [if_pos hk, subS hk]
      · rw [if_neg hk]
        have : kk = oc := by omega
        subst this
        simp [Sx.sub]
    have l16 := y16.le; have l17 := X17.le; have lc2 := ch2.size
    have hg2B : W.heap.size ≤ g2 := by rcases hg2 with h | h <;> omega
    have X18 : Ext W w18 := X17.chg ch3 (by simp; omega)
    have hfxl : ∀ q ∈ fx, w14.heap.size ≤ q ∧ q < w15.heap.size := hox.lt
    have hg2n : ∀ q ∈ fx, q ≠ g2 := fun q hq e => by
      have := hfxl q hq
      have := hn16.size
      rcases hg2 with h | h
      · omega
      · omega
    have hg3n : ∀ q ∈ fx, q ≠ g3 := fun q hq e => by
      have h1 := hfxl q hq
      rcases hg3 with h | h
      · exact hg2n q hq (by omega)
      · omega
    have hox18 : Owns w18 w.heap.size [.string m0, .bool m1, .slice mp mn mc] [.str s1, .bool s2, .ints sz] fx := (((hox.ext hn16.ext).chg ch2 (fun k hk hm => by
      have := hfxl k hk
      simp at hm; omega)).chg ch3 (fun k hk hm => hg2n k hk (by simp at hm; exact hm))).mono (by omega)
    rw [show kk + 1 + (on - kk) = on + 1 by omega] at hA3 hO3
    obtain ⟨f', hor, _⟩ := hins w18 (some ⟨g3, 0, none⟩) c3 _ _ fx hO3 X18.toChg (.inr (fun q hq => by simp at hq; rcases hg3 with h | h <;> omega)) rfl hox18 ndx (fun q hq hm => by have h1 := hfxl q hq; have h2 := (how.lt q hm).2; omega) (fun q hq e => hg3n q hq (by simp at e; omega))
    refine ⟨_, _, _, w18, by rw [hsub]; exact hA3, hR g3 (on + 1) c3 f' w18 ?_ (((X4.trans hxk).trans hW).trans X18)⟩
    rw [specTo_succ hjl]
    unfold stepD
    rw [hkey, hmon, if_neg (by rw [hhas]; simp), ← hpos]
    exact hor
  have hkl := keysOf_len (specTo l j)
  refine ifD (fun hlt2 => ?_) (fun hge2 => ⟨fun hh => absurd hh (by simp), fun _ => ⟨fun hh => absurd (of_decide_eq_true hh) hge2, fun _ => ?_⟩⟩)
  · have hkon : kk < on := by omega
    obtain ⟨b', xs, cs, zs, x, hxx, hpb, hxl, hblk, hrep, hcode⟩ := hrowK hkon
    simp only [Option.some.injEq, Addr.mk.injEq, and_true] at hpb
    subst hpb
    obtain ⟨k0, k1, kp, kn, kc, kz, rfl, hkd, _⟩ := open_Money hrep hcode
    have hks := keysOf_at hxx
    have hk0 : strOf x = k0 := by rw [hkd]; rfl
    rw [hk0] at hks
    have hld2 : ∀ W, Ext wk W → Loads P T_string (((⟨b, 0, none⟩ : Addr).add (kk * 3)).add 0) (.string k0) W := fun W hW => (hblk.ext hW).loadAt (kk * 3) (by rw [addr_add, addr_add, Nat.zero_add, Nat.add_zero]) (by kernel_rfl) (by rw [List.append_assoc, ← hxl, List.getElem?_append_right (Nat.le_refl _), Nat.sub_self]; rfl)
    rw [Int.toNat_natCast]
    refine ⟨⟨by omega, by omega⟩, _, fun W hW => hld2 W (hdk.trans hW), _, fun W hW => (b4k W (hdk.trans hW)).loadAt 1 rfl (by kernel_rfl) rfl, fun hl => exW ⟨by omega, by omega⟩ ⟨⟨kk + 1, rfl, by omega, fun a y hy ha => ?_, hxk.trans hdk⟩, by show on - ((kk : Int) + 1).toNat < on - (kk : Int).toNat; omega⟩, fun hnl => ?_⟩
    · by_cases hak : a < kk
      · exact hless a y hy hak
      · have : a = kk := by omega
        subst this
        rw [hks] at hy
        simp only [Option.some.injEq] at hy
        subst hy
        exact hl
    · have hpos : kk = posOf (keysOf (specTo l j)) s1 := posOf_unique (by omega) hless (fun y hy => by
        rw [hks] at hy
        simp only [Option.some.injEq] at hy
        subst hy
        exact hnl)
      refine ⟨fun _ => ⟨⟨by omega, by omega⟩, _, fun W hW => hld2 W (hdk2.trans hW), _, fun W hW => (b4k W (hdk2.trans hW)).loadAt 1 rfl (by kernel_rfl) rfl, ?_⟩, fun hh => absurd hkon (by have := of_decide_eq_false hh; omega)⟩
      have hhas : hasAt (keysOf (specTo l j)) s1 = decide (k0 = s1) := by
        unfold hasAt
        rw [← hpos, hks]
      unfold spec_l18Sums_j0
      refine ⟨fun hh => ?_, fun hh => ?_⟩
      · exact found wk.drew.drew hdk2 hpos (hhas.trans hh) (fun (p' : Option Addr) (n' c' : Nat) (W : World) => ∃ t76 : Int, t76 = IntKind.wrap .i64 ((j : Int) + 1) ∧ (∃ (j2 b2 : Nat) (f2 : List Nat), p' = some ⟨b2, 0, none⟩ ∧ t76 = j2 ∧ j2 ≤ n ∧ OwnRows W w.heap.size T_impl_Money 3 p' n' c' (specTo l j2) f2 ∧ Ext w W) ∧ n - t76.toNat < n - (j : Int).toNat) (fun g n' c' f' W h1 h2 => fin g n' c' f' W h1 h2)
      · unfold spec_l18Sums_j2
        intro r2 wa hna
        exact new wk.drew.drew hdk2 hpos (hhas.trans hh) r2 wa hna (fun (p' : Option Addr) (n' c' : Nat) (W : World) => ∃ t76 : Int, t76 = IntKind.wrap .i64 ((j : Int) + 1) ∧ (∃ (j2 b2 : Nat) (f2 : List Nat), p' = some ⟨b2, 0, none⟩ ∧ t76 = j2 ∧ j2 ≤ n ∧ OwnRows W w.heap.size T_impl_Money 3 p' n' c' (specTo l j2) f2 ∧ Ext w W) ∧ n - t76.toNat < n - (j : Int).toNat) (fun g n' c' f' W h1 h2 => fin g n' c' f' W h1 h2)
  · have hkon : kk = on := by omega
    have hpos : kk = posOf (keysOf (specTo l j)) s1 := posOf_unique (by omega) hless (fun y hy => by
      rw [List.getElem?_eq_none (by omega)] at hy; cases hy)
    have hhas : hasAt (keysOf (specTo l j)) s1 = false := by
      unfold hasAt
      rw [← hpos, List.getElem?_eq_none (by omega)]
    unfold spec_l18Sums_j3
    refine ⟨fun hh => absurd hh (by simp), fun _ => ?_⟩
    unfold spec_l18Sums_j4
    intro r2 wa hna
    exact new wk.drew.drew hdk2 hpos hhas r2 wa hna (fun (p' : Option Addr) (n' c' : Nat) (W : World) => ∃ t76 : Int, t76 = IntKind.wrap .i64 ((j : Int) + 1) ∧ (∃ (j2 b2 : Nat) (f2 : List Nat), p' = some ⟨b2, 0, none⟩ ∧ t76 = j2 ∧ j2 ≤ n ∧ OwnRows W w.heap.size T_impl_Money 3 p' n' c' (specTo l j2) f2 ∧ Ext w W) ∧ n - t76.toNat < n - (j : Int).toNat) (fun g n' c' f' W h1 h2 => fin g n' c' f' W h1 h2)
end Go.Proofs.YtdidocmbcfbjdaaDoor

namespace Go.Proofs.YtdidocmbcfbjdaaDoor
open Go Go.Proofs.YtdidocmbcfbjdaaDoor.Sx
set_option linter.unusedVariables false
set_option linter.unusedSimpArgs false
theorem impl_isZero_c {w : World} {xs : List Value} {s : ByteArray} {b : Bool} {z : List Int} (h : Reps w xs [.str s, .bool b, .ints z]) :
    Ret P n_impl_isZero [.agg ⟨xs⟩] w fun v w' => v = .bool (intOk [.bool b, .ints z] && decide (isign [.bool b, .ints z] = 0)) ∧ Ext w w' := by
  obtain ⟨a0, a1, a2p, a2n, a2c, a2z, rfl, hd, ha⟩ := open_Money h rfl
  cases hd
  refine impl_isZero_ret ?_
  unfold impl_isZero
  intro r w1 hn
  refine ⟨_, _, _, _, hn.blk.loadAAt 1 [.bool b, .slice a2p a2n a2c] rfl (by kernel_rfl) rfl, ?_⟩
  refine Ret.at (impl_IntOk_c (dx := [.bool b, .ints z]) ⟨rfl, ⟨_, _, _, rfl, ha.ext hn.ext⟩, trivial⟩ rfl) ?_
  rintro v w2 ⟨hv, y⟩
  subst hv
  have x := hn.ext.trans y
  refine ⟨_, rfl, fun e => ⟨_, _, _, (hn.blk.ext y).loadAt 2 rfl (by kernel_rfl) rfl, ?_, x⟩, fun e => ⟨by rw [e]; rfl, x⟩⟩
  rw [e]
  congr 1
  have hl := ha.1
  simp only [Bool.true_and, isign, e]
  cases z with
  | nil => simp at hl; simp [← hl]
  | cons q qs =>
    simp at hl
    cases b <;> simp [← hl] <;> omega
end Go.Proofs.YtdidocmbcfbjdaaDoor

namespace Go.Proofs.YtdidocmbcfbjdaaDoor
open Go Go.Proofs.YtdidocmbcfbjdaaDoor.Sx
set_option linter.unusedVariables false
set_option linter.unusedSimpArgs false
theorem enc_small8 {v : Int} (h : v.natAbs ≤ 8000000000000000000000000000000000000) : intOk (enc v) = true := by
  exact enc_small (by omega)
theorem isign_zero {v : Int} (h : v.natAbs ≤ 8000000000000000000000000000000000000) : isign (enc v) = 0 ↔ v = 0 := by
  rw [isign_enc (enc_small8 h)]
  constructor
  · intro hh
    split at hh
    · omega
    · split at hh
      · assumption
      · omega
  · intro hh; subst hh; rfl
theorem sums8 {l : List (List D0)} (hc : ∀ x ∈ l, x.map D0.code = [.str, .str, .bool, .ints]) (hok : legsOk l = true) : ∀ x ∈ sumsTo l l.length, x.2.natAbs ≤ 8000000000000000000000000000000000000 := fun x hx => by
  have h1 := sumsTo_bound hc hok l.length (Nat.le_refl _) x hx
  exact Nat.le_trans h1 (Nat.le_trans (Nat.mul_le_mul_right _ (legs_facts hok).2.1) (by decide))
theorem row_at {s : List (ByteArray × Int)} {j : Nat} (h : j < s.length) (h2 : j < (sumsRows s).length) : (sumsRows s)[j] = .str s[j].1 :: enc s[j].2 := by simp [sumsRows]
end Go.Proofs.YtdidocmbcfbjdaaDoor

namespace Go.Proofs.YtdidocmbcfbjdaaDoor
open Go Go.Proofs.YtdidocmbcfbjdaaDoor.Sx
set_option linter.unusedVariables false
set_option linter.unusedSimpArgs false
def sumOk (x : ByteArray × Int) : Bool := moneyOk (.str x.1 :: enc x.2)
def nz (s : List (ByteArray × Int)) : List (ByteArray × Int) := s.filter fun x => decide (x.2 ≠ 0)
def legSumsT (l : List (List D0)) : List (List D0) := if legsOk l && (sumsTo l l.length).all sumOk then sumsRows (nz (sumsTo l l.length)) else []
theorem nz_snoc (s : List (ByteArray × Int)) (x : ByteArray × Int) : nz (s ++ [x]) = if x.2 = 0 then nz s else nz s ++ [x] := by
  unfold nz
  rw [List.filter_append]
  by_cases h : x.2 = 0 <;> simp [h]
theorem legSumsT_code (l : List (List D0)) : ∀ x ∈ legSumsT l, x.map D0.code = [.str, .bool, .ints] := by
  unfold legSumsT
  split
  · exact sumsRows_code
  · intro x hx; simp at hx
theorem cntL_money : ∀ (s : List (ByteArray × Int)), (∀ x ∈ s, sumOk x = true) → cntL (sumsRows s) ≤ (s.length : Nat) * 6
  | [], _ => by simp [sumsRows, cntL]
  | x :: s, h => by
    have ih := cntL_money s (fun y hy => h y (List.mem_cons_of_mem _ hy))
    have hx := h x List.mem_cons_self
    have hl : (digs x.2.natAbs).length ≤ 4 := by
      have h' : (curKnown x.1 && intOk (enc x.2) && decide ((digs x.2.natAbs).length ≤ 4)) = true := hx
      rw [Bool.and_eq_true, decide_eq_true_eq] at h'
      exact h'.2
    have he : cntL (sumsRows (x :: s)) = cnts (.str x.1 :: enc x.2) + cntL (sumsRows s) := rfl
    rw [he]
    have hc : cnts (.str x.1 :: enc x.2) = 1 + (1 + (((digs x.2.natAbs).length : Nat) + 0)) := rfl
    rw [hc, List.length_cons]
    omega
theorem legSumsT_cnt (l : List (List D0)) : cntL (legSumsT l) ≤ 1000000000 := by
  unfold legSumsT
  split
  · rename_i h
    rw [Bool.and_eq_true, List.all_eq_true] at h
    have h1 := cntL_money (nz (sumsTo l l.length)) (fun x hx => h.2 x (List.mem_filter.1 hx).1)
    have h2 : (nz (sumsTo l l.length)).length ≤ (sumsTo l l.length).length := List.length_filter_le _ _
    have h3 := sumsTo_len l l.length (Nat.le_refl _)
    have h4 := (legs_facts h.1).2.1
    omega
  · decide
theorem flat_at {α : Type} {k : Nat} : ∀ {css : List (List α)}, (∀ c ∈ css, c.length = k) → ∀ (i : Nat) (cs : List α), css[i]? = some cs → (css.flatten.drop (i * k)).take k = cs
  | [], _, i, cs, h => by simp at h
  | c :: css, h, 0, cs, hi => by
    simp only [List.getElem?_cons_zero, Option.some.injEq] at hi
    subst hi
    rw [Nat.zero_mul, List.drop_zero, List.flatten_cons, List.take_left' (h c List.mem_cons_self)]
  | c :: css, h, i + 1, cs, hi => by
    have ih := flat_at (css := css) (fun d hd => h d (List.mem_cons_of_mem _ hd)) i cs (by simpa using hi)
    rw [List.flatten_cons, Nat.succ_mul, Nat.add_comm, ← h c List.mem_cons_self, List.drop_length_add_append, h c List.mem_cons_self]
    exact ih
theorem nodup_at {α : Type} {fs : List (List α)} (h : fs.flatten.Nodup) {j : Nat} {f : List α} (hj : fs[j]? = some f) : f.Nodup ∧ (∀ q ∈ f, q ∉ (fs.take j).flatten) ∧ (∀ q ∈ f, q ∈ fs.flatten) ∧ ∀ q ∈ f, q ∈ (fs.take (j + 1)).flatten := by
  have e := cons_at hj
  have h' := h
  rw [e, List.flatten_append, List.flatten_cons, List.nodup_append] at h'
  have h2 := h'.2.1
  rw [List.nodup_append] at h2
  have hm : ∀ q ∈ f, q ∈ fs.flatten := fun q hq => List.mem_flatten.2 ⟨f, List.mem_of_getElem? hj, hq⟩
  refine ⟨h2.1, fun q hq hm2 => h'.2.2 q hm2 q (List.mem_append_left _ hq) rfl, hm, fun q hq => ?_⟩
  rw [take_snoc hj, List.flatten_append, List.mem_append]
  exact .inr (by simpa using hq)
theorem take_sub {α : Type} {fs : List (List α)} {j : Nat} {q : α} (h : q ∈ (fs.take j).flatten) : q ∈ (fs.take (j + 1)).flatten := by
  obtain ⟨g, hg, hq⟩ := List.mem_flatten.1 h
  refine List.mem_flatten.2 ⟨g, ?_, hq⟩
  rw [show j = min j (j + 1) by omega, ← List.take_take] at hg
  exact List.mem_of_mem_take hg
/-- one row more: it is handed over from the list of sums -/
theorem hand_over {w : World} {B bo on oc r2 : Nat} {S : List (List D0)} {f fi : List Nat} {cs : List Value} {x : List D0} (ho : OwnRows w B T_impl_Money 3 (some ⟨bo, 0, none⟩) on oc S f) (hB : B ≤ w.heap.size) (hr2 : Blk w r2 T_impl_Money cs) (hk : cs.length = 3) (hw : Owns w B cs x fi) (hn : fi.Nodup) (hd : ∀ q ∈ fi, q ∉ f) (hsm : on ≤ 1000000)
    (hT : sliceT P T_s_impl_Money T_impl_Money (.agg ⟨[.string ByteArray.empty, .bool false, .slice none 0 0]⟩) 3 48) :
    ∃ g' c' w' f', Appends P [T_s_impl_Money, T_s_impl_Money] [.slice (some ⟨bo, 0, none⟩) on oc, .slice (some ⟨r2, 0, none⟩) 1 1] (.slice (some ⟨g', 0, none⟩) (on + 1) c') w w' ∧ OwnRows w' B T_impl_Money 3 (some ⟨g', 0, none⟩) (on + 1) c' (S ++ [x]) f' ∧ Chg [bo] w w' ∧ (g' = bo ∨ w.heap.size ≤ g') ∧ (∀ q ∈ f', q ∈ f ∨ q ∈ fi ∨ w.heap.size ≤ q) := by
  have hSl := ho.1
  obtain ⟨xs, hown, h1, hput⟩ := ho.ins (i := on) (Nat.le_refl _)
  have hxl := hown.len
  have hbf : bo ∈ f := by obtain ⟨_, _, _, _, _, hf, _⟩ := ho; rw [hf]; simp
  obtain ⟨g', c', w', hA, hO, hC, hg⟩ := hown.pushM (m := 1) (mc := 1) (a := ⟨r2, 0, none⟩) (news := cs) hT hB (fun j u hj => by rw [addr_add, Nat.zero_add, hr2.cell, hj]) (by rw [hk]) hw.reps.cells1 (by omega) (by decide)
  have hO' : Sx.Own w' B T_impl_Money 3 (some ⟨g', 0, none⟩) (on + 1) c' (xs.take (on * 3) ++ cs ++ xs.drop (on * 3)) := by
    rw [List.take_of_length_le (by omega), List.drop_of_length_le (by omega), List.append_nil]
    exact hO
  have hbo : ∀ q ∈ fi, q ≠ bo := fun q hq e => hd q hq (by rw [e]; exact hbf)
  obtain ⟨f', hor, hf'⟩ := hput w' (some ⟨g', 0, none⟩) c' cs x fi hO' hC (by
    rcases hg with h | h
    · exact .inl (by rw [h])
    · exact .inr (fun q hq => by simp at hq; omega)) hk (hw.chg hC (fun k hk hm => hbo k hk (by simpa using hm))) hn hd (fun q hq e => by
      simp at e
      rcases hg with h | h
      · exact hbo q hq (by omega)
      · have := (hw.lt q hq).2; omega)
  rw [List.take_of_length_le (by omega), List.drop_of_length_le (by omega)] at hor
  exact ⟨g', c', w', f', hA, hor, hC, hg, hf'⟩
theorem impl_LegSums_o {w : World} {p : Option Addr} {n c : Nat} {l : List (List D0)} (h : RowsR w 4 p n c l) (hc : ∀ x ∈ l, x.map D0.code = [.str, .str, .bool, .ints]) (hn : n ≤ 1048576) (hb : ∀ x ∈ l, bulks x ≤ 1048576) (ht : Tab w) :
    Ret P n_impl_LegSums [.slice p n c] w fun v w' => ∃ p' n' c' f, v = .slice p' n' c' ∧ OwnRows w' w.heap.size T_impl_Money 3 p' n' c' (legSumsT l) f ∧ Ext w w' := by
  have hln := h.1
  have hT := ins_sliceT_Money
  have none0 : ∀ W, legSumsT l = [] → OwnRows W w.heap.size T_impl_Money 3 none 0 0 (legSumsT l) [] := fun W he => by
    rw [he]; exact ⟨rfl, [], [], trivial, Own.nil _ _ _ _, by simp, by simp⟩
  refine impl_LegSums_ret ?_
  unfold impl_LegSums
  refine Ret.at (impl_LegsOk_c h hc hn hb ht) ?_
  rintro v w1 ⟨hv, y1⟩
  subst hv
  refine ⟨_, rfl, ifN (fun hno => ⟨none, 0, 0, [], rfl, none0 w1 (by unfold legSumsT; rw [hno]; rfl), y1⟩) (fun hok => ?_)⟩
  intro r w1' hn1
  have er := hn1.r_eq; have zr := hn1.size
  have y1' := y1.trans hn1.ext
  have ly1 := y1.le
  refine Ret.at (impl_legSums_o (h.ext y1') hc hok) ?_
  rintro v w2 ⟨p2, n2, c2, f2, hv, ho, y2⟩
  subst hv
  have hbr : Blk w2 r T_impl_Money [] := hn1.blk.ext y2
  have hor0 : OwnRows w2 w.heap.size T_impl_Money 3 (some ⟨r, 0, none⟩) 0 0 [] [r] := (OwnRows.fresh hn1 (by omega)).ext y2
  have ly2 := y2.le
  have hwr : r < w1'.heap.size := by omega
  have ho := ho
  have hf2 : ∀ q ∈ f2, w1'.heap.size ≤ q ∧ q < w2.heap.size := ho.lt
  have hsl := ho.1
  rw [sumsRows_len] at hsl
  have hsz := sums8 hc hok
  rw [hln] at hsz
  have hs2 := sumsTo_len l n (by omega)
  have hl8 := (legs_facts hok).2.1
  obtain ⟨_, css, fs, ha, hown, hf2e, hnd⟩ := ho
  obtain ⟨hclen, hcl, hfl⟩ := ha.lens
  have hnd' := hnd
  rw [hf2e] at hnd'
  have hnd2 := (List.nodup_append.1 hnd').2.1
  have hfm : ∀ q ∈ fs.flatten, q ∈ f2 := fun q hq => by rw [hf2e]; exact List.mem_append_right _ hq
  refine ⟨_, _, _, rfl, fun op on oc i wr => ∃ (j bo : Nat) (f : List Nat), op = some ⟨bo, 0, none⟩ ∧ i = j ∧ j ≤ n2 ∧ OwnRows wr w.heap.size T_impl_Money 3 op on oc (sumsRows (nz ((sumsTo l n).take j))) f ∧ (bo = r ∨ w2.heap.size ≤ bo) ∧ (∀ q ∈ f, q = r ∨ w2.heap.size ≤ q ∨ q ∈ (fs.take j).flatten) ∧ (∀ a (ha : a < (sumsTo l n).length), a < j → sumOk (sumsTo l n)[a] = true) ∧ Chg [r] w2 wr, fun _ _ _ i _ => n2 - i.toNat,
    ⟨0, r, [r], rfl, rfl, Nat.zero_le _, hor0, .inl rfl, fun q hq => .inl (by simpa using hq), fun a _ h => absurd h (by omega), Chg.refl _ _⟩, ?_⟩
  intro junk wr op on oc i ⟨j, bo, f, hop, hij, hj, hor, hbo, hfo, hall, hch⟩
  subst hij
  subst hop
  have X2 : Ext w w2 := y1'.trans y2
  have XR : Ext w wr := X2.chg hch (by simp; omega)
  have lch := hch.size
  refine ifD (fun hlt => ?_) (fun hge => ?_)
  rotate_left
  · have hjn : j = n2 := by omega
    subst hjn
    refine ⟨_, _, _, f, rfl, ?_, XR⟩
    rw [List.take_of_length_le (by omega)] at hor
    have : legSumsT l = sumsRows (nz (sumsTo l n)) := by
      unfold legSumsT
      rw [hln, hok, Bool.true_and, if_pos]
      rw [List.all_eq_true]
      intro x hx
      obtain ⟨a, ha', rfl⟩ := List.getElem_of_mem hx
      exact hall a ha' (by omega)
    rw [this]
    exact hor
  have hjn : j < n2 := by omega
  have hjs : j < (sumsTo l n).length := by omega
  have hrow : (sumsRows (sumsTo l n))[j]? = some (.str (sumsTo l n)[j].1 :: enc (sumsTo l n)[j].2) := by
    rw [List.getElem?_eq_getElem (by rw [sumsRows_len]; exact hjs), row_at hjs]
  obtain ⟨cs, fi, hcs, hfi, hk3, how⟩ := ha.focus j _ hrow
  obtain ⟨d1, d2, d3, d4⟩ := nodup_at hnd2 hfi
  obtain ⟨b2, hp2, _, hseg⟩ := hown.seg (by omega)
  have hbm : b2 ∈ f2 := by rw [hf2e, hp2]; simp
  subst hp2
  have hb2l := hf2 b2 hbm
  obtain ⟨ys, hbk, hytk⟩ : ∃ ys, Blk w2 b2 T_impl_Money ys ∧ ys.take (n2 * 3) = css.flatten := by
    obtain ⟨b, ys, hp, _, hbk, _, _, _, hy⟩ := hown.blk (by omega)
    simp only [Option.some.injEq, Addr.mk.injEq, and_true] at hp
    subst hp
    exact ⟨ys, hbk, hy⟩
  have hbkr : Blk wr b2 T_impl_Money ys := hbk.chg hch (by simp; omega)
  have hsegr : ∀ W, Ext wr W → Seg W b2 0 css.flatten := fun W hW => by
    have := ((hbkr.ext hW).seg).take (n2 * 3)
    rwa [hytk] at this
  have howr : Owns wr w1'.heap.size cs _ fi := how.chg hch (fun k hk hm => by
    have := hf2 k (hfm k (d3 k hk))
    simp at hm; omega)
  have hrep := howr.reps
  obtain ⟨k0, k1, kp, kn, kc, kz, rfl, hkd, hki⟩ := open_Money hrep rfl
  have hld : Loads P T_impl_Money ((⟨b2, 0, none⟩ : Addr).add (j * 3)) (.agg ⟨[.string k0, .bool k1, .slice kp kn kc]⟩) wr :=
    (hsegr wr (Ext.refl _)).loadAAt (j * 3) [.string k0, .bool k1, .slice kp kn kc] (by rw [addr_add]) (by kernel_rfl) (flat_at hclen j _ hcs)
  have hb2 := hsz _ (List.getElem_mem hjs)
  have hval : (sumsTo l n)[j] = ((sumsTo l n)[j].1, (sumsTo l n)[j].2) := rfl
  refine ⟨⟨by omega, by omega⟩, _, _, _, _, _, by rw [Int.toNat_natCast]; exact hld, ?_⟩
  intro r1 w3 hn3
  have e3 := hn3.r_eq
  obtain ⟨w4, st4, b4, y4⟩ := hn3.fill (P := P) (t := T_impl_Money) (xs := [.string k0, .bool k1, .slice kp kn kc]) (by simp [Value.oneCell']) (by kernel_rfl) rfl
  refine ⟨w4, st4, _, _, _, _, _, b4.loadA0 (by kernel_rfl), ?_⟩
  refine Ret.at (impl_MoneyOk_c (ht.ext (XR.trans y4)) (hrep.ext y4) rfl) ?_
  rintro v w5 ⟨hv, y5⟩
  subst hv
  have Y5 := y4.trans y5
  have hTs : legSumsT l = [] ∨ moneyOk (.str (sumsTo l n)[j].1 :: enc (sumsTo l n)[j].2) = true := by
    cases hm : moneyOk (.str (sumsTo l n)[j].1 :: enc (sumsTo l n)[j].2) with
    | true => exact .inr rfl
    | false =>
      left
      unfold legSumsT
      rw [if_neg]
      rw [hln, hok, Bool.true_and, List.all_eq_true]
      intro hal
      have := hal _ (List.getElem_mem hjs)
      rw [show sumOk (sumsTo l n)[j] = moneyOk (.str (sumsTo l n)[j].1 :: enc (sumsTo l n)[j].2) from rfl, hm] at this
      cases this
  refine ⟨_, rfl, ifN (fun hnm => ⟨none, 0, 0, [], rfl, none0 w5 ?_, XR.trans Y5⟩) (fun hm => ?_)⟩
  · rcases hTs with h1 | h1
    · exact h1
    · rw [hnm] at h1; cases h1
  have htk : (sumsTo l n).take (j + 1) = (sumsTo l n).take j ++ [(sumsTo l n)[j]] := List.take_succ_eq_append_getElem hjs
  have hall' : ∀ a (ha : a < (sumsTo l n).length), a < j + 1 → sumOk (sumsTo l n)[a] = true := fun a ha hlt2 => by
    by_cases haj : a < j
    · exact hall a ha haj
    · have : a = j := by omega
      subst this
      exact hm
  have fin0 : ∀ W, Ext wr W → (sumsTo l n)[j].2 = 0 → impl_LegSums_j0 wr (fun op on oc i wr => ∃ (j bo : Nat) (f : List Nat), op = some ⟨bo, 0, none⟩ ∧ i = j ∧ j ≤ n2 ∧ OwnRows wr w.heap.size T_impl_Money 3 op on oc (sumsRows (nz ((sumsTo l n).take j))) f ∧ (bo = r ∨ w2.heap.size ≤ bo) ∧ (∀ q ∈ f, q = r ∨ w2.heap.size ≤ q ∨ q ∈ (fs.take j).flatten) ∧ (∀ a (ha : a < (sumsTo l n).length), a < j → sumOk (sumsTo l n)[a] = true) ∧ Chg [r] w2 wr) (fun _ _ _ i _ => n2 - i.toNat) (some ⟨bo, 0, none⟩) on oc ((j : Nat) : Int) (some ⟨bo, 0, none⟩) on oc W (fun v w' => ∃ p' n' c' f, v = .slice p' n' c' ∧ OwnRows w' w.heap.size T_impl_Money 3 p' n' c' (legSumsT l) f ∧ Ext w w') := by
    intro W hW hz
    unfold impl_LegSums_j0
    refine exW ⟨by omega, by omega⟩ ⟨⟨j + 1, bo, f, rfl, rfl, by omega, ?_, hbo, fun q hq => ?_, hall', hch.trans hW.toChg⟩, by show n2 - ((j : Int) + 1).toNat < n2 - (j : Int).toNat; omega⟩
    · rw [htk, nz_snoc, if_pos hz]
      exact hor.ext hW
    · rcases hfo q hq with h | h | h
      · exact .inl h
      · exact .inr (.inl h)
      · exact .inr (.inr (take_sub h))
  have fin1 : ∀ W, Ext wr W → (sumsTo l n)[j].2 ≠ 0 → ∀ r2 wb, New W (.cells ⟨[.string k0, .bool k1, .slice kp kn kc]⟩ T_impl_Money (0, 0)) r2 wb → ∃ (q_p : Option Addr) (q_n : Nat) (q_c : Nat) (wv_9 : World), Appends P [T_s_impl_Money, T_s_impl_Money] [(.slice (some ⟨bo, 0, none⟩) on oc), (.slice (some ⟨r2, 0, none⟩) 1 1)] (.slice q_p q_n q_c) wb wv_9 ∧
      impl_LegSums_j0 wr (fun op on oc i wr => ∃ (j bo : Nat) (f : List Nat), op = some ⟨bo, 0, none⟩ ∧ i = j ∧ j ≤ n2 ∧ OwnRows wr w.heap.size T_impl_Money 3 op on oc (sumsRows (nz ((sumsTo l n).take j))) f ∧ (bo = r ∨ w2.heap.size ≤ bo) ∧ (∀ q ∈ f, q = r ∨ w2.heap.size ≤ q ∨ q ∈ (fs.take j).flatten) ∧ (∀ a (ha : a < (sumsTo l n).length), a < j → sumOk (sumsTo l n)[a] = true) ∧ Chg [r] w2 wr) (fun _ _ _ i _ => n2 - i.toNat) (some ⟨bo, 0, none⟩) on oc ((j : Nat) : Int) q_p q_n q_c wv_9 (fun v w' => ∃ p' n' c' f, v = .slice p' n' c' ∧ OwnRows w' w.heap.size T_impl_Money 3 p' n' c' (legSumsT l) f ∧ Ext w w') := by
    intro W hW hz r2 wb hnb
    have hWb := hW.trans hnb.ext
    have lWb := hWb.le
    have honl : on ≤ 8 := by
      have h1 := hor.1
      rw [sumsRows_len] at h1
      have h2 : (nz ((sumsTo l n).take j)).length ≤ ((sumsTo l n).take j).length := List.length_filter_le _ _
      have h3 : ((sumsTo l n).take j).length ≤ j := by simp; omega
      omega
    obtain ⟨g', c', w9, f', hA, hor9, hC, hg, hf'⟩ := hand_over (hor.ext hWb) (by have := XR.le; omega) hnb.blk rfl ((howr.ext hWb).mono (B' := w.heap.size) (by have := y1'.le; omega)) d1 (fun q hq hm => by
      have h1 := hf2 q (hfm q (d3 q hq))
      rcases hfo q hm with h | h | h
      · omega
      · omega
      · exact d2 q hq h) (by omega) hT
    refine ⟨_, _, _, w9, hA, ?_⟩
    unfold impl_LegSums_j0
    refine exW ⟨by omega, by omega⟩ ⟨⟨j + 1, g', f', rfl, rfl, by omega, ?_, ?_, fun q hq => ?_, hall', ?_⟩, by show n2 - ((j : Int) + 1).toNat < n2 - (j : Int).toNat; omega⟩
    · rw [htk, nz_snoc, if_neg hz]
      have e : sumsRows (nz ((sumsTo l n).take j) ++ [(sumsTo l n)[j]]) = sumsRows (nz ((sumsTo l n).take j)) ++ [.str (sumsTo l n)[j].1 :: enc (sumsTo l n)[j].2] := by simp [sumsRows]
      rw [e]
      exact hor9
    · rcases hg with h | h
      · rw [h]; exact hbo
      · exact .inr (by omega)
    · rcases hf' q hq with h | h | h
      · rcases hfo q h with h | h | h
        · exact .inl h
        · exact .inr (.inl h)
        · exact .inr (.inr (take_sub h))
      · exact .inr (.inr (d4 q h))
      · exact .inr (.inl (by omega))
    · have hc1 : Chg [r] w2 wb := hch.trans hWb.toChg
      refine ⟨hC.os.trans hc1.os, hC.tape.trans hc1.tape, hC.output.trans hc1.output, Nat.le_trans hc1.size hC.size, fun k hk hn => ?_⟩
      refine (hC.block k (Nat.lt_of_lt_of_le hk hc1.size) (fun hm => ?_)).trans (hc1.block k hk hn)
      simp at hm hn
      rcases hbo with h | h <;> omega
  refine ⟨_, _, _, _, _, (b4.ext y5).loadA0 (by kernel_rfl), ?_⟩
  refine Ret.at (impl_isZero_c (hrep.ext Y5 : Reps w5 _ (.str (sumsTo l n)[j].1 :: enc (sumsTo l n)[j].2))) ?_
  rintro v w6 ⟨hv, y6⟩
  subst hv
  have hzero : (intOk (enc (sumsTo l n)[j].2) && decide (isign (enc (sumsTo l n)[j].2) = 0)) = decide ((sumsTo l n)[j].2 = 0) := by
    rw [enc_small8 hb2, Bool.true_and, decide_eq_decide]
    exact isign_zero hb2
  refine ⟨_, rfl, ifN (fun hnz => ⟨_, _, _, _, _, ((b4.ext y5).ext y6).loadA0 (by kernel_rfl), ?_⟩) (fun hz0 => fin0 w6 (Y5.trans y6) (of_decide_eq_true (hzero.symm.trans hz0)))⟩
  exact fin1 w6 (Y5.trans y6) (of_decide_eq_false (hzero.symm.trans hnz))
theorem spec_LegSums_o {w : World} {p : Option Addr} {n c : Nat} {l : List (List D0)} (h : RowsR w 4 p n c l) (hc : ∀ x ∈ l, x.map D0.code = [.str, .str, .bool, .ints]) (hn : n ≤ 1048576) (hb : ∀ x ∈ l, bulks x ≤ 1048576) :
    Ret P n_spec_LegSums [.slice p n c] w fun v w' => ∃ p' n' c' f, v = .slice p' n' c' ∧ OwnRows w' w.heap.size T_impl_Money 3 p' n' c' (legSumsT l) f ∧ Ext w w' := by
  have hln := h.1
  have hT := ins_sliceT_Money
  have none0 : ∀ W, legSumsT l = [] → OwnRows W w.heap.size T_impl_Money 3 none 0 0 (legSumsT l) [] := fun W he => by
    rw [he]; exact ⟨rfl, [], [], trivial, Own.nil _ _ _ _, by simp, by simp⟩
  refine spec_LegSums_ret ?_
  unfold spec_LegSums
  intro r w0' hn1
  have er := hn1.r_eq; have zr := hn1.size
  refine Ret.at (spec_LegsOk_c (h.ext hn1.ext) hc hn hb) ?_
  rintro v w1' ⟨hv, y1⟩
  subst hv
  have y1' := hn1.ext.trans y1
  have ly1 := y1.le
  refine ⟨_, rfl, ifN (fun hno => ⟨none, 0, 0, [], rfl, none0 w1' (by unfold legSumsT; rw [hno]; rfl), y1'⟩) (fun hok => ?_)⟩
  refine Ret.at (spec_l18Sums_o (h.ext y1') hc hn hb) ?_
  rintro v w2 ⟨p2, n2, c2, f2, hv, ho, y2⟩
  subst hv
  rw [specTo_sums hc hok n (by omega)] at ho
  have hor0 : OwnRows w2 w.heap.size T_impl_Money 3 (some ⟨r, 0, none⟩) 0 0 [] [r] := (OwnRows.fresh hn1 (by omega)).ext (y1.trans y2)
  have ly2 := y2.le
  have hwr : r < w1'.heap.size := by omega
  have ho := ho
  have hf2 : ∀ q ∈ f2, w1'.heap.size ≤ q ∧ q < w2.heap.size := ho.lt
  have hsl := ho.1
  rw [sumsRows_len] at hsl
  have hsz := sums8 hc hok
  rw [hln] at hsz
  have hs2 := sumsTo_len l n (by omega)
  have hl8 := (legs_facts hok).2.1
  obtain ⟨_, css, fs, ha, hown, hf2e, hnd⟩ := ho
  obtain ⟨hclen, hcl, hfl⟩ := ha.lens
  have hnd' := hnd
  rw [hf2e] at hnd'
  have hnd2 := (List.nodup_append.1 hnd').2.1
  have hfm : ∀ q ∈ fs.flatten, q ∈ f2 := fun q hq => by rw [hf2e]; exact List.mem_append_right _ hq
  refine ⟨_, _, _, rfl, fun op on oc i wr => ∃ (j bo : Nat) (f : List Nat), op = some ⟨bo, 0, none⟩ ∧ i = j ∧ j ≤ n2 ∧ OwnRows wr w.heap.size T_impl_Money 3 op on oc (sumsRows (nz ((sumsTo l n).take j))) f ∧ (bo = r ∨ w2.heap.size ≤ bo) ∧ (∀ q ∈ f, q = r ∨ w2.heap.size ≤ q ∨ q ∈ (fs.take j).flatten) ∧ (∀ a (ha : a < (sumsTo l n).length), a < j → sumOk (sumsTo l n)[a] = true) ∧ Chg [r] w2 wr, fun _ _ _ i _ => n2 - i.toNat,
    ⟨0, r, [r], rfl, rfl, Nat.zero_le _, hor0, .inl rfl, fun q hq => .inl (by simpa using hq), fun a _ h => absurd h (by omega), Chg.refl _ _⟩, ?_⟩
  intro junk wr op on oc i ⟨j, bo, f, hop, hij, hj, hor, hbo, hfo, hall, hch⟩
  subst hij
  subst hop
  have X2 : Ext w w2 := y1'.trans y2
  have XR : Ext w wr := X2.chg hch (by simp; omega)
  have lch := hch.size
  refine ifD (fun hlt => ?_) (fun hge => ?_)
  rotate_left
  · have hjn : j = n2 := by omega
    subst hjn
    refine ⟨_, _, _, f, rfl, ?_, XR⟩
    rw [List.take_of_length_le (by omega)] at hor
    have : legSumsT l = sumsRows (nz (sumsTo l n)) := by
      unfold legSumsT
      rw [hln, hok, Bool.true_and, if_pos]
      rw [List.all_eq_true]
      intro x hx
      obtain ⟨a, ha', rfl⟩ := List.getElem_of_mem hx
      exact hall a ha' (by omega)
    rw [this]
    exact hor
  have hjn : j < n2 := by omega
  have hjs : j < (sumsTo l n).length := by omega
  have hrow : (sumsRows (sumsTo l n))[j]? = some (.str (sumsTo l n)[j].1 :: enc (sumsTo l n)[j].2) := by
    rw [List.getElem?_eq_getElem (by rw [sumsRows_len]; exact hjs), row_at hjs]
  obtain ⟨cs, fi, hcs, hfi, hk3, how⟩ := ha.focus j _ hrow
  obtain ⟨d1, d2, d3, d4⟩ := nodup_at hnd2 hfi
  obtain ⟨b2, hp2, _, hseg⟩ := hown.seg (by omega)
  have hbm : b2 ∈ f2 := by rw [hf2e, hp2]; simp
  subst hp2
  have hb2l := hf2 b2 hbm
  obtain ⟨ys, hbk, hytk⟩ : ∃ ys, Blk w2 b2 T_impl_Money ys ∧ ys.take (n2 * 3) = css.flatten := by
    obtain ⟨b, ys, hp, _, hbk, _, _, _, hy⟩ := hown.blk (by omega)
    simp only [Option.some.injEq, Addr.mk.injEq, and_true] at hp
    subst hp
    exact ⟨ys, hbk, hy⟩
  have hbkr : Blk wr b2 T_impl_Money ys := hbk.chg hch (by simp; omega)
  have hsegr : ∀ W, Ext wr W → Seg W b2 0 css.flatten := fun W hW => by
    have := ((hbkr.ext hW).seg).take (n2 * 3)
    rwa [hytk] at this
  have howr : Owns wr w1'.heap.size cs _ fi := how.chg hch (fun k hk hm => by
    have := hf2 k (hfm k (d3 k hk))
    simp at hm; omega)
  have hrep := howr.reps
  obtain ⟨k0, k1, kp, kn, kc, kz, rfl, hkd, hki⟩ := open_Money hrep rfl
  have hld : Loads P T_impl_Money ((⟨b2, 0, none⟩ : Addr).add (j * 3)) (.agg ⟨[.string k0, .bool k1, .slice kp kn kc]⟩) wr :=
    (hsegr wr (Ext.refl _)).loadAAt (j * 3) [.string k0, .bool k1, .slice kp kn kc] (by rw [addr_add]) (by kernel_rfl) (flat_at hclen j _ hcs)
  have hb2 := hsz _ (List.getElem_mem hjs)
  have hval : (sumsTo l n)[j] = ((sumsTo l n)[j].1, (sumsTo l n)[j].2) := rfl
  refine ⟨⟨by omega, by omega⟩, _, _, _, _, _, by rw [Int.toNat_natCast]; exact hld, ?_⟩
  intro r1 w3 hn3
  have e3 := hn3.r_eq
  obtain ⟨w4, st4, b4, y4⟩ := hn3.fill (P := P) (t := T_impl_Money) (xs := [.string k0, .bool k1, .slice kp kn kc]) (by simp [Value.oneCell']) (by kernel_rfl) rfl
  refine ⟨w4, st4, _, _, _, _, _, b4.loadA0 (by kernel_rfl), ?_⟩
  refine Ret.at (spec_MoneyOk_c (hrep.ext y4) rfl) ?_
  rintro v w5 ⟨hv, y5⟩
  subst hv
  have Y5 := y4.trans y5
  have hTs : legSumsT l = [] ∨ moneyOk (.str (sumsTo l n)[j].1 :: enc (sumsTo l n)[j].2) = true := by
    cases hm : moneyOk (.str (sumsTo l n)[j].1 :: enc (sumsTo l n)[j].2) with
    | true => exact .inr rfl
    | false =>
      left
      unfold legSumsT
      rw [if_neg]
      rw [hln, hok, Bool.true_and, List.all_eq_true]
      intro hal
      have := hal _ (List.getElem_mem hjs)
      rw [show sumOk (sumsTo l n)[j] = moneyOk (.str (sumsTo l n)[j].1 :: enc (sumsTo l n)[j].2) from rfl, hm] at this
      cases this
  refine ⟨_, rfl, ifN (fun hnm => ⟨none, 0, 0, [], rfl, none0 w5 ?_, XR.trans Y5⟩) (fun hm => ?_)⟩
  · rcases hTs with h1 | h1
    · exact h1
    · rw [hnm] at h1; cases h1
  have htk : (sumsTo l n).take (j + 1) = (sumsTo l n).take j ++ [(sumsTo l n)[j]] := List.take_succ_eq_append_getElem hjs
  have hall' : ∀ a (ha : a < (sumsTo l n).length), a < j + 1 → sumOk (sumsTo l n)[a] = true := fun a ha hlt2 => by
    by_cases haj : a < j
    · exact hall a ha haj
    · have : a = j := by omega
      subst this
      exact hm
  have fin0 : ∀ W, Ext wr W → (sumsTo l n)[j].2 = 0 → spec_LegSums_j0 wr (fun op on oc i wr => ∃ (j bo : Nat) (f : List Nat), op = some ⟨bo, 0, none⟩ ∧ i = j ∧ j ≤ n2 ∧ OwnRows wr w.heap.size T_impl_Money 3 op on oc (sumsRows (nz ((sumsTo l n).take j))) f ∧ (bo = r ∨ w2.heap.size ≤ bo) ∧ (∀ q ∈ f, q = r ∨ w2.heap.size ≤ q ∨ q ∈ (fs.take j).flatten) ∧ (∀ a (ha : a < (sumsTo l n).length), a < j → sumOk (sumsTo l n)[a] = true) ∧ Chg [r] w2 wr) (fun _ _ _ i _ => n2 - i.toNat) (some ⟨bo, 0, none⟩) on oc ((j : Nat) : Int) (some ⟨bo, 0, none⟩) on oc W (fun v w' => ∃ p' n' c' f, v = .slice p' n' c' ∧ OwnRows w' w.heap.size T_impl_Money 3 p' n' c' (legSumsT l) f ∧ Ext w w') := by
    intro W hW hz
    unfold spec_LegSums_j0
    refine exW ⟨by omega, by omega⟩ ⟨⟨j + 1, bo, f, rfl, rfl, by omega, ?_, hbo, fun q hq => ?_, hall', hch.trans hW.toChg⟩, by show n2 - ((j : Int) + 1).toNat < n2 - (j : Int).toNat; omega⟩
    · rw [htk, nz_snoc, if_pos hz]
      exact hor.ext hW
    · rcases hfo q hq with h | h | h
      · exact .inl h
      · exact .inr (.inl h)
      · exact .inr (.inr (take_sub h))
  have fin1 : ∀ W, Ext wr W → (sumsTo l n)[j].2 ≠ 0 → ∀ r2 wb, New W (.cells ⟨[.string k0, .bool k1, .slice kp kn kc]⟩ T_impl_Money (0, 0)) r2 wb → ∃ (q_p : Option Addr) (q_n : Nat) (q_c : Nat) (wv_9 : World), Appends P [T_s_impl_Money, T_s_impl_Money] [(.slice (some ⟨bo, 0, none⟩) on oc), (.slice (some ⟨r2, 0, none⟩) 1 1)] (.slice q_p q_n q_c) wb wv_9 ∧
      spec_LegSums_j0 wr (fun op on oc i wr => ∃ (j bo : Nat) (f : List Nat), op = some ⟨bo, 0, none⟩ ∧ i = j ∧ j ≤ n2 ∧ OwnRows wr w.heap.size T_impl_Money 3 op on oc (sumsRows (nz ((sumsTo l n).take j))) f ∧ (bo = r ∨ w2.heap.size ≤ bo) ∧ (∀ q ∈ f, q = r ∨ w2.heap.size ≤ q ∨ q ∈ (fs.take j).flatten) ∧ (∀ a (ha : a < (sumsTo l n).length), a < j → sumOk (sumsTo l n)[a] = true) ∧ Chg [r] w2 wr) (fun _ _ _ i _ => n2 - i.toNat) (some ⟨bo, 0, none⟩) on oc ((j : Nat) : Int) q_p q_n q_c wv_9 (fun v w' => ∃ p' n' c' f, v = .slice p' n' c' ∧ OwnRows w' w.heap.size T_impl_Money 3 p' n' c' (legSumsT l) f ∧ Ext w w') := by
    intro W hW hz r2 wb hnb
    have hWb := hW.trans hnb.ext
    have lWb := hWb.le
    have honl : on ≤ 8 := by
      have h1 := hor.1
      rw [sumsRows_len] at h1
      have h2 : (nz ((sumsTo l n).take j)).length ≤ ((sumsTo l n).take j).length := List.length_filter_le _ _
      have h3 : ((sumsTo l n).take j).length ≤ j := by simp; omega
      omega
    obtain ⟨g', c', w9, f', hA, hor9, hC, hg, hf'⟩ := hand_over (hor.ext hWb) (by have := XR.le; omega) hnb.blk rfl ((howr.ext hWb).mono (B' := w.heap.size) (by have := y1'.le; omega)) d1 (fun q hq hm => by
      have h1 := hf2 q (hfm q (d3 q hq))
      rcases hfo q hm with h | h | h
      · omega
      · omega
      · exact d2 q hq h) (by omega) hT
    refine ⟨_, _, _, w9, hA, ?_⟩
    unfold spec_LegSums_j0
    refine exW ⟨by omega, by omega⟩ ⟨⟨j + 1, g', f', rfl, rfl, by omega, ?_, ?_, fun q hq => ?_, hall', ?_⟩, by show n2 - ((j : Int) + 1).toNat < n2 - (j : Int).toNat; omega⟩
    · rw [htk, nz_snoc, if_neg hz]
      have e : sumsRows (nz ((sumsTo l n).take j) ++ [(sumsTo l n)[j]]) = sumsRows (nz ((sumsTo l n).take j)) ++ [.str (sumsTo l n)[j].1 :: enc (sumsTo l n)[j].2] := by simp [sumsRows]
      rw [e]
      exact hor9
    · rcases hg with h | h
      · rw [h]; exact hbo
      · exact .inr (by omega)
    · rcases hf' q hq with h | h | h
      · rcases hfo q h with h | h | h
        · exact .inl h
        · exact .inr (.inl h)
        · exact .inr (.inr (take_sub h))
      · exact .inr (.inr (d4 q h))
      · exact .inr (.inl (by omega))
    · have hc1 : Chg [r] w2 wb := hch.trans hWb.toChg
      refine ⟨hC.os.trans hc1.os, hC.tape.trans hc1.tape, hC.output.trans hc1.output, Nat.le_trans hc1.size hC.size, fun k hk hn => ?_⟩
      refine (hC.block k (Nat.lt_of_lt_of_le hk hc1.size) (fun hm => ?_)).trans (hc1.block k hk hn)
      simp at hm hn
      rcases hbo with h | h <;> omega
  refine ⟨_, _, _, _, (b4.ext y5).loadAAt 1 [.bool k1, .slice kp kn kc] rfl (by kernel_rfl) rfl, ?_⟩
  have hru : Reps w5 [.bool k1, .slice kp kn kc] (enc (sumsTo l n)[j].2) := (hrep.ext Y5).2
  refine Ret.at (spec_IntSign_c hru (enc_code _)) ?_
  rintro v w6 ⟨hv, y6⟩
  subst hv
  refine ⟨_, rfl, ifD (fun hnz => ⟨_, _, _, _, _, ((b4.ext y5).ext y6).loadA0 (by kernel_rfl), ?_⟩) (fun hz0 => fin0 w6 (Y5.trans y6) ((isign_zero hb2).1 (Decidable.not_not.1 hz0)))⟩
  exact fin1 w6 (Y5.trans y6) (fun e => hnz ((isign_zero hb2).2 e))
theorem impl_LegSums_c {w : World} {p : Option Addr} {n c : Nat} {l : List (List D0)} (h : RowsR w 4 p n c l) (hc : ∀ x ∈ l, x.map D0.code = [.str, .str, .bool, .ints]) (hn : n ≤ 1048576) (hb : ∀ x ∈ l, bulks x ≤ 1048576) (ht : Tab w) :
    Ret P n_impl_LegSums [.slice p n c] w fun v w' => ∃ p' n' c' f, v = .slice p' n' c' ∧ OwnRows w' w.heap.size T_impl_Money 3 p' n' c' (legSumsT l) f ∧ (∀ x ∈ legSumsT l, x.map D0.code = [.str, .bool, .ints]) ∧ cntL (legSumsT l) ≤ 1000000000 ∧ Ext w w' :=
  (impl_LegSums_o h hc hn hb ht).mono fun v w' ⟨p', n', c', f, hv, ho, hx⟩ => ⟨p', n', c', f, hv, ho, legSumsT_code l, legSumsT_cnt l, hx⟩
theorem spec_LegSums_c {w : World} {p : Option Addr} {n c : Nat} {l : List (List D0)} (h : RowsR w 4 p n c l) (hc : ∀ x ∈ l, x.map D0.code = [.str, .str, .bool, .ints]) (hn : n ≤ 1048576) (hb : ∀ x ∈ l, bulks x ≤ 1048576) :
    Ret P n_spec_LegSums [.slice p n c] w fun v w' => ∃ p' n' c', v = .slice p' n' c' ∧ RowsR w' 3 p' n' c' (legSumsT l) ∧ (∀ x ∈ legSumsT l, x.map D0.code = [.str, .bool, .ints]) ∧ Ext w w' :=
  (spec_LegSums_o h hc hn hb).mono fun v w' ⟨p', n', c', f, hv, ho, hx⟩ => ⟨p', n', c', hv, ho.rows, legSumsT_code l, hx⟩
end Go.Proofs.YtdidocmbcfbjdaaDoor

namespace Go.Proofs.YtdidocmbcfbjdaaDoor.Sx
open Go Go.RowKit
set_option linter.unusedVariables false
set_option linter.unusedSimpArgs false
theorem Fl.trans {os : List Obj} {ss : List (Option Nat)} {w : World} {s1 : List (Option Nat)} {w1 : World} {s2 : List (Option Nat)} {w2 : World} (h : Fl os ss w s1 w1) (g : Fl os s1 w1 s2 w2) : Fl os ss w s2 w2 := by
  induction h with
  | refl => exact g
  | step h1 h2 _ ih => exact .step h1 h2 (ih g)
theorem Fl.old {os : List Obj} {ss : List (Option Nat)} {w : World} {s1 : List (Option Nat)} {w1 : World} (h : Fl os ss w s1 w1) {k r : Nat} (hk : s1[k]? = some (some r)) : ss[k]? = some (some r) ∨ w.heap.size ≤ r := by
  induction h with
  | refl => exact .inl hk
  | step h1 h2 h3 ih =>
    rename_i ss w k' o s' w'
    have hs : (w.alloc o).heap.size = w.heap.size + 1 := by simp
    rcases ih hk with h | h
    · by_cases e : k' = k
      · subst e
        have hl : k' < ss.length := by
          rcases Nat.lt_or_ge k' ss.length with h | h
          · exact h
          · rw [List.getElem?_eq_none h] at h1; cases h1
        rw [List.getElem?_set_self hl] at h
        simp at h
        exact .inr (by omega)
      · rw [List.getElem?_set_ne e] at h
        exact .inl h
    · exact .inr (by omega)
def FlS (os : List Obj) (w0 : World) (ss : List (Option Nat)) (w : World) : Prop :=
  Ext w0 w ∧ (∀ (k r : Nat), ss[k]? = some (some r) → w0.heap.size ≤ r ∧ r < w.heap.size ∧ w.heap[r]? = os[k]?) ∧ (∀ (k l r : Nat), ss[k]? = some (some r) → ss[l]? = some (some r) → k = l)
theorem FlS.ext {os : List Obj} {w0 w w' : World} {ss : List (Option Nat)} (h : FlS os w0 ss w) (y : Ext w w') : FlS os w0 ss w' :=
  ⟨h.1.trans y, fun k r hk => by
    obtain ⟨a, b, c⟩ := h.2.1 k r hk
    exact ⟨a, Nat.lt_of_lt_of_le b y.le, (y.block r b).trans c⟩, h.2.2⟩
theorem FlS.step {os : List Obj} {w0 w w' : World} {ss ss' : List (Option Nat)} (h : FlS os w0 ss w) (f : Fl os ss w ss' w') : FlS os w0 ss' w' := by
  induction f with
  | refl => exact h
  | step h1 h2 h3 ih =>
    rename_i ss w k' o s' w'
    refine ih ?_
    have y : Ext w (w.alloc o) := (Below.refl _ _).alloc (Nat.le_refl _) _
    have hs : (w.alloc o).heap.size = w.heap.size + 1 := by simp
    have hg : (w.alloc o).heap[w.heap.size]? = some o := heap_alloc_new w _
    have hl : k' < ss.length := by
      rcases Nat.lt_or_ge k' ss.length with h | h
      · exact h
      · rw [List.getElem?_eq_none h] at h1; cases h1
    have hx := h.ext y
    have hle := h.1.le
    refine ⟨hx.1, fun k r hk => ?_, fun k l r hk hl' => ?_⟩
    · by_cases e : k' = k
      · subst e
        rw [List.getElem?_set_self hl] at hk
        simp at hk
        subst hk
        exact ⟨hle, by omega, hg.trans h2.symm⟩
      · rw [List.getElem?_set_ne e] at hk
        exact hx.2.1 k r hk
    · by_cases e : k' = k
      · by_cases e2 : k' = l
        · omega
        · subst e
          rw [List.getElem?_set_self hl] at hk
          simp at hk
          subst hk
          rw [List.getElem?_set_ne e2] at hl'
          have := (h.2.1 l _ hl').2.1
          omega
      · rw [List.getElem?_set_ne e] at hk
        by_cases e2 : k' = l
        · subst e2
          rw [List.getElem?_set_self hl] at hl'
          simp at hl'
          subst hl'
          have := (h.2.1 k _ hk).2.1
          omega
        · rw [List.getElem?_set_ne e2] at hl'
          exact h.2.2 k l r hk hl'
theorem FlS.first {os : List Obj} {w0 w : World} {ss0 ss : List (Option Nat)} (f : Fl os ss0 w0 ss w) (h : ss0.all Option.isNone = true) : FlS os w0 ss w := by
  refine FlS.step ⟨Ext.refl _, fun k r hk => ?_, fun k l r hk _ => ?_⟩ f <;>
  · have hm := List.mem_of_getElem? hk
    have := List.all_eq_true.1 h _ hm
    simp at this
theorem FlS.blk {os : List Obj} {w0 w : World} {ss : List (Option Nat)} {k r : Nat} {cs : List Value} {e : TypeId} (h : FlS os w0 ss w) (hk : ss[k]? = some (some r)) (ho : os[k]? = some (.cells ⟨cs⟩ e (0, 0))) : w0.heap.size ≤ r ∧ r < w.heap.size ∧ Blk w r e cs := by
  obtain ⟨a, b, c⟩ := h.2.1 k r hk
  exact ⟨a, b, c.trans ho⟩
theorem FlS.ne {os : List Obj} {w0 w : World} {ss : List (Option Nat)} {k l r s : Nat} (h : FlS os w0 ss w) (hk : ss[k]? = some (some r)) (hl : ss[l]? = some (some s)) (e : k ≠ l) : r ≠ s := fun hh => e (h.2.2 k l r hk (hh ▸ hl))
theorem FlS.apart {os : List Obj} {w0 wc we w' : World} {ss ss' : List (Option Nat)} {k r : Nat} (h : FlS os w0 ss wc) (f : Fl os ss we ss' w') (hk : ss'[k]? = some (some r)) : r < wc.heap.size ∨ we.heap.size ≤ r := by
  rcases f.old hk with a | a
  · exact .inl (h.2.1 k r a).2.1
  · exact .inr a
end Go.Proofs.YtdidocmbcfbjdaaDoor.Sx

namespace Go.Proofs.YtdidocmbcfbjdaaDoor
open Go Go.Proofs.YtdidocmbcfbjdaaDoor.Sx
set_option linter.unusedVariables false
set_option linter.unusedSimpArgs false
theorem laws_markMoneyS_c {w : World} {B : Nat} {e : TypeId} {p : Option Addr} {n c : Nat} {l : List (List D0)} {f : List Nat} {k : Int} (h : OwnRows w B e 3 p n c l f) (hc : ∀ x ∈ l, x.map D0.code = [.str, .bool, .ints]) (h0 : 0 ≤ k) (h1 : k + cntL l ≤ 1000000000000000000) :
    Ret P n_laws_markMoneyS [.slice p n c, .int .i64 k] w fun v w' => v = .int .i64 (k + cntL l) ∧ OwnRows w' B e 3 p n c (markL l k) f ∧ Chg f w w' := by
  have hz := h.1; have hcap := h.rows.2.1; have hcm := h.rows.2.2.1
  refine laws_markMoneyS_ret ?_
  unfold laws_markMoneyS
  refine ⟨fun k1 i wr => ∃ j : Nat, i = j ∧ j ≤ n ∧ k1 = k + cntL (l.take j) ∧ OwnRows wr B e 3 p n c (markL (l.take j) k ++ l.drop j) f ∧ Chg f w wr, fun _ i _ => n - i.toNat, ⟨0, rfl, by omega, by simp [cntL], by simpa [markL] using h, Chg.refl _ _⟩, ?_⟩
  intro junk wr k1 i ⟨j, hij, hj, hk1, ho, hch⟩
  subst hij
  refine ifD (fun hlt => ?_) (fun hge => ?_)
  · have hjl : j < l.length := by omega
    obtain ⟨x, hxe⟩ : ∃ x, l[j]? = some x := ⟨_, List.getElem?_eq_getElem hjl⟩
    have hcode := hc x (List.mem_of_getElem? hxe)
    obtain ⟨hct, hcle⟩ := cntL_row hxe
    have hcn := cntL_nonneg (l.take j)
    obtain ⟨b, xs, cs, zs, fi, hp, hB, hA, hk, blk, ow, ndf, hbf, hbm, hfm, back⟩ := ho.focus (markL_at hxe)
    subst hp
    obtain ⟨a0, us, es, rfl, rfl, ow2, hcode2⟩ := ow.consStr hcode
    clear ow hcode; have ow := ow2; have hcode := hcode2; clear ow2 hcode2
    obtain ⟨a1, us, es, rfl, rfl, ow2, hcode2⟩ := ow.consBool hcode
    clear ow hcode; have ow := ow2; have hcode := hcode2; clear ow2 hcode2
    obtain ⟨a2p, a2n, a2c, a2z, us, es, f2, rfl, rfl, rfl, o2, ow2, hcode2⟩ := ow.consInts hcode
    clear ow hcode; have ow := ow2; have hcode := hcode2; clear ow2 hcode2
    obtain ⟨rfl, rfl, rfl⟩ := ow.done hcode
    simp only [cnts, D0.cnt] at hct hcle
    have z2 : a2z.length = a2n := by have := o2.len; simpa using this
    have m2 : ∀ q, a2p.map (·.block) = some q → q ∈ ((a2p.map (·.block)).toList ++ ([] : List Nat)) := fun q hq => List.mem_append_left _ (mem_opt hq)
    have u2 : ∀ {W : World} {W2 : World} {zs : List Value}, Own W B T_int 1 a2p a2n a2c zs → Chg [b] W W2 → Own W2 B T_int 1 a2p a2n a2c zs := fun o ch => o.chg ch (fun q hq hm => hbf (List.mem_singleton.1 hm ▸ m2 q hq))
    have chT : Chg (b :: ((a2p.map (·.block)).toList ++ ([] : List Nat))) wr wr := Chg.refl _ _
    have sub1 : ∀ q ∈ [b], q ∈ b :: ((a2p.map (·.block)).toList ++ ([] : List Nat)) := fun q hq => by rw [List.mem_singleton.1 hq]; exact List.mem_cons_self
    refine Ret.at (laws_markText_c (by omega) _) ?_
    rintro v w1 ⟨hv, y⟩
    subst hv
    have blk := blk.ext y; have chT := chT.trans y.toChg
    have o2 := o2.ext y
    obtain ⟨w2, st, blk2, ch, sz⟩ := blk.storeMid (P := P) (t := T_string) (v := .string (mtext (k1))) hA 0 (by simp) (by kernel_rfl) rfl rfl
    have blk : Blk w2 b e (xs ++ [.string (mtext (k1)), .bool a1, .slice a2p a2n a2c] ++ zs) := blk2; clear blk2
    have chT := chT.trans (ch.mono sub1)
    have o2 := u2 o2 ch
    refine ⟨_, rfl, ⟨by omega, by omega⟩, w2, (by simp only [addr_add, Int.toNat_natCast, Nat.zero_add, Nat.add_zero]; exact st), exW ⟨by omega, by omega⟩ ?_⟩
    refine ⟨by decide, _, rfl, ⟨by omega, by omega⟩, ?_⟩
    rw [Int.tmod_eq_emod_of_nonneg (show (0 : Int) ≤ k1 + 1 by omega)]
    obtain ⟨w3, st, blk2, ch, sz⟩ := blk.storeMid (P := P) (t := T_bool) (v := .bool (decide ((k1 + 1) % 3 = 0))) hA 1 (by simp) (by kernel_rfl) rfl rfl
    have blk : Blk w3 b e (xs ++ [.string (mtext (k1)), .bool (decide ((k1 + 1) % 3 = 0)), .slice a2p a2n a2c] ++ zs) := blk2; clear blk2
    have chT := chT.trans (ch.mono sub1)
    have o2 := u2 o2 ch
    refine ⟨w3, (by simp only [addr_add, Int.toNat_natCast, Nat.zero_add, Nat.add_zero]; exact st), exW ⟨by omega, by omega⟩ ?_⟩
    refine ⟨⟨by omega, by omega⟩, _, _, _, (by simp only [addr_add, Int.toNat_natCast, Nat.zero_add, Nat.add_zero]; exact (blk.segMid hA).loadAt 2 rfl (by kernel_rfl) rfl), ?_⟩
    refine Ret.at (laws_markIntS_c o2 (by omega) (by omega)) ?_
    rintro v w4 ⟨hv, on, ch⟩
    subst hv
    have blk := blk.chg ch (fun hm => hbf (m2 _ (opt_mem hm)))
    have chT := chT.trans (ch.mono (fun q hq => List.mem_cons_of_mem _ (m2 q (opt_mem hq))))
    have o2 := on; clear on
    refine ⟨_, rfl, ?_⟩
    refine exW ⟨by omega, by omega⟩ ⟨⟨j + 1, by omega, by omega, by omega, ?_, hch.trans (chT.mono (fun q hq => ?_))⟩, ?_⟩
    · rw [← markL_set hxe, ← hk1]
      have e : marks [.str a0, .bool a1, .ints a2z] k1 = [.str (mtext (k1)), .bool (decide ((k1 + 1) % 3 = 0)), .ints (mkI a2n (k1 + 1 + 1))] := by simp only [marks, D0.mark, D0.cnt, z2] <;> rfl
      rw [e]
      exact back _ [.string (mtext (k1)), .bool (decide ((k1 + 1) % 3 = 0)), .slice a2p a2n a2c] _ chT rfl blk (Owns.append (Owns.str _ _ _) (Owns.append (Owns.bool _ _ _) (Owns.append (Owns.ints o2) (Owns.nil _ _))))
    · rcases List.mem_cons.1 hq with h | h
      · rw [h]; exact hbm
      · exact hfm q h
    · show n - ((j : Int) + 1).toNat < n - (j : Int).toNat
      omega
  · have hjn : j = n := by omega
    subst hjn
    rw [List.take_of_length_le (by omega), List.drop_of_length_le (by omega), List.append_nil] at ho
    rw [List.take_of_length_le (by omega)] at hk1
    exact ⟨by rw [hk1], ho, hch⟩
theorem laws_heldMoneyS_c {w : World} {p : Option Addr} {n c : Nat} {l : List (List D0)} {k : Int} (h : RowsR w 3 p n c (markL l k)) (hc : ∀ x ∈ l, x.map D0.code = [.str, .bool, .ints]) (h0 : 0 ≤ k) (h1 : k + cntL l ≤ 1000000000000000000) :
    Ret P n_laws_heldMoneyS [.slice p n c, .int .i64 k] w fun v w' => v = .int .i64 (k + cntL l) ∧ Ext w w' := by
  have hz : l.length = n := by have := h.1; rwa [markL_len] at this
  have hcap := h.2.1; have hcm := h.2.2.1
  refine laws_heldMoneyS_ret ?_
  unfold laws_heldMoneyS
  refine ⟨fun k1 i wr => ∃ j : Nat, i = j ∧ j ≤ n ∧ k1 = k + cntL (l.take j) ∧ Ext w wr, fun _ i _ => n - i.toNat, ⟨0, rfl, by omega, by simp [cntL], Ext.refl _⟩, ?_⟩
  intro junk wr k1 i ⟨j, hij, hj, hk1, hx⟩
  subst hij
  refine ifD (fun hlt => ?_) (fun hge => ?_)
  · have hjl : j < l.length := by omega
    obtain ⟨x, hxe⟩ : ∃ x, l[j]? = some x := ⟨_, List.getElem?_eq_getElem hjl⟩
    have hcode := hc x (List.mem_of_getElem? hxe)
    obtain ⟨hct, hcle⟩ := cntL_row hxe
    have hcn := cntL_nonneg (l.take j)
    obtain ⟨b, off, hp, hs⟩ := (h.ext hx).2.2.2 (by omega)
    subst hp
    obtain ⟨cs, hk, hr, hsg⟩ := hs j _ (markL_get l k j x hxe)
    rw [← hk1] at hr
    obtain ⟨s0, es, rfl, hcode2⟩ := code_str hcode
    clear hcode; have hcode := hcode2; clear hcode2
    obtain ⟨s1, es, rfl, hcode2⟩ := code_bool hcode
    clear hcode; have hcode := hcode2; clear hcode2
    obtain ⟨z2, es, rfl, hcode2⟩ := code_ints hcode
    clear hcode; have hcode := hcode2; clear hcode2
    have hn := code_nil hcode; subst hn
    simp only [marks, D0.mark, D0.cnt] at hr
    simp only [cnts, D0.cnt] at hct hcle
    obtain ⟨a0, us, es, rfl, hd, hr2, hc2⟩ := hr.str rfl
    cases hd
    clear hr hc2; have hr := hr2; clear hr2
    obtain ⟨a1, us, es, rfl, hd, hr2, hc2⟩ := hr.bool rfl
    cases hd
    clear hr hc2; have hr := hr2; clear hr2
    obtain ⟨a2p, a2n, a2c, a2z, us, es, rfl, hd, g2, hr2, hc2⟩ := hr.ints rfl
    cases hd
    clear hr hc2; have hr := hr2; clear hr2
    obtain ⟨hv, _⟩ := hr.done rfl
    subst hv
    have y2 : z2.length = a2n := by have := g2.1; rwa [mkI_len] at this
    rw [y2] at g2
    have X : Ext wr wr := Ext.refl _
    have D := Ext.drew wr; have X := X.trans D
    refine ⟨⟨by omega, by omega⟩, _, fun W' hW => (by simp only [addr_add, Int.toNat_natCast, Nat.zero_add, Nat.add_zero]; exact (hsg.ext (X.trans hW)).loadAt 0 rfl (by kernel_rfl) rfl), ?_⟩
    refine Ret.at (laws_markText_c (by omega) _) ?_
    rintro v w1 ⟨hv, y⟩
    subst hv
    have X := X.trans y
    refine ⟨_, rfl, y, ifD (fun hne => absurd rfl hne) (fun _ => exW ⟨by omega, by omega⟩ ?_)⟩
    refine ⟨⟨by omega, by omega⟩, _, (by simp only [addr_add, Int.toNat_natCast, Nat.zero_add, Nat.add_zero]; exact (hsg.ext X).loadAt 1 rfl (by kernel_rfl) rfl), by decide, _, rfl, ?_⟩
    rw [Int.tmod_eq_emod_of_nonneg (show (0 : Int) ≤ k1 + 1 by omega)]
    refine ⟨fun h => absurd h (bne_no rfl), fun _ => exW ⟨by omega, by omega⟩ ?_⟩
    refine ⟨⟨by omega, by omega⟩, _, _, _, (by simp only [addr_add, Int.toNat_natCast, Nat.zero_add, Nat.add_zero]; exact (hsg.ext X).loadAt 2 rfl (by kernel_rfl) rfl), ?_⟩
    refine Ret.at (laws_heldIntS_c (n := a2n) (k := k1 + 1 + 1) (by have := g2.ext X;  exact this) (by omega) (by omega)) ?_
    rintro v w2 ⟨hv, y⟩
    subst hv
    have X := X.trans y
    refine ⟨_, rfl, ifD (fun h => absurd h (by omega)) (fun _ => ?_)⟩
    refine exW ⟨by omega, by omega⟩ ⟨⟨j + 1, by omega, by omega, by omega, hx.trans X⟩, ?_⟩
    show n - ((j : Int) + 1).toNat < n - (j : Int).toNat
    omega
  · have hjn : j = n := by omega
    subst hjn
    rw [List.take_of_length_le (by omega)] at hk1
    exact ⟨by rw [hk1], hx⟩
theorem laws_markLegS_c {w : World} {B : Nat} {e : TypeId} {p : Option Addr} {n c : Nat} {l : List (List D0)} {f : List Nat} {k : Int} (h : OwnRows w B e 4 p n c l f) (hc : ∀ x ∈ l, x.map D0.code = [.str, .str, .bool, .ints]) (h0 : 0 ≤ k) (h1 : k + cntL l ≤ 1000000000000000000) :
    Ret P n_laws_markLegS [.slice p n c, .int .i64 k] w fun v w' => v = .int .i64 (k + cntL l) ∧ OwnRows w' B e 4 p n c (markL l k) f ∧ Chg f w w' := by
  have hz := h.1; have hcap := h.rows.2.1; have hcm := h.rows.2.2.1
  refine laws_markLegS_ret ?_
  unfold laws_markLegS
  refine ⟨fun k1 i wr => ∃ j : Nat, i = j ∧ j ≤ n ∧ k1 = k + cntL (l.take j) ∧ OwnRows wr B e 4 p n c (markL (l.take j) k ++ l.drop j) f ∧ Chg f w wr, fun _ i _ => n - i.toNat, ⟨0, rfl, by omega, by simp [cntL], by simpa [markL] using h, Chg.refl _ _⟩, ?_⟩
  intro junk wr k1 i ⟨j, hij, hj, hk1, ho, hch⟩
  subst hij
  refine ifD (fun hlt => ?_) (fun hge => ?_)
  · have hjl : j < l.length := by omega
    obtain ⟨x, hxe⟩ : ∃ x, l[j]? = some x := ⟨_, List.getElem?_eq_getElem hjl⟩
    have hcode := hc x (List.mem_of_getElem? hxe)
    obtain ⟨hct, hcle⟩ := cntL_row hxe
    have hcn := cntL_nonneg (l.take j)
    obtain ⟨b, xs, cs, zs, fi, hp, hB, hA, hk, blk, ow, ndf, hbf, hbm, hfm, back⟩ := ho.focus (markL_at hxe)
    subst hp
    obtain ⟨a0, us, es, rfl, rfl, ow2, hcode2⟩ := ow.consStr hcode
    clear ow hcode; have ow := ow2; have hcode := hcode2; clear ow2 hcode2
    obtain ⟨a1, us, es, rfl, rfl, ow2, hcode2⟩ := ow.consStr hcode
    clear ow hcode; have ow := ow2; have hcode := hcode2; clear ow2 hcode2
    obtain ⟨a2, us, es, rfl, rfl, ow2, hcode2⟩ := ow.consBool hcode
    clear ow hcode; have ow := ow2; have hcode := hcode2; clear ow2 hcode2
    obtain ⟨a3p, a3n, a3c, a3z, us, es, f3, rfl, rfl, rfl, o3, ow2, hcode2⟩ := ow.consInts hcode
    clear ow hcode; have ow := ow2; have hcode := hcode2; clear ow2 hcode2
    obtain ⟨rfl, rfl, rfl⟩ := ow.done hcode
    simp only [cnts, D0.cnt] at hct hcle
    have z3 : a3z.length = a3n := by have := o3.len; simpa using this
    have m3 : ∀ q, a3p.map (·.block) = some q → q ∈ ((a3p.map (·.block)).toList ++ ([] : List Nat)) := fun q hq => List.mem_append_left _ (mem_opt hq)
    have u3 : ∀ {W : World} {W2 : World} {zs : List Value}, Own W B T_int 1 a3p a3n a3c zs → Chg [b] W W2 → Own W2 B T_int 1 a3p a3n a3c zs := fun o ch => o.chg ch (fun q hq hm => hbf (List.mem_singleton.1 hm ▸ m3 q hq))
    have chT : Chg (b :: ((a3p.map (·.block)).toList ++ ([] : List Nat))) wr wr := Chg.refl _ _
    have sub1 : ∀ q ∈ [b], q ∈ b :: ((a3p.map (·.block)).toList ++ ([] : List Nat)) := fun q hq => by rw [List.mem_singleton.1 hq]; exact List.mem_cons_self
    refine Ret.at (laws_markText_c (by omega) _) ?_
    rintro v w1 ⟨hv, y⟩
    subst hv
    have blk := blk.ext y; have chT := chT.trans y.toChg
    have o3 := o3.ext y
    obtain ⟨w2, st, blk2, ch, sz⟩ := blk.storeMid (P := P) (t := T_string) (v := .string (mtext (k1))) hA 0 (by simp) (by kernel_rfl) rfl rfl
    have blk : Blk w2 b e (xs ++ [.string (mtext (k1)), .string a1, .bool a2, .slice a3p a3n a3c] ++ zs) := blk2; clear blk2
    have chT := chT.trans (ch.mono sub1)
    have o3 := u3 o3 ch
    refine ⟨_, rfl, ⟨by omega, by omega⟩, w2, (by simp only [addr_add, Int.toNat_natCast, Nat.zero_add, Nat.add_zero]; exact st), exW ⟨by omega, by omega⟩ ?_⟩
    refine Ret.at (laws_markText_c (by omega) _) ?_
    rintro v w3 ⟨hv, y⟩
    subst hv
    have blk := blk.ext y; have chT := chT.trans y.toChg
    have o3 := o3.ext y
    obtain ⟨w4, st, blk2, ch, sz⟩ := blk.storeMid (P := P) (t := T_string) (v := .string (mtext (k1 + 1))) hA 1 (by simp) (by kernel_rfl) rfl rfl
    have blk : Blk w4 b e (xs ++ [.string (mtext (k1)), .string (mtext (k1 + 1)), .bool a2, .slice a3p a3n a3c] ++ zs) := blk2; clear blk2
    have chT := chT.trans (ch.mono sub1)
    have o3 := u3 o3 ch
    refine ⟨_, rfl, ⟨by omega, by omega⟩, w4, (by simp only [addr_add, Int.toNat_natCast, Nat.zero_add, Nat.add_zero]; exact st), exW ⟨by omega, by omega⟩ ?_⟩
    refine ⟨by decide, _, rfl, ⟨by omega, by omega⟩, ?_⟩
    rw [Int.tmod_eq_emod_of_nonneg (show (0 : Int) ≤ k1 + 1 + 1 by omega)]
    obtain ⟨w5, st, blk2, ch, sz⟩ := blk.storeMid (P := P) (t := T_bool) (v := .bool (decide ((k1 + 1 + 1) % 3 = 0))) hA 2 (by simp) (by kernel_rfl) rfl rfl
    have blk : Blk w5 b e (xs ++ [.string (mtext (k1)), .string (mtext (k1 + 1)), .bool (decide ((k1 + 1 + 1) % 3 = 0)), .slice a3p a3n a3c] ++ zs) := blk2; clear blk2
    have chT := chT.trans (ch.mono sub1)
    have o3 := u3 o3 ch
    refine ⟨w5, (by simp only [addr_add, Int.toNat_natCast, Nat.zero_add, Nat.add_zero]; exact st), exW ⟨by omega, by omega⟩ ?_⟩
    refine ⟨⟨by omega, by omega⟩, _, _, _, (by simp only [addr_add, Int.toNat_natCast, Nat.zero_add, Nat.add_zero]; exact (blk.segMid hA).loadAt 3 rfl (by kernel_rfl) rfl), ?_⟩
    refine Ret.at (laws_markIntS_c o3 (by omega) (by omega)) ?_
    rintro v w6 ⟨hv, on, ch⟩
    subst hv
    have blk := blk.chg ch (fun hm => hbf (m3 _ (opt_mem hm)))
    have chT := chT.trans (ch.mono (fun q hq => List.mem_cons_of_mem _ (m3 q (opt_mem hq))))
    have o3 := on; clear on
    refine ⟨_, rfl, ?_⟩
    refine exW ⟨by omega, by omega⟩ ⟨⟨j + 1, by omega, by omega, by omega, ?_, hch.trans (chT.mono (fun q hq => ?_))⟩, ?_⟩
    · rw [← markL_set hxe, ← hk1]
      have e : marks [.str a0, .str a1, .bool a2, .ints a3z] k1 = [.str (mtext (k1)), .str (mtext (k1 + 1)), .bool (decide ((k1 + 1 + 1) % 3 = 0)), .ints (mkI a3n (k1 + 1 + 1 + 1))] := by simp only [marks, D0.mark, D0.cnt, z3] <;> rfl
      rw [e]
      exact back _ [.string (mtext (k1)), .string (mtext (k1 + 1)), .bool (decide ((k1 + 1 + 1) % 3 = 0)), .slice a3p a3n a3c] _ chT rfl blk (Owns.append (Owns.str _ _ _) (Owns.append (Owns.str _ _ _) (Owns.append (Owns.bool _ _ _) (Owns.append (Owns.ints o3) (Owns.nil _ _)))))
    · rcases List.mem_cons.1 hq with h | h
      · rw [h]; exact hbm
      · exact hfm q h
    · show n - ((j : Int) + 1).toNat < n - (j : Int).toNat
      omega
  · have hjn : j = n := by omega
    subst hjn
    rw [List.take_of_length_le (by omega), List.drop_of_length_le (by omega), List.append_nil] at ho
    rw [List.take_of_length_le (by omega)] at hk1
    exact ⟨by rw [hk1], ho, hch⟩
end Go.Proofs.YtdidocmbcfbjdaaDoor

namespace Go.Proofs.YtdidocmbcfbjdaaDoor
open Go Go.Proofs.YtdidocmbcfbjdaaDoor.Sx
set_option linter.unusedVariables false
set_option linter.unusedSimpArgs false
set_option maxHeartbeats 4000000
theorem laws_FnExactLegSums_c {w : World} {p0 : Option Addr} {n0 c0 : Nat} {l0 : List (List D0)} (h0 : RowsR w 4 p0 n0 c0 l0) (hc0 : ∀ x ∈ l0, x.map D0.code = [.str, .str, .bool, .ints]) (hk0 : ∀ x ∈ l0, ∀ d ∈ x, d.ok) (ht : Tab w) :
    Ret P n_laws_FnExactLegSums [.slice p0 n0 c0] w fun v w' => v = .bool true ∧ Ext w w' := by
  refine laws_FnExactLegSums_ret ?_
  unfold laws_FnExactLegSums
  have x : Ext w w := Ext.refl w
  refine Ret.at (laws_szLegS_c (h0.ext x) hc0 hk0 (by omega) (by omega)) ?_
  rintro v W1 ⟨k0, hv, hs0, hm0, y⟩
  subst hv
  replace x := x.trans y
  have ll1 := y.le
  refine ⟨_, rfl, ifD (fun _ => ⟨rfl, x⟩) (fun hp0 => ?_)⟩
  have hs0 := hs0 (by omega)
  have hb0 : ∀ y ∈ l0, bulks y ≤ 1048576 := fun y hy => by have := bulks_le hy; omega
  have hz0 : n0 ≤ 1048576 := by omega
  have hsum0 : (l0.map bulks).sum ≤ 1048576 := by omega
  refine Ret.at (laws_toLegS_c (h0.ext x) hc0 hz0 hb0) ?_
  rintro v W2 ⟨p_s0, c_s0, f_s0, hv, o_s0, y⟩
  subst hv
  have lt_o_s0 : ∀ k ∈ f_s0, W1.heap.size ≤ k ∧ k < W2.heap.size := o_s0.lt
  have yy := y
  replace x := x.trans y
  have ll2 := y.le
  refine ⟨_, _, _, rfl, ?_⟩
  refine Ret.at (spec_LegSums_c o_s0.rows hc0 hz0 hb0) ?_
  rintro v W3 ⟨p_w0, m_w0, c_w0, hv, o_w0, co_w0, y⟩
  subst hv
  replace x := x.trans y
  have ll3 := y.le
  have xS := Ext.refl W3
  refine ⟨_, _, _, rfl, ?_⟩
  refine Ret.at (laws_toLegS_c (h0.ext x) hc0 hz0 hb0) ?_
  rintro v W4 ⟨p_x0, c_x0, f_x0, hv, o_x0, y⟩
  subst hv
  have lt_o_x0 : ∀ k ∈ f_x0, W3.heap.size ≤ k ∧ k < W4.heap.size := o_x0.lt
  replace x := x.trans y
  replace xS := xS.trans y
  have ll4 := y.le
  refine ⟨_, _, _, rfl, ?_⟩
  refine Ret.at (impl_LegSums_c o_x0.rows hc0 hz0 hb0 (ht.ext x)) ?_
  rintro v W5 ⟨p_g0, m_g0, c_g0, f_g0, hv, o_g0, co_g0, ct_g0, y⟩
  subst hv
  have tn_g0 := cntL_nn ct_g0
  have lt_o_g0 : ∀ k ∈ f_g0, W4.heap.size ≤ k ∧ k < W5.heap.size := o_g0.lt
  replace x := x.trans y
  replace xS := xS.trans y
  replace o_x0 := o_x0.ext y
  have ll5 := y.le
  refine ⟨_, _, _, rfl, ?_⟩
  refine Ret.at (laws_eqMoneyS_c o_g0.rows (o_w0.ext xS) co_g0 co_w0) ?_
  rintro v W6 ⟨hv, y⟩
  subst hv
  replace x := x.trans y
  replace xS := xS.trans y
  replace o_x0 := o_x0.ext y
  replace o_g0 := o_g0.ext y
  have ll6 := y.le
  refine ⟨_, rfl, ifN (fun h => absurd h (by simp)) (fun _ => ?_)⟩
  refine Ret.at (laws_toLegS_c (h0.ext x) hc0 hz0 hb0) ?_
  rintro v W7 ⟨p_y0, c_y0, f_y0, hv, o_y0, y⟩
  subst hv
  have lt_o_y0 : ∀ k ∈ f_y0, W6.heap.size ≤ k ∧ k < W7.heap.size := o_y0.lt
  have y2 := y
  replace x := x.trans y
  replace xS := xS.trans y
  replace o_x0 := o_x0.ext y
  replace o_g0 := o_g0.ext y
  have ll7 := y.le
  refine ⟨_, _, _, rfl, ?_⟩
  refine Ret.at (laws_eqLegS_c o_x0.rows o_y0.rows hc0 hc0) ?_
  rintro v W8 ⟨hv, y⟩
  subst hv
  replace x := x.trans y
  replace xS := xS.trans y
  replace o_x0 := o_x0.ext y
  replace o_g0 := o_g0.ext y
  have ll8 := y.le
  refine ⟨_, rfl, ifN (fun h => absurd h (by simp)) (fun _ => ?_)⟩
  have cn0 := cntL_nonneg l0; have cb0 := cntL_le l0 (m := 4) (fun y hy => by rw [code_len (hc0 y hy)]; decide)
  have cl0 : cntL l0 ≤ 100000000 := by have := h0.1; omega
  refine Ret.at (laws_markLegS_c o_x0 hc0 (by omega) (by omega)) ?_
  rintro v W9 ⟨hv, on, ch⟩
  subst hv
  replace x := x.chg ch (fun k hk => by have := lt_o_x0 k hk; omega)
  replace xS := xS.chg ch (fun k hk => by have := lt_o_x0 k hk; omega)
  replace o_g0 := o_g0.chg ch (fun k hk hm => by have h1 := lt_o_g0 k hk; have h2 := lt_o_x0 k hm; omega)
  have ll9 := ch.size
  replace o_x0 := on; clear on
  refine ⟨_, rfl, ?_⟩
  refine ifD (fun h => absurd h (by omega)) (fun _ => ?_)
  refine Ret.at (laws_eqMoneyS_c o_g0.rows (o_w0.ext xS) co_g0 co_w0) ?_
  rintro v W10 ⟨hv, y⟩
  subst hv
  replace x := x.trans y
  replace xS := xS.trans y
  replace o_x0 := o_x0.ext y
  replace o_g0 := o_g0.ext y
  have ll10 := y.le
  refine ⟨_, rfl, ifN (fun h => absurd h (by simp)) (fun _ => ?_)⟩
  unfold laws_FnExactLegSums_j0
  refine Ret.at (laws_markMoneyS_c o_g0 co_g0 (by omega) (by omega)) ?_
  rintro v W11 ⟨hv, on, ch⟩
  subst hv
  replace x := x.chg ch (fun k hk => by have := lt_o_g0 k hk; omega)
  replace xS := xS.chg ch (fun k hk => by have := lt_o_g0 k hk; omega)
  replace o_x0 := o_x0.chg ch (fun k hk hm => by have h1 := lt_o_x0 k hk; have h2 := lt_o_g0 k hm; omega)
  have ll11 := ch.size
  replace o_g0 := on; clear on
  refine ⟨_, rfl, ?_⟩
  refine Ret.at (laws_heldMoneyS_c o_g0.rows co_g0 (by omega) (by omega)) ?_
  rintro v W12 ⟨hv, y⟩
  subst hv
  replace x := x.trans y
  replace xS := xS.trans y
  replace o_x0 := o_x0.ext y
  replace o_g0 := o_g0.ext y
  have ll12 := y.le
  refine ⟨_, rfl, ifD (fun h => absurd h (by omega)) (fun _ => ?_)⟩
  refine ifD (fun h => absurd rfl h) (fun _ => ?_)
  refine Ret.at (laws_toLegS_c (h0.ext x) hc0 hz0 hb0) ?_
  rintro v W13 ⟨p_h0, c_h0, f_h0, hv, o_h0, y⟩
  subst hv
  have lt_o_h0 : ∀ k ∈ f_h0, W12.heap.size ≤ k ∧ k < W13.heap.size := o_h0.lt
  have yy := y
  replace x := x.trans y
  replace xS := xS.trans y
  replace o_x0 := o_x0.ext y
  replace o_g0 := o_g0.ext y
  have ll13 := y.le
  refine ⟨_, _, _, rfl, ?_⟩
  refine Ret.at (impl_LegSums_c o_h0.rows hc0 hz0 hb0 (ht.ext x)) ?_
  rintro v W14 ⟨p_h0, m_h0, c_h0, f_h0, hv, o_h0, co_h0, ct_h0, y⟩
  subst hv
  have tn_h0 := cntL_nn ct_h0
  have lt_o_h0 : ∀ k ∈ f_h0, W13.heap.size ≤ k ∧ k < W14.heap.size := o_h0.lt
  replace x := x.trans y
  replace xS := xS.trans y
  replace o_x0 := o_x0.ext y
  replace o_g0 := o_g0.ext y
  have ll14 := y.le
  refine ⟨_, _, _, rfl, ?_⟩
  refine Ret.at (laws_eqMoneyS_c o_h0.rows (o_w0.ext xS) co_h0 co_w0) ?_
  rintro v W15 ⟨hv, y⟩
  subst hv
  replace x := x.trans y
  replace xS := xS.trans y
  replace o_x0 := o_x0.ext y
  replace o_g0 := o_g0.ext y
  replace o_h0 := o_h0.ext y
  have ll15 := y.le
  refine ⟨_, rfl, ifN (fun h => absurd h (by simp)) (fun _ => ?_)⟩
  refine Ret.at (laws_heldMoneyS_c o_g0.rows co_g0 (by omega) (by omega)) ?_
  rintro v W16 ⟨hv, y⟩
  subst hv
  replace x := x.trans y
  replace xS := xS.trans y
  replace o_x0 := o_x0.ext y
  replace o_g0 := o_g0.ext y
  replace o_h0 := o_h0.ext y
  have ll16 := y.le
  refine ⟨_, rfl, ifD (fun h => absurd h (by omega)) (fun _ => ?_)⟩
  refine ifD (fun h => absurd rfl h) (fun _ => ?_)
  exact ⟨rfl, x⟩
end Go.Proofs.YtdidocmbcfbjdaaDoor

namespace Go.Proofs.YtdidocmbcfbjdaaDoor.Sx
open Go Go.RowKit Go.ChangeShapes Go.WideShapes
set_option linter.unusedVariables false
set_option linter.unusedSimpArgs false
/-- each named variable's type can be read and is a row of the table -/
def rowedV (P : Program) (ns : List String) : Bool := ns.all fun n => ((P.globalNamed n).bind (P.globals[·]?)).all fun gl => P.readableRec gl.type && decide (gl.type < P.types.size)
section
variable {H : Type} {enc : TypeId × Value → H} {P : Program}
theorem trodAll_ext (hl : laidOutB P = true) {W W' : World} (hb : Ext W W') (sp' : Nat → Bool) : ∀ {ts : List TypeId} {vs : List Value} {ds : List (DataW H)} {ps : List MemPlace},
    (∀ t ∈ ts, P.readableRec t = true ∧ t < P.types.size) → (∀ p ∈ ps, p.block < W.heap.size) → (∀ p ∈ ps, sp' p.block = true) →
    DataW.TrodAll enc P W 0 (fun _ => true) true ts vs ds ps → DataW.TrodAll enc P W' 0 sp' true ts vs ds ps
  | [], _, _, _, _, _, _, h => by
    obtain ⟨rfl, rfl, rfl⟩ := trodAll_nil h
    exact rfl
  | t :: ts, _, _, _, hr, hlt, hsp, h => by
    obtain ⟨v, vs1, d, ds1, a, b, rfl, rfl, rfl, h1, h2⟩ := trodAll_cons h
    have hrt := hr t (by simp)
    exact ⟨a, b, WideElems.Trod_stays hl hrt.1 hrt.2 h1 (fun x hx => Below.same hb (hlt x (by simp [hx]))) (fun x hx => hsp x (by simp [hx])),
      trodAll_ext hl hb sp' (fun u hu => hr u (by simp [hu])) (fun x hx => hlt x (by simp [hx])) (fun x hx => hsp x (by simp [hx])) h2, rfl⟩
theorem trodVars_sp (hl : laidOutB P = true) {W W' : World} (hb : Ext W W') (sp' : Nat → Bool) :
    ∀ {ns : List String} {gs : List (DataW H)} {ps : List MemPlace}, rowedV P ns = true → (∀ p ∈ ps, sp' p.block = true) → DataW.TrodVars enc P W (fun _ => true) ns gs ps → DataW.TrodVars enc P W' sp' ns gs ps
  | [], [], _, _, _, h => h
  | [], _ :: _, _, _, _, h => h.elim
  | _ :: _, [], _, _, _, h => h.elim
  | n :: ns, d :: ds, ps, hv, hsp, h => by
    have hlt := h.lt
    obtain ⟨g, t, cs, fuel, p, q, h1, h2, h3, h4, hs, e⟩ := h
    simp only [rowedV, List.all_cons, Bool.and_eq_true] at hv
    have ht : P.readableRec t = true ∧ t < P.types.size := by
      have := hv.1
      rw [h1] at this
      cases hg : P.globals[g]? with
      | none => rw [hg] at h2; cases h2
      | some gl =>
        rw [hg] at h2
        obtain rfl : gl.type = t := Option.some.inj h2
        simpa [hg] using this
    have hp : ∀ x ∈ p, x.block < W.heap.size := fun x hx => hlt x (by rw [e]; simp [hx])
    have h3' : W'.var? P n = some cs := by
      unfold World.var? at h3 ⊢
      rw [h1] at h3 ⊢
      simp only [Option.bind_some] at h3 ⊢
      have hg : g < W.heap.size := by
        cases hh : W.heap[g]? with
        | none => rw [hh] at h3; cases h3
        | some o => exact (Array.getElem?_eq_some_iff.1 hh).1
      rw [hb.block g hg]; exact h3
    exact ⟨g, t, cs, fuel, p, q, h1, h2, h3', DataW.trod_stays (kids_book hl ht.1) (book_sized ht.1) (fun h => by cases h) ⟨ht.2, book_self t⟩ h4 (fun x hx => Below.same hb (hp x hx)) (fun x hx => hsp x (by rw [e]; simp [hx])),
      trodVars_sp hl hb sp' (by simpa [rowedV] using hv.2) (fun x hx => hsp x (by rw [e]; simp [hx])) hs, e⟩
/-- what the row asks of a law that answered true in a world with more behind it -/
theorem post_of_ext {f : Func} {s : ChangeSpec} {apart fresh handsOn again : Bool} {W W' : World} {args : Array Value} {ds gs : List (DataW H)} {before : List MemPlace} {tb : TypeId}
    (hl : laidOutB P = true) (hpar : ∀ t ∈ f.params.toList, P.readableRec t = true ∧ t < P.types.size) (hvr : rowedV P s.vars = true)
    (hrt : f.resultTypes = #[tb]) (htb : P.underlying tb = some .bool)
    (hW : DataW.Whole enc P f.params.toList s.vars apart W args.toList ds gs before) (hx : Ext W W')
    (hfn : s.fn H (ds ++ gs) = { results := [.lit (.bool true)], args := ds, vars := gs }) :
    s.post enc P f apart fresh handsOn again W args (.bool true) W' := by
  have hW0 := hW
  have hlt : ∀ p ∈ before, p.block < W.heap.size := hW.lt
  obtain ⟨pa, pv, hA, hV, rfl, hz, hn⟩ := hW
  have hlta : ∀ p ∈ pa, p.block < W.heap.size := fun p hp => hlt p (by simp [hp])
  have hltv : ∀ p ∈ pv, p.block < W.heap.size := fun p hp => hlt p (by simp [hp])
  have hr : (Value.bool true).resultList f.resultTypes.size = [Value.bool true] := by rw [hrt]; rfl
  refine ⟨ds, gs, pa ++ pv, [], pa, pv, hW0, ?_, ?_, ?_, Below.frame hx _, fun _ => ?_⟩
  · rw [hfn, hr, hrt]
    exact trodAll_mk1 (shut_bool htb _)
  · rw [hfn]
    exact trodAll_ext hl hx _ hpar hlta (fun p hp => by simpa using hlta p hp) hA
  · rw [hfn]
    exact trodVars_sp hl hx _ hvr (fun p hp => by simpa using hltv p hp) hV
  · refine ⟨?_, (.lit (.bool true)) :: ds, gs, pa ++ pv, ⟨[] ++ pa, pv, ?_, ?_, by simp, ?_, ?_⟩, fun p hp _ => hp⟩
    · rw [hr, hrt]
      exact ok_one (f := { f with resultTypes := #[tb] }) rfl rfl (okWide_bool_mk htb _)
    · rw [hr, hrt]
      exact trodAll_append (trodAll_ext hl hx _ hpar hlta (fun _ _ => rfl) hA) (trodAll_mk1 (shut_bool htb _))
    · exact trodVars_sp hl hx _ hvr (fun _ _ => rfl) hV
    · intro b off hp
      have := hlt _ hp
      rw [Below.frozen hx (p := ⟨b, off, none⟩) this]
      exact hz b off hp
    · exact hn
end
end Go.Proofs.YtdidocmbcfbjdaaDoor.Sx

namespace Go.Proofs.YtdidocmbcfbjdaaDoor.Sx
open Go Go.RowKit Go.ChangeShapes Go.WideShapes
set_option linter.unusedVariables false
set_option linter.unusedSimpArgs false
/-- the cells of a struct's fields, one behind the other -/
def flatF (P : Program) (g : TypeId → Option (List C0)) : Nat → List Field → Option (List C0)
  | _, [] => some []
  | o, f :: r => match Nat.beq f.offset o, g f.type with
    | true, some a => match Nat.beq (P.cellsOf f.type) a.length, flatF P g (o + a.length) r with
      | true, some b => some (a ++ b)
      | _, _ => none
    | _, _ => none
/-- the cells of a type -/
def flatC (P : Program) : Nat → TypeId → Option (List C0)
  | 0, _ => none
  | n + 1, t => match P.underlying t with
    | some .bool => some [.bool]
    | some (.int .i64) => some [.int]
    | some .string => some [.str]
    | some (.slice e) => match P.underlying e, P.cellsOf e with
      | some (.int .i64), 1 => some [.ints]
      | _, _ => none
    | some (.struct fs) => match flatF P (flatC P n) 0 fs.toList with
      | some a => if Nat.beq (P.cellsOf t) a.length then some a else none
      | none => none
    | _ => none
section
variable {H : Type} {enc : TypeId × Value → H} {P : Program} {w : World}
theorem seg_of_cells {b off n : Nat} {sp : Option Nat} {cs : List Value} (h : w.cells? 0 ⟨b, off, none⟩ n = some cs) : cs.length = n ∧ Seg w b off cs := by
  obtain ⟨_, hl, hc⟩ := World.cells?_some h
  refine ⟨hl, fun j v hj => ?_⟩
  have hjl : j < n := by rw [← hl]; exact (List.getElem?_eq_some_iff.1 hj).1
  rw [← addr_add, hc j hjl, hj]
theorem spot_none {a : Addr} {v : Value} (h : w.cell? a = some v) : a = ⟨a.block, a.off, none⟩ := by
  obtain ⟨b, o, spot⟩ := a
  have : spot = none := by simpa using World.cell?_spot h
  subst this; rfl
theorem ints_of_trod {t e : TypeId} {fuel : Nat} {sp : Nat → Bool} {hd : Bool} {cs : List Value} {x : DataW H × List MemPlace} (ht : P.underlying t = some (.slice e)) (he : P.underlying e = some (.int .i64)) (hc : P.cellsOf e = 1)
    (h : DataW.trod enc P w 0 sp hd fuel t cs = some x) : ∃ p n c zs, cs = [.slice p n c] ∧ IntsR w p n c zs ∧ zs.length ≤ 9223372036854775807 := by
  rcases Go.ChangeShapes.open_ints ht he hc h with ⟨rfl, _⟩ | ⟨a, len, cap, zs, rfl, _, hl, hm, hz, _, hcell, _⟩
  · exact ⟨none, 0, 0, [], rfl, ⟨rfl, Nat.le_refl _, by omega, fun h => absurd h (by omega)⟩, by simp⟩
  · have hlz : len ≤ zs.length := by rw [hz]; split <;> omega
    refine ⟨some a, len, cap, zs.take len, rfl, ⟨by simp; omega, hl, by simpa [maxLen] using hm, fun hpos => ?_⟩, by simp only [maxLen] at hm; simp; omega⟩
    have h0 := hcell 0 (by omega)
    have hs := spot_none h0
    have ha : a = ⟨a.block, a.off, none⟩ := by
      obtain ⟨b, o, s⟩ := a
      simp [Addr.add] at hs
      simp [hs]
    refine ⟨a.block, a.off, by rw [← ha], fun j v hj => ?_⟩
    simp only [List.getElem?_map, List.getElem?_take] at hj
    split at hj
    · rename_i hjl
      have hjz : j < zs.length := by omega
      have := hcell j hjz
      rw [ha, addr_add] at this
      rw [this]
      rw [List.getElem?_eq_getElem hjz] at hj
      simp at hj
      rw [← hj]
      simp [hjz]
    · simp at hj
theorem flatF_open {g : TypeId → Option (List C0)} {n : Nat} {sp : Nat → Bool} {hd : Bool}
    (ih : ∀ {t : TypeId} {ks : List C0} {cs : List Value} {x : DataW H × List MemPlace}, g t = some ks → DataW.trod enc P w 0 sp hd n t cs = some x → ∃ ds, Reps w cs ds ∧ ds.map D0.code = ks ∧ ∀ d ∈ ds, d.ok) :
    ∀ (fs : List Field) (o : Nat) (ks : List C0) (cs : List Value), flatF P g o fs = some ks → cs.length = o + ks.length →
      (∀ f ∈ fs, ∃ x, DataW.trod enc P w 0 sp hd n f.type ((cs.drop f.offset).take (P.cellsOf f.type)) = some x) → ∃ ds, Reps w (cs.drop o) ds ∧ ds.map D0.code = ks ∧ ∀ d ∈ ds, d.ok
  | [], o, ks, cs, hf, hl, _ => by
    simp only [flatF, Option.some.injEq] at hf
    subst hf
    rw [List.drop_of_length_le (by simp at hl; omega)]
    exact ⟨[], trivial, rfl, by simp⟩
  | f :: r, o, ks, cs, hf, hl, hx => by
    simp only [flatF] at hf
    split at hf
    · rename_i a h1 h2
      split at hf
      · rename_i b h3 h4
        have h1' := Nat.eq_of_beq_eq_true h1
        have h3' := Nat.eq_of_beq_eq_true h3
        cases hf
        rw [List.length_append] at hl
        obtain ⟨x, hx0⟩ := hx f (by simp)
        obtain ⟨ds, r1, c1, k1⟩ := ih h2 hx0
        obtain ⟨es, r2, c2, k2⟩ := flatF_open ih r (o + a.length) b cs h4 (by omega) (fun f' hf' => hx f' (by simp [hf']))
        refine ⟨ds ++ es, ?_, by simp [c1, c2], fun d hd => ?_⟩
        · rw [h1', h3'] at r1
          have : cs.drop o = (cs.drop o).take a.length ++ cs.drop (o + a.length) := by
            rw [← List.drop_drop, List.take_append_drop]
          rw [this]
          exact r1.append r2
        · rcases List.mem_append.1 hd with h | h
          · exact k1 d h
          · exact k2 d h
      · cases hf
    · cases hf
theorem flat_open {sp : Nat → Bool} {hd : Bool} : ∀ (m : Nat) {fuel : Nat} {t : TypeId} {ks : List C0} {cs : List Value} {x : DataW H × List MemPlace}, flatC P m t = some ks → DataW.trod enc P w 0 sp hd fuel t cs = some x →
    ∃ ds, Reps w cs ds ∧ ds.map D0.code = ks ∧ ∀ d ∈ ds, d.ok
  | 0, _, _, _, _, _, h, _ => by cases h
  | m + 1, fuel, t, ks, cs, x, h, ht => by
    simp only [flatC] at h
    split at h
    · rename_i hu
      obtain ⟨b, rfl, _⟩ := DataW.trod_bool hu ht
      cases h
      exact ⟨[.bool b], ⟨rfl, trivial⟩, rfl, by simp [D0.ok]⟩
    · rename_i hu
      obtain ⟨b, rfl, _, hw⟩ := DataW.trod_int hu ht
      cases h
      refine ⟨[.int b], ⟨rfl, trivial⟩, rfl, ?_⟩
      simp only [List.mem_singleton, forall_eq, D0.ok]
      simp [Lit.wf, IntKind.min, IntKind.max, IntKind.bits, IntKind.signed] at hw
      omega
    · rename_i hu
      obtain ⟨s, rfl, _, hw⟩ := DataW.trod_string hu ht
      cases h
      exact ⟨[.str s], ⟨rfl, trivial⟩, rfl, by simpa [D0.ok, maxLen] using hw⟩
    · rename_i e hu
      split at h
      · rename_i he hc
        cases h
        obtain ⟨p, n, c, zs, rfl, hr, hz⟩ := ints_of_trod hu he hc ht
        exact ⟨[.ints zs], ⟨⟨p, n, c, rfl, hr⟩, trivial⟩, rfl, by simpa [D0.ok] using hz⟩
      · cases h
    · rename_i fs hu
      split at h
      · rename_i a hf
        split at h
        · rename_i hsz
          cases h
          obtain ⟨xs, n, rfl, _, hlen, hxl, hfs⟩ := DataW.trod_struct hu ht
          have hsz' := Nat.eq_of_beq_eq_true hsz
          have := flatF_open (fun h1 h2 => flat_open m h1 h2) fs.toList 0 ks cs hf (by omega) (fun f hf => by
            obtain ⟨i, hi⟩ := List.getElem?_of_mem hf
            have hil : i < fs.size := by simpa using (List.getElem?_eq_some_iff.1 hi).1
            have := hfs i f (by simpa using hi)
            rw [List.getElem?_eq_getElem (by omega)] at this
            exact ⟨_, this⟩)
          simpa using this
        · cases h
      · cases h
    · cases h
theorem rows_open {sp : Nat → Bool} {hd : Bool} {m fuel : Nat} {t e : TypeId} {ks : List C0} {cs : List Value} {x : DataW H × List MemPlace} (hu : P.underlying t = some (.slice e)) (hk : flatC P m e = some ks) (hc : P.cellsOf e = ks.length) (hpos : 0 < ks.length)
    (ht : DataW.trod enc P w 0 sp hd fuel t cs = some x) : ∃ p n c l, cs = [.slice p n c] ∧ RowsR w ks.length p n c l ∧ (∀ y ∈ l, y.map D0.code = ks) ∧ ∀ y ∈ l, ∀ d ∈ y, d.ok := by
  rcases Go.Deep.open_slice hu ht with ⟨rfl, _⟩ | ⟨a, len, cap, mm, n, D, Pl, rfl, _, hl, hm, hmm, _, hx⟩
  · exact ⟨none, 0, 0, [], rfl, RowsR.nil _ _ _ (by omega), by simp, by simp⟩
  · have hlm : len ≤ mm := by rw [hmm]; split <;> omega
    have hex : ∀ i, i < len → ∃ ds : List D0, (∃ cs', cs'.length = ks.length ∧ Reps w cs' ds ∧ w.cells? 0 (a.add (i * ks.length)) ks.length = some cs') ∧ ds.map D0.code = ks ∧ ∀ d ∈ ds, d.ok := fun i hi => by
      obtain ⟨cs', h1, h2⟩ := hx i (by omega)
      obtain ⟨ds, r, c, k⟩ := flat_open m hk h2
      rw [hc] at h1
      exact ⟨ds, ⟨cs', (World.cells?_some h1).2.1, r, h1⟩, c, k⟩
    obtain ⟨F, hF⟩ := Go.Deep.choose_lt hex
    refine ⟨some a, len, cap, (List.range len).map F, rfl, ⟨by simp, hl, by simpa [maxLen] using hm, fun hn => ?_⟩, ?_, ?_⟩
    · obtain ⟨⟨cs', _, _, h1⟩, _⟩ := hF 0 hn
      have h0 := (World.cells?_some h1).2.2 0 hpos
      have hlen := (World.cells?_some h1).2.1
      rw [List.getElem?_eq_getElem (by omega)] at h0
      have hs := spot_none h0
      have ha : a = ⟨a.block, a.off, none⟩ := by
        obtain ⟨b, o, s⟩ := a
        simp [Addr.add] at hs
        simp [hs]
      refine ⟨a.block, a.off, by rw [← ha], fun i y hy => ?_⟩
      have hil : i < len := by
        have := (List.getElem?_eq_some_iff.1 hy).1
        simpa using this
      obtain ⟨⟨cs', q1, q2, q3⟩, _⟩ := hF i hil
      have : y = F i := by simpa [hil] using hy.symm
      subst this
      rw [ha, addr_add] at q3
      exact ⟨cs', q1, q2, (seg_of_cells (sp := none) q3).2⟩
    · intro y hy
      obtain ⟨i, hi, rfl⟩ := List.mem_map.1 hy
      exact (hF i (by simpa using hi)).2.1
    · intro y hy
      obtain ⟨i, hi, rfl⟩ := List.mem_map.1 hy
      exact (hF i (by simpa using hi)).2.2
end
end Go.Proofs.YtdidocmbcfbjdaaDoor.Sx

namespace Go.Proofs.YtdidocmbcfbjdaaDoor
open Go Go.Proofs.YtdidocmbcfbjdaaDoor.Sx
set_option linter.unusedVariables false
set_option linter.unusedSimpArgs false
def curData {H : Type} (r : CurRow) : DataW H := .agg [.lit (.string r.1.data.toList), .lit (.string r.2.1.data.toList), .lit (.int .i64 r.2.2.1), .lit (.int .i64 r.2.2.2)]
theorem bytes_eq {a b : ByteArray} (h : a.data.toList = b.data.toList) : a = b := by
  obtain ⟨⟨x⟩⟩ := a; obtain ⟨⟨y⟩⟩ := b
  simp at h; subst h; rfl
set_option maxRecDepth 100000 in
theorem cur_cells {H : Type} {enc : TypeId × Value → H} {w : World} {sp : Nat → Bool} {hd : Bool} {fuel : Nat} {cs : List Value} {r : CurRow} {p : List MemPlace}
    (h : DataW.trod enc P w 0 sp hd fuel T_impl_currency cs = some (curData r, p)) : cs = curCells r := by
  obtain ⟨fs, hu, hsz, ⟨f0, e0, t0, o0⟩, ⟨f1, e1, t1, o1⟩, ⟨f2, e2, t2, o2⟩, ⟨f3, e3, t3, o3⟩⟩ := cur_fields
  have hu : P.underlying T_impl_currency = some (.struct fs) := hu
  have hs : P.underlying T_string = some .string := by kernel_rfl
  have hi : P.underlying T_int = some (.int .i64) := by kernel_rfl
  have cS : P.cellsOf T_string = 1 := by kernel_rfl
  have cI : P.cellsOf T_int = 1 := by kernel_rfl
  have cC : P.cellsOf T_impl_currency = 4 := by kernel_rfl
  obtain ⟨xs, n, rfl, hx, hlen, hxl, hf⟩ := DataW.trod_struct hu h
  rw [cC] at hlen
  rw [hsz] at hxl
  have h0 := hf 0 f0 e0; have h1 := hf 1 f1 e1; have h2 := hf 2 f2 e2; have h3 := hf 3 f3 e3
  rw [t0, o0, cS] at h0; rw [t1, o1, cS] at h1; rw [t2, o2, cI] at h2; rw [t3, o3, cI] at h3
  match cs, hlen, xs, hxl, hx, h0, h1, h2, h3 with
  | [c0, c1, c2, c3], _, [x0, x1, x2, x3], _, hx, h0, h1, h2, h3 =>
    simp only [List.drop_succ_cons, List.drop_zero, List.take_succ_cons, List.take_zero, List.getElem?_cons_zero, List.getElem?_cons_succ] at h0 h1 h2 h3
    obtain ⟨s0, a0, b0, _⟩ := DataW.trod_string hs h0
    obtain ⟨s1, a1, b1, _⟩ := DataW.trod_string hs h1
    obtain ⟨z2, a2, b2, _⟩ := DataW.trod_int hi h2
    obtain ⟨z3, a3, b3, _⟩ := DataW.trod_int hi h3
    simp only [Prod.mk.injEq, curData, DataW.agg.injEq, List.map_cons, List.map_nil, List.cons.injEq, b0, b1, b2, b3, DataW.lit.injEq, Lit.string.injEq, Lit.int.injEq, true_and, and_true] at hx
    simp only [List.cons.injEq, and_true] at a0 a1 a2 a3
    obtain ⟨⟨q0, q1, q2, q3⟩, _⟩ := hx
    rw [a0, a1, a2, a3, ← bytes_eq q0, ← bytes_eq q1, ← q2, ← q3]
    rfl
theorem flat_of_rows : ∀ (l : List CurRow) (cs : List Value), cs.length = l.length * 4 → (∀ i (hi : i < l.length), (cs.drop (i * 4)).take 4 = curCells (l[i]'hi)) → cs = l.flatMap curCells
  | [], cs, h, _ => by simpa using h
  | r :: l, cs, h, hr => by
    have h0 := hr 0 (by simp)
    simp only [Nat.zero_mul, List.drop_zero, List.getElem_cons_zero] at h0
    rw [List.flatMap_cons, ← h0, ← flat_of_rows l (cs.drop 4) (by simp at h ⊢; omega) (fun i hi => by
      have := hr (i + 1) (by simpa using hi)
      rw [List.drop_drop, show 4 + i * 4 = (i + 1) * 4 by omega]
      simpa using this), List.take_append_drop]
def curVar : String := "loop.example/g00793/impl.currencies"
set_option maxRecDepth 100000 in
theorem tab_of_head {W : World} {rest : List (String × DataW Unit)} (h : laidMet P ((curVar, Rows.laid_loop_example_g00793_impl_currencies) :: rest) W) : Tab W := by
  obtain ⟨ps, ⟨g, t, cs, fuel, p, q, hg, ht, hvar, hd, _, _⟩, _⟩ := h
  have hg0 : P.globalNamed curVar = some 0 := by kernel_rfl
  have ht0 : (P.globals[0]?).map (·.type) = some T_20_impl_currency := by kernel_rfl
  obtain rfl := Option.some.inj (hg0.symm.trans hg)
  obtain rfl := Option.some.inj (ht0.symm.trans ht)
  have hu : P.underlying T_20_impl_currency = some (.array 20 T_impl_currency) := und_T_20_impl_currency
  have cC : P.cellsOf T_impl_currency = 4 := by kernel_rfl
  have cA : P.cellsOf T_20_impl_currency = 80 := by kernel_rfl
  obtain ⟨xs, m, rfl, hx, hlen, hxl, hf⟩ := DataW.trod_array hu hd
  rw [cA] at hlen
  have hdat : (Rows.laid_loop_example_g00793_impl_currencies : DataW Unit) = .agg (implTab.map curData) := by rfl
  rw [hdat] at hx
  simp only [Prod.mk.injEq, DataW.agg.injEq] at hx
  have hl := impl_length
  have hcs : cs.toList = implTab.flatMap curCells := by
    refine flat_of_rows implTab _ (by omega) fun i hi => ?_
    have h1 := hf i (by omega)
    rw [cC] at h1
    have h2 : (xs.map (·.1))[i]? = some (curData (implTab[i]'hi)) := by rw [← hx.1]; simp [hi]
    rw [List.getElem?_map] at h2
    cases h3 : xs[i]? with
    | none => rw [h3] at h2; cases h2
    | some x =>
      rw [h3] at h1 h2
      simp only [Option.map_some, Option.some.injEq] at h2
      obtain ⟨d, pp⟩ := x
      simp only at h2
      subst h2
      exact cur_cells h1
  intro i v hv
  have := World.var?_cell hg0 hvar i
  rw [Nat.zero_add, this, ← hv, ← hcs]
  simp
theorem tab_of_laid {W : World} (h : laidMetH P [(curVar, Rows.laid_loop_example_g00793_impl_currencies)] W) : Tab W := tab_of_head (rest := []) h
/-- a world for the witness: the settled one, the table laid in its variable -/
noncomputable def laidWorld (os : Os) (args : Array Value) : World :=
  { World.holding P os ⟨#[], args, []⟩ with heap := (World.holding P os ⟨#[], args, []⟩).heap.modify 0 fun
      | .cells _ t frozen => .cells ⟨implTab.flatMap curCells⟩ t frozen
      | o => o }
theorem trodVars_one {H : Type} {enc : TypeId × Value → H} {w : World} {sp : Nat → Bool} {n : String} {gs : List (DataW H)} {ps : List MemPlace} (h : DataW.TrodVars enc P w sp [n] gs ps) : ∃ g, gs = [g] := by
  match gs, h with
  | [g], _ => exact ⟨g, rfl⟩
  | g :: g2 :: r, h =>
    obtain ⟨_, _, _, _, _, _, _, _, _, _, h2, _⟩ := h
    exact h2.elim
end Go.Proofs.YtdidocmbcfbjdaaDoor
