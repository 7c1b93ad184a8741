/-
  Parts of the proof of fnPlan_holds: CBookSum, SxPush, CUndo, CMoneySum, CMul, CDivA, CDivB, CDivC, CGcd, CTen, CDec, CScaled, CDecCmp, CCopy, CRat, CRatLaw, CSpecDec, CDecMul, CDecLow, CRatA, CRatB, CRestsNeg, CRatC, CRoundA, CRoundB, CAggM, CRatM, CMoneyAS, CTaxRateOk, CRatMoney, CPercentL, CTaxOn, CBalanceOf.
  Conditions: none.
-/
import Derived.Test.YtbgokfhcgcoipaaGreatDoorFp3
set_option linter.unusedVariables false
set_option linter.unusedSimpArgs false
namespace Go.RowKit
end Go.RowKit

namespace Go.Proofs.YtbgokfhcgcoipaaGreatDoor
open Go Go.Proofs.YtbgokfhcgcoipaaGreatDoor.Sx
def sumI (f : List D0 -> Int) : List (List D0) -> Int
  | [] => 0
  | x :: l => f x + sumI f l
theorem sumI_snoc (f : List D0 -> Int) : ∀ (l : List (List D0)) (x : List D0), sumI f (l ++ [x]) = sumI f l + f x
  | [], x => by simp [sumI]
  | y :: l, x => by simp only [List.cons_append, sumI, sumI_snoc f l x]; omega
theorem sumI_take {f : List D0 -> Int} {l : List (List D0)} {j : Nat} (hj : j < l.length) : sumI f (l.take (j + 1)) = sumI f (l.take j) + f (l[j]'hj) := by
  rw [take_snoc (List.getElem?_eq_getElem hj), sumI_snoc]
theorem sumI_bound {f : List D0 -> Int} {M : Nat} : ∀ (l : List (List D0)), (∀ x ∈ l, (f x).natAbs <= M) -> (sumI f l).natAbs <= l.length * M
  | [], _ => by simp [sumI]
  | x :: l, h => by
    have h1 := h x (.head _); have h2 := sumI_bound l fun y hy => h y (.tail _ hy)
    simp only [sumI, List.length_cons, Nat.succ_mul]
    omega
theorem digs_len_le {n : Nat} (h : n < 1000000000000000000000000000000000000000000000000000000) : (digs n).length <= 6 := digs_len 6 (by omega)
theorem money_bound {c : ByteArray} {b : Bool} {z : List Int} (h : moneyOk [.str c, .bool b, .ints z] = true) : (ival [.bool b, .ints z]).natAbs <= 1000000000000000000000000000000000000 := by
  have hi := moneyOk_int h
  simp only [moneyOk, Bool.and_eq_true, decide_eq_true_eq] at h
  obtain ⟨_, _, _, h1, hc, _⟩ := intOk_enc hi
  simp only [List.cons.injEq, D0.bool.injEq, D0.ints.injEq, and_true] at h1
  obtain ⟨rfl, rfl⟩ := h1
  have hv := val_nonneg hc.1
  have hlt := val_lt hc.1
  have h6 : (1000000000 : Nat) ^ z.length <= 1000000000 ^ 4 := Nat.pow_le_pow_right (by decide) h.2
  have h6' := Int.ofNat_le.2 h6
  rw [Int.natCast_pow, Int.natCast_pow] at h6'
  have h7 : val z < (1000000000 : Int) ^ 4 := Int.lt_of_lt_of_le hlt h6'
  have h8 : ((1000000000 : Int) ^ 4) = 1000000000000000000000000000000000000 := by decide
  rw [h8] at h7
  cases b <;> simp only [ival, if_true, Bool.false_eq_true, if_false] <;> omega
theorem tcnts_enc {z : Int} (h : z.natAbs < 1000000000000000000000000000000000000000000000000000000) : tcnts (enc z) <= 1000000000 := by
  have := digs_len_le h
  simp only [enc, tcnts]
  omega
end Go.Proofs.YtbgokfhcgcoipaaGreatDoor
namespace Go.Proofs.YtbgokfhcgcoipaaGreatDoor.Sx
open Go Go.RowKit
theorem Own.push1 {P : Program} {w : World} {B : Nat} {t e : TypeId} {z : Value} {size bytes : Nat} {p : Option Addr} {n c r : Nat} {xs news : List Value} (h : Own w B e size p n c xs)
    (hT : sliceT P t e z size bytes) (hb : B <= w.heap.size) (hr : Blk w r e news) (hl : news.length = size) (h1 : ∀ u ∈ news, u.oneCell' = true)
    (hbytes : (n + 1) * bytes <= 140737488355328) (hby : 1 <= bytes) :
    ∃ p' c' w', Appends P [t, t] [.slice p n c, .slice (some ⟨r, 0, none⟩) 1 1] (.slice p' (n + 1) c') w w' /\ Own w' B e size p' (n + 1) c' (xs ++ news) /\ Chg (p.map (·.block)).toList w w' /\
      (p'.map (·.block) = p.map (·.block) ∨ ∀ q, p'.map (·.block) = some q -> w.heap.size <= q) := by
  obtain ⟨hu, hi, hz, hs⟩ := hT
  cases hinf : P.info? e with
  | none => rw [hinf] at hi; cases hi
  | some i =>
    rw [hinf] at hi
    simp only [Option.map_some, Option.some.injEq, Prod.mk.injEq] at hi
    have hnm : n + 1 <= maxLen := by
      have : n + 1 <= (n + 1) * bytes := Nat.le_mul_of_pos_right _ hby
      simp only [maxLen]; omega
    have hcells : ∀ j u, news[j]? = some u -> w.cell? ((⟨r, 0, none⟩ : Addr).add j) = some u := fun j u hj => by rw [addr_add, Nat.zero_add, hr.cell, hj]
    obtain ⟨v', w', hrun, hown, hgr, _⟩ := run_append_own (P := P) w B t 0 e i z size bytes hu hinf hi.1 hi.2.1 hi.2.2 hz hs (.slice p n c) n xs h ⟨r, 0, none⟩ 1 1 news (by rw [hl, Nat.one_mul]) hcells h1 hnm hbytes hb
    have hv : ∃ p' c', v' = .slice p' (n + 1) c' := by
      rcases hown.2 with ⟨e1, e2⟩ | ⟨g, cap, cur, e1, _⟩
      · omega
      · exact ⟨_, _, e1⟩
    obtain ⟨p', c', rfl⟩ := hv
    have hob : (Value.slice p n c).ownBlock = p.map (·.block) := by cases p <;> rfl
    refine ⟨p', c', w', hrun, hown, ⟨hgr.os, hgr.tape, hgr.output, hgr.size, fun k hk hn => hgr.block k hk ?_⟩, ?_⟩
    · rw [hob]; intro e; rw [<- e] at hn; simp at hn
    have hrun : (Builtin.append_ #[t, t] 0 #[.slice p n c, .slice (some ⟨r, 0, none⟩) 1 1]).run P w = .ok (.slice p' (n + 1) c') w' := hrun
    rcases h.2 with ⟨e1, e2⟩ | ⟨g, cap, cur, e1, hB, hg, h3, h4, h5, h6⟩
    · simp only [Value.slice.injEq] at e1
      obtain ⟨rfl, rfl, rfl⟩ := e1
      have h0 := run_append_nil (P := P) w t 0 e i z hu hinf hi.1 ⟨r, 0, none⟩ 1 1 news (by rw [hl, hi.2.1, Nat.one_mul]) hcells (by omega) (by omega) (by rw [hi.2.2]; omega)
      rw [h0] at hrun
      injection hrun with hv _
      simp only [Value.slice.injEq] at hv
      exact .inr fun q hq => by rw [<- hv.1] at hq; simp at hq; omega
    · simp only [Value.slice.injEq] at e1
      obtain ⟨rfl, _, rfl⟩ := e1
      by_cases hroom : n + 1 <= c
      · have hsz : n * i.size + news.length <= cur.size := by
          have : (n + 1) * size <= c * size := Nat.mul_le_mul_right _ hroom
          rw [hi.2.1, hl, h5, Nat.succ_mul] at *
          omega
        have h0 := run_append_room (P := P) w t 0 e i hu hinf g n c cur hg ⟨r, 0, none⟩ 1 1 news (by rw [hl, hi.2.1, Nat.one_mul]) hcells h1 hroom hsz
        rw [h0] at hrun
        injection hrun with hv _
        simp only [Value.slice.injEq] at hv
        exact .inl (by rw [<- hv.1])
      · have holds : ∀ j v, xs[j]? = some v -> w.cell? ((⟨g, 0, none⟩ : Addr).add j) = some v := World.ownsRow.cells h rfl
        have hfit : Builtin.nextslicecap (n + 1) c * i.bytes <= 281474976710656 := by
          rw [hi.2.2]; exact growslice_fits (by omega) hbytes
        have h0 := run_append_grow (P := P) w t 0 e i z hu hinf hi.1 ⟨g, 0, none⟩ n c xs (by rw [h.len, hi.2.1]) holds ⟨r, 0, none⟩ 1 1 news (by rw [hl, hi.2.1, Nat.one_mul]) hcells (by omega) (by simp only [maxLen] at hnm; omega) hfit
        rw [h0] at hrun
        injection hrun with hv _
        simp only [Value.slice.injEq] at hv
        exact .inr fun q hq => by rw [<- hv.1] at hq; simp at hq; omega
theorem OwnRows.fresh {w w' : World} {B : Nat} {e : TypeId} {k r : Nat} (hn : New w (.cells ⟨[]⟩ e (0, 0)) r w') (hb : B <= w.heap.size) : OwnRows w' B e k (some ⟨r, 0, none⟩) 0 0 [] [r] :=
  ⟨rfl, [], [], trivial, Own.of_blk0 hn.blk (by have := hn.r_eq; omega) (by simp) (by decide), by simp, by simp⟩
theorem OwnRows.push {P : Program} {w : World} {B : Nat} {t e : TypeId} {z : Value} {k bytes : Nat} {p : Option Addr} {n c r : Nat} {l : List (List D0)} {f fx : List Nat} {cs : List Value} {x : List D0} (h : OwnRows w B e k p n c l f)
    (hT : sliceT P t e z k bytes) (hb : B <= w.heap.size) (hr : Blk w r e cs) (hl : cs.length = k) (ho : Owns w B cs x fx) (hfx : fx.Nodup) (hdis : ∀ q ∈ fx, q ∉ f)
    (hbytes : (n + 1) * bytes <= 140737488355328) (hby : 1 <= bytes) :
    ∃ p' c' w' f', Appends P [t, t] [.slice p n c, .slice (some ⟨r, 0, none⟩) 1 1] (.slice p' (n + 1) c') w w' /\ OwnRows w' B e k p' (n + 1) c' (l ++ [x]) f' /\ Chg (p.map (·.block)).toList w w' /\
      (∀ w0, Ext w0 w -> w0.heap.size <= B -> Ext w0 w') := by
  obtain ⟨hln, css, fs, ha, hown, rfl, hnd⟩ := h
  obtain ⟨p', c', w', hrun, hown', hch, hp⟩ := hown.push1 hT hb hr hl ho.reps.cells1 hbytes hby
  have hpl : ∀ q ∈ (p.map (·.block)).toList, B <= q := fun q hq => (World.ownsRow.lt hown q (by cases p <;> simp_all [Value.ownBlock])).1
  have hnd1 := (List.nodup_append.1 hnd)
  have hpin : ∀ q ∈ fs.flatten, q ∉ (p.map (·.block)).toList := fun q hq hm => hnd1.2.2 q hm q hq rfl
  have hpx : ∀ q ∈ fx, q ∉ (p.map (·.block)).toList := fun q hq hm => hdis q hq (List.mem_append_left _ hm)
  have hlt : ∀ q ∈ fs.flatten ++ fx, q < w.heap.size := fun q hq => by
    rcases List.mem_append.1 hq with hq | hq
    · exact (ha.lt q hq).2
    · exact (ho.lt q hq).2
  refine ⟨p', c', w', (p'.map (·.block)).toList ++ (fs ++ [fx]).flatten, hrun, ⟨by simp [hln], css ++ [cs], fs ++ [fx], (ha.chg hch hpin).snoc hl (ho.chg hch hpx), by simpa using hown', rfl, ?_⟩, hch, fun w0 hx hb0 => hx.chg hch fun q hq => Nat.le_trans hb0 (hpl q hq)⟩
  have e : (fs ++ [fx]).flatten = fs.flatten ++ fx := by simp
  rw [e, List.nodup_append]
  refine ⟨by cases p' <;> simp, ?_, ?_⟩
  · rw [List.nodup_append]
    exact ⟨hnd1.2.1, hfx, fun a ha b hb e => hdis b hb (by rw [<- e]; exact List.mem_append_right _ ha)⟩
  · intro a ha b hb hab
    subst hab
    have hpa := opt_mem ha
    rcases hp with hp | hp
    · rw [hp] at hpa
      have ham : a ∈ (p.map (·.block)).toList := mem_opt hpa
      rcases List.mem_append.1 hb with hb | hb
      · exact hpin a hb ham
      · exact hpx a hb ham
    · have := hp a hpa
      have := hlt a hb
      omega
end Go.Proofs.YtbgokfhcgcoipaaGreatDoor.Sx
namespace Go.Proofs.YtbgokfhcgcoipaaGreatDoor
open Go Go.Proofs.YtbgokfhcgcoipaaGreatDoor.Sx
def zeroMoney : List D0 := [.str ByteArray.empty, .bool false, .ints []]
def moneyMk (cur : ByteArray) (z : Int) : List D0 := if moneyOk (.str cur :: enc z) then .str cur :: enc z else zeroMoney
theorem moneyMk_code (cur : ByteArray) (z : Int) : (moneyMk cur z).map D0.code = [.str, .bool, .ints] := by unfold moneyMk; split <;> rfl
end Go.Proofs.YtbgokfhcgcoipaaGreatDoor
namespace Go.Proofs.YtbgokfhcgcoipaaGreatDoor
open Go Go.Proofs.YtbgokfhcgcoipaaGreatDoor.Sx
def moneyVal : List D0 -> Int
  | [.str c, .bool b, .ints z] => ival [.bool b, .ints z]
  | _ => 0
def msOk (cur : ByteArray) : List D0 -> Bool
  | [.str c, .bool b, .ints z] => moneyOk [.str c, .bool b, .ints z] && decide (c = cur)
  | _ => false
def msAll (cur : ByteArray) (l : List (List D0)) : Bool := l.all (msOk cur) && moneyOk (.str cur :: enc (sumI moneyVal l))
def moneySum (cur : ByteArray) (l : List (List D0)) : List D0 := if l.all (msOk cur) then moneyMk cur (sumI moneyVal l) else zeroMoney
theorem moneySum_code (cur : ByteArray) (l : List (List D0)) : (moneySum cur l).map D0.code = [.str, .bool, .ints] := by unfold moneySum; split; exact moneyMk_code _ _; rfl
theorem val_bound {cur : ByteArray} {x : List D0} (h : msOk cur x = true) : (moneyVal x).natAbs <= 1000000000000000000000000000000000000 := by
  unfold msOk at h
  split at h
  · simp only [Bool.and_eq_true] at h
    exact money_bound h.1
  · cases h
theorem ms_bound {cur : ByteArray} {l : List (List D0)} {j : Nat} (hl : l.length <= 1048576) (h : ∀ i (hi : i < l.length), i < j -> msOk cur (l[i]'hi) = true) : (sumI moneyVal (l.take j)).natAbs <= 1048576000000000000000000000000000000000000 := by
  have := sumI_bound (f := moneyVal) (M := 1000000000000000000000000000000000000) (l.take j) (fun x hx => by
    obtain ⟨i, hi, rfl⟩ := List.getElem_of_mem hx
    have h1 : i < j /\ i < l.length := by rw [List.length_take] at hi; omega
    rw [List.getElem_take]
    exact val_bound (h i h1.2 h1.1))
  have h3 : (l.take j).length <= 1048576 := by simp; omega
  have h4 : (l.take j).length * 1000000000000000000000000000000000000 <= 1048576 * 1000000000000000000000000000000000000 := Nat.mul_le_mul_right _ h3
  omega
theorem moneySum_cnt {cur : ByteArray} {l : List (List D0)} (hl : l.length <= 1048576) : tcnts (moneySum cur l) <= 1000000000 := by
  unfold moneySum
  split
  · rename_i h
    rw [List.all_eq_true] at h
    have := ms_bound (cur := cur) (j := l.length) hl (fun i hi _ => h _ (List.getElem_mem hi))
    rw [List.take_of_length_le (by omega)] at this
    unfold moneyMk
    split
    · exact tcnts_enc (by omega)
    · decide
  · decide
theorem impl_moneyOf_c {w : World} (ht : Tab w) {B : Nat} {xs : List Value} {z : Int} {f : List Nat} (cur : ByteArray) (h : Owns w B xs (enc z) f) (hnd : f.Nodup) (hB : B <= w.heap.size) :
    Ret P n_impl_moneyOf [.string cur, .agg ⟨xs⟩] w fun v w' => ∃ vs f', v = .tuple #[.agg ⟨vs⟩, .bool (moneyOk (.str cur :: enc z))] /\ Owns w' B vs (moneyMk cur z) f' /\ f'.Nodup /\ Ext w w' := by
  have ho := h
  obtain ⟨a0, a1p, a1n, a1c, a1z, rfl, hd, ha⟩ := open_Signed h.reps (enc_code _)
  refine impl_moneyOf_ret ?_
  unfold impl_moneyOf
  intro r w1 hn1 r1 w2 hn2
  refine ⟨_, _, _, _, (hn1.blk.ext hn2.ext).loadA0 (by kernel_rfl), ?_⟩
  intro r2 w3 hn3
  have e1 := hn1.r_eq; have e2 := hn2.r_eq; have e3 := hn3.r_eq; have s1 := hn1.size; have s2 := hn2.size; have s3 := hn3.size
  obtain ⟨w4, st4, hb4, y4⟩ := hn3.fill (P := P) (t := T_impl_Money) (xs := [.string cur, .bool a0, .slice a1p a1n a1c]) (by simp [Value.oneCell']) (by kernel_rfl) rfl
  have X := (hn1.ext.trans hn2.ext).trans y4
  have k1 := hn2.blk.ext y4
  refine ⟨w4, st4, _, _, _, _, _, hb4.loadA0 (by kernel_rfl), ?_⟩
  have hm : Reps w4 [.string cur, .bool a0, .slice a1p a1n a1c] (.str cur :: enc z) := ⟨rfl, h.reps.ext X⟩
  refine Ret.at (impl_MoneyOk_c (ht.ext X) hm rfl) ?_
  rintro v w5 ⟨hv, y5⟩
  subst hv
  have X5 := X.trans y5
  refine ⟨_, rfl, fun hyes => ?_, fun hno => ?_⟩
  · obtain ⟨w6, st6, hb6, ch, sz⟩ := (k1.ext y5).storeA0 (P := P) (t := T_impl_Money) (xs := [.string cur, .bool a0, .slice a1p a1n a1c]) (by kernel_rfl) rfl (by simp [Value.oneCell'])
    refine ⟨_, _, _, _, _, (hb4.ext y5).loadA0 (by kernel_rfl), w6, st6, _, _, _, _, _, hb6.loadA0 (by kernel_rfl), [.string cur, .bool a0, .slice a1p a1n a1c], f, by rw [hyes], ?_, hnd, X5.chg ch (by simp; omega)⟩
    unfold moneyMk
    rw [hyes]
    have h5 := ((ho.ext X5).chg ch fun k hk hm => by
      have := (ho.lt k hk).2
      simp at hm; omega)
    exact Owns.append (Owns.str _ _ cur) h5
  · obtain ⟨w6, st6, hb6, ch, sz⟩ := (k1.ext y5).storeA0 (P := P) (t := T_impl_Money) (xs := [.string ByteArray.empty, .bool false, .slice none 0 0]) (by kernel_rfl) rfl (by simp [Value.oneCell'])
    refine ⟨w6, st6, _, _, _, _, _, hb6.loadA0 (by kernel_rfl), [.string ByteArray.empty, .bool false, .slice none 0 0], [], by rw [hno], ?_, List.nodup_nil, X5.chg ch (by simp; omega)⟩
    unfold moneyMk
    rw [hno]
    exact Owns.append (Owns.str _ _ _) (Owns.append (Owns.bool _ _ false) (Owns.ints (zs := []) (Own.nil w6 B T_int 1)))
theorem impl_MoneySum_c {w : World} (cur : ByteArray) {p : Option Addr} {n c : Nat} {l : List (List D0)} (h : RowsR w 3 p n c l) (hc : ∀ x ∈ l, x.map D0.code = [.str, .bool, .ints]) (hn : n <= 1048576) (ht : Tab w) :
    Ret P n_impl_MoneySum [.string cur, .slice p n c] w fun v w' => ∃ vs f, v = .tuple #[.agg ⟨vs⟩, .bool (msAll cur l)] /\ Owns w' w.heap.size vs (moneySum cur l) f /\ f.Nodup /\ Ext w w' := by
  have hz := h.1; have hcap := h.2.1; have hcm := h.2.2.1
  refine impl_MoneySum_ret ?_
  unfold impl_MoneySum
  intro r w1 hn1 r2 w2 hn2
  have e1 := hn1.r_eq; have e2 := hn2.r_eq; have s1 := hn1.size; have s2 := hn2.size
  obtain ⟨w3, st3, hb3, y3⟩ := hn2.fill (P := P) (t := T_impl_Signed) (xs := [.bool false, .slice none 0 0]) (by simp [Value.oneCell']) (by kernel_rfl) rfl
  refine ⟨w3, st3, ?_⟩
  refine ⟨fun i wr => ∃ (j : Nat) (s : Bool) (p : Option Addr) (m c : Nat) (f : List Nat), i = j /\ j <= n /\ Ext w1 wr /\ Blk wr r2 T_impl_Signed [.bool s, .slice p m c] /\ Owns wr (w1.heap.size + 1) [.bool s, .slice p m c] (enc (sumI moneyVal (l.take j))) f /\ f.Nodup /\ ∀ i (hi : i < l.length), i < j -> msOk cur (l[i]'hi) = true, fun i _ => n - i.toNat, ⟨0, false, none, 0, 0, [], rfl, by omega, y3, hb3, ?_, List.nodup_nil, fun i _ h => absurd h (by omega)⟩, ?_⟩
  · rw [List.take_zero, sumI, enc0]
    exact Owns.int2 (z := []) (Own.nil _ _ T_int 1 : Own _ (w1.heap.size + 1) T_int 1 none 0 0 (([] : List Int).map (Value.int .i64)))
  intro junk wr i ⟨j, s, p2, m2, c2, f, hij, hj, hx, hbk, how, hnd, hall⟩
  subst hij
  have lx := hx.le; have hbl := hbk.lt
  have K0 := hn1.blk
  refine ifD (fun hlt => ?_) (fun hge => ?_)
  · have hjn : j < n := by omega
    have hjl : j < l.length := by omega
    obtain ⟨a, cs, hp, hk, hr, hl⟩ := ((h.ext hn1.ext).ext hx).at (P := P) (t := T_impl_Money) (by kernel_rfl) hjn
    subst hp
    have hrr := hr; have hcode := hc _ (List.getElem_mem hjl)
    obtain ⟨a0, a1, a2p, a2n, a2c, a2z, rfl, hd, ha⟩ := open_Money hr hcode
    have hsum := sumI_take (f := moneyVal) hjl
    rw [hd] at hsum
    have bad : ∀ W, Ext wr W -> msOk cur [.str a0, .bool a1, .ints a2z] = false -> ∃ wv_7, Stores P T_impl_Money ⟨r, 0, none⟩ (.agg #[(.string ByteArray.empty), (.bool false), (.slice none 0 0)]) W wv_7 /\
        ∃ (r0 : ByteArray) (r1 : Bool) (r2_p : Option Addr) (r2_n : Nat) (r2_c : Nat), Loads P T_impl_Money ⟨r, 0, none⟩ (.agg #[(.string r0), (.bool r1), (.slice r2_p r2_n r2_c)]) wv_7 /\ (fun (v : Value) (w' : World) => ∃ vs f, v = .tuple #[.agg ⟨vs⟩, .bool (msAll cur l)] /\ Owns w' w.heap.size vs (moneySum cur l) f /\ f.Nodup /\ Ext w w') (.tuple #[(.agg #[(.string r0), (.bool r1), (.slice r2_p r2_n r2_c)]), (.bool false)]) wv_7 := by
      intro W hW hno
      have hno' : l.all (msOk cur) = false := all_no hjl (by rw [hd]; exact hno)
      obtain ⟨w6, st6, hb6, ch, sz⟩ := ((K0.ext hx).ext hW).storeA0 (P := P) (t := T_impl_Money) (xs := [.string ByteArray.empty, .bool false, .slice none 0 0]) (by kernel_rfl) rfl (by simp [Value.oneCell'])
      refine ⟨w6, st6, _, _, _, _, _, hb6.loadA0 (by kernel_rfl), [.string ByteArray.empty, .bool false, .slice none 0 0], [], by rw [msAll, hno']; rfl, ?_, List.nodup_nil, ((hn1.ext.trans hx).trans hW).chg ch (by simp; omega)⟩
      have : moneySum cur l = zeroMoney := by rw [moneySum, hno']; rfl
      rw [this]
      exact Owns.append (Owns.str _ _ _) (Owns.append (Owns.bool _ _ false) (Owns.ints (zs := []) (Own.nil w6 w.heap.size T_int 1)))
    refine ⟨⟨by omega, by omega⟩, _, _, _, _, _, by simpa using hl, ?_⟩
    intro r3 w7 hn7
    have e7 := hn7.r_eq; have s7 := hn7.size
    obtain ⟨w8, st, hb8, y8⟩ := hn7.fill (P := P) (t := T_impl_Money) hrr.cells1 (by kernel_rfl) rfl
    have l8 := y8.le
    refine ⟨w8, st, _, _, _, _, _, hb8.loadA0 (by kernel_rfl), ?_⟩
    have hm : Reps w8 [.string a0, .bool a1, .slice a2p a2n a2c] [.str a0, .bool a1, .ints a2z] := ⟨rfl, rfl, ⟨_, _, _, rfl, ha.ext y8⟩, trivial⟩
    refine Ret.at (impl_MoneyOk_c (ht.ext ((hn1.ext.trans hx).trans y8)) hm rfl) ?_
    rintro v w9 ⟨hv, y9⟩
    subst hv
    have l9 := y9.le
    have Y := y8.trans y9
    have hb9 := hb8.ext y9
    have hbk9 := hbk.ext Y
    refine ⟨_, rfl, ifN (fun hno => ifT (bad _ Y (by simp only [msOk, hno, Bool.false_and]))) (fun hmok => ?_)⟩
    have henc := (intOk_enc (moneyOk_int hmok)).1
    refine ⟨_, hb9.loadAt 0 rfl (by kernel_rfl) rfl, ifD (fun hne => bad _ Y (by simp only [msOk, decide_eq_false hne, Bool.and_false])) (fun heq => ?_)⟩
    have heq : a0 = cur := by simpa using heq
    refine ⟨_, _, _, _, hbk9.loadA0 (by kernel_rfl), _, _, _, _, hb9.loadAAt 1 [.bool a1, .slice a2p a2n a2c] rfl (by kernel_rfl) rfl, ?_⟩
    have hu : Reps w9 [.bool a1, .slice a2p a2n a2c] (enc (ival [.bool a1, .ints a2z])) := by
      rw [<- henc]
      exact ⟨rfl, ⟨_, _, _, rfl, ha.ext Y⟩, trivial⟩
    have hsb := ms_bound (cur := cur) (j := j) (by omega) hall
    have hub := money_bound hmok
    have hval : moneyVal [.str a0, .bool a1, .ints a2z] = ival [.bool a1, .ints a2z] := rfl
    rw [hval] at hsum
    have d1 : (digs (sumI moneyVal (l.take j)).natAbs).length <= 6 := digs_len_le (by omega)
    have d2 : (digs (ival [.bool a1, .ints a2z]).natAbs).length <= 6 := digs_len_le (by omega)
    refine Ret.at (impl_intAdd_c (how.ext Y).reps hu (by omega) (by omega)) ?_
    rintro v w10 ⟨gp, gn, gc, hv, hown10, y10⟩
    subst hv
    obtain ⟨g0, hg0⟩ : ∃ g0, g0 = decide (sumI moneyVal (l.take j) + ival [.bool a1, .ints a2z] < 0) := ⟨_, rfl⟩
    rw [<- hg0]
    have ho10 : Owns w10 w9.heap.size [.bool g0, .slice gp gn gc] (enc (sumI moneyVal (l.take j) + ival [.bool a1, .ints a2z])) (gp.map (·.block)).toList := by
      rw [hg0]; exact Owns.int2 hown10
    have hnd10 := nodup_opt gp
    have l10 := y10.le
    obtain ⟨w11, st11, hb11, ch, sz⟩ := (hbk9.ext y10).storeA0 (P := P) (t := T_impl_Signed) (xs := [.bool g0, .slice gp gn gc]) (by kernel_rfl) rfl (by simp [Value.oneCell'])
    refine ⟨_, _, _, _, rfl, w11, st11, exW ⟨by omega, by omega⟩ ⟨⟨j + 1, g0, gp, gn, gc, _, by omega, by omega, ((hx.trans Y).trans y10).chg ch (by simp; omega), hb11, ?_, hnd10, fun i hi hij => ?_⟩, ?_⟩⟩
    · rw [hsum]
      exact (ho10.chg1 ch (by omega)).mono (by omega)
    · rcases Nat.lt_or_ge i j with h3 | h3
      · exact hall i hi h3
      · have : i = j := by omega
        subst this
        rw [hd]
        simp only [msOk, hmok, decide_eq_true heq, Bool.and_self]
    · show n - ((j : Int) + 1).toNat < n - (j : Int).toNat
      omega
  · have hjn : j = n := by omega
    have hall' : l.all (msOk cur) = true := all_yes fun i hi => hall i hi (by omega)
    rw [List.take_of_length_le (by omega)] at how
    refine ⟨_, _, _, _, hbk.loadA0 (by kernel_rfl), ?_⟩
    refine Ret.at (impl_moneyOf_c (ht.ext (hn1.ext.trans hx)) cur how hnd (by omega)) ?_
    rintro v w9 ⟨vs, f9, hv, ho9, hnd9, y9⟩
    subst hv
    have ho9' := ho9
    have l9 := y9.le
    obtain ⟨d0, d1, dp, dn, dc, dz, rfl, hq, hbr⟩ := open_Money ho9.reps (moneyMk_code _ _)
    obtain ⟨w10, st10, hb10, ch, sz⟩ := ((K0.ext hx).ext y9).storeA0 (P := P) (t := T_impl_Money) (xs := [.string d0, .bool d1, .slice dp dn dc]) (by kernel_rfl) rfl (by simp [Value.oneCell'])
    refine ⟨_, _, _, _, _, _, rfl, w10, st10, _, _, _, _, _, hb10.loadA0 (by kernel_rfl), [.string d0, .bool d1, .slice dp dn dc], f9, by rw [msAll, hall']; rfl, ?_, hnd9, ((hn1.ext.trans hx).trans y9).chg ch (by simp; omega)⟩
    have : moneySum cur l = moneyMk cur (sumI moneyVal l) := by rw [moneySum, hall']; rfl
    rw [this]
    exact (ho9'.chg1 ch (by omega)).mono (by omega)
end Go.Proofs.YtbgokfhcgcoipaaGreatDoor
namespace Go.Proofs.YtbgokfhcgcoipaaGreatDoor
open Go Go.Proofs.YtbgokfhcgcoipaaGreatDoor.Sx
theorem val_set : ∀ (l : List Int) {k : Nat} (x : Int), k < l.length -> val (l.set k x) = val l + 1000000000 ^ k * (x - l.getD k 0)
  | [], k, x, h => by simp at h
  | y :: r, 0, x, _ => by simp [val]; omega
  | y :: r, k + 1, x, h => by
    have := val_set r (k := k) x (by simpa using h)
    simp only [List.set_cons_succ, val, this, List.getD_cons_succ, Int.pow_succ]
    rw [Int.mul_add, <- Int.mul_assoc, Int.mul_comm 1000000000 (1000000000 ^ k)]
    omega
theorem Limbs.set {l : List Int} {k : Nat} {x : Int} (h : Limbs l) (hx : 0 <= x /\ x < 1000000000) : Limbs (l.set k x) := fun y hy => by
  rcases List.mem_or_eq_of_mem_set hy with h1 | h1
  · exact h y h1
  · rw [h1]; exact hx
theorem mul_limb {x y : Int} (hx : 0 <= x /\ x < 1000000000) (hy : 0 <= y /\ y < 1000000000) : 0 <= x * y /\ x * y <= 999999998000000001 := by
  refine ⟨Int.mul_nonneg hx.1 hy.1, ?_⟩
  have h1 : x * y <= 999999999 * y := Int.mul_le_mul_of_nonneg_right (by omega) hy.1
  omega
theorem mul_step {b o : List Int} {i k : Nat} {carry t x V : Int} (hl : i + k < o.length) (hv : val o + 1000000000 ^ (i + k) * carry = V + x * 1000000000 ^ i * val (b.take k)) (ht : t = carry + (o.getD (i + k) 0 + x * b.getD k 0)) :
    val (o.set (i + k) (t % 1000000000)) + 1000000000 ^ (i + (k + 1)) * (t / 1000000000) = V + x * 1000000000 ^ i * val (b.take (k + 1)) := by
  rw [val_set o _ hl, val_take_succ, show i + (k + 1) = (i + k) + 1 by omega, Int.pow_succ, Int.mul_assoc]
  have e : (1000000000 : Int) ^ (i + k) * (t % 1000000000 - o.getD (i + k) 0) + 1000000000 ^ (i + k) * (1000000000 * (t / 1000000000)) = 1000000000 ^ (i + k) * (carry + x * b.getD k 0) := by
    rw [<- Int.mul_add]; congr 1; omega
  have e2 : x * (1000000000 : Int) ^ i * (val (b.take k) + 1000000000 ^ k * b.getD k 0) = x * 1000000000 ^ i * val (b.take k) + 1000000000 ^ (i + k) * (x * b.getD k 0) := by
    rw [Int.mul_add, Int.pow_add]
    congr 1
    simp only [Int.mul_assoc, Int.mul_comm, Int.mul_left_comm]
  rw [e2]
  rw [Int.mul_add] at e
  omega
theorem carry_step {o : List Int} {k : Nat} {carry t V : Int} (hl : k < o.length) (hv : val o + 1000000000 ^ k * carry = V) (ht : t = carry + o.getD k 0) :
    val (o.set k (t % 1000000000)) + 1000000000 ^ (k + 1) * (t / 1000000000) = V := by
  rw [val_set o _ hl, Int.pow_succ, Int.mul_assoc]
  have e : (1000000000 : Int) ^ k * (t % 1000000000 - o.getD k 0) + 1000000000 ^ k * (1000000000 * (t / 1000000000)) = 1000000000 ^ k * carry := by
    rw [<- Int.mul_add]; congr 1; omega
  omega
theorem mul_row {a b : List Int} {i : Nat} : val (a.take i) * val b + a.getD i 0 * 1000000000 ^ i * val b = val (a.take (i + 1)) * val b := by
  rw [val_take_succ, Int.add_mul]
  congr 2
  rw [Int.mul_comm]
theorem blk_get {w : World} {r : Nat} {o : List Int} (h : Blk w r T_int (o.map (Value.int .i64))) {i : Int} (h0 : 0 <= i) (h1 : i < o.length) : Loads P T_int ((⟨r, 0, none⟩ : Addr).add (i.toNat * 1)) (.int .i64 (o.getD i.toNat 0)) w := by
  rw [Nat.mul_one]
  refine h.load (by kernel_rfl) ?_
  rw [List.getElem?_map, List.getD_eq_getElem?_getD, List.getElem?_eq_getElem (by omega)]; rfl
theorem blk_set {w : World} {r : Nat} {o : List Int} (h : Blk w r T_int (o.map (Value.int .i64))) {i : Int} (h0 : 0 <= i) (h1 : i < o.length) (x : Int) :
    ∃ w', Stores P T_int ((⟨r, 0, none⟩ : Addr).add (i.toNat * 1)) (.int .i64 x) w w' /\ Blk w' r T_int ((o.set i.toNat x).map (Value.int .i64)) /\ Chg [r] w w' /\ w'.heap.size = w.heap.size := by
  obtain ⟨w', h1, h2, h3, h4⟩ := h.store (P := P) (t := T_int) (k := i.toNat) (v := .int .i64 x) (by kernel_rfl) (by simp; omega) rfl
  exact ⟨w', by rw [Nat.mul_one]; exact h1, by rw [List.map_set]; exact h2, h3, h4⟩
theorem impl_natMul_c {w : World} {p q : Option Addr} {n c m d : Nat} {a b : List Int} (h : IntsR w p n c a) (k : IntsR w q m d b) (ha : Limbs a) (hb : Limbs b) (hn : n <= 1000000) (hm : m <= 1000000) :
    Ret P n_impl_natMul [.slice p n c, .slice q m d] w fun v w' => ∃ p' n' c', v = .slice p' n' c' /\ Own w' w.heap.size T_int 1 p' n' c' ((digs (val a * val b).toNat).map (Value.int .i64)) /\ Ext w w' := by
  refine impl_natMul_ret ?_
  unfold impl_natMul
  have hla := h.1; have hlb := k.1
  have vb0 := val_nonneg hb
  have vbl := val_lt hb
  rw [hlb] at vbl
  refine exW ⟨by omega, by omega⟩ (exW ⟨by omega, by omega⟩ ⟨⟨by omega, by omega, by omega⟩, fun r w1 hn1 => ?_⟩)
  have hN : ((n : Int) + (m : Int) + 1).toNat = n + m + 1 := by omega
  rw [hN] at hn1 ⊢
  have hre := hn1.r_eq
  refine ⟨fun i wr => ∃ (j : Nat) (o : List Int), i = j /\ j <= n /\ o.length = n + m + 1 /\ Blk wr r T_int (o.map (Value.int .i64)) /\ Ext w wr /\ Limbs o /\ val o = val (a.take j) * val b, fun i _ => n - i.toNat,
    ⟨0, List.replicate (n + m + 1) 0, rfl, by omega, by simp, ?_, hn1.ext, fun x hx => by simp at hx; omega, ?_⟩, ?_⟩
  · have := hn1.blk
    rw [zeroRow_int, Nat.mul_one] at this
    simpa using this
  · have z : ∀ s : Nat, val (List.replicate s 0) = 0 := fun s => by
      induction s with
      | zero => rfl
      | succ s ih => simp [List.replicate_succ, val, ih]
    rw [z]; simp [val]
  intro junk wr i ⟨j, o, hi, hjn, hol, hblk, hx, hlo, hv⟩
  subst hi
  refine ifD (fun hlt => ?_) (fun hge => ?_)
  · have A := ha.getD j
    obtain ⟨ad, rfl, hl⟩ := ints_at (h.ext hx) (i := (j : Int)) (by omega) hlt
    simp only [Int.toNat_natCast] at hl
    refine ⟨⟨by omega, by omega⟩, _, by simpa only [Int.toNat_natCast] using hl, fun carry t wr2 => ∃ (s : Nat) (o : List Int), t = s /\ s <= m /\ o.length = n + m + 1 /\ Blk wr2 r T_int (o.map (Value.int .i64)) /\ Ext w wr2 /\ Limbs o /\ 0 <= carry /\ carry < 1000000000 /\ val o + 1000000000 ^ (j + s) * carry = val (a.take j) * val b + a.getD j 0 * 1000000000 ^ j * val (b.take s), fun _ t _ => m - t.toNat,
      ⟨0, o, rfl, by omega, hol, hblk, hx, hlo, by omega, by omega, by simp [val, hv]⟩, ?_⟩
    intro junk1 wr2 carry t ⟨s, o2, hs, hsm, hol2, hblk2, hx2, hlo2, hc0, hc1, hv2⟩
    subst hs
    refine ifD (fun hlt2 => ?_) (fun hge2 => ?_)
    · have B := hb.getD s
      have M := mul_limb A B
      obtain ⟨ad2, rfl, hl2⟩ := ints_at (k.ext hx2) (i := (s : Int)) (by omega) hlt2
      have O := hlo2.getD (j + s)
      have es : ((j : Int) + (s : Int)).toNat = j + s := by omega
      refine ⟨⟨by omega, by omega⟩, _, hl2, exW ⟨by omega, by omega⟩ ⟨⟨by omega, by omega⟩, _, blk_get hblk2 (by omega) (by omega), ?_⟩⟩
      rw [es]
      simp only [Int.toNat_natCast]
      refine exW ⟨by omega, by omega⟩ (exW ⟨by omega, by omega⟩ (exW ⟨by omega, by omega⟩ (exW ⟨by omega, by omega⟩ ⟨by decide, _, rfl, ⟨by omega, by omega⟩, ?_⟩)))
      rw [tmod_limb (by omega)]
      obtain ⟨w3, hst, hb3, hch, hsz⟩ := blk_set hblk2 (i := (j : Int) + (s : Int)) (by omega) (by omega) ((carry + (o2.getD (j + s) 0 + a.getD j 0 * b.getD s 0)) % 1000000000)
      rw [es] at hb3
      refine ⟨w3, hst, by decide, ?_⟩
      rw [tdiv_limb (by omega)]
      refine exW ⟨by omega, by omega⟩ (exW ⟨by omega, by omega⟩ ⟨⟨s + 1, _, by omega, by omega, by simpa using hol2, hb3, hx2.chg hch (by simp; omega), hlo2.set (limb_mod _), by omega, by omega, mul_step (by omega) hv2 rfl⟩, ?_⟩)
      show m - ((s : Int) + 1).toNat < m - (s : Int).toNat
      omega
    · have hsm' : s = m := by omega
      subst hsm'
      rw [List.take_of_length_le (show b.length <= s by omega), mul_row] at hv2
      have V0 : 0 <= val (a.take (j + 1)) := val_nonneg (ha.take _)
      have VL : val (a.take (j + 1)) * val b < 1000000000 ^ (j + 1 + s) := by
        have h1 := val_lt (ha.take (j + 1))
        have h2 : (a.take (j + 1)).length = j + 1 := by simp; omega
        rw [h2] at h1
        rw [Int.pow_add]
        exact Int.lt_of_le_of_lt (Int.mul_le_mul_of_nonneg_left (Int.le_of_lt vbl) V0) (Int.mul_lt_mul_of_pos_right h1 (Int.pow_pos (by decide)))
      refine exW ⟨by omega, by omega⟩ ⟨fun carry t wr3 => ∃ (u : Nat) (o : List Int), t = u /\ u <= n + s + 1 /\ o.length = n + s + 1 /\ Blk wr3 r T_int (o.map (Value.int .i64)) /\ Ext w wr3 /\ Limbs o /\ 0 <= carry /\ carry < 1000000000 /\ val o + 1000000000 ^ u * carry = val (a.take (j + 1)) * val b, fun _ t _ => n + s + 2 - t.toNat,
        ⟨j + s, o2, by omega, by omega, hol2, hblk2, hx2, hlo2, hc0, hc1, hv2⟩, ?_⟩
      intro junk2 wr3 carry2 t2 ⟨u, o3, hu, hun, hol3, hblk3, hx3, hlo3, hd0, hd1, hv3⟩
      subst hu
      refine ifD (fun hpos => ?_) (fun hno => ?_)
      · have hu2 : u < j + 1 + s := by
          rcases Nat.lt_or_ge u (j + 1 + s) with h | h
          · exact h
          · exfalso
            have p1 : (1000000000 : Int) ^ (j + 1 + s) <= 1000000000 ^ u := by
              have : (1000000000 : Nat) ^ (j + 1 + s) <= 1000000000 ^ u := Nat.pow_le_pow_right (by decide) h
              have := Int.ofNat_le.2 this
              simpa using this
            have p2 : (1000000000 : Int) ^ u * 1 <= 1000000000 ^ u * carry2 := Int.mul_le_mul_of_nonneg_left (by omega) (Int.le_of_lt (Int.pow_pos (by decide)))
            have := val_nonneg hlo3
            omega
        have O := hlo3.getD u
        refine ⟨⟨by omega, by omega⟩, _, blk_get hblk3 (by omega) (by omega), ?_⟩
        simp only [Int.toNat_natCast]
        refine exW ⟨by omega, by omega⟩ ⟨by decide, _, rfl, ⟨by omega, by omega⟩, ?_⟩
        rw [tmod_limb (by omega)]
        obtain ⟨w4, hst, hb4, hch, hsz⟩ := blk_set hblk3 (i := (u : Int)) (by omega) (by omega) ((carry2 + o3.getD u 0) % 1000000000)
        simp only [Int.toNat_natCast] at hst hb4
        refine ⟨w4, hst, by decide, ?_⟩
        rw [tdiv_limb (by omega)]
        refine exW ⟨by omega, by omega⟩ (exW ⟨by omega, by omega⟩ ⟨⟨u + 1, _, by omega, by omega, by simpa using hol3, hb4, hx3.chg hch (by simp; omega), hlo3.set (limb_mod _), by omega, by omega, carry_step (by omega) hv3 rfl⟩, ?_⟩)
        show n + s + 2 - ((u : Int) + 1).toNat < n + s + 2 - (u : Int).toNat
        omega
      · have hc : carry2 = 0 := by omega
        subst hc
        refine exW ⟨by omega, by omega⟩ ⟨⟨j + 1, o3, by omega, by omega, hol3, hblk3, hx3, hlo3, by omega⟩, ?_⟩
        show n - ((j : Int) + 1).toNat < n - (j : Int).toNat
        omega
  · have hjn' : j = n := by omega
    subst hjn'
    rw [List.take_of_length_le (by omega)] at hv
    have hown : Own wr w.heap.size T_int 1 (some ⟨r, 0, none⟩) (j + m + 1) (j + m + 1) (o.map (Value.int .i64)) := Own.of_blk hblk (by omega) (by simp [hol]) (by simp only [maxLen]; omega)
    refine Ret.at (impl_trim_c hown.ints) ?_
    rintro v w4 ⟨hv4, hw4, hr4⟩
    subst hv4; subst hw4
    refine ⟨_, _, _, rfl, _, _, _, rfl, ?_, hx⟩
    have e := trimL_eq hlo
    rw [hv] at e
    rw [<- e]
    have hle := trimL_len o
    have := hown.sub (m := (trimL o).length) (by omega)
    rwa [<- trimL_prefix] at this
end Go.Proofs.YtbgokfhcgcoipaaGreatDoor
namespace Go.Proofs.YtbgokfhcgcoipaaGreatDoor
open Go Go.Proofs.YtbgokfhcgcoipaaGreatDoor.Sx
theorem mid_get {w : World} {b off : Nat} {xs zs : List Value} {u : List Int} (h : Blk w b T_int (xs ++ u.map (Value.int .i64) ++ zs)) (hA : xs.length = off) {i : Nat} (hi : i < u.length) :
    Loads P T_int ((⟨b, off, none⟩ : Addr).add (i * 1)) (.int .i64 (u.getD i 0)) w := by
  rw [Nat.mul_one]
  refine (h.segMid hA).load (by kernel_rfl) ?_
  rw [List.getElem?_map, List.getD_eq_getElem?_getD, List.getElem?_eq_getElem hi]; rfl
theorem mid_set {w : World} {b off : Nat} {xs zs : List Value} {u : List Int} (h : Blk w b T_int (xs ++ u.map (Value.int .i64) ++ zs)) (hA : xs.length = off) {i : Nat} (hi : i < u.length) (x : Int) :
    ∃ w', Stores P T_int ((⟨b, off, none⟩ : Addr).add (i * 1)) (.int .i64 x) w w' /\ Blk w' b T_int (xs ++ (u.set i x).map (Value.int .i64) ++ zs) /\ Chg [b] w w' /\ w'.heap.size = w.heap.size := by
  obtain ⟨w', h1, h2, h3, h4⟩ := h.storeMid (P := P) (t := T_int) (v := .int .i64 x) hA i (by simpa using hi) (by kernel_rfl) rfl (a := (⟨b, off, none⟩ : Addr).add (i * 1)) (by rw [addr_add, Nat.mul_one])
  exact ⟨w', h1, by rw [List.map_set]; exact h2, h3, h4⟩
theorem getD_set_ne {u : List Int} {i j : Nat} (x : Int) (h : i ≠ j) : (u.set i x).getD j 0 = u.getD j 0 := by
  rw [List.getD_eq_getElem?_getD, List.getElem?_set_ne h, <- List.getD_eq_getElem?_getD]
theorem getD_set_eq {u : List Int} {i : Nat} (x : Int) (h : i < u.length) : (u.set i x).getD i 0 = x := by
  rw [List.getD_eq_getElem?_getD, List.getElem?_set_self h]; rfl
theorem take_set_succ {u : List Int} {j : Nat} {x : Int} (hj : j < u.length) (hl : Limbs (u.take j)) (hx : 0 <= x /\ x < 1000000000) : Limbs ((u.set j x).take (j + 1)) := by
  have e : (u.set j x).take (j + 1) = u.take j ++ [x] := by
    rw [List.take_add_one, List.getElem?_set_self hj, List.take_set_of_le (Nat.le_refl _)]; rfl
  rw [e]
  exact hl.snoc hx
theorem top_sign {X M y : Int} (h0 : 0 <= X) (h1 : X < M) : (X + M * y < 0 ↔ y < 0) := by
  constructor
  · intro h
    by_cases hy : y < 0
    · exact hy
    · have := Int.mul_nonneg (show 0 <= M by omega) (show 0 <= y by omega)
      omega
  · intro hy
    have := Int.mul_le_mul_of_nonneg_left (show y <= -1 by omega) (show 0 <= M by omega)
    omega
theorem val_top {u : List Int} {m : Nat} (h : u.length = m + 1) : val u = val (u.take m) + 1000000000 ^ m * u.getD m 0 := by
  have := val_take_succ u m
  rwa [List.take_of_length_le (by omega)] at this
theorem mul_same {a x y : Int} (h : x = y) : a * x = a * y := by rw [h]
theorem subt_step {u vs : List Int} {j : Nat} {x borrow y b' V : Int} (hj : j < u.length) (hv : val u = V - x * val (vs.take j) + 1000000000 ^ j * borrow)
    (hy : y = u.getD j 0 - vs.getD j 0 * x - borrow + 1000000000 * b') : val (u.set j y) = V - x * val (vs.take (j + 1)) + 1000000000 ^ (j + 1) * b' := by
  rw [val_set u _ hj, val_take_succ, Int.pow_succ, Int.mul_assoc]
  have e : (1000000000 : Int) ^ j * (y - u.getD j 0) = 1000000000 ^ j * (1000000000 * b') - 1000000000 ^ j * borrow - x * (1000000000 ^ j * vs.getD j 0) := by
    have : x * (1000000000 ^ j * vs.getD j 0) = (1000000000 : Int) ^ j * (vs.getD j 0 * x) := by
      rw [Int.mul_comm, Int.mul_assoc]
    rw [this, <- Int.mul_sub, <- Int.mul_sub]; exact mul_same (by omega)
  rw [Int.mul_add]
  omega
theorem impl_subTimes_c {w : World} {b off m c d : Nat} {q : Option Addr} {xs zs : List Value} {u vs : List Int} {x : Int} (h : Blk w b T_int (xs ++ u.map (Value.int .i64) ++ zs)) (hA : xs.length = off) (hu : u.length = m + 1)
    (k : IntsR w q m d vs) (hq : ∀ z, q.map (·.block) = some z -> z ≠ b) (hlu : Limbs u) (hlv : Limbs vs) (hx : 0 <= x /\ x < 1000000000) (hm : m <= 10000000) :
    Ret P n_impl_subTimes [.slice (some ⟨b, off, none⟩) (m + 1) c, .slice q m d, .int .i64 x] w fun v w' => ∃ u' : List Int, v = .bool (decide (val u' < 0)) /\ u'.length = m + 1 /\ Blk w' b T_int (xs ++ u'.map (Value.int .i64) ++ zs) /\ Chg [b] w w' /\ w'.heap.size = w.heap.size /\ Limbs (u'.take m) /\ val u' = val u - x * val vs := by
  refine impl_subTimes_ret ?_
  unfold impl_subTimes
  have hlv1 := k.1
  refine ⟨fun borrow t wr => ∃ (j : Nat) (o : List Int), t = j /\ j <= m /\ o.length = m + 1 /\ Blk wr b T_int (xs ++ o.map (Value.int .i64) ++ zs) /\ Chg [b] w wr /\ wr.heap.size = w.heap.size /\ Limbs (o.take j) /\ (∀ i, j <= i -> o.getD i 0 = u.getD i 0) /\ 0 <= borrow /\ borrow < 1000000000 /\ val o = val u - x * val (vs.take j) + 1000000000 ^ j * borrow, fun _ t _ => m - t.toNat,
    ⟨0, u, rfl, by omega, hu, h, Chg.refl _ _, rfl, by simp [Limbs], fun _ _ => rfl, by omega, by omega, by simp [val]⟩, ?_⟩
  intro junk wr borrow t ⟨j, o, ht, hjm, ho, hb, hch, hsz, hlo, hsame, hb0, hb1, hval⟩
  subst ht
  have kr := k.chg hch (fun z hz hm => hq z hz (by simpa using hm))
  refine ifD (fun hlt => ?_) (fun hge => ?_)
  · have U := hlu.getD j; have V := hlv.getD j
    have M := mul_limb V hx
    rw [<- hsame j (Nat.le_refl _)] at U
    obtain ⟨ad, rfl, hl⟩ := ints_at kr (i := (j : Int)) (by omega) hlt
    simp only [Int.toNat_natCast] at hl
    refine ⟨⟨by omega, by omega⟩, _, by simpa only [Int.toNat_natCast] using hl, ⟨by omega, by omega⟩, _, by simpa only [Int.toNat_natCast] using mid_get hb hA (show j < o.length by omega), exW ⟨by omega, by omega⟩ (exW ⟨by omega, by omega⟩ (exW ⟨by omega, by omega⟩ ?_))⟩
    have fin : ∀ y b' : Int, 0 <= y -> y < 1000000000 -> 0 <= b' -> b' < 1000000000 -> y = o.getD j 0 - vs.getD j 0 * x - borrow + 1000000000 * b' ->
        ∃ w', Stores P T_int ((⟨b, off, none⟩ : Addr).add (j * 1)) (.int .i64 y) wr w' /\ ∃ (i : Nat) (o : List Int), ((j : Int) + 1) = i /\ i <= m /\ o.length = m + 1 /\ Blk w' b T_int (xs ++ o.map (Value.int .i64) ++ zs) /\ Chg [b] w w' /\ w'.heap.size = w.heap.size /\ Limbs (o.take i) /\ (∀ z, i <= z -> o.getD z 0 = u.getD z 0) /\ 0 <= b' /\ b' < 1000000000 /\ val o = val u - x * val (vs.take i) + 1000000000 ^ i * b' := fun y b' y0 y1 b0 b1 e => by
      obtain ⟨w3, st, hb3, ch3, sz3⟩ := mid_set hb hA (show j < o.length by omega) y
      exact ⟨w3, st, j + 1, _, by omega, by omega, by simpa using ho, hb3, hch.trans ch3, by omega, take_set_succ (by omega) hlo ⟨y0, y1⟩, fun z hz => by rw [getD_set_ne _ (by omega)]; exact hsame z (by omega), b0, b1, subt_step (by omega) hval e⟩
    refine ifD (fun hneg => ?_) (fun hpos => ?_)
    · refine exW ⟨by omega, by omega⟩ (exW ⟨by omega, by omega⟩ (exW ⟨by omega, by omega⟩ ⟨by decide, ?_⟩))
      rw [tdiv_limb (by omega)]
      refine exW ⟨by omega, by omega⟩ (exW ⟨by omega, by omega⟩ (exW ⟨by omega, by omega⟩ ?_))
      unfold impl_subTimes_j0
      obtain ⟨w3, st, inv⟩ := fin (o.getD j 0 - vs.getD j 0 * x - borrow + (0 - (o.getD j 0 - vs.getD j 0 * x - borrow) + 1000000000 - 1) / 1000000000 * 1000000000) ((0 - (o.getD j 0 - vs.getD j 0 * x - borrow) + 1000000000 - 1) / 1000000000) (by omega) (by omega) (by omega) (by omega) (by omega)
      refine ⟨⟨by omega, by omega⟩, w3, by simpa only [Int.toNat_natCast] using st, exW ⟨by omega, by omega⟩ ⟨inv, ?_⟩⟩
      show m - ((j : Int) + 1).toNat < m - (j : Int).toNat
      omega
    · unfold impl_subTimes_j0
      obtain ⟨w3, st, inv⟩ := fin (o.getD j 0 - vs.getD j 0 * x - borrow) 0 (by omega) (by omega) (by omega) (by omega) (by omega)
      refine ⟨⟨by omega, by omega⟩, w3, by simpa only [Int.toNat_natCast] using st, exW ⟨by omega, by omega⟩ ⟨inv, ?_⟩⟩
      show m - ((j : Int) + 1).toNat < m - (j : Int).toNat
      omega
  · have hjm' : j = m := by omega
    subst hjm'
    rw [List.take_of_length_le (show vs.length <= j by omega)] at hval
    have U := hlu.getD j
    rw [<- hsame j (Nat.le_refl _)] at U
    refine ⟨⟨by omega, by omega⟩, _, mid_get hb hA (show j < o.length by omega), exW ⟨by omega, by omega⟩ ⟨⟨by omega, by omega⟩, ?_⟩⟩
    obtain ⟨w3, st, hb3, ch3, sz3⟩ := mid_set hb hA (show j < o.length by omega) (o.getD j 0 - borrow)
    have hl3 : (o.set j (o.getD j 0 - borrow)).length = j + 1 := by simpa using ho
    have ht3 : (o.set j (o.getD j 0 - borrow)).take j = o.take j := List.take_set_of_le (Nat.le_refl _)
    have g3 := getD_set_eq (o.getD j 0 - borrow) (show j < o.length by omega)
    have hL3 : Limbs ((o.set j (o.getD j 0 - borrow)).take j) := by rw [ht3]; exact hlo
    refine ⟨w3, st, ⟨by omega, by omega⟩, _, mid_get hb3 hA (show j < _ by omega), _, ?_, hl3, hb3, hch.trans ch3, by omega, hL3, ?_⟩
    · have hn := val_nonneg hL3; have hlt3 := val_lt hL3
      have hlen : ((o.set j (o.getD j 0 - borrow)).take j).length = j := by rw [List.length_take]; omega
      rw [hlen] at hlt3
      have := top_sign (y := (o.set j (o.getD j 0 - borrow)).getD j 0) hn hlt3
      rw [val_top hl3]
      simp only [this]
    · rw [val_set _ _ (by omega)]
      have : (1000000000 : Int) ^ j * (o.getD j 0 - borrow - o.getD j 0) = - (1000000000 ^ j * borrow) := by
        rw [<- Int.mul_neg]; exact mul_same (by omega)
      omega
theorem impl_addBack_c {w : World} {b off m c d : Nat} {q : Option Addr} {xs zs : List Value} {u vs : List Int} (h : Blk w b T_int (xs ++ u.map (Value.int .i64) ++ zs)) (hA : xs.length = off) (hu : u.length = m + 1)
    (k : IntsR w q m d vs) (hq : ∀ z, q.map (·.block) = some z -> z ≠ b) (hlu : Limbs (u.take m)) (hlv : Limbs vs) (ht : -1000000000 <= u.getD m 0 /\ u.getD m 0 <= 1000000000) (hm : m <= 10000000) :
    Ret P n_impl_addBack [.slice (some ⟨b, off, none⟩) (m + 1) c, .slice q m d] w fun v w' => ∃ u' : List Int, v = .tuple #[] /\ u'.length = m + 1 /\ Blk w' b T_int (xs ++ u'.map (Value.int .i64) ++ zs) /\ Chg [b] w w' /\ w'.heap.size = w.heap.size /\ Limbs (u'.take m) /\ val u' = val u + val vs := by
  refine impl_addBack_ret ?_
  unfold impl_addBack
  have hlv1 := k.1
  refine ⟨fun carry t wr => ∃ (j : Nat) (o : List Int), t = j /\ j <= m /\ o.length = m + 1 /\ Blk wr b T_int (xs ++ o.map (Value.int .i64) ++ zs) /\ Chg [b] w wr /\ wr.heap.size = w.heap.size /\ Limbs (o.take j) /\ (∀ i, j <= i -> o.getD i 0 = u.getD i 0) /\ 0 <= carry /\ carry <= 1 /\ val o + 1000000000 ^ j * carry = val u + val (vs.take j), fun _ t _ => m - t.toNat,
    ⟨0, u, rfl, by omega, hu, h, Chg.refl _ _, rfl, by simp [Limbs], fun _ _ => rfl, by omega, by omega, by simp [val]⟩, ?_⟩
  intro junk wr carry t ⟨j, o, htj, hjm, ho, hb, hch, hsz, hlo, hsame, hb0, hb1, hval⟩
  subst htj
  have kr := k.chg hch (fun z hz hm => hq z hz (by simpa using hm))
  refine ifD (fun hlt => ?_) (fun hge => ?_)
  · have V := hlv.getD j
    have U : 0 <= o.getD j 0 /\ o.getD j 0 < 1000000000 := by
      rw [hsame j (Nat.le_refl _)]
      have := hlu.getD j
      rwa [List.getD_eq_getElem?_getD, List.getElem?_take_of_lt (by omega), <- List.getD_eq_getElem?_getD] at this
    obtain ⟨ad, rfl, hl⟩ := ints_at kr (i := (j : Int)) (by omega) hlt
    simp only [Int.toNat_natCast] at hl
    refine ⟨⟨by omega, by omega⟩, _, by simpa only [Int.toNat_natCast] using hl, ⟨by omega, by omega⟩, _, by simpa only [Int.toNat_natCast] using mid_get hb hA (show j < o.length by omega), exW ⟨by omega, by omega⟩ (exW ⟨by omega, by omega⟩ ⟨by decide, _, rfl, ⟨by omega, by omega⟩, ?_⟩)⟩
    rw [tmod_limb (by omega)]
    obtain ⟨w3, st, hb3, ch3, sz3⟩ := mid_set hb hA (show j < o.length by omega) ((carry + (o.getD j 0 + vs.getD j 0)) % 1000000000)
    refine ⟨w3, by simpa only [Int.toNat_natCast] using st, by decide, ?_⟩
    rw [tdiv_limb (by omega)]
    refine exW ⟨by omega, by omega⟩ (exW ⟨by omega, by omega⟩ ⟨⟨j + 1, _, by omega, by omega, by simpa using ho, hb3, hch.trans ch3, by omega, take_set_succ (by omega) hlo (limb_mod _), fun z hz => by rw [getD_set_ne _ (by omega)]; exact hsame z (by omega), by omega, by omega, ?_⟩, ?_⟩)
    · rw [val_set o _ (by omega), val_take_succ, Int.pow_succ, Int.mul_assoc]
      have e : (1000000000 : Int) ^ j * ((carry + (o.getD j 0 + vs.getD j 0)) % 1000000000 - o.getD j 0) + 1000000000 ^ j * (1000000000 * ((carry + (o.getD j 0 + vs.getD j 0)) / 1000000000)) = 1000000000 ^ j * carry + 1000000000 ^ j * vs.getD j 0 := by
        rw [<- Int.mul_add, <- Int.mul_add]; exact mul_same (by omega)
      omega
    · show m - ((j : Int) + 1).toNat < m - (j : Int).toNat
      omega
  · have hjm' : j = m := by omega
    subst hjm'
    rw [List.take_of_length_le (show vs.length <= j by omega)] at hval
    have hs := hsame j (Nat.le_refl _)
    rw [<- hs] at ht
    refine ⟨⟨by omega, by omega⟩, _, mid_get hb hA (show j < o.length by omega), exW ⟨by omega, by omega⟩ ⟨⟨by omega, by omega⟩, ?_⟩⟩
    obtain ⟨w3, st, hb3, ch3, sz3⟩ := mid_set hb hA (show j < o.length by omega) (o.getD j 0 + carry)
    have ht3 : (o.set j (o.getD j 0 + carry)).take j = o.take j := List.take_set_of_le (Nat.le_refl _)
    refine ⟨w3, st, _, rfl, by simpa using ho, hb3, hch.trans ch3, by omega, by rw [ht3]; exact hlo, ?_⟩
    rw [val_set _ _ (by omega)]
    have : (1000000000 : Int) ^ j * (o.getD j 0 + carry - o.getD j 0) = 1000000000 ^ j * carry := mul_same (by omega)
    omega
theorem impl_natSmall_c {w : World} {p : Option Addr} {n c : Nat} {a : List Int} {d : Int} (h : IntsR w p n c a) (ha : Limbs a) (hd : 0 < d /\ d < 1000000000) (hn : n <= 10000000) :
    Ret P n_impl_natSmall [.slice p n c, .int .i64 d] w fun v w' => ∃ p' n' c', v = .tuple #[.slice p' n' c', .int .i64 (val a % d)] /\ Own w' w.heap.size T_int 1 p' n' c' ((digs (val a / d).toNat).map (Value.int .i64)) /\ Ext w w' := by
  refine impl_natSmall_ret ?_
  unfold impl_natSmall
  have hla := h.1
  refine ⟨⟨by omega, by omega, by omega⟩, fun r w1 hn1 => exW ⟨by omega, by omega⟩ ?_⟩
  have hre := hn1.r_eq
  have hb1 := hn1.blk
  rw [zeroRow_int, Nat.mul_one] at hb1
  refine ⟨fun rest i wr => ∃ (s : Nat) (o : List Int), i = (s : Int) - 1 /\ s <= n /\ o.length = n /\ Blk wr r T_int (o.map (Value.int .i64)) /\ Ext w wr /\ Limbs o /\ 0 <= rest /\ rest < d /\ val (a.drop s) = d * val (o.drop s) + rest, fun _ i _ => (i + 1).toNat,
    ⟨n, List.replicate n 0, rfl, by omega, by simp, by simpa using hb1, hn1.ext, fun x hx => by simp at hx; omega, by omega, by omega, by rw [List.drop_of_length_le (by omega), List.drop_of_length_le (by simp)]; simp [val]⟩, ?_⟩
  intro junk wr rest i ⟨s, o, hi, hsn, hol, hblk, hx, hlo, hr0, hr1, hv⟩
  subst hi
  refine ifD (fun hlt => ?_) (fun hge => ?_)
  · obtain ⟨t, rfl⟩ : ∃ t, s = t + 1 := ⟨s - 1, by omega⟩
    have A := ha.getD t
    have e1 : (((t + 1 : Nat) : Int) - 1).toNat = t := by omega
    obtain ⟨ad, rfl, hl⟩ := ints_at (h.ext hx) (i := ((t + 1 : Nat) : Int) - 1) (by omega) (by omega)
    rw [e1] at hl ⊢
    have T1 : rest * 1000000000 + a.getD t 0 < 1000000000 * d := by
      have : rest * 1000000000 <= (d - 1) * 1000000000 := Int.mul_le_mul_of_nonneg_right (by omega) (by omega)
      omega
    have T0 : 0 <= rest * 1000000000 + a.getD t 0 := by omega
    have Y0 : 0 <= (rest * 1000000000 + a.getD t 0) / d := Int.ediv_nonneg T0 (by omega)
    have Y1 : (rest * 1000000000 + a.getD t 0) / d < 1000000000 := Int.ediv_lt_of_lt_mul (by omega) T1
    have Z0 := Int.emod_nonneg (rest * 1000000000 + a.getD t 0) (show d ≠ 0 by omega)
    have Z1 := Int.emod_lt_of_pos (rest * 1000000000 + a.getD t 0) hd.1
    have Q := Int.mul_ediv_add_emod (rest * 1000000000 + a.getD t 0) d
    refine exW ⟨by omega, by omega⟩ ⟨⟨by omega, by omega⟩, _, hl, exW ⟨by omega, by omega⟩ ⟨by omega, ?_⟩⟩
    rw [Int.tdiv_eq_ediv_of_nonneg T0, Int.tmod_eq_emod_of_nonneg T0]
    obtain ⟨w3, st, hb3, ch3, sz3⟩ := blk_set hblk (i := (t : Int)) (by omega) (by omega) ((rest * 1000000000 + a.getD t 0) / d)
    simp only [Int.toNat_natCast] at st hb3
    refine exW ⟨by omega, by omega⟩ ⟨⟨by omega, by omega⟩, w3, st, by omega, _, rfl, exW ⟨by omega, by omega⟩ ⟨⟨t, _, by omega, by omega, by simpa using hol, hb3, hx.chg ch3 (by simp; omega), hlo.set ⟨Y0, Y1⟩, Z0, Z1, ?_⟩, ?_⟩⟩
    · have ea : a.drop t = a.getD t 0 :: a.drop (t + 1) := by
        rw [List.drop_eq_getElem_cons (by omega), List.getD_eq_getElem?_getD, List.getElem?_eq_getElem (by omega)]; rfl
      have eo : (o.set t ((rest * 1000000000 + a.getD t 0) / d)).drop t = (rest * 1000000000 + a.getD t 0) / d :: o.drop (t + 1) := by
        rw [List.drop_eq_getElem_cons (by simp; omega), List.getElem_set_self, List.drop_set_of_lt (by omega)]
      rw [ea, eo, val, val, hv, Int.mul_add d]
      have : d * (1000000000 * val (o.drop (t + 1))) = 1000000000 * (d * val (o.drop (t + 1))) := by rw [Int.mul_left_comm]
      omega
    · show (((t + 1 : Nat) : Int) - 1 - 1 + 1).toNat < (((t + 1 : Nat) : Int) - 1 + 1).toNat
      omega
  · have hs0 : s = 0 := by omega
    subst hs0
    simp only [List.drop_zero] at hv
    have hown : Own wr w.heap.size T_int 1 (some ⟨r, 0, none⟩) n n (o.map (Value.int .i64)) := Own.of_blk hblk (by omega) (by simp [hol]) (by simp only [maxLen]; omega)
    refine Ret.at (impl_trim_c hown.ints) ?_
    rintro v w4 ⟨hv4, hw4, hr4⟩
    subst hv4; subst hw4
    have e1 : val a / d = val o := by rw [hv, Int.mul_comm, Int.add_comm, Int.add_mul_ediv_right _ _ (by omega), Int.ediv_eq_zero_of_lt hr0 hr1, Int.zero_add]
    have e2 : val a % d = rest := by rw [hv, Int.mul_comm, Int.add_comm, Int.add_mul_emod_self_right, Int.emod_eq_of_lt hr0 hr1]
    refine ⟨_, _, _, rfl, _, _, _, by rw [e2], ?_, hx⟩
    rw [e1, <- trimL_eq hlo]
    have hle := trimL_len o
    have := hown.sub (m := (trimL o).length) (by omega)
    rwa [<- trimL_prefix] at this
end Go.Proofs.YtbgokfhcgcoipaaGreatDoor
namespace Go.Proofs.YtbgokfhcgcoipaaGreatDoor
open Go Go.Proofs.YtbgokfhcgcoipaaGreatDoor.Sx
theorem pow_pos9 (k : Nat) : (0 : Int) < 1000000000 ^ k := Int.pow_pos (by decide)
theorem val_top2 {v : List Int} {m : Nat} (h : v.length = m + 2) : val v = val (v.take m) + 1000000000 ^ m * (1000000000 * v.getD (m + 1) 0 + v.getD m 0) := by
  rw [val_top (m := m + 1) h, val_take_succ, Int.pow_succ, Int.mul_add, Int.mul_assoc]
  omega
theorem val_top3 {u : List Int} {m : Nat} (h : u.length = m + 3) : val u = val (u.take m) + 1000000000 ^ m * ((u.getD (m + 2) 0 * 1000000000 + u.getD (m + 1) 0) * 1000000000 + u.getD m 0) := by
  have e2 : (1000000000 : Int) ^ (m + 2) = 1000000000 ^ m * 1000000000 * 1000000000 := by rw [show m + 2 = (m + 1) + 1 from rfl, Int.pow_succ, Int.pow_succ]
  have e1 : (1000000000 : Int) ^ (m + 1) = 1000000000 ^ m * 1000000000 := Int.pow_succ _ _
  rw [val_top (m := m + 2) h, val_take_succ, val_take_succ, e2, e1]
  have : (1000000000 : Int) ^ m * ((u.getD (m + 2) 0 * 1000000000 + u.getD (m + 1) 0) * 1000000000 + u.getD m 0) = 1000000000 ^ m * u.getD m 0 + 1000000000 ^ m * 1000000000 * u.getD (m + 1) 0 + 1000000000 ^ m * 1000000000 * 1000000000 * u.getD (m + 2) 0 := by
    rw [Int.mul_assoc (1000000000 ^ m * 1000000000), Int.mul_assoc (1000000000 ^ m), Int.mul_assoc (1000000000 ^ m), <- Int.mul_add, <- Int.mul_add]
    exact mul_same (by omega)
  omega
theorem take_bounds {u : List Int} {m : Nat} (h : Limbs u) (hm : m <= u.length) : 0 <= val (u.take m) /\ val (u.take m) < 1000000000 ^ m := by
  have h1 := val_nonneg (h.take m); have h2 := val_lt (h.take m)
  have : (u.take m).length = m := by rw [List.length_take]; omega
  rw [this] at h2
  exact ⟨h1, h2⟩
theorem guess0 {M ul vl T top u2 v1 v2 q D V : Int} (hM : 0 < M) (hul : ul < M) (hvl : 0 <= vl) (hD : D = ul + M * T) (hV : V = vl + M * (1000000000 * v1 + v2)) (hT : T = top * 1000000000 + u2) (hu2 : u2 < 1000000000) (hv2 : 0 <= v2) (hq : 0 <= q) (h : top < (q + 1) * v1) : D < (q + 1) * V := by
  have h1 : (q + 1) * (1000000000 * v1) = 1000000000 * ((q + 1) * v1) := Int.mul_left_comm _ _ _
  have h2 : 0 <= (q + 1) * v2 := Int.mul_nonneg (by omega) hv2
  have h3 : T + 1 <= (q + 1) * (1000000000 * v1 + v2) := by rw [Int.mul_add]; omega
  have h4 : M * (T + 1) <= M * ((q + 1) * (1000000000 * v1 + v2)) := Int.mul_le_mul_of_nonneg_left h3 (by omega)
  have h5 : 0 <= (q + 1) * vl := Int.mul_nonneg (by omega) hvl
  rw [hV, Int.mul_add, Int.mul_left_comm (q + 1) M]
  rw [Int.mul_add] at h4
  omega
theorem guess1 {M ul vl T v12 q D V : Int} (hM : 0 < M) (hul : ul < M) (hvl : 0 <= vl) (hD : D = ul + M * T) (hV : V = vl + M * v12) (hq : 0 <= q) (h : T < q * v12) : D < q * V := by
  have h4 : M * (T + 1) <= M * (q * v12) := Int.mul_le_mul_of_nonneg_left (by omega) (by omega)
  have h5 : 0 <= q * vl := Int.mul_nonneg hq hvl
  rw [hV, Int.mul_add, Int.mul_left_comm q M]
  rw [Int.mul_add] at h4
  omega
theorem guess2 {M ul vl T v1 v2 q D V : Int} (hM : 0 < M) (hul : 0 <= ul) (hvl : 0 <= vl /\ vl < M) (hD : D = ul + M * T) (hV : V = vl + M * (1000000000 * v1 + v2)) (hv1 : 1 <= v1) (hv2 : 0 <= v2) (hq : 0 <= q /\ q < 1000000000) (h : q * (1000000000 * v1 + v2) <= T) : q * V <= D + V := by
  have h1 : q * vl <= q * M := Int.mul_le_mul_of_nonneg_left (by omega) hq.1
  have h2 : M * (q * (1000000000 * v1 + v2)) <= M * T := Int.mul_le_mul_of_nonneg_left h (by omega)
  have h3 : M * q <= M * (1000000000 * v1 + v2) := Int.mul_le_mul_of_nonneg_left (by omega) (by omega)
  rw [Int.mul_comm q M] at h1
  have e : q * V = q * vl + M * (q * (1000000000 * v1 + v2)) := by rw [hV, Int.mul_add, Int.mul_left_comm q M]
  omega
theorem impl_divStep_c {w : World} {b off m c d : Nat} {q : Option Addr} {xs zs : List Value} {u vs : List Int} (h : Blk w b T_int (xs ++ u.map (Value.int .i64) ++ zs)) (hA : xs.length = off) (hu : u.length = m + 1)
    (k : IntsR w q m d vs) (hq : ∀ z, q.map (·.block) = some z -> z ≠ b) (hlu : Limbs u) (hlv : Limbs vs) (htop : 1 <= vs.getD (m - 1) 0) (hm2 : 2 <= m) (hm : m <= 10000000) (hD : val u < 1000000000 * val vs) :
    Ret P n_impl_divStep [.slice (some ⟨b, off, none⟩) (m + 1) c, .slice q m d] w fun v w' => ∃ (x : Int) (u' : List Int), v = .int .i64 x /\ 0 <= x /\ x < 1000000000 /\ u'.length = m + 1 /\ Blk w' b T_int (xs ++ u'.map (Value.int .i64) ++ zs) /\ Chg [b] w w' /\ Limbs u' /\ val u' = val u - x * val vs /\ 0 <= val u' /\ val u' < val vs := by
  refine impl_divStep_ret ?_
  unfold impl_divStep
  have hvl := k.1
  obtain ⟨t, rfl⟩ : ∃ t, m = t + 2 := ⟨m - 2, by omega⟩
  have e1 : t + 2 - 1 = t + 1 := by omega
  rw [e1] at htop
  have U2 := hlu.getD (t + 2); have U1 := hlu.getD (t + 1); have U0 := hlu.getD t
  have V1 := hlv.getD (t + 1); have V0 := hlv.getD t
  have eu := val_top3 hu
  have ev := val_top2 hvl
  have bu := take_bounds (m := t) hlu (by omega); have bv := take_bounds (m := t) hlv (by omega)
  have hM := pow_pos9 t
  have hX := Ext.drew w
  have hbd := h.ext hX
  have kd := k.ext hX
  have i1 : ((t + 2 : Nat) : Int) - 1 = ((t + 1 : Nat) : Int) := by omega
  have i2 : ((t + 2 : Nat) : Int) - 2 = ((t : Nat) : Int) := by omega
  have lu : ∀ {W : World} {i : Nat}, Ext w W -> i < t + 3 -> Loads P T_int ((⟨b, off, none⟩ : Addr).add (i * 1)) (.int .i64 (u.getD i 0)) W := fun hW hi => mid_get (h.ext hW) hA (by omega)
  have lv : ∃ av, q = some av /\ ∀ {W : World} {i : Nat}, Ext w W -> i < t + 2 -> Loads P T_int (av.add (i * 1)) (.int .i64 (vs.getD i 0)) W := by
    obtain ⟨bq, oq, hqe, _⟩ := k.2.2.2 (by omega)
    refine ⟨⟨bq, oq, none⟩, hqe, fun {W i} hW hi => ?_⟩
    obtain ⟨ad, hqa, hl⟩ := ints_at (k.ext hW) (i := (i : Int)) (by omega) (by omega)
    rw [hqe] at hqa
    obtain rfl := Option.some.inj hqa
    simpa only [Int.toNat_natCast] using hl
  obtain ⟨av, rfl, lv⟩ := lv
  have T1 : u.getD (t + 2) 0 * 1000000000 + u.getD (t + 1) 0 < 1000000000000000000 := by omega
  have T0 : 0 <= u.getD (t + 2) 0 * 1000000000 + u.getD (t + 1) 0 := by omega
  generalize htp : u.getD (t + 2) 0 * 1000000000 + u.getD (t + 1) 0 = top at eu T1 T0
  have Q0 : 0 <= top / vs.getD (t + 1) 0 := Int.ediv_nonneg T0 (by omega)
  have Q1 : top / vs.getD (t + 1) 0 <= top := Int.ediv_le_self _ T0
  have Qm := Int.mul_ediv_add_emod top (vs.getD (t + 1) 0)
  have Qr := Int.emod_lt_of_pos top (show 0 < vs.getD (t + 1) 0 by omega)
  have Qr0 := Int.emod_nonneg top (show vs.getD (t + 1) 0 ≠ 0 by omega)
  refine ⟨⟨by omega, by omega⟩, _, fun W hW => lu (hX.trans hW) (by omega), exW ⟨by omega, by omega⟩ (exW ⟨by omega, by omega⟩ ?_)⟩
  rw [i1]
  refine ⟨⟨by omega, by omega⟩, _, fun W hW => by simpa only [Int.toNat_natCast] using lu (i := t + 1) (hX.trans hW) (by omega), ?_⟩
  rw [htp]
  refine exW ⟨by omega, by omega⟩ (exW ⟨by omega, by omega⟩ ⟨⟨by omega, by omega⟩, _, by simpa only [Int.toNat_natCast] using lv (i := t + 1) hX (by omega), by omega, ?_⟩)
  rw [Int.tdiv_eq_ediv_of_nonneg T0]
  refine exW ⟨by omega, by omega⟩ ⟨_, rfl, ?_⟩
  refine ⟨fun z wr => Ext w wr /\ 0 <= z /\ z < 1000000000 /\ z * vs.getD (t + 1) 0 <= top /\ val u < (z + 1) * val vs, fun z _ => z.toNat, ⟨hX, ?_, ?_, ?_, ?_⟩, ?_⟩
  · split <;> omega
  · split <;> omega
  · have : ∀ z, z <= top / vs.getD (t + 1) 0 -> z * vs.getD (t + 1) 0 <= top := fun z hz => by
      have := Int.mul_le_mul_of_nonneg_right hz (show 0 <= vs.getD (t + 1) 0 by omega)
      rw [Int.mul_comm (top / _)] at this
      omega
    apply this; split <;> omega
  · split
    · show val u < (999999999 + 1) * val vs
      omega
    · refine guess0 hM bu.2 bv.1 eu ev rfl U0.2 V0.1 Q0 ?_
      rw [Int.add_mul, Int.mul_comm (top / _)]
      omega
  intro junk wr z ⟨hx, hz0, hz1, hzt, hzD⟩
  have fin : ∀ W, Ext w W -> z * val vs <= val u + val vs -> Ret P n_impl_subTimes [.slice (some ⟨b, off, none⟩) (t + 2 + 1) c, .slice (some av) (t + 2) d, .int .i64 z] W fun v w7 => ∃ bb, v = .bool bb /\ (bb = true -> ∃ t76, t76 = IntKind.wrap .i64 (z - 1) /\ Ret P n_impl_addBack [.slice (some ⟨b, off, none⟩) (t + 2 + 1) c, .slice (some av) (t + 2) d] w7 fun v2 w8 => v2 = .tuple #[] /\ ∃ (x : Int) (u' : List Int), Value.int .i64 t76 = .int .i64 x /\ 0 <= x /\ x < 1000000000 /\ u'.length = t + 2 + 1 /\ Blk w8 b T_int (xs ++ u'.map (Value.int .i64) ++ zs) /\ Chg [b] w w8 /\ Limbs u' /\ val u' = val u - x * val vs /\ 0 <= val u' /\ val u' < val vs) /\
      (bb = false -> ∃ (x : Int) (u' : List Int), Value.int .i64 z = .int .i64 x /\ 0 <= x /\ x < 1000000000 /\ u'.length = t + 2 + 1 /\ Blk w7 b T_int (xs ++ u'.map (Value.int .i64) ++ zs) /\ Chg [b] w w7 /\ Limbs u' /\ val u' = val u - x * val vs /\ 0 <= val u' /\ val u' < val vs) := by
    intro W hW hle
    refine (impl_subTimes_c (h.ext hW) hA hu (k.ext hW) hq hlu hlv ⟨hz0, hz1⟩ hm).mono ?_
    rintro v w7 ⟨u1, hv, hl1, hb1, ch1, sz1, hL1, hval1⟩
    have hvV := val_lt hlv
    rw [hvl] at hvV
    have hlen : (u1.take (t + 2)).length = t + 2 := by rw [List.length_take]; omega
    have lim : ∀ u2 : List Int, u2.length = t + 2 + 1 -> Limbs (u2.take (t + 2)) -> 0 <= val u2 -> val u2 < val vs -> Limbs u2 := fun u2 h1 h2 h3 h4 => by
      have a1 := val_nonneg h2; have a2 := val_lt h2
      have hl : (u2.take (t + 2)).length = t + 2 := by rw [List.length_take]; omega
      rw [hl] at a2
      have a3 := val_top h1
      have hp := pow_pos9 (t + 2)
      have b1 : ¬ u2.getD (t + 2) 0 < 0 := fun hn => by
        have := Int.mul_le_mul_of_nonneg_left (show u2.getD (t + 2) 0 <= -1 by omega) (Int.le_of_lt hp); omega
      have b2 : ¬ 0 < u2.getD (t + 2) 0 := fun hn => by
        have := Int.mul_le_mul_of_nonneg_left (show 1 <= u2.getD (t + 2) 0 by omega) (Int.le_of_lt hp); omega
      have e : u2 = u2.take (t + 2) ++ [u2.getD (t + 2) 0] := by
        conv => lhs; rw [<- List.take_of_length_le (show u2.length <= t + 2 + 1 by omega), List.take_add_one]
        rw [List.getElem?_eq_getElem (by omega), List.getD_eq_getElem?_getD, List.getElem?_eq_getElem (by omega)]; rfl
      rw [e]
      exact h2.snoc (by omega)
    rw [Int.add_mul] at hzD
    refine ⟨_, hv, fun hneg => exW ⟨by omega, by omega⟩ ?_, fun hpos => ?_⟩
    · have hneg := of_decide_eq_true hneg
      have hz1' : 1 <= z := by
        rcases Int.lt_or_le z 1 with h | h
        · have : z = 0 := by omega
          subst this
          have := val_nonneg hlu
          omega
        · exact h
      have a1 := val_nonneg hL1; have a2 := val_lt hL1
      rw [hlen] at a2
      have a3 := val_top hl1
      have hp := pow_pos9 (t + 2)
      have g : -1000000000 <= u1.getD (t + 2) 0 /\ u1.getD (t + 2) 0 <= 1000000000 := by
        constructor
        · rcases Int.lt_or_le (u1.getD (t + 2) 0) (-1000000000) with hn | hn
          · have := Int.mul_le_mul_of_nonneg_left (show u1.getD (t + 2) 0 <= -2 by omega) (Int.le_of_lt hp); omega
          · exact hn
        · rcases Int.lt_or_le 1000000000 (u1.getD (t + 2) 0) with hn | hn
          · have := Int.mul_le_mul_of_nonneg_left (show 0 <= u1.getD (t + 2) 0 by omega) (Int.le_of_lt hp); omega
          · exact hn
      refine (impl_addBack_c hb1 hA hl1 ((k.ext hW).chg ch1 (fun y hy hm => hq y hy (by simpa using hm))) hq hL1 hlv g hm).mono ?_
      rintro v w8 ⟨u2, hv2, hl2, hb2, ch2, sz2, hL2, hval2⟩
      have ev2 : val u2 = val u - (z - 1) * val vs := by rw [Int.sub_mul]; omega
      exact ⟨hv2, z - 1, u2, rfl, by omega, by omega, hl2, hb2, hW.toChg.trans (ch1.trans ch2), lim u2 hl2 hL2 (by omega) (by omega), ev2, by omega, by omega⟩
    · have hpos := of_decide_eq_false hpos
      exact ⟨z, u1, rfl, hz0, hz1, hl1, hb1, hW.toChg.trans ch1, lim u1 hl1 hL1 (by omega) (by omega), hval1, by omega, by omega⟩
  have hxd := hx.trans (Ext.drew wr)
  refine ifD (fun hpos => ?_) (fun hzero => ifF (ifF ?_))
  · have M0 := mul_limb V0 ⟨hz0, hz1⟩
    rw [Int.mul_comm] at M0
    have ZV : 0 <= z * vs.getD (t + 1) 0 := Int.mul_nonneg hz0 (by omega)
    refine exW ⟨by omega, by omega⟩ ?_
    rw [i2]
    refine ⟨⟨by omega, by omega⟩, _, fun W hW => by simpa only [Int.toNat_natCast] using lv (i := t + 1) (hxd.trans hW) (by omega), exW ⟨by omega, by omega⟩ (exW ⟨by omega, by omega⟩ (ifD (fun hr => ?_) (fun hr => ifF ?_)))⟩
    · refine exW ⟨by omega, by omega⟩ ⟨⟨by omega, by omega⟩, _, fun W hW => by simpa only [Int.toNat_natCast] using lv (i := t) (hxd.trans hW) (by omega), exW ⟨by omega, by omega⟩ (exW ⟨by omega, by omega⟩ ⟨⟨by omega, by omega⟩, _, fun W hW => by simpa only [Int.toNat_natCast] using lv (i := t + 1) (hxd.trans hW) (by omega), exW ⟨by omega, by omega⟩ (exW ⟨by omega, by omega⟩ (exW ⟨by omega, by omega⟩ (exW ⟨by omega, by omega⟩ ⟨⟨by omega, by omega⟩, _, fun W hW => by simpa only [Int.toNat_natCast] using lu (i := t) (hxd.trans hW) (by omega), exW ⟨by omega, by omega⟩ (ifD (fun hmore => ?_) (fun hdone => ?_))⟩)))⟩)⟩
      · refine exW ⟨by omega, by omega⟩ ⟨⟨hxd, by omega, by omega, ?_, ?_⟩, ?_⟩
        · rw [Int.sub_mul]; omega
        · have := guess1 (q := z) (T := top * 1000000000 + u.getD t 0) (v12 := 1000000000 * vs.getD (t + 1) 0 + vs.getD t 0) hM bu.2 bv.1 eu ev hz0 (by rw [Int.mul_add, Int.mul_left_comm]; omega)
          rwa [Int.sub_add_cancel]
        · show (z - 1).toNat < z.toNat
          omega
      · refine Ret.at (fin _ hxd (guess2 hM bu.1 bv eu ev (by omega) V0.1 ⟨hz0, hz1⟩ (by rw [Int.mul_add, Int.mul_left_comm]; omega))) ?_
        rintro v w7 ⟨bb, hv, h1, h2⟩
        refine ⟨bb, by rw [hv], fun hb => ?_, h2⟩
        obtain ⟨t76, ht, hr⟩ := h1 hb
        refine ⟨t76, ht, Ret.at hr ?_⟩
        rintro v2 w8 ⟨hv2, hf⟩
        exact ⟨by rw [hv2], hf⟩
    · refine Ret.at (fin _ hxd (guess2 hM bu.1 bv eu ev (by omega) V0.1 ⟨hz0, hz1⟩ (by rw [Int.mul_add, Int.mul_left_comm]; omega))) ?_
      rintro v w7 ⟨bb, hv, h1, h2⟩
      refine ⟨bb, by rw [hv], fun hb => ?_, h2⟩
      obtain ⟨t76, ht, hr⟩ := h1 hb
      refine ⟨t76, ht, Ret.at hr ?_⟩
      rintro v2 w8 ⟨hv2, hf⟩
      exact ⟨by rw [hv2], hf⟩
  · have hz : z = 0 := by omega
    subst hz
    refine Ret.at (fin _ hxd (by have := val_nonneg hlu; have := val_nonneg hlv; omega)) ?_
    rintro v w7 ⟨bb, hv, h1, h2⟩
    refine ⟨bb, by rw [hv], fun hb => ?_, h2⟩
    obtain ⟨t76, ht, hr⟩ := h1 hb
    refine ⟨t76, ht, Ret.at hr ?_⟩
    rintro v2 w8 ⟨hv2, hf⟩
    exact ⟨by rw [hv2], hf⟩
end Go.Proofs.YtbgokfhcgcoipaaGreatDoor
namespace Go.Proofs.YtbgokfhcgcoipaaGreatDoor
open Go Go.Proofs.YtbgokfhcgcoipaaGreatDoor.Sx
theorem val_zeros' (k : Nat) : val (List.replicate k 0) = 0 := by
  induction k with
  | zero => rfl
  | succ s ih => simp [List.replicate_succ, val, ih]
theorem Limbs.zeros (k : Nat) : Limbs (List.replicate k 0) := fun x hx => by simp at hx; omega
theorem pow_mono9 {i j : Nat} (h : i <= j) : (1000000000 : Int) ^ i <= 1000000000 ^ j := by
  have := Int.ofNat_le.2 (Nat.pow_le_pow_right (n := 1000000000) (by decide) h)
  simpa using this
theorem digs_lenI {z : Int} {k : Nat} (h0 : 0 <= z) (h : z < 1000000000 ^ k) : (digs z.toNat).length <= k := by
  apply digs_len
  have : ((z.toNat : Nat) : Int) < ((1000000000 ^ k : Nat) : Int) := by rw [Int.toNat_of_nonneg h0]; simpa using h
  exact Int.ofNat_lt.1 this
theorem digs_lenI' {z : Int} {k : Nat} (h0 : 0 <= z) (h : 1000000000 ^ k <= z) : k < (digs z.toNat).length := by
  rcases Nat.lt_or_ge k (digs z.toNat).length with g | g
  · exact g
  · exfalso
    have h1 := val_lt (digs_limbs z.toNat)
    rw [val_digs, Int.toNat_of_nonneg h0] at h1
    have := pow_mono9 g
    omega
theorem val_digsI {z : Int} (h : 0 <= z) : val (digs z.toNat) = z := by rw [val_digs, Int.toNat_of_nonneg h]
theorem canon_top {b : List Int} {m : Nat} (h : Canon b) (hl : b.length = m + 1) : 1 <= b.getD m 0 := by
  have h1 := h.2
  rw [getLast_getD (by omega), hl, Nat.add_sub_cancel] at h1
  have h2 := h.1.getD m
  have : b.getD m 0 ≠ 0 := fun e => h1 (by rw [e])
  omega
theorem impl_NatOf_c {w : World} {n : Int} (h0 : 0 <= n) (h1 : n <= 9223372036854775807) :
    Ret P n_impl_NatOf [.int .i64 n] w fun v w' => ∃ p' n' c', v = .slice p' n' c' /\ Own w' w.heap.size T_int 1 p' n' c' ((digs n.toNat).map (Value.int .i64)) /\ Ext w w' := by
  refine impl_NatOf_ret ?_
  unfold impl_NatOf
  refine ifD (fun h => absurd h (by omega)) (fun _ => ?_)
  have e : IntKind.wrap .u64 n = n := by
    have : (IntKind.wrap .u64 n) = n % 18446744073709551616 := rfl
    rw [this]; omega
  refine ⟨n, e.symm, ?_⟩
  refine Ret.at (impl_natOf_c h0 (by omega)) ?_
  rintro v w1 ⟨p', n', c', hv, ho, hx⟩
  subst hv
  exact ⟨_, _, _, rfl, _, _, _, rfl, ho, hx⟩
theorem impl_natDiv_c {w : World} {p q : Option Addr} {n c m d : Nat} {a b : List Int} (h : IntsR w p n c a) (k : IntsR w q m d b) (ha : Canon a) (hb : Canon b) (hb0 : 0 < m) (hn : n <= 100000) (hm : m <= 100000) :
    Ret P n_impl_natDiv [.slice p n c, .slice q m d] w fun v w' => ∃ p1 n1 c1 p2 n2 c2, v = .tuple #[.slice p1 n1 c1, .slice p2 n2 c2] /\ Own w' w.heap.size T_int 1 p1 n1 c1 ((digs (val a / val b).toNat).map (Value.int .i64)) /\ Own w' w.heap.size T_int 1 p2 n2 c2 ((digs (val a % val b).toNat).map (Value.int .i64)) /\ (∀ z, p1.map (·.block) = some z -> p2.map (·.block) ≠ some z) /\ Ext w w' := by
  refine impl_natDiv_ret ?_
  unfold impl_natDiv
  have hla := h.1; have hlb := k.1
  have va0 := val_nonneg ha.1
  have vb0 : 0 < val b := canon_pos hb (by intro e; rw [e] at hlb; simp at hlb; omega)
  refine Ret.at (impl_natCmp_c h k) ?_
  rintro v w1 ⟨hv, y1⟩
  subst hv
  refine ⟨_, rfl, ifD (fun hlt => ?_) (fun hge => ifD (fun hone => ?_) (fun hmore => ?_))⟩
  · have hab : val a < val b := by rcases cmpL_val ha hb with h | h | h <;> omega
    intro r w2 hn2
    have e2 := hn2.r_eq
    have x2 := y1.trans hn2.ext
    refine Ret.at (impl_natCopy_c (h.ext x2) (by omega)) ?_
    rintro v w3 ⟨p', c', hv, ho, y3⟩
    subst hv
    refine ⟨_, _, _, rfl, _, _, _, _, _, _, rfl, ?_, ?_, ?_, x2.trans y3⟩
    · rw [Int.ediv_eq_zero_of_lt va0 hab]
      simp only [Int.toNat_zero, digs_zero]
      exact (((Own.fresh hn2).ext y3).mono (by have := y1.le; omega))
    · rw [Int.emod_eq_of_lt va0 hab, digs_val ha]
      exact ho.mono x2.le
    · intro z hz hz2
      have := (World.ownsRow.lt ho z (by rw [<- hz2]; cases p' <;> rfl)).1
      simp at hz
      have := hn2.size
      omega
  · have hm1 : m = 1 := by omega
    subst hm1
    have hB := hb.1.getD 0
    have hT := canon_top (m := 0) hb (by omega)
    have ev : val b = b.getD 0 0 := by
      have := val_top (m := 0) hlb
      simpa [val] using this
    obtain ⟨ad, rfl, hl⟩ := ints_at (k.ext y1) (i := 0) (by omega) (by omega)
    refine ⟨⟨by omega, by omega⟩, _, by simpa only [Int.toNat_zero] using hl, ?_⟩
    rw [ev]
    simp only [Int.toNat_zero]
    refine Ret.at (impl_natSmall_c (h.ext y1) ha.1 ⟨by omega, by omega⟩ (by omega)) ?_
    rintro v w2 ⟨p1, n1, c1, hv, o1, y2⟩
    subst hv
    have Z0 := Int.emod_nonneg (val a) (show b.getD 0 0 ≠ 0 by omega)
    have Z1 := Int.emod_lt_of_pos (val a) (show 0 < b.getD 0 0 by omega)
    refine ⟨_, _, _, _, rfl, ?_⟩
    refine Ret.at (impl_NatOf_c Z0 (by omega)) ?_
    rintro v w3 ⟨p2, n2, c2, hv, o2, y3⟩
    subst hv
    refine ⟨_, _, _, rfl, _, _, _, _, _, _, rfl, (o1.ext y3).mono y1.le, o2.mono (by have := y1.le; have := y2.le; omega), fun z hz hz2 => ?_, y1.trans (y2.trans y3)⟩
    have := (World.ownsRow.lt o2 z (by rw [<- hz2]; cases p2 <;> rfl)).1
    have := (World.ownsRow.lt o1 z (by rw [<- hz]; cases p1 <;> rfl)).2
    omega
  · have hab : val b <= val a := by rcases cmpL_val ha hb with h | h | h <;> omega
    obtain ⟨t, rfl⟩ : ∃ t, m = t + 1 := ⟨m - 1, by omega⟩
    have hB := hb.1.getD t
    have hT := canon_top hb hlb
    have hmn : t + 1 <= n := by
      rcases Nat.lt_or_ge n (t + 1) with g | g
      · have := canon_len ha hb (by omega); omega
      · exact g
    have S0 : 1 <= 1000000000 / (b.getD t 0 + 1) := Int.le_ediv_of_mul_le (by omega) (by omega)
    have S1 : 1000000000 / (b.getD t 0 + 1) <= 500000000 := by
      have : 1000000000 / (b.getD t 0 + 1) < 500000001 := Int.ediv_lt_of_lt_mul (by omega) (by omega)
      omega
    have S2 : 1000000000 / (b.getD t 0 + 1) * (b.getD t 0 + 1) <= 1000000000 := Int.ediv_mul_le _ (by omega)
    generalize hsc : 1000000000 / (b.getD t 0 + 1) = sc at S0 S1 S2
    obtain ⟨ad, rfl, hl⟩ := ints_at (k.ext y1) (i := (t : Int)) (by omega) (by omega)
    simp only [Int.toNat_natCast] at hl
    have i1 : ((t + 1 : Nat) : Int) - 1 = (t : Int) := by omega
    rw [i1]
    refine exW ⟨by omega, by omega⟩ ⟨⟨by omega, by omega⟩, _, by simpa only [Int.toNat_natCast] using hl, exW ⟨by omega, by omega⟩ ⟨by omega, ?_⟩⟩
    rw [Int.tdiv_eq_ediv_of_nonneg (by omega), hsc]
    refine exW ⟨by omega, by omega⟩ fun r1 w2 hn2 => ?_
    have e2 := hn2.r_eq
    have x2 := y1.trans hn2.ext
    have one : ∀ {W W' : World} {r : Nat}, New W (.cells ⟨[.int .i64 sc]⟩ T_int (0, 0)) r W' -> IntsR W' (some ⟨r, 0, none⟩) 1 1 [sc] := fun hn => ⟨rfl, Nat.le_refl _, by omega, fun _ => ⟨_, 0, rfl, hn.blk.seg⟩⟩
    have lsc : Limbs [sc] := fun x hx => by simp at hx; omega
    have vsc : val [sc] = sc := by simp [val]
    refine Ret.at (impl_natMul_c (h.ext x2) (one hn2) ha.1 lsc (by omega) (by omega)) ?_
    rintro v w3 ⟨up, un, uc, hv, ou, y3⟩
    subst hv
    refine ⟨_, _, _, rfl, fun r2 w4 hn4 => ?_⟩
    have x4 := (x2.trans y3).trans hn4.ext
    refine Ret.at (impl_natMul_c (k.ext x4) (one hn4) hb.1 lsc (by omega) (by omega)) ?_
    rintro v w5 ⟨vp, vn, vc, hv, ov, y5⟩
    subst hv
    refine ⟨_, _, _, rfl, ?_⟩
    rw [vsc] at ou ov
    have x5 := x4.trans y5
    have l2 := x2.le; have l3 := y3.le; have l4 := hn4.ext.le; have l5 := y5.le; have l1 := y1.le
    -- the values
    have U0 : 0 <= val a * sc := Int.mul_nonneg va0 (by omega)
    have V0 : val b <= val b * sc := by
      have := Int.mul_le_mul_of_nonneg_left S0 (Int.le_of_lt vb0); omega
    have aL := val_lt ha.1
    rw [hla] at aL
    have hpn := pow_pos9 n
    have U1 : val a * sc < 1000000000 ^ (n + 1) := by
      rw [Int.pow_succ]
      have h1 : val a * sc <= 1000000000 ^ n * sc := Int.mul_le_mul_of_nonneg_right (Int.le_of_lt aL) (by omega)
      have h2 : 1000000000 ^ n * sc < 1000000000 ^ n * 1000000000 := Int.mul_lt_mul_of_pos_left (by omega) hpn
      omega
    have hpt := pow_pos9 t
    have bt := val_top hlb
    have bb := take_bounds (m := t) hb.1 (by omega)
    have Vlow : 1000000000 ^ t * sc <= val b * sc := by
      refine Int.mul_le_mul_of_nonneg_right ?_ (by omega)
      have := Int.mul_le_mul_of_nonneg_left hT (Int.le_of_lt hpt)
      omega
    have Vlow1 : 1000000000 ^ t <= val b * sc := by
      have := Int.mul_le_mul_of_nonneg_left S0 (Int.le_of_lt hpt); omega
    have Vhi : val b * sc < 1000000000 ^ (t + 1) := by
      have h1 : val b * sc < (1000000000 ^ t * (b.getD t 0 + 1)) * sc := by
        refine Int.mul_lt_mul_of_pos_right ?_ (by omega)
        rw [Int.mul_add]; omega
      have h2 : (1000000000 ^ t * (b.getD t 0 + 1)) * sc = 1000000000 ^ t * (sc * (b.getD t 0 + 1)) := by rw [Int.mul_assoc, Int.mul_comm sc]
      have h3 : 1000000000 ^ t * (sc * (b.getD t 0 + 1)) <= 1000000000 ^ t * 1000000000 := Int.mul_le_mul_of_nonneg_left S2 (Int.le_of_lt hpt)
      rw [Int.pow_succ]; omega
    have hvlen : (digs (val b * sc).toNat).length = t + 1 := by
      have h1 := digs_lenI (by omega) Vhi
      have h2 := digs_lenI' (by omega) Vlow1
      omega
    have hvn : vn = t + 1 := by
      have := ov.len
      simp only [List.length_map] at this
      omega
    have hvval := val_digsI (show 0 <= val b * sc by omega)
    have hvtop := canon_top (digs_canon (val b * sc).toNat) hvlen
    have hvlim := digs_limbs (val b * sc).toNat
    have hUval := val_digsI U0
    have hUlen := digs_lenI U0 U1
    generalize hVl : digs (val b * sc).toNat = vs at ov hvlen hvval hvtop hvlim
    generalize hUl : digs (val a * sc).toNat = us at ou hUval hUlen
    have hUlim : Limbs us := by rw [<- hUl]; exact digs_limbs _
    have hun : un = us.length := by have := ou.len; simp only [List.length_map] at this; omega
    subst hvn
    have dis0 : ∀ z, up.map (·.block) = some z -> vp.map (·.block) ≠ some z := fun z hz hz2 => by
      have := (World.ownsRow.lt ou z (by rw [<- hz]; cases up <;> rfl)).2
      have := (World.ownsRow.lt ov z (by rw [<- hz2]; cases vp <;> rfl)).1
      omega
    have ou5 := ((ou.ext hn4.ext).ext y5).mono (base' := w.heap.size) (by omega)
    have ov5 := ov.mono (base' := w.heap.size) (by omega)
    refine ⟨fun P' N' C' wr => ∃ s, N' = us.length + s /\ N' <= n + 1 /\ Own wr w.heap.size T_int 1 P' N' C' ((us ++ List.replicate s 0).map (Value.int .i64)) /\ Own wr w.heap.size T_int 1 vp (t + 1) vc (vs.map (Value.int .i64)) /\ Ext w wr /\ (∀ z, P'.map (·.block) = some z -> vp.map (·.block) ≠ some z), fun _ N' _ _ => n + 1 - N',
      ⟨0, by omega, by omega, by simpa using ou5, ov5, x5, dis0⟩, ?_⟩
    intro junk wr up1 un1 uc1 ⟨s, hs, hsn, ou1, ov1, x6, dis1⟩
    have l6 := x6.le
    refine ifD (fun hgrow => ?_) (fun hfull => ?_)
    · intro r3 w7 hn7
      have e7 := hn7.r_eq
      obtain ⟨p', c', w8, ap, o8, ch8, d8⟩ := (ou1.ext hn7.ext).push1 (P := P) sliceT_int (by have := hn7.ext.le; omega) hn7.blk rfl (by simp [Value.oneCell']) (by omega) (by omega)
      have upl : ∀ z, up1.map (·.block) = some z -> w.heap.size <= z /\ z < wr.heap.size := fun z hz => World.ownsRow.lt ou1 z (by rw [<- hz]; cases up1 <;> rfl)
      have vpl : ∀ z, vp.map (·.block) = some z -> w.heap.size <= z /\ z < wr.heap.size := fun z hz => World.ownsRow.lt ov1 z (by rw [<- hz]; cases vp <;> rfl)
      refine ⟨p', _, c', w8, ap, ⟨s + 1, by omega, by omega, ?_, (ov1.ext hn7.ext).chg ch8 (fun z hz hm => dis1 z (opt_mem hm) hz), (x6.trans hn7.ext).chg ch8 (fun z hz => (upl z (opt_mem hz)).1), fun z hz hz2 => ?_⟩, ?_⟩
      · rw [List.replicate_succ', <- List.append_assoc]
        simpa using o8
      · rcases d8 with d8 | d8
        · exact dis1 z (d8 ▸ hz) hz2
        · have := d8 z hz; have := (vpl z hz2).2; have := hn7.size; omega
      · show n + 1 - (un1 + 1) < n + 1 - un1
        omega
    · have hN : un1 = n + 1 := by omega
      have hi66 : ((un1 : Nat) : Int) - ((t + 1 : Nat) : Int) = ((n - t : Nat) : Int) := by omega
      rw [hi66]
      refine exW ⟨by omega, by omega⟩ ⟨⟨by omega, by omega, by omega⟩, ?_⟩
      rw [Int.toNat_natCast]
      intro r4 w9 hn9
      have e9 := hn9.r_eq; have s9 := hn9.size
      have hb9 := hn9.blk
      rw [zeroRow_int, Nat.mul_one] at hb9
      obtain ⟨bu, ys, rfl, hbu, hblk, hyl, hnc, hcm, hyt⟩ := ou1.blk (by omega)
      have hbul := hblk.lt
      generalize hos : us ++ List.replicate s 0 = o0 at ou1 hyt
      have ho0 : o0.length = n + 1 := by rw [<- hos]; simp; omega
      have hov : val o0 = val a * sc := by rw [<- hos, val_append, val_zeros', Int.mul_zero, Int.add_zero, hUval]
      have hol0 : Limbs o0 := by rw [<- hos]; exact Limbs.append.2 ⟨hUlim, Limbs.zeros s⟩
      have hys : ys = o0.map (Value.int .i64) ++ ys.drop (un1 * 1) := by rw [<- hyt, List.take_append_drop]
      generalize hrs : ys.drop (un1 * 1) = rs at hys
      rw [hys] at hblk
      have vpne : ∀ z, vp.map (·.block) = some z -> z ≠ bu := fun z hz e => dis1 bu rfl (by rw [hz, e])
      have vpl : ∀ z, vp.map (·.block) = some z -> z < wr.heap.size := fun z hz => (World.ownsRow.lt ov1 z (by rw [<- hz]; cases vp <;> rfl)).2
      refine exW ⟨by omega, by omega⟩ ⟨fun i wr2 => ∃ (j : Nat) (o ql : List Int), i = (j : Int) - 1 /\ j <= n - t /\ o.length = n + 1 /\ ql.length = n - t /\ Blk wr2 bu T_int (o.map (Value.int .i64) ++ rs) /\ Blk wr2 r4 T_int (ql.map (Value.int .i64)) /\ IntsR wr2 vp (t + 1) vc vs /\ Ext w wr2 /\ Limbs o /\ Limbs ql /\ (∀ z, z < j -> ql.getD z 0 = 0) /\ val o + val ql * (val b * sc) = val a * sc /\ val o < 1000000000 ^ j * (val b * sc), fun i _ => (i + 1).toNat,
        ⟨n - t, o0, List.replicate (n - t) 0, rfl, by omega, ho0, by simp, hblk.ext hn9.ext, by simpa using hb9, (ov1.ints).ext hn9.ext, x6.trans hn9.ext, hol0, Limbs.zeros _, fun z hz => by simp [List.getD_eq_getElem?_getD, hz], by rw [val_zeros', Int.zero_mul]; omega, ?_⟩, ?_⟩
      · rw [hov]
        have h1 : val a * sc < 1000000000 ^ n * sc := Int.mul_lt_mul_of_pos_right aL (by omega)
        have h2 : (1000000000 : Int) ^ (n - t) * (1000000000 ^ t * sc) <= 1000000000 ^ (n - t) * (val b * sc) := Int.mul_le_mul_of_nonneg_left Vlow (Int.le_of_lt (pow_pos9 _))
        rw [<- Int.mul_assoc, <- Int.pow_add, show n - t + t = n by omega] at h2
        omega
      intro junk2 wr2 i ⟨j, o, ql, hi, hj, hol, hqll, hbu2, hbq, kv, x10, hlo, hlq, hqz, hval, hlt⟩
      subst hi
      have l10 := x10.le
      refine ifD (fun hpos => ?_) (fun hend => ?_)
      · obtain ⟨f, rfl⟩ : ∃ f, j = f + 1 := ⟨j - 1, by omega⟩
        have ef : ((f + 1 : Nat) : Int) - 1 = (f : Int) := by omega
        rw [ef]
        have e81 : (f : Int) + ((t + 1 : Nat) : Int) + 1 = ((f + (t + 1) + 1 : Nat) : Int) := by omega
        refine exW ⟨by omega, by omega⟩ (exW ⟨by omega, by omega⟩ ?_)
        rw [e81]
        simp only [Int.toNat_natCast]
        have hsub : Sx.sub (some ⟨bu, 0, none⟩) f uc1 1 = some ⟨bu, f, none⟩ := by
          unfold Sx.sub
          rw [if_neg (by omega)]
          simp [Addr.add]
          omega
        rw [hsub, show f + (t + 1) + 1 - f = t + 1 + 1 by omega]
        refine ⟨⟨by omega, by omega⟩, ⟨by omega, by omega⟩, ?_⟩
        -- the window
        have esplit : o = o.take f ++ ((o.drop f).take (t + 1 + 1) ++ (o.drop f).drop (t + 1 + 1)) := by rw [List.take_append_drop, List.take_append_drop]
        have lA : (o.take f).length = f := by rw [List.length_take]; omega
        have lU : ((o.drop f).take (t + 1 + 1)).length = t + 1 + 1 := by rw [List.length_take, List.length_drop]; omega
        have hlA : Limbs (o.take f) := hlo.take f
        have hlD : Limbs (o.drop f) := fun x hx => hlo x (List.mem_of_mem_drop hx)
        have hlU := hlD.take (t + 1 + 1)
        have hlC : Limbs ((o.drop f).drop (t + 1 + 1)) := fun x hx => hlD x (List.mem_of_mem_drop hx)
        generalize o.take f = A at esplit lA hlA
        generalize (o.drop f).take (t + 1 + 1) = U at esplit lU hlU
        generalize (o.drop f).drop (t + 1 + 1) = C at esplit hlC
        subst esplit
        have hA0 := val_nonneg hlA; have hA1 := val_lt hlA; have hC0 := val_nonneg hlC; have hU0 := val_nonneg hlU
        rw [lA] at hA1
        rw [val_append, val_append, lA, lU, Int.mul_add, <- Int.mul_assoc, <- Int.pow_add] at hval hlt
        have hpf := pow_pos9 f
        have hCz : val C = 0 := by
          rcases Int.lt_or_le 0 (val C) with g | g
          · exfalso
            have g1 := Int.mul_le_mul_of_nonneg_left (show 1 <= val C by omega) (Int.le_of_lt (pow_pos9 (f + (t + 1 + 1))))
            have g2 := Int.mul_nonneg (Int.le_of_lt hpf) hU0
            have g3 : (1000000000 : Int) ^ (f + 1) * (val b * sc) < 1000000000 ^ (f + 1) * 1000000000 ^ (t + 1) := Int.mul_lt_mul_of_pos_left Vhi (pow_pos9 _)
            rw [<- Int.pow_add, show f + 1 + (t + 1) = f + (t + 1 + 1) by omega] at g3
            omega
          · omega
        rw [hCz, Int.mul_zero, Int.add_zero] at hval hlt
        have hUD : val U < 1000000000 * (val b * sc) := by
          have g1 : (1000000000 : Int) ^ f * val U < 1000000000 ^ f * (1000000000 * (val b * sc)) := by
            have e : (1000000000 : Int) ^ f * (1000000000 * (val b * sc)) = 1000000000 ^ (f + 1) * (val b * sc) := by rw [Int.pow_succ, Int.mul_assoc]
            rw [e]; omega
          exact Int.lt_of_mul_lt_mul_left g1 (Int.le_of_lt hpf)
        have hbw : Blk wr2 bu T_int (A.map (Value.int .i64) ++ U.map (Value.int .i64) ++ (C.map (Value.int .i64) ++ rs)) := by
          have := hbu2
          rw [List.map_append, List.map_append] at this
          simpa only [List.append_assoc] using this
        refine Ret.at (impl_divStep_c hbw (by rw [List.length_map, lA]) lU kv vpne hlU hvlim (by simpa using hvtop) (by omega) (by omega) (by rw [hvval]; exact hUD)) ?_
        rintro v w11 ⟨x, u', hv, x0, x1, hl', hb', ch', hlu', hvu', hu0', hu1'⟩
        subst hv
        rw [hvval] at hvu' hu1'
        have hbq' := hbq.chg ch' (by simp; omega)
        have kv' := kv.chg ch' (fun z hz hm => vpne z hz (by simpa using hm))
        obtain ⟨w12, st, hbq12, ch12, sz12⟩ := blk_set hbq' (i := (f : Int)) (by omega) (by omega) x
        simp only [Int.toNat_natCast] at st hbq12
        have hbu12 := hb'.chg ch12 (by simp; omega)
        refine ⟨x, rfl, ⟨by omega, by omega⟩, w12, st, exW ⟨by omega, by omega⟩ ⟨⟨f, A ++ (u' ++ C), ql.set f x, by omega, by omega, ?_, by simpa using hqll, ?_, hbq12, kv'.chg ch12 (fun z hz hm => by have := vpl z hz; simp at hm; omega), (x10.chg ch' (by simp; omega)).chg ch12 (by simp; omega), ?_, hlq.set ⟨x0, x1⟩, fun z hz => by rw [getD_set_ne _ (by omega)]; exact hqz z (by omega), ?_, ?_⟩, ?_⟩⟩
        · simp only [List.length_append] at hol ⊢; omega
        · simpa only [List.map_append, List.append_assoc] using hbu12
        · exact Limbs.append.2 ⟨hlA, Limbs.append.2 ⟨hlu', hlC⟩⟩
        · rw [val_append, val_append, lA, hCz, Int.mul_zero, Int.add_zero, val_set _ _ (by omega), hqz f (by omega), Int.sub_zero, hvu', Int.mul_sub, Int.add_mul]
          have : (1000000000 : Int) ^ f * x * (val b * sc) = 1000000000 ^ f * (x * (val b * sc)) := Int.mul_assoc _ _ _
          omega
        · rw [val_append, val_append, lA, hCz, Int.mul_zero, Int.add_zero]
          have g1 : (1000000000 : Int) ^ f * (val u' + 1) <= 1000000000 ^ f * (val b * sc) := Int.mul_le_mul_of_nonneg_left (by omega) (Int.le_of_lt hpf)
          rw [Int.mul_add] at g1
          omega
        · show ((f : Int) - 1 + 1).toNat < ((f : Int) + 1).toNat
          omega
      · have hj0 : j = 0 := by omega
        subst hj0
        rw [show (1000000000 : Int) ^ 0 = 1 from rfl, Int.one_mul] at hlt
        have hrd : IntsR wr2 (some ⟨bu, 0, none⟩) un1 uc1 o := by
          refine ⟨by omega, hnc, by simp only [maxLen] at hcm; omega, fun _ => ⟨bu, 0, rfl, ?_⟩⟩
          have := hbu2.seg.take o.length
          rwa [List.take_left' (by simp)] at this
        refine Ret.at (impl_trim_c hrd) ?_
        rintro v w11 ⟨hv, hw, hr⟩
        subst hv; subst hw
        refine ⟨_, _, _, rfl, ?_⟩
        rw [trimL_eq hlo] at hr
        have hlen2 : (digs (val o).toNat).length <= n + 1 := by
          have := trimL_len o
          rw [trimL_eq hlo] at this; omega
        have ho0' := val_nonneg hlo
        rw [trimL_eq hlo]
        refine Ret.at (impl_natSmall_c hr (digs_limbs _) ⟨by omega, by omega⟩ (by omega)) ?_
        rintro v w12 ⟨p2, n2, c2, hv, o2, y12⟩
        subst hv
        rw [val_digsI ho0'] at o2
        refine ⟨_, _, _, _, rfl, ?_⟩
        have hq0 := val_nonneg hlq
        have hown : Own w12 w.heap.size T_int 1 (some ⟨r4, 0, none⟩) (n - t) (n - t) (ql.map (Value.int .i64)) := Own.of_blk (hbq.ext y12) (by omega) (by simp [hqll]) (by simp only [maxLen]; omega)
        refine Ret.at (impl_trim_c hown.ints) ?_
        rintro v w13 ⟨hv, hw, hr13⟩
        subst hv; subst hw
        -- the quotient and the rest
        have hval' : (val a - val ql * val b) * sc = val o := by
          rw [Int.sub_mul, Int.mul_assoc]; omega
        have hR0 : 0 <= val a - val ql * val b := by
          rcases Int.lt_or_le (val a - val ql * val b) 0 with g | g
          · have := Int.mul_le_mul_of_nonneg_right (show val a - val ql * val b <= -1 by omega) (show 0 <= sc by omega)
            omega
          · exact g
        have hR1 : val a - val ql * val b < val b := Int.lt_of_mul_lt_mul_right (a := sc) (by omega) (by omega)
        have hd : val a / val b = val ql := by
          have : val a = (val a - val ql * val b) + val b * val ql := by rw [Int.mul_comm (val b)]; omega
          rw [this, Int.add_mul_ediv_left _ _ (by omega), Int.ediv_eq_zero_of_lt hR0 hR1, Int.zero_add]
        have hr' : val a % val b = val a - val ql * val b := by
          have := Int.mul_ediv_add_emod (val a) (val b)
          rw [hd, Int.mul_comm] at this
          omega
        have hos2 : val o / sc = val a - val ql * val b := by rw [<- hval', Int.mul_ediv_cancel _ (by omega)]
        rw [hos2] at o2
        refine ⟨_, _, _, rfl, _, _, _, _, _, _, rfl, ?_, ?_, fun z hz hz2 => ?_, x10.trans y12⟩
        · rw [hd, <- trimL_eq hlq]
          have hle := trimL_len ql
          have := hown.sub (m := (trimL ql).length) (by omega)
          rwa [<- trimL_prefix] at this
        · rw [hr']
          exact o2.mono l10
        · have := (World.ownsRow.lt o2 z (by rw [<- hz2]; cases p2 <;> rfl)).1
          have := hbq.lt
          simp at hz
          omega
end Go.Proofs.YtbgokfhcgcoipaaGreatDoor
namespace Go.Proofs.YtbgokfhcgcoipaaGreatDoor
open Go Go.Proofs.YtbgokfhcgcoipaaGreatDoor.Sx
theorem ints_uniq {w : World} {p : Option Addr} {n c : Nat} {zs ys : List Int} (h : IntsR w p n c zs) (k : IntsR w p n c ys) : zs = ys := by
  have h1 := h.1; have k1 := k.1
  apply List.ext_getElem (by omega)
  intro i hi hj
  obtain ⟨b, o, hp, hs⟩ := h.2.2.2 (by omega)
  obtain ⟨b', o', hp', hs'⟩ := k.2.2.2 (by omega)
  rw [hp] at hp'
  obtain ⟨rfl, rfl⟩ : b = b' /\ o = o' := by injection hp' with e; injection e with e1 e2; exact ⟨e1, e2⟩
  have a1 := hs i (.int .i64 zs[i]) (by simp [hi])
  have a2 := hs' i (.int .i64 ys[i]) (by simp [hj])
  rw [a1] at a2
  injection a2 with e; injection e
theorem digs_inj {x y : Nat} (h : digs x = digs y) : x = y := by
  have := congrArg val h
  rw [val_digs, val_digs] at this
  omega
theorem numAt_ex : ∃ f : World -> Option Addr -> Nat -> Nat -> Nat, ∀ W p n c y, IntsR W p n c (digs y) -> f W p n c = y := by
  refine ⟨fun W p n c => @dite _ (∃ y, IntsR W p n c (digs y)) (Classical.propDecidable _) (fun h => Classical.choose h) (fun _ => 0), fun W p n c y h => ?_⟩
  have hx : ∃ y, IntsR W p n c (digs y) := ⟨y, h⟩
  show @dite _ (∃ y, IntsR W p n c (digs y)) (Classical.propDecidable _) (fun h => Classical.choose h) (fun _ => 0) = y
  rw [dif_pos hx]
  exact digs_inj (ints_uniq (Classical.choose_spec hx) h)
theorem emod_toNat (x y : Nat) : (((x : Int) % (y : Int)).toNat) = x % y := by
  rw [<- Int.natCast_emod]; exact Int.toNat_natCast _
theorem ediv_toNat (x y : Nat) : (((x : Int) / (y : Int)).toNat) = x / y := by
  rw [<- Int.natCast_ediv]; exact Int.toNat_natCast _
theorem digs_mod_len {x y : Nat} (h : 0 < y) : (digs (x % y)).length <= (digs y).length := by
  refine digs_len _ ?_
  have h1 := val_lt (digs_limbs y)
  rw [val_digs] at h1
  have : ((y : Nat) : Int) < ((1000000000 ^ (digs y).length : Nat) : Int) := by simpa using h1
  exact Nat.lt_trans (Nat.mod_lt _ h) (Int.ofNat_lt.1 this)
theorem digs_mono_len {x y : Nat} (h : x <= y) : (digs x).length <= (digs y).length := by
  refine digs_len _ ?_
  have h1 := val_lt (digs_limbs y)
  rw [val_digs] at h1
  have : ((y : Nat) : Int) < ((1000000000 ^ (digs y).length : Nat) : Int) := by simpa using h1
  exact Nat.lt_of_le_of_lt h (Int.ofNat_lt.1 this)
theorem gcd_step (x y : Nat) : Nat.gcd y (x % y) = Nat.gcd x y := by
  rw [Nat.gcd_comm x y, Nat.gcd_rec y x, Nat.gcd_comm]
theorem impl_natGcd_c {w : World} {p q : Option Addr} {n c m d : Nat} {x y : Nat} (h : IntsR w p n c (digs x)) (k : IntsR w q m d (digs y)) (hn : n <= 100000) (hm : m <= 100000) :
    Ret P n_impl_natGcd [.slice p n c, .slice q m d] w fun v w' => ∃ p' n' c', v = .slice p' n' c' /\ Own w' w.heap.size T_int 1 p' n' c' ((digs (Nat.gcd x y)).map (Value.int .i64)) /\ Ext w w' := by
  refine impl_natGcd_ret ?_
  unfold impl_natGcd
  obtain ⟨f, hf⟩ := numAt_ex
  refine ⟨fun ap an ac bp bn bc wr => ∃ s t, IntsR wr ap an ac (digs s) /\ IntsR wr bp bn bc (digs t) /\ an <= 100000 /\ bn <= 100000 /\ Ext w wr /\ Nat.gcd s t = Nat.gcd x y, fun _ _ _ bp bn bc W => f W bp bn bc, ⟨x, y, h, k, hn, hm, Ext.refl _, rfl⟩, ?_⟩
  intro junk wr ap an ac bp bn bc ⟨s, t, ha, hb, han, hbn, hx, hg⟩
  have hbl := hb.1
  refine ifD (fun hlt => ?_) (fun hge => ?_)
  · have ht : 0 < t := by
      rcases Nat.eq_zero_or_pos t with e | e
      · subst e; rw [digs_zero] at hbl; simp at hbl; omega
      · exact e
    refine Ret.at (impl_natDiv_c ha hb (digs_canon _) (digs_canon _) (by omega) han hbn) ?_
    rintro v w1 ⟨p1, n1, c1, p2, n2, c2, hv, o1, o2, _, y1⟩
    subst hv
    rw [val_digs, val_digs, emod_toNat] at o2
    have hn2 : n2 <= bn := by
      have := o2.len
      simp only [List.length_map] at this
      have := digs_mod_len (x := s) ht
      omega
    refine ⟨_, _, _, _, _, _, rfl, ⟨t, s % t, hb.ext y1, o2.ints, hbn, by omega, hx.trans y1, by rw [gcd_step, hg]⟩, ?_⟩
    show f w1 p2 n2 c2 < f wr bp bn bc
    rw [hf _ _ _ _ _ o2.ints, hf _ _ _ _ _ hb]
    exact Nat.mod_lt _ ht
  · have ht : t = 0 := by
      have : bn = 0 := by omega
      rw [this] at hbl
      exact digs_nil.1 (List.eq_nil_of_length_eq_zero hbl)
    subst ht
    rw [Nat.gcd_zero_right] at hg
    subst hg
    refine Ret.at (impl_natCopy_c ha (by omega)) ?_
    rintro v w1 ⟨p', c', hv, ho, y1⟩
    subst hv
    exact ⟨_, _, _, rfl, _, _, _, rfl, ho.mono hx.le, hx.trans y1⟩
def ratOk : List D0 -> Bool
  | [.bool s, .ints x, .ints y] => intOk [.bool s, .ints x] && natOk y && !y.isEmpty && decide (y.length <= 18) && decide (x.length <= 18) && decide (Nat.gcd (val x).toNat (val y).toNat = 1)
  | _ => false
theorem digs_one : digs 1 = [1] := by rw [digs_pos (by decide)]; simp [digs_zero]
theorem gcd_one {l : List Int} {g : Nat} (h : l = digs g) : (decide (g = 1)) = (decide (l.length = 1) && decide (l.getD 0 0 = 1)) := by
  subst h
  by_cases e : g = 1
  · subst e; rw [digs_one]; rfl
  · rw [decide_eq_false e]
    symm
    rw [Bool.and_eq_false_iff]
    by_cases h1 : (digs g).length = 1
    · right
      rw [decide_eq_false_iff_not]
      intro h2
      apply e
      have hv := val_digs g
      have := val_top (m := 0) h1
      rw [h2] at this
      simp [val] at this
      omega
    · left; simp [h1]
theorem impl_RatOk_c {w : World} {xs : List Value} {dx : List D0} (h : Reps w xs dx) (hc : dx.map D0.code = [.bool, .ints, .ints]) :
    Ret P n_impl_RatOk [.agg ⟨xs⟩] w fun v w' => v = .bool (ratOk dx) /\ Ext w w' := by
  have hr := h
  obtain ⟨a0, a1p, a1n, a1c, a1z, a2p, a2n, a2c, a2z, rfl, rfl, ir1, ir2⟩ := open_Rat h hc
  refine impl_RatOk_ret ?_
  unfold impl_RatOk
  intro r w1 hn1
  have l1 := ir1.1; have l2 := ir2.1
  have hi : Reps w1 [.bool a0, .slice a1p a1n a1c] [.bool a0, .ints a1z] := ⟨rfl, ⟨_, _, _, rfl, ir1.ext hn1.ext⟩, trivial⟩
  have b := hn1.blk
  refine ⟨_, _, _, _, b.loadAAt 0 [.bool a0, .slice a1p a1n a1c] rfl (by kernel_rfl) rfl, ?_⟩
  refine Ret.at (impl_IntOk_c hi rfl) ?_
  rintro v w2 ⟨hv, y2⟩
  subst hv
  have b2 := b.ext y2
  have X2 := hn1.ext.trans y2
  refine ⟨_, rfl, ifN (fun e => ifT (ifT (ifT (ifT ⟨by simp [ratOk, e], X2⟩)))) (fun e1 => ⟨_, _, _, b2.loadAt 2 rfl (by kernel_rfl) rfl, ?_⟩)⟩
  refine Ret.at (impl_NatOk_c (ir2.ext X2)) ?_
  rintro v w3 ⟨hv, y3⟩
  subst hv
  have b3 := b2.ext y3
  have X3 := X2.trans y3
  refine ⟨_, rfl, ifN (fun e => ifT (ifT (ifT ⟨by simp [ratOk, e], X3⟩))) (fun e2 => ⟨_, _, _, b3.loadAt 2 rfl (by kernel_rfl) rfl, ifD (fun e => ifT (ifT ⟨?_, X3⟩)) (fun e3 => ⟨_, _, _, b3.loadAt 2 rfl (by kernel_rfl) rfl, ifD (fun e => ifT ⟨?_, X3⟩) (fun e4 => ⟨_, _, _, b3.loadAt 1 rfl (by kernel_rfl) rfl, ifD (fun e => ⟨?_, X3⟩) (fun e5 => ?_)⟩)⟩)⟩)⟩
  · have : a2z = [] := List.eq_nil_of_length_eq_zero (by omega)
    simp [ratOk, this]
  · simp only [ratOk, show decide (a2z.length <= 18) = false by simp; omega, Bool.and_false, Bool.false_and]
  · simp only [ratOk, show decide (a1z.length <= 18) = false by simp; omega, Bool.and_false, Bool.false_and]
  unfold impl_RatOk_j0
  have ok1 := natOk_spec.1 e2
  have ok0 := (intOk_enc e1).2
  obtain ⟨b', z', ez, can1, _⟩ := ok0
  simp only [List.cons.injEq, D0.ints.injEq, D0.bool.injEq, and_true] at ez
  obtain ⟨_, rfl⟩ := ez
  have r1 := ir1.ext X3; have r2 := ir2.ext X3
  rw [<- digs_val can1] at r1
  rw [<- digs_val ok1.1] at r2
  refine ⟨_, _, _, b3.loadAt 1 rfl (by kernel_rfl) rfl, _, _, _, b3.loadAt 2 rfl (by kernel_rfl) rfl, ?_⟩
  refine Ret.at (impl_natGcd_c r1 r2 (by omega) (by omega)) ?_
  rintro v w4 ⟨p', n', c', hv, ho, y4⟩
  subst hv
  have hlen := ho.len
  simp only [List.length_map] at hlen
  have g := gcd_one (g := Nat.gcd (val a1z).toNat (val a2z).toNat) rfl
  have hne : a2z.isEmpty = false := by cases a2z with
    | nil => simp at l2; omega
    | cons => rfl
  have val' : ratOk [.bool a0, .ints a1z, .ints a2z] = decide (Nat.gcd (val a1z).toNat (val a2z).toNat = 1) := by
    simp only [ratOk, e1, e2, hne, show decide (a2z.length <= 18) = true by simp; omega, show decide (a1z.length <= 18) = true by simp; omega, Bool.not_false, Bool.and_self, Bool.true_and]
  rw [val', g]
  refine ⟨_, _, _, rfl, ifD (fun h1 => ?_) (fun h1 => ⟨?_, X3.trans y4⟩)⟩
  · obtain ⟨ad, rfl, hl⟩ := ints_at ho.ints (i := 0) (by omega) (by omega)
    refine ⟨⟨by omega, by omega⟩, _, by simpa only [Int.toNat_zero] using hl, ?_, X3.trans y4⟩
    rw [show decide ((digs (Nat.gcd (val a1z).toNat (val a2z).toNat)).length = 1) = true by simp; omega, Bool.true_and]
  · rw [show decide ((digs (Nat.gcd (val a1z).toNat (val a2z).toNat)).length = 1) = false by simp; omega, Bool.false_and]
end Go.Proofs.YtbgokfhcgcoipaaGreatDoor
namespace Go.Proofs.YtbgokfhcgcoipaaGreatDoor
open Go Go.Proofs.YtbgokfhcgcoipaaGreatDoor.Sx
def tenL (k : Nat) : List Int := List.replicate (k / 9) 0 ++ [10 ^ (k % 9)]
theorem val_zeros : ∀ s : Nat, val (List.replicate s 0) = 0
  | 0 => rfl
  | s + 1 => by simp [List.replicate_succ, val, val_zeros s]
theorem ten_small {j : Nat} (h : j < 9) : (1 : Int) <= 10 ^ j /\ (10 : Int) ^ j <= 100000000 := by
  have : j = 0 ∨ j = 1 ∨ j = 2 ∨ j = 3 ∨ j = 4 ∨ j = 5 ∨ j = 6 ∨ j = 7 ∨ j = 8 := by omega
  rcases this with h | h | h | h | h | h | h | h | h <;> subst h <;> decide
theorem tenL_canon (k : Nat) : Canon (tenL k) := by
  have h := ten_small (j := k % 9) (by omega)
  refine ⟨Limbs.append.2 ⟨fun x hx => by simp at hx; omega, Limbs.cons.2 ⟨by omega, Limbs.nil⟩⟩, ?_⟩
  simp only [tenL, List.getLast?_append, List.getLast?_singleton, Option.some_or, ne_eq, Option.some.injEq]
  omega
theorem val_tenL (k : Nat) : val (tenL k) = 10 ^ k := by
  unfold tenL
  rw [val_snoc, val_zeros, List.length_replicate, Int.zero_add]
  have : (1000000000 : Int) = 10 ^ 9 := by decide
  rw [this, <- Int.pow_mul, <- Int.pow_add]
  congr 1
  omega
theorem tenL_digs (k : Nat) : tenL k = digs (10 ^ k) := by
  have := digs_val (tenL_canon k)
  rw [val_tenL] at this
  rw [<- this]
  congr 1
theorem impl_natTen_c {w : World} {k : Int} (h0 : 0 <= k) (h1 : k <= 1000) :
    Ret P n_impl_natTen [.int .i64 k] w fun v w' => ∃ p' n' c', v = .slice p' n' c' /\ Own w' w.heap.size T_int 1 p' n' c' ((digs (10 ^ k.toNat)).map (Value.int .i64)) /\ Ext w w' := by
  refine impl_natTen_ret ?_
  unfold impl_natTen
  have ed : Int.tdiv k 9 = k / 9 := Int.tdiv_eq_ediv_of_nonneg h0
  have em : Int.tmod k 9 = k % 9 := Int.tmod_eq_emod_of_nonneg h0
  rw [ed, em]
  refine ⟨by decide, exW ⟨by omega, by omega⟩ ⟨by decide, exW ⟨by omega, by omega⟩ (exW ⟨by omega, by omega⟩ ⟨⟨by omega, by omega, by omega⟩, fun r w1 hn1 => ?_⟩)⟩⟩
  have hre := hn1.r_eq
  refine ⟨by decide, _, rfl, fun top i wr => ∃ j : Nat, i = j /\ (j : Int) <= k % 9 /\ wr = w1 /\ top = 10 ^ j, fun _ i _ => 9 - i.toNat, ⟨0, rfl, by omega, rfl, rfl⟩, ?_⟩
  intro junk wr top i ⟨j, hi, hj, hw, ht⟩
  subst hi; subst hw; subst ht
  have T := ten_small (j := j) (by omega)
  refine ifD (fun hlt => ?_) (fun hge => ?_)
  · refine exW ⟨by omega, by omega⟩ (exW ⟨by omega, by omega⟩ ⟨⟨j + 1, by omega, by omega, rfl, by rw [Int.pow_succ]⟩, ?_⟩)
    show 9 - ((j : Int) + 1).toNat < 9 - (j : Int).toNat
    omega
  · intro r1 w2 hn2
    have hblk : Blk wr r T_int (List.replicate ((k / 9 + 1).toNat) (Value.int .i64 0)) := by
      have := hn1.blk
      rwa [zeroRow_int, Nat.mul_one] at this
    have hown : Own wr w.heap.size T_int 1 (some ⟨r, 0, none⟩) (k / 9).toNat (k / 9 + 1).toNat ((List.replicate (k / 9).toNat (0 : Int)).map (Value.int .i64)) := by
      have hfull : Own wr w.heap.size T_int 1 (some ⟨r, 0, none⟩) (k / 9 + 1).toNat (k / 9 + 1).toNat ((List.replicate (k / 9 + 1).toNat (0 : Int)).map (Value.int .i64)) := by
        rw [List.map_replicate]
        exact Own.of_blk hblk (by omega) (by simp) (by simp only [maxLen]; omega)
      have := hfull.sub (m := (k / 9).toNat) (by omega)
      rwa [List.take_replicate, show min (k / 9).toNat (k / 9 + 1).toNat = (k / 9).toNat by omega] at this
    obtain ⟨p', c', w3, g1, g2, g3⟩ := Own.push hown hn1.ext.le hn2 (by omega)
    refine ⟨_, _, _, _, g1, _, _, _, rfl, ?_, g3 w hn1.ext (Nat.le_refl _)⟩
    rw [<- tenL_digs]
    have ej : j = k.toNat % 9 := by omega
    have ek : (k / 9).toNat = k.toNat / 9 := by omega
    rw [ej, ek] at g2
    rw [ek]
    exact g2
end Go.Proofs.YtbgokfhcgcoipaaGreatDoor
namespace Go.Proofs.YtbgokfhcgcoipaaGreatDoor
open Go Go.Proofs.YtbgokfhcgcoipaaGreatDoor.Sx
def decOk : List D0 -> Bool
  | [.bool b, .ints z, .int s] => intOk [.bool b, .ints z] && decide (z.length <= 6) && decide (0 <= s /\ s <= 30)
  | _ => false
theorem impl_isScale_c (s : Int) (w : World) : Ret P n_impl_isScale [.int .i64 s] w fun v w' => v = .bool (decide (0 <= s /\ s <= 30)) /\ w' = w := by
  refine impl_isScale_ret ?_
  unfold impl_isScale
  refine ifD (fun h => ⟨?_, rfl⟩) (fun h => ⟨?_, rfl⟩) <;> simp [h]
theorem impl_DecOk_c {w : World} {xs : List Value} {dx : List D0} (h : Reps w xs dx) (hc : dx.map D0.code = [.bool, .ints, .int]) :
    Ret P n_impl_DecOk [.agg ⟨xs⟩] w fun v w' => v = .bool (decOk dx) /\ Ext w w' := by
  obtain ⟨a0, a1p, a1n, a1c, a1z, a2, rfl, rfl, ha⟩ := open_Dec h hc
  refine impl_DecOk_ret ?_
  unfold impl_DecOk
  intro r w1 hn1
  have x := hn1.ext
  have hl := ha.1
  refine ⟨_, _, _, _, hn1.blk.loadAAt 0 [.bool a0, .slice a1p a1n a1c] rfl (by kernel_rfl) rfl, ?_⟩
  refine Ret.at (impl_IntOk_c (dx := [.bool a0, .ints a1z]) ⟨rfl, ⟨_, _, _, rfl, ha.ext x⟩, trivial⟩ rfl) ?_
  rintro v w2 ⟨hv, y⟩
  subst hv
  have x := x.trans y; have b := hn1.blk.ext y
  refine ⟨_, rfl, fun e => ⟨_, _, _, b.loadAt 1 rfl (by kernel_rfl) rfl, ifD (fun hle => ?_) (fun hgt => ⟨?_, x⟩)⟩, fun e => ifF ⟨?_, x⟩⟩
  · refine ⟨_, b.loadAt 2 rfl (by kernel_rfl) rfl, ?_⟩
    refine Ret.at (impl_isScale_c a2 w2) ?_
    rintro v w3 ⟨hv, hw⟩
    subst hv; subst hw
    exact ⟨_, rfl, by simp only [decOk, e, show decide (a1z.length <= 6) = true by simp; omega, Bool.true_and], x⟩
  · simp only [decOk, show decide (a1z.length <= 6) = false by simp; omega, Bool.and_false, Bool.false_and]
  · simp only [decOk, e, Bool.false_and]
end Go.Proofs.YtbgokfhcgcoipaaGreatDoor
namespace Go.Proofs.YtbgokfhcgcoipaaGreatDoor
open Go Go.Proofs.YtbgokfhcgcoipaaGreatDoor.Sx
theorem impl_scaled_1_c {w : World} {xs : List Value} {b : Bool} {z : List Int} {s sc : Int} {cb : Nat} {e : TypeId} (h : Reps w xs [.bool b, .ints z, .int s]) (hz : Limbs z) (hl : z.length <= 1000) (hs : 0 <= s) (hss : s <= sc) (hsc : sc <= 30) (hcap : Blk w cb e [.int .i64 sc]) :
    Ret P n_impl_scaled_1 [.agg ⟨xs⟩, .pointer (some ⟨cb, 0, none⟩)] w fun v w' => ∃ vs' f, v = .agg ⟨vs'⟩ /\ Owns w' w.heap.size vs' (mkS b (digs (val z * 10 ^ (sc - s).toNat).toNat)) f /\ f.Nodup /\ Ext w w' := by
  obtain ⟨a0, a1p, a1n, a1c, a1z, a2, rfl, hd, ha⟩ := open_Dec h rfl
  cases hd
  have hlz := ha.1
  refine impl_scaled_1_ret ?_
  unfold impl_scaled_1
  intro r w1 hn1 r1 w2 hn2
  have X := hn1.ext.trans hn2.ext
  have D := Ext.drew w2
  have XD := X.trans D
  have k0 := hn1.blk.ext hn2.ext
  have e2 := hn2.r_eq; have s1 := hn1.size; have s2 := hn2.size
  have lD := D.le
  refine ⟨_, fun W hW => (k0.ext (D.trans hW)).loadAt 0 rfl (by kernel_rfl) rfl, _, _, _, fun W hW => (k0.ext (D.trans hW)).loadAt 1 rfl (by kernel_rfl) rfl, _, fun W hW => (hcap.ext (XD.trans hW)).load0 (by kernel_rfl) rfl, _, fun W hW => (k0.ext (D.trans hW)).loadAt 2 rfl (by kernel_rfl) rfl, exW ⟨by omega, by omega⟩ ?_⟩
  refine Ret.at (impl_natTen_c (by omega) (by omega)) ?_
  rintro v w3 ⟨p, n, c, hv, ho, y3⟩
  subst hv
  have hlen : n <= 4 := by
    have := ho.ints.1
    rw [<- tenL_digs] at this
    simp [tenL] at this
    omega
  refine ⟨_, _, _, rfl, y3, ?_⟩
  refine Ret.at (impl_natMul_c (ha.ext (XD.trans y3)) ho.ints hz (digs_limbs _) (by omega) (by omega)) ?_
  rintro v w4 ⟨p2, n2, c2, hv, ho2, y4⟩
  subst hv
  rw [val_digs] at ho2
  refine ⟨_, _, _, rfl, y4, ?_⟩
  refine Ret.at (impl_signed_c ho2.ints.1) ?_
  rintro v w5 ⟨hv, y5⟩
  subst hv
  have l3 := y3.le
  obtain ⟨B, hB⟩ : ∃ B, B = (b && !(digs (val z * ((10 ^ (sc - s).toNat : Nat) : Int)).toNat).isEmpty) := ⟨_, rfl⟩
  rw [<- hB]
  obtain ⟨w6, st, hb6, ch, sz⟩ := ((((hn2.blk.ext D).ext y3).ext y4).ext y5).storeA0 (P := P) (t := T_impl_Signed) (xs := [.bool B, .slice p2 n2 c2]) (by kernel_rfl) rfl (by simp [Value.oneCell'])
  refine ⟨_, _, _, _, rfl, w6, st, _, _, _, _, hb6.loadA0 (by kernel_rfl), _, _, rfl, ?_, nodup_opt p2, (((XD.trans y3).trans y4).trans y5).chg ch (by simp; omega)⟩
  have e10 : ((10 ^ (sc - s).toNat : Nat) : Int) = (10 : Int) ^ (sc - s).toNat := by simp
  rw [<- e10]
  unfold mkS
  rw [<- hB]
  exact ((Owns.int2 (ho2.ext y5)).chg1 ch (by omega)).mono (by omega)
end Go.Proofs.YtbgokfhcgcoipaaGreatDoor
namespace Go.Proofs.YtbgokfhcgcoipaaGreatDoor
open Go Go.Proofs.YtbgokfhcgcoipaaGreatDoor.Sx
def dcmp : List D0 -> List D0 -> Int
  | [.bool a, .ints x, .int s], [.bool b, .ints y, .int t] => if decOk [.bool a, .ints x, .int s] && decOk [.bool b, .ints y, .int t] then
      sgn (ival [.bool a, .ints x] * 10 ^ (max s t - s).toNat - ival [.bool b, .ints y] * 10 ^ (max s t - t).toNat) else 0
  | _, _ => 0
theorem mkS_mul {b : Bool} {z : List Int} {m : Int} (hok : intOk [.bool b, .ints z] = true) (hm : 0 < m) : mkS b (digs (val z * m).toNat) = enc (ival [.bool b, .ints z] * m) := by
  obtain ⟨_, _, _, he, hc, _⟩ := intOk_enc hok
  simp only [List.cons.injEq, D0.bool.injEq, D0.ints.injEq, and_true] at he
  obtain ⟨rfl, rfl⟩ := he
  have hv := val_nonneg hc.1
  have hp : 0 <= val z * m := Int.mul_nonneg hv (Int.le_of_lt hm)
  obtain ⟨N, hN⟩ : ∃ N : Nat, val z * m = N := ⟨(val z * m).toNat, by omega⟩
  cases b with
  | false => simp only [ival, Bool.false_eq_true, if_false, hN, Int.toNat_natCast]; exact mkS_pos N
  | true => simp only [ival, if_true, Int.neg_mul, hN, Int.toNat_natCast]; exact mkS_neg N
theorem scaled_len {b : Bool} {z : List Int} {e : Nat} (hok : intOk [.bool b, .ints z] = true) (hl : z.length <= 6) (he : e <= 30) : (digs (ival [.bool b, .ints z] * 10 ^ e).natAbs).length <= 10 := by
  obtain ⟨_, _, _, h1, hc, _⟩ := intOk_enc hok
  simp only [List.cons.injEq, D0.bool.injEq, D0.ints.injEq, and_true] at h1
  obtain ⟨rfl, rfl⟩ := h1
  have hv := val_nonneg hc.1
  have hlt := val_lt hc.1
  have h6 : (1000000000 : Nat) ^ z.length <= 1000000000 ^ 6 := Nat.pow_le_pow_right (by decide) hl
  have h6' := Int.ofNat_le.2 h6
  rw [Int.natCast_pow, Int.natCast_pow] at h6'
  have hn : (val z).toNat < 1000000000 ^ 6 := by
    have : val z < (1000000000 : Int) ^ 6 := Int.lt_of_lt_of_le hlt h6'
    omega
  have ha : (ival [.bool b, .ints z]).natAbs = (val z).toNat := by cases b <;> simp only [ival, if_true, Bool.false_eq_true, if_false] <;> omega
  have h10 : ((10 : Int) ^ e).natAbs = 10 ^ e := by simp [Int.natAbs_pow]
  have h30 : (10 : Nat) ^ e <= 10 ^ 30 := Nat.pow_le_pow_right (by decide) he
  apply digs_len
  rw [Int.natAbs_mul, ha, h10]
  exact Nat.lt_of_lt_of_le (Nat.mul_lt_mul_of_lt_of_le hn h30 (by decide)) (by decide)
theorem decOk_spec {b : Bool} {z : List Int} {s : Int} (h : decOk [.bool b, .ints z, .int s] = true) : intOk [.bool b, .ints z] = true /\ z.length <= 6 /\ 0 <= s /\ s <= 30 := by
  simp only [decOk, Bool.and_eq_true, decide_eq_true_eq] at h
  exact ⟨h.1.1, h.1.2, h.2.1, h.2.2⟩
theorem impl_DecCmp_c {w : World} {xs ys : List Value} {dx dy : List D0} (h : Reps w xs dx) (k : Reps w ys dy) (hc : dx.map D0.code = [.bool, .ints, .int]) (kc : dy.map D0.code = [.bool, .ints, .int]) :
    Ret P n_impl_DecCmp [.agg ⟨xs⟩, .agg ⟨ys⟩] w fun v w' => v = .int .i64 (dcmp dx dy) /\ Ext w w' := by
  have hr := h; have kr := k
  obtain ⟨a0, a1p, a1n, a1c, a1z, a2, rfl, rfl, ha⟩ := open_Dec h hc
  obtain ⟨b0, b1p, b1n, b1c, b1z, b2, rfl, rfl, hb⟩ := open_Dec k kc
  refine impl_DecCmp_ret ?_
  unfold impl_DecCmp
  intro r w1 hn1 r1 w2 hn2
  have X := hn1.ext.trans hn2.ext
  have k0 := hn1.blk.ext hn2.ext; have k1 := hn2.blk
  have bad : ∀ W, Ext w2 W -> (decOk [.bool a0, .ints a1z, .int a2] && decOk [.bool b0, .ints b1z, .int b2]) = false -> Value.int .i64 0 = .int .i64 (dcmp [.bool a0, .ints a1z, .int a2] [.bool b0, .ints b1z, .int b2]) /\ Ext w W := fun W hW hno => ⟨by simp only [dcmp, hno]; rfl, X.trans hW⟩
  refine ⟨_, _, _, _, _, k0.loadA0 (by kernel_rfl), ?_⟩
  refine Ret.at (impl_DecOk_c (hr.ext X) rfl) ?_
  rintro v w3 ⟨hv, y3⟩
  subst hv
  refine ⟨_, rfl, ifN (fun hno => ifT (bad w3 y3 (by simp [hno]))) (fun hok1 => ?_)⟩
  refine ⟨_, _, _, _, _, (k1.ext y3).loadA0 (by kernel_rfl), ?_⟩
  refine Ret.at (impl_DecOk_c (kr.ext (X.trans y3)) rfl) ?_
  rintro v w4 ⟨hv, y4⟩
  subst hv
  refine ⟨_, rfl, ifN (fun hno => bad w4 (y3.trans y4) (by simp [hno])) (fun hok2 => ?_)⟩
  obtain ⟨o1, l1, s1, t1⟩ := decOk_spec hok1
  obtain ⟨o2, l2, s2, t2⟩ := decOk_spec hok2
  have X4 := (X.trans y3).trans y4
  have k0 := (k0.ext y3).ext y4; have k1 := (k1.ext y3).ext y4
  unfold impl_DecCmp_j0
  have emax : (if b2 > a2 then b2 else a2) = max a2 b2 := by split <;> omega
  refine ⟨_, k0.loadAt 2 rfl (by kernel_rfl) rfl, _, k1.loadAt 2 rfl (by kernel_rfl) rfl, _, rfl, ?_⟩
  rw [emax]
  refine Ret.at (R := fun v w' => ∃ r, v = .func (.func n_impl_scaled_1) ⟨[]⟩ ⟨[.pointer (some ⟨r, 0, none⟩)]⟩ /\ Blk w' r T_int [.int .i64 (max a2 b2)] /\ Ext w4 w') ?_ ?_
  · refine impl_scaled_ret ?_
    unfold impl_scaled
    intro r5 w5 hn5
    exact ⟨r5, rfl, hn5.blk, hn5.ext⟩
  rintro v w5 ⟨r5, hv, hb5, y5⟩
  subst hv
  have D := Ext.drew w5
  have X5 := (X4.trans y5).trans D
  have q0 := (k0.ext y5).ext D; have q1 := (k1.ext y5).ext D
  have la := (intOk_enc o1).2
  obtain ⟨_, _, h1, c1, _⟩ := la
  simp only [List.cons.injEq, D0.bool.injEq, D0.ints.injEq, and_true] at h1
  obtain ⟨rfl, rfl⟩ := h1
  obtain ⟨_, _, h2, c2, _⟩ := (intOk_enc o2).2
  simp only [List.cons.injEq, D0.bool.injEq, D0.ints.injEq, and_true] at h2
  obtain ⟨rfl, rfl⟩ := h2
  have p1 : (0 : Int) < 10 ^ (max a2 b2 - a2).toNat := Int.pow_pos (by decide)
  have p2 : (0 : Int) < 10 ^ (max a2 b2 - b2).toNat := Int.pow_pos (by decide)
  refine ⟨_, rfl, _, _, _, _, _, fun W hW => (q0.ext hW).loadA0 (by kernel_rfl), _, _, _, rfl, by kernel_rfl, ?_⟩
  refine Calls.mono (impl_scaled_1_c (hr.ext X5) c1.1 (by omega) (by omega) (by omega) (by omega) (hb5.ext D)) ?_
  rintro e w6 ⟨v, he, vs1, f1, hv, ho1, _, y6⟩
  subst hv
  rw [mkS_mul o1 p1] at ho1
  obtain ⟨g0, gp, gn, gc, gz, rfl, hg, hgi⟩ := open_Signed ho1.reps (enc_code _)
  refine ⟨_, _, _, _, he, y6, _, _, _, _, _, fun W hW => (q1.ext hW).loadA0 (by kernel_rfl), _, _, _, rfl, by kernel_rfl, ?_⟩
  refine Calls.mono (impl_scaled_1_c (kr.ext (X5.trans y6)) c2.1 (by omega) (by omega) (by omega) (by omega) ((hb5.ext D).ext y6)) ?_
  rintro e w7 ⟨v, he2, vs2, f2, hv, ho2, _, y7⟩
  subst hv
  rw [mkS_mul o2 p2] at ho2
  obtain ⟨g20, g2p, g2n, g2c, g2z, rfl, hg2, hgi2⟩ := open_Signed ho2.reps (enc_code _)
  refine ⟨_, _, _, _, he2, ?_⟩
  refine Ret.at (impl_intCmp_c (ho1.reps.ext y7) ho2.reps (Nat.le_trans (scaled_len o1 l1 (by omega)) (by decide)) (Nat.le_trans (scaled_len o2 l2 (by omega)) (by decide))) ?_
  rintro v w8 ⟨hv, y8⟩
  subst hv
  refine ⟨_, rfl, ?_, ((X5.trans y6).trans y7).trans y8⟩
  simp only [dcmp, hok1, hok2, Bool.and_self, if_true]
end Go.Proofs.YtbgokfhcgcoipaaGreatDoor
namespace Go.Proofs.YtbgokfhcgcoipaaGreatDoor
open Go Go.Proofs.YtbgokfhcgcoipaaGreatDoor.Sx
theorem Sx.Fl.got {os : List Obj} {ss : List (Option Nat)} {w : World} {ss' : List (Option Nat)} {w' : World} (h : Fl os ss w ss' w') : ∀ {k r : Nat} {o : Obj}, ss[k]? = some none -> os[k]? = some o -> ss'[k]? = some (some r) -> w.heap.size <= r /\ w'.heap[r]? = some o := by
  induction h with
  | refl => intro k r o h0 _ h1; rw [h0] at h1; cases h1
  | step h1 h2 h3 ih =>
    rename_i ss w k' o' ss' w'
    intro k r o h0 ho hr
    by_cases hk : k' = k
    · subst hk
      rw [h2] at ho
      cases ho
      have hset : (ss.set k' (some w.heap.size))[k']? = some (some w.heap.size) := by
        rw [List.getElem?_set_self]
        exact (List.getElem?_eq_some_iff.1 h1).1
      have := h3.keeps hset
      rw [this] at hr
      cases hr
      exact ⟨Nat.le_refl _, (h3.ext.block _ (by simp)).trans (heap_alloc_new w _)⟩
    · obtain ⟨a, b⟩ := ih (k := k) (r := r) (o := o) (by rw [List.getElem?_set_ne hk]; exact h0) ho hr
      refine ⟨?_, b⟩
      have : w.heap.size <= (w.alloc o').heap.size := by simp
      omega
theorem impl_intCopy_c {w : World} {xs : List Value} {dx : List D0} (h : Reps w xs dx) (hc : dx.map D0.code = [.bool, .ints]) (hb : bulks dx <= 100000000) :
    Ret P n_impl_intCopy [.agg ⟨xs⟩] w fun v w' => ∃ vs' f, v = .agg ⟨vs'⟩ /\ Owns w' w.heap.size vs' dx f /\ f.Nodup /\ Ext w w' := by
  obtain ⟨a0, a1p, a1n, a1c, a1z, rfl, rfl, ha⟩ := open_Signed h hc
  have l1 := ha.1
  simp only [bulks, D0.bulk, List.map_cons, List.map_nil, List.sum_cons, List.sum_nil] at hb
  refine impl_intCopy_ret ?_
  unfold impl_intCopy
  intro r w1 hn1 r1 w2 hn2
  have D := Ext.drew w2
  have X := (hn1.ext.trans hn2.ext).trans D
  have k0 := hn1.blk.ext hn2.ext; have k1 := hn2.blk.ext D
  have e2 := hn2.r_eq; have s1 := hn1.size; have s2 := hn2.size; have lD := D.le
  refine ⟨_, fun W hW => (k0.ext (D.trans hW)).loadAt 0 rfl (by kernel_rfl) rfl, _, _, _, fun W hW => (k0.ext (D.trans hW)).loadAt 1 rfl (by kernel_rfl) rfl, ?_⟩
  refine Ret.at (impl_natCopy_c (ha.ext X) (by omega)) ?_
  rintro v w3 ⟨p, c, hv, ho, y3⟩
  subst hv
  obtain ⟨w4, st, hb4, ch, sz⟩ := (k1.ext y3).storeA0 (P := P) (t := T_impl_Signed) (xs := [.bool a0, .slice p a1n c]) (by kernel_rfl) rfl (by simp [Value.oneCell'])
  exact ⟨_, _, _, rfl, y3, w4, st, _, _, _, _, hb4.loadA0 (by kernel_rfl), _, _, rfl, ((Owns.int2 ho).chg1 ch (by omega)).mono (by omega), nodup_opt p, (X.trans y3).chg ch (by simp; omega)⟩
end Go.Proofs.YtbgokfhcgcoipaaGreatDoor
namespace Go.Proofs.YtbgokfhcgcoipaaGreatDoor
open Go Go.Proofs.YtbgokfhcgcoipaaGreatDoor.Sx
def ratNum : List D0 -> Int
  | [.bool s, .ints x, .ints _] => ival [.bool s, .ints x]
  | _ => 0
def ratDen : List D0 -> Nat
  | [.bool _, .ints _, .ints y] => (val y).toNat
  | _ => 0
def rmk (n : Int) (d : Nat) : List D0 := [.bool (decide (n < 0)), .ints (digs n.natAbs), .ints (digs d)]
theorem rmk_enc (n : Int) (d : Nat) : rmk n d = enc n ++ [.ints (digs d)] := rfl
theorem rmk_code (n : Int) (d : Nat) : (rmk n d).map D0.code = [.bool, .ints, .ints] := rfl
theorem ratNum_rmk (n : Int) (d : Nat) : ratNum (rmk n d) = n := ival_enc n
theorem ratDen_rmk (n : Int) (d : Nat) : ratDen (rmk n d) = d := by simp [ratDen, rmk, val_digs]
theorem ival_natAbs {s : Bool} {x : List Int} (h : Limbs x) : (ival [.bool s, .ints x]).natAbs = (val x).toNat := by
  have := val_nonneg h
  unfold ival
  cases s <;> simp <;> omega
theorem ratOk_enc {dx : List D0} (h : ratOk dx = true) : dx = rmk (ratNum dx) (ratDen dx) /\ 0 < ratDen dx /\ Nat.gcd (ratNum dx).natAbs (ratDen dx) = 1 /\ (digs (ratNum dx).natAbs).length <= 18 /\ (digs (ratDen dx)).length <= 18 := by
  match dx, h with
  | [.bool s, .ints x, .ints y], h =>
    simp only [ratOk, Bool.and_eq_true, decide_eq_true_eq, Bool.not_eq_true'] at h
    obtain ⟨⟨⟨⟨⟨h1, h2⟩, h3⟩, h4⟩, h5⟩, h6⟩ := h
    have e1 := (intOk_enc h1).1
    obtain ⟨b', z', ez, can1, _⟩ := (intOk_enc h1).2
    simp only [List.cons.injEq, D0.ints.injEq, D0.bool.injEq, and_true] at ez
    obtain ⟨_, rfl⟩ := ez
    have can2 := (natOk_spec.1 h2).1
    have na := ival_natAbs (s := s) can1.1
    have ey := digs_val can2
    have hp := canon_pos can2 (by intro e; subst e; simp at h3)
    have ex := digs_val can1
    refine ⟨?_, ?_, ?_, ?_, ?_⟩
    · have e1' : [D0.bool s, .ints x] = enc (ratNum [.bool s, .ints x, .ints y]) := e1
      have ey' : digs (ratDen [.bool s, .ints x, .ints y]) = y := ey
      rw [rmk_enc, <- e1', ey']; rfl
    · simp only [ratDen]; omega
    · simp only [ratNum, ratDen, na]; exact h6
    · simp only [ratNum, na, ex]; exact h5
    · simp only [ratDen, ey]; exact h4
theorem ratOk_rmk {n : Int} {d : Nat} (hd : 0 < d) (hg : Nat.gcd n.natAbs d = 1) (h1 : (digs n.natAbs).length <= 18) (h2 : (digs d).length <= 18) : ratOk (rmk n d) = true := by
  have i1 : intOk [.bool (decide (n < 0)), .ints (digs n.natAbs)] = true := by
    have := icap_ok n
    rwa [icap_fit (by omega)] at this
  have i2 : natOk (digs d) = true := natOk_spec.2 ⟨digs_canon d, by omega⟩
  have i3 : (digs d).isEmpty = false := by rw [isEmpty_digs]; simp; omega
  simp only [ratOk, rmk, i1, i2, i3, decide_eq_true h1, decide_eq_true h2, val_digs, Int.toNat_natCast, Bool.not_false, Bool.and_self, Bool.true_and]
  exact decide_eq_true hg
theorem rat_parts {w : World} {vs : List Value} {dx : List D0} (h : Reps w vs dx) (hc : dx.map D0.code = [.bool, .ints, .ints]) (hok : ratOk dx = true) :
    ∃ p1 n1 c1 p2 n2 c2, vs = [.bool (decide (ratNum dx < 0)), .slice p1 n1 c1, .slice p2 n2 c2] /\ IntsR w p1 n1 c1 (digs (ratNum dx).natAbs) /\ IntsR w p2 n2 c2 (digs (ratDen dx)) /\ n1 <= 18 /\ n2 <= 18 /\ Reps w [.bool (decide (ratNum dx < 0)), .slice p1 n1 c1] (enc (ratNum dx)) := by
  obtain ⟨e, h1, h2, h3, h4⟩ := ratOk_enc hok
  obtain ⟨a0, a1p, a1n, a1c, a1z, a2p, a2n, a2c, a2z, rfl, hd, ir1, ir2⟩ := open_Rat h hc
  rw [hd] at e
  simp only [rmk, List.cons.injEq, D0.ints.injEq, D0.bool.injEq, and_true] at e
  rw [<- hd] at e
  obtain ⟨e0, e1, e2⟩ := e
  rw [e1] at ir1
  rw [e2] at ir2
  have l1 := ir1.1; have l2 := ir2.1
  exact ⟨_, _, _, _, _, _, by rw [e0], ir1, ir2, by omega, by omega, rfl, ⟨_, _, _, rfl, ir1⟩, trivial⟩
theorem prod_len {x y : Nat} {i j : Nat} (hx : (digs x).length <= i) (hy : (digs y).length <= j) : (digs (x * y)).length <= i + j := by
  apply digs_len
  have h1 := val_lt (digs_limbs x); have h2 := val_lt (digs_limbs y)
  rw [val_digs] at h1 h2
  have h1' : x < 1000000000 ^ i := by
    have : ((x : Nat) : Int) < ((1000000000 ^ (digs x).length : Nat) : Int) := by simpa using h1
    exact Nat.lt_of_lt_of_le (Int.ofNat_lt.1 this) (Nat.pow_le_pow_right (by decide) hx)
  have h2' : y < 1000000000 ^ j := by
    have : ((y : Nat) : Int) < ((1000000000 ^ (digs y).length : Nat) : Int) := by simpa using h2
    exact Nat.lt_of_lt_of_le (Int.ofNat_lt.1 this) (Nat.pow_le_pow_right (by decide) hy)
  rw [Nat.pow_add]
  exact Nat.mul_lt_mul'' h1' h2'
end Go.Proofs.YtbgokfhcgcoipaaGreatDoor
namespace Go.Proofs.YtbgokfhcgcoipaaGreatDoor
open Go Go.Proofs.YtbgokfhcgcoipaaGreatDoor.Sx
def rat0 : List D0 := [.bool false, .ints [], .ints []]
def redN (n : Int) (d : Nat) : Int := if n < 0 then -((n.natAbs / Nat.gcd n.natAbs d : Nat) : Int) else ((n.natAbs / Nat.gcd n.natAbs d : Nat) : Int)
def redD (n : Int) (d : Nat) : Nat := d / Nat.gcd n.natAbs d
def redOk (n : Int) (d : Nat) : Bool := decide ((digs (n.natAbs / Nat.gcd n.natAbs d)).length <= 18) && decide ((digs (d / Nat.gcd n.natAbs d)).length <= 18)
def redR (n : Int) (d : Nat) : List D0 := if redOk n d then rmk (redN n d) (redD n d) else rat0
theorem redR_code (n : Int) (d : Nat) : (redR n d).map D0.code = [.bool, .ints, .ints] := by unfold redR; split <;> rfl
theorem redN_abs (n : Int) (d : Nat) : (redN n d).natAbs = n.natAbs / Nat.gcd n.natAbs d := by
  unfold redN
  generalize n.natAbs / Nat.gcd n.natAbs d = q
  split <;> omega
theorem enc_redN (n : Int) (d : Nat) : enc (redN n d) = mkS (decide (n < 0)) (digs (n.natAbs / Nat.gcd n.natAbs d)) := by
  unfold redN
  by_cases h : n < 0
  · rw [if_pos h, decide_eq_true h, mkS_neg]
  · rw [if_neg h, decide_eq_false h, mkS_pos]
theorem gcd_pos_right {m d : Nat} (hd : 0 < d) : 0 < Nat.gcd m d := Nat.gcd_pos_of_pos_right m hd
theorem redD_pos {n : Int} {d : Nat} (hd : 0 < d) : 0 < redD n d := Nat.div_pos (Nat.le_of_dvd hd (Nat.gcd_dvd_right _ _)) (gcd_pos_right hd)
theorem red_coprime {n : Int} {d : Nat} (hd : 0 < d) : Nat.gcd (redN n d).natAbs (redD n d) = 1 := by
  rw [redN_abs, redD, Nat.gcd_div (Nat.gcd_dvd_left _ _) (Nat.gcd_dvd_right _ _)]
  exact Nat.div_self (gcd_pos_right hd)
theorem redR_ok {n : Int} {d : Nat} (hd : 0 < d) (h : redOk n d = true) : ratOk (redR n d) = true := by
  have h' := h
  simp only [redOk, Bool.and_eq_true, decide_eq_true_eq] at h'
  rw [redR, if_pos h]
  exact ratOk_rmk (redD_pos hd) (red_coprime hd) (by rw [redN_abs]; exact h'.1) h'.2
theorem redOk_small {n : Int} {d : Nat} (h1 : (digs n.natAbs).length <= 18) (h2 : (digs d).length <= 18) : redOk n d = true := by
  simp only [redOk, Bool.and_eq_true, decide_eq_true_eq]
  exact ⟨Nat.le_trans (digs_mono_len (Nat.div_le_self _ _)) h1, Nat.le_trans (digs_mono_len (Nat.div_le_self _ _)) h2⟩
theorem redR_small {n : Int} {d : Nat} (h1 : (digs n.natAbs).length <= 18) (h2 : (digs d).length <= 18) : redR n d = rmk (redN n d) (redD n d) := by rw [redR, if_pos (redOk_small h1 h2)]
theorem redN_len {n : Int} {d : Nat} : (digs (redN n d).natAbs).length <= (digs n.natAbs).length := by rw [redN_abs]; exact digs_mono_len (Nat.div_le_self _ _)
theorem redD_len {n : Int} {d : Nat} : (digs (redD n d)).length <= (digs d).length := digs_mono_len (Nat.div_le_self _ _)
def modeAway (m : Int) (neg : Bool) (half : Int) (odd : Bool) : Bool :=
 if m = 0 then false else if m = 1 then true else if m = 2 then neg else if m = 3 then !neg else if m = 4 then decide (0 < half) else if m = 5 then decide (0 <= half) else decide (0 < half) || (decide (half = 0) && odd)
def roundM (n : Int) (d : Nat) (m : Int) : Nat :=
 if n.natAbs % d ≠ 0 /\ modeAway m (decide (n < 0)) (cmpL (digs (n.natAbs % d + n.natAbs % d)) (digs d)) (decide (n.natAbs / d % 2 = 1)) = true then n.natAbs / d + 1 else n.natAbs / d
def rround (n : Int) (d : Nat) (m : Int) : Int := if n < 0 then -((roundM n d m : Nat) : Int) else ((roundM n d m : Nat) : Int)
theorem rround_abs (n : Int) (d : Nat) (m : Int) : (rround n d m).natAbs = roundM n d m := by unfold rround; split <;> omega
theorem roundM_le (n : Int) (d : Nat) (m : Int) : roundM n d m <= n.natAbs / d + 1 := by unfold roundM; split <;> omega
theorem even_head {q : Nat} : (digs q).length = 0 ∨ (digs q).getD 0 0 % 2 = 0 ↔ q % 2 = 0 := by
  rcases Nat.eq_zero_or_pos q with h | h
  · subst h; rw [digs_zero]; simp
  · rw [digs_pos (by omega)]
    simp
    omega
end Go.Proofs.YtbgokfhcgcoipaaGreatDoor
namespace Go.Proofs.YtbgokfhcgcoipaaGreatDoor
open Go Go.Proofs.YtbgokfhcgcoipaaGreatDoor.Sx
theorem enc_nat (n : Nat) : enc (n : Int) = [.bool false, .ints (digs n)] := (mkS_pos n).symm
theorem enc_ok {z : Int} (h : (digs z.natAbs).length <= 50) : intOk (enc z) = true := by rw [<- icap_fit h]; exact icap_ok z
theorem ten_len {k : Nat} (h : k <= 30) : (digs (10 ^ k)).length <= 4 := by
  apply digs_len
  have : (10 : Nat) ^ k <= 10 ^ 30 := Nat.pow_le_pow_right (by decide) h
  exact Nat.lt_of_le_of_lt this (by decide)
end Go.Proofs.YtbgokfhcgcoipaaGreatDoor
namespace Go.Proofs.YtbgokfhcgcoipaaGreatDoor
open Go Go.Proofs.YtbgokfhcgcoipaaGreatDoor.Sx
def dnn (m : Nat) (s : Int) : List D0 := [.bool false, .ints (digs m), .int s]
theorem inn_ok {m : Nat} (h : (digs m).length <= 50) : intOk [.bool false, .ints (digs m)] = true := by
  simp only [intOk, natOk_spec.2 ⟨digs_canon m, h⟩, Bool.not_false, Bool.true_or, Bool.and_self]
theorem dnn_ok {m : Nat} {s : Int} (h : (digs m).length <= 6) (hs : 0 <= s /\ s <= 30) : decOk (dnn m s) = true := by
  simp only [decOk, dnn, inn_ok (show (digs m).length <= 50 by omega), decide_eq_true h, decide_eq_true hs, Bool.and_self]
end Go.Proofs.YtbgokfhcgcoipaaGreatDoor
namespace Go.Proofs.YtbgokfhcgcoipaaGreatDoor
open Go Go.Proofs.YtbgokfhcgcoipaaGreatDoor.Sx
theorem digs_pos_len {m : Nat} : 0 < (digs m).length ↔ m ≠ 0 := by
  constructor
  · intro h e
    rw [e, digs_zero] at h
    simp at h
  · intro h
    rw [digs_pos h]
    simp
theorem val_div (m k : Nat) : (val (digs m) / val (digs k)).toNat = m / k := by rw [val_digs, val_digs]; exact ediv_toNat m k
theorem val_mod (m k : Nat) : (val (digs m) % val (digs k)).toNat = m % k := by rw [val_digs, val_digs]; exact emod_toNat m k
end Go.Proofs.YtbgokfhcgcoipaaGreatDoor
namespace Go.Proofs.YtbgokfhcgcoipaaGreatDoor
open Go Go.Proofs.YtbgokfhcgcoipaaGreatDoor.Sx
theorem own_rat0 (W : World) (B : Nat) : Owns W B [.bool false, .slice none 0 0, .slice none 0 0] rat0 [] :=
  Owns.append (Owns.bool W B false) (Owns.append (Owns.ints (zs := []) (Own.nil W B T_int 1)) (Owns.ints (zs := []) (Own.nil W B T_int 1)))
theorem own_sgn0 (W : World) (B : Nat) : Owns W B [.bool false, .slice none 0 0] (enc 0) [] := by
  rw [enc0]
  exact Owns.append (Owns.bool W B false) (Owns.ints (zs := []) (Own.nil W B T_int 1))
theorem redR_no {n : Int} {d : Nat} (h : redOk n d = false) : redR n d = rat0 := by rw [redR, h]; rfl
theorem redR_yes {n : Int} {d : Nat} (h : redOk n d = true) : redR n d = rmk (redN n d) (redD n d) := by rw [redR, if_pos h]
theorem own_rmk {W : World} {B : Nat} {b : Bool} {p q : Option Addr} {n c m c2 : Nat} {N : Int} {D : Nat} {f : List Nat} (h : Owns W B [.bool b, .slice p n c] (enc N) f) (k : Own W B T_int 1 q m c2 ((digs D).map (Value.int .i64))) : Owns W B [.bool b, .slice p n c, .slice q m c2] (rmk N D) (f ++ (q.map (·.block)).toList) := by
  rw [rmk_enc]; exact Owns.append h (Owns.ints k)
theorem impl_reduce_c {w : World} {xs : List Value} {n : Int} {d : Nat} {p : Option Addr} {m c : Nat} (h : Reps w xs (enc n)) (k : IntsR w p m c (digs d)) (hd : 0 < d) (hl : (digs n.natAbs).length <= 1000) (hm : m <= 1000) :
    Ret P n_impl_reduce [.agg ⟨xs⟩, .slice p m c] w fun v w' => ∃ vs f, v = .tuple #[.agg ⟨vs⟩, .bool (redOk n d)] /\ Owns w' w.heap.size vs (redR n d) f /\ f.Nodup /\ Ext w w' := by
  obtain ⟨a0, ap, an, ac, az, rfl, hda, ha⟩ := open_Signed h (enc_code _)
  simp only [enc, List.cons.injEq, D0.bool.injEq, D0.ints.injEq, and_true] at hda
  obtain ⟨rfl, rfl⟩ := hda
  have hla := ha.1; have hlk := k.1
  refine impl_reduce_ret ?_
  unfold impl_reduce
  intro r w1 hn1 r1 w2 hn2
  have e1 := hn1.r_eq; have e2 := hn2.r_eq; have z1 := hn1.size; have z2 := hn2.size
  have X := hn1.ext.trans hn2.ext
  have q0 := hn1.blk.ext hn2.ext
  refine ⟨_, _, _, q0.loadAt 1 rfl (by kernel_rfl) rfl, ?_⟩
  refine Ret.at (impl_natGcd_c (ha.ext X) (k.ext X) (by omega) (by omega)) ?_
  rintro v w3 ⟨p3, n3, c3, hv, og, y3⟩
  subst hv
  have G := og.ints
  have gpos : 0 < Nat.gcd n.natAbs d := gcd_pos_right hd
  have lg := G.1
  have hg3 : 0 < n3 := by have := digs_pos_len.2 (show Nat.gcd n.natAbs d ≠ 0 by omega); omega
  have hg4 : n3 <= 1000 := by have := digs_mono_len (Nat.le_of_dvd hd (Nat.gcd_dvd_right n.natAbs d)); omega
  refine ⟨_, _, _, rfl, _, _, _, (q0.ext y3).loadAt 1 rfl (by kernel_rfl) rfl, ?_⟩
  refine Ret.at (impl_natDiv_c (ha.ext (X.trans y3)) G (digs_canon _) (digs_canon _) hg3 (by omega) (by omega)) ?_
  rintro v w4 ⟨p4, n4, c4, p5, n5, c5, hv, o4, _, _, y4⟩
  subst hv
  rw [val_div] at o4
  refine ⟨_, _, _, _, _, _, rfl, ?_⟩
  refine Ret.at (impl_natDiv_c (k.ext ((X.trans y3).trans y4)) (G.ext y4) (digs_canon _) (digs_canon _) hg3 (by omega) (by omega)) ?_
  rintro v w5 ⟨p6, n6, c6, p7, n7, c7, hv, o6, _, _, y5⟩
  subst hv
  rw [val_div] at o6
  have l4 := o4.ints.1; have l6 := o6.ints.1
  have Y := y3.trans (y4.trans y5)
  have q0 := q0.ext Y; have q1 := hn2.blk.ext Y
  have ly3 := y3.le; have ly4 := y4.le; have ly5 := y5.le
  have hok : redOk n d = (decide (n4 <= 18) && decide (n6 <= 18)) := by rw [redOk, l4, l6]
  have bad : redOk n d = false -> ∃ W', Stores P T_impl_Rat ⟨r1, 0, none⟩ (.agg ⟨[.bool false, .slice none 0 0, .slice none 0 0]⟩) w5 W' /\ Loads P T_impl_Rat ⟨r1, 0, none⟩ (.agg ⟨[.bool false, .slice none 0 0, .slice none 0 0]⟩) W' /\ Owns W' w.heap.size [.bool false, .slice none 0 0, .slice none 0 0] (redR n d) [] /\ Ext w W' := fun hno => by
    obtain ⟨W', st, ld, ow, xx, _, _⟩ := agg_end (t := T_impl_Rat) q1 (X.trans Y) (by omega) (own_rat0 w5 (r1 + 1)) (by kernel_rfl) rfl (by omega) (by omega)
    exact ⟨W', st, ld, by rw [redR_no hno]; exact ow, xx⟩
  refine ⟨_, _, _, _, _, _, rfl, ifD (fun h4 => ifT ?_) (fun h4 => ifD (fun h6 => ?_) (fun h6 => ?_))⟩
  · have hno : redOk n d = false := by rw [hok, decide_eq_false (by omega)]; rfl
    obtain ⟨W', st, ld, ow, xx⟩ := bad hno
    exact ⟨W', st, _, _, _, _, _, _, _, ld, _, [], by rw [hno], ow, List.nodup_nil, xx⟩
  · have hno : redOk n d = false := by rw [hok, decide_eq_false (show ¬ n6 <= 18 by omega), Bool.and_false]
    obtain ⟨W', st, ld, ow, xx⟩ := bad hno
    exact ⟨W', st, _, _, _, _, _, _, _, ld, _, [], by rw [hno], ow, List.nodup_nil, xx⟩
  · have hyes : redOk n d = true := by rw [hok, decide_eq_true (show n4 <= 18 by omega), decide_eq_true (show n6 <= 18 by omega)]; rfl
    refine ⟨_, q0.loadAt 0 rfl (by kernel_rfl) rfl, ?_⟩
    refine Ret.at (impl_signed_c (neg := decide (n < 0)) (o4.ext y5).ints.1) ?_
    rintro v w6 ⟨hv, y6⟩
    subst hv
    have ho : Owns w6 w3.heap.size [.bool (decide (n < 0) && !(digs (n.natAbs / Nat.gcd n.natAbs d)).isEmpty), .slice p4 n4 c4] (enc (redN n d)) (p4.map (·.block)).toList := by
      rw [enc_redN]
      exact Owns.int2 ((o4.ext y5).ext y6)
    have hr := own_rmk ho ((o6.mono (show w3.heap.size <= w4.heap.size by omega)).ext y6)
    obtain ⟨W', st, ld, ow, xx, _, _⟩ := agg_end (t := T_impl_Rat) (q1.ext y6) ((X.trans Y).trans y6) (by omega) hr (by kernel_rfl) rfl (by omega) (by omega)
    refine ⟨_, _, _, _, rfl, W', st, _, _, _, _, _, _, _, ld, _, _, by rw [hyes], by rw [redR_yes hyes]; exact ow, ?_, xx⟩
    exact nodup_append (nodup_opt p4) (nodup_opt p6) (m := w4.heap.size) (fun q hq => (ho.lt q hq).2 |> fun _ => (World.ownsRow.lt o4 q (by cases p4 <;> simp_all [Value.ownBlock])).2) (fun q hq => (World.ownsRow.lt o6 q (by cases p6 <;> simp_all [Value.ownBlock])).1)
end Go.Proofs.YtbgokfhcgcoipaaGreatDoor
namespace Go.Proofs.YtbgokfhcgcoipaaGreatDoor
open Go Go.Proofs.YtbgokfhcgcoipaaGreatDoor.Sx
theorem rmk_open {w : World} {vs : List Value} {N : Int} {D : Nat} (h : Reps w vs (rmk N D)) (hok : ratOk (rmk N D) = true) :
    ∃ p1 n1 c1 p2 n2 c2, vs = [.bool (decide (N < 0)), .slice p1 n1 c1, .slice p2 n2 c2] /\ IntsR w p1 n1 c1 (digs N.natAbs) /\ IntsR w p2 n2 c2 (digs D) /\ n1 <= 18 /\ n2 <= 18 /\ Reps w [.bool (decide (N < 0)), .slice p1 n1 c1] (enc N) /\ 0 < D := by
  have := rat_parts h (rmk_code N D) hok
  have k := (ratOk_enc hok).2.1
  rw [ratNum_rmk, ratDen_rmk] at this
  rw [ratDen_rmk] at k
  obtain ⟨p1, n1, c1, p2, n2, c2, a, b, c, d, e, f⟩ := this
  exact ⟨p1, n1, c1, p2, n2, c2, a, b, c, d, e, f, k⟩
theorem mkS_of {b : Bool} {m : Nat} {z : Int} (hm : m = z.natAbs) (hb : z ≠ 0 -> b = decide (z < 0)) : mkS b (digs m) = enc z := by
  by_cases hz : z = 0
  · subst hz; subst hm; simp [mkS, enc, digs_zero]
  · rw [hb hz, hm]
    unfold mkS enc
    rw [isEmpty_digs]
    have : z.natAbs ≠ 0 := by omega
    simp [this]
theorem mul_sign {x y : Int} (h : x * y ≠ 0) : (!(decide (x < 0) == decide (y < 0))) = decide (x * y < 0) := by
  have hx : x ≠ 0 := fun e => h (by rw [e, Int.zero_mul])
  have hy : y ≠ 0 := fun e => h (by rw [e, Int.mul_zero])
  rcases Int.lt_or_gt_of_ne hx with h1 | h1 <;> rcases Int.lt_or_gt_of_ne hy with h2 | h2
  · have := Int.mul_pos_of_neg_of_neg h1 h2
    simp [h1, h2]; omega
  · have := Int.mul_neg_of_neg_of_pos h1 h2
    have h3 : ¬ y < 0 := by omega
    simp [h1, h3, this]
  · have := Int.mul_neg_of_pos_of_neg h1 h2
    have h3 : ¬ x < 0 := by omega
    simp [h2, h3, this]
  · have := Int.mul_pos h1 h2
    have h3 : ¬ x < 0 := by omega
    have h4 : ¬ y < 0 := by omega
    simp [h3, h4]; omega
theorem val_mul (m k : Nat) : (val (digs m) * val (digs k)).toNat = m * k := by rw [val_digs, val_digs, <- Int.natCast_mul, Int.toNat_natCast]
theorem natCast_enc (k : Nat) : enc (k : Int) = [.bool false, .ints (digs k)] := enc_nat k
theorem own_int {W : World} {B : Nat} {b : Bool} {p : Option Addr} {n c m : Nat} {z : Int} (h : Own W B T_int 1 p n c ((digs m).map (Value.int .i64))) (hm : m = z.natAbs) (hb : z ≠ 0 -> b = decide (z < 0)) :
    Owns W B [.bool (b && !(digs m).isEmpty), .slice p n c] (enc z) (p.map (·.block)).toList := by
  rw [<- mkS_of hm hb]
  exact Owns.int2 h
def FlSt (o : Obj) (w0 : World) (ss : List (Option Nat)) (w : World) : Prop := Ext w0 w /\ (ss = [none] ∨ ∃ r, ss = [some r] /\ w0.heap.size <= r /\ w.heap[r]? = some o)
theorem FlSt.start {o : Obj} (w0 : World) : FlSt o w0 [none] w0 := ⟨Ext.refl _, .inl rfl⟩
theorem FlSt.ext {o : Obj} {w0 w w' : World} {ss : List (Option Nat)} (h : FlSt o w0 ss w) (y : Ext w w') : FlSt o w0 ss w' := by
  refine ⟨h.1.trans y, ?_⟩
  rcases h.2 with h2 | ⟨r, h2, h3, h4⟩
  · exact .inl h2
  · exact .inr ⟨r, h2, h3, (y.block r (Array.getElem?_eq_some_iff.1 h4).1).trans h4⟩
theorem FlSt.step {o : Obj} {w0 w w' : World} {ss ss' : List (Option Nat)} (h : FlSt o w0 ss w) (f : Fl [o] ss w ss' w') : FlSt o w0 ss' w' := by
  refine ⟨h.1.trans f.ext, ?_⟩
  have hl := f.len
  rcases h.2 with h2 | ⟨r, h2, h3, h4⟩
  · subst h2
    match ss', hl, f with
    | [none], _, _ => exact .inl rfl
    | [some r], _, f =>
      obtain ⟨a, b⟩ := f.got (k := 0) rfl rfl rfl
      exact .inr ⟨r, rfl, Nat.le_trans h.1.le a, b⟩
    | [], hl, _ => simp at hl
    | _ :: _ :: _, hl, _ => simp at hl
  · subst h2
    have hk := f.keeps (k := 0) (r := r) rfl
    match ss', hl, hk with
    | [x], _, hk =>
      simp at hk
      subst hk
      exact .inr ⟨r, rfl, h3, (f.ext.block r (Array.getElem?_eq_some_iff.1 h4).1).trans h4⟩
    | [], hl, _ => simp at hl
    | _ :: _ :: _, hl, _ => simp at hl
theorem FlSt.get {o : Obj} {w0 w : World} {ss : List (Option Nat)} {r : Nat} (h : FlSt o w0 ss w) (hr : ss[0]? = some (some r)) : w0.heap.size <= r /\ w.heap[r]? = some o := by
  rcases h.2 with h2 | ⟨r', h2, h3, h4⟩
  · subst h2; simp at hr
  · subst h2
    simp at hr
    subst hr
    exact ⟨h3, h4⟩
theorem impl_ratsOk_c {w : World} {xs ys : List Value} {N1 N2 : Int} {D1 D2 : Nat} (h : Reps w xs (rmk N1 D1)) (g : Reps w ys (rmk N2 D2)) (hok : ratOk (rmk N1 D1) = true) (gok : ratOk (rmk N2 D2) = true) :
    Ret P n_impl_ratsOk [.agg ⟨xs⟩, .agg ⟨ys⟩] w fun v w' => v = .bool true /\ Ext w w' := by
  have hr := h; have gr := g
  obtain ⟨p1, n1, c1, q1, m1, d1, rfl, i1, i2, _, _, he, hd1⟩ := rmk_open h hok
  obtain ⟨p2, n2, c2, q2, m2, d2, rfl, j1, j2, _, _, ke, hd2⟩ := rmk_open g gok
  refine impl_ratsOk_ret ?_
  unfold impl_ratsOk
  intro r w1 hn1 r1 w2 hn2
  have X := hn1.ext.trans hn2.ext
  refine ⟨_, _, _, _, _, _, _, (hn1.blk.ext hn2.ext).loadA0 (by kernel_rfl), ?_⟩
  refine Ret.at (impl_RatOk_c (hr.ext X) (rmk_code _ _)) ?_
  rintro v w3 ⟨hv, y3⟩
  subst hv
  rw [hok]
  refine ⟨_, rfl, ifT ⟨_, _, _, _, _, _, _, (hn2.blk.ext y3).loadA0 (by kernel_rfl), ?_⟩⟩
  refine Ret.at (impl_RatOk_c (gr.ext (X.trans y3)) (rmk_code _ _)) ?_
  rintro v w4 ⟨hv, y4⟩
  subst hv
  rw [gok]
  exact ⟨_, rfl, rfl, (X.trans y3).trans y4⟩
theorem impl_intMul_s {w : World} {xs ys : List Value} {x y : Int} (h : Reps w xs (enc x)) (g : Reps w ys (enc y)) (hx : (digs x.natAbs).length <= 100) (hy : (digs y.natAbs).length <= 100) :
    Ret P n_impl_intMul [.agg ⟨xs⟩, .agg ⟨ys⟩] w fun v w' => ∃ vs f, v = .agg ⟨vs⟩ /\ Owns w' w.heap.size vs (enc (x * y)) f /\ f.Nodup /\ Ext w w' := by
  obtain ⟨a0, ap, an, ac, az, rfl, hd, ha⟩ := open_Signed h (enc_code _)
  simp only [enc, List.cons.injEq, D0.bool.injEq, D0.ints.injEq, and_true] at hd
  obtain ⟨rfl, rfl⟩ := hd
  obtain ⟨b0, bp, bn, bc, bz, rfl, hd, hb⟩ := open_Signed g (enc_code _)
  simp only [enc, List.cons.injEq, D0.bool.injEq, D0.ints.injEq, and_true] at hd
  obtain ⟨rfl, rfl⟩ := hd
  have la := ha.1; have lb := hb.1
  refine impl_intMul_ret ?_
  unfold impl_intMul
  intro r w1 hn1 r1 w2 hn2 r2 w3 hn3
  have e1 := hn1.r_eq; have e2 := hn2.r_eq; have e3 := hn3.r_eq; have z1 := hn1.size; have z2 := hn2.size; have z3 := hn3.size
  have D := Ext.drew w3
  have X := ((hn1.ext.trans hn2.ext).trans hn3.ext).trans D
  have q0 := ((hn1.blk.ext hn2.ext).ext hn3.ext).ext D
  have q1 := (hn2.blk.ext hn3.ext).ext D
  have q2 := hn3.blk.ext D
  have lD := D.le
  refine ⟨_, fun W hW => (q0.ext hW).loadAt 0 rfl (by kernel_rfl) rfl, _, fun W hW => (q1.ext hW).loadAt 0 rfl (by kernel_rfl) rfl, _, _, _, fun W hW => (q0.ext hW).loadAt 1 rfl (by kernel_rfl) rfl, _, _, _, fun W hW => (q1.ext hW).loadAt 1 rfl (by kernel_rfl) rfl, ?_⟩
  refine Ret.at (impl_natMul_c (ha.ext X) (hb.ext X) (digs_limbs _) (digs_limbs _) (by omega) (by omega)) ?_
  rintro v w4 ⟨p', n', c', hv, ho, y4⟩
  subst hv
  rw [val_mul] at ho
  refine ⟨_, _, _, rfl, y4, ?_⟩
  refine Ret.at (impl_signed_c (neg := !(decide (x < 0) == decide (y < 0))) ho.ints.1) ?_
  rintro v w5 ⟨hv, y5⟩
  subst hv
  obtain ⟨W', st, ld, ow, xx, _, _⟩ := agg_end (t := T_impl_Signed) ((q2.ext y4).ext y5) ((X.trans y4).trans y5) (by omega) (own_int (ho.ext y5) (z := x * y) (by rw [Int.natAbs_mul]) mul_sign) (by kernel_rfl) rfl (by omega) (by omega)
  exact ⟨_, _, _, _, rfl, W', st, _, _, _, _, ld, _, _, rfl, ow, nodup_opt p', xx⟩
theorem impl_RatMul_n {w : World} {xs ys : List Value} {N1 N2 : Int} {D1 D2 : Nat} (h : Reps w xs (rmk N1 D1)) (g : Reps w ys (rmk N2 D2)) (hok : ratOk (rmk N1 D1) = true) (gok : ratOk (rmk N2 D2) = true) :
    Ret P n_impl_RatMul [.agg ⟨xs⟩, .agg ⟨ys⟩] w fun v w' => ∃ vs f, v = .tuple #[.agg ⟨vs⟩, .bool (redOk (N1 * N2) (D1 * D2))] /\ Owns w' w.heap.size vs (redR (N1 * N2) (D1 * D2)) f /\ f.Nodup /\ Ext w w' := by
  have hr := h; have gr := g
  obtain ⟨p1, n1, c1, q1, m1, d1, rfl, i1, i2, li1, li2, he, hd1⟩ := rmk_open h hok
  obtain ⟨p2, n2, c2, q2, m2, d2, rfl, j1, j2, lj1, lj2, ke, hd2⟩ := rmk_open g gok
  have ei1 := i1.1; have ei2 := i2.1; have ej1 := j1.1; have ej2 := j2.1
  have pN := prod_len (x := N1.natAbs) (y := N2.natAbs) (i := 18) (j := 18) (by omega) (by omega)
  have pD := prod_len (x := D1) (y := D2) (i := 18) (j := 18) (by omega) (by omega)
  refine impl_RatMul_ret ?_
  unfold impl_RatMul
  intro r w1 hn1 r1 w2 hn2 r2 w3 hn3
  have e1 := hn1.r_eq; have e2 := hn2.r_eq; have e3 := hn3.r_eq; have z1 := hn1.size; have z2 := hn2.size; have z3 := hn3.size
  have X := (hn1.ext.trans hn2.ext).trans hn3.ext
  have b0 := (hn1.blk.ext hn2.ext).ext hn3.ext; have b1 := hn2.blk.ext hn3.ext; have b2 := hn3.blk
  refine ⟨_, _, _, _, _, _, _, b0.loadA0 (by kernel_rfl), _, _, _, _, _, _, _, b1.loadA0 (by kernel_rfl), ?_⟩
  refine Ret.at (impl_ratsOk_c (hr.ext X) (gr.ext X) hok gok) ?_
  rintro v w4 ⟨hv, y4⟩
  subst hv
  refine ⟨_, rfl, ifN (fun hh => absurd hh (by simp)) (fun _ => ?_)⟩
  have D := Ext.drew w4
  have Y := y4.trans D
  have X4 := X.trans Y
  have lY := Y.le
  have b0 := b0.ext Y; have b1 := b1.ext Y; have b2 := b2.ext Y
  refine ⟨_, _, _, _, fun W hW => (b0.ext hW).loadAAt 0 [.bool (decide (N1 < 0)), .slice p1 n1 c1] rfl (by kernel_rfl) rfl, _, _, _, _, fun W hW => (b1.ext hW).loadAAt 0 [.bool (decide (N2 < 0)), .slice p2 n2 c2] rfl (by kernel_rfl) rfl, ?_⟩
  refine Ret.at (impl_intMul_s (he.ext X4) (ke.ext X4) (by omega) (by omega)) ?_
  rintro v w5 ⟨vs5, f5, hv, ho5, _, y5⟩
  subst hv
  obtain ⟨s0, sp, sn, sc, sz, rfl, _, _⟩ := open_Signed ho5.reps (enc_code _)
  refine ⟨_, _, _, _, rfl, y5, _, _, _, fun W hW => (b0.ext hW).loadAt 2 rfl (by kernel_rfl) rfl, _, _, _, fun W hW => (b1.ext hW).loadAt 2 rfl (by kernel_rfl) rfl, ?_⟩
  refine Ret.at (impl_natMul_c (i2.ext (X4.trans y5)) (j2.ext (X4.trans y5)) (digs_limbs _) (digs_limbs _) (by omega) (by omega)) ?_
  rintro v w6 ⟨p6, n6, c6, hv, o6, y6⟩
  subst hv
  rw [val_mul] at o6
  have l6 := o6.ints.1
  have l5 := y5.le; have l6' := y6.le
  refine ⟨_, _, _, rfl, ?_⟩
  refine Ret.at (impl_reduce_c (ho5.reps.ext y6) o6.ints (Nat.mul_pos hd1 hd2) (by rw [Int.natAbs_mul]; omega) (by omega)) ?_
  rintro v w99 ⟨vs9, f9, hv, ho9, nd9, y99⟩
  subst hv
  obtain ⟨zb, zp, zn, zc, zz, zp2, zn2, zc2, zz2, rfl, _, _, _⟩ := open_Rat ho9.reps (redR_code _ _)
  obtain ⟨W', st', ld', ow', xx', _, _⟩ := agg_end (t := T_impl_Rat) (((b2.ext y5).ext y6).ext y99) (((X4.trans y5).trans y6).trans y99) (by omega) ho9 (by kernel_rfl) rfl (by omega) (by omega)
  exact ⟨_, _, _, _, _, _, _, _, rfl, W', st', _, _, _, _, _, _, _, ld', _, f9, rfl, ow', nd9, xx'⟩
  
theorem impl_RatMake_n {w : World} {xs ys : List Value} {x : Int} {k : Nat} (h : Reps w xs (enc x)) (g : Reps w ys (enc (k : Int))) (hx : (digs x.natAbs).length <= 50) (hk : (digs k).length <= 50) (hk0 : 0 < k) :
    Ret P n_impl_RatMake [.agg ⟨xs⟩, .agg ⟨ys⟩] w fun v w' => ∃ vs f, v = .tuple #[.agg ⟨vs⟩, .bool (redOk (x) (k))] /\ Owns w' w.heap.size vs (redR (x) (k)) f /\ f.Nodup /\ Ext w w' := by
  have hr := h; have gr := g
  obtain ⟨a0, p1, n1, c1, az, rfl, hd, i1⟩ := open_Signed h (enc_code _)
  simp only [enc, List.cons.injEq, D0.bool.injEq, D0.ints.injEq, and_true] at hd
  obtain ⟨rfl, rfl⟩ := hd
  rw [natCast_enc] at g
  obtain ⟨b0, p2, n2, c2, bz, rfl, hd, j1⟩ := open_Signed g rfl
  simp only [List.cons.injEq, D0.bool.injEq, D0.ints.injEq, and_true] at hd
  obtain ⟨rfl, rfl⟩ := hd
  have ei1 := i1.1; have ej1 := j1.1
  have ok1 : intOk (enc x) = true := enc_ok hx
  have ok2 : intOk (enc (k : Int)) = true := enc_ok (by rw [Int.natAbs_natCast]; exact hk)
  have hk1 := digs_pos_len.2 (show k ≠ 0 by omega)
  have sg : x ≠ 0 -> (!(decide (x < 0) == false)) = decide (x < 0) := fun _ => by cases decide (x < 0) <;> rfl
  refine impl_RatMake_ret ?_
  unfold impl_RatMake
  intro r w1 hn1 r1 w2 hn2 r2 w3 hn3
  have e1 := hn1.r_eq; have e2 := hn2.r_eq; have e3 := hn3.r_eq; have z1 := hn1.size; have z2 := hn2.size; have z3 := hn3.size
  have X := (hn1.ext.trans hn2.ext).trans hn3.ext
  have b0 := (hn1.blk.ext hn2.ext).ext hn3.ext; have b1 := hn2.blk.ext hn3.ext; have b2 := hn3.blk
  refine ⟨_, _, _, _, b0.loadA0 (by kernel_rfl), _, _, _, _, b1.loadA0 (by kernel_rfl), ?_⟩
  refine Ret.at (impl_intsOk_c (hr.ext X) (gr.ext X) (enc_code _) (enc_code _)) ?_
  rintro v w4 ⟨hv, y4⟩
  subst hv
  rw [ok1, ok2]
  refine ⟨_, rfl, ifN (fun hh => absurd hh (by simp)) (fun _ => ⟨_, _, _, (b1.ext y4).loadAt 1 rfl (by kernel_rfl) rfl, ifD (fun hh => absurd hh (by omega)) (fun _ => ?_)⟩)⟩
  unfold impl_RatMake_j0
  have D := Ext.drew w4
  have Y := y4.trans D
  have X4 := X.trans Y
  have lY := Y.le
  have b0 := b0.ext Y; have b1 := b1.ext Y; have b2 := b2.ext Y
  refine ⟨_, fun W hW => (b0.ext hW).loadAt 0 rfl (by kernel_rfl) rfl, _, fun W hW => (b1.ext hW).loadAt 0 rfl (by kernel_rfl) rfl, _, _, _, fun W hW => (b0.ext hW).loadAt 1 rfl (by kernel_rfl) rfl, ?_⟩
  refine Ret.at (impl_signed_c (neg := !(decide (x < 0) == false)) (i1.ext X4).1) ?_
  rintro v w5 ⟨hv, y5⟩
  subst hv
  have l5 := y5.le
  refine ⟨_, _, _, _, rfl, y5, _, _, _, fun W hW => (b1.ext hW).loadAt 1 rfl (by kernel_rfl) rfl, ?_⟩
  have hs : Reps w5 [.bool ((!(decide (x < 0) == false)) && !(digs x.natAbs).isEmpty), .slice p1 n1 c1] (enc x) := by
    rw [<- mkS_of (b := !(decide (x < 0) == false)) rfl sg]
    exact ⟨rfl, ⟨_, _, _, rfl, i1.ext (X4.trans y5)⟩, trivial⟩
  refine Ret.at (impl_reduce_c hs (j1.ext (X4.trans y5)) hk0 (by omega) (by omega)) ?_
  rintro v w99 ⟨vs9, f9, hv, ho9, nd9, y99⟩
  subst hv
  obtain ⟨zb, zp, zn, zc, zz, zp2, zn2, zc2, zz2, rfl, _, _, _⟩ := open_Rat ho9.reps (redR_code _ _)
  obtain ⟨W', st', ld', ow', xx', _, _⟩ := agg_end (t := T_impl_Rat) ((b2.ext y5).ext y99) ((X4.trans y5).trans y99) (by omega) ho9 (by kernel_rfl) rfl (by omega) (by omega)
  exact ⟨_, _, _, _, _, _, _, _, rfl, W', st', _, _, _, _, _, _, _, ld', _, f9, rfl, ow', nd9, xx'⟩
  
theorem impl_RatInt_n {w : World} {xs : List Value} {x : Int} (h : Reps w xs (enc x)) (hx : (digs x.natAbs).length <= 50) :
    Ret P n_impl_RatInt [.agg ⟨xs⟩] w fun v w' => ∃ vs f, v = .tuple #[.agg ⟨vs⟩, .bool (redOk (x) (1))] /\ Owns w' w.heap.size vs (redR (x) (1)) f /\ f.Nodup /\ Ext w w' := by
  have hr := h
  obtain ⟨a0, p1, n1, c1, az, rfl, hd, i1⟩ := open_Signed h (enc_code _)
  refine impl_RatInt_ret ?_
  unfold impl_RatInt
  intro r w1 hn1 r1 w2 hn2
  have e1 := hn1.r_eq; have e2 := hn2.r_eq; have z1 := hn1.size; have z2 := hn2.size
  have D := Ext.drew w2
  have lD := D.le
  have X := (hn1.ext.trans hn2.ext).trans D
  have b0 := (hn1.blk.ext hn2.ext).ext D; have b1 := hn2.blk.ext D
  refine ⟨_, _, _, _, fun W hW => (b0.ext hW).loadA0 (by kernel_rfl), ?_⟩
  refine Ret.at (impl_IntOf_c (n := 1) (by omega) (by omega)) ?_
  rintro v w3 ⟨vs3, f3, hv, ho3, _, y3⟩
  subst hv
  obtain ⟨s0, sp, sn, sc, sz, rfl, _, _⟩ := open_Signed ho3.reps (enc_code _)
  have l3 := y3.le
  refine ⟨_, _, _, _, rfl, y3, ?_⟩
  refine Ret.at (impl_RatMake_n (k := 1) (hr.ext (X.trans y3)) ho3.reps hx (by rw [digs_one]; decide) (by decide)) ?_
  rintro v w99 ⟨vs9, f9, hv, ho9, nd9, y99⟩
  subst hv
  obtain ⟨zb, zp, zn, zc, zz, zp2, zn2, zc2, zz2, rfl, _, _, _⟩ := open_Rat ho9.reps (redR_code _ _)
  obtain ⟨W', st', ld', ow', xx', _, _⟩ := agg_end (t := T_impl_Rat) ((b1.ext y3).ext y99) ((X.trans y3).trans y99) (by omega) ho9 (by kernel_rfl) rfl (by omega) (by omega)
  exact ⟨_, _, _, _, _, _, _, _, rfl, W', st', _, _, _, _, _, _, _, ld', _, f9, rfl, ow', nd9, xx'⟩
  
end Go.Proofs.YtbgokfhcgcoipaaGreatDoor
namespace Go.Proofs.YtbgokfhcgcoipaaGreatDoor
open Go Go.Proofs.YtbgokfhcgcoipaaGreatDoor.Sx
theorem impl_ratNeg_c {w : World} {xs : List Value} {dx : List D0} (h : Reps w xs dx) (hc : dx.map D0.code = [.bool, .ints, .ints]) (hok : ratOk dx = true) :
    Ret P n_impl_ratNeg [.agg ⟨xs⟩] w fun v w' => ∃ vs' f, v = .agg ⟨vs'⟩ /\ Owns w' w.heap.size vs' (rmk (-(ratNum dx)) (ratDen dx)) f /\ f.Nodup /\ Ext w w' := by
  have ok := (ratOk_enc hok).2
  obtain ⟨p1, n1, c1, p2, n2, c2, rfl, i1, i2, g1, g2, he⟩ := rat_parts h hc hok
  refine impl_ratNeg_ret ?_
  unfold impl_ratNeg
  intro r w1 hn1 r1 w2 hn2
  have D := Ext.drew w2
  have X := (hn1.ext.trans hn2.ext).trans D
  have k0 := hn1.blk.ext hn2.ext; have k1 := hn2.blk.ext D
  have e2 := hn2.r_eq; have s1 := hn1.size; have s2 := hn2.size; have lD := D.le
  refine ⟨_, _, _, _, fun W hW => (k0.ext (D.trans hW)).loadAAt 0 [.bool (decide (ratNum dx < 0)), .slice p1 n1 c1] rfl (by kernel_rfl) rfl, ?_⟩
  refine Ret.at (impl_intNeg_c (he.ext X) (by omega)) ?_
  rintro v w3 ⟨vs, f, hv, ho, nd, y3⟩
  subst hv
  obtain ⟨b0, bp, bn, bc, bz, rfl, hq, hbr⟩ := open_Signed ho.reps (enc_code _)
  refine ⟨_, _, _, _, rfl, y3, _, _, _, fun W hW => (k0.ext (D.trans hW)).loadAt 2 rfl (by kernel_rfl) rfl, ?_⟩
  refine Ret.at (impl_natCopy_c (i2.ext (X.trans y3)) (by omega)) ?_
  rintro v w4 ⟨p, c, hv, ho2, y4⟩
  subst hv
  have l3 := y3.le; have l4 := y4.le
  obtain ⟨w5, st, hb5, ch, sz⟩ := ((k1.ext y3).ext y4).storeA0 (P := P) (t := T_impl_Rat) (xs := [.bool b0, .slice bp bn bc, .slice p n2 c]) (by kernel_rfl) rfl (by simp [Value.oneCell'])
  have q1 := (ho.ext y4).chg1 ch (by omega)
  have q2 := (Owns.ints ho2).chg1 ch (by omega)
  refine ⟨_, _, _, rfl, w5, st, _, _, _, _, _, _, _, hb5.loadA0 (by kernel_rfl), _, f ++ (p.map (·.block)).toList, rfl, ?_, ?_, ((X.trans y3).trans y4).chg ch (by simp; omega)⟩
  · rw [rmk_enc]; exact Owns.append (q1.mono (by omega)) (q2.mono (by omega))
  exact nodup_append nd (nodup_opt p) (m := w3.heap.size) (fun k hk => (ho.lt k hk).2) (fun k hk => ((Owns.ints ho2).lt k hk).1)
end Go.Proofs.YtbgokfhcgcoipaaGreatDoor
namespace Go.Proofs.YtbgokfhcgcoipaaGreatDoor
open Go Go.Proofs.YtbgokfhcgcoipaaGreatDoor.Sx
theorem lt_of_len {x i : Nat} (h : (digs x).length <= i) : x < 1000000000 ^ i := by
  have h1 := val_lt (digs_limbs x)
  rw [val_digs] at h1
  have : ((x : Nat) : Int) < ((1000000000 ^ (digs x).length : Nat) : Int) := by simpa using h1
  exact Nat.lt_of_lt_of_le (Int.ofNat_lt.1 this) (Nat.pow_le_pow_right (by decide) h)
theorem sum_len {x y : Int} {i : Nat} (hx : (digs x.natAbs).length <= i) (hy : (digs y.natAbs).length <= i) : (digs (x + y).natAbs).length <= i + 1 := by
  apply digs_len
  have h1 := lt_of_len hx; have h2 := lt_of_len hy
  have h3 : (x + y).natAbs <= x.natAbs + y.natAbs := Int.natAbs_add_le x y
  rw [Nat.pow_succ]
  omega
theorem ratOk_neg {N : Int} {D : Nat} (h : ratOk (rmk N D) = true) : ratOk (rmk (-N) D) = true := by
  obtain ⟨_, h1, h2, h3, h4⟩ := ratOk_enc h
  rw [ratNum_rmk] at h2 h3
  rw [ratDen_rmk] at h1 h2 h4
  exact ratOk_rmk h1 (by rw [Int.natAbs_neg]; exact h2) (by rw [Int.natAbs_neg]; exact h3) h4
theorem cross_len {N : Int} {E : Nat} (hN : (digs N.natAbs).length <= 18) (hE : (digs E).length <= 18) : (digs (N * (E : Int)).natAbs).length <= 36 := by
  rw [Int.natAbs_mul, Int.natAbs_natCast]
  exact prod_len hN hE
theorem impl_Rat_num_n {w : World} {xs : List Value} {N : Int} {D E : Nat} {p : Option Addr} {m c : Nat} (h : Reps w xs (rmk N D)) (hok : ratOk (rmk N D) = true) (k : IntsR w p m c (digs E)) (hm : m <= 100) :
    Ret P n_impl_Rat_num [.agg ⟨xs⟩, .slice p m c] w fun v w' => ∃ vs f, v = .agg ⟨vs⟩ /\ Owns w' w.heap.size vs (enc (N * E)) f /\ f.Nodup /\ Ext w w' := by
  obtain ⟨p1, n1, c1, q1, m1, d1, rfl, i1, i2, li1, li2, he, hd1⟩ := rmk_open h hok
  have ei1 := i1.1; have ek := k.1
  refine impl_Rat_num_ret ?_
  unfold impl_Rat_num
  intro r w1 hn1 r1 w2 hn2
  have e1 := hn1.r_eq; have e2 := hn2.r_eq; have z1 := hn1.size; have z2 := hn2.size
  have D := Ext.drew w2
  have lD := D.le
  have X := (hn1.ext.trans hn2.ext).trans D
  have b0 := (hn1.blk.ext hn2.ext).ext D; have b1 := hn2.blk.ext D
  refine ⟨_, fun W hW => (b0.ext hW).loadAt 0 rfl (by kernel_rfl) rfl, _, _, _, fun W hW => (b0.ext hW).loadAt 1 rfl (by kernel_rfl) rfl, ?_⟩
  refine Ret.at (impl_natMul_c (i1.ext X) (k.ext X) (digs_limbs _) (digs_limbs _) (by omega) (by omega)) ?_
  rintro v w4 ⟨p4, n4, c4, hv, o4, y4⟩
  subst hv
  rw [val_mul] at o4
  refine ⟨_, _, _, rfl, y4, ?_⟩
  refine Ret.at (impl_signed_c (neg := decide (N < 0)) o4.ints.1) ?_
  rintro v w5 ⟨hv, y5⟩
  subst hv
  have sg : N * (E : Int) ≠ 0 -> decide (N < 0) = decide (N * (E : Int) < 0) := fun hh => by
    have := mul_sign hh
    rw [<- this, decide_eq_false (show ¬ (E : Int) < 0 by omega)]
    cases decide (N < 0) <;> rfl
  obtain ⟨W', st, ld, ow, xx, _, _⟩ := agg_end (t := T_impl_Signed) ((b1.ext y4).ext y5) ((X.trans y4).trans y5) (by omega) (own_int (o4.ext y5) (z := N * (E : Int)) (by rw [Int.natAbs_mul, Int.natAbs_natCast]) sg) (by kernel_rfl) rfl (by omega) (by omega)
  exact ⟨_, _, _, _, rfl, W', st, _, _, _, _, ld, _, _, rfl, ow, nodup_opt p4, xx⟩
theorem impl_RatAdd_n {w : World} {xs ys : List Value} {N1 N2 : Int} {D1 D2 : Nat} (h : Reps w xs (rmk N1 D1)) (g : Reps w ys (rmk N2 D2)) (hok : ratOk (rmk N1 D1) = true) (gok : ratOk (rmk N2 D2) = true) :
    Ret P n_impl_RatAdd [.agg ⟨xs⟩, .agg ⟨ys⟩] w fun v w' => ∃ vs f, v = .tuple #[.agg ⟨vs⟩, .bool (redOk (N1 * D2 + N2 * D1) (D1 * D2))] /\ Owns w' w.heap.size vs (redR (N1 * D2 + N2 * D1) (D1 * D2)) f /\ f.Nodup /\ Ext w w' := by
  have hr := h; have gr := g
  obtain ⟨p1, n1, c1, q1, m1, d1, rfl, i1, i2, li1, li2, he, hd1⟩ := rmk_open h hok
  obtain ⟨p2, n2, c2, q2, m2, d2, rfl, j1, j2, lj1, lj2, ke, hd2⟩ := rmk_open g gok
  have ei1 := i1.1; have ei2 := i2.1; have ej1 := j1.1; have ej2 := j2.1
  have pN := prod_len (x := N1.natAbs) (y := N2.natAbs) (i := 18) (j := 18) (by omega) (by omega)
  have pD := prod_len (x := D1) (y := D2) (i := 18) (j := 18) (by omega) (by omega)
  refine impl_RatAdd_ret ?_
  unfold impl_RatAdd
  intro r w1 hn1 r1 w2 hn2 r2 w3 hn3
  have e1 := hn1.r_eq; have e2 := hn2.r_eq; have e3 := hn3.r_eq; have z1 := hn1.size; have z2 := hn2.size; have z3 := hn3.size
  have X := (hn1.ext.trans hn2.ext).trans hn3.ext
  have b0 := (hn1.blk.ext hn2.ext).ext hn3.ext; have b1 := hn2.blk.ext hn3.ext; have b2 := hn3.blk
  refine ⟨_, _, _, _, _, _, _, b0.loadA0 (by kernel_rfl), _, _, _, _, _, _, _, b1.loadA0 (by kernel_rfl), ?_⟩
  refine Ret.at (impl_ratsOk_c (hr.ext X) (gr.ext X) hok gok) ?_
  rintro v w4 ⟨hv, y4⟩
  subst hv
  refine ⟨_, rfl, ifN (fun hh => absurd hh (by simp)) (fun _ => ?_)⟩
  have D := Ext.drew w4
  have Y := y4.trans D
  have X4 := X.trans Y
  have lY := Y.le
  have b0 := b0.ext Y; have b1 := b1.ext Y; have b2 := b2.ext Y
  have D' := Ext.drew w4.drew
  have X5 := X4.trans D'
  have lD' := D'.le
  have b0' := b0.ext D'; have b1' := b1.ext D'; have b2' := b2.ext D'
  refine ⟨_, _, _, _, _, _, _, fun W hW => (b0.ext hW).loadA0 (by kernel_rfl), _, _, _, _, _, _, _, fun W hW => (b1.ext hW).loadA0 (by kernel_rfl), _, _, _, fun W hW => (b1'.ext hW).loadAt 2 rfl (by kernel_rfl) rfl, _, _, _, rfl, by kernel_rfl, ?_⟩
  refine Calls.mono (impl_Rat_num_n (hr.ext X5) hok (j2.ext X5) (by omega)) ?_
  rintro e w5 ⟨v, he5, vs5, f5, hv, ho5, _, y5⟩
  subst hv
  obtain ⟨s0, sp, sn, sc, sz, rfl, _, _⟩ := open_Signed ho5.reps (enc_code _)
  refine ⟨_, _, _, _, he5, y5, _, _, _, fun W hW => (b0'.ext hW).loadAt 2 rfl (by kernel_rfl) rfl, _, _, _, rfl, by kernel_rfl, ?_⟩
  refine Calls.mono (impl_Rat_num_n (gr.ext (X5.trans y5)) gok (i2.ext (X5.trans y5)) (by omega)) ?_
  rintro e w6 ⟨v, he6, vs6, f6, hv, ho6, _, y6⟩
  subst hv
  obtain ⟨u0, up, un, uc, uz, rfl, _, _⟩ := open_Signed ho6.reps (enc_code _)
  refine ⟨_, _, _, _, he6, y6, ?_⟩
  have t1 := cross_len (N := N1) (E := D2) (by omega) (by omega)
  have t2 := cross_len (N := N2) (E := D1) (by omega) (by omega)
  have t3 := sum_len t1 t2
  refine Ret.at (impl_intAdd_c (ho5.reps.ext y6) ho6.reps (by omega) (by omega)) ?_
  rintro v w7 ⟨p7, n7, c7, hv, o7, y7⟩
  subst hv
  refine ⟨_, _, _, _, rfl, y7, _, _, _, fun W hW => (b0'.ext hW).loadAt 2 rfl (by kernel_rfl) rfl, _, _, _, fun W hW => (b1'.ext hW).loadAt 2 rfl (by kernel_rfl) rfl, ?_⟩
  have Y7 := (y5.trans y6).trans y7
  refine Ret.at (impl_natMul_c (i2.ext (X5.trans Y7)) (j2.ext (X5.trans Y7)) (digs_limbs _) (digs_limbs _) (by omega) (by omega)) ?_
  rintro v w8 ⟨p8, n8, c8, hv, o8, y8⟩
  subst hv
  rw [val_mul] at o8
  have l8 := o8.ints.1
  have lY7 := Y7.le; have ly8 := y8.le
  refine ⟨_, _, _, rfl, ?_⟩
  have hs : Reps w8 [.bool (decide (N1 * (D2 : Int) + N2 * (D1 : Int) < 0)), .slice p7 n7 c7] (enc (N1 * D2 + N2 * D1)) := ⟨rfl, ⟨_, _, _, rfl, o7.ints.ext y8⟩, trivial⟩
  refine Ret.at (impl_reduce_c hs o8.ints (Nat.mul_pos hd1 hd2) (by omega) (by omega)) ?_
  rintro v w99 ⟨vs9, f9, hv, ho9, nd9, y99⟩
  subst hv
  obtain ⟨zb, zp, zn, zc, zz, zp2, zn2, zc2, zz2, rfl, _, _, _⟩ := open_Rat ho9.reps (redR_code _ _)
  obtain ⟨W', st', ld', ow', xx', _, _⟩ := agg_end (t := T_impl_Rat) (((b2'.ext Y7).ext y8).ext y99) (((X5.trans Y7).trans y8).trans y99) (by omega) ho9 (by kernel_rfl) rfl (by omega) (by omega)
  exact ⟨_, _, _, _, _, _, _, _, rfl, W', st', _, _, _, _, _, _, _, ld', _, f9, rfl, ow', nd9, xx'⟩
  
theorem impl_RatSub_n {w : World} {xs ys : List Value} {N1 N2 : Int} {D1 D2 : Nat} (h : Reps w xs (rmk N1 D1)) (g : Reps w ys (rmk N2 D2)) (hok : ratOk (rmk N1 D1) = true) (gok : ratOk (rmk N2 D2) = true) :
    Ret P n_impl_RatSub [.agg ⟨xs⟩, .agg ⟨ys⟩] w fun v w' => ∃ vs f, v = .tuple #[.agg ⟨vs⟩, .bool (redOk (N1 * D2 + -N2 * D1) (D1 * D2))] /\ Owns w' w.heap.size vs (redR (N1 * D2 + -N2 * D1) (D1 * D2)) f /\ f.Nodup /\ Ext w w' := by
  have hr := h; have gr := g
  obtain ⟨p1, n1, c1, q1, m1, d1, rfl, i1, i2, li1, li2, he, hd1⟩ := rmk_open h hok
  obtain ⟨p2, n2, c2, q2, m2, d2, rfl, j1, j2, lj1, lj2, ke, hd2⟩ := rmk_open g gok
  have ei1 := i1.1; have ei2 := i2.1; have ej1 := j1.1; have ej2 := j2.1
  have pN := prod_len (x := N1.natAbs) (y := N2.natAbs) (i := 18) (j := 18) (by omega) (by omega)
  have pD := prod_len (x := D1) (y := D2) (i := 18) (j := 18) (by omega) (by omega)
  refine impl_RatSub_ret ?_
  unfold impl_RatSub
  intro r w1 hn1 r1 w2 hn2 r2 w3 hn3
  have e1 := hn1.r_eq; have e2 := hn2.r_eq; have e3 := hn3.r_eq; have z1 := hn1.size; have z2 := hn2.size; have z3 := hn3.size
  have X := (hn1.ext.trans hn2.ext).trans hn3.ext
  have b0 := (hn1.blk.ext hn2.ext).ext hn3.ext; have b1 := hn2.blk.ext hn3.ext; have b2 := hn3.blk
  refine ⟨_, _, _, _, _, _, _, b0.loadA0 (by kernel_rfl), _, _, _, _, _, _, _, b1.loadA0 (by kernel_rfl), ?_⟩
  refine Ret.at (impl_ratsOk_c (hr.ext X) (gr.ext X) hok gok) ?_
  rintro v w4 ⟨hv, y4⟩
  subst hv
  refine ⟨_, rfl, ifN (fun hh => absurd hh (by simp)) (fun _ => ?_)⟩
  have D := Ext.drew w4
  have Y := y4.trans D
  have X4 := X.trans Y
  have lY := Y.le
  have b0 := b0.ext Y; have b1 := b1.ext Y; have b2 := b2.ext Y
  refine ⟨_, _, _, _, _, _, _, fun W hW => (b0.ext hW).loadA0 (by kernel_rfl), _, _, _, _, _, _, _, fun W hW => (b1.ext hW).loadA0 (by kernel_rfl), ?_⟩
  refine Ret.at (impl_ratNeg_c (gr.ext X4) (rmk_code _ _) gok) ?_
  rintro v w5 ⟨vs5, f5, hv, ho5, _, y5⟩
  subst hv
  rw [ratNum_rmk, ratDen_rmk] at ho5
  have hr5 := ho5.reps
  obtain ⟨s0, sp, sn, sc, sz, sp2, sn2, sc2, sz2, rfl, _, _, _⟩ := open_Rat hr5 (rmk_code _ _)
  have l5 := y5.le
  refine ⟨_, _, _, _, _, _, _, rfl, y5, ?_⟩
  refine Ret.at (impl_RatAdd_n (hr.ext (X4.trans y5)) hr5 hok (ratOk_neg gok)) ?_
  rintro v w99 ⟨vs9, f9, hv, ho9, nd9, y99⟩
  subst hv
  obtain ⟨zb, zp, zn, zc, zz, zp2, zn2, zc2, zz2, rfl, _, _, _⟩ := open_Rat ho9.reps (redR_code _ _)
  obtain ⟨W', st', ld', ow', xx', _, _⟩ := agg_end (t := T_impl_Rat) ((b2.ext y5).ext y99) ((X4.trans y5).trans y99) (by omega) ho9 (by kernel_rfl) rfl (by omega) (by omega)
  exact ⟨_, _, _, _, _, _, _, _, rfl, W', st', _, _, _, _, _, _, _, ld', _, f9, rfl, ow', nd9, xx'⟩
  
end Go.Proofs.YtbgokfhcgcoipaaGreatDoor
namespace Go.Proofs.YtbgokfhcgcoipaaGreatDoor
open Go Go.Proofs.YtbgokfhcgcoipaaGreatDoor.Sx
theorem digs_one_r {W : World} {r : Nat} (hb : Blk W r T_int [.int .i64 1]) : IntsR W (some ⟨r, 0, none⟩) 1 1 (digs 1) := by
  rw [digs_one]
  exact ⟨rfl, Nat.le_refl _, by omega, fun _ => ⟨_, 0, rfl, hb.seg⟩⟩
theorem val_add' (m k : Nat) : (val (digs m) + val (digs k)).toNat = m + k := by rw [val_digs, val_digs, <- Int.natCast_add, Int.toNat_natCast]
theorem odd_even (q : Nat) : (!(decide (q % 2 = 0))) = decide (q % 2 = 1) := by
  rcases Nat.mod_two_eq_zero_or_one q with h | h <;> simp [h]
theorem impl_NatEven_n {w : World} {p : Option Addr} {n c q : Nat} (h : IntsR w p n c (digs q)) (hn : n <= 50) :
    Ret P n_impl_NatEven [.slice p n c] w fun v w' => v = .bool (decide (q % 2 = 0)) /\ Ext w w' := by
  have hl := h.1
  refine impl_NatEven_ret ?_
  unfold impl_NatEven
  refine Ret.at (impl_NatOk_c h) ?_
  rintro v w1 ⟨hv, y1⟩
  subst hv
  rw [natOk_spec.2 ⟨digs_canon q, by omega⟩]
  refine ⟨_, rfl, ifT (ifD (fun h0 => ⟨?_, y1⟩) (fun h0 => ?_))⟩
  · have : q % 2 = 0 := even_head.1 (.inl (by omega))
    rw [decide_eq_true this]
  · obtain ⟨ad, hp', hld⟩ := (h.ext y1).at (P := P) (t := T_int) (by kernel_rfl) (k := 0) (by omega)
    subst hp'
    have hx := digs_limbs q _ (List.getElem_mem (show 0 < (digs q).length by omega))
    refine ⟨⟨by omega, by omega⟩, _, by simpa using hld, by decide, _, rfl, ?_, y1⟩
    rw [Int.tmod_eq_emod_of_nonneg hx.1]
    have e : (digs q)[0]'(by omega) = (digs q).getD 0 0 := by rw [List.getD_eq_getElem?_getD, List.getElem?_eq_getElem (by omega)]; rfl
    rw [e]
    exact congrArg Value.bool (decide_eq_decide.2 ⟨fun hh => even_head.1 (.inr hh), fun hh => (even_head.2 hh).resolve_left (by omega)⟩)
theorem impl_roundModes_1_n (neg : Bool) (half : Int) (odd : Bool) (w : World) : Ret P n_impl_roundModes_1 [.bool neg, .int .i64 half, .bool odd] w fun v w' => v = .bool (modeAway 0 neg half odd) /\ w' = w := by
  refine impl_roundModes_1_ret ?_
  unfold impl_roundModes_1
  exact ⟨rfl, rfl⟩
theorem impl_roundModes_2_n (neg : Bool) (half : Int) (odd : Bool) (w : World) : Ret P n_impl_roundModes_2 [.bool neg, .int .i64 half, .bool odd] w fun v w' => v = .bool (modeAway 1 neg half odd) /\ w' = w := by
  refine impl_roundModes_2_ret ?_
  unfold impl_roundModes_2
  exact ⟨rfl, rfl⟩
theorem impl_roundModes_3_n (neg : Bool) (half : Int) (odd : Bool) (w : World) : Ret P n_impl_roundModes_3 [.bool neg, .int .i64 half, .bool odd] w fun v w' => v = .bool (modeAway 2 neg half odd) /\ w' = w := by
  refine impl_roundModes_3_ret ?_
  unfold impl_roundModes_3
  exact ⟨rfl, rfl⟩
theorem impl_roundModes_4_n (neg : Bool) (half : Int) (odd : Bool) (w : World) : Ret P n_impl_roundModes_4 [.bool neg, .int .i64 half, .bool odd] w fun v w' => v = .bool (modeAway 3 neg half odd) /\ w' = w := by
  refine impl_roundModes_4_ret ?_
  unfold impl_roundModes_4
  exact ⟨rfl, rfl⟩
theorem impl_roundModes_5_n (neg : Bool) (half : Int) (odd : Bool) (w : World) : Ret P n_impl_roundModes_5 [.bool neg, .int .i64 half, .bool odd] w fun v w' => v = .bool (modeAway 4 neg half odd) /\ w' = w := by
  refine impl_roundModes_5_ret ?_
  unfold impl_roundModes_5
  exact ⟨rfl, rfl⟩
theorem impl_roundModes_6_n (neg : Bool) (half : Int) (odd : Bool) (w : World) : Ret P n_impl_roundModes_6 [.bool neg, .int .i64 half, .bool odd] w fun v w' => v = .bool (modeAway 5 neg half odd) /\ w' = w := by
  refine impl_roundModes_6_ret ?_
  unfold impl_roundModes_6
  exact ⟨rfl, rfl⟩
theorem impl_roundModes_7_n (neg : Bool) (half : Int) (odd : Bool) (w : World) : Ret P n_impl_roundModes_7 [.bool neg, .int .i64 half, .bool odd] w fun v w' => v = .bool (modeAway 6 neg half odd) /\ w' = w := by
  refine impl_roundModes_7_ret ?_
  unfold impl_roundModes_7
  refine ifD (fun h => ⟨?_, rfl⟩) (fun h => ifD (fun h0 => ⟨?_, rfl⟩) (fun h0 => ⟨?_, rfl⟩))
  · simp [modeAway, h]
  · simp [modeAway, h0]
  · simp [modeAway, h, h0]
def modeCells : List Value := [.string (S [100, 111, 119, 110]), .func (.func n_impl_roundModes_1) #[] #[], .string (S [117, 112]), .func (.func n_impl_roundModes_2) #[] #[], .string (S [102, 108, 111, 111, 114]), .func (.func n_impl_roundModes_3) #[] #[], .string (S [99, 101, 105, 108]), .func (.func n_impl_roundModes_4) #[] #[], .string (S [104, 97, 108, 102, 100, 111, 119, 110]), .func (.func n_impl_roundModes_5) #[] #[], .string (S [104, 97, 108, 102, 117, 112]), .func (.func n_impl_roundModes_6) #[] #[], .string (S [104, 97, 108, 102, 101, 118, 101, 110]), .func (.func n_impl_roundModes_7) #[] #[]]
theorem impl_roundModes_n (w : World) : Ret P n_impl_roundModes [] w fun v w' => v = .agg ⟨modeCells⟩ /\ Ext w w' := by
  refine impl_roundModes_ret ?_
  unfold impl_roundModes
  intro r w1 hn1
  obtain ⟨w2, st, hb2, y2⟩ := hn1.fill (P := P) (t := T_7_impl_roundMode) (xs := modeCells) (by simp [modeCells, Value.oneCell']) (by kernel_rfl) rfl
  exact ⟨w2, st, _, _, _, _, _, _, _, _, _, _, _, _, _, _, hb2.loadA0 (by kernel_rfl), rfl, y2⟩
theorem mode_call {m : Int} (h0 : 0 <= m) (h1 : m <= 6) (neg : Bool) (half : Int) (odd : Bool) : ∃ fl : Value, (∀ K : Value -> Prop, K fl -> indexS P T_7_impl_roundMode (.agg ⟨modeCells⟩) (.int .i64 m) fun el => fieldS P T_impl_roundMode el 1 fun f => K f) /\
    ∀ (w : World) (Q : Ending -> World -> Prop), Q (.returned (.bool (modeAway m neg half odd))) w -> CallW P fl [.bool neg, .int .i64 half, .bool odd] w Q := by
  have hm : m = 0 ∨ m = 1 ∨ m = 2 ∨ m = 3 ∨ m = 4 ∨ m = 5 ∨ m = 6 := by omega
  rcases hm with rfl | rfl | rfl | rfl | rfl | rfl | rfl
  · refine ⟨.func (.func n_impl_roundModes_1) #[] #[], fun K hK => ?_, fun w Q hQ => ?_⟩
    · have e : (indexS P T_7_impl_roundMode (.agg ⟨modeCells⟩) (.int .i64 0) fun el => fieldS P T_impl_roundMode el 1 fun f => K f) = (((0 : Int) <= 0 /\ (0 : Int) < (7 : Nat)) /\ ∃ v, (Value.agg #[modeCells.getD 0 .nilFunc, modeCells.getD 1 .nilFunc] = v) /\ fieldS P T_impl_roundMode v 1 fun f => K f) := by kernel_rfl
      rw [e]
      refine ⟨⟨by omega, by omega⟩, _, rfl, ?_⟩
      have e2 : (fieldS P T_impl_roundMode (Value.agg #[modeCells.getD 0 .nilFunc, modeCells.getD 1 .nilFunc]) 1 fun f => K f) = K (modeCells.getD 1 .nilFunc) := by kernel_rfl
      rw [e2]
      exact hK
    · refine ⟨_, [], [], rfl, by kernel_rfl, Calls.mono (impl_roundModes_1_n neg half odd w) ?_⟩
      rintro e w' ⟨v, he, hv, hw⟩
      subst he; subst hv; subst hw
      exact hQ
  · refine ⟨.func (.func n_impl_roundModes_2) #[] #[], fun K hK => ?_, fun w Q hQ => ?_⟩
    · have e : (indexS P T_7_impl_roundMode (.agg ⟨modeCells⟩) (.int .i64 1) fun el => fieldS P T_impl_roundMode el 1 fun f => K f) = (((0 : Int) <= 1 /\ (1 : Int) < (7 : Nat)) /\ ∃ v, (Value.agg #[modeCells.getD 2 .nilFunc, modeCells.getD 3 .nilFunc] = v) /\ fieldS P T_impl_roundMode v 1 fun f => K f) := by kernel_rfl
      rw [e]
      refine ⟨⟨by omega, by omega⟩, _, rfl, ?_⟩
      have e2 : (fieldS P T_impl_roundMode (Value.agg #[modeCells.getD 2 .nilFunc, modeCells.getD 3 .nilFunc]) 1 fun f => K f) = K (modeCells.getD 3 .nilFunc) := by kernel_rfl
      rw [e2]
      exact hK
    · refine ⟨_, [], [], rfl, by kernel_rfl, Calls.mono (impl_roundModes_2_n neg half odd w) ?_⟩
      rintro e w' ⟨v, he, hv, hw⟩
      subst he; subst hv; subst hw
      exact hQ
  · refine ⟨.func (.func n_impl_roundModes_3) #[] #[], fun K hK => ?_, fun w Q hQ => ?_⟩
    · have e : (indexS P T_7_impl_roundMode (.agg ⟨modeCells⟩) (.int .i64 2) fun el => fieldS P T_impl_roundMode el 1 fun f => K f) = (((0 : Int) <= 2 /\ (2 : Int) < (7 : Nat)) /\ ∃ v, (Value.agg #[modeCells.getD 4 .nilFunc, modeCells.getD 5 .nilFunc] = v) /\ fieldS P T_impl_roundMode v 1 fun f => K f) := by kernel_rfl
      rw [e]
      refine ⟨⟨by omega, by omega⟩, _, rfl, ?_⟩
      have e2 : (fieldS P T_impl_roundMode (Value.agg #[modeCells.getD 4 .nilFunc, modeCells.getD 5 .nilFunc]) 1 fun f => K f) = K (modeCells.getD 5 .nilFunc) := by kernel_rfl
      rw [e2]
      exact hK
    · refine ⟨_, [], [], rfl, by kernel_rfl, Calls.mono (impl_roundModes_3_n neg half odd w) ?_⟩
      rintro e w' ⟨v, he, hv, hw⟩
      subst he; subst hv; subst hw
      exact hQ
  · refine ⟨.func (.func n_impl_roundModes_4) #[] #[], fun K hK => ?_, fun w Q hQ => ?_⟩
    · have e : (indexS P T_7_impl_roundMode (.agg ⟨modeCells⟩) (.int .i64 3) fun el => fieldS P T_impl_roundMode el 1 fun f => K f) = (((0 : Int) <= 3 /\ (3 : Int) < (7 : Nat)) /\ ∃ v, (Value.agg #[modeCells.getD 6 .nilFunc, modeCells.getD 7 .nilFunc] = v) /\ fieldS P T_impl_roundMode v 1 fun f => K f) := by kernel_rfl
      rw [e]
      refine ⟨⟨by omega, by omega⟩, _, rfl, ?_⟩
      have e2 : (fieldS P T_impl_roundMode (Value.agg #[modeCells.getD 6 .nilFunc, modeCells.getD 7 .nilFunc]) 1 fun f => K f) = K (modeCells.getD 7 .nilFunc) := by kernel_rfl
      rw [e2]
      exact hK
    · refine ⟨_, [], [], rfl, by kernel_rfl, Calls.mono (impl_roundModes_4_n neg half odd w) ?_⟩
      rintro e w' ⟨v, he, hv, hw⟩
      subst he; subst hv; subst hw
      exact hQ
  · refine ⟨.func (.func n_impl_roundModes_5) #[] #[], fun K hK => ?_, fun w Q hQ => ?_⟩
    · have e : (indexS P T_7_impl_roundMode (.agg ⟨modeCells⟩) (.int .i64 4) fun el => fieldS P T_impl_roundMode el 1 fun f => K f) = (((0 : Int) <= 4 /\ (4 : Int) < (7 : Nat)) /\ ∃ v, (Value.agg #[modeCells.getD 8 .nilFunc, modeCells.getD 9 .nilFunc] = v) /\ fieldS P T_impl_roundMode v 1 fun f => K f) := by kernel_rfl
      rw [e]
      refine ⟨⟨by omega, by omega⟩, _, rfl, ?_⟩
      have e2 : (fieldS P T_impl_roundMode (Value.agg #[modeCells.getD 8 .nilFunc, modeCells.getD 9 .nilFunc]) 1 fun f => K f) = K (modeCells.getD 9 .nilFunc) := by kernel_rfl
      rw [e2]
      exact hK
    · refine ⟨_, [], [], rfl, by kernel_rfl, Calls.mono (impl_roundModes_5_n neg half odd w) ?_⟩
      rintro e w' ⟨v, he, hv, hw⟩
      subst he; subst hv; subst hw
      exact hQ
  · refine ⟨.func (.func n_impl_roundModes_6) #[] #[], fun K hK => ?_, fun w Q hQ => ?_⟩
    · have e : (indexS P T_7_impl_roundMode (.agg ⟨modeCells⟩) (.int .i64 5) fun el => fieldS P T_impl_roundMode el 1 fun f => K f) = (((0 : Int) <= 5 /\ (5 : Int) < (7 : Nat)) /\ ∃ v, (Value.agg #[modeCells.getD 10 .nilFunc, modeCells.getD 11 .nilFunc] = v) /\ fieldS P T_impl_roundMode v 1 fun f => K f) := by kernel_rfl
      rw [e]
      refine ⟨⟨by omega, by omega⟩, _, rfl, ?_⟩
      have e2 : (fieldS P T_impl_roundMode (Value.agg #[modeCells.getD 10 .nilFunc, modeCells.getD 11 .nilFunc]) 1 fun f => K f) = K (modeCells.getD 11 .nilFunc) := by kernel_rfl
      rw [e2]
      exact hK
    · refine ⟨_, [], [], rfl, by kernel_rfl, Calls.mono (impl_roundModes_6_n neg half odd w) ?_⟩
      rintro e w' ⟨v, he, hv, hw⟩
      subst he; subst hv; subst hw
      exact hQ
  · refine ⟨.func (.func n_impl_roundModes_7) #[] #[], fun K hK => ?_, fun w Q hQ => ?_⟩
    · have e : (indexS P T_7_impl_roundMode (.agg ⟨modeCells⟩) (.int .i64 6) fun el => fieldS P T_impl_roundMode el 1 fun f => K f) = (((0 : Int) <= 6 /\ (6 : Int) < (7 : Nat)) /\ ∃ v, (Value.agg #[modeCells.getD 12 .nilFunc, modeCells.getD 13 .nilFunc] = v) /\ fieldS P T_impl_roundMode v 1 fun f => K f) := by kernel_rfl
      rw [e]
      refine ⟨⟨by omega, by omega⟩, _, rfl, ?_⟩
      have e2 : (fieldS P T_impl_roundMode (Value.agg #[modeCells.getD 12 .nilFunc, modeCells.getD 13 .nilFunc]) 1 fun f => K f) = K (modeCells.getD 13 .nilFunc) := by kernel_rfl
      rw [e2]
      exact hK
    · refine ⟨_, [], [], rfl, by kernel_rfl, Calls.mono (impl_roundModes_7_n neg half odd w) ?_⟩
      rintro e w' ⟨v, he, hv, hw⟩
      subst he; subst hv; subst hw
      exact hQ
end Go.Proofs.YtbgokfhcgcoipaaGreatDoor
namespace Go.Proofs.YtbgokfhcgcoipaaGreatDoor
open Go Go.Proofs.YtbgokfhcgcoipaaGreatDoor.Sx
def modeOk (m : Int) : Bool := decide (0 <= m /\ m <= 6)
theorem rround_sign {n : Int} {d : Nat} {m : Int} (h : rround n d m ≠ 0) : decide (n < 0) = decide (rround n d m < 0) := by
  have e : rround n d m = if n < 0 then -((roundM n d m : Nat) : Int) else ((roundM n d m : Nat) : Int) := rfl
  by_cases hn : n < 0
  · rw [if_pos hn] at e
    rw [decide_eq_true hn, decide_eq_true (show rround n d m < 0 by omega)]
  · rw [if_neg hn] at e
    rw [decide_eq_false hn, decide_eq_false (show ¬ rround n d m < 0 by omega)]
theorem roundM_len {n : Int} {d : Nat} {m : Int} {k : Nat} (hd : 0 < d) (h : (digs n.natAbs).length <= k) : (digs (roundM n d m)).length <= k + 1 := by
  apply digs_len
  have h1 := lt_of_len h
  have h2 := roundM_le n d m
  have h3 := Nat.div_le_self n.natAbs d
  have h4 : 0 < 1000000000 ^ k := Nat.pow_pos (by decide)
  rw [Nat.pow_succ]
  omega
theorem impl_isMode_c (m : Int) (w : World) : Ret P n_impl_isMode [.int .i64 m] w fun v w' => v = .bool (modeOk m) /\ w' = w := by
  refine impl_isMode_ret ?_
  unfold impl_isMode
  refine ifD (fun h => ⟨?_, rfl⟩) (fun h => ⟨?_, rfl⟩)
  · exact congrArg Value.bool (decide_eq_decide.2 (by omega))
  · rw [modeOk, decide_eq_false (by omega)]
set_option maxRecDepth 100000 in
theorem impl_roundQuotient_n {w : World} {xs : List Value} {x : Int} {d : Nat} {p : Option Addr} {n c : Nat} {m : Int} (h : Reps w xs (enc x)) (k : IntsR w p n c (digs d)) (hd : 0 < d) (hx : (digs x.natAbs).length <= 40) (hn : n <= 40) (hm : modeOk m = true) :
    Ret P n_impl_roundQuotient [.agg ⟨xs⟩, .slice p n c, .int .i64 m] w fun v w' => ∃ vs f, v = .agg ⟨vs⟩ /\ Owns w' w.heap.size vs (enc (rround x d m)) f /\ f.Nodup /\ Ext w w' := by
  have hm' := of_decide_eq_true hm
  obtain ⟨a0, ap, an, ac, az, rfl, hda, ha⟩ := open_Signed h (enc_code _)
  simp only [enc, List.cons.injEq, D0.bool.injEq, D0.ints.injEq, and_true] at hda
  obtain ⟨rfl, rfl⟩ := hda
  have hla := ha.1; have hlk := k.1
  have hd0 := digs_pos_len.2 (show d ≠ 0 by omega)
  refine impl_roundQuotient_ret ?_
  unfold impl_roundQuotient
  intro r w1 hn1 r1 w2 hn2
  have e1 := hn1.r_eq; have e2 := hn2.r_eq; have z1 := hn1.size; have z2 := hn2.size
  have X := hn1.ext.trans hn2.ext
  have b0 := hn1.blk.ext hn2.ext; have b1 := hn2.blk
  have fin : ∀ W p' n' c' M, Ext w2 W -> Own W w2.heap.size T_int 1 p' n' c' ((digs M).map (Value.int .i64)) -> M = roundM x d m -> impl_roundQuotient_j0 r r1 p' n' c' W fun v w' => ∃ vs f, v = .agg ⟨vs⟩ /\ Owns w' w.heap.size vs (enc (rround x d m)) f /\ f.Nodup /\ Ext w w' := by
    intro W p' n' c' M hW hO hM
    unfold impl_roundQuotient_j0
    refine ⟨_, (b0.ext hW).loadAt 0 rfl (by kernel_rfl) rfl, ?_⟩
    refine Ret.at (impl_signed_c (neg := decide (x < 0)) hO.ints.1) ?_
    rintro v w5 ⟨hv, y5⟩
    subst hv
    obtain ⟨W', st, ld, ow, xx, _, _⟩ := agg_end (t := T_impl_Signed) (b1.ext (hW.trans y5)) (X.trans (hW.trans y5)) (by omega) (own_int (hO.ext y5) (z := rround x d m) (by rw [rround_abs]; exact hM) rround_sign) (by kernel_rfl) rfl (by omega) (by omega)
    exact ⟨_, _, _, _, rfl, W', st, _, _, _, _, ld, _, _, rfl, ow, nodup_opt p', xx⟩
  refine ⟨_, _, _, b0.loadAt 1 rfl (by kernel_rfl) rfl, ?_⟩
  refine Ret.at (impl_natDiv_c (ha.ext X) (k.ext X) (digs_canon _) (digs_canon _) (by omega) (by omega) (by omega)) ?_
  rintro v w3 ⟨p3, n3, c3, p4, n4, c4, hv, oq, or', _, y3⟩
  subst hv
  rw [val_div] at oq
  rw [val_mod] at or'
  have lq := oq.ints.1; have lr := or'.ints.1
  have D := Ext.drew w3
  have Y := y3.trans D
  have q50 : n3 <= 40 := by have := digs_mono_len (Nat.div_le_self x.natAbs d); omega
  have r50 : n4 <= 40 := by have := digs_mono_len (Nat.le_of_lt (Nat.mod_lt x.natAbs hd)); omega
  refine ⟨_, _, _, _, _, _, rfl, ifD (fun hrem => ?_) (fun hno => ifF (fin _ _ _ _ _ Y (oq.ext D) ?_))⟩
  · have hne : x.natAbs % d ≠ 0 := digs_pos_len.1 (by omega)
    obtain ⟨fl, hix, hcall⟩ := mode_call hm'.1 hm'.2 (decide (x < 0)) (cmpL (digs (x.natAbs % d + x.natAbs % d)) (digs d)) (decide (x.natAbs / d % 2 = 1))
    refine Ret.at (impl_roundModes_n _) ?_
    rintro v w4 ⟨hv, y4⟩
    subst hv
    refine ⟨_, _, _, _, _, _, _, _, _, _, _, _, _, _, rfl, y4, hix _ ⟨_, fun W hW => ((b0.ext Y).ext hW).loadAt 0 rfl (by kernel_rfl) rfl, ?_⟩⟩
    refine Ret.at (impl_natAdd_c ((or'.ext D).ext y4).ints ((or'.ext D).ext y4).ints (digs_limbs _) (digs_limbs _) (by omega) (by omega)) ?_
    rintro v w5 ⟨p5, n5, c5, hv, o5, y5⟩
    subst hv
    rw [val_add'] at o5
    refine ⟨_, _, _, rfl, y5, ?_⟩
    refine Ret.at (impl_natCmp_c o5.ints (k.ext ((X.trans Y).trans (y4.trans y5)))) ?_
    rintro v w6 ⟨hv, y6⟩
    subst hv
    refine ⟨_, rfl, y6, ?_⟩
    have Y6 := (D.trans (y4.trans y5)).trans y6
    refine Ret.at (impl_NatEven_n (oq.ext Y6).ints (by omega)) ?_
    rintro v w7 ⟨hv, y7⟩
    subst hv
    refine ⟨_, rfl, y7, ?_⟩
    rw [odd_even]
    have Y7 := Y6.trans y7
    refine hcall _ _ ⟨_, rfl, fun hyes => ?_, fun hno => fin _ _ _ _ _ (y3.trans Y7) (oq.ext Y7) ?_⟩
    · intro r8 w8 hn8
      refine Ret.at (impl_natAdd_c ((oq.ext Y7).ext hn8.ext).ints (digs_one_r hn8.blk) (digs_limbs _) (digs_limbs _) (by omega) (by omega)) ?_
      rintro v w9 ⟨p9, n9, c9, hv, o9, y9⟩
      subst hv
      rw [val_add'] at o9
      have l8 := ((y3.trans Y7).trans hn8.ext).le
      refine ⟨_, _, _, rfl, fin _ _ _ _ _ (((y3.trans Y7).trans hn8.ext).trans y9) (o9.mono l8) ?_⟩
      rw [roundM, if_pos ⟨hne, hyes⟩]
    · rw [roundM, if_neg (fun hh => by rw [hh.2] at hno; cases hno)]
  · have heq : x.natAbs % d = 0 := Decidable.byContradiction fun hh => by
      have := digs_pos_len.2 hh
      omega
    rw [roundM, if_neg (fun hh => hh.1 heq)]
theorem impl_RatRound_n {w : World} {xs : List Value} {N : Int} {D : Nat} {m : Int} (h : Reps w xs (rmk N D)) (hok : ratOk (rmk N D) = true) :
    Ret P n_impl_RatRound [.agg ⟨xs⟩, .int .i64 m] w fun v w' => ∃ vs f, v = .tuple #[.agg ⟨vs⟩, .bool (modeOk m)] /\ Owns w' w.heap.size vs (enc (if modeOk m then rround N D m else 0)) f /\ f.Nodup /\ Ext w w' := by
  have hr := h
  obtain ⟨p1, n1, c1, p2, n2, c2, rfl, i1, i2, li1, li2, he, hd⟩ := rmk_open h hok
  have ei1 := i1.1; have ei2 := i2.1
  refine impl_RatRound_ret ?_
  unfold impl_RatRound
  intro r w1 hn1 r1 w2 hn2
  have e1 := hn1.r_eq; have e2 := hn2.r_eq; have z1 := hn1.size; have z2 := hn2.size
  have X := hn1.ext.trans hn2.ext
  have b0 := hn1.blk.ext hn2.ext; have b1 := hn2.blk
  refine ⟨_, _, _, _, _, _, _, b0.loadA0 (by kernel_rfl), ?_⟩
  refine Ret.at (impl_RatOk_c (hr.ext X) (rmk_code _ _)) ?_
  rintro v w3 ⟨hv, y3⟩
  subst hv
  rw [hok]
  refine ⟨_, rfl, ifN (fun hh => absurd hh (by simp)) (fun _ => ?_)⟩
  refine Ret.at (impl_isMode_c m _) ?_
  rintro v w4 ⟨hv, hw⟩
  subst hv; subst hw
  have X3 := X.trans y3
  have l3 := y3.le
  have b0 := b0.ext y3; have b1 := b1.ext y3
  refine ⟨_, rfl, ifN (fun hno => ?_) (fun hyes => ?_)⟩
  · obtain ⟨W', st, ld, ow, xx, _, _⟩ := agg_end (t := T_impl_Signed) b1 X3 (by omega) (own_sgn0 w4 (r1 + 1)) (by kernel_rfl) rfl (by omega) (by omega)
    exact ⟨W', st, _, _, _, _, ld, _, [], by rw [hno], by rw [hno]; exact ow, List.nodup_nil, xx⟩
  · refine ⟨_, _, _, _, b0.loadAAt 0 [.bool (decide (N < 0)), .slice p1 n1 c1] rfl (by kernel_rfl) rfl, _, _, _, b0.loadAt 2 rfl (by kernel_rfl) rfl, ?_⟩
    refine Ret.at (impl_roundQuotient_n (he.ext X3) (i2.ext X3) hd (by omega) (by omega) hyes) ?_
    rintro v w5 ⟨vs5, f5, hv, ho5, nd5, y5⟩
    subst hv
    have hr5 := ho5.reps
    obtain ⟨s0, sp, sn, sc, sz, rfl, _, _⟩ := open_Signed hr5 (enc_code _)
    obtain ⟨W', st, ld, ow, xx, _, _⟩ := agg_end (t := T_impl_Signed) (b1.ext y5) (X3.trans y5) (by omega) ho5 (by kernel_rfl) rfl (by omega) (by omega)
    exact ⟨_, _, _, _, rfl, W', st, _, _, _, _, ld, _, f5, by rw [hyes], by rw [hyes]; exact ow, nd5, xx⟩
end Go.Proofs.YtbgokfhcgcoipaaGreatDoor
namespace Go.Proofs.YtbgokfhcgcoipaaGreatDoor
open Go Go.Proofs.YtbgokfhcgcoipaaGreatDoor.Sx
theorem own_money0 (W : World) (B : Nat) : Owns W B [.string ByteArray.empty, .bool false, .slice none 0 0] zeroMoney [] :=
  Owns.append (Owns.str _ _ _) (Owns.append (Owns.bool _ _ false) (Owns.ints (zs := []) (Own.nil W B T_int 1)))
end Go.Proofs.YtbgokfhcgcoipaaGreatDoor
namespace Go.Proofs.YtbgokfhcgcoipaaGreatDoor
open Go Go.Proofs.YtbgokfhcgcoipaaGreatDoor.Sx
theorem two_end {t1 t2 : TypeId} {w W : World} {r1 r2 : Nat} {e1 e2 : TypeId} {o1 o2 xs1 xs2 : List Value} {d1 d2 : List D0} {f1 f2 : List Nat} {B : Nat} (hb1 : Blk W r1 e1 o1) (hb2 : Blk W r2 e2 o2) (X : Ext w W)
    (ho1 : Owns W B xs1 d1 f1) (ho2 : Owns W B xs2 d2 f2) (ht1 : aggT P t1 xs1.length = true) (hl1 : xs1.length = o1.length) (ht2 : aggT P t2 xs2.length = true) (hl2 : xs2.length = o2.length) (hne : r1 ≠ r2) (hr1 : w.heap.size <= r1) (hr2 : w.heap.size <= r2) (hB1 : r1 < B) (hB2 : r2 < B) (hwB : w.heap.size <= B) :
    ∃ W1 W2, Stores P t1 ⟨r1, 0, none⟩ (.agg ⟨xs1⟩) W W1 /\ Chg [r1] W W1 /\ Stores P t2 ⟨r2, 0, none⟩ (.agg ⟨xs2⟩) W1 W2 /\ Loads P t1 ⟨r1, 0, none⟩ (.agg ⟨xs1⟩) W2 /\ Loads P t2 ⟨r2, 0, none⟩ (.agg ⟨xs2⟩) W2 /\ Owns W2 w.heap.size xs1 d1 f1 /\ Owns W2 w.heap.size xs2 d2 f2 /\ Ext w W2 := by
  obtain ⟨W1, st1, hb1', ch1, _⟩ := hb1.storeA0 (P := P) (t := t1) (xs := xs1) ht1 hl1 ho1.reps.cells1
  obtain ⟨W2, st2, hb2', ch2, _⟩ := (hb2.chg ch1 (by simp; omega)).storeA0 (P := P) (t := t2) (xs := xs2) ht2 hl2 ho2.reps.cells1
  exact ⟨W1, W2, st1, ch1, st2, (hb1'.chg ch2 (by simp; omega)).loadA0 ht1, hb2'.loadA0 ht2, ((ho1.chg1 ch1 hB1).chg1 ch2 hB2).mono hwB, ((ho2.chg1 ch1 hB1).chg1 ch2 hB2).mono hwB, (X.chg ch1 (by simp; exact hr1)).chg ch2 (by simp; exact hr2)⟩
theorem Owns.notin {w : World} {B : Nat} {r : Nat} {e : TypeId} {cs : List Value} (hb : Blk w r e cs) (he : e ≠ T_int) : ∀ {vs : List Value} {ds : List D0} {f : List Nat}, Owns w B vs ds f -> r ∉ f
  | [], [], f, h => by rw [show f = [] from h]; simp
  | [], _ :: _, _, h => h.elim
  | _ :: _, [], _, h => h.elim
  | v :: vs, d :: ds, _, h => by
    obtain ⟨f1, f2, rfl, h1, h2⟩ := h
    have ih := Owns.notin hb he h2
    intro hm
    rcases List.mem_append.1 hm with hm | hm
    · cases d <;> simp only [Own0] at h1
      case ints zs =>
        obtain ⟨p, n, c, _, ho, hf⟩ := h1
        rw [hf] at hm
        have hm := opt_mem hm
        rcases ho.2 with k1 | ⟨g, cap, cur, k1, k2, k3, k4⟩
        · simp only [Value.slice.injEq] at k1
          rw [k1.1.1] at hm
          simp at hm
        · simp only [Value.slice.injEq] at k1
          rw [k1.1] at hm
          simp at hm
          subst hm
          rw [show w.heap[g]? = _ from hb] at k3
          simp only [Option.some.injEq, Obj.cells.injEq] at k3
          exact he k3.2.1
      all_goals (rw [h1.2] at hm; simp at hm)
    · exact ih hm
def rr (N : Int) (D : Nat) (m : Int) : Int := if modeOk m then rround N D m else 0
def restR (N : Int) (D : Nat) (m : Int) : List D0 := redR (N * ((1 : Nat) : Int) + -(rround N D m) * (D : Int)) (D * 1)
def rs (N : Int) (D : Nat) (m : Int) : List D0 := if modeOk m then restR N D m else rat0
def rmOk (cur : ByteArray) (N : Int) (D : Nat) (m : Int) : Bool := modeOk m && moneyOk (.str cur :: enc (rround N D m))
def rmMoney (cur : ByteArray) (N : Int) (D : Nat) (m : Int) : List D0 := if rmOk cur N D m then .str cur :: enc (rround N D m) else zeroMoney
def rmRest (cur : ByteArray) (N : Int) (D : Nat) (m : Int) : List D0 := if rmOk cur N D m then restR N D m else rat0
theorem one_len1 : (digs 1).length <= 1 := by rw [digs_one]; decide
theorem redR_int {z : Int} (h : (digs z.natAbs).length <= 18) : redR z 1 = rmk z 1 := by
  have h1 : redN z 1 = z := by
    have h2 : Nat.gcd z.natAbs 1 = 1 := Nat.gcd_one_right _
    unfold redN
    rw [h2, Nat.div_one]
    split <;> omega
  have h2 : redD z 1 = 1 := by
    have h2 : Nat.gcd z.natAbs 1 = 1 := Nat.gcd_one_right _
    unfold redD
    rw [h2]
  rw [redR_small h (Nat.le_trans one_len1 (by decide)), h1, h2]
theorem rmk_int_ok {z : Int} (h : (digs z.natAbs).length <= 18) : ratOk (rmk z 1) = true := ratOk_rmk (by decide) (Nat.gcd_one_right _) h (Nat.le_trans one_len1 (by decide))
theorem rr_len {N : Int} {D : Nat} {m : Int} (hd : 0 < D) (h : (digs N.natAbs).length <= 10) : (digs (rr N D m).natAbs).length <= 11 := by
  unfold rr
  split
  · rw [rround_abs]; exact roundM_len hd h
  · rw [Int.natAbs_zero, digs_zero]; simp
theorem rest_len {N z : Int} {D : Nat} (hN : (digs N.natAbs).length <= 10) (hD : (digs D).length <= 6) (hz : (digs z.natAbs).length <= 11) : redOk (N * ((1 : Nat) : Int) + -z * (D : Int)) (D * 1) = true := by
  have h1 : (digs (-z * (D : Int)).natAbs).length <= 17 := by
    rw [Int.natAbs_mul, Int.natAbs_natCast, Int.natAbs_neg]
    exact prod_len hz hD
  have h2 : (digs (N * ((1 : Nat) : Int)).natAbs).length <= 17 := by
    rw [Int.natCast_one, Int.mul_one]; omega
  exact redOk_small (sum_len h2 h1) (by rw [Nat.mul_one]; omega)
theorem impl_moneyOf_s {w : World} (ht : Tab w) {B : Nat} {xs : List Value} {z : Int} {f : List Nat} (cur : ByteArray) (h : Owns w B xs (enc z) f) (hnd : f.Nodup) (hB : B <= w.heap.size) :
    Ret P n_impl_moneyOf [.string cur, .agg ⟨xs⟩] w fun v w' => ∃ vs f', v = .tuple #[.agg ⟨vs⟩, .bool (moneyOk (.str cur :: enc z))] /\ Owns w' B vs (moneyMk cur z) f' /\ f'.Nodup /\ (∀ k ∈ f', k ∈ f) /\ Ext w w' := by
  have ho := h
  obtain ⟨a0, a1p, a1n, a1c, a1z, rfl, hd, ha⟩ := open_Signed h.reps (enc_code _)
  refine impl_moneyOf_ret ?_
  unfold impl_moneyOf
  intro r w1 hn1 r1 w2 hn2
  refine ⟨_, _, _, _, (hn1.blk.ext hn2.ext).loadA0 (by kernel_rfl), ?_⟩
  intro r2 w3 hn3
  have e1 := hn1.r_eq; have e2 := hn2.r_eq; have e3 := hn3.r_eq; have s1 := hn1.size; have s2 := hn2.size; have s3 := hn3.size
  obtain ⟨w4, st4, hb4, y4⟩ := hn3.fill (P := P) (t := T_impl_Money) (xs := [.string cur, .bool a0, .slice a1p a1n a1c]) (by simp [Value.oneCell']) (by kernel_rfl) rfl
  have X := (hn1.ext.trans hn2.ext).trans y4
  have k1 := hn2.blk.ext y4
  refine ⟨w4, st4, _, _, _, _, _, hb4.loadA0 (by kernel_rfl), ?_⟩
  have hm : Reps w4 [.string cur, .bool a0, .slice a1p a1n a1c] (.str cur :: enc z) := ⟨rfl, h.reps.ext X⟩
  refine Ret.at (impl_MoneyOk_c (ht.ext X) hm rfl) ?_
  rintro v w5 ⟨hv, y5⟩
  subst hv
  have X5 := X.trans y5
  refine ⟨_, rfl, fun hyes => ?_, fun hno => ?_⟩
  · obtain ⟨w6, st6, hb6, ch, sz⟩ := (k1.ext y5).storeA0 (P := P) (t := T_impl_Money) (xs := [.string cur, .bool a0, .slice a1p a1n a1c]) (by kernel_rfl) rfl (by simp [Value.oneCell'])
    refine ⟨_, _, _, _, _, (hb4.ext y5).loadA0 (by kernel_rfl), w6, st6, _, _, _, _, _, hb6.loadA0 (by kernel_rfl), [.string cur, .bool a0, .slice a1p a1n a1c], f, by rw [hyes], ?_, hnd, fun _ hh => hh, X5.chg ch (by simp; omega)⟩
    unfold moneyMk
    rw [hyes]
    have h5 := ((ho.ext X5).chg ch fun k hk hm => by
      have := (ho.lt k hk).2
      simp at hm; omega)
    exact Owns.append (Owns.str _ _ cur) h5
  · obtain ⟨w6, st6, hb6, ch, sz⟩ := (k1.ext y5).storeA0 (P := P) (t := T_impl_Money) (xs := [.string ByteArray.empty, .bool false, .slice none 0 0]) (by kernel_rfl) rfl (by simp [Value.oneCell'])
    refine ⟨w6, st6, _, _, _, _, _, hb6.loadA0 (by kernel_rfl), [.string ByteArray.empty, .bool false, .slice none 0 0], [], by rw [hno], ?_, List.nodup_nil, fun _ hh => by simp at hh, X5.chg ch (by simp; omega)⟩
    unfold moneyMk
    rw [hno]
    exact Owns.append (Owns.str _ _ _) (Owns.append (Owns.bool _ _ false) (Owns.ints (zs := []) (Own.nil w6 B T_int 1)))
theorem impl_RatRest_n {w : World} {xs : List Value} {N : Int} {D : Nat} {m : Int} (h : Reps w xs (rmk N D)) (hok : ratOk (rmk N D) = true) (hN : (digs N.natAbs).length <= 10) (hD : (digs D).length <= 6) :
    Ret P n_impl_RatRest [.agg ⟨xs⟩, .int .i64 m] w fun v w' => ∃ vs1 f1 vs2 f2, v = .tuple #[.agg ⟨vs1⟩, .agg ⟨vs2⟩, .bool (modeOk m)] /\ Owns w' w.heap.size vs1 (enc (rr N D m)) f1 /\ f1.Nodup /\ Owns w' w.heap.size vs2 (rs N D m) f2 /\ f2.Nodup /\ (∀ k ∈ f1, k ∉ f2) /\ Ext w w' := by
  have hr := h
  obtain ⟨p1, n1, c1, p2, n2, c2, rfl, i1, i2, li1, li2, he, hd⟩ := rmk_open h hok
  refine impl_RatRest_ret ?_
  unfold impl_RatRest
  intro r w1 hn1 r1 w2 hn2 r2 w3 hn3
  have e1 := hn1.r_eq; have e2 := hn2.r_eq; have e3 := hn3.r_eq; have z1 := hn1.size; have z2 := hn2.size; have z3 := hn3.size
  have X := (hn1.ext.trans hn2.ext).trans hn3.ext
  have b0 := (hn1.blk.ext hn2.ext).ext hn3.ext; have b1 := hn2.blk.ext hn3.ext; have b2 := hn3.blk
  have zlen := rr_len (m := m) hd hN
  have zok := rmk_int_ok (show (digs (rr N D m).natAbs).length <= 18 by omega)
  have zred := redR_int (show (digs (rr N D m).natAbs).length <= 18 by omega)
  have zrok := redOk_small (n := rr N D m) (d := 1) (by omega) (Nat.le_trans one_len1 (by decide))
  have dok := rest_len (z := rr N D m) hN hD zlen
  refine ⟨_, _, _, _, _, _, _, b0.loadA0 (by kernel_rfl), ?_⟩
  refine Ret.at (impl_RatRound_n (m := m) (hr.ext X) hok) ?_
  rintro v w4 ⟨vs4, f4, hv, ho4, nd4, y4⟩
  subst hv
  have ho4 : Owns w4 w3.heap.size vs4 (enc (rr N D m)) f4 := ho4
  have hr4 := ho4.reps
  obtain ⟨s0, sp, sn, sc, sz, rfl, _, _⟩ := open_Signed hr4 (enc_code _)
  refine ⟨_, _, _, _, _, rfl, ?_⟩
  intro r3 w5 hn5
  have e5 := hn5.r_eq; have z5 := hn5.size; have l4 := y4.le
  obtain ⟨w6, st6, hb6, y6⟩ := hn5.fill (P := P) (t := T_impl_Signed) (xs := [.bool s0, .slice sp sn sc]) (by simp [Value.oneCell']) (by kernel_rfl) rfl
  have Y6 := y4.trans y6
  have l6 := y6.le
  have zero : ∀ W, Ext w6 W -> modeOk m = false -> ∃ W1, Stores P T_impl_Signed ⟨r1, 0, none⟩ (.agg ⟨[.bool false, .slice none 0 0]⟩) W W1 /\ ∃ W2, Stores P T_impl_Rat ⟨r2, 0, none⟩ (.agg ⟨[.bool false, .slice none 0 0, .slice none 0 0]⟩) W1 W2 /\ Loads P T_impl_Signed ⟨r1, 0, none⟩ (.agg ⟨[.bool false, .slice none 0 0]⟩) W2 /\ Loads P T_impl_Rat ⟨r2, 0, none⟩ (.agg ⟨[.bool false, .slice none 0 0, .slice none 0 0]⟩) W2 /\ Owns W2 w.heap.size [.bool false, .slice none 0 0] (enc (rr N D m)) [] /\ Owns W2 w.heap.size [.bool false, .slice none 0 0, .slice none 0 0] (rs N D m) [] /\ Ext w W2 := by
    intro W hW hno
    have q1 := (b1.ext Y6).ext hW; have q2 := (b2.ext Y6).ext hW
    obtain ⟨W1, W2, a1, _, a2, a3, a4, a5, a6, a7⟩ := two_end (t1 := T_impl_Signed) (t2 := T_impl_Rat) q1 q2 ((X.trans Y6).trans hW) (own_sgn0 W (r2 + 1)) (own_rat0 W (r2 + 1)) (by kernel_rfl) rfl (by kernel_rfl) rfl (by omega) (by omega) (by omega) (by omega) (by omega) (by omega)
    have z1' : rr N D m = 0 := by rw [rr, hno]; rfl
    have z2' : rs N D m = rat0 := by rw [rs, hno]; rfl
    rw [z1', z2']
    exact ⟨W1, a1, W2, a2, a3, a4, a5, a6, a7⟩
  refine ⟨w6, st6, ifN (fun hno => ?_) (fun hyes => ?_)⟩
  · obtain ⟨W1, a1, W2, a2, a3, a4, a5, a6, a7⟩ := zero _ (Ext.refl _) hno
    exact ⟨W1, a1, W2, a2, _, _, _, _, a3, _, _, _, _, _, _, _, a4, _, [], _, [], by rw [hno], a5, List.nodup_nil, a6, List.nodup_nil, fun k hk => by simp at hk, a7⟩
  ·
    have hr6 : Reps w6 [.bool s0, .slice sp sn sc] (enc (rr N D m)) := hr4.ext y6
    refine ⟨_, _, _, _, hb6.loadA0 (by kernel_rfl), ?_⟩
    refine Ret.at (impl_RatInt_n hr6 (by omega)) ?_
    rintro v w7 ⟨vs7, f7, hv, ho7, _, y7⟩
    subst hv
    rw [zred] at ho7
    rw [zrok]
    have hr7 := ho7.reps
    obtain ⟨u0, up, un, uc, uz, up2, un2, uc2, uz2, rfl, _, _, _⟩ := open_Rat hr7 (rmk_code _ _)
    refine ⟨_, _, _, _, _, _, _, _, rfl, ?_⟩
    intro r4 w8 hn8
    have e8 := hn8.r_eq; have z8 := hn8.size; have l7 := y7.le
    obtain ⟨w9, st9, hb9, y9⟩ := hn8.fill (P := P) (t := T_impl_Rat) (xs := [.bool u0, .slice up un uc, .slice up2 un2 uc2]) (by simp [Value.oneCell']) (by kernel_rfl) rfl
    have l9 := y9.le
    have Y9 := (Y6.trans y7).trans y9
    refine ⟨w9, st9, _, _, _, _, _, _, _, (b0.ext Y9).loadA0 (by kernel_rfl), _, _, _, _, _, _, _, hb9.loadA0 (by kernel_rfl), ?_⟩
    refine Ret.at (impl_RatSub_n (hr.ext (X.trans Y9)) (hr7.ext y9) hok zok) ?_
    rintro v w10 ⟨vs10, f10, hv, ho10, nd10, y10⟩
    subst hv
    rw [dok]
    have hr10 := ho10.reps
    obtain ⟨g0, gp, gn, gc, gz, gp2, gn2, gc2, gz2, rfl, _, _, _⟩ := open_Rat hr10 (redR_code _ _)
    refine ⟨_, _, _, _, _, _, _, _, rfl, ?_⟩
    intro r5 w11 hn11
    have e11 := hn11.r_eq; have z11 := hn11.size; have l10 := y10.le
    obtain ⟨w12, st12, hb12, y12⟩ := hn11.fill (P := P) (t := T_impl_Rat) (xs := [.bool g0, .slice gp gn gc, .slice gp2 gn2 gc2]) (by simp [Value.oneCell']) (by kernel_rfl) rfl
    have D' := Ext.drew w12
    have Y12 := ((Y9.trans y10).trans y12).trans D'
    have T12 := (((y7.trans y9).trans y10).trans y12).trans D'
    have q1 := b1.ext Y12; have q2 := b2.ext Y12
    have k3 := hb6.ext T12; have k5 := hb12.ext D'
    have o1 := (ho4.ext y6).ext T12
    have o2 := ((ho10.ext y12).ext D').mono (show w3.heap.size <= w9.heap.size by omega)
    have dis : ∀ k ∈ f4, k ∉ f10 := fun k hk hm => by
      have a := (ho4.lt k hk).2
      have b := (ho10.lt k hm).1
      omega
    refine ⟨w12, st12, ?_⟩
    refine ifN (fun hh => absurd hh (by simp)) (fun _ => ifN (fun hh => absurd hh (by simp)) (fun _ => ?_))
    obtain ⟨W1, W2, a1, ch1, a2, a3, a4, a5, a6, a7⟩ := two_end (t1 := T_impl_Signed) (t2 := T_impl_Rat) q1 q2 (X.trans Y12) o1 o2 (by kernel_rfl) rfl (by kernel_rfl) rfl (by omega) (by omega) (by omega) (by omega) (by omega) (by omega)
    have z1' : rr N D m = rround N D m := by rw [rr, hyes]; rfl
    have z2' : rs N D m = restR N D m := by rw [rs, hyes]; rfl
    refine ⟨[r1], _, _, _, _, fun W hW => (k3.chg (show Chg [r1] w12.drew W from hW) (by simp; omega)).loadA0 (by kernel_rfl), _, _, _, _, _, _, _, fun W hW => (k5.chg (show Chg [r1] w12.drew W from hW) (by simp; omega)).loadA0 (by kernel_rfl), W1, a1, show Chg [r1] w12.drew W1 from ch1, W2, a2, _, _, _, _, a3, _, _, _, _, _, _, _, a4, _, f4, _, f10, by rw [hyes], a5, nd4, ?_, nd10, dis, a7⟩
    rw [z2', restR, <- z1']
    exact a6
end Go.Proofs.YtbgokfhcgcoipaaGreatDoor
namespace Go.Proofs.YtbgokfhcgcoipaaGreatDoor
open Go Go.Proofs.YtbgokfhcgcoipaaGreatDoor.Sx
def alk : List D0 -> List D0 -> Bool
  | [.str c, .bool b, .ints z], [.str c2, .bool b2, .ints z2] => moneyOk [.str c, .bool b, .ints z] && (moneyOk [.str c2, .bool b2, .ints z2] && decide (c = c2))
  | _, _ => false
def mres (al : Bool) (c : ByteArray) (z : Int) : Bool × List D0 := if al then (moneyOk (.str c :: enc z), moneyMk c z) else (false, zeroMoney)
theorem alk_parts {c c2 : ByteArray} {b b2 : Bool} {z z2 : List Int} (h : alk [.str c, .bool b, .ints z] [.str c2, .bool b2, .ints z2] = true) : moneyOk [.str c, .bool b, .ints z] = true /\ moneyOk [.str c2, .bool b2, .ints z2] = true /\ c = c2 := by
  simpa [alk] using h
theorem impl_intAdd_n {w : World} {xs ys : List Value} {x y : Int} (h : Reps w xs (enc x)) (k : Reps w ys (enc y)) (hx : x.natAbs <= 1000000000000000000000000000000000000) (hy : y.natAbs <= 1000000000000000000000000000000000000) :
    Ret P n_impl_intAdd [.agg ⟨xs⟩, .agg ⟨ys⟩] w fun v w' => ∃ vs f, v = .agg ⟨vs⟩ /\ Owns w' w.heap.size vs (enc (x + y)) f /\ f.Nodup /\ Ext w w' := by
  have d1 : (digs x.natAbs).length <= 6 := digs_len_le (by omega)
  have d2 : (digs y.natAbs).length <= 6 := digs_len_le (by omega)
  exact (impl_intAdd_c h k (by omega) (by omega)).mono fun v w' ⟨p, n, c, hv, ho, hx⟩ => ⟨_, _, hv, Owns.int2 ho, nodup_opt p, hx⟩
theorem impl_alike_c {w : World} {xs ys : List Value} {c c2 : ByteArray} {b b2 : Bool} {z z2 : List Int} (h : Reps w xs [.str c, .bool b, .ints z]) (g : Reps w ys [.str c2, .bool b2, .ints z2]) (ht : Tab w) :
    Ret P n_impl_alike [.agg ⟨xs⟩, .agg ⟨ys⟩] w fun v w' => v = .bool (alk [.str c, .bool b, .ints z] [.str c2, .bool b2, .ints z2]) /\ Ext w w' := by
  have hr := h; have gr := g
  obtain ⟨cur, a0, ap, an, ac, az, rfl, hd, ha⟩ := open_Money h rfl
  cases hd
  obtain ⟨cur2, d0, bp, bn, bc, bz, rfl, hd, hb⟩ := open_Money g rfl
  cases hd
  refine impl_alike_ret ?_
  unfold impl_alike
  intro r w1 hn1 r1 w2 hn2
  have X := hn1.ext.trans hn2.ext
  have q0 := hn1.blk.ext hn2.ext; have q1 := hn2.blk
  refine ⟨_, _, _, _, _, q0.loadA0 (by kernel_rfl), ?_⟩
  refine Ret.at (impl_MoneyOk_c (ht.ext X) (hr.ext X) rfl) ?_
  rintro v w3 ⟨hv, y3⟩
  subst hv
  refine ⟨_, rfl, fun e => ⟨_, _, _, _, _, (q1.ext y3).loadA0 (by kernel_rfl), ?_⟩, fun e => ⟨fun hh => absurd hh (by simp), fun _ => ⟨by simp only [alk, e, Bool.false_and], X.trans y3⟩⟩⟩
  have X3 := X.trans y3
  refine Ret.at (impl_MoneyOk_c (ht.ext X3) (gr.ext X3) rfl) ?_
  rintro v w4 ⟨hv, y4⟩
  subst hv
  have Y := y3.trans y4
  exact ⟨_, rfl, fun e2 => ⟨_, (q0.ext Y).loadAt 0 rfl (by kernel_rfl) rfl, _, (q1.ext Y).loadAt 0 rfl (by kernel_rfl) rfl, by simp only [alk, e, e2, Bool.true_and], X.trans Y⟩, fun e2 => ⟨by simp only [alk, e, e2, Bool.false_and, Bool.and_false], X.trans Y⟩⟩
theorem impl_MoneyAdd_n {w : World} {xs ys : List Value} {c c2 : ByteArray} {b b2 : Bool} {z z2 : List Int} (h : Reps w xs [.str c, .bool b, .ints z]) (g : Reps w ys [.str c2, .bool b2, .ints z2]) (ht : Tab w) :
    Ret P n_impl_MoneyAdd [.agg ⟨xs⟩, .agg ⟨ys⟩] w fun v w' => ∃ vs f, v = .tuple #[.agg ⟨vs⟩, .bool (mres (alk [.str c, .bool b, .ints z] [.str c2, .bool b2, .ints z2]) c (ival [.bool b, .ints z] + ival [.bool b2, .ints z2])).1] /\ Owns w' w.heap.size vs (mres (alk [.str c, .bool b, .ints z] [.str c2, .bool b2, .ints z2]) c (ival [.bool b, .ints z] + ival [.bool b2, .ints z2])).2 f /\ f.Nodup /\ Ext w w' := by
  have hr := h; have gr := g
  obtain ⟨cur, a0, ap, an, ac, az, rfl, hd, ha⟩ := open_Money h rfl
  cases hd
  obtain ⟨cur2, d0, bp, bn, bc, bz, rfl, hd, hb⟩ := open_Money g rfl
  cases hd
  refine impl_MoneyAdd_ret ?_
  unfold impl_MoneyAdd
  intro r w1 hn1 r1 w2 hn2 r2 w3 hn3
  have e1 := hn1.r_eq; have e2 := hn2.r_eq; have e3 := hn3.r_eq; have s1 := hn1.size; have s2 := hn2.size; have s3 := hn3.size
  have X := (hn1.ext.trans hn2.ext).trans hn3.ext
  have q0 := (hn1.blk.ext hn2.ext).ext hn3.ext; have q1 := hn2.blk.ext hn3.ext; have q2 := hn3.blk
  refine ⟨_, _, _, _, _, q0.loadA0 (by kernel_rfl), _, _, _, _, _, q1.loadA0 (by kernel_rfl), ?_⟩
  refine Ret.at (impl_alike_c (hr.ext X) (gr.ext X) (ht.ext X)) ?_
  rintro v w4 ⟨hv, y4⟩
  subst hv
  have l4 := y4.le
  generalize hal : alk [.str c, .bool b, .ints z] [.str c2, .bool b2, .ints z2] = al
  refine ⟨_, rfl, ifN (fun hno => ?_) (fun hyes => ?_)⟩
  · subst hno
    obtain ⟨W', st', ld', ow', xx', _, _⟩ := agg_end (t := T_impl_Money) (q2.ext y4) (X.trans y4) (by omega) (own_money0 w4 (r2 + 1)) (by kernel_rfl) rfl (by omega) (by omega)
    exact ⟨W', st', _, _, _, _, _, ld', _, [], rfl, ow', List.nodup_nil, xx'⟩
  subst hyes
  obtain ⟨m1, m2, rfl⟩ := alk_parts hal
  have E1 := (intOk_enc (moneyOk_int m1)).1; have E2 := (intOk_enc (moneyOk_int m2)).1
  have B1 := money_bound m1; have B2 := money_bound m2
  have Y := y4.trans (Ext.drew w4)
  have X4 := X.trans Y
  have lY := Y.le
  have k0 := q0.ext Y; have k1 := q1.ext Y; have k2 := q2.ext Y
  have hx : Reps w4.drew [.bool b, .slice ap an ac] (enc (ival [.bool b, .ints z])) := by
    rw [<- E1]; exact ⟨rfl, ⟨_, _, _, rfl, ha.ext X4⟩, trivial⟩
  have hy : Reps w4.drew [.bool b2, .slice bp bn bc] (enc (ival [.bool b2, .ints z2])) := by
    rw [<- E2]; exact ⟨rfl, ⟨_, _, _, rfl, hb.ext X4⟩, trivial⟩
  generalize ival [.bool b, .ints z] = U at B1 hx
  generalize ival [.bool b2, .ints z2] = V at B2 hy
  refine ⟨_, fun W hW => (k0.ext hW).loadAt 0 rfl (by kernel_rfl) rfl, _, _, _, _, fun W hW => (k0.ext hW).loadAAt 1 [.bool b, .slice ap an ac] rfl (by kernel_rfl) rfl, _, _, _, _, fun W hW => (k1.ext hW).loadAAt 1 [.bool b2, .slice bp bn bc] rfl (by kernel_rfl) rfl, ?_⟩
  refine Ret.at (impl_intAdd_n hx hy B1 B2) ?_
  rintro v w6 ⟨vs6, f6, hv, ho6, nd6, y6⟩
  subst hv
  have Z6 := y6
  obtain ⟨g0, gp, gn, gc, gz, rfl, _, _⟩ := open_Signed ho6.reps (enc_code _)
  have l6 := y6.le
  refine ⟨_, _, _, _, rfl, y6, ?_⟩
  refine Ret.at (impl_moneyOf_s (ht.ext (X4.trans y6)) c ho6 nd6 (by omega)) ?_
  rintro v w7 ⟨vs7, f7, hv, ho7, nd7, _, y7⟩
  subst hv
  obtain ⟨u0, u1, up, un, uc, uz, rfl, _, _⟩ := open_Money ho7.reps (moneyMk_code _ _)
  obtain ⟨W', st', ld', ow', xx', _, _⟩ := agg_end (t := T_impl_Money) ((k2.ext Z6).ext y7) ((X4.trans Z6).trans y7) (by omega) ho7 (by kernel_rfl) rfl (by omega) (by omega)
  exact ⟨_, _, _, _, _, _, rfl, W', st', _, _, _, _, _, ld', _, f7, rfl, ow', nd7, xx'⟩
theorem impl_MoneySub_n {w : World} {xs ys : List Value} {c c2 : ByteArray} {b b2 : Bool} {z z2 : List Int} (h : Reps w xs [.str c, .bool b, .ints z]) (g : Reps w ys [.str c2, .bool b2, .ints z2]) (ht : Tab w) :
    Ret P n_impl_MoneySub [.agg ⟨xs⟩, .agg ⟨ys⟩] w fun v w' => ∃ vs f, v = .tuple #[.agg ⟨vs⟩, .bool (mres (alk [.str c, .bool b, .ints z] [.str c2, .bool b2, .ints z2]) c (ival [.bool b, .ints z] - ival [.bool b2, .ints z2])).1] /\ Owns w' w.heap.size vs (mres (alk [.str c, .bool b, .ints z] [.str c2, .bool b2, .ints z2]) c (ival [.bool b, .ints z] - ival [.bool b2, .ints z2])).2 f /\ f.Nodup /\ Ext w w' := by
  have hr := h; have gr := g
  obtain ⟨cur, a0, ap, an, ac, az, rfl, hd, ha⟩ := open_Money h rfl
  cases hd
  obtain ⟨cur2, d0, bp, bn, bc, bz, rfl, hd, hb⟩ := open_Money g rfl
  cases hd
  refine impl_MoneySub_ret ?_
  unfold impl_MoneySub
  intro r w1 hn1 r1 w2 hn2 r2 w3 hn3
  have e1 := hn1.r_eq; have e2 := hn2.r_eq; have e3 := hn3.r_eq; have s1 := hn1.size; have s2 := hn2.size; have s3 := hn3.size
  have X := (hn1.ext.trans hn2.ext).trans hn3.ext
  have q0 := (hn1.blk.ext hn2.ext).ext hn3.ext; have q1 := hn2.blk.ext hn3.ext; have q2 := hn3.blk
  refine ⟨_, _, _, _, _, q0.loadA0 (by kernel_rfl), _, _, _, _, _, q1.loadA0 (by kernel_rfl), ?_⟩
  refine Ret.at (impl_alike_c (hr.ext X) (gr.ext X) (ht.ext X)) ?_
  rintro v w4 ⟨hv, y4⟩
  subst hv
  have l4 := y4.le
  generalize hal : alk [.str c, .bool b, .ints z] [.str c2, .bool b2, .ints z2] = al
  refine ⟨_, rfl, ifN (fun hno => ?_) (fun hyes => ?_)⟩
  · subst hno
    obtain ⟨W', st', ld', ow', xx', _, _⟩ := agg_end (t := T_impl_Money) (q2.ext y4) (X.trans y4) (by omega) (own_money0 w4 (r2 + 1)) (by kernel_rfl) rfl (by omega) (by omega)
    exact ⟨W', st', _, _, _, _, _, ld', _, [], rfl, ow', List.nodup_nil, xx'⟩
  subst hyes
  obtain ⟨m1, m2, rfl⟩ := alk_parts hal
  have E1 := (intOk_enc (moneyOk_int m1)).1; have E2 := (intOk_enc (moneyOk_int m2)).1
  have B1 := money_bound m1; have B2 := money_bound m2
  have Y := y4.trans (Ext.drew w4)
  have X4 := X.trans Y
  have lY := Y.le
  have k0 := q0.ext Y; have k1 := q1.ext Y; have k2 := q2.ext Y
  have hx : Reps w4.drew [.bool b, .slice ap an ac] (enc (ival [.bool b, .ints z])) := by
    rw [<- E1]; exact ⟨rfl, ⟨_, _, _, rfl, ha.ext X4⟩, trivial⟩
  have hy : Reps w4.drew [.bool b2, .slice bp bn bc] (enc (ival [.bool b2, .ints z2])) := by
    rw [<- E2]; exact ⟨rfl, ⟨_, _, _, rfl, hb.ext X4⟩, trivial⟩
  generalize ival [.bool b, .ints z] = U at B1 hx
  generalize ival [.bool b2, .ints z2] = V at B2 hy
  refine ⟨_, fun W hW => (k0.ext hW).loadAt 0 rfl (by kernel_rfl) rfl, _, _, _, _, fun W hW => (k0.ext hW).loadAAt 1 [.bool b, .slice ap an ac] rfl (by kernel_rfl) rfl, _, _, _, _, fun W hW => (k1.ext hW).loadAAt 1 [.bool b2, .slice bp bn bc] rfl (by kernel_rfl) rfl, ?_⟩
  have d2 : (digs V.natAbs).length <= 6 := digs_len_le (by omega)
  refine Ret.at (impl_intNeg_c hy (by omega)) ?_
  rintro v w5 ⟨vs5, f5, hv, ho5, _, y5⟩
  subst hv
  obtain ⟨n0, np, nn, nc, nz, rfl, _, _⟩ := open_Signed ho5.reps (enc_code _)
  have l5 := y5.le
  refine ⟨_, _, _, _, rfl, y5, ?_⟩
  refine Ret.at (impl_intAdd_n (hx.ext y5) ho5.reps B1 (by omega)) ?_
  rintro v w6 ⟨vs6, f6, hv, ho6, nd6, y6⟩
  subst hv
  have Z6 := y5.trans y6
  rw [<- Int.sub_eq_add_neg] at ho6
  obtain ⟨g0, gp, gn, gc, gz, rfl, _, _⟩ := open_Signed ho6.reps (enc_code _)
  have l6 := y6.le
  refine ⟨_, _, _, _, rfl, y6, ?_⟩
  refine Ret.at (impl_moneyOf_s (ht.ext (X4.trans Z6)) c ho6 nd6 (by omega)) ?_
  rintro v w7 ⟨vs7, f7, hv, ho7, nd7, _, y7⟩
  subst hv
  obtain ⟨u0, u1, up, un, uc, uz, rfl, _, _⟩ := open_Money ho7.reps (moneyMk_code _ _)
  obtain ⟨W', st', ld', ow', xx', _, _⟩ := agg_end (t := T_impl_Money) ((k2.ext Z6).ext y7) ((X4.trans Z6).trans y7) (by omega) ho7 (by kernel_rfl) rfl (by omega) (by omega)
  exact ⟨_, _, _, _, _, _, rfl, W', st', _, _, _, _, _, ld', _, f7, rfl, ow', nd7, xx'⟩
end Go.Proofs.YtbgokfhcgcoipaaGreatDoor
namespace Go.Proofs.YtbgokfhcgcoipaaGreatDoor
open Go Go.Proofs.YtbgokfhcgcoipaaGreatDoor.Sx
def taxOk : List D0 -> Bool
  | [.bool b, .ints z, .int s] => decOk [.bool b, .ints z, .int s] && decide (z.length <= 1) && !b && decide (dcmp [.bool b, .ints z, .int s] (enc 1 ++ [.int 0]) <= 0)
  | _ => false
theorem impl_TaxRateOk_c {w : World} {xs : List Value} {dx : List D0} (h : Reps w xs dx) (hc : dx.map D0.code = [.bool, .ints, .int]) :
    Ret P n_impl_TaxRateOk [.agg ⟨xs⟩] w fun v w' => v = .bool (taxOk dx) /\ Ext w w' := by
  have hr := h
  obtain ⟨a0, a1p, a1n, a1c, a1z, a2, rfl, rfl, ha⟩ := open_Dec h hc
  refine impl_TaxRateOk_ret ?_
  unfold impl_TaxRateOk
  intro r w1 hn1
  have D := Ext.drew w1
  have X := hn1.ext.trans D
  have hl := ha.1
  refine ⟨_, _, _, _, _, fun W hW => (hn1.blk.ext (D.trans hW)).loadA0 (by kernel_rfl), ?_⟩
  refine Ret.at (impl_DecOk_c (hr.ext X) rfl) ?_
  rintro v w2 ⟨hv, y2⟩
  subst hv
  have X2 := X.trans y2
  have b := (hn1.blk.ext D).ext y2
  refine ⟨_, rfl, fun e1 => ⟨_, _, _, fun W hW => (b.ext hW).loadAt 1 rfl (by kernel_rfl) rfl, ifD (fun hle => ⟨_, fun W hW => (b.ext hW).loadAt 0 rfl (by kernel_rfl) rfl, fun e2 => ?_, fun e2 => ⟨?_, X2⟩⟩) (fun hgt => ifF ⟨?_, X2⟩)⟩, fun e1 => ifF (ifF ⟨?_, X2⟩)⟩
  · refine ⟨_, _, _, _, _, fun W hW => (b.ext hW).loadA0 (by kernel_rfl), ?_⟩
    refine Ret.at (impl_IntOf_c (n := 1) (by omega) (by omega)) ?_
    rintro v w3 ⟨vs, f, hv, ho, _, y3⟩
    subst hv
    obtain ⟨g0, gp, gn, gc, gz, rfl, hg, hgi⟩ := open_Signed ho.reps (enc_code _)
    refine ⟨_, _, _, _, rfl, y3, ?_⟩
    have hone : Reps w3 [.bool g0, .slice gp gn gc, .int .i64 0] (enc 1 ++ [.int 0]) := by
      rw [hg]; exact ⟨rfl, ⟨_, _, _, rfl, hgi⟩, rfl, trivial⟩
    refine Ret.at (impl_DecCmp_c (hr.ext (X2.trans y3)) hone rfl rfl) ?_
    rintro v w4 ⟨hv, y4⟩
    subst hv
    refine ⟨_, rfl, ?_, (X2.trans y3).trans y4⟩
    have e2 : a0 = false := by simpa using e2
    subst e2
    simp only [taxOk, e1, show decide (a1z.length <= 1) = true by simp; omega, Bool.and_self, Bool.not_false, Bool.true_and]
  · have e2 : a0 = true := by simpa using e2
    simp only [taxOk, e2, Bool.not_true, Bool.and_false, Bool.false_and]
  · simp only [taxOk, show decide (a1z.length <= 1) = false by simp; omega, Bool.and_false, Bool.false_and]
  · simp only [taxOk, e1, Bool.false_and]
end Go.Proofs.YtbgokfhcgcoipaaGreatDoor
namespace Go.Proofs.YtbgokfhcgcoipaaGreatDoor
open Go Go.Proofs.YtbgokfhcgcoipaaGreatDoor.Sx
theorem impl_RatMoney_n {w : World} {xs : List Value} {N : Int} {D : Nat} {m : Int} (cur : ByteArray) (h : Reps w xs (rmk N D)) (hok : ratOk (rmk N D) = true) (hN : (digs N.natAbs).length <= 10) (hD : (digs D).length <= 6) (ht : Tab w) :
    Ret P n_impl_RatMoney [.string cur, .agg ⟨xs⟩, .int .i64 m] w fun v w' => ∃ vs1 f1 vs2 f2, v = .tuple #[.agg ⟨vs1⟩, .agg ⟨vs2⟩, .bool (rmOk cur N D m)] /\ Owns w' w.heap.size vs1 (rmMoney cur N D m) f1 /\ f1.Nodup /\ Owns w' w.heap.size vs2 (rmRest cur N D m) f2 /\ f2.Nodup /\ (∀ k ∈ f1, k ∉ f2) /\ Ext w w' := by
  have hr := h
  obtain ⟨p1, n1, c1, p2, n2, c2, rfl, i1, i2, li1, li2, he, hd⟩ := rmk_open h hok
  refine impl_RatMoney_ret ?_
  unfold impl_RatMoney
  intro r w1 hn1 r1 w2 hn2 r2 w3 hn3
  have e1 := hn1.r_eq; have e2 := hn2.r_eq; have e3 := hn3.r_eq; have z1 := hn1.size; have z2 := hn2.size; have z3 := hn3.size
  have X := (hn1.ext.trans hn2.ext).trans hn3.ext
  have b0 := (hn1.blk.ext hn2.ext).ext hn3.ext; have b1 := hn2.blk.ext hn3.ext; have b2 := hn3.blk
  refine ⟨_, _, _, _, _, _, _, b0.loadA0 (by kernel_rfl), ?_⟩
  refine Ret.at (impl_RatRest_n (m := m) (hr.ext X) hok hN hD) ?_
  rintro v w4 ⟨vs4, f4, vsr, fr, hv, ho4, nd4, hor, ndr, dis, y4⟩
  subst hv
  have l4 := y4.le
  have hr4 := ho4.reps; have hrr := hor.reps
  obtain ⟨s0, sp, sn, sc, sz, rfl, _, _⟩ := open_Signed hr4 (enc_code _)
  have rcode : (rs N D m).map D0.code = [.bool, .ints, .ints] := by
    unfold rs
    split
    · exact redR_code _ _
    · rfl
  obtain ⟨g0, gp, gn, gc, gz, gp2, gn2, gc2, gz2, rfl, _, _, _⟩ := open_Rat hrr rcode
  refine ⟨_, _, _, _, _, _, _, _, _, _, _, _, rfl, ?_⟩
  intro r3 w5 hn5 r4 w6 hn6
  have e5 := hn5.r_eq; have z5 := hn5.size; have e6 := hn6.r_eq; have z6 := hn6.size
  obtain ⟨w7, st7, hb7, ch7, sz7⟩ := (hn5.blk.ext hn6.ext).storeA0 (P := P) (t := T_impl_Signed) (xs := [.bool s0, .slice sp sn sc]) (by kernel_rfl) rfl (by simp [Value.oneCell'])
  obtain ⟨w8, st8, hb8, ch8, sz8⟩ := (hn6.blk.chg ch7 (by simp; omega)).storeA0 (P := P) (t := T_impl_Rat) (xs := [.bool g0, .slice gp gn gc, .slice gp2 gn2 gc2]) (by kernel_rfl) rfl (by simp [Value.oneCell'])
  have Z : Ext w4 w8 := ((hn5.ext.trans hn6.ext).chg ch7 (by simp; omega)).chg ch8 (by simp; omega)
  have k3 := hb7.chg ch8 (by simp; omega)
  have lZ := Z.le
  have Y8 := y4.trans Z
  refine ⟨w7, st7, w8, st8, ?_⟩
  refine ifN (fun hm1 => ?_) (fun hm1 => ?_)
  · obtain ⟨W1, W2, a1, _, a2, a3, a4, a5, a6, a7⟩ := two_end (t1 := T_impl_Money) (t2 := T_impl_Rat) (b1.ext Y8) (b2.ext Y8) (X.trans Y8) (own_money0 _ (r2 + 1)) (own_rat0 _ (r2 + 1)) (by kernel_rfl) rfl (by kernel_rfl) rfl (by omega) (by omega) (by omega) (by omega) (by omega) (by omega)
    have hno : rmOk cur N D m = false := by rw [rmOk, hm1]; rfl
    exact ⟨W1, a1, W2, a2, _, _, _, _, _, a3, _, _, _, _, _, _, _, a4, _, [], _, [], by rw [hno], by rw [rmMoney, hno]; exact a5, List.nodup_nil, by rw [rmRest, hno]; exact a6, List.nodup_nil, fun k hk => by simp at hk, a7⟩
  ·
    refine ⟨_, _, _, _, k3.loadA0 (by kernel_rfl), ?_⟩
    refine Ret.at (impl_moneyOf_s (ht.ext (X.trans Y8)) cur (ho4.ext Z) nd4 (show w3.heap.size <= w8.heap.size by omega)) ?_
    rintro v w9 ⟨vs9, f9, hv, ho9, nd9, sub9, y9⟩
    subst hv
    have hr9 := ho9.reps
    obtain ⟨m0, m1, mp, mn, mc, mz, rfl, _, _⟩ := open_Money hr9 (moneyMk_code _ _)
    refine ⟨_, _, _, _, _, _, rfl, ?_⟩
    intro r5 w10 hn10
    have e10 := hn10.r_eq; have z10 := hn10.size; have l9 := y9.le
    obtain ⟨w11, st11, hb11, y11⟩ := hn10.fill (P := P) (t := T_impl_Money) (xs := [.string m0, .bool m1, .slice mp mn mc]) (by simp [Value.oneCell']) (by kernel_rfl) rfl
    have Y11 := (Y8.trans y9).trans y11
    refine ⟨w11, st11, ?_⟩
    refine ifN (fun hm2 => ?_) (fun hm2 => ?_)
    · obtain ⟨W1, W2, a1, _, a2, a3, a4, a5, a6, a7⟩ := two_end (t1 := T_impl_Money) (t2 := T_impl_Rat) (b1.ext Y11) (b2.ext Y11) (X.trans Y11) (own_money0 _ (r2 + 1)) (own_rat0 _ (r2 + 1)) (by kernel_rfl) rfl (by kernel_rfl) rfl (by omega) (by omega) (by omega) (by omega) (by omega) (by omega)
      have hno : rmOk cur N D m = false := by
        have z1' : rr N D m = rround N D m := by rw [rr, hm1]; rfl
        rw [z1'] at hm2
        rw [rmOk, hm1, hm2]; rfl
      exact ⟨W1, a1, W2, a2, _, _, _, _, _, a3, _, _, _, _, _, _, _, a4, _, [], _, [], by rw [hno], by rw [rmMoney, hno]; exact a5, List.nodup_nil, by rw [rmRest, hno]; exact a6, List.nodup_nil, fun k hk => by simp at hk, a7⟩
    have D' := Ext.drew w11
    have Y12 := Y11.trans D'
    have q1 := b1.ext Y12; have q2 := b2.ext Y12
    have k4 := hb8.ext ((y9.trans y11).trans D'); have k5 := hb11.ext D'
    have o1 := (ho9.ext y11).ext D'
    have o2 := (hor.ext Z).ext ((y9.trans y11).trans D')
    have l11 := y11.le
    obtain ⟨W1, W2, a1, ch1, a2, a3, a4, a5, a6, a7⟩ := two_end (t1 := T_impl_Money) (t2 := T_impl_Rat) q1 q2 (X.trans Y12) o1 o2 (by kernel_rfl) rfl (by kernel_rfl) rfl (by omega) (by omega) (by omega) (by omega) (by omega) (by omega)
    have z1' : rr N D m = rround N D m := by rw [rr, hm1]; rfl
    rw [z1'] at hm2 a5
    have hyes : rmOk cur N D m = true := by rw [rmOk, hm1, hm2]; rfl
    refine ⟨[r1], _, _, _, _, _, fun W hW => (k5.chg (show Chg [r1] w11.drew W from hW) (by simp; omega)).loadA0 (by kernel_rfl), _, _, _, _, _, _, _, fun W hW => (k4.chg (show Chg [r1] w11.drew W from hW) (by simp; omega)).loadA0 (by kernel_rfl), W1, a1, show Chg [r1] w11.drew W1 from ch1, W2, a2, _, _, _, _, _, a3, _, _, _, _, _, _, _, a4, _, f9, _, fr, by rw [hyes], ?_, nd9, ?_, ndr, fun k hk => dis k (sub9 k hk), a7⟩
    · rw [rmMoney, hyes]
      rw [moneyMk, hm2] at a5
      exact a5
    · rw [rmRest, hyes]
      rw [rs, hm1] at a6
      exact a6
theorem impl_DecRat_n {w : World} {xs : List Value} {m t : Nat} (h : Reps w xs (dnn m (t : Int))) (hm : (digs m).length <= 6) (ht : t <= 30) :
    Ret P n_impl_DecRat [.agg ⟨xs⟩] w fun v w' => ∃ vs f, v = .agg ⟨vs⟩ /\ Owns w' w.heap.size vs (redR (m : Int) (10 ^ t)) f /\ f.Nodup /\ Ext w w' := by
  have hr := h
  obtain ⟨a0, ap, an, ac, az, a2, rfl, hd, ha⟩ := open_Dec h rfl
  simp only [dnn, List.cons.injEq, D0.bool.injEq, D0.ints.injEq, D0.int.injEq, and_true] at hd
  obtain ⟨rfl, rfl, rfl⟩ := hd
  have hla := ha.1
  have hpow : 0 < 10 ^ t := Nat.pow_pos (by decide)
  have hten := ten_len ht
  refine impl_DecRat_ret ?_
  unfold impl_DecRat
  intro r w1 hn1 r1 w2 hn2
  have e1 := hn1.r_eq; have e2 := hn2.r_eq; have z1 := hn1.size; have z2 := hn2.size
  have X := hn1.ext.trans hn2.ext
  have b0 := hn1.blk.ext hn2.ext; have b1 := hn2.blk
  refine ⟨_, _, _, _, _, b0.loadA0 (by kernel_rfl), ?_⟩
  refine Ret.at (impl_DecOk_c (hr.ext X) rfl) ?_
  rintro v w3 ⟨hv, y3⟩
  subst hv
  rw [dnn_ok hm ⟨by omega, by omega⟩]
  refine ⟨_, rfl, ifN (fun hh => absurd hh (by simp)) (fun _ => ?_)⟩
  have D := Ext.drew w3
  have Y := y3.trans D
  have X4 := X.trans Y
  have lY := Y.le
  have b0 := b0.ext Y; have b1 := b1.ext Y
  refine ⟨_, _, _, _, fun W hW => (b0.ext hW).loadAAt 0 [.bool false, .slice ap an ac] rfl (by kernel_rfl) rfl, _, fun W hW => (b0.ext hW).loadAt 2 rfl (by kernel_rfl) rfl, ?_⟩
  intro ss w4 F1
  have S1 := (FlSt.start (o := .cells ⟨[.bool false, .slice none 0 0, .slice none 0 0]⟩ T_impl_Rat (0, 0)) w3.drew).step F1
  refine Ret.at (impl_natTen_c (k := (t : Int)) (by omega) (by omega)) ?_
  rintro v w5 ⟨p5, n5, c5, hv, o5, y5⟩
  subst hv
  rw [Int.toNat_natCast] at o5
  have l5 := o5.ints.1
  refine ⟨_, _, _, rfl, y5, ?_⟩
  intro ss1 w6 F2
  have S2 := (S1.ext y5).step F2
  have hs : Reps w6 [.bool false, .slice ap an ac] (enc (m : Int)) := by
    rw [natCast_enc]
    exact ⟨rfl, ⟨_, _, _, rfl, ha.ext (X4.trans S2.1)⟩, trivial⟩
  refine Ret.at (impl_reduce_c hs (o5.ints.ext F2.ext) hpow (by rw [Int.natAbs_natCast]; omega) (by omega)) ?_
  rintro v w7 ⟨vs7, f7, hv, ho7, nd7, y7⟩
  subst hv
  have hr7 := ho7.reps
  obtain ⟨g0, gp, gn, gc, gz, gp2, gn2, gc2, gz2, rfl, _, _, _⟩ := open_Rat hr7 (redR_code _ _)
  refine ⟨_, _, _, _, _, _, _, _, rfl, ?_⟩
  intro ss2 w8 r8 F3 G
  have S3 := (S2.ext y7).step F3
  obtain ⟨hr8, hbk⟩ := S3.get G
  have B8 : Blk w8 r8 T_impl_Rat [.bool false, .slice none 0 0, .slice none 0 0] := hbk
  obtain ⟨w9, st9, hb9, ch9, sz9⟩ := B8.storeA0 (P := P) (t := T_impl_Rat) (xs := [.bool g0, .slice gp gn gc, .slice gp2 gn2 gc2]) (by kernel_rfl) rfl (by simp [Value.oneCell'])
  have hni := Owns.notin B8 (by decide) (ho7.ext F3.ext)
  have ho9 := (ho7.ext F3.ext).chg ch9 (fun k hk hm' => hni (by simp at hm'; rwa [<- hm']))
  have Z9 : Ext w3.drew w9 := S3.1.chg ch9 (by simp; exact hr8)
  have lZ := S2.1.le
  obtain ⟨W', st, ld, ow, xx, _, _⟩ := agg_end (t := T_impl_Rat) (b1.ext Z9) (X4.trans Z9) (by omega) ho9 (by kernel_rfl) rfl (by omega) (by omega)
  exact ⟨w9, st9, _, _, _, _, _, _, _, hb9.loadA0 (by kernel_rfl), W', st, _, _, _, _, _, _, _, ld, _, f7, rfl, ow, nd7, xx⟩
theorem impl_MoneyRat_n {w : World} {xs : List Value} {c : ByteArray} {N : Int} (h : Reps w xs (.str c :: enc N)) (hok : moneyOk (.str c :: enc N) = true) (ht : Tab w) :
    Ret P n_impl_MoneyRat [.agg ⟨xs⟩] w fun v w' => ∃ vs f, v = .agg ⟨vs⟩ /\ Owns w' w.heap.size vs (rmk N 1) f /\ f.Nodup /\ Ext w w' := by
  have hr := h
  obtain ⟨t0, a0, ap, an, ac, az, rfl, hd, ha⟩ := open_Money h rfl
  simp only [enc, List.cons.injEq, D0.str.injEq, D0.bool.injEq, D0.ints.injEq, and_true] at hd
  obtain ⟨rfl, rfl, rfl⟩ := hd
  have hla := ha.1
  have h4 : (digs N.natAbs).length <= 4 := by
    simp only [moneyOk, enc, Bool.and_eq_true, decide_eq_true_eq] at hok
    exact hok.2
  refine impl_MoneyRat_ret ?_
  unfold impl_MoneyRat
  intro r w1 hn1 r1 w2 hn2
  have e1 := hn1.r_eq; have e2 := hn2.r_eq; have z1 := hn1.size; have z2 := hn2.size
  have X := hn1.ext.trans hn2.ext
  have b0 := hn1.blk.ext hn2.ext; have b1 := hn2.blk
  refine ⟨_, _, _, _, _, b0.loadA0 (by kernel_rfl), ?_⟩
  refine Ret.at (impl_MoneyOk_c (ht.ext X) (hr.ext X) rfl) ?_
  rintro v w3 ⟨hv, y3⟩
  subst hv
  rw [hok]
  refine ⟨_, rfl, ifN (fun hh => absurd hh (by simp)) (fun _ => ?_)⟩
  have l3 := y3.le
  have X3 := X.trans y3
  have hs : Reps w3 [.bool (decide (N < 0)), .slice ap an ac] (enc N) := ⟨rfl, ⟨_, _, _, rfl, ha.ext X3⟩, trivial⟩
  refine ⟨_, _, _, _, (b0.ext y3).loadAAt 1 [.bool (decide (N < 0)), .slice ap an ac] rfl (by kernel_rfl) rfl, ?_⟩
  refine Ret.at (impl_intCopy_c hs (enc_code _) (by simp only [bulks, enc, D0.bulk, List.map_cons, List.map_nil, List.sum_cons, List.sum_nil]; omega)) ?_
  rintro v w4 ⟨vs4, f4, hv, ho4, nd4, y4⟩
  subst hv
  have hr4 := ho4.reps
  obtain ⟨s0, sp, sn, sc, sz, rfl, _, _⟩ := open_Signed hr4 (enc_code _)
  refine ⟨_, _, _, _, rfl, ?_⟩
  intro r5 w5 hn5
  have e5 := hn5.r_eq; have z5 := hn5.size; have l4 := y4.le
  have hone : Own w5 w3.heap.size T_int 1 (some ⟨r5, 0, none⟩) 1 1 ((digs 1).map (Value.int .i64)) := by
    rw [digs_one]
    exact Own.of_blk hn5.blk (by omega) rfl (by decide)
  have ho5 := own_rmk (ho4.ext hn5.ext) hone
  obtain ⟨W', st, ld, ow, xx, _, _⟩ := agg_end (t := T_impl_Rat) ((b1.ext y3).ext (y4.trans hn5.ext)) (X3.trans (y4.trans hn5.ext)) (by omega) ho5 (by kernel_rfl) rfl (by omega) (by omega)
  refine ⟨W', st, _, _, _, _, _, _, _, ld, _, _, rfl, ow, ?_, xx⟩
  exact nodup_append nd4 (by simp) (m := w4.heap.size) (fun k hk => (ho4.lt k hk).2) (fun k hk => by simp at hk; omega)
end Go.Proofs.YtbgokfhcgcoipaaGreatDoor
namespace Go.Proofs.YtbgokfhcgcoipaaGreatDoor
open Go Go.Proofs.YtbgokfhcgcoipaaGreatDoor.Sx
theorem decOk_parts {b : Bool} {z : List Int} {s : Int} (h : decOk [.bool b, .ints z, .int s] = true) : intOk [.bool b, .ints z] = true /\ natOk z = true /\ Limbs z /\ z.length <= 6 /\ 0 <= s /\ s <= 30 := by
  simp only [decOk, Bool.and_eq_true, decide_eq_true_eq] at h
  obtain ⟨⟨h1, h2⟩, h3⟩ := h
  have h4 : natOk z = true := by
    have := h1
    simp only [intOk, Bool.and_eq_true] at this
    exact this.1
  exact ⟨h1, h4, (natOk_spec.1 h4).1.1, h2, h3⟩
theorem taxOk_nn {b : Bool} {z : List Int} {s : Int} (h : taxOk [.bool b, .ints z, .int s] = true) : ∃ m t : Nat, b = false /\ z = digs m /\ s = (t : Int) /\ t <= 30 /\ (val z).toNat = m /\ s.toNat = t /\ m < 1000000000 := by
  simp only [taxOk, Bool.and_eq_true, decide_eq_true_eq, Bool.not_eq_true'] at h
  obtain ⟨⟨⟨h1, h2⟩, h3⟩, _⟩ := h
  obtain ⟨_, hno, hz, _, h4, h5⟩ := decOk_parts h1
  have hc := (natOk_spec.1 hno).1
  refine ⟨(val z).toNat, s.toNat, h3, (digs_val hc).symm, by omega, by omega, rfl, rfl, ?_⟩
  have hlt := val_lt hz
  have hp : (1000000000 : Int) ^ z.length <= 1000000000 := by
    match z, h2 with
    | [], _ => decide
    | [x], _ =>
      show (1000000000 : Int) ^ 1 <= 1000000000
      decide
    | _ :: _ :: _, h2 => simp at h2
  have := val_nonneg hz
  omega
theorem one_len {m : Nat} (h : m < 1000000000) : (digs m).length <= 1 := digs_len 1 (by simpa using h)
end Go.Proofs.YtbgokfhcgcoipaaGreatDoor
namespace Go.Proofs.YtbgokfhcgcoipaaGreatDoor
open Go Go.Proofs.YtbgokfhcgcoipaaGreatDoor.Sx
def exN (u : Int) (m t : Nat) : Int := redN (u * redN (m : Int) (10 ^ t)) (1 * redD (m : Int) (10 ^ t))
def exD (u : Int) (m t : Nat) : Nat := redD (u * redN (m : Int) (10 ^ t)) (1 * redD (m : Int) (10 ^ t))
def taxOnT : List D0 -> List D0 -> Int -> Bool × List D0 × List D0
  | [.str c, .bool b, .ints z], [.bool b2, .ints z2, .int s], mode =>
    if moneyOk [.str c, .bool b, .ints z] && taxOk [.bool b2, .ints z2, .int s] then
      (rmOk c (exN (ival [.bool b, .ints z]) (val z2).toNat s.toNat) (exD (ival [.bool b, .ints z]) (val z2).toNat s.toNat) mode,
       rmMoney c (exN (ival [.bool b, .ints z]) (val z2).toNat s.toNat) (exD (ival [.bool b, .ints z]) (val z2).toNat s.toNat) mode,
       rmRest c (exN (ival [.bool b, .ints z]) (val z2).toNat s.toNat) (exD (ival [.bool b, .ints z]) (val z2).toNat s.toNat) mode)
    else (false, zeroMoney, rat0)
  | _, _, _ => (false, zeroMoney, rat0)
theorem rmMoney_code (c : ByteArray) (N : Int) (D : Nat) (m : Int) : (rmMoney c N D m).map D0.code = [.str, .bool, .ints] := by unfold rmMoney; split <;> rfl
theorem restR_code (N : Int) (D : Nat) (m : Int) : (restR N D m).map D0.code = [.bool, .ints, .ints] := redR_code _ _
theorem rmRest_code (c : ByteArray) (N : Int) (D : Nat) (m : Int) : (rmRest c N D m).map D0.code = [.bool, .ints, .ints] := by
  unfold rmRest
  split
  · exact restR_code _ _ _
  · rfl
theorem redR_cnt (n : Int) (d : Nat) : tcnts (redR n d) <= 100 := by
  unfold redR
  split
  · rename_i h
    simp only [redOk, Bool.and_eq_true, decide_eq_true_eq] at h
    simp only [rmk, tcnts, redN_abs]
    have : redD n d = d / Nat.gcd n.natAbs d := rfl
    rw [this]
    omega
  · decide
theorem rmMoney_cnt (c : ByteArray) (N : Int) (D : Nat) (m : Int) : tcnts (rmMoney c N D m) <= 1000000000 := by
  unfold rmMoney
  split
  · rename_i h
    simp only [rmOk, Bool.and_eq_true] at h
    have h2 := h.2
    simp only [moneyOk, enc, Bool.and_eq_true, decide_eq_true_eq] at h2
    simp only [enc, tcnts]
    omega
  · decide
theorem rmRest_cnt (c : ByteArray) (N : Int) (D : Nat) (m : Int) : tcnts (rmRest c N D m) <= 1000000000 := by
  unfold rmRest
  split
  · have := redR_cnt (N * ((1 : Nat) : Int) + -(rround N D m) * (D : Int)) (D * 1)
    unfold restR
    omega
  · decide
theorem taxOnT_facts (d0 d1 : List D0) (m : Int) : ((taxOnT d0 d1 m).2.1).map D0.code = [.str, .bool, .ints] /\ tcnts (taxOnT d0 d1 m).2.1 <= 1000000000 /\ ((taxOnT d0 d1 m).2.2).map D0.code = [.bool, .ints, .ints] /\ tcnts (taxOnT d0 d1 m).2.2 <= 1000000000 := by
  unfold taxOnT
  split
  · split
    · exact ⟨rmMoney_code _ _ _ _, rmMoney_cnt _ _ _ _, rmRest_code _ _ _ _, rmRest_cnt _ _ _ _⟩
    · exact ⟨rfl, by decide, rfl, by decide⟩
  · exact ⟨rfl, by decide, rfl, by decide⟩
theorem ex_facts {u : Int} {m t : Nat} (hu : (digs u.natAbs).length <= 4) (hm : (digs m).length <= 1) (ht : t <= 30) :
    redOk (u * redN (m : Int) (10 ^ t)) (1 * redD (m : Int) (10 ^ t)) = true /\ redR (u * redN (m : Int) (10 ^ t)) (1 * redD (m : Int) (10 ^ t)) = rmk (exN u m t) (exD u m t) /\ ratOk (rmk (exN u m t) (exD u m t)) = true /\ (digs (exN u m t).natAbs).length <= 10 /\ (digs (exD u m t)).length <= 6 /\
    redR (m : Int) (10 ^ t) = rmk (redN (m : Int) (10 ^ t)) (redD (m : Int) (10 ^ t)) /\ ratOk (rmk (redN (m : Int) (10 ^ t)) (redD (m : Int) (10 ^ t))) = true := by
  have hpow : 0 < 10 ^ t := Nat.pow_pos (by decide)
  have hten := ten_len ht
  have h1 : (digs (redN (m : Int) (10 ^ t)).natAbs).length <= 1 := Nat.le_trans redN_len (by rw [Int.natAbs_natCast]; exact hm)
  have h2 : (digs (redD (m : Int) (10 ^ t))).length <= 4 := Nat.le_trans redD_len hten
  have h3 : (digs (u * redN (m : Int) (10 ^ t)).natAbs).length <= 5 := by rw [Int.natAbs_mul]; exact prod_len hu h1
  have h4 : (digs (1 * redD (m : Int) (10 ^ t))).length <= 4 := by rw [Nat.one_mul]; exact h2
  have hd : 0 < redD (m : Int) (10 ^ t) := redD_pos hpow
  have k1 := redOk_small (n := u * redN (m : Int) (10 ^ t)) (d := 1 * redD (m : Int) (10 ^ t)) (by omega) (by omega)
  have k2 := redR_yes k1
  have k3 := redR_ok (n := u * redN (m : Int) (10 ^ t)) (d := 1 * redD (m : Int) (10 ^ t)) (by omega) k1
  have k4 := redOk_small (n := (m : Int)) (d := 10 ^ t) (by rw [Int.natAbs_natCast]; omega) (by omega)
  have k5 := redR_yes k4
  have k6 := redR_ok hpow k4
  have k7 : (digs (exN u m t).natAbs).length <= 5 := Nat.le_trans redN_len h3
  have k8 : (digs (exD u m t)).length <= 4 := Nat.le_trans redD_len h4
  exact ⟨k1, k2, by rw [k2] at k3; exact k3, by omega, by omega, k5, by rw [k5] at k6; exact k6⟩
theorem impl_TaxOn_o {w : World} {xs ys : List Value} {dx dy : List D0} (h : Reps w xs dx) (g : Reps w ys dy) (hc : dx.map D0.code = [.str, .bool, .ints]) (gc : dy.map D0.code = [.bool, .ints, .int]) (mode : Int) (ht : Tab w) :
    Ret P n_impl_TaxOn [.agg ⟨xs⟩, .agg ⟨ys⟩, .int .i64 mode] w fun v w' => ∃ vs0 f0 vs1 f1, v = .tuple #[.agg ⟨vs0⟩, .agg ⟨vs1⟩, .bool (taxOnT dx dy mode).1] /\ Owns w' w.heap.size vs0 (taxOnT dx dy mode).2.1 f0 /\ f0.Nodup /\ Owns w' w.heap.size vs1 (taxOnT dx dy mode).2.2 f1 /\ f1.Nodup /\ (∀ k ∈ f0, k ∉ f1) /\ Ext w w' := by
  have hr := h; have gr := g; have htb := ht
  obtain ⟨cur, a0, ap, an, ac, az, rfl, rfl, ha⟩ := open_Money h hc
  obtain ⟨b0', bp, bn, bc, bz, b2', rfl, rfl, hb⟩ := open_Dec g gc
  refine impl_TaxOn_ret ?_
  unfold impl_TaxOn
  intro r w1 hn1 r1 w2 hn2 r2 w3 hn3 r3 w4 hn4
  have e1 := hn1.r_eq; have e2 := hn2.r_eq; have e3 := hn3.r_eq; have e4 := hn4.r_eq; have z1 := hn1.size; have z2 := hn2.size; have z3 := hn3.size; have z4 := hn4.size
  have X := ((hn1.ext.trans hn2.ext).trans hn3.ext).trans hn4.ext
  have b0 := ((hn1.blk.ext hn2.ext).ext hn3.ext).ext hn4.ext; have b1 := (hn2.blk.ext hn3.ext).ext hn4.ext; have b2 := hn3.blk.ext hn4.ext; have b3 := hn4.blk
  have zero : ∀ W, Ext w4 W -> (moneyOk [.str cur, .bool a0, .ints az] && taxOk [.bool b0', .ints bz, .int b2']) = false -> ∃ W1, Stores P T_impl_Money ⟨r2, 0, none⟩ (.agg ⟨[.string ByteArray.empty, .bool false, .slice none 0 0]⟩) W W1 /\ ∃ W2, Stores P T_impl_Rat ⟨r3, 0, none⟩ (.agg ⟨[.bool false, .slice none 0 0, .slice none 0 0]⟩) W1 W2 /\ Loads P T_impl_Money ⟨r2, 0, none⟩ (.agg ⟨[.string ByteArray.empty, .bool false, .slice none 0 0]⟩) W2 /\ Loads P T_impl_Rat ⟨r3, 0, none⟩ (.agg ⟨[.bool false, .slice none 0 0, .slice none 0 0]⟩) W2 /\ Owns W2 w.heap.size [.string ByteArray.empty, .bool false, .slice none 0 0] zeroMoney [] /\ Owns W2 w.heap.size [.bool false, .slice none 0 0, .slice none 0 0] rat0 [] /\ Ext w W2 /\ taxOnT [.str cur, .bool a0, .ints az] [.bool b0', .ints bz, .int b2'] mode = (false, zeroMoney, rat0) := by
    intro W hW hno
    obtain ⟨W1, W2, a1, _, a2, a3, a4, a5, a6, a7⟩ := two_end (t1 := T_impl_Money) (t2 := T_impl_Rat) (b2.ext hW) (b3.ext hW) (X.trans hW) (own_money0 W (r3 + 1)) (own_rat0 W (r3 + 1)) (by kernel_rfl) rfl (by kernel_rfl) rfl (by omega) (by omega) (by omega) (by omega) (by omega) (by omega)
    exact ⟨W1, a1, W2, a2, a3, a4, a5, a6, a7, by simp only [taxOnT, hno, Bool.false_eq_true, if_false]⟩
  refine ⟨_, _, _, _, _, b0.loadA0 (by kernel_rfl), ?_⟩
  refine Ret.at (impl_MoneyOk_c (ht.ext X) (hr.ext X) rfl) ?_
  rintro v w5 ⟨hv, y5⟩
  subst hv
  refine ⟨_, rfl, ifN (fun hno => ifT ?_) (fun hm => ⟨_, _, _, _, _, (b1.ext y5).loadA0 (by kernel_rfl), ?_⟩)⟩
  · obtain ⟨W1, a1, W2, a2, a3, a4, a5, a6, a7, a8⟩ := zero _ y5 (by rw [hno]; rfl)
    rw [a8]
    exact ⟨W1, a1, W2, a2, _, _, _, _, _, a3, _, _, _, _, _, _, _, a4, _, [], _, [], rfl, a5, List.nodup_nil, a6, List.nodup_nil, fun k hk => by simp at hk, a7⟩
  refine Ret.at (impl_TaxRateOk_c (gr.ext (X.trans y5)) rfl) ?_
  rintro v w6 ⟨hv, y6⟩
  subst hv
  have Y6 := y5.trans y6
  refine ⟨_, rfl, ifN (fun hno => ?_) (fun ht => ?_)⟩
  · obtain ⟨W1, a1, W2, a2, a3, a4, a5, a6, a7, a8⟩ := zero _ Y6 (by rw [hno, Bool.and_false])
    rw [a8]
    exact ⟨W1, a1, W2, a2, _, _, _, _, _, a3, _, _, _, _, _, _, _, a4, _, [], _, [], rfl, a5, List.nodup_nil, a6, List.nodup_nil, fun k hk => by simp at hk, a7⟩
  have hres : taxOnT [.str cur, .bool a0, .ints az] [.bool b0', .ints bz, .int b2'] mode = (rmOk cur (exN (ival [.bool a0, .ints az]) (val bz).toNat b2'.toNat) (exD (ival [.bool a0, .ints az]) (val bz).toNat b2'.toNat) mode, rmMoney cur (exN (ival [.bool a0, .ints az]) (val bz).toNat b2'.toNat) (exD (ival [.bool a0, .ints az]) (val bz).toNat b2'.toNat) mode, rmRest cur (exN (ival [.bool a0, .ints az]) (val bz).toNat b2'.toNat) (exD (ival [.bool a0, .ints az]) (val bz).toNat b2'.toNat) mode) := by
    simp only [taxOnT, hm, ht, Bool.and_self, if_true]
  rw [hres]
  obtain ⟨m, t, rfl, rfl, rfl, ht30, em, et, hm9⟩ := taxOk_nn ht
  rw [em, et]
  have henc := (intOk_enc (moneyOk_int hm)).1
  generalize ival [.bool a0, .ints az] = U at henc
  have hm' : moneyOk (.str cur :: enc U) = true := by rw [<- henc]; exact hm
  have hl4 : (digs U.natAbs).length <= 4 := by
    simp only [moneyOk, enc, Bool.and_eq_true, decide_eq_true_eq] at hm'
    exact hm'.2
  obtain ⟨k1, k2, k3, k4, k5, k6, k7⟩ := ex_facts hl4 (one_len hm9) ht30
  unfold impl_TaxOn_j0
  have D := Ext.drew w6
  have Y := Y6.trans D
  have X7 := X.trans Y
  have lY := Y.le
  have b0 := b0.ext Y; have b1 := b1.ext Y; have b2 := b2.ext Y; have b3 := b3.ext Y
  refine ⟨_, _, _, _, _, fun W hW => (b0.ext hW).loadA0 (by kernel_rfl), ?_⟩
  intro ss w8 F1
  have S1 := (FlSt.start (o := .cells ⟨[.bool false, .slice none 0 0, .slice none 0 0]⟩ T_impl_Rat (0, 0)) w6.drew).step F1
  have hmr : Reps w8 [.string cur, .bool a0, .slice ap an ac] (.str cur :: enc U) := by
    rw [<- henc]
    exact hr.ext (X7.trans S1.1)
  refine Ret.at (impl_MoneyRat_n hmr hm' (htb.ext (X7.trans S1.1))) ?_
  rintro v w9 ⟨vs9, f9, hv, ho9, _, y9⟩
  subst hv
  have hr9 := ho9.reps
  obtain ⟨s0, sp, sn, sc, sz, sp2, sn2, sc2, sz2, rfl, _, _, _⟩ := open_Rat hr9 (rmk_code _ _)
  refine ⟨_, _, _, _, _, _, _, rfl, y9, _, _, _, _, _, fun W hW => (b1.ext hW).loadA0 (by kernel_rfl), ?_⟩
  intro ss1 w10 F2
  have S2 := (S1.ext y9).step F2
  have hdr : Reps w10 [.bool false, .slice bp bn bc, .int .i64 (t : Int)] (dnn m (t : Int)) := gr.ext (X7.trans S2.1)
  refine Ret.at (impl_DecRat_n hdr (Nat.le_trans (one_len hm9) (by decide)) ht30) ?_
  rintro v w11 ⟨vs11, f11, hv, ho11, _, y11⟩
  subst hv
  rw [k6] at ho11
  have hr11 := ho11.reps
  obtain ⟨u0, up, un, uc, uz, up2, un2, uc2, uz2, rfl, _, _, _⟩ := open_Rat hr11 (rmk_code _ _)
  refine ⟨_, _, _, _, _, _, _, rfl, ?_⟩
  intro ss2 w12 F3
  have S3 := (S2.ext y11).step F3
  refine Ret.at (impl_RatMul_n (hr9.ext ((F2.ext.trans y11).trans F3.ext)) (hr11.ext F3.ext) (rmk_int_ok (by omega)) k7) ?_
  rintro v w13 ⟨vs13, f13, hv, ho13, _, y13⟩
  subst hv
  rw [k2] at ho13
  rw [k1]
  have hr13 := ho13.reps
  obtain ⟨g0, gp, gn, gc', gz, gp2, gn2, gc2, gz2, rfl, _, _, _⟩ := open_Rat hr13 (rmk_code _ _)
  refine ⟨_, _, _, _, _, _, _, _, rfl, ?_⟩
  intro ss3 w14 r8 F4 G
  have S4 := (S3.ext y13).step F4
  obtain ⟨hr8, hbk⟩ := S4.get G
  have B8 : Blk w14 r8 T_impl_Rat [.bool false, .slice none 0 0, .slice none 0 0] := hbk
  obtain ⟨w15, st15, hb15, ch15, sz15⟩ := B8.storeA0 (P := P) (t := T_impl_Rat) (xs := [.bool g0, .slice gp gn gc', .slice gp2 gn2 gc2]) (by kernel_rfl) rfl (by simp [Value.oneCell'])
  have hni := Owns.notin B8 (by decide) (ho13.ext F4.ext)
  have ho15 := (ho13.ext F4.ext).chg ch15 (fun k hk hm' => hni (by simp at hm'; rwa [<- hm']))
  have Z : Ext w6.drew w15 := S4.1.chg ch15 (by simp; exact hr8)
  have X15 := X7.trans Z
  have lZ := Z.le
  refine ⟨w15, st15, ?_⟩
  refine ifN (fun hh => absurd hh (by simp)) (fun _ => ?_)
  refine ⟨_, (b0.ext Z).loadAt 0 rfl (by kernel_rfl) rfl, _, _, _, _, _, _, _, hb15.loadA0 (by kernel_rfl), ?_⟩
  refine Ret.at (impl_RatMoney_n (m := mode) cur ho15.reps k3 k4 k5 (htb.ext X15)) ?_
  rintro v w16 ⟨vs16, f16, vsr, fr, hv, ho16, nd16, hor, ndr, dis, y16⟩
  subst hv
  have hr16 := ho16.reps; have hrr := hor.reps
  obtain ⟨m0, m1, mp, mn, mc, mz, rfl, _, _⟩ := open_Money hr16 (rmMoney_code _ _ _ _)
  obtain ⟨v0, vp, vn, vc, vz, vp2, vn2, vc2, vz2, rfl, _, _, _⟩ := open_Rat hrr (rmRest_code _ _ _ _)
  have Y16 := Z.trans y16
  obtain ⟨W1, W2, a1, _, a2, a3, a4, a5, a6, a7⟩ := two_end (t1 := T_impl_Money) (t2 := T_impl_Rat) (b2.ext Y16) (b3.ext Y16) (X7.trans Y16) ho16 hor (by kernel_rfl) rfl (by kernel_rfl) rfl (by omega) (by omega) (by omega) (by omega) (by omega) (by omega)
  exact ⟨_, _, _, _, _, _, _, _, _, _, _, _, _, rfl, W1, a1, W2, a2, _, _, _, _, _, a3, _, _, _, _, _, _, _, a4, _, f16, _, fr, rfl, a5, nd16, a6, ndr, dis, a7⟩
end Go.Proofs.YtbgokfhcgcoipaaGreatDoor
namespace Go.Proofs.YtbgokfhcgcoipaaGreatDoor
open Go Go.Proofs.YtbgokfhcgcoipaaGreatDoor.Sx
theorem Sx.copyI {w : World} {r : Nat} {q : Option Addr} {n d : Nat} {ys zs : List Int} (hb : Blk w r T_int (zs.map (Value.int .i64))) (hz : zs.length = n) (k : IntsR w q n d ys) :
    ∃ w', Copies P [T_s_int, T_s_int] [.slice (some ⟨r, 0, none⟩) n n, .slice q n d] (goInt n) w w' /\ Blk w' r T_int (ys.map (Value.int .i64)) /\ Chg [r] w w' /\ w'.heap.size = w.heap.size := by
  obtain ⟨hu, hi, hz0, hs⟩ := sliceT_int
  cases hinf : P.info? T_int with
  | none => rw [hinf] at hi; cases hi
  | some i =>
    rw [hinf] at hi
    simp only [Option.map_some, Option.some.injEq, Prod.mk.injEq] at hi
    have hy := k.1
    cases q with
    | none =>
      have hm0 : n = 0 := by
        rcases Nat.eq_zero_or_pos n with h0 | h0
        · exact h0
        · obtain ⟨b, off, hp, _⟩ := k.2.2.2 h0; cases hp
      subst hm0
      have h1 : ys = [] := List.eq_nil_of_length_eq_zero hy
      have h2 : zs = [] := List.eq_nil_of_length_eq_zero hz
      subst h1; subst h2
      refine ⟨w, ?_, hb, Chg.refl _ _, rfl⟩
      show (Builtin.copy_ #[T_s_int, T_s_int] 0 #[.slice (some ⟨r, 0, none⟩) 0 0, .slice none 0 d]).run P w = .ok (goInt 0) w
      simp [Builtin.copy_, run_underlying hu, Builtin.lenOf, Builtin.firstCells, sizeOf, typeInfo, hinf, storeCells]
    | some a =>
      have hcells : ∀ j u, (ys.map (Value.int .i64))[j]? = some u -> w.cell? (a.add j) = some u := by
        intro j u hj
        have hl : j < n := by
          have := (List.getElem?_eq_some_iff.1 hj).1
          rw [List.length_map, hy] at this; exact this
        obtain ⟨b, off, hp, hseg⟩ := k.2.2.2 (by omega)
        cases hp
        rw [addr_add]
        exact hseg j u hj
      have := run_copy_row (P := P) w T_s_int T_s_int 0 T_int r 0 n n a n d ⟨zs.map (Value.int .i64)⟩ T_int (ys.map (Value.int .i64)) hu (by rw [hinf]; simp [hi.2.1]) hb (by simp [hy]) hcells (by simp [hy, hz]) (by simp [Value.oneCell'])
      have e : ((⟨zs.map (Value.int .i64)⟩ : Array Value).toList.take 0 ++ ys.map (Value.int .i64) ++ (⟨zs.map (Value.int .i64)⟩ : Array Value).toList.drop (0 + (ys.map (Value.int .i64)).length)) = ys.map (Value.int .i64) := by
        rw [List.take_zero, List.nil_append, List.drop_of_length_le (by simp [hy, hz]), List.append_nil]
      rw [e] at this
      refine ⟨_, ?_, setRow_heap w r _ _ T_int _ hb, setRow_chg _ _ _, by simp⟩
      have e2 : (ys.map (Value.int .i64)).length = n := by simp [hy]
      rw [e2] at this
      exact this
theorem impl_moneyCopy_c {w : World} {xs : List Value} {dx : List D0} (h : Reps w xs dx) (hc : dx.map D0.code = [.str, .bool, .ints]) (hb : bulks dx <= 100000000) :
    Ret P n_impl_moneyCopy [.agg ⟨xs⟩] w fun v w' => ∃ vs' f, v = .agg ⟨vs'⟩ /\ Owns w' w.heap.size vs' dx f /\ f.Nodup /\ Ext w w' := by
  obtain ⟨t0, a0, a1p, a1n, a1c, a1z, rfl, rfl, ha⟩ := open_Money h hc
  have l1 := ha.1
  simp only [bulks, D0.bulk, List.map_cons, List.map_nil, List.sum_cons, List.sum_nil] at hb
  refine impl_moneyCopy_ret ?_
  unfold impl_moneyCopy
  intro r w1 hn1 r1 w2 hn2
  have k0 := hn1.blk.ext hn2.ext
  have e2 := hn2.r_eq; have s1 := hn1.size; have s2 := hn2.size
  refine ⟨_, _, _, k0.loadAt 2 rfl (by kernel_rfl) rfl, ⟨by omega, by omega, by omega⟩, ?_⟩
  intro r2 w3 hn3
  have e3 := hn3.r_eq; have s3 := hn3.size
  have hblk := hn3.blk
  rw [zeroRow_int, Nat.mul_one, show (List.replicate a1n (Value.int .i64 0)) = (List.replicate a1n (0 : Int)).map (Value.int .i64) by simp] at hblk
  obtain ⟨w4, cp, hb4, ch4, sz4⟩ := copyI hblk (by simp) (ha.ext ((hn1.ext.trans hn2.ext).trans hn3.ext))
  have D := Ext.drew w4
  have Y := ((hn1.ext.trans hn2.ext).trans hn3.ext).chg ch4 (by simp; omega)
  have k0 := (k0.ext hn3.ext).chg ch4 (by have := hn1.r_eq; simp; omega)
  have k1 := (hn2.blk.ext hn3.ext).chg ch4 (by simp; omega)
  have lD := D.le
  refine ⟨_, _, _, (hn1.blk.ext (hn2.ext.trans hn3.ext)).loadAt 2 rfl (by kernel_rfl) rfl, _, w4, cp, _, fun W hW => (k0.ext (D.trans hW)).loadAt 0 rfl (by kernel_rfl) rfl, _, fun W hW => (k0.ext (D.trans hW)).loadAt 1 rfl (by kernel_rfl) rfl, ⟨by omega, by omega⟩, ⟨by omega, by omega⟩, ?_⟩
  obtain ⟨w7, st, hb7, ch, sz⟩ := (k1.ext D).storeA0 (P := P) (t := T_impl_Money) (xs := [.string t0, .bool a0, .slice (some ⟨r2, 0, none⟩) a1n a1n]) (by kernel_rfl) rfl (by simp [Value.oneCell'])
  have q1 : Own w7 w.heap.size T_int 1 (some ⟨r2, 0, none⟩) a1n a1n (a1z.map (Value.int .i64)) := Own.of_blk ((hb4.ext D).chg ch (by simp; omega)) (by omega) (by simp [l1]) (by simp only [maxLen]; omega)
  have es : sub (some ⟨r2, 0, none⟩) 0 a1n 1 = some ⟨r2, 0, none⟩ := by simp [sub, Addr.add]
  rw [es, Nat.sub_zero]
  exact ⟨w7, st, _, _, _, _, _, hb7.loadA0 (by kernel_rfl), _, _, rfl, Owns.append (Owns.str _ _ t0) (Owns.append (Owns.bool _ _ a0) (Owns.ints q1)), by simp, (Y.trans D).chg ch (by simp; omega)⟩
end Go.Proofs.YtbgokfhcgcoipaaGreatDoor
