/-
  Parts of the proof of fnBook_holds: CFnBook, CTab, CTabP, CTabX.
  Conditions: none.
-/
import Derived.ProofKit
import Derived.Test.YtbgokfhcgcoipaaGreatDoorRows
import Derived.OpenShut
import Derived.Lib.LaidTab
import Derived.Test.YtbgokfhcgcoipaaGreatDoorBk4
set_option linter.unusedVariables false
set_option linter.unusedSimpArgs false

namespace Go.Proofs.YtbgokfhcgcoipaaGreatDoor
open Go Go.Proofs.YtbgokfhcgcoipaaGreatDoor.Sx
set_option maxRecDepth 20000
theorem impl_IntCmp_s {w : World} {xs ys : List Value} {x : Int} (h : Reps w xs (enc x)) (k : Reps w ys (enc x)) (hx : intOk (enc x) = true) (hl : (digs x.natAbs).length <= 50) :
    Ret P n_impl_IntCmp [.agg ⟨xs⟩, .agg ⟨ys⟩] w fun v w' => v = .int .i64 0 /\ Ext w w' := by
  have hr := h; have kr := k
  obtain ⟨a0, ap, an, ac, az, rfl, _, _⟩ := open_Signed h (enc_code _)
  obtain ⟨b0, bp, bn, bc, bz, rfl, _, _⟩ := open_Signed k (enc_code _)
  refine impl_IntCmp_ret ?_
  unfold impl_IntCmp
  intro r w1 hn1 r1 w2 hn2
  have X2 := hn1.ext.trans hn2.ext
  refine ⟨_, _, _, _, (hn1.blk.ext hn2.ext).loadA0 (by kernel_rfl), _, _, _, _, hn2.blk.loadA0 (by kernel_rfl), ?_⟩
  refine Ret.at (impl_intsOk_c (hr.ext X2) (kr.ext X2) (enc_code _) (enc_code _)) ?_
  rintro v w3 ⟨hv, y3⟩
  rw [hx] at hv
  subst hv
  have X3 := X2.trans y3
  refine ⟨_, rfl, fun e => absurd e (by simp), fun _ => ?_⟩
  refine ⟨_, _, _, _, ((hn1.blk.ext hn2.ext).ext y3).loadA0 (by kernel_rfl), _, _, _, _, (hn2.blk.ext y3).loadA0 (by kernel_rfl), ?_⟩
  refine Ret.at (impl_intCmp_c (hr.ext X3) (kr.ext X3) (by omega) (by omega)) ?_
  rintro v w4 ⟨hv, y4⟩
  rw [Int.sub_self] at hv
  subst hv
  exact ⟨_, rfl, rfl, X3.trans y4⟩
theorem impl_Lines_c {w : World} (s : ByteArray) (hs : s.size <= 1048576) {a : List UInt8} (he : s.data.toList = a ++ [10]) :
    Ret P n_impl_Lines [.string s] w fun v w' => ∃ p c, v = .slice p (s.data.toList.count 10) c /\ Ext w w' := by
  refine impl_Lines_ret ?_
  unfold impl_Lines
  refine Ret.at (impl_CutAt_c s 10 hs) ?_
  rintro v w1 ⟨p, n, k, ps, rfl, hS, hps, y1⟩
  have hlen : n = s.data.toList.count 10 + 1 := by
    rw [<- hS.1, show ps.length = (ps.map fun x : ByteArray => x.data.toList).length by simp, hps, cuts_len]
  have hcn : s.data.toList.count 10 <= s.size := by
    rw [ba_size]; exact List.count_le_length
  have hps' := hps
  rw [he] at hps'
  have hlast : (ps[n - 1]'(by rw [hS.1]; omega)) = S [] := by
    have hne : ps ≠ [] := fun e => by have := hS.1; rw [e] at this; simp at this; omega
    have h1 : (ps.map (fun x : ByteArray => x.data.toList)).getLast (by simpa using hne) = [] := by
      simp only [hps']
      exact cuts_end a []
    rw [List.getLast_map] at h1
    rw [List.getLast_eq_getElem] at h1
    have h2 : (ps[ps.length - 1]'(by have := hS.1; omega)).data.toList = [] := h1
    refine ba_ext ?_
    rw [show ps[n - 1]'(by rw [hS.1]; omega) = ps[ps.length - 1]'(by have := hS.1; omega) by congr 1; rw [hS.1]]
    rw [h2]
  obtain ⟨ad, hp, hld⟩ := hS.at (P := P) (t := T_string) (by kernel_rfl) (show n - 1 < n by omega)
  subst hp
  refine ⟨_, _, _, rfl, exW ⟨by omega, by omega⟩ ⟨⟨by omega, by omega⟩, ps[n - 1]'(by rw [hS.1]; omega), ?_, fun _ => exW ⟨by omega, by omega⟩ ⟨⟨by omega, by have := hS.2.1; omega⟩, ?_⟩, fun e => absurd hlast (of_decide_eq_false e)⟩⟩
  · rw [show (((n : Nat) : Int) - 1).toNat = n - 1 by omega]; exact hld
  · unfold impl_Lines_j0
    refine ⟨sub (some ad) 0 k 1, k - 0, ?_, y1⟩
    rw [show (((n : Nat) : Int) - 1).toNat - 0 = s.data.toList.count 10 by omega]
theorem zed_word : isWord (S [122, 101, 100]) = true := by decide +kernel
theorem nok_known : curKnown (S [78, 79, 75]) = true := by decide +kernel
theorem nok_new : ∀ c ∈ curs4, c ≠ S [78, 79, 75] := by decide
theorem curs_mem {l : List B3} {c : ByteArray} (h : c ∈ bookCursL (l.map bkR)) : ∃ x ∈ l, x.2.1 = c := by
  unfold bookCursL at h
  rw [cursL_mem, List.map_map] at h
  obtain ⟨x, hx, he⟩ := List.mem_map.1 h
  exact ⟨x, hx, he⟩
theorem foldT_size : ∀ (l : List B3) (a : ByteArray), (∀ x ∈ l, x.1.size <= 12) -> ((l.map bkR).foldl (fun s x => s ++ acctT x) a).size <= a.size + l.length * 300
  | [], a, _ => by simp
  | x :: r, a, h => by
    have h1 : (acctT (bkR x)).size <= 300 := by
      have := h x (by simp)
      have := moneyT_size x.2.1 (decide (x.2.2 < 0)) (digs x.2.2.natAbs)
      show ((((x.1 ++ S [32]) ++ moneyT [.str x.2.1, .bool (decide (x.2.2 < 0)), .ints (digs x.2.2.natAbs)]) ++ S [10]).size) <= 300
      rw [ByteArray.size_append, ByteArray.size_append, ByteArray.size_append]
      have s1 : (S [32]).size = 1 := rfl
      have s2 : (S [10]).size = 1 := rfl
      omega
    have h2 := foldT_size r (a ++ acctT (bkR x)) (fun y hy => h y (by simp [hy]))
    show ((r.map bkR).foldl (fun s x => s ++ acctT x) (a ++ acctT (bkR x))).size <= _
    rw [ByteArray.size_append] at h2
    simp only [List.length_cons]
    omega
theorem bulk_mon {c : ByteArray} {z : Int} (h : moneyOk (.str c :: enc z) = true) : bulks (.str c :: enc z) <= 100000000 := by
  obtain ⟨h1, h2⟩ := moneyOk_parts h
  have := known_size h1
  simp only [enc, bulks, D0.bulk, List.map_cons, List.map_nil, List.sum_cons, List.sum_nil]
  omega
theorem book_loops {w0 w : World} {r r4 : Nat} {l : List B3} {v : Int} {p q : Option Addr} {n c m d : Nat} (hw : Ext w0 w) (ht : Tab w) (hp : TabP w) (hD : DBk l) (hB : BkL (l ++ [(S [122, 101, 100], S [78, 79, 75], v)]))
    (h : RowsR w 4 p n c (l.map bkR)) (g : RowsR w 4 q m d ((l ++ [(S [122, 101, 100], S [78, 79, 75], v)]).map bkR)) (hb : Blk w r T_impl_Book [.slice p n c]) (gb : Blk w r4 T_impl_Book [.slice q m d]) :
    laws_FnBook_s_j5 r r4 w fun v w' => v = .bool true /\ Ext w0 w' := by
  have hln : l.length = n := by have := h.1; simpa using this
  have hlm : l.length + 1 = m := by have := g.1; simpa using this
  have hl5 := hD.len
  unfold laws_FnBook_s_j5
  refine ⟨_, _, _, hb.loadAt 0 rfl (by kernel_rfl) rfl, fun i W => ∃ j : Nat, i = j /\ j <= n /\ Ext w W, fun i _ => n - i.toNat, ⟨0, rfl, by omega, Ext.refl _⟩, ?_⟩
  rintro junk W i ⟨j, rfl, hj, hX⟩
  refine ifD (fun hlt => ?_) (fun hge => ?_)
  · have hjl : j < l.length := by omega
    obtain ⟨b, o, hpp, hs⟩ := h.2.2.2 (by omega)
    obtain ⟨cs, hk, hr, hsg⟩ := hs j (bkR l[j]) (by rw [List.getElem?_map, List.getElem?_eq_getElem hjl]; rfl)
    have hr0 := hr
    obtain ⟨a0, a1, a2, a3p, a3n, a3c, a3z, rfl, _, _⟩ := open_Acct hr (bkR_code l _ (List.mem_map.2 ⟨_, List.getElem_mem hjl, rfl⟩))
    have ha0 : a0 = (l[j]).1 := by have := hr0.1; exact (Value.string.inj this)
    subst hpp
    refine ⟨⟨by omega, by omega⟩, _, _, _, _, _, _, (hsg.ext hX).loadAAt 0 [.string a0, .string a1, .bool a2, .slice a3p a3n a3c] (by rw [addr_add, Int.toNat_natCast]; rfl) (by kernel_rfl) rfl, ?_⟩
    intro r6 w1 hn1
    have hr1 := hr0.ext hX
    obtain ⟨w2, st2, b2, y2⟩ := hn1.fill (P := P) (t := T_impl_Acct) hr1.cells1 (by kernel_rfl) rfl
    have X2 := hX.trans y2
    refine ⟨w2, st2, _, _, _, (gb.ext X2).loadA0 (by kernel_rfl), a0, b2.loadAt 0 rfl (by kernel_rfl) rfl, ?_⟩
    refine Ret.at (impl_BalanceOf_c (g.ext X2) (bkR_code _) (by omega) hB.bulk a0) ?_
    rintro v3 w3 ⟨vs3, f3, hv, o3, _, c3, _, y3⟩
    have hjm : j < (l ++ [(S [122, 101, 100], S [78, 79, 75], v)]).length := by rw [List.length_append]; show j < l.length + 1; omega
    have hbal := hB.bal hjm
    rw [List.getElem_append_left hjl, <- ha0] at hbal
    have r3 := o3.reps
    rw [hbal] at r3
    have r3c := r3
    obtain ⟨u0, u1, up, un, uc, uz, rfl, _, _⟩ := open_Money r3 rfl
    subst hv
    refine ⟨_, _, _, _, _, _, rfl, ?_⟩
    intro r7 w4 hn4
    obtain ⟨w5, st5, b5, y5⟩ := hn4.fill (P := P) (t := T_impl_Money) r3c.cells1 (by kernel_rfl) rfl
    have X5 := y3.trans y5
    have rM : Reps w5 [.string a1, .bool a2, .slice a3p a3n a3c] (.str (l[j]).2.1 :: enc (l[j]).2.2) := ⟨hr0.2.1, (hr0.2.2.ext (X2.trans X5))⟩
    refine ⟨w5, st5, _, _, _, _, _, b5.loadA0 (by kernel_rfl), _, _, _, _, _, (b2.ext X5).loadAAt 1 [.string a1, .bool a2, .slice a3p a3n a3c] (by rw [addr_add]) (by kernel_rfl) rfl, ?_⟩
    refine Ret.at (impl_MoneySame_c (r3c.ext y5) rM rfl rfl) ?_
    rintro v6 w6 ⟨hv, y6⟩
    rw [decide_eq_true rfl] at hv
    subst hv
    refine ⟨_, rfl, fun e => absurd e (by simp), fun _ => exW ⟨by omega, by omega⟩ ⟨⟨j + 1, by omega, by omega, (X2.trans X5).trans y6⟩, by show n - ((j : Int) + 1).toNat < n - (j : Int).toNat; omega⟩⟩
  · refine ⟨_, _, _, (hb.ext hX).loadA0 (by kernel_rfl), ?_⟩
    refine Ret.at (impl_BookCurs_c (h.ext hX) (bkR_code l) (by omega) hD.bk.bulk) ?_
    rintro v1 w1 ⟨cp, cn, cc, cf, rfl, oC, _, _, y1⟩
    have X1 := hX.trans y1
    have rC := oC.rows
    have hcn : (bookCursL (l.map bkR)).length = cn := by have := rC.1; simpa [bookCurs, strRows] using this
    have hcl : cn <= 5 := by have := bookCurs_len (l.map bkR); rw [List.length_map] at this; omega
    refine ⟨_, _, _, rfl, fun i W => ∃ j : Nat, i = j /\ j <= cn /\ Ext w1 W, fun i _ => cn - i.toNat, ⟨0, rfl, by omega, Ext.refl _⟩, ?_⟩
    rintro junk2 W2 i2 ⟨j2, rfl, hj2, hX2⟩
    have D := Ext.drew W2
    have Z := X1.trans (hX2.trans D)
    refine ifD (fun hlt => ?_) (fun hge2 => ?_)
    · have hjl : j2 < (bookCursL (l.map bkR)).length := by omega
      obtain ⟨b, o, hpp, hs⟩ := rC.2.2.2 (by omega)
      obtain ⟨cs, hk, hr, hsg⟩ := hs j2 [.str (bookCursL (l.map bkR))[j2]] (by unfold bookCurs strRows; rw [List.getElem?_map, List.getElem?_eq_getElem hjl]; rfl)
      obtain ⟨cur, hcur⟩ : ∃ cur, (bookCursL (l.map bkR))[j2] = cur := ⟨_, rfl⟩
      rw [hcur] at hr
      have hcs : cs = [.string cur] := by
        match cs, hr with
        | [x], hr => rw [show x = .string cur from hr.1]
      subst hcs
      subst hpp
      obtain ⟨x, hx, hxc⟩ := curs_mem (hcur ▸ List.getElem_mem hjl)
      have hne : (S [78, 79, 75] : ByteArray) ≠ cur := fun e => nok_new _ (hD.all x hx).2.1 (by rw [hxc, e])
      have hsum : bookSum ((l ++ [(S [122, 101, 100], S [78, 79, 75], v)]).map bkR) cur = bookSum (l.map bkR) cur := by
        rw [hB.sum, hD.bk.sum, List.map_append, List.map_singleton, sumI_snoc, unitsOf_bk, if_neg hne, Int.add_zero]
      have hbd : (sumI (unitsOf cur) (l.map bkR)).natAbs <= 5 * 7000 := by
        refine Nat.le_trans (sumI_bound (M := 7000) _ fun y hy => ?_) (by rw [List.length_map]; omega)
        obtain ⟨x, hx, rfl⟩ := List.mem_map.1 hy
        rw [unitsOf_bk]
        split
        · exact (hD.all x hx).2.2
        · decide
      have hdl : (digs (sumI (unitsOf cur) (l.map bkR)).natAbs).length <= 1 := digs_len 1 (by omega)
      refine ⟨⟨by omega, by omega⟩, cur, (hsg.ext hX2).loadAt 0 (by rw [addr_add, Int.toNat_natCast]; rfl) (by kernel_rfl) rfl, _, _, _, fun W' hW => (hb.ext (Z.trans hW)).loadA0 (by kernel_rfl), ?_⟩
      refine Ret.at (impl_BookSum_c (h.ext Z) (bkR_code l) (by omega) hD.bk.bulk cur (ht.ext Z)) ?_
      rintro v3 w3 ⟨vs3, f3, rfl, o3, _, c3, _, y3⟩
      have r3 := o3.reps
      rw [hD.bk.sum] at r3
      have r3c := r3
      obtain ⟨u0, up, un, uc, uz, rfl, _, _⟩ := open_Signed r3 (enc_code _)
      have Z3 := Z.trans y3
      refine ⟨_, _, _, _, rfl, y3, _, _, _, fun W' hW => (gb.ext (Z.trans hW)).loadA0 (by kernel_rfl), ?_⟩
      refine Ret.at (impl_BookSum_c (g.ext Z3) (bkR_code _) (by omega) hB.bulk cur (ht.ext Z3)) ?_
      rintro v4 w4 ⟨vs4, f4, rfl, o4, _, c4, _, y4⟩
      have r4 := o4.reps
      rw [hsum, hD.bk.sum] at r4
      have r4c := r4
      obtain ⟨t0, tp, tn, tc, tz, rfl, _, _⟩ := open_Signed r4 (enc_code _)
      refine ⟨_, _, _, _, rfl, ?_⟩
      refine Ret.at (impl_IntCmp_s (r3c.ext y4) r4c (enc_small (by omega)) (by omega)) ?_
      rintro v5 w5 ⟨rfl, y5⟩
      exact ⟨_, rfl, fun e => absurd e (by simp), fun _ => exW ⟨by omega, by omega⟩ ⟨⟨j2 + 1, by omega, by omega, (hX2.trans D).trans (y3.trans (y4.trans y5))⟩, by show cn - ((j2 : Int) + 1).toNat < cn - (j2 : Int).toNat; omega⟩⟩
    · refine ⟨_, _, _, fun W' hW => (gb.ext (Z.trans hW)).loadA0 (by kernel_rfl), ?_⟩
      refine Ret.at (impl_BookOk_c (g.ext Z) (bkR_code _) (by omega) hB.bulk (ht.ext Z)) ?_
      rintro v3 w3 ⟨hv, y3⟩
      rw [hB.ok] at hv
      subst hv
      have Z3 := Z.trans y3
      refine ⟨_, rfl, fun _ => ?_, fun e => absurd e (by simp)⟩
      refine ⟨_, _, _, fun W' hW => (gb.ext (Z3.trans hW)).loadA0 (by kernel_rfl), ?_⟩
      refine Ret.at (impl_BookText_c (g.ext Z3) (bkR_code _) (by omega) hB.bulk (ht.ext Z3) (hp.ext Z3)) ?_
      rintro v4 w4 ⟨rfl, y4⟩
      obtain ⟨a, ha, _⟩ := acct_list (x := (S [122, 101, 100], S [78, 79, 75], v)) (hB.row _ (by simp)).1 (hB.row _ (by simp)).2
      have hend : (bookT ((l ++ [(S [122, 101, 100], S [78, 79, 75], v)]).map bkR)).data.toList = ((bookT (l.map bkR)).data.toList ++ a) ++ [10] := by
        rw [List.map_append, List.map_singleton, bookT_snoc, ByteArray.data_append, Array.toList_append, ha, List.append_assoc]
      have hcount := bookT_count _ hB.row
      have hsz : (bookT ((l ++ [(S [122, 101, 100], S [78, 79, 75], v)]).map bkR)).size <= 1048576 := by
        refine Nat.le_trans (foldT_size _ _ fun x hx => word_size (hB.row x hx).1) ?_
        rw [List.length_append]
        show 0 + (l.length + 1) * 300 <= _
        omega
      refine ⟨_, rfl, y4, ?_⟩
      refine Ret.at (impl_Lines_c _ hsz hend) ?_
      rintro v5 w5 ⟨lp, lc, rfl, y5⟩
      refine ⟨_, _, _, rfl, y5, _, _, _, fun W' hW => (hb.ext (Z3.trans hW)).loadAt 0 rfl (by kernel_rfl) rfl, exW ⟨by omega, by omega⟩ ⟨?_, hw.trans (Z3.trans (y4.trans y5))⟩⟩
      rw [hcount, List.length_append]
      show Value.bool (decide (((l.length + 1 : Nat) : Int) = ((n : Nat) : Int) + 1)) = _
      rw [decide_eq_true (by omega)]
theorem laws_FnBook_c {w : World} {p0 : Option Addr} {n0 c0 : Nat} (h0 : ByR w p0 n0) (ht : Tab w) (hp : TabP w) : Ret P n_laws_FnBook [.slice p0 n0 c0] w fun v w' => v = .bool true /\ Ext w w' := by
  have h := h0
  refine laws_FnBook_s_ret ?_
  unfold laws_FnBook_s
  refine ifD (fun _ => ⟨rfl, Ext.refl w⟩) (fun hs => ?_)
  have hn : n0 <= 1048576 := by omega
  refine Ret.at (spec_MakeBook_c h hn) ?_
  rintro v w1 ⟨l, f, bp, bn, bc, rfl, oL, hD, y1⟩
  have rL := oL.rows
  have hln : l.length = bn := by have := rL.1; simpa using this
  have hl5 := hD.len
  refine ⟨_, _, _, rfl, ?_⟩
  intro r w2 hn2
  obtain ⟨w3, st3, bB, y3⟩ := hn2.fill (P := P) (t := T_impl_Book) (xs := [.slice bp bn bc]) (by simp [Value.oneCell']) (by kernel_rfl) rfl
  have rL := rL.ext y3
  have x := y1.trans y3
  refine ⟨w3, st3, _, _, _, bB.loadA0 (by kernel_rfl), ?_⟩
  have hzed : ∀ y ∈ l, bLess y.1 (S [122, 101, 100]) = true := fun y hy => names5_zed _ (hD.all y hy).1
  obtain ⟨ok1, ok2⟩ := hD.bk.open (cur := S [78, 79, 75]) hzed zed_word nok_known (by omega)
  refine Ret.at (impl_BookOpen_c rL (bkR_code l) (by omega) hD.bk.bulk (S [122, 101, 100]) (by decide) (S [78, 79, 75]) (by decide) (ht.ext x)) ?_
  rintro v w4 ⟨op, on, oc, fo, hv, oO, _, _, y4⟩
  rw [ok1] at hv
  rw [ok2] at oO
  subst hv
  have rO := oO.rows
  have hB0 : BkL (l ++ [(S [122, 101, 100], S [78, 79, 75], 0)]) := hD.bk.snoc hzed zed_word (money_midB nok_known (by decide)) (by omega)
  have hlo : (l ++ [(S [122, 101, 100], S [78, 79, 75], (0 : Int))]).length = on := by have := rO.1; simpa using this
  have hlo' : l.length + 1 = on := by rw [<- hlo, List.length_append]; rfl
  have rL := rL.ext y4; have bB := bB.ext y4
  have x := x.trans y4
  refine ⟨_, _, _, _, rfl, ?_⟩
  intro r1 w5 hn5
  obtain ⟨w6, st6, bO, y6⟩ := hn5.fill (P := P) (t := T_impl_Book) (xs := [.slice op on oc]) (by simp [Value.oneCell']) (by kernel_rfl) rfl
  have rL := rL.ext y6; have bB := bB.ext y6; have rO := rO.ext y6
  have x := x.trans y6
  refine ⟨w6, st6, _, _, _, bO.loadA0 (by kernel_rfl), ?_⟩
  refine Ret.at (impl_BalanceOf_c rO (bkR_code _) (by omega) hB0.bulk (S [122, 101, 100])) ?_
  rintro v w7 ⟨vs7, f7, hv, o7, _, c7, _, y7⟩
  have hj0 : l.length < (l ++ [(S [122, 101, 100], S [78, 79, 75], (0 : Int))]).length := by rw [List.length_append]; show _ < _ + 1; omega
  have he0 : (l ++ [(S [122, 101, 100], S [78, 79, 75], (0 : Int))])[l.length]'hj0 = (S [122, 101, 100], S [78, 79, 75], 0) := by simp
  have hbal0 := hB0.bal hj0
  have hat0 := hB0.at hj0
  rw [he0] at hbal0 hat0
  rw [hat0, decide_eq_true (by omega)] at hv
  have r7 := o7.reps
  rw [hbal0] at r7
  have r7c := r7
  obtain ⟨d0, d1, dp, dn, dc, dz, rfl, _, _⟩ := open_Money r7 rfl
  subst hv
  have rL := rL.ext y7; have bB := bB.ext y7; have rO := rO.ext y7; have bO := bO.ext y7
  have x := x.trans y7
  refine ⟨_, _, _, _, _, _, rfl, ?_⟩
  intro r2 w8 hn8
  obtain ⟨w9, st9, bM, y9⟩ := hn8.fill (P := P) (t := T_impl_Money) r7c.cells1 (by kernel_rfl) rfl
  have rM := r7c.ext y9
  have rL := rL.ext y9; have bB := bB.ext y9; have rO := rO.ext y9; have bO := bO.ext y9
  have x := x.trans y9
  refine ⟨w9, st9, ?_⟩
  refine Ret.at (spec_MakeNum_c (h.ext x) hn (k := 90) (by decide) (by decide)) ?_
  rintro v w10 ⟨z, rfl, hz0, hz1, y10⟩
  have rL := rL.ext y10; have bB := bB.ext y10; have rO := rO.ext y10; have bO := bO.ext y10; have bM := bM.ext y10; have rM := rM.ext y10
  have x := x.trans y10
  refine ⟨_, rfl, exW ⟨by omega, by omega⟩ ?_⟩
  have okV := money_midB nok_known (z := 5 + z) (by omega)
  refine Ret.at (impl_MoneyOf_c (S [78, 79, 75]) (n := 5 + z) (by omega) (by omega) (ht.ext x)) ?_
  rintro v w11 ⟨vs11, f11, hv, o11, _, y11⟩
  rw [okV] at hv
  rw [moneyMk_ok okV] at o11
  subst hv
  have rN := o11.reps
  have rNc := rN
  obtain ⟨g0, g1, gp, gn, gc, gz, rfl, _, _⟩ := open_Money rN rfl
  have rL := rL.ext y11; have bB := bB.ext y11; have rO := rO.ext y11; have bO := bO.ext y11; have bM := bM.ext y11; have rM := rM.ext y11
  have x := x.trans y11
  refine ⟨_, _, _, _, _, _, rfl, ?_⟩
  intro r3 w12 hn12
  obtain ⟨w13, st13, bN, y13⟩ := hn12.fill (P := P) (t := T_impl_Money) rNc.cells1 (by kernel_rfl) rfl
  have rN := rNc.ext y13
  have rL := rL.ext y13; have bB := bB.ext y13; have rO := rO.ext y13; have bO := bO.ext y13; have bM := bM.ext y13; have rM := rM.ext y13
  have x := x.trans y13
  refine ⟨w13, st13, _, _, _, bO.loadA0 (by kernel_rfl), _, _, _, _, _, bN.loadA0 (by kernel_rfl), ?_⟩
  obtain ⟨pk1, pk2⟩ := hB0.post_last okV
  refine Ret.at (impl_BookPost_c rO (bkR_code _) (by omega) hB0.bulk (S [122, 101, 100]) rN rfl (bulk_mon okV) (ht.ext x)) ?_
  rintro v w14 ⟨yp, yn, yc, fy, hv, oY, _, _, y14⟩
  rw [pk1] at hv
  rw [pk2] at oY
  subst hv
  have rY := oY.rows
  have hB : BkL (l ++ [(S [122, 101, 100], S [78, 79, 75], 5 + z)]) := hD.bk.snoc hzed zed_word okV (by omega)
  have hly : (l ++ [(S [122, 101, 100], S [78, 79, 75], 5 + z)]).length = yn := by have := rY.1; simpa using this
  have hly' : l.length + 1 = yn := by rw [<- hly, List.length_append]; rfl
  have rL := rL.ext y14; have bB := bB.ext y14; have bM := bM.ext y14; have rM := rM.ext y14; have bN := bN.ext y14; have rN := rN.ext y14
  have x := x.trans y14
  refine ⟨_, _, _, _, rfl, ?_⟩
  intro r4 w15 hn15
  obtain ⟨w16, st16, bY, y16⟩ := hn15.fill (P := P) (t := T_impl_Book) (xs := [.slice yp yn yc]) (by simp [Value.oneCell']) (by kernel_rfl) rfl
  have rL := rL.ext y16; have bB := bB.ext y16; have bM := bM.ext y16; have rM := rM.ext y16; have bN := bN.ext y16; have rN := rN.ext y16; have rY := rY.ext y16
  have x := x.trans y16
  refine ⟨w16, st16, _, _, _, bY.loadA0 (by kernel_rfl), ?_⟩
  refine Ret.at (impl_BalanceOf_c rY (bkR_code _) (by omega) hB.bulk (S [122, 101, 100])) ?_
  rintro v w17 ⟨vs17, f17, hv, o17, _, c17, _, y17⟩
  have hj : l.length < (l ++ [(S [122, 101, 100], S [78, 79, 75], 5 + z)]).length := by rw [List.length_append]; show _ < _ + 1; omega
  have he : (l ++ [(S [122, 101, 100], S [78, 79, 75], 5 + z)])[l.length]'hj = (S [122, 101, 100], S [78, 79, 75], 5 + z) := by simp
  have hbal := hB.bal hj
  have hat := hB.at hj
  rw [he] at hbal hat
  rw [hat, decide_eq_true (by omega)] at hv
  have r17 := o17.reps
  rw [hbal] at r17
  have r17c := r17
  obtain ⟨k0, k1, kp, kn, kc, kz, rfl, _, _⟩ := open_Money r17 rfl
  subst hv
  have rL := rL.ext y17; have bB := bB.ext y17; have bM := bM.ext y17; have rM := rM.ext y17; have bN := bN.ext y17; have rN := rN.ext y17; have rY := rY.ext y17; have bY := bY.ext y17
  have x := x.trans y17
  refine ⟨_, _, _, _, _, _, rfl, ?_⟩
  intro r5 w18 hn18
  obtain ⟨w19, st19, bK, y19⟩ := hn18.fill (P := P) (t := T_impl_Money) r17c.cells1 (by kernel_rfl) rfl
  have rK := r17c.ext y19
  have rL := rL.ext y19; have bB := bB.ext y19; have bM := bM.ext y19; have rM := rM.ext y19; have bN := bN.ext y19; have rN := rN.ext y19; have rY := rY.ext y19; have bY := bY.ext y19
  have x := x.trans y19
  refine ⟨w19, st19, fun e => absurd e (by simp), fun _ => ?_⟩
  unfold laws_FnBook_s_j0
  refine ⟨fun e => absurd e (by simp), fun _ => ?_⟩
  have rU : Reps w19 [.bool d1, .slice dp dn dc] (enc 0) := rM.2
  refine ⟨_, _, _, _, bM.loadAAt 1 [.bool d1, .slice dp dn dc] (by rw [addr_add]) (by kernel_rfl) rfl, ?_⟩
  refine Ret.at (impl_IntSign_c rU enc0_ok) ?_
  rintro v w20 ⟨hv, y20⟩
  rw [show sgn 0 = 0 from rfl] at hv
  subst hv
  have rL := rL.ext y20; have bB := bB.ext y20; have bN := bN.ext y20; have rN := rN.ext y20; have rY := rY.ext y20; have bY := bY.ext y20; have bK := bK.ext y20; have rK := rK.ext y20
  have x := x.trans y20
  refine ⟨_, rfl, ?_⟩
  unfold laws_FnBook_s_j1
  refine ⟨fun e => absurd e (by simp), fun _ => ?_⟩
  unfold laws_FnBook_s_j2
  refine ⟨fun e => absurd e (by simp), fun _ => ?_⟩
  unfold laws_FnBook_s_j3
  refine ⟨fun e => absurd e (by simp), fun _ => ?_⟩
  refine ⟨_, _, _, _, _, bK.loadA0 (by kernel_rfl), _, _, _, _, _, bN.loadA0 (by kernel_rfl), ?_⟩
  refine Ret.at (impl_MoneySame_c rK rN rfl rfl) ?_
  rintro v w21 ⟨hv, y21⟩
  rw [decide_eq_true rfl] at hv
  subst hv
  have rL := rL.ext y21; have bB := bB.ext y21; have rY := rY.ext y21; have bY := bY.ext y21
  have x := x.trans y21
  refine ⟨_, rfl, ?_⟩
  unfold laws_FnBook_s_j4
  refine ⟨fun e => absurd e (by simp), fun _ => ?_⟩
  refine ⟨_, _, _, bB.loadA0 (by kernel_rfl), ?_⟩
  refine Ret.at (impl_AcctAt_c rL (bkR_code l) (S [122, 101, 100])) ?_
  rintro v w22 ⟨hv, y22⟩
  rw [acct_none (fun y hy => bLess_ne (hzed y hy))] at hv
  subst hv
  have rL := rL.ext y22; have bB := bB.ext y22; have rY := rY.ext y22; have bY := bY.ext y22
  have x := x.trans y22
  refine ⟨_, rfl, fun e => absurd e (by simp), fun _ => ?_⟩
  exact book_loops x (ht.ext x) (hp.ext x) hD hB rL rY bB bY
end Go.Proofs.YtbgokfhcgcoipaaGreatDoor
namespace Go.Proofs.YtbgokfhcgcoipaaGreatDoor
open Go Go.Proofs.YtbgokfhcgcoipaaGreatDoor.Sx
def curData {H : Type} (r : CurRow) : DataW H := .agg [.lit (.string r.1.data.toList), .lit (.string r.2.1.data.toList), .lit (.int .i64 r.2.2.1), .lit (.int .i64 r.2.2.2)]
theorem bytes_eq {a b : ByteArray} (h : a.data.toList = b.data.toList) : a = b := by
  obtain ⟨⟨x⟩⟩ := a; obtain ⟨⟨y⟩⟩ := b
  simp at h; subst h; rfl
set_option maxRecDepth 100000 in
theorem cur_cells {H : Type} {enc : TypeId × Value -> H} {w : World} {sp : Nat -> Bool} {hd : Bool} {fuel : Nat} {cs : List Value} {r : CurRow} {p : List MemPlace}
    (h : DataW.trod enc P w 0 sp hd fuel T_impl_currency cs = some (curData r, p)) : cs = curCells r := by
  obtain ⟨fs, hu, hsz, ⟨f0, e0, t0, o0⟩, ⟨f1, e1, t1, o1⟩, ⟨f2, e2, t2, o2⟩, ⟨f3, e3, t3, o3⟩⟩ := cur_fields
  have hu : P.underlying T_impl_currency = some (.struct fs) := hu
  have hs : P.underlying T_string = some .string := by kernel_rfl
  have hi : P.underlying T_int = some (.int .i64) := by kernel_rfl
  have cS : P.cellsOf T_string = 1 := by kernel_rfl
  have cI : P.cellsOf T_int = 1 := by kernel_rfl
  have cC : P.cellsOf T_impl_currency = 4 := by kernel_rfl
  obtain ⟨xs, n, rfl, hx, hlen, hxl, hf⟩ := DataW.trod_struct hu h
  rw [cC] at hlen
  rw [hsz] at hxl
  have h0 := hf 0 f0 e0; have h1 := hf 1 f1 e1; have h2 := hf 2 f2 e2; have h3 := hf 3 f3 e3
  rw [t0, o0, cS] at h0; rw [t1, o1, cS] at h1; rw [t2, o2, cI] at h2; rw [t3, o3, cI] at h3
  match cs, hlen, xs, hxl, hx, h0, h1, h2, h3 with
  | [c0, c1, c2, c3], _, [x0, x1, x2, x3], _, hx, h0, h1, h2, h3 =>
    simp only [List.drop_succ_cons, List.drop_zero, List.take_succ_cons, List.take_zero, List.getElem?_cons_zero, List.getElem?_cons_succ] at h0 h1 h2 h3
    obtain ⟨s0, a0, b0, _⟩ := DataW.trod_string hs h0
    obtain ⟨s1, a1, b1, _⟩ := DataW.trod_string hs h1
    obtain ⟨z2, a2, b2, _⟩ := DataW.trod_int hi h2
    obtain ⟨z3, a3, b3, _⟩ := DataW.trod_int hi h3
    simp only [Prod.mk.injEq, curData, DataW.agg.injEq, List.map_cons, List.map_nil, List.cons.injEq, b0, b1, b2, b3, DataW.lit.injEq, Lit.string.injEq, Lit.int.injEq, true_and, and_true] at hx
    simp only [List.cons.injEq, and_true] at a0 a1 a2 a3
    obtain ⟨⟨q0, q1, q2, q3⟩, _⟩ := hx
    rw [a0, a1, a2, a3, <- bytes_eq q0, <- bytes_eq q1, <- q2, <- q3]
    rfl
theorem flat_of_rows : ∀ (l : List CurRow) (cs : List Value), cs.length = l.length * 4 -> (∀ i (hi : i < l.length), (cs.drop (i * 4)).take 4 = curCells (l[i]'hi)) -> cs = l.flatMap curCells
  | [], cs, h, _ => by simpa using h
  | r :: l, cs, h, hr => by
    have h0 := hr 0 (by simp)
    simp only [Nat.zero_mul, List.drop_zero, List.getElem_cons_zero] at h0
    rw [List.flatMap_cons, <- h0, <- flat_of_rows l (cs.drop 4) (by simp at h ⊢; omega) (fun i hi => by
      have := hr (i + 1) (by simpa using hi)
      rw [List.drop_drop, show 4 + i * 4 = (i + 1) * 4 by omega]
      simpa using this), List.take_append_drop]
def curVar : String := "loop.example/g00793/impl.currencies"
set_option maxRecDepth 100000 in
theorem tab_of_head {W : World} {rest : List (String × DataW Unit)} (h : laidMet P ((curVar, Rows.laid_loop_example_g00793_impl_currencies) :: rest) W) : Tab W := by
  obtain ⟨ps, ⟨g, t, cs, fuel, p, q, hg, ht, hvar, hd, _, _⟩, _⟩ := h
  have hg0 : P.globalNamed curVar = some 0 := by kernel_rfl
  have ht0 : (P.globals[0]?).map (·.type) = some T_20_impl_currency := by kernel_rfl
  obtain rfl := Option.some.inj (hg0.symm.trans hg)
  obtain rfl := Option.some.inj (ht0.symm.trans ht)
  have hu : P.underlying T_20_impl_currency = some (.array 20 T_impl_currency) := und_T_20_impl_currency
  have cC : P.cellsOf T_impl_currency = 4 := by kernel_rfl
  have cA : P.cellsOf T_20_impl_currency = 80 := by kernel_rfl
  obtain ⟨xs, m, rfl, hx, hlen, hxl, hf⟩ := DataW.trod_array hu hd
  rw [cA] at hlen
  have hdat : (Rows.laid_loop_example_g00793_impl_currencies : DataW Unit) = .agg (implTab.map curData) := by rfl
  rw [hdat] at hx
  simp only [Prod.mk.injEq, DataW.agg.injEq] at hx
  have hl := impl_length
  have hcs : cs.toList = implTab.flatMap curCells := by
    refine flat_of_rows implTab _ (by omega) fun i hi => ?_
    have h1 := hf i (by omega)
    rw [cC] at h1
    have h2 : (xs.map (·.1))[i]? = some (curData (implTab[i]'hi)) := by rw [<- hx.1]; simp [hi]
    rw [List.getElem?_map] at h2
    cases h3 : xs[i]? with
    | none => rw [h3] at h2; cases h2
    | some x =>
      rw [h3] at h1 h2
      simp only [Option.map_some, Option.some.injEq] at h2
      obtain ⟨d, pp⟩ := x
      simp only at h2
      subst h2
      exact cur_cells h1
  intro i v hv
  have := World.var?_cell hg0 hvar i
  rw [Nat.zero_add, this, <- hv, <- hcs]
  simp
theorem trodVars_one {H : Type} {enc : TypeId × Value -> H} {w : World} {sp : Nat -> Bool} {n : String} {gs : List (DataW H)} {ps : List MemPlace} (h : DataW.TrodVars enc P w sp [n] gs ps) : ∃ g, gs = [g] := by
  match gs, h with
  | [g], _ => exact ⟨g, rfl⟩
  | g :: g2 :: r, h =>
    obtain ⟨_, _, _, _, _, _, _, _, _, _, h2, _⟩ := h
    exact h2.elim
end Go.Proofs.YtbgokfhcgcoipaaGreatDoor
namespace Go.Proofs.YtbgokfhcgcoipaaGreatDoor
open Go Go.Proofs.YtbgokfhcgcoipaaGreatDoor.Sx
theorem laidMet_tail {W : World} {x : String × DataW Unit} {rest : List (String × DataW Unit)} (h : laidMet P (x :: rest) W) : laidMet P rest W := by
  obtain ⟨ps, hv, hn, hr⟩ := h
  obtain ⟨n, d⟩ := x
  obtain ⟨g, t, cs, fuel, p, q, _, _, _, _, hrest, rfl⟩ := hv
  exact ⟨q, hrest, (List.nodup_append.1 hn).2.1, fun b off hm => hr b off (List.mem_append_right _ hm)⟩
theorem pow_data : (Rows.laid_internal_strconv_uint64pow10 : DataW Unit) = Lib.tabData .u64 Lib.pow10Tab := by kernel_rfl
set_option maxRecDepth 100000 in
theorem tabP_of_head {W : World} {rest : List (String × DataW Unit)} (h : laidMet P (("internal/strconv.uint64pow10", Rows.laid_internal_strconv_uint64pow10) :: rest) W) : TabP W := by
  rw [pow_data] at h
  exact Lib.tabIs_of_head (g := G_pow) (t := TA_pow) (e := TE_pow) (n := 20) (by kernel_rfl) (by kernel_rfl) und_A_pow und_E_pow (by kernel_rfl) (by kernel_rfl) h
def layAt (cs : List Value) : Obj -> Obj
  | .cells _ t frozen => .cells ⟨cs⟩ t frozen
  | o => o
end Go.Proofs.YtbgokfhcgcoipaaGreatDoor
namespace Go.Proofs.YtbgokfhcgcoipaaGreatDoor
open Go Go.Proofs.YtbgokfhcgcoipaaGreatDoor.Sx
theorem tabs_of_laid {W : World} (h : laidMetH P [("math/bits.deBruijn32tab", Rows.laid_math_bits_deBruijn32tab), ("math/bits.deBruijn64tab", Rows.laid_math_bits_deBruijn64tab), ("internal/strconv.uint64pow10", Rows.laid_internal_strconv_uint64pow10), (curVar, Rows.laid_loop_example_g00793_impl_currencies)] W) : Tab W /\ TabP W := by
  have h : laidMet P [("math/bits.deBruijn32tab", Rows.laid_math_bits_deBruijn32tab), ("math/bits.deBruijn64tab", Rows.laid_math_bits_deBruijn64tab), ("internal/strconv.uint64pow10", Rows.laid_internal_strconv_uint64pow10), (curVar, Rows.laid_loop_example_g00793_impl_currencies)] W := h
  have h2 := laidMet_tail (laidMet_tail h)
  exact ⟨tab_of_head (laidMet_tail h2), tabP_of_head h2⟩
noncomputable def laidWorldX (os : Os) (args : Array Value) : World :=
 { World.holding P os ⟨#[], args, []⟩ with heap := (((((World.holding P os ⟨#[], args, []⟩).heap.modify G_cur (layAt (implTab.flatMap curCells))).modify G_pow (layAt (L_pow.map (Value.int .u64)))).modify G_d32 (layAt (L_d32.map (Value.int .u8)))).modify G_d64 (layAt (L_d64.map (Value.int .u8)))) }
end Go.Proofs.YtbgokfhcgcoipaaGreatDoor
