/-
  Contracts: two sums of amounts off the rows of a list.
-/
import Derived.Test.YtfbmjimhjlmhkaaDoorCMoneySum
import Derived.Test.YtfbmjimhjlmhkaaDoorCFlat
namespace Go.Proofs.YtfbmjimhjlmhkaaDoor
open Go Go.Proofs.YtfbmjimhjlmhkaaDoor.Sx
set_option linter.unusedVariables false
set_option linter.unusedSimpArgs false

def planSA (x : List D0) : List D0 := (x.drop 0).take 3
def planSB (x : List D0) : List D0 := (x.drop 3).take 3
def planSOk (cur : ByteArray) (l : List (List D0)) : Bool := decide (0 ≤ l.length) && (msAll cur (l.map planSA) && msAll cur (l.map planSB))
def planSR (cur : ByteArray) (f : List D0 → List D0) (l : List (List D0)) : List D0 := if planSOk cur l then moneySum cur (l.map f) else zeroMoney
theorem planSR_code (cur : ByteArray) (f : List D0 → List D0) (l : List (List D0)) : (planSR cur f l).map D0.code = [.str, .bool, .ints] := by unfold planSR; split; exact moneySum_code _ _; rfl
theorem planSR_cnt {cur : ByteArray} {f : List D0 → List D0} {l : List (List D0)} (hl : l.length ≤ 1048576) : tcnts (planSR cur f l) ≤ 1000000000 := by
  unfold planSR
  split
  · exact moneySum_cnt (by simpa using hl)
  · decide
theorem planSA_code {l : List (List D0)} (hc : ∀ x ∈ l, x.map D0.code = [.str, .bool, .ints, .str, .bool, .ints, .str, .bool, .ints]) : ∀ x ∈ l.map planSA, x.map D0.code = [.str, .bool, .ints] := fun x hx => by
  obtain ⟨y, hy, rfl⟩ := List.mem_map.1 hx
  unfold planSA
  rw [List.map_take, List.map_drop, hc y hy]; rfl
theorem planSB_code {l : List (List D0)} (hc : ∀ x ∈ l, x.map D0.code = [.str, .bool, .ints, .str, .bool, .ints, .str, .bool, .ints]) : ∀ x ∈ l.map planSB, x.map D0.code = [.str, .bool, .ints] := fun x hx => by
  obtain ⟨y, hy, rfl⟩ := List.mem_map.1 hx
  unfold planSB
  rw [List.map_take, List.map_drop, hc y hy]; rfl
theorem planS_snoc {f : List D0 → List D0} {l : List (List D0)} {j : Nat} (hj : j < l.length) : (l.take (j + 1)).map f = (l.take j).map f ++ [f (l[j]'hj)] := by
  rw [take_snoc (List.getElem?_eq_getElem hj), List.map_append]; rfl
theorem planS_sliceT : sliceT P T_s_impl_Money T_impl_Money (.agg ⟨[.string ByteArray.empty, .bool false, .slice none 0 0]⟩) 3 48 := ⟨by kernel_rfl, by kernel_rfl, rfl, by decide⟩

theorem spec_PlanSums_o {w : World} (cur : ByteArray) {p : Option Addr} {n c : Nat} {l : List (List D0)} (h : RowsR w 9 p n c l) (hc : ∀ x ∈ l, x.map D0.code = [.str, .bool, .ints, .str, .bool, .ints, .str, .bool, .ints]) (hn : n ≤ 1048576) (hbb : ∀ x ∈ l, bulks x ≤ 1048576) :
    Ret P n_spec_PlanSums [.string cur, .slice p n c] w fun v w' => ∃ vs0 f0 vs1 f1, v = .tuple #[.agg ⟨vs0⟩, .agg ⟨vs1⟩, .bool (planSOk cur l)] ∧ Owns w' w.heap.size vs0 (planSR cur planSA l) f0 ∧ f0.Nodup ∧ (planSR cur planSA l).map D0.code = [.str, .bool, .ints] ∧ tcnts (planSR cur planSA l) ≤ 1000000000 ∧ Owns w' w.heap.size vs1 (planSR cur planSB l) f1 ∧ f1.Nodup ∧ (planSR cur planSB l).map D0.code = [.str, .bool, .ints] ∧ tcnts (planSR cur planSB l) ≤ 1000000000 ∧ (∀ k ∈ f0, k ∉ f1) ∧ Ext w w' := by
  have hz := h.1; have hcap := h.2.1; have hcm := h.2.2.1
  refine spec_PlanSums_ret ?_
  unfold spec_PlanSums
  intro r w1 hn1 r1 w2 hn2
  have e1 := hn1.r_eq; have e2 := hn2.r_eq; have s1 := hn1.size; have s2 := hn2.size
  have X2 := hn1.ext.trans hn2.ext
  have K0 := hn1.blk.ext hn2.ext; have K1 := hn2.blk
  have zero : ∀ W, Ext w2 W → planSOk cur l = false → ∃ wv_19, Stores P T_impl_Money ⟨r, 0, none⟩ (.agg #[(.string ByteArray.empty), (.bool false), (.slice none 0 0)]) W wv_19 ∧
      ∃ wv_20, Stores P T_impl_Money ⟨r1, 0, none⟩ (.agg #[(.string ByteArray.empty), (.bool false), (.slice none 0 0)]) wv_19 wv_20 ∧
      ∃ (r0_2 : ByteArray) (r1_2 : Bool) (r2_p_2 : Option Addr) (r2_n_2 : Nat) (r2_c_2 : Nat), Loads P T_impl_Money ⟨r, 0, none⟩ (.agg #[(.string r0_2), (.bool r1_2), (.slice r2_p_2 r2_n_2 r2_c_2)]) wv_20 ∧ ∃ (r0_3 : ByteArray) (r1_3 : Bool) (r2_p_3 : Option Addr) (r2_n_3 : Nat) (r2_c_3 : Nat), Loads P T_impl_Money ⟨r1, 0, none⟩ (.agg #[(.string r0_3), (.bool r1_3), (.slice r2_p_3 r2_n_3 r2_c_3)]) wv_20 ∧ (fun (v : Value) (w' : World) => ∃ vs0 f0 vs1 f1, v = .tuple #[.agg ⟨vs0⟩, .agg ⟨vs1⟩, .bool (planSOk cur l)] ∧ Owns w' w.heap.size vs0 (planSR cur planSA l) f0 ∧ f0.Nodup ∧ (planSR cur planSA l).map D0.code = [.str, .bool, .ints] ∧ tcnts (planSR cur planSA l) ≤ 1000000000 ∧ Owns w' w.heap.size vs1 (planSR cur planSB l) f1 ∧ f1.Nodup ∧ (planSR cur planSB l).map D0.code = [.str, .bool, .ints] ∧ tcnts (planSR cur planSB l) ≤ 1000000000 ∧ (∀ k ∈ f0, k ∉ f1) ∧ Ext w w') (.tuple #[(.agg #[(.string r0_2), (.bool r1_2), (.slice r2_p_2 r2_n_2 r2_c_2)]), (.agg #[(.string r0_3), (.bool r1_3), (.slice r2_p_3 r2_n_3 r2_c_3)]), (.bool false)]) wv_20 := by
    intro W hW hno
    obtain ⟨w6, st6, hb6, ch6, sz6⟩ := (K0.ext hW).storeA0 (P := P) (t := T_impl_Money) (xs := [.string ByteArray.empty, .bool false, .slice none 0 0]) (by kernel_rfl) rfl (by simp [Value.oneCell'])
    obtain ⟨w7, st7, hb7, ch7, sz7⟩ := ((K1.ext hW).chg ch6 (by simp; omega)).storeA0 (P := P) (t := T_impl_Money) (xs := [.string ByteArray.empty, .bool false, .slice none 0 0]) (by kernel_rfl) rfl (by simp [Value.oneCell'])
    have z : ∀ f, planSR cur f l = zeroMoney := fun f => by unfold planSR; rw [hno]; rfl
    have oz : Owns w7 w.heap.size [.string ByteArray.empty, .bool false, .slice none 0 0] zeroMoney [] := Owns.append (Owns.str _ _ _) (Owns.append (Owns.bool _ _ false) (Owns.ints (zs := []) (Own.nil w7 w.heap.size T_int 1)))
    refine ⟨w6, st6, w7, st7, _, _, _, _, _, (hb6.chg ch7 (by simp; omega)).loadA0 (by kernel_rfl), _, _, _, _, _, hb7.loadA0 (by kernel_rfl), [.string ByteArray.empty, .bool false, .slice none 0 0], [], [.string ByteArray.empty, .bool false, .slice none 0 0], [], by rw [hno], by rw [z]; exact oz, List.nodup_nil, planSR_code _ _ _, planSR_cnt (by omega), by rw [z]; exact oz, List.nodup_nil, planSR_code _ _ _, planSR_cnt (by omega), by simp, ((X2.trans hW).chg ch6 (by simp; omega)).chg ch7 (by simp; omega)⟩
  intro r2 w3 hn3 r3 w4 hn4
  have e3 := hn3.r_eq; have e4 := hn4.r_eq; have s3 := hn3.size; have s4 := hn4.size
  refine ⟨fun ap an ac bp bn bc i wr => ∃ (css dss : List (List Value)), i = an ∧ an ≤ n ∧ bn = an ∧ Ext w2 wr ∧ Own wr w2.heap.size T_impl_Money 3 ap an ac css.flatten ∧ Own wr w2.heap.size T_impl_Money 3 bp an bc dss.flatten ∧ (∀ q, ap.map (·.block) = some q → bp.map (·.block) ≠ some q) ∧ AllR w 3 css ((l.take an).map planSA) ∧ AllR w 3 dss ((l.take an).map planSB), fun _ _ _ _ _ _ i _ => n - i.toNat,
    ⟨[], [], rfl, by omega, rfl, hn3.ext.trans hn4.ext, Own.of_blk0 (hn3.blk.ext hn4.ext) (by omega) (by simp) (by decide), Own.of_blk0 hn4.blk (by omega) (by simp) (by decide), fun q h1 h2 => by simp at h1 h2; omega, trivial, trivial⟩, ?_⟩
  intro junk wr ap an ac bp bn bc i ⟨css, dss, hi, hle, hbn, hx, hoa, hob, hdis, hra, hrb⟩
  subst hi; subst hbn
  have lx := hx.le
  refine ifD (fun hlt => ?_) (fun hge => ?_)
  · have hjl : bn < l.length := by omega
    obtain ⟨b, off, hpp, hs⟩ := h.2.2.2 (by omega)
    subst hpp
    obtain ⟨cs, hk, hr, hsg⟩ := hs bn _ (List.getElem?_eq_getElem hjl)
    have hcode := hc _ (List.getElem_mem hjl)
    have hrr := hr
    obtain ⟨a0, a1, a2p, a2n, a2c, a2z, a3, a4, a5p, a5n, a5c, a5z, a6, a7, a8p, a8n, a8c, a8z, rfl, hd, ir2, ir5, ir8⟩ := open_Row hr hcode
    have hl : Loads P T_impl_Row (((⟨b, off, none⟩ : Addr)).add (((bn : Nat) : Int).toNat * 9)) (.agg ⟨[.string a0, .bool a1, .slice a2p a2n a2c, .string a3, .bool a4, .slice a5p a5n a5c, .string a6, .bool a7, .slice a8p a8n a8c]⟩) wr := by
      rw [Int.toNat_natCast, addr_add]; exact loadsA (by kernel_rfl) (hsg.ext (X2.trans hx))
    have sa := planS_snoc (f := planSA) hjl; have sb := planS_snoc (f := planSB) hjl
    rw [hd] at sa sb
    refine ⟨⟨by omega, by omega⟩, _, _, _, _, _, _, _, _, _, _, _, _, _, _, _, hl, ?_⟩
    intro r4 w5 hn5
    obtain ⟨w6, st6, hb6, y6⟩ := hn5.fill (P := P) (t := T_impl_Row) hrr.cells1 (by kernel_rfl) rfl
    refine ⟨w6, st6, _, _, _, _, _, hb6.loadAAt 0 [.string a0, .bool a1, .slice a2p a2n a2c] rfl (by kernel_rfl) rfl, ?_⟩
    intro r5 w7 hn7
    have l6 := y6.le; have l7 := hn7.ext.le; have e7 := hn7.r_eq
    have y7 := y6.trans hn7.ext
    obtain ⟨p8, c8, w8, a8, o8, ch8, d8⟩ := (hoa.ext y7).push1 (P := P) planS_sliceT (by omega) hn7.blk rfl (by simp [Value.oneCell']) (by omega) (by omega)
    have pa : ∀ q ∈ (ap.map (·.block)).toList, w2.heap.size ≤ q ∧ q < wr.heap.size := fun q hq => World.ownsRow.lt hoa q (by cases ap <;> simp_all [Value.ownBlock])
    have pb : ∀ q, bp.map (·.block) = some q → w2.heap.size ≤ q ∧ q < wr.heap.size := fun q hq => World.ownsRow.lt hob q (by rw [← hq]; cases bp <;> rfl)
    have hob8 := (hob.ext y7).chg ch8 (fun q hq hm => hdis q (opt_mem hm) hq)
    have x8 : Ext w2 w8 := (hx.trans y7).chg ch8 fun q hq => (pa q hq).1
    have l8 := ch8.size
    have e5 := hn5.r_eq
    have hb8 := (hb6.ext hn7.ext).chg ch8 (fun hm => by have := (pa _ hm).2; omega)
    refine ⟨_, _, _, _, a8, _, _, _, _, _, hb8.loadAAt 3 [.string a3, .bool a4, .slice a5p a5n a5c] rfl (by kernel_rfl) rfl, ?_⟩
    intro r6 w9 hn9
    have l9 := hn9.ext.le; have e9 := hn9.r_eq; have s9 := hn9.size
    obtain ⟨p10, c10, w10, a10, o10, ch10, d10⟩ := (hob8.ext hn9.ext).push1 (P := P) planS_sliceT (by omega) hn9.blk rfl (by simp [Value.oneCell']) (by omega) (by omega)
    have pbl : ∀ q ∈ (bp.map (·.block)).toList, w2.heap.size ≤ q ∧ q < wr.heap.size := fun q hq => pb q (opt_mem hq)
    have hd8 : ∀ q, p8.map (·.block) = some q → bp.map (·.block) ≠ some q := fun q hq hb => by
      rcases d8 with d8 | d8
      · exact hdis q (d8 ▸ hq) hb
      · have := d8 q hq; have := (pb q hb).2; omega
    have p8lt : ∀ q, p8.map (·.block) = some q → q < w8.heap.size := fun q hq => (World.ownsRow.lt o8 q (by rw [← hq]; cases p8 <;> rfl)).2
    have o8' := (o8.ext hn9.ext).chg ch10 (fun q hq hm => hd8 q hq (opt_mem hm))
    have x10 : Ext w2 w10 := (x8.trans hn9.ext).chg ch10 fun q hq => (pbl q hq).1
    refine ⟨_, _, _, _, a10, exW ⟨by omega, by omega⟩ ⟨⟨css ++ [[.string a0, .bool a1, .slice a2p a2n a2c]], dss ++ [[.string a3, .bool a4, .slice a5p a5n a5c]], by omega, by omega, rfl, x10, by simpa using o8', by simpa using o10, fun q hq hb => ?_, ?_, ?_⟩, ?_⟩⟩
    · rcases d10 with d10 | d10
      · exact hd8 q hq (d10 ▸ hb)
      · have := d10 q hb; have := p8lt q hq; omega
    · rw [sa]
      refine AllR.snoc (k := 3) rfl ?_ hra; exact ⟨rfl, rfl, ⟨_, _, _, rfl, ir2⟩, trivial⟩
    · rw [sb]
      refine AllR.snoc (k := 3) rfl ?_ hrb; exact ⟨rfl, rfl, ⟨_, _, _, rfl, ir5⟩, trivial⟩
    · show n - ((bn : Int) + 1).toNat < n - (bn : Int).toNat
      omega
  · have hjn : bn = n := by omega
    rw [List.take_of_length_le (by omega)] at hra hrb
    have Xr := X2.trans hx
    have rowsA := rows_of_own hoa (hra.ext Xr) (by simp; omega)
    have rowsB := rows_of_own hob (hrb.ext Xr) (by simp; omega)
    refine Ret.at (spec_MoneySum_c cur rowsA (planSA_code hc) (by omega)) ?_
    rintro v w5 ⟨vs5, f5, hv, ho5, hnd5, y5⟩
    subst hv
    have ho5' := ho5
    obtain ⟨d0, d1, dp, dn, dc, dz, rfl, _, _⟩ := open_Money ho5.reps (moneySum_code _ _)
    refine ⟨_, _, _, _, _, _, rfl, ?_⟩
    intro r7 w6 hn6
    obtain ⟨w7, st7, hb7, y7⟩ := hn6.fill (P := P) (t := T_impl_Money) (xs := [.string d0, .bool d1, .slice dp dn dc]) (by simp [Value.oneCell']) (by kernel_rfl) rfl
    have e6 := hn6.r_eq
    have Y7 := y5.trans y7
    refine ⟨w7, st7, ?_⟩
    refine Ret.at (spec_MoneySum_c cur (rowsB.ext Y7) (planSB_code hc) (by omega)) ?_
    rintro v w8 ⟨vs8, f8, hv, ho8, hnd8, y8⟩
    subst hv
    have ho8' := ho8
    obtain ⟨g0, g1, gp, gn, gc, gz, rfl, _, _⟩ := open_Money ho8.reps (moneySum_code _ _)
    refine ⟨_, _, _, _, _, _, rfl, ?_⟩
    intro r8 w9 hn9
    have e9 := hn9.r_eq
    obtain ⟨w10, st10, hb10, y10⟩ := hn9.fill (P := P) (t := T_impl_Money) (xs := [.string g0, .bool g1, .slice gp gn gc]) (by simp [Value.oneCell']) (by kernel_rfl) rfl
    have Y10 := (hx.trans Y7).trans (y8.trans y10)
    have l5 := y5.le; have l7 := y7.le; have l8 := y8.le; have l10 := y10.le; have l6 := hn6.ext.le; have l9 := hn9.ext.le
    refine ⟨w10, st10, ifN (fun hno => ifT (zero _ Y10 (by unfold planSOk; rw [hno]; simp))) (fun h1 => ifN (fun hno => zero _ Y10 (by unfold planSOk; rw [hno]; simp)) (fun h2 => ?_))⟩
    have hok : planSOk cur l = true := by unfold planSOk; rw [h1, h2]; simp
    have hR : ∀ f, planSR cur f l = moneySum cur (l.map f) := fun f => by unfold planSR; rw [hok]; rfl
    have D := Ext.drew w10
    have lD := D.le
    have k7 := ((hb7.ext y8).ext y10).ext D
    have k8 := hb10.ext D
    obtain ⟨w11, st11, hb11, ch11, sz11⟩ := ((K0.ext Y10).ext D).storeA0 (P := P) (t := T_impl_Money) (xs := [.string d0, .bool d1, .slice dp dn dc]) (by kernel_rfl) rfl (by simp [Value.oneCell'])
    obtain ⟨w12, st12, hb12, ch12, sz12⟩ := (((K1.ext Y10).ext D).chg ch11 (by simp; omega)).storeA0 (P := P) (t := T_impl_Money) (xs := [.string g0, .bool g1, .slice gp gn gc]) (by kernel_rfl) rfl (by simp [Value.oneCell'])
    have o5 := ((((ho5'.ext (y7.trans (y8.trans y10))).ext D).chg1 ch11 (by omega)).chg1 ch12 (by omega)).mono (B' := w.heap.size) (by omega)
    have o8 := ((((ho8'.ext y10).ext D).chg1 ch11 (by omega)).chg1 ch12 (by omega)).mono (B' := w.heap.size) (by omega)
    refine ⟨[r], _, _, _, _, _, fun W hW => (k7.chg (show Chg [r] w10.drew W from hW) (by simp; omega)).loadA0 (by kernel_rfl), _, _, _, _, _, fun W hW => (k8.chg (show Chg [r] w10.drew W from hW) (by simp; omega)).loadA0 (by kernel_rfl), w11, st11, show Chg [r] w10.drew w11 from ch11, w12, st12, _, _, _, _, _, (hb11.chg ch12 (by simp; omega)).loadA0 (by kernel_rfl), _, _, _, _, _, hb12.loadA0 (by kernel_rfl), [.string d0, .bool d1, .slice dp dn dc], f5, [.string g0, .bool g1, .slice gp gn gc], f8, by rw [hok], by rw [hR]; exact o5, hnd5, planSR_code _ _ _, planSR_cnt (by omega), by rw [hR]; exact o8, hnd8, planSR_code _ _ _, planSR_cnt (by omega), fun k hk hm => ?_, (((X2.trans Y10).trans D).chg ch11 (by simp; omega)).chg ch12 (by simp; omega)⟩
    have h3 := (ho5'.lt k hk).2; have h4 := (ho8'.lt k hm).1
    omega

theorem spec_PlanSums_c {w : World} (cur : ByteArray) {p : Option Addr} {n c : Nat} {l : List (List D0)} (h : RowsR w 9 p n c l) (hc : ∀ x ∈ l, x.map D0.code = [.str, .bool, .ints, .str, .bool, .ints, .str, .bool, .ints]) (hn : n ≤ 1048576) (hbb : ∀ x ∈ l, bulks x ≤ 1048576) :
    Ret P n_spec_PlanSums [.string cur, .slice p n c] w fun v w' => ∃ vs0 vs1, v = .tuple #[.agg ⟨vs0⟩, .agg ⟨vs1⟩, .bool (planSOk cur l)] ∧ Reps w' vs0 (planSR cur planSA l) ∧ (planSR cur planSA l).map D0.code = [.str, .bool, .ints] ∧ Reps w' vs1 (planSR cur planSB l) ∧ (planSR cur planSB l).map D0.code = [.str, .bool, .ints] ∧ Ext w w' :=
  (spec_PlanSums_o cur h hc hn hbb).mono fun v w' ⟨vs0, f0, vs1, f1, hv, o0, _, c0, _, o1, _, c1, _, _, hx⟩ => ⟨vs0, vs1, hv, o0.reps, c0, o1.reps, c1, hx⟩

theorem impl_PlanSums_c {w : World} (cur : ByteArray) {p : Option Addr} {n c : Nat} {l : List (List D0)} (h : RowsR w 9 p n c l) (hc : ∀ x ∈ l, x.map D0.code = [.str, .bool, .ints, .str, .bool, .ints, .str, .bool, .ints]) (hn : n ≤ 1048576) (hbb : ∀ x ∈ l, bulks x ≤ 1048576) (ht : Tab w) :
    Ret P n_impl_PlanSums [.string cur, .slice p n c] w fun v w' => ∃ vs0 f0 vs1 f1, v = .tuple #[.agg ⟨vs0⟩, .agg ⟨vs1⟩, .bool (planSOk cur l)] ∧ Owns w' w.heap.size vs0 (planSR cur planSA l) f0 ∧ f0.Nodup ∧ (planSR cur planSA l).map D0.code = [.str, .bool, .ints] ∧ tcnts (planSR cur planSA l) ≤ 1000000000 ∧ Owns w' w.heap.size vs1 (planSR cur planSB l) f1 ∧ f1.Nodup ∧ (planSR cur planSB l).map D0.code = [.str, .bool, .ints] ∧ tcnts (planSR cur planSB l) ≤ 1000000000 ∧ (∀ k ∈ f0, k ∉ f1) ∧ Ext w w' := by
  have hz := h.1; have hcap := h.2.1; have hcm := h.2.2.1
  refine impl_PlanSums_ret ?_
  unfold impl_PlanSums
  intro r w1 hn1 r1 w2 hn2
  have e1 := hn1.r_eq; have e2 := hn2.r_eq; have s1 := hn1.size; have s2 := hn2.size
  have X2 := hn1.ext.trans hn2.ext
  have K0 := hn1.blk.ext hn2.ext; have K1 := hn2.blk
  have zero : ∀ W, Ext w2 W → planSOk cur l = false → ∃ wv_19, Stores P T_impl_Money ⟨r, 0, none⟩ (.agg #[(.string ByteArray.empty), (.bool false), (.slice none 0 0)]) W wv_19 ∧
      ∃ wv_20, Stores P T_impl_Money ⟨r1, 0, none⟩ (.agg #[(.string ByteArray.empty), (.bool false), (.slice none 0 0)]) wv_19 wv_20 ∧
      ∃ (r0_2 : ByteArray) (r1_2 : Bool) (r2_p_2 : Option Addr) (r2_n_2 : Nat) (r2_c_2 : Nat), Loads P T_impl_Money ⟨r, 0, none⟩ (.agg #[(.string r0_2), (.bool r1_2), (.slice r2_p_2 r2_n_2 r2_c_2)]) wv_20 ∧ ∃ (r0_3 : ByteArray) (r1_3 : Bool) (r2_p_3 : Option Addr) (r2_n_3 : Nat) (r2_c_3 : Nat), Loads P T_impl_Money ⟨r1, 0, none⟩ (.agg #[(.string r0_3), (.bool r1_3), (.slice r2_p_3 r2_n_3 r2_c_3)]) wv_20 ∧ (fun (v : Value) (w' : World) => ∃ vs0 f0 vs1 f1, v = .tuple #[.agg ⟨vs0⟩, .agg ⟨vs1⟩, .bool (planSOk cur l)] ∧ Owns w' w.heap.size vs0 (planSR cur planSA l) f0 ∧ f0.Nodup ∧ (planSR cur planSA l).map D0.code = [.str, .bool, .ints] ∧ tcnts (planSR cur planSA l) ≤ 1000000000 ∧ Owns w' w.heap.size vs1 (planSR cur planSB l) f1 ∧ f1.Nodup ∧ (planSR cur planSB l).map D0.code = [.str, .bool, .ints] ∧ tcnts (planSR cur planSB l) ≤ 1000000000 ∧ (∀ k ∈ f0, k ∉ f1) ∧ Ext w w') (.tuple #[(.agg #[(.string r0_2), (.bool r1_2), (.slice r2_p_2 r2_n_2 r2_c_2)]), (.agg #[(.string r0_3), (.bool r1_3), (.slice r2_p_3 r2_n_3 r2_c_3)]), (.bool false)]) wv_20 := by
    intro W hW hno
    obtain ⟨w6, st6, hb6, ch6, sz6⟩ := (K0.ext hW).storeA0 (P := P) (t := T_impl_Money) (xs := [.string ByteArray.empty, .bool false, .slice none 0 0]) (by kernel_rfl) rfl (by simp [Value.oneCell'])
    obtain ⟨w7, st7, hb7, ch7, sz7⟩ := ((K1.ext hW).chg ch6 (by simp; omega)).storeA0 (P := P) (t := T_impl_Money) (xs := [.string ByteArray.empty, .bool false, .slice none 0 0]) (by kernel_rfl) rfl (by simp [Value.oneCell'])
    have z : ∀ f, planSR cur f l = zeroMoney := fun f => by unfold planSR; rw [hno]; rfl
    have oz : Owns w7 w.heap.size [.string ByteArray.empty, .bool false, .slice none 0 0] zeroMoney [] := Owns.append (Owns.str _ _ _) (Owns.append (Owns.bool _ _ false) (Owns.ints (zs := []) (Own.nil w7 w.heap.size T_int 1)))
    refine ⟨w6, st6, w7, st7, _, _, _, _, _, (hb6.chg ch7 (by simp; omega)).loadA0 (by kernel_rfl), _, _, _, _, _, hb7.loadA0 (by kernel_rfl), [.string ByteArray.empty, .bool false, .slice none 0 0], [], [.string ByteArray.empty, .bool false, .slice none 0 0], [], by rw [hno], by rw [z]; exact oz, List.nodup_nil, planSR_code _ _ _, planSR_cnt (by omega), by rw [z]; exact oz, List.nodup_nil, planSR_code _ _ _, planSR_cnt (by omega), by simp, ((X2.trans hW).chg ch6 (by simp; omega)).chg ch7 (by simp; omega)⟩
  intro r2 w3 hn3 r3 w4 hn4
  have e3 := hn3.r_eq; have e4 := hn4.r_eq; have s3 := hn3.size; have s4 := hn4.size
  refine ⟨fun ap an ac bp bn bc i wr => ∃ (css dss : List (List Value)), i = an ∧ an ≤ n ∧ bn = an ∧ Ext w2 wr ∧ Own wr w2.heap.size T_impl_Money 3 ap an ac css.flatten ∧ Own wr w2.heap.size T_impl_Money 3 bp an bc dss.flatten ∧ (∀ q, ap.map (·.block) = some q → bp.map (·.block) ≠ some q) ∧ AllR w 3 css ((l.take an).map planSA) ∧ AllR w 3 dss ((l.take an).map planSB), fun _ _ _ _ _ _ i _ => n - i.toNat,
    ⟨[], [], rfl, by omega, rfl, hn3.ext.trans hn4.ext, Own.of_blk0 (hn3.blk.ext hn4.ext) (by omega) (by simp) (by decide), Own.of_blk0 hn4.blk (by omega) (by simp) (by decide), fun q h1 h2 => by simp at h1 h2; omega, trivial, trivial⟩, ?_⟩
  intro junk wr ap an ac bp bn bc i ⟨css, dss, hi, hle, hbn, hx, hoa, hob, hdis, hra, hrb⟩
  subst hi; subst hbn
  have lx := hx.le
  refine ifD (fun hlt => ?_) (fun hge => ?_)
  · have hjl : bn < l.length := by omega
    obtain ⟨b, off, hpp, hs⟩ := h.2.2.2 (by omega)
    subst hpp
    obtain ⟨cs, hk, hr, hsg⟩ := hs bn _ (List.getElem?_eq_getElem hjl)
    have hcode := hc _ (List.getElem_mem hjl)
    have hrr := hr
    obtain ⟨a0, a1, a2p, a2n, a2c, a2z, a3, a4, a5p, a5n, a5c, a5z, a6, a7, a8p, a8n, a8c, a8z, rfl, hd, ir2, ir5, ir8⟩ := open_Row hr hcode
    have hl : Loads P T_impl_Row (((⟨b, off, none⟩ : Addr)).add (((bn : Nat) : Int).toNat * 9)) (.agg ⟨[.string a0, .bool a1, .slice a2p a2n a2c, .string a3, .bool a4, .slice a5p a5n a5c, .string a6, .bool a7, .slice a8p a8n a8c]⟩) wr := by
      rw [Int.toNat_natCast, addr_add]; exact loadsA (by kernel_rfl) (hsg.ext (X2.trans hx))
    have sa := planS_snoc (f := planSA) hjl; have sb := planS_snoc (f := planSB) hjl
    rw [hd] at sa sb
    refine ⟨⟨by omega, by omega⟩, _, _, _, _, _, _, _, _, _, _, _, _, _, _, _, hl, ?_⟩
    intro r4 w5 hn5
    obtain ⟨w6, st6, hb6, y6⟩ := hn5.fill (P := P) (t := T_impl_Row) hrr.cells1 (by kernel_rfl) rfl
    refine ⟨w6, st6, _, _, _, _, _, hb6.loadAAt 0 [.string a0, .bool a1, .slice a2p a2n a2c] rfl (by kernel_rfl) rfl, ?_⟩
    intro r5 w7 hn7
    have l6 := y6.le; have l7 := hn7.ext.le; have e7 := hn7.r_eq
    have y7 := y6.trans hn7.ext
    obtain ⟨p8, c8, w8, a8, o8, ch8, d8⟩ := (hoa.ext y7).push1 (P := P) planS_sliceT (by omega) hn7.blk rfl (by simp [Value.oneCell']) (by omega) (by omega)
    have pa : ∀ q ∈ (ap.map (·.block)).toList, w2.heap.size ≤ q ∧ q < wr.heap.size := fun q hq => World.ownsRow.lt hoa q (by cases ap <;> simp_all [Value.ownBlock])
    have pb : ∀ q, bp.map (·.block) = some q → w2.heap.size ≤ q ∧ q < wr.heap.size := fun q hq => World.ownsRow.lt hob q (by rw [← hq]; cases bp <;> rfl)
    have hob8 := (hob.ext y7).chg ch8 (fun q hq hm => hdis q (opt_mem hm) hq)
    have x8 : Ext w2 w8 := (hx.trans y7).chg ch8 fun q hq => (pa q hq).1
    have l8 := ch8.size
    have e5 := hn5.r_eq
    have hb8 := (hb6.ext hn7.ext).chg ch8 (fun hm => by have := (pa _ hm).2; omega)
    refine ⟨_, _, _, _, a8, _, _, _, _, _, hb8.loadAAt 3 [.string a3, .bool a4, .slice a5p a5n a5c] rfl (by kernel_rfl) rfl, ?_⟩
    intro r6 w9 hn9
    have l9 := hn9.ext.le; have e9 := hn9.r_eq; have s9 := hn9.size
    obtain ⟨p10, c10, w10, a10, o10, ch10, d10⟩ := (hob8.ext hn9.ext).push1 (P := P) planS_sliceT (by omega) hn9.blk rfl (by simp [Value.oneCell']) (by omega) (by omega)
    have pbl : ∀ q ∈ (bp.map (·.block)).toList, w2.heap.size ≤ q ∧ q < wr.heap.size := fun q hq => pb q (opt_mem hq)
    have hd8 : ∀ q, p8.map (·.block) = some q → bp.map (·.block) ≠ some q := fun q hq hb => by
      rcases d8 with d8 | d8
      · exact hdis q (d8 ▸ hq) hb
      · have := d8 q hq; have := (pb q hb).2; omega
    have p8lt : ∀ q, p8.map (·.block) = some q → q < w8.heap.size := fun q hq => (World.ownsRow.lt o8 q (by rw [← hq]; cases p8 <;> rfl)).2
    have o8' := (o8.ext hn9.ext).chg ch10 (fun q hq hm => hd8 q hq (opt_mem hm))
    have x10 : Ext w2 w10 := (x8.trans hn9.ext).chg ch10 fun q hq => (pbl q hq).1
    refine ⟨_, _, _, _, a10, exW ⟨by omega, by omega⟩ ⟨⟨css ++ [[.string a0, .bool a1, .slice a2p a2n a2c]], dss ++ [[.string a3, .bool a4, .slice a5p a5n a5c]], by omega, by omega, rfl, x10, by simpa using o8', by simpa using o10, fun q hq hb => ?_, ?_, ?_⟩, ?_⟩⟩
    · rcases d10 with d10 | d10
      · exact hd8 q hq (d10 ▸ hb)
      · have := d10 q hb; have := p8lt q hq; omega
    · rw [sa]
      refine AllR.snoc (k := 3) rfl ?_ hra; exact ⟨rfl, rfl, ⟨_, _, _, rfl, ir2⟩, trivial⟩
    · rw [sb]
      refine AllR.snoc (k := 3) rfl ?_ hrb; exact ⟨rfl, rfl, ⟨_, _, _, rfl, ir5⟩, trivial⟩
    · show n - ((bn : Int) + 1).toNat < n - (bn : Int).toNat
      omega
  · have hjn : bn = n := by omega
    rw [List.take_of_length_le (by omega)] at hra hrb
    have Xr := X2.trans hx
    have rowsA := rows_of_own hoa (hra.ext Xr) (by simp; omega)
    have rowsB := rows_of_own hob (hrb.ext Xr) (by simp; omega)
    refine Ret.at (impl_MoneySum_c cur rowsA (planSA_code hc) (by omega) (ht.ext Xr)) ?_
    rintro v w5 ⟨vs5, f5, hv, ho5, hnd5, y5⟩
    subst hv
    have ho5' := ho5
    obtain ⟨d0, d1, dp, dn, dc, dz, rfl, _, _⟩ := open_Money ho5.reps (moneySum_code _ _)
    refine ⟨_, _, _, _, _, _, rfl, ?_⟩
    intro r7 w6 hn6
    obtain ⟨w7, st7, hb7, y7⟩ := hn6.fill (P := P) (t := T_impl_Money) (xs := [.string d0, .bool d1, .slice dp dn dc]) (by simp [Value.oneCell']) (by kernel_rfl) rfl
    have e6 := hn6.r_eq
    have Y7 := y5.trans y7
    refine ⟨w7, st7, ?_⟩
    refine Ret.at (impl_MoneySum_c cur (rowsB.ext Y7) (planSB_code hc) (by omega) (ht.ext (Xr.trans Y7))) ?_
    rintro v w8 ⟨vs8, f8, hv, ho8, hnd8, y8⟩
    subst hv
    have ho8' := ho8
    obtain ⟨g0, g1, gp, gn, gc, gz, rfl, _, _⟩ := open_Money ho8.reps (moneySum_code _ _)
    refine ⟨_, _, _, _, _, _, rfl, ?_⟩
    intro r8 w9 hn9
    have e9 := hn9.r_eq
    obtain ⟨w10, st10, hb10, y10⟩ := hn9.fill (P := P) (t := T_impl_Money) (xs := [.string g0, .bool g1, .slice gp gn gc]) (by simp [Value.oneCell']) (by kernel_rfl) rfl
    have Y10 := (hx.trans Y7).trans (y8.trans y10)
    have l5 := y5.le; have l7 := y7.le; have l8 := y8.le; have l10 := y10.le; have l6 := hn6.ext.le; have l9 := hn9.ext.le
    refine ⟨w10, st10, ifN (fun hno => ifT (zero _ Y10 (by unfold planSOk; rw [hno]; simp))) (fun h1 => ifN (fun hno => zero _ Y10 (by unfold planSOk; rw [hno]; simp)) (fun h2 => ?_))⟩
    have hok : planSOk cur l = true := by unfold planSOk; rw [h1, h2]; simp
    have hR : ∀ f, planSR cur f l = moneySum cur (l.map f) := fun f => by unfold planSR; rw [hok]; rfl
    have D := Ext.drew w10
    have lD := D.le
    have k7 := ((hb7.ext y8).ext y10).ext D
    have k8 := hb10.ext D
    obtain ⟨w11, st11, hb11, ch11, sz11⟩ := ((K0.ext Y10).ext D).storeA0 (P := P) (t := T_impl_Money) (xs := [.string d0, .bool d1, .slice dp dn dc]) (by kernel_rfl) rfl (by simp [Value.oneCell'])
    obtain ⟨w12, st12, hb12, ch12, sz12⟩ := (((K1.ext Y10).ext D).chg ch11 (by simp; omega)).storeA0 (P := P) (t := T_impl_Money) (xs := [.string g0, .bool g1, .slice gp gn gc]) (by kernel_rfl) rfl (by simp [Value.oneCell'])
    have o5 := ((((ho5'.ext (y7.trans (y8.trans y10))).ext D).chg1 ch11 (by omega)).chg1 ch12 (by omega)).mono (B' := w.heap.size) (by omega)
    have o8 := ((((ho8'.ext y10).ext D).chg1 ch11 (by omega)).chg1 ch12 (by omega)).mono (B' := w.heap.size) (by omega)
    refine ⟨[r], _, _, _, _, _, fun W hW => (k7.chg (show Chg [r] w10.drew W from hW) (by simp; omega)).loadA0 (by kernel_rfl), _, _, _, _, _, fun W hW => (k8.chg (show Chg [r] w10.drew W from hW) (by simp; omega)).loadA0 (by kernel_rfl), w11, st11, show Chg [r] w10.drew w11 from ch11, w12, st12, _, _, _, _, _, (hb11.chg ch12 (by simp; omega)).loadA0 (by kernel_rfl), _, _, _, _, _, hb12.loadA0 (by kernel_rfl), [.string d0, .bool d1, .slice dp dn dc], f5, [.string g0, .bool g1, .slice gp gn gc], f8, by rw [hok], by rw [hR]; exact o5, hnd5, planSR_code _ _ _, planSR_cnt (by omega), by rw [hR]; exact o8, hnd8, planSR_code _ _ _, planSR_cnt (by omega), fun k hk hm => ?_, (((X2.trans Y10).trans D).chg ch11 (by simp; omega)).chg ch12 (by simp; omega)⟩
    have h3 := (ho5'.lt k hk).2; have h4 := (ho8'.lt k hm).1
    omega

end Go.Proofs.YtfbmjimhjlmhkaaDoor
