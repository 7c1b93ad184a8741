/-
  Contracts: sums of lists of integers; Flat, in the program and in the reference.
-/
import Derived.Test.YtoacnglkliioaaaCSpecInt
namespace Go.Proofs.Ytoacnglkliioaaa
open Go Go.Proofs.Ytoacnglkliioaaa.Sx
set_option linter.unusedVariables false
set_option linter.unusedSimpArgs false

def isumGo (l : List (List D0)) : List D0 := l.foldl iadd (enc 0)
def isum (l : List (List D0)) : List D0 := if l.all intOk then isumGo l else enc 0
theorem isumGo_ok : ∀ (l : List (List D0)), intOk (isumGo l) = true ∧ (isumGo l).map D0.code = [.bool, .ints] := by
  have key : ∀ (l : List (List D0)) (t : List D0), intOk t = true → t.map D0.code = [.bool, .ints] → intOk (l.foldl iadd t) = true ∧ (l.foldl iadd t).map D0.code = [.bool, .ints] := by
    intro l
    induction l with
    | nil => intro t h1 h2; exact ⟨h1, h2⟩
    | cons a r ih => intro t h1 h2; exact ih _ (iadd_ok _ _) (iadd_code _ _)
  intro l
  exact key l _ enc0_ok rfl
theorem isumGo_take (l : List (List D0)) {j : Nat} (hj : j < l.length) : isumGo (l.take (j + 1)) = iadd (isumGo (l.take j)) l[j] := by
  rw [List.take_add_one, List.getElem?_eq_getElem hj, Option.toList_some]
  unfold isumGo
  rw [List.foldl_append]; rfl
theorem isign_zero {z : List Int} {b : Bool} (h : intOk [.bool b, .ints z] = true) : (isign [.bool b, .ints z] = 0) ↔ z.length = 0 := by
  simp only [isign, h, Bool.not_true, Bool.false_eq_true, if_false]
  cases z with
  | nil => simp
  | cons a r => cases b <;> simp

def flat (l : List (List D0)) : Bool := l.all (fun x => intOk (x.drop 1)) && decide (isign (isumGo (l.map (·.drop 1))) = 0)

theorem spec_Flat_c {w : World} {p : Option Addr} {n c : Nat} {l : List (List D0)} (h : RowsR w 3 p n c l) (hc : ∀ x ∈ l, x.map D0.code = [.str, .bool, .ints]) (hz : n ≤ 1048576) (hb : ∀ x ∈ l, bulks x ≤ 1048576) :
    Ret P n_spec_Flat [.slice p n c] w fun v w' => v = .bool (flat l) ∧ Ext w w' := by
  refine spec_Flat_ret ?_
  unfold spec_Flat
  have hlen := h.1; have hcap := h.2.1; have hcm := h.2.2.1
  intro r w1 hn1
  have e1 := hn1.r_eq; have s1 := hn1.size
  obtain ⟨w2, st, hb2, y2⟩ := hn1.fill (P := P) (t := T_impl_Signed) (xs := [.bool false, .slice none 0 0]) (by simp [Value.oneCell']) (by kernel_rfl) rfl
  have ow0 : Owns w2 w1.heap.size [.bool false, .slice none 0 0] (enc 0) [] := by
    rw [enc0]; exact Owns.int2 (z := []) (Own.nil w2 _ T_int 1 : Own w2 w1.heap.size T_int 1 none 0 0 (([] : List Int).map (Value.int .i64)))
  refine ⟨w2, st, fun i wr => ∃ (j : Nat) (cs : List Value) (f : List Nat), i = j ∧ j ≤ n ∧ Ext w wr ∧ w1.heap.size ≤ wr.heap.size ∧ Blk wr r T_impl_Signed cs ∧ Owns wr w1.heap.size cs (isumGo ((l.map (·.drop 1)).take j)) f ∧ ∀ k (hk : k < l.length), k < j → intOk (l[k].drop 1) = true, fun i _ => n - i.toNat,
    ⟨0, _, _, rfl, by omega, y2, by have := hb2.lt; omega, hb2, ow0, fun k hk h => by omega⟩, ?_⟩
  intro junk wr i ⟨j, cs, f, hij, hj, hx, hsz, hblk, how, hall⟩
  subst hij
  have hcode : (isumGo ((l.map (·.drop 1)).take j)).map D0.code = [.bool, .ints] := (isumGo_ok _).2
  obtain ⟨q0, qp, qn, qc, qz, rfl, hq, hqi⟩ := open_Signed how.reps hcode
  refine ifD (fun hlt => ?_) (fun hge => ?_)
  · have hjn : j < n := by omega
    have hjl : j < l.length := by omega
    obtain ⟨a, ds, hp, hk, hr, hl⟩ := (h.ext hx).at (P := P) (t := T_impl_Pos) (by kernel_rfl) hjn
    subst hp
    have hrr := hr; have hcd := hc _ (List.getElem_mem hjl)
    obtain ⟨a0, a1, a2p, a2n, a2c, a2z, rfl, hd, ha⟩ := open_Pos hr hcd
    refine ⟨⟨by omega, by omega⟩, _, _, _, _, _, by simpa using hl, ?_⟩
    intro r2 w3 hn3
    obtain ⟨w4, st4, hb4, y4⟩ := hn3.fill (P := P) (t := T_impl_Pos) hrr.cells1 (by kernel_rfl) rfl
    have hu : l[j].drop 1 = [.bool a1, .ints a2z] := by rw [hd]; rfl
    have ru : ∀ {W}, Ext wr W → Reps W [.bool a1, .slice a2p a2n a2c] [.bool a1, .ints a2z] := fun hW => ⟨rfl, ⟨_, _, _, rfl, ha.ext hW⟩, trivial⟩
    refine ⟨w4, st4, _, _, _, _, hb4.loadAAt 1 [.bool a1, .slice a2p a2n a2c] rfl (by kernel_rfl) rfl, ?_⟩
    refine Ret.at (spec_IntOk_c (ru y4) rfl) ?_
    rintro v w5 ⟨hv, y5⟩
    subst hv
    have x5 := (hx.trans y4).trans y5
    refine ⟨_, rfl, ifN (fun hno => ⟨?_, x5⟩) (fun hok => ?_)⟩
    · have : l.all (fun x => intOk (x.drop 1)) = false := by
        rw [List.all_eq_false]
        exact ⟨_, List.getElem_mem hjl, by rw [hu]; simpa using hno⟩
      simp only [flat, this, Bool.false_and]
    · have hblk5 := (hblk.ext y4).ext y5
      refine ⟨_, _, _, _, hblk5.loadA0 (by kernel_rfl), _, _, _, _, (hb4.ext y5).loadAAt 1 [.bool a1, .slice a2p a2n a2c] rfl (by kernel_rfl) rfl, ?_⟩
      refine Ret.at (spec_IntAdd_c ((how.reps.ext y4).ext y5) (ru (y4.trans y5)) hcode rfl) ?_
      rintro v w6 ⟨vs', f', hv, ho, hnd, y6⟩
      subst hv
      obtain ⟨g0, gp, gn, gc, gz, rfl, hg, hgi⟩ := open_Signed ho.reps (iadd_code _ _)
      have l4 := y4.le; have l5 := y5.le
      have hrlt := hblk.lt
      obtain ⟨w7, st7, hb7, ch, sz⟩ := (hblk5.ext y6).storeA0 (P := P) (t := T_impl_Signed) (xs := [.bool g0, .slice gp gn gc]) (by kernel_rfl) rfl ho.reps.cells1
      refine ⟨_, _, _, _, rfl, w7, st7, exW ⟨by omega, by omega⟩ ⟨⟨j + 1, _, f', by omega, by omega, (x5.trans y6).chg ch (by simp; omega), by have := y6.le; omega, hb7, ?_, fun k hk hkj => ?_⟩, by simp; omega⟩⟩
      · rw [isumGo_take _ (by simpa using hjl)]
        have : (l.map (·.drop 1))[j]'(by simpa using hjl) = [.bool a1, .ints a2z] := by rw [List.getElem_map, hu]
        rw [this]
        exact (ho.chg1 ch (by omega)).mono (by omega)
      · by_cases e : k < j
        · exact hall k hk e
        · obtain rfl : k = j := by omega
          rw [hu]; exact hok
  · have hjn : j = n := by omega
    subst hjn
    rw [List.take_of_length_le (by simp; omega)] at hcode how
    refine ⟨_, _, _, _, hblk.loadA0 (by kernel_rfl), ?_⟩
    refine Ret.at (spec_IntSign_c how.reps hcode) ?_
    rintro v w3 ⟨hv, y3⟩
    subst hv
    refine ⟨_, rfl, ?_, hx.trans y3⟩
    have : l.all (fun x => intOk (x.drop 1)) = true := by
      rw [List.all_eq_true]
      intro x hxm
      obtain ⟨k, hk, rfl⟩ := List.getElem_of_mem hxm
      exact hall k hk (by omega)
    simp only [flat, this, Bool.true_and]

theorem impl_IntSum_c {w : World} {p : Option Addr} {n c : Nat} {l : List (List D0)} (h : RowsR w 2 p n c l) (hc : ∀ x ∈ l, x.map D0.code = [.bool, .ints]) :
    Ret P n_impl_IntSum [.slice p n c] w fun v w' => ∃ vs' f, v = .agg ⟨vs'⟩ ∧ Owns w' w.heap.size vs' (isum l) f ∧ f.Nodup ∧ Ext w w' := by
  refine impl_IntSum_ret ?_
  unfold impl_IntSum
  have hlen := h.1; have hcap := h.2.1; have hcm := h.2.2.1
  intro r0 w0 hn0 r w1 hn1
  have e0 := hn0.r_eq; have s0 := hn0.size
  have e1 := hn1.r_eq; have s1 := hn1.size
  obtain ⟨w2, st, hb2, y2⟩ := hn1.fill (P := P) (t := T_impl_Signed) (xs := [.bool false, .slice none 0 0]) (by simp [Value.oneCell']) (by kernel_rfl) rfl
  have nil0 : ∀ W B, Owns W B [.bool false, .slice none 0 0] (enc 0) [] := fun W B => by
    rw [enc0]; exact Owns.int2 (z := []) (Own.nil W _ T_int 1 : Own W B T_int 1 none 0 0 (([] : List Int).map (Value.int .i64)))
  refine ⟨w2, st, fun i wr => ∃ (j : Nat) (cs : List Value) (f : List Nat), i = j ∧ j ≤ n ∧ Ext w wr ∧ w1.heap.size ≤ wr.heap.size ∧ Blk wr r0 T_impl_Signed [.bool false, .slice none 0 0] ∧ Blk wr r T_impl_Signed cs ∧ Owns wr w1.heap.size cs (isumGo (l.take j)) f ∧ f.Nodup ∧ ∀ k (hk : k < l.length), k < j → intOk l[k] = true, fun i _ => n - i.toNat,
    ⟨0, _, _, rfl, by omega, hn0.ext.trans y2, by have := hb2.lt; omega, hn0.blk.ext y2, hb2, nil0 _ _, List.nodup_nil, fun k hk h => by omega⟩, ?_⟩
  intro junk wr i ⟨j, cs, f, hij, hj, hx, hsz, hb0, hblk, how, hnd0, hall⟩
  subst hij
  have hcode : (isumGo (l.take j)).map D0.code = [.bool, .ints] := (isumGo_ok _).2
  obtain ⟨q0, qp, qn, qc, qz, rfl, hq, hqi⟩ := open_Signed how.reps hcode
  refine ifD (fun hlt => ?_) (fun hge => ?_)
  · have hjn : j < n := by omega
    have hjl : j < l.length := by omega
    obtain ⟨a, ds, hp, hk, hr, hl⟩ := (h.ext hx).at (P := P) (t := T_impl_Signed) (by kernel_rfl) hjn
    subst hp
    have hrr := hr; have hcd := hc _ (List.getElem_mem hjl)
    obtain ⟨a1, a2p, a2n, a2c, a2z, rfl, hd, ha⟩ := open_Signed hr hcd
    refine ⟨⟨by omega, by omega⟩, _, _, _, _, by simpa using hl, ?_⟩
    intro r2 w3 hn3
    obtain ⟨w4, st4, hb4, y4⟩ := hn3.fill (P := P) (t := T_impl_Signed) hrr.cells1 (by kernel_rfl) rfl
    refine ⟨w4, st4, _, _, _, _, hb4.loadA0 (by kernel_rfl), ?_⟩
    refine Ret.at (impl_IntOk_c (hrr.ext y4) hcd) ?_
    rintro v w5 ⟨hv, y5⟩
    subst hv
    have x5 := (hx.trans y4).trans y5
    have l4 := y4.le; have l5 := y5.le
    refine ⟨_, rfl, ifN (fun hno => ?_) (fun hok => ?_)⟩
    · obtain ⟨w6, st6, hb6, ch, sz⟩ := ((hb0.ext y4).ext y5).storeA0 (P := P) (t := T_impl_Signed) (xs := [.bool false, .slice none 0 0]) (by kernel_rfl) rfl (by simp [Value.oneCell'])
      refine ⟨w6, st6, _, _, _, _, hb6.loadA0 (by kernel_rfl), _, _, rfl, ?_, List.nodup_nil, x5.chg ch (by simp; omega)⟩
      have : isum l = enc 0 := by
        have : l.all intOk = false := by
          rw [List.all_eq_false]
          exact ⟨_, List.getElem_mem hjl, by simpa using hno⟩
        simp [isum, this]
      rw [this]
      exact nil0 _ _
    · have hblk5 := (hblk.ext y4).ext y5
      refine ⟨_, _, _, _, hblk5.loadA0 (by kernel_rfl), _, _, _, _, (hb4.ext y5).loadA0 (by kernel_rfl), ?_⟩
      refine Ret.at (impl_IntAdd_c ((how.reps.ext y4).ext y5) ((hrr.ext y4).ext y5) hcode hcd) ?_
      rintro v w6 ⟨vs', f', hv, ho, hnd, y6⟩
      subst hv
      obtain ⟨g0, gp, gn, gc, gz, rfl, hg, hgi⟩ := open_Signed ho.reps (iadd_code _ _)
      have hrlt := hblk.lt
      obtain ⟨w7, st7, hb7, ch, sz⟩ := (hblk5.ext y6).storeA0 (P := P) (t := T_impl_Signed) (xs := [.bool g0, .slice gp gn gc]) (by kernel_rfl) rfl ho.reps.cells1
      refine ⟨_, _, _, _, rfl, w7, st7, exW ⟨by omega, by omega⟩ ⟨⟨j + 1, _, f', by omega, by omega, (x5.trans y6).chg ch (by simp; omega), by have := y6.le; omega, (((hb0.ext y4).ext y5).ext y6).chg ch (by simp; omega), hb7, ?_, hnd, fun k hk hkj => ?_⟩, by simp; omega⟩⟩
      · rw [isumGo_take _ hjl]
        exact (ho.chg1 ch (by omega)).mono (by omega)
      · by_cases e : k < j
        · exact hall k hk e
        · obtain rfl : k = j := by omega
          exact hok
  · have hjn : j = n := by omega
    subst hjn
    rw [List.take_of_length_le (by omega)] at how
    obtain ⟨w6, st6, hb6, ch, sz⟩ := hb0.storeA0 (P := P) (t := T_impl_Signed) (xs := [.bool q0, .slice qp qn qc]) (by kernel_rfl) rfl how.reps.cells1
    refine ⟨_, _, _, _, hblk.loadA0 (by kernel_rfl), w6, st6, _, _, _, _, hb6.loadA0 (by kernel_rfl), _, f, rfl, ?_, hnd0, hx.chg ch (by simp; omega)⟩
    have : isum l = isumGo l := by
      have : l.all intOk = true := by
        rw [List.all_eq_true]
        intro x hxm
        obtain ⟨k, hk, rfl⟩ := List.getElem_of_mem hxm
        exact hall k hk (by omega)
      simp [isum, this]
    rw [this]
    exact (how.chg1 ch (by omega)).mono (by omega)

def AllR (w : World) (k : Nat) : List (List Value) → List (List D0) → Prop
  | [], [] => True
  | cs :: css, x :: l => cs.length = k ∧ Reps w cs x ∧ AllR w k css l
  | _, _ => False
theorem AllR.ext {w w' : World} {k : Nat} : ∀ {css : List (List Value)} {l : List (List D0)}, AllR w k css l → Ext w w' → AllR w' k css l
  | [], [], _, _ => trivial
  | _ :: _, _ :: _, h, e => ⟨h.1, h.2.1.ext e, AllR.ext h.2.2 e⟩
  | [], _ :: _, h, _ => h.elim
  | _ :: _, [], h, _ => h.elim
theorem AllR.snoc {w : World} {k : Nat} {cs : List Value} {x : List D0} (hc : cs.length = k) (hr : Reps w cs x) : ∀ {css : List (List Value)} {l : List (List D0)}, AllR w k css l → AllR w k (css ++ [cs]) (l ++ [x])
  | [], [], _ => ⟨hc, hr, trivial⟩
  | _ :: _, _ :: _, h => ⟨h.1, h.2.1, AllR.snoc hc hr h.2.2⟩
  | [], _ :: _, h => h.elim
  | _ :: _, [], h => h.elim
theorem AllR.at {w : World} {k : Nat} : ∀ {css : List (List Value)} {l : List (List D0)}, AllR w k css l → ∀ i x, l[i]? = some x → ∃ cs, cs.length = k ∧ Reps w cs x ∧ (css.flatten.drop (i * k)).take k = cs
  | [], [], _, i, x, hx => by simp at hx
  | cs :: css, y :: l, h, i, x, hx => by
    cases i with
    | zero =>
      simp only [List.getElem?_cons_zero, Option.some.injEq] at hx
      subst hx
      refine ⟨cs, h.1, h.2.1, ?_⟩
      rw [Nat.zero_mul, List.drop_zero, List.flatten_cons, ← h.1, List.take_left]
    | succ i =>
      simp only [List.getElem?_cons_succ] at hx
      obtain ⟨c, h1, h2, h3⟩ := AllR.at h.2.2 i x hx
      refine ⟨c, h1, h2, ?_⟩
      rw [List.flatten_cons, Nat.succ_mul, Nat.add_comm, ← List.drop_drop, ← h.1, List.drop_left, h.1]
      exact h3
  | [], _ :: _, h, _, _, _ => h.elim
  | _ :: _, [], h, _, _, _ => h.elim
theorem rows_of_own {w : World} {B : Nat} {e : TypeId} {k : Nat} {p : Option Addr} {n c : Nat} {css : List (List Value)} {l : List (List D0)} (h : Own w B e k p n c css.flatten) (ha : AllR w k css l) (hl : l.length = n) : RowsR w k p n c l := by
  refine ⟨hl, h.le, h.capLe, fun hn => ?_⟩
  obtain ⟨b, hp, _, hs⟩ := h.seg hn
  refine ⟨b, 0, hp, fun i x hx => ?_⟩
  obtain ⟨cs, h1, h2, h3⟩ := ha.at i x hx
  exact ⟨cs, h1, h2, by rw [← h3]; exact (hs.drop (i * k)).take k⟩
theorem sliceT_Signed : sliceT P T_s_impl_Signed T_impl_Signed (.agg ⟨[.bool false, .slice none 0 0]⟩) 2 32 := ⟨by kernel_rfl, by kernel_rfl, rfl, by decide⟩

theorem slices_IndexFunc_Signed_c {w : World} {p : Option Addr} {n c : Nat} {l : List (List D0)} (h : RowsR w 2 p n c l) (hc : ∀ x ∈ l, x.map D0.code = [.bool, .ints]) (f : Value) (q : List D0 → Bool)
    (hf : ∀ cs x w', Ext w w' → x ∈ l → Reps w' cs x → CallW P f [.agg ⟨cs⟩] w' fun e w'' => e = .returned (.bool (q x)) ∧ Ext w' w'') :
    Ret P n_slices_IndexFunc_impl_Signed_impl_Signed [.slice p n c, f] w fun v w' => v = .int .i64 (firstI q l) ∧ Ext w w' := by
  refine slices_IndexFunc_impl_Signed_impl_Signed_ret ?_
  unfold slices_IndexFunc_impl_Signed_impl_Signed
  have hlen := h.1; have hcap := h.2.1; have hcm := h.2.2.1
  refine ⟨fun i wr => ∃ j : Nat, i = j ∧ j ≤ n ∧ Ext w wr ∧ ∀ i (hi : i < l.length), i < j → q l[i] = false, fun i _ => n - i.toNat, ⟨0, rfl, by omega, Ext.refl _, fun i hi h => by omega⟩, ?_⟩
  intro junk wr i ⟨j, hij, hj, hx, hall⟩
  subst hij
  refine ifD (fun hlt => ?_) (fun hge => ?_)
  · have hjn : j < n := by omega
    obtain ⟨a, cs, hp, hk, hr, hl⟩ := (h.ext hx).at (P := P) (t := T_impl_Signed) (by kernel_rfl) hjn
    subst hp
    have hjl : j < l.length := by omega
    have hcode := hc _ (List.getElem_mem hjl)
    have hcall := hf _ _ _ hx (List.getElem_mem hjl) hr
    obtain ⟨a1, a2p, a2n, a2c, a2z, rfl, hd, ha⟩ := open_Signed hr hcode
    refine ⟨⟨by omega, by omega⟩, _, _, _, _, by simpa using hl, ?_⟩
    obtain ⟨g, first, captured, h1, h2, h3⟩ := hcall
    refine ⟨g, first, captured, h1, h2, Calls.mono h3 fun e w2 ⟨he, hy⟩ => ?_⟩
    refine ⟨_, he, fun e => ⟨by rw [firstI_some hjl e hall], hx.trans hy⟩, fun e => ?_⟩
    refine exW ⟨by omega, by omega⟩ ⟨⟨j + 1, by omega, by omega, hx.trans hy, fun i hi hij => ?_⟩, by simp; omega⟩
    by_cases hij' : i < j
    · exact hall i hi hij'
    · obtain rfl : i = j := by omega
      exact e
  · exact ⟨by rw [firstI_none fun i hi => hall i hi (by omega)], hx⟩

theorem firstI_any {q : List D0 → Bool} {l : List (List D0)} : decide ((0 : Int) ≤ firstI q l) = l.any q := by
  rcases firstI_spec q l with ⟨h, h2⟩ | ⟨j, hj, h, h2⟩
  · have : l.any q = false := by rw [List.any_eq_false]; intro x hx; simp [h2 x hx]
    rw [h, this]; rfl
  · have : l.any q = true := by rw [List.any_eq_true]; exact ⟨_, List.getElem_mem hj, h2⟩
    rw [h, this]; simp

theorem slices_ContainsFunc_Signed_c {w : World} {p : Option Addr} {n c : Nat} {l : List (List D0)} (h : RowsR w 2 p n c l) (hc : ∀ x ∈ l, x.map D0.code = [.bool, .ints]) (f : Value) (q : List D0 → Bool)
    (hf : ∀ cs x w', Ext w w' → x ∈ l → Reps w' cs x → CallW P f [.agg ⟨cs⟩] w' fun e w'' => e = .returned (.bool (q x)) ∧ Ext w' w'') :
    Ret P n_slices_ContainsFunc_impl_Signed_impl_Signed [.slice p n c, f] w fun v w' => v = .bool (l.any q) ∧ Ext w w' := by
  refine slices_ContainsFunc_impl_Signed_impl_Signed_ret ?_
  unfold slices_ContainsFunc_impl_Signed_impl_Signed
  refine Ret.at (slices_IndexFunc_Signed_c h hc f q hf) ?_
  rintro v w2 ⟨hv, y⟩
  subst hv
  exact ⟨_, rfl, by rw [firstI_any], y⟩

theorem impl_Flat_1_c {w : World} {cs : List Value} {x : List D0} (h : Reps w cs x) (hc : x.map D0.code = [.bool, .ints]) :
    Ret P n_impl_Flat_1 [.agg ⟨cs⟩] w fun v w' => v = .bool (!(intOk x)) ∧ Ext w w' := by
  have hr := h
  obtain ⟨a1, a2p, a2n, a2c, a2z, rfl, hd, ha⟩ := open_Signed h hc
  refine impl_Flat_1_ret ?_
  unfold impl_Flat_1
  intro r w1 hn
  refine ⟨_, _, _, _, hn.blk.loadA0 (by kernel_rfl), ?_⟩
  refine Ret.at (impl_IntOk_c (hr.ext hn.ext) hc) ?_
  rintro v w2 ⟨hv, y⟩
  subst hv
  exact ⟨_, rfl, rfl, hn.ext.trans y⟩

theorem impl_Flat_c {w : World} {p : Option Addr} {n c : Nat} {l : List (List D0)} (h : RowsR w 3 p n c l) (hc : ∀ x ∈ l, x.map D0.code = [.str, .bool, .ints]) (hz : n ≤ 1048576) (hb : ∀ x ∈ l, bulks x ≤ 1048576) :
    Ret P n_impl_Flat [.slice p n c] w fun v w' => v = .bool (flat l) ∧ Ext w w' := by
  refine impl_Flat_ret ?_
  unfold impl_Flat
  have hlen := h.1; have hcap := h.2.1; have hcm := h.2.2.1
  intro r w1 hn1
  have hucode : ∀ x ∈ l.map (·.drop 1), x.map D0.code = [.bool, .ints] := by
    intro x hx
    obtain ⟨y, hy, rfl⟩ := List.mem_map.1 hx
    rw [List.map_drop, hc y hy]; rfl
  refine ⟨fun up un uc i wr => ∃ (css : List (List Value)), i = un ∧ un ≤ n ∧ Ext w wr ∧ Own wr w.heap.size T_impl_Signed 2 up un uc css.flatten ∧ AllR w 2 css ((l.map (·.drop 1)).take un), fun _ _ _ i _ => n - i.toNat,
    ⟨[], rfl, by omega, hn1.ext, Own.of_blk0 (n := 0) hn1.blk (by rw [hn1.r_eq]; exact Nat.le_refl _) rfl (by simp [maxLen]), trivial⟩, ?_⟩
  intro junk wr up j uc i ⟨css, hij, hj, hx, hown, hall⟩
  subst hij
  refine ifD (fun hlt => ?_) (fun hge => ?_)
  · have hjn : j < n := by omega
    have hjl : j < l.length := by omega
    obtain ⟨b, o, hp, hs⟩ := h.2.2.2 (by omega)
    subst hp
    obtain ⟨ds, hk, hr, hseg⟩ := hs j l[j] (List.getElem?_eq_getElem hjl)
    have hrr := hr; have hcd := hc _ (List.getElem_mem hjl)
    obtain ⟨a0, a1, a2p, a2n, a2c, a2z, rfl, hd, ha⟩ := open_Pos hr hcd
    have hl : Loads P T_impl_Pos ((⟨b, o, none⟩ : Addr).add ((j : Int).toNat * 3)) (.agg ⟨[.string a0, .bool a1, .slice a2p a2n a2c]⟩) wr := by
      rw [addr_add, show (j : Int).toNat = j by omega]; exact loadsA (by kernel_rfl) (hseg.ext hx)
    refine ⟨⟨by omega, by omega⟩, _, _, _, _, _, hl, ?_⟩
    intro r2 w3 hn3
    obtain ⟨w4, st4, hb4, y4⟩ := hn3.fill (P := P) (t := T_impl_Pos) hrr.cells1 (by kernel_rfl) rfl
    refine ⟨w4, st4, _, _, _, _, hb4.loadAAt 1 [.bool a1, .slice a2p a2n a2c] rfl (by kernel_rfl) rfl, ?_⟩
    intro r5 w5 hn5
    have y5 := y4.trans hn5.ext
    obtain ⟨p', c', w6, g1, g2, g3, _, _⟩ := Own.append (hown.ext y5) sliceT_Signed (by have := (hx.trans y5).le; omega) hn5.blk (m := 1) (mc := 1) rfl (by simp [Value.oneCell']) (by omega) (by decide)
    have x6 := g3 w (hx.trans y5) (Nat.le_refl _)
    refine ⟨_, _, _, w6, g1, exW ⟨by omega, by omega⟩ ⟨⟨css ++ [[.bool a1, .slice a2p a2n a2c]], by omega, by omega, x6, by simpa using g2, ?_⟩, ?_⟩⟩
    · rw [List.take_add_one, List.getElem?_eq_getElem (by simpa using hjl), Option.toList_some]
      refine AllR.snoc (k := 2) rfl ?_ hall
      rw [List.getElem_map, hd]
      exact ⟨rfl, ⟨_, _, _, rfl, ha⟩, trivial⟩
    · show n - ((j : Int) + 1).toNat < n - (j : Int).toNat
      omega
  · have hjn : j = n := by omega
    subst hjn
    rw [List.take_of_length_le (by simp; omega)] at hall
    have hrows := rows_of_own hown (hall.ext hx) (by simpa using hlen)
    refine Ret.at (slices_ContainsFunc_Signed_c hrows hucode _ (fun x => !(intOk x)) (fun cs x w' hx2 hm hr => ?_)) ?_
    · refine ⟨_, _, _, rfl, by kernel_rfl, ?_⟩
      refine Calls.mono (impl_Flat_1_c hr (hucode _ hm)) ?_
      rintro e w'' ⟨v, he, hv, y⟩
      subst hv
      exact ⟨he, y⟩
    · rintro v w3 ⟨hv, y3⟩
      subst hv
      have hall2 : (l.map (·.drop 1)).any (fun x => !(intOk x)) = !(l.all fun x => intOk (x.drop 1)) := by
        rw [List.any_map, List.not_all_eq_any_not]; rfl
      rw [hall2]
      refine ⟨_, rfl, fun e => ⟨?_, hx.trans y3⟩, fun e => ?_⟩
      · have e : (l.all fun x => intOk (x.drop 1)) = false := by simpa only [Bool.not_eq_true'] using e
        simp only [flat, e, Bool.false_and]
      · have e : (l.all fun x => intOk (x.drop 1)) = true := by simpa only [Bool.not_eq_false'] using e
        refine Ret.at (impl_IntSum_c (hrows.ext y3) hucode) ?_
        rintro v w4 ⟨vs', f, hv, ho, hnd, y4⟩
        subst hv
        have hu : isum (l.map (·.drop 1)) = isumGo (l.map (·.drop 1)) := by
          have : (l.map (·.drop 1)).all intOk = true := by rw [List.all_map]; exact e
          rw [isum, this]; rfl
        rw [hu] at ho
        obtain ⟨hok, hcode⟩ := isumGo_ok (l.map (·.drop 1))
        obtain ⟨q0, qp, qn, qc, qz, rfl, hq, hqi⟩ := open_Signed ho.reps hcode
        refine ⟨_, _, _, _, rfl, ?_, (hx.trans y3).trans y4⟩
        have hs := isign_zero (by rw [← hq]; exact hok : intOk [.bool q0, .ints qz] = true)
        have hl0 := hqi.1
        simp only [flat, e, Bool.true_and, hq]
        congr 1
        rw [decide_eq_decide, hs]
        omega

end Go.Proofs.Ytoacnglkliioaaa
