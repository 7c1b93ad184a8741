/-
  Parts of the proof of sharesEven_holds: CShareI, CShareR, CFlat, LZ, CRepeat, SxFlS, DM, SxRow, SxOpen.
  Conditions: none.
-/
import Derived.Shelf.Bits.Mul64
import Derived.ProofKit
import Derived.Deep.Slices
import Derived.Test.YtbgokfhcgcoipaaGreatSe4
set_option linter.unusedVariables false
set_option linter.unusedSimpArgs false
namespace Go.ChangeShapes
end Go.ChangeShapes
namespace Go.RowKit
end Go.RowKit
namespace Go.Shelf
end Go.Shelf
namespace Go.WideShapes
end Go.WideShapes

namespace Go.Proofs.YtbgokfhcgcoipaaGreat
open Go Go.Proofs.YtbgokfhcgcoipaaGreat.Sx
theorem digs_lt1 {k : Nat} (h : k < 1000000000) : digs k = if k = 0 then [] else [(k : Int)] := by
  by_cases h0 : k = 0
  · subst h0; rw [digs_zero]; rfl
  · rw [if_neg h0, digs_pos (by omega), show k / 1000000000 = 0 by omega, digs_zero, show k % 1000000000 = k by omega]
theorem impl_NatInt_s {w : World} {p : Option Addr} {n c k : Nat} (h : IntsR w p n c (digs k)) (hk : k <= 1000000) : Ret P n_impl_NatInt [.slice p n c] w fun v w' => v = .tuple #[.int .i64 k, .bool true] /\ Ext w w' := by
  have hl := h.1
  have hd := digs_lt1 (k := k) (by omega)
  refine impl_NatInt_ret ?_
  unfold impl_NatInt
  refine Ret.at (impl_NatOk_c h) ?_
  rintro v w1 ⟨rfl, y1⟩
  have hok : natOk (digs k) = true := natOk_spec.2 ⟨digs_canon _, by rw [hd]; split <;> simp⟩
  rw [hok]
  refine ⟨_, rfl, ifN (fun hh => by simp at hh) (fun _ => ?_)⟩
  refine Ret.at (impl_NatOf_c (n := 9223372036854775807) (by decide) (by decide)) ?_
  rintro v w2 ⟨p2, n2, c2, rfl, o2, y2⟩
  refine ⟨_, _, _, rfl, ?_⟩
  refine Ret.at (impl_natCmp_c (h.ext (y1.trans y2)) o2.ints) ?_
  rintro v w3 ⟨rfl, y3⟩
  have Y := (y1.trans y2).trans y3
  refine ⟨_, rfl, ifD (fun hh => ?_) (fun _ => ?_)⟩
  · have := cmpL_digs_sign k ((9223372036854775807 : Int).toNat)
    have e : (9223372036854775807 : Int).toNat = 9223372036854775807 := by decide
    rw [e] at this hh
    have := this.1.2 (by omega)
    omega
  · unfold impl_NatInt_j0
    refine exW ⟨by omega, by have := (h.ext Y).2.1; have := h.2.2.1; omega⟩ ⟨fun x i W => W = w3 /\ ((i = (n : Int) - 1 /\ x = 0) ∨ (i = -1 /\ x = k)), fun _ i _ => (i + 1).toNat, ⟨rfl, .inl ⟨rfl, rfl⟩⟩, ?_⟩
    rintro junk W x i ⟨rfl, hc⟩
    by_cases h0 : k = 0
    · rw [if_pos h0] at hd
      have hn0 : n = 0 := by rw [hd] at hl; simpa using hl.symm
      refine ifD (fun hlt => by omega) (fun _ => ⟨?_, Y⟩)
      rcases hc with ⟨_, rfl⟩ | ⟨_, rfl⟩ <;> simp [h0]
    · rw [if_neg h0] at hd
      have hn1 : n = 1 := by rw [hd] at hl; simpa using hl.symm
      subst hn1
      refine ifD (fun hlt => ?_) (fun hge => ?_)
      · rcases hc with ⟨rfl, rfl⟩ | ⟨rfl, _⟩
        · refine exW ⟨by omega, by omega⟩ ⟨⟨by omega, by omega⟩, ?_⟩
          obtain ⟨a, rfl, hld⟩ := ints_at (h.ext Y) (i := ((1 : Nat) : Int) - 1) (by omega) (by omega)
          rw [hd] at hld
          refine ⟨_, hld, exW ⟨?_, ?_⟩ (exW ⟨by omega, by omega⟩ ⟨⟨rfl, .inr ⟨rfl, ?_⟩⟩, ?_⟩)⟩
          · show -9223372036854775808 <= (0 : Int) * 1000000000 + (k : Int); omega
          · show (0 : Int) * 1000000000 + (k : Int) <= 9223372036854775807; omega
          · show (0 : Int) * 1000000000 + (k : Int) = k; omega
          · show (((1 : Nat) : Int) - 1 - 1 + 1).toNat < (((1 : Nat) : Int) - 1 + 1).toNat; decide
        · omega
      · rcases hc with ⟨rfl, _⟩ | ⟨_, rfl⟩
        · omega
        · exact ⟨rfl, Y⟩
theorem set_mid {xs zs : List Value} {a v : Value} {k : Nat} (h : xs.length = k) : (xs ++ [a] ++ zs).set k v = xs ++ [v] ++ zs := by
  subst h
  rw [List.append_assoc, List.append_assoc, List.set_append_right _ _ (Nat.le_refl _), Nat.sub_self]
  rfl
theorem drop_mid {xs zs : List Value} {a : Value} {k : Nat} (h : xs.length = k) : (xs ++ [a] ++ zs)[k]? = some a := by
  subst h
  rw [List.append_assoc, List.getElem?_append_right (Nat.le_refl _), Nat.sub_self]; rfl
theorem magPut {W : World} {B r1 n : Nat} {f : List Nat} {kf : Nat -> Nat} (h : OwnRows W B T_s_int 1 (some ⟨r1, 0, none⟩) n n (numL n kf) f) {i : Nat} (hi : i < n) :
    ∃ mp mn mc, IntsR W mp mn mc (digs (kf i)) /\ (∀ W1, Ext W W1 -> Loads P T_s_int ((⟨r1, 0, none⟩ : Addr).add (i * 1)) (.slice mp mn mc) W1) /\ B <= r1 /\ r1 < W.heap.size /\
      ∀ W1 (p : Option Addr) (m c v : Nat) (kf' : Nat -> Nat), Ext W W1 -> Own W1 W.heap.size T_int 1 p m c ((digs v).map (Value.int .i64)) -> (∀ j < n, kf' j = if j = i then v else kf j) ->
        ∃ W2 f', Stores P T_s_int ((⟨r1, 0, none⟩ : Addr).add (i * 1)) (.slice p m c) W1 W2 /\ Chg [r1] W1 W2 /\ OwnRows W2 B T_s_int 1 (some ⟨r1, 0, none⟩) n n (numL n kf') f' /\ ∀ q ∈ f', q ∈ f ∨ p.map (·.block) = some q := by
  obtain ⟨b, xs, cs, zs, fi, hb, hB, hbf, hxl, hcl, hblk, how, hnd, hbfi, hfi, _⟩ := h.swap (numL_get hi)
  simp only [Option.some.injEq, Addr.mk.injEq, and_true, true_and] at hb
  subst hb
  obtain ⟨mp, mn, mc, mz, us, es, rfl, hz, hir, hre, hce⟩ := how.reps.ints (cs := []) rfl
  obtain ⟨rfl, rfl⟩ := hre.done hce
  simp only [List.cons.injEq, D0.ints.injEq, and_true] at hz
  subst hz
  have hblt := hblk.lt
  refine ⟨mp, mn, mc, hir, fun W1 hW => (hblk.ext hW).load (by kernel_rfl) (drop_mid hxl), hB, hblt, ?_⟩
  intro W1 p m c v kf' hW ho hk
  obtain ⟨b, xs, cs, zs, fi, hb, hB, hbf, hxl, hcl, hblk, how, hnd, hbfi, hfi, hput⟩ := (h.ext hW).swap (numL_get hi)
  simp only [Option.some.injEq, Addr.mk.injEq, and_true, true_and] at hb
  subst hb
  obtain ⟨a, rfl⟩ : ∃ a, cs = [a] := List.length_eq_one_iff.1 hcl
  obtain ⟨W2, st, hb2, ch, _⟩ := hblk.store (P := P) (t := T_s_int) (k := i * 1) (v := .slice p m c) (by kernel_rfl) (by simp [hxl]) rfl
  rw [set_mid hxl] at hb2
  have ho2 : Own W2 B T_int 1 p m c ((digs v).map (Value.int .i64)) := (ho.chg ch (fun q hq hm => by
    have := (World.ownsRow.lt ho q (by cases p <;> simp_all [Value.ownBlock])).1
    simp at hm; omega)).mono (by omega)
  obtain ⟨f', hf', hf2⟩ := hput W2 [.slice p m c] [.ints (digs v)] _ ch rfl hb2 (Owns.ints ho2) (nodup_opt p) (fun y hy => .inr fun hm => by
    have h1 := (World.ownsRow.lt ho y (by cases p <;> simp_all [Value.ownBlock])).1
    have h2 := (h.lt y hm).2
    omega)
  rw [numL_set hi hk] at hf'
  refine ⟨W2, f', st, ch, hf', fun q hq => ?_⟩
  rcases hf2 q hq with h1 | h1
  · exact .inl h1
  · exact .inr (by cases p <;> simp_all)
def partL (rs : List Nat) (k : Nat) : List (List D0) := (List.range k).map fun (j : Nat) => [.int (j : Int), .ints (digs (rs.getD j 0))]
theorem parts_els {W : World} {B : Nat} : ∀ {css : List (List Value)} {l : List (List D0)} {fs : List (List Nat)}, AllO W B 2 css l fs -> (∀ x ∈ l, x.map D0.code = [.int, .ints]) ->
    ∃ els : List El, css = els.map cE /\ els.length = l.length /\ ∀ i x, l[i]? = some x -> ∃ z, x = [.int (atE els i).1, .ints z] /\ IntsR W (atE els i).2.1 (atE els i).2.2.1 (atE els i).2.2.2 z /\ ∀ q, (atE els i).2.1.map (·.block) = some q -> q < W.heap.size
  | [], [], [], _, _ => ⟨[], rfl, rfl, fun i x h => by simp at h⟩
  | cs :: css, y :: l, f :: fs, h, hc => by
    obtain ⟨h1, h2, h3⟩ := h
    obtain ⟨els, e1, e2, e3⟩ := parts_els h3 fun x hx => hc x (List.mem_cons_of_mem _ hx)
    have hcy := hc y List.mem_cons_self
    have hlt := h2.lt
    obtain ⟨a, us, es, rfl, rfl, hr, hce⟩ := h2.reps.int hcy
    obtain ⟨mp, mn, mc, mz, us, es, rfl, rfl, hir, hre, hce⟩ := hr.ints hce
    obtain ⟨rfl, rfl⟩ := hre.done hce
    refine ⟨(a, mp, mn, mc) :: els, by rw [e1]; rfl, by simp [e2], fun i x hx => ?_⟩
    cases i with
    | zero =>
      simp only [List.getElem?_cons_zero, Option.some.injEq] at hx
      subst hx
      refine ⟨mz, rfl, hir, fun q hq => ?_⟩
      have hq : mp.map (·.block) = some q := hq
      obtain ⟨f1, f2, rfl, o1, o2⟩ := h2
      obtain ⟨f3, f4, rfl, o3, o4⟩ := o2
      refine (hlt q ?_).2
      obtain ⟨p', n', c', e1, _, e2⟩ := o3
      simp only [Value.slice.injEq] at e1
      rw [e2, <- e1.1, hq]
      simp
    | succ i =>
      exact e3 i x (by simpa using hx)
theorem own_el {W : World} {B : Nat} {p : Option Addr} {n c : Nat} {rs : List Nat} {k : Nat} {f : List Nat} (h : OwnRows W B T_impl_part 2 p n c (partL rs k) f) (hk : k <= rs.length) :
    ∃ els : List El, Own W B T_impl_part 2 p n c (flE els) /\ els.length = k /\ (∀ i, i < k -> (atE els i).1 = i) /\ ∀ e ∈ els, IntsR W e.2.1 e.2.2.1 e.2.2.2 (digs (rs.getD e.1.toNat 0)) /\ ∀ q, e.2.1.map (·.block) = some q -> q < W.heap.size := by
  obtain ⟨hl, css, fs, ha, ho, _, _⟩ := h
  obtain ⟨els, e1, e2, e3⟩ := parts_els ha (fun x hx => by obtain ⟨j, _, rfl⟩ := List.mem_map.1 hx; rfl)
  have hlk : els.length = k := by rw [e2]; simp [partL]
  have get : ∀ i, i < k -> (partL rs k)[i]? = some [.int (i : Int), .ints (digs (rs.getD i 0))] := fun i hi => by
    unfold partL; rw [List.getElem?_map, List.getElem?_range hi]; rfl
  have h1 : ∀ i, i < k -> (atE els i).1 = i := fun i hi => by
    obtain ⟨z, hz, _⟩ := e3 i _ (get i hi)
    simp only [List.cons.injEq, D0.int.injEq] at hz
    exact hz.1.symm
  refine ⟨els, by rw [e1] at ho; exact ho, hlk, h1, fun e he => ?_⟩
  obtain ⟨i, hi, rfl⟩ := List.getElem_of_mem he
  have hik : i < k := by omega
  obtain ⟨z, hz, hir, hq⟩ := e3 i _ (get i hik)
  have ea : atE els i = els[i] := by unfold atE; rw [List.getD_eq_getElem?_getD, List.getElem?_eq_getElem hi]; rfl
  have hi1 := h1 i hik
  rw [ea] at hir hq hi1
  simp only [List.cons.injEq, D0.ints.injEq, and_true] at hz
  rw [<- hz.2] at hir
  rw [hi1, Int.toNat_natCast]
  exact ⟨hir, hq⟩
theorem sorted_ord {rs : List Nat} {l0 l' : List El} (hl : l0.length = rs.length) (h1 : ∀ i, i < rs.length -> (atE l0 i).1 = i) (hp : l'.Perm l0) (hs : l'.Pairwise (LE (ltS rs))) : ∀ t (h : t < (ordS rs).length), (atE l' t).1 = ((ordS rs)[t] : Nat) := by
  have e0 : l0.map (fun e => e.1.toNat) = List.range rs.length := by
    apply List.ext_getElem
    · simp [hl]
    · intro i h2 h3
      have hi : i < l0.length := by simpa using h2
      have := h1 i (by omega)
      unfold atE at this
      rw [List.getD_eq_getElem?_getD, List.getElem?_eq_getElem hi] at this
      simp only [Option.getD_some] at this
      rw [List.getElem_map, this]; simp
  have nn : ∀ e ∈ l', 0 <= e.1 := fun e he => by
    obtain ⟨i, hi, rfl⟩ := List.getElem_of_mem (hp.mem_iff.1 he)
    have := h1 i (by omega)
    unfold atE at this
    rw [List.getD_eq_getElem?_getD, List.getElem?_eq_getElem hi] at this
    simp only [Option.getD_some] at this
    omega
  have e1 : l'.map (fun e => e.1.toNat) = ordS rs := by
    refine ordS_uniq ?_ ?_
    · rw [<- e0]; exact hp.map _
    · rw [List.pairwise_map]
      refine List.Pairwise.imp_of_mem ?_ hs
      intro a b ha hb hab
      have na := nn a ha; have nb := nn b hb
      rw [leI_iff]
      unfold LE ltS at hab
      omega
  intro t ht
  have hlt : t < l'.length := by
    have := congrArg List.length e1
    rw [List.length_map] at this; omega
  have e2 : (ordS rs)[t] = (l'[t]).1.toNat := by
    have : (ordS rs)[t]? = (l'.map (fun e => e.1.toNat))[t]? := by rw [e1]
    rw [List.getElem?_eq_getElem ht, List.getElem?_map, List.getElem?_eq_getElem hlt] at this
    simpa using this
  have e3 : atE l' t = l'[t] := by unfold atE; rw [List.getD_eq_getElem?_getD, List.getElem?_eq_getElem hlt]; rfl
  rw [e3, e2]
  have := nn _ (List.getElem_mem hlt)
  omega
theorem zeroRow_slice (n : Nat) : zeroRow (.slice none 0 0) n = List.replicate n (.slice none 0 0) := by
  unfold zeroRow
  apply List.ext_getElem
  · simp
  · intro i h1 h2
    simp [Value.cells]
    rw [show i % 1 = 0 by omega]; rfl
theorem all_nil (W : World) (B : Nat) : ∀ n, AllO W B 1 (List.replicate n [.slice none 0 0]) (List.replicate n [.ints []]) (List.replicate n [])
  | 0 => trivial
  | n + 1 => by
    rw [List.replicate_succ, List.replicate_succ, List.replicate_succ]
    exact ⟨rfl, Owns.ints (zs := []) (Own.nil W B T_int 1), all_nil W B n⟩
theorem numL_zero (n : Nat) : numL n (fun _ => 0) = List.replicate n [.ints []] := by
  unfold numL
  apply List.ext_getElem
  · simp
  · intro i h1 h2; simp [digs_zero]
theorem mags0 {w w' : World} {B r n : Nat} (hn : New w (.cells ⟨zeroRow (.slice none 0 0) (n * 1)⟩ T_s_int (0, 0)) r w') (hB : B <= w.heap.size) (hn1 : n <= maxLen) : OwnRows w' B T_s_int 1 (some ⟨r, 0, none⟩) n n (numL n fun _ => 0) [r] := by
  have hb := hn.blk
  have hr := hn.r_eq
  rw [zeroRow_slice, Nat.mul_one] at hb
  refine ⟨numL_len _ _, List.replicate n [.slice none 0 0], List.replicate n [], by rw [numL_zero]; exact all_nil _ _ _, ?_, by simp, by simp⟩
  have e : (List.replicate n [Value.slice none 0 0]).flatten = List.replicate n (Value.slice none 0 0) := by simp
  rw [e]
  exact Own.of_blk hb (by omega) (by simp) hn1
theorem quo_digs (a b : Nat) : (val (digs a) / val (digs b)).toNat = a / b /\ (val (digs a) % val (digs b)).toNat = a % b := by
  rw [val_digs, val_digs]; exact ⟨rfl, rfl⟩
theorem sub_digs (a b : Nat) : (val (digs a) - val (digs b)).toNat = a - b := by rw [val_digs, val_digs]; omega
theorem add_digs (a b : Nat) : (val (digs a) + val (digs b)).toNat = a + b := by rw [val_digs, val_digs]; omega
theorem own_ne {W : World} {B : Nat} {p : Option Addr} {n c : Nat} {xs : List Value} (h : Own W B T_int 1 p n c xs) {q : Nat} (hq : p.map (·.block) = some q) : B <= q /\ q < W.heap.size :=
  World.ownsRow.lt h q (by cases p <;> simp_all [Value.ownBlock])
theorem numL_congr {n : Nat} {k k' : Nat -> Nat} (h : ∀ j < n, k' j = k j) : numL n k' = numL n k := by
  unfold numL
  exact List.map_congr_left fun j hj => by rw [h j (List.mem_range.1 hj)]
theorem sub_zero_row (b c : Nat) : sub (some ⟨b, 0, none⟩) 0 c 2 = some ⟨b, 0, none⟩ := by
  unfold sub
  split
  · rfl
  · rw [Option.map_some, addr_add]
theorem flat_one {v : Value} : ∀ {css : List (List Value)}, (∀ c ∈ css, c.length = 1) -> ∀ (j : Nat), css[j]? = some [v] -> css.flatten[j]? = some v
  | [], _, j, h => by simp at h
  | c :: css, hc, 0, h => by
    simp only [List.getElem?_cons_zero, Option.some.injEq] at h
    subst h; rfl
  | c :: css, hc, j + 1, h => by
    obtain ⟨a, ha⟩ := List.length_eq_one_iff.1 (hc c List.mem_cons_self)
    subst ha
    have := flat_one (fun c hc' => hc c (List.mem_cons_of_mem _ hc')) j (by simpa using h)
    simpa using this
theorem sliceT_sg : sliceT P T_s_impl_Signed T_impl_Signed (.agg ⟨[.bool false, .slice none 0 0]⟩) 2 32 := ⟨by kernel_rfl, by kernel_rfl, rfl, by decide⟩
theorem mkS_sg (b : Bool) (k : Nat) : mkS b (digs k) = enc (sgI b k) := by
  cases b
  · exact mkS_pos k
  · exact mkS_neg k
theorem impl_Shares_o {w : World} {xs : List Value} {dx : List D0} {p : Option Addr} {n c : Nat} {ws : List Int} (h : Reps w xs dx) (hc : dx.map D0.code = [.bool, .ints]) (hw : IntsR w p n c ws) :
    Ret P n_impl_Shares [.agg ⟨xs⟩, .slice p n c] w fun v w' => ∃ p' n' c' f, v = .tuple #[.slice p' n' c', .bool (shT dx ws).1] /\ OwnRows w' w.heap.size T_impl_Signed 2 p' n' c' (shT dx ws).2 f /\ Ext w w' := by
  have hr := h
  obtain ⟨b, ap, an, ac, az, rfl, hdx, hi⟩ := open_Signed h hc
  have hl := hw.1
  have fail : ∀ W, Ext w W -> shT dx ws = (false, []) -> ∃ p' n' c' f, Value.tuple #[.slice none 0 0, .bool false] = .tuple #[.slice p' n' c', .bool (shT dx ws).1] /\ OwnRows W w.heap.size T_impl_Signed 2 p' n' c' (shT dx ws).2 f /\ Ext w W := fun W hW e => by
    rw [e]
    exact ⟨none, 0, 0, [], rfl, ⟨rfl, [], [], trivial, Own.nil _ _ _ _, by simp, by simp⟩, hW⟩
  refine impl_Shares_ret ?_
  unfold impl_Shares
  intro r w1 hn1
  have er := hn1.r_eq; have sr := hn1.size
  refine Ret.at (impl_WeightsOk_c (hw.ext hn1.ext)) ?_
  rintro v w2 ⟨rfl, rfl⟩
  refine ⟨_, rfl, ifN (fun hwn => ifT (fail _ hn1.ext (shOk_no1 hwn))) (fun hwy => ?_)⟩
  obtain ⟨g1, g2, g3, g4⟩ := wOk_parts hwy
  refine ⟨_, _, _, _, hn1.blk.loadA0 (by kernel_rfl), ?_⟩
  refine Ret.at (impl_IntOk_c (hr.ext hn1.ext) hc) ?_
  rintro v w3 ⟨rfl, y3⟩
  refine ⟨_, rfl, ifN (fun hno => fail _ (hn1.ext.trans y3) (shOk_no2 hno)) (fun hok => ?_)⟩
  obtain ⟨hen, b', z', hbz, hcz, hz50⟩ := intOk_enc hok
  obtain ⟨x, hx⟩ : ∃ x, ival dx = x := ⟨_, rfl⟩
  rw [hx] at hen
  have hdx2 := hdx
  rw [hen] at hdx2
  simp only [enc, List.cons.injEq, D0.bool.injEq, D0.ints.injEq, and_true] at hdx2
  obtain ⟨rfl, rfl⟩ := hdx2
  obtain ⟨m, hm⟩ : ∃ m, x.natAbs = m := ⟨_, rfl⟩
  rw [hm] at hi
  have hm50 : (digs m).length <= 50 := by
    rw [hdx] at hbz
    simp only [List.cons.injEq, D0.bool.injEq, D0.ints.injEq, and_true] at hbz
    rw [<- hbz.2, hm] at hz50; exact hz50
  have hil := hi.1
  have hns := nsN_sum g3
  obtain ⟨ns, hnsd⟩ : ∃ ns, nsN ws = ns := ⟨_, rfl⟩
  have hnl : ns.length = n := by rw [<- hnsd, nsN_len]; exact hl
  rw [hnsd] at hns
  have hD0 : 0 < ns.sum := by omega
  have hsb := (wt_sum g3).2
  unfold impl_Shares_j0
  refine Ret.at (impl_sumInts_c ((hw.ext hn1.ext).ext y3) g3 (by omega)) ?_
  rintro v w4 ⟨rfl, rfl⟩
  refine ⟨_, rfl, ?_⟩
  refine Ret.at (impl_NatOf_c (n := ws.sum) (by omega) (by omega)) ?_
  rintro v w5 ⟨p5, n5, c5, hv, o5, y5⟩
  subst hv
  rw [show ws.sum.toNat = ns.sum by omega] at o5
  have lD := digs_small_len (x := ns.sum) (by omega)
  have l5 := o5.ints.1
  have X5 := (hn1.ext.trans y3).trans y5
  have b5 := (hn1.blk.ext y3).ext y5
  refine ⟨_, _, _, rfl, _, _, _, b5.loadAt 1 rfl (by kernel_rfl) rfl, ?_⟩
  refine Ret.at (impl_natCopy_c (hi.ext X5) (by omega)) ?_
  rintro v w6 ⟨p6, c6, hv, o6, y6⟩
  subst hv
  have X6 := X5.trans y6
  have b6 := b5.ext y6
  have ht6 := o5.ints.ext y6
  refine ⟨_, _, _, rfl, ⟨by omega, by omega, by omega⟩, ?_⟩
  intro r1 w7 hn7 r2 w8 hn8
  have e7 := hn7.r_eq; have e8 := hn8.r_eq; have z7 := hn7.size; have z8 := hn8.size
  have l6 := X6.le
  have Z8 := hn7.ext.trans hn8.ext
  refine ⟨fun lp ln lc pp pn pc i W => ∃ (k : Nat) (f f2 : List Nat), i = k /\ k <= n /\ pn = k /\ Ext w6 W /\ w8.heap.size <= W.heap.size /\ IntsR W lp ln lc (digs (m - ((shQ m ns).take k).sum)) /\ (∀ q, lp.map (·.block) = some q -> q ∉ f /\ q ∉ f2) /\
      OwnRows W w6.heap.size T_s_int 1 (some ⟨r1, 0, none⟩) n n (numL n fun j => if j < k then (shQ m ns).getD j 0 else 0) f /\ OwnRows W w6.heap.size T_impl_part 2 pp k pc (partL (shR m ns) k) f2 /\ (∀ q ∈ f, q ∉ f2) /\ ∀ j < k, fsOk dx ws j = true,
    fun _ _ _ _ _ _ i _ => n - i.toNat, ⟨0, [r1], [r2], rfl, by omega, rfl, Z8, Nat.le_refl _, ?_, ?_, ?_, ?_, ?_, fun j hj => by omega⟩, ?_⟩
  · show IntsR w8 p6 an c6 (digs (m - 0))
    rw [Nat.sub_zero]; exact o6.ints.ext Z8
  · intro q hq
    have := own_ne o6 hq
    exact ⟨by simp; omega, by simp; omega⟩
  · have := (mags0 hn7 (Nat.le_refl _) (by simp only [maxLen]; omega)).ext hn8.ext
    exact this
  · exact OwnRows.fresh hn8 (by omega)
  · simp; omega
  intro junk W lp ln lc pp pn pc i ⟨k, f, f2, hik, hkn, hpk, hX, hsz, hleft, hlne, hmag, hpar, hdis, hall⟩
  subst hik; subst hpk
  have lX := hX.le
  have Xw := X6.trans hX
  have hpl := hpar.lt
  have hfl := hmag.lt
  refine ifD (fun hlt => ?_) (fun hge => ?_)
  · have hk : pn < n := by omega
    have hkl : pn < ws.length := by omega
    refine ⟨_, _, _, _, (b6.ext hX).loadA0 (by kernel_rfl), ?_⟩
    refine Ret.at (impl_FairShare_c (hr.ext Xw) hc (hw.ext Xw) hk) ?_
    rintro v wa ⟨vsa, fa, hv, hoa, _, ya⟩
    subst hv
    obtain ⟨s0, sp, sn, sc, sz, sp2, sn2, sc2, sz2, rfl, _, _, _⟩ := open_Rat hoa.reps (fsR_code _ _ _)
    refine ⟨_, _, _, _, _, _, _, _, rfl, ?_⟩
    intro r3 wb hnb
    obtain ⟨wc, stc, hbc, yc⟩ := hnb.fill (P := P) (t := T_impl_Rat) (xs := [.bool s0, .slice sp sn sc, .slice sp2 sn2 sc2]) (by simp [Value.oneCell']) (by kernel_rfl) rfl
    have Yc := (ya.trans yc).trans (Ext.drew wc)
    refine ⟨wc, stc, ifN (fun hno => fail _ (Xw.trans (ya.trans yc)) (shOk_no3 hkl hno)) (fun hyes => ?_)⟩
    have g5 := g3 _ (wt_getD hkl)
    obtain ⟨u, hu⟩ : ∃ u : Nat, ws.getD pn 0 = u := ⟨(ws.getD pn 0).toNat, by omega⟩
    have hnu : ns.getD pn 0 = u := by
      have := nsN_get g3 hkl
      rw [hnsd, hu] at this; omega
    rw [hu] at g5
    have Xd := Xw.trans Yc
    obtain ⟨a, hpa, _⟩ := ints_at (hw.ext Xd) (i := (pn : Int)) (by omega) (by omega)
    subst hpa
    refine ⟨_, _, _, fun V hV => (((b6.ext hX).ext Yc).ext hV).loadAt 1 rfl (by kernel_rfl) rfl, ⟨by omega, by omega⟩, _, fun V hV => by
      obtain ⟨a', hpa', hl'⟩ := ints_at ((hw.ext Xd).ext hV) (i := (pn : Int)) (by omega) (by omega)
      cases hpa'
      exact hl', ?_⟩
    rw [Int.toNat_natCast, hu]
    refine Ret.at (impl_NatOf_c (n := (u : Int)) (by omega) (by omega)) ?_
    rintro v wd ⟨pd, nd, cd, hv, od, yd⟩
    subst hv
    rw [Int.toNat_natCast] at od
    have lu := digs_small_len (x := u) (by omega)
    have ld := od.ints.1
    have Ld := Yc.trans yd
    refine ⟨_, _, _, rfl, yd, ?_⟩
    refine Ret.at (impl_natMul_c (hi.ext (Xw.trans Ld)) od.ints (digs_limbs _) (digs_limbs _) (by omega) (by omega)) ?_
    rintro v we ⟨pe, ne, ce, hv, oe, ye⟩
    subst hv
    rw [val_mul] at oe
    have pl := prod_len (x := m) (y := u) (i := 50) (j := 2) (by omega) (by omega)
    have le := oe.ints.1
    have Le := Ld.trans ye
    refine ⟨_, _, _, rfl, ?_⟩
    refine Ret.at (impl_natDiv_c oe.ints (ht6.ext (hX.trans Le)) (digs_canon _) (digs_canon _) (by
      have : 0 < (digs ns.sum).length := by rw [digs_pos (by omega)]; simp
      omega) (by omega) (by omega)) ?_
    rintro v wf ⟨pq, nq, cq, pr, nr, cr, hv, oq, orr, hqr, yf⟩
    subst hv
    rw [(quo_digs _ _).1] at oq
    rw [(quo_digs _ _).2] at orr
    have Lf := Le.trans yf
    have lf := Lf.le; have le' := Le.le; have lyf := yf.le
    refine ⟨_, _, _, _, _, _, rfl, ⟨by omega, by omega⟩, ?_⟩
    obtain ⟨_, _, _, _, _, hB1, hr1lt, hput⟩ := magPut hmag hk
    obtain ⟨wg, f', stg, chg, hmag', hf'⟩ := hput wf pq nq cq (m * u / ns.sum) (fun j => if j < pn + 1 then (shQ m ns).getD j 0 else 0) Lf (oq.mono le') (fun j hj => by
      by_cases e : j = pn
      · subst e
        rw [if_pos (by omega), if_pos rfl, shQ_get (by omega), hnu]
      · by_cases e2 : j < pn
        · rw [if_pos (by omega), if_neg e, if_pos e2]
        · rw [if_neg (by omega), if_neg e, if_neg e2])
    refine ⟨wg, stg, ?_⟩
    have hr1f : r1 ∈ f := hmag.blk_mem r1 (by simp)
    have hleft' := (hleft.ext Lf).chg chg (fun q hq hm => (hlne q hq).1 (by simp at hm; rw [hm]; exact hr1f))
    have hq' := oq.ints.chg chg (fun q hq hm => by have := (own_ne oq hq).1; simp at hm; omega)
    have hqk : (shQ m ns).getD pn 0 = m * u / ns.sum := by rw [shQ_get (by omega), hnu]
    have hst := sumN_take_succ (l := shQ m ns) (k := pn) (by rw [shQ_len]; omega)
    have hsl := sumN_take_le (shQ m ns) (pn + 1)
    have hsm := shQ_le (m := m) hD0
    rw [hqk] at hst
    refine Ret.at (impl_natSub_c hleft' hq' (digs_limbs _) (digs_limbs _) (by
      have := hleft.1
      have := digs_mono_len (Nat.sub_le m (((shQ m ns).take pn).sum))
      omega) (by
      have h1 := hleft.1; have h2 := oq.ints.1
      have := digs_mono_len (show m * u / ns.sum <= m - ((shQ m ns).take pn).sum by omega)
      omega) (by rw [val_digs, val_digs]; omega)) ?_
    rintro v wh ⟨ph, nh, ch, hv, oh, yh⟩
    subst hv
    rw [sub_digs] at oh
    refine ⟨_, _, _, rfl, ?_⟩
    intro r4 wi hni
    have e4 := hni.r_eq; have z4 := hni.size; have lyh := yh.le; have lcg := chg.size
    have Yi := yh.trans hni.ext
    have chi : Chg [r1] wf wi := chg.trans Yi.toChg
    have chW : Chg [r1] W wi := Lf.toChg.trans chi
    have hr1f2 : r1 ∉ f2 := hdis r1 hr1f
    have hpar' := hpar.chg chW (fun q hq hm => by simp at hm; exact hr1f2 (hm ▸ hq))
    have or' : Own wi w6.heap.size T_int 1 pr nr cr ((digs (m * u % ns.sum)).map (Value.int .i64)) := (orr.chg chi (fun q hq hm => by have := (own_ne orr hq).1; simp at hm; omega)).mono (by omega)
    have hox : Owns wi w6.heap.size [.int .i64 (pn : Int), .slice pr nr cr] [.int (pn : Int), .ints (digs (m * u % ns.sum))] (pr.map (·.block)).toList := by
      have := Owns.append (Owns.int wi w6.heap.size (pn : Int)) (Owns.ints or')
      simpa using this
    obtain ⟨p', c', wj, f2', ha, hpar2, chj, hf2⟩ := OwnRows_pushF (P := P) hpar' sliceT_part (by omega) hni.blk rfl hox (nodup_opt pr) (fun q hq hm => by
      have h1 := (own_ne orr (Option.mem_toList.1 hq)).1
      have h2 := (hpl q hm).2
      omega) (by omega) (by decide)
    refine ⟨p', pn + 1, c', wj, ha, exW ⟨by omega, by omega⟩ ⟨⟨pn + 1, f', f2', by omega, by omega, rfl, ?_, ?_, ?_, ?_, ?_, ?_, ?_, ?_⟩, ?_⟩⟩
    · have h1 : Ext w6 wi := (hX.trans Lf).chg chi (by simp; omega)
      refine h1.chg chj fun q hq => ?_
      exact (hpl q (hpar.blk_mem q hq)).1
    · have := chj.size; omega
    · rw [show m - ((shQ m ns).take (pn + 1)).sum = m - ((shQ m ns).take pn).sum - m * u / ns.sum by omega]
      refine (oh.ints.ext hni.ext).chg chj (fun q hq hm => ?_)
      have h1 := (own_ne oh hq).1
      have h2 := (hpl q (hpar.blk_mem q hm)).2
      omega
    · intro q hq
      have h1 := own_ne oh hq
      refine ⟨fun hm => ?_, fun hm => ?_⟩
      · rcases hf' q hm with h2 | h2
        · have := (hfl q h2).2; omega
        · have := (own_ne oq h2).2; omega
      · rcases hf2 q hm with h2 | h2 | h2
        · have := (hpl q h2).2; omega
        · have := (own_ne orr (Option.mem_toList.1 h2)).2; omega
        · omega
    · refine (hmag'.ext Yi).chg chj (fun q hq hm => ?_)
      have h1 := hpar.blk_mem q hm
      rcases hf' q hq with h2 | h2
      · exact hdis q h2 h1
      · have h3 := (own_ne oq h2).1; have h4 := (hpl q h1).2; omega
    · have e : partL (shR m ns) (pn + 1) = partL (shR m ns) pn ++ [[.int (pn : Int), .ints (digs (m * u % ns.sum))]] := by
        unfold partL
        rw [range_map_succ, shR_get (by omega), hnu]
      rw [e]; exact hpar2
    · intro q hq hm
      rcases hf' q hq with h2 | h2
      · rcases hf2 q hm with h3 | h3 | h3
        · exact hdis q h2 h3
        · have h4 := (own_ne orr (Option.mem_toList.1 h3)).1; have := (hfl q h2).2; omega
        · have := (hfl q h2).2; omega
      · have h5 := own_ne oq h2
        rcases hf2 q hm with h3 | h3 | h3
        · have := (hpl q h3).2; omega
        · exact hqr q h2 (Option.mem_toList.1 h3)
        · omega
    · intro j hj
      by_cases e : j = pn
      · subst e; exact hyes
      · exact hall j (by omega)
    · show n - ((pn : Int) + 1).toNat < n - (pn : Int).toNat
      omega
  · have hkn2 : pn = n := by omega
    subst hkn2
    have hsh : shT dx ws = (true, shL dx ws (shM m ns)) := by
      rw [shOk_yes hwy hok (fun j hj => hall j (by omega)), shMiss, hx, hm, hnsd]
    obtain ⟨miss, hmiss⟩ : ∃ t, shM m ns = t := ⟨_, rfl⟩
    have hml : miss <= pn := by have := shM_len (m := m) hD0; omega
    rw [hmiss] at hsh
    obtain ⟨els, hO, hel, hi1, hread⟩ := own_el hpar (by rw [shR_len]; omega)
    obtain ⟨bp, _, hpe, _⟩ := hO.blk (by omega)
    subst hpe
    refine Ret.at (sortBy_c hO (by omega) (by omega) hread) ?_
    rintro v wS ⟨bs, c', zs, l', hv, hbs, hrb, hcc, hperm, hpw, yS⟩
    subst hv
    have hord := sorted_ord (l0 := els) (by rw [shR_len]; omega) (fun i hi => hi1 i (by rw [shR_len] at hi; omega)) hperm hpw
    have hll : l'.length = pn := by rw [hperm.length_eq, hel]
    refine ⟨_, _, _, rfl, ?_⟩
    rw [show m - ((shQ m ns).take pn).sum = miss by
      rw [List.take_of_length_le (by rw [shQ_len]; omega), <- hmiss]; rfl] at hleft
    refine Ret.at (impl_NatInt_s (hleft.ext yS) (by omega)) ?_
    rintro v wN ⟨hv, yN⟩
    subst hv
    refine ⟨_, _, rfl, ⟨by omega, by omega⟩, ?_⟩
    rw [Int.toNat_natCast, Nat.sub_zero]
    have YN := yS.trans yN
    have lS := yS.le; have lN := yN.le
    refine ⟨fun i W' => ∃ (t : Nat) (f' : List Nat), i = t /\ t <= miss /\ Ext w6 W' /\ RB W' bs zs l' /\ OwnRows W' w6.heap.size T_s_int 1 (some ⟨r1, 0, none⟩) pn pn (numL pn (shP m ns t)) f' /\ bs ∉ f', fun i _ => miss - i.toNat, ⟨0, f, rfl, by omega, hX.trans YN, Blk.ext hrb yN, ?_, fun hm => by have := (hfl bs hm).2; omega⟩, ?_⟩
    · rw [<- numL_congr (n := pn) (k := fun j => if j < pn then (shQ m ns).getD j 0 else 0) (k' := shP m ns 0) (fun j hj => by rw [shP_zero, if_pos hj])] at hmag
      exact hmag.ext YN
    intro junk1 W1 i1 ⟨t, f1, hi1', ht, hX1, hrb1, hmag1, hbf⟩
    subst hi1'
    have hfl1 := hmag1.lt
    refine ifD (fun hlt2 => ?_) (fun hge2 => ?_)
    · have htm : t < miss := by omega
      have hto : t < (ordS (shR m ns)).length := by rw [ordS_len, shR_len]; omega
      have hidx := hord t hto
      obtain ⟨ix, hix⟩ : ∃ ix, (ordS (shR m ns))[t] = ix := ⟨_, rfl⟩
      have hixn : ix < pn := by rw [<- hix]; have := ordS_lt hto; rw [shR_len] at this; omega
      rw [hix] at hidx
      refine ⟨⟨by omega, by omega⟩, ?_⟩
      rw [sub_zero_row]
      refine ⟨(atE l' t).1, (atE l' t).2.1, (atE l' t).2.2.1, (atE l' t).2.2.2, hrb1.load (Ext.refl _) (by omega), ?_⟩
      intro r5 w9 hn9
      obtain ⟨wa, sta, hba, ya⟩ := hn9.fill (P := P) (t := T_impl_part) (xs := [.int .i64 (atE l' t).1, .slice (atE l' t).2.1 (atE l' t).2.2.1 (atE l' t).2.2.2]) (by simp [Value.oneCell']) (by kernel_rfl) rfl
      have Ya := ya.trans (Ext.drew wa)
      have hbd := hba.ext (Ext.drew wa)
      obtain ⟨mp, mn, mc, hmi, hml2, hB1, hr1lt, hput⟩ := magPut hmag1 hixn
      refine ⟨wa, sta, _, fun V hV => (hbd.ext hV).loadAt 0 rfl (by kernel_rfl) rfl, _, fun V hV => (hbd.ext hV).loadAt 0 rfl (by kernel_rfl) rfl, ?_⟩
      rw [hidx]
      refine ⟨⟨by omega, by omega⟩, _, _, _, fun V hV => hml2 V (Ya.trans hV), ?_⟩
      intro r6 wb hnb
      have Yb := Ya.trans hnb.ext
      have one : IntsR wb (some ⟨r6, 0, none⟩) 1 1 (digs 1) := by
        rw [digs_one]
        have := Own.of_blk (base := 0) (size := 1) (n := 1) hnb.blk (Nat.zero_le _) rfl (by decide)
        exact Own.ints (zs := [1]) this
      refine ⟨hnb.ext, ?_⟩
      have hmil := hmi.1
      have hkb : shP m ns t ix <= m + 1 := by
        unfold shP
        have h1 : (shQ m ns).getD ix 0 <= m := by
          have h2 := sumN_take_succ (l := shQ m ns) (k := ix) (by rw [shQ_len]; omega)
          have h3 := sumN_take_le (shQ m ns) (ix + 1)
          have h4 := shQ_le (m := m) hD0
          omega
        split <;> omega
      have hmn : mn <= 51 := by
        have h1 := digs_mono_len hkb
        have h2 := sum_len (x := (m : Int)) (y := 1) (i := 50) (by simpa using hm50) (by rw [show (1 : Int).natAbs = 1 from rfl, digs_one]; decide)
        rw [show ((m : Int) + 1).natAbs = m + 1 by omega] at h2
        omega
      refine Ret.at (impl_natAdd_c (hmi.ext Yb) one (digs_limbs _) (digs_limbs _) (by omega) (by omega)) ?_
      rintro v wc ⟨pc', nc', cc', hv, oc', yc⟩
      subst hv
      rw [add_digs] at oc'
      have Yc := Yb.trans yc
      have lb := Yb.le
      obtain ⟨wd, f', std, chd, hmag2, hf'⟩ := hput wc pc' nc' cc' (shP m ns t ix + 1) (shP m ns (t + 1)) Yc (oc'.mono lb) (fun j hj => by
        rw [shP_succ hto, hix]
        by_cases e : j = ix
        · subst e; rfl
        · rw [if_neg e, if_neg e])
      refine ⟨_, _, _, rfl, yc, ⟨by omega, by omega⟩, wd, std, exW ⟨by omega, by omega⟩ ⟨⟨t + 1, f', by omega, by omega, (hX1.trans Yc).chg chd (by simp; omega), ?_, hmag2, fun hm => ?_⟩, ?_⟩⟩
      · have hne : bs ≠ r1 := fun e => hbf (e ▸ hmag1.blk_mem r1 (by simp))
        exact (Blk.ext hrb1 Yc).chg chd (by simpa using hne)
      · rcases hf' bs hm with h2 | h2
        · exact hbf h2
        · have h3 := (own_ne oc' h2).1
          have h4 := Blk.lt hrb1
          omega
      · show miss - ((t : Int) + 1).toNat < miss - (t : Int).toNat
        omega
    · have htm : t = miss := by omega
      subst htm
      intro r7 wE hnE
      have eE := hnE.r_eq; have zE := hnE.size
      have hflE := hmag1.lt
      obtain ⟨hnl', css, fs, ha, hoM, hfs, hnd⟩ := hmag1
      have hlens := ha.lens
      obtain ⟨rb, hrbe, _, hseg⟩ := hoM.seg (by omega)
      simp only [Option.some.injEq, Addr.mk.injEq, and_true, true_and] at hrbe
      subst hrbe
      rw [hfs] at hnd
      have hnd2 := (List.nodup_append.1 hnd).2.1
      have hfs1 : ∀ q ∈ fs.flatten, q < W1.heap.size := fun q hq => (hflE q (by rw [hfs]; exact List.mem_append_right _ hq)).2
      have lw6 : w.heap.size <= w6.heap.size := l6
      refine ⟨fun op on oc i W' => ∃ (j : Nat) (cso : List (List Value)), i = j /\ j <= pn /\ on = j /\ Ext W1 W' /\ AllO W' w.heap.size 2 cso ((List.range j).map (shE dx ws t)) (fs.take j) /\ Own W' w.heap.size T_impl_Signed 2 op j oc cso.flatten /\ (∀ q, op.map (·.block) = some q -> q ∉ fs.flatten /\ W1.heap.size <= q), fun _ _ _ i _ => pn - i.toNat,
        ⟨0, [], rfl, by omega, rfl, hnE.ext, trivial, Own.of_blk0 hnE.blk (by have := hX1.le; omega) (by simp) (by decide), fun q hq => ?_⟩, ?_⟩
      · simp only [Option.map_some, Option.some.injEq] at hq
        subst hq
        exact ⟨fun hm => by have := hfs1 _ hm; omega, by omega⟩
      intro junk2 W2 op on oc i2 ⟨j, cso, hij, hj, hon, hX2, hall2, hown, hop⟩
      subst hij; subst hon
      refine ifD (fun hlt3 => ?_) (fun hge3 => ?_)
      · have hjn : on < pn := by omega
        obtain ⟨cs, fi, hcs, hfi, hck, how⟩ := ha.focus on _ (numL_get hjn)
        obtain ⟨mp, mn, mc, mz, us, es, rfl, hz, hir, hre, hce⟩ := how.reps.ints (cs := []) rfl
        obtain ⟨rfl, rfl⟩ := hre.done hce
        simp only [List.cons.injEq, D0.ints.injEq, and_true] at hz
        subst hz
        have hcell := flat_one hlens.1 on hcs
        refine ⟨⟨by omega, by omega⟩, mp, mn, mc, ?_, _, ((b6.ext hX1).ext hX2).loadAt 0 rfl (by kernel_rfl) rfl, ?_⟩
        · exact (hseg.ext hX2).load (by kernel_rfl) (by rw [Int.toNat_natCast, Nat.mul_one]; exact hcell)
        refine Ret.at (impl_signed_c (neg := decide (x < 0)) hir.1.symm.symm) ?_
        rintro v w9 ⟨hv, y9⟩
        subst hv
        refine ⟨_, _, _, _, rfl, ?_⟩
        intro r8 wa hna
        have Ya := y9.trans hna.ext
        have la := Ya.le
        have hfin : ∀ y ∈ fi, y ∈ fs.flatten := fun y hy => List.mem_flatten.2 ⟨fi, List.mem_of_getElem? hfi, hy⟩
        have how2 : Owns wa w.heap.size [.bool (decide (x < 0) && !(digs (shP m ns t on)).isEmpty), .slice mp mn mc] (shE dx ws t on) fi := by
          have h1 := Owns.append (Owns.bool wa w.heap.size (decide (x < 0) && !(digs (shP m ns t on)).isEmpty)) (((how.ext hX2).ext Ya).mono lw6)
          have e : [D0.bool (decide (x < 0) && !(digs (shP m ns t on)).isEmpty)] ++ [D0.ints (digs (shP m ns t on))] = shE dx ws t on := by
            unfold shE
            rw [hx, hm, hnsd, <- mkS_sg]; rfl
          rw [e] at h1
          exact h1
        obtain ⟨p', c2, wb, happ, hown2, chb, hp'⟩ := (hown.ext Ya).push1 (P := P) sliceT_sg (by have := hX1.le; have := hX2.le; omega) hna.blk rfl (how2.reps.cells1) (by omega) (by decide)
        have hopB : ∀ q ∈ (op.map (·.block)).toList, q ∉ fs.flatten /\ W1.heap.size <= q := fun q hq => hop q (Option.mem_toList.1 hq)
        have lX2 := hX2.le
        refine ⟨p', on + 1, c2, wb, happ, exW ⟨by omega, by omega⟩ ⟨⟨on + 1, cso ++ [[.bool (decide (x < 0) && !(digs (shP m ns t on)).isEmpty), .slice mp mn mc]], by omega, by omega, rfl, ?_, ?_, ?_, fun q hq => ?_⟩, ?_⟩⟩
        · exact (hX2.trans Ya).chg chb fun q hq => (hopB q hq).2
        · have htk : fs.take (on + 1) = fs.take on ++ [fi] := by
            rw [List.take_add_one, hfi]; rfl
          rw [range_map_succ, htk]
          refine AllO.snoc rfl (how2.chg chb fun q hq hm => (hopB q hm).1 (hfin q hq)) ((hall2.ext Ya).chg chb fun q hq hm => (hopB q hm).1 ?_)
          obtain ⟨y, hy, hqy⟩ := List.mem_flatten.1 hq
          exact List.mem_flatten.2 ⟨y, List.mem_of_mem_take hy, hqy⟩
        · simpa using hown2
        · rcases hp' with h1 | h1
          · exact hop q (by rw [<- h1]; exact hq)
          · have := h1 q hq
            exact ⟨fun hm => by have := hfs1 q hm; omega, by omega⟩
        · show pn - ((on : Int) + 1).toNat < pn - (on : Int).toNat
          omega
      · have hjn : on = pn := by omega
        subst hjn
        rw [hsh]
        have hfst : fs.take on = fs := List.take_of_length_le (by rw [hlens.2.2, numL_len]; omega)
        rw [hfst] at hall2
        refine ⟨op, on, oc, (op.map (·.block)).toList ++ fs.flatten, rfl, ⟨?_, cso, fs, ?_, hown, rfl, ?_⟩, (X6.trans hX1).trans hX2⟩
        · show (shL dx ws t).length = on
          simp [shL, hl]
        · show AllO W2 w.heap.size 2 cso (shL dx ws t) fs
          unfold shL
          rw [hl]; exact hall2
        · refine List.nodup_append.2 ⟨nodup_opt op, hnd2, fun a ha2 b hb2 e => ?_⟩
          exact (hop a (Option.mem_toList.1 ha2)).1 (e ▸ hb2)
end Go.Proofs.YtbgokfhcgcoipaaGreat
namespace Go.Proofs.YtbgokfhcgcoipaaGreat
open Go Go.Proofs.YtbgokfhcgcoipaaGreat.Sx
def LackIs (W r : Nat) (d : List D0) : Prop := ratOk d = true /\ ratNum d * (W : Int) = (r : Int) * (ratDen d : Int)
theorem lack_zero (W : Nat) : LackIs W 0 ratZeroD := ⟨zero_ok, by simp [ratZeroD, ratNum, ival, val]⟩
theorem sgn_pos (z : Int) : 0 < sgn z ↔ 0 < z := by unfold sgn; split <;> (try split) <;> omega
theorem lack_sign {W r : Nat} {d : List D0} (h : LackIs W r d) (hW : 0 < W) : 0 < rsign d ↔ 0 < r := by
  obtain ⟨ho, he⟩ := h
  obtain ⟨_, hd, _⟩ := ratOk_enc ho
  rw [rsign, if_pos ho, sgn_pos]
  constructor
  · intro hp
    have : 0 < ratNum d * (W : Int) := Int.mul_pos hp (by omega)
    rw [he] at this
    rcases Nat.eq_zero_or_pos r with h0 | h0
    · subst h0; simp at this
    · exact h0
  · intro hp
    have : 0 < ratNum d * (W : Int) := by rw [he]; exact Int.mul_pos (by omega) (by omega)
    rcases Int.lt_or_le 0 (ratNum d) with h0 | h0
    · exact h0
    · have := Int.mul_nonpos_of_nonpos_of_nonneg h0 (show (0 : Int) <= W by omega); omega
theorem lack_cmp {W r r' : Nat} {d d' : List D0} (h : LackIs W r d) (g : LackIs W r' d') (hW : 0 < W) : 0 < rcmp d d' ↔ r' < r := by
  obtain ⟨ho, he⟩ := h
  obtain ⟨go, ge⟩ := g
  obtain ⟨_, hd, _⟩ := ratOk_enc ho
  obtain ⟨_, gd, _⟩ := ratOk_enc go
  rw [rcmp, ho, go, Bool.and_self, if_pos rfl, sgn_pos]
  have e : (ratNum d * (ratDen d' : Int) - ratNum d' * (ratDen d : Int)) * (W : Int) = ((r : Int) - r') * ((ratDen d : Int) * (ratDen d' : Int)) := by
    have e1 : ratNum d * (ratDen d' : Int) * (W : Int) = (ratNum d * (W : Int)) * (ratDen d' : Int) := by rw [Int.mul_right_comm]
    have e2 : ratNum d' * (ratDen d : Int) * (W : Int) = (ratNum d' * (W : Int)) * (ratDen d : Int) := by rw [Int.mul_right_comm]
    rw [Int.sub_mul, e1, e2, he, ge, Int.sub_mul, Int.mul_assoc, Int.mul_assoc, Int.mul_comm (ratDen d' : Int)]
  have hp : 0 < (ratDen d : Int) * (ratDen d' : Int) := Int.mul_pos (by omega) (by omega)
  have hw : 0 < (W : Int) := by omega
  generalize ratNum d * (ratDen d' : Int) - ratNum d' * (ratDen d : Int) = A at *
  generalize (ratDen d : Int) * (ratDen d' : Int) = B at *
  constructor
  · intro h0
    have h1 : 0 < A * (W : Int) := Int.mul_pos h0 hw
    rw [e] at h1
    rcases Nat.lt_or_ge r' r with h2 | h2
    · exact h2
    · have := Int.mul_nonpos_of_nonpos_of_nonneg (show (r : Int) - r' <= 0 by omega) (Int.le_of_lt hp); omega
  · intro h0
    have h1 : 0 < ((r : Int) - r') * B := Int.mul_pos (by omega) hp
    rw [<- e] at h1
    rcases Int.lt_or_le 0 A with h2 | h2
    · exact h2
    · have := Int.mul_nonpos_of_nonpos_of_nonneg h2 (Int.le_of_lt hw); omega
theorem round0 (n : Int) (d : Nat) : roundM n d 0 = n.natAbs / d := by
  unfold roundM
  rw [if_neg]
  intro h
  have h2 := h.2
  simp [modeAway] at h2
theorem rest0 {n : Int} {d : Nat} : (n + -(rround n d 0) * (d : Int)).natAbs = n.natAbs % d := by
  have h1 := Nat.div_add_mod n.natAbs d
  have e : ∃ q : Nat, d * (n.natAbs / d) = q := ⟨_, rfl⟩
  obtain ⟨q, hq⟩ := e
  have hq2 : ((n.natAbs / d : Nat) : Int) * (d : Int) = (q : Int) := by rw [<- hq, Int.mul_comm]; push_cast; rfl
  unfold rround
  rw [round0]
  split
  · rw [Int.neg_neg, hq2]; omega
  · rw [Int.neg_mul, hq2]; omega
theorem red_parts (n : Int) {W : Nat} (hW : 0 < W) : (redN n W).natAbs / redD n W = n.natAbs / W /\ ∃ g, 0 < g /\ redD n W * g = W /\ (redN n W).natAbs % redD n W * g = n.natAbs % W := by
  rw [redN_abs]
  obtain ⟨g, hg⟩ : ∃ g, Nat.gcd n.natAbs W = g := ⟨_, rfl⟩
  have hg0 : 0 < g := by rw [<- hg]; exact gcd_pos_right hW
  have d1 : g ∣ n.natAbs := by rw [<- hg]; exact Nat.gcd_dvd_left _ _
  have d2 : g ∣ W := by rw [<- hg]; exact Nat.gcd_dvd_right _ _
  unfold redD
  rw [hg]
  have e1 : n.natAbs / g * g = n.natAbs := Nat.div_mul_cancel d1
  have e2 : W / g * g = W := Nat.div_mul_cancel d2
  refine ⟨?_, g, hg0, e2, ?_⟩
  · conv => rhs; rw [<- e1, <- e2]
    rw [Nat.mul_div_mul_right _ _ hg0]
  · conv => rhs; rw [<- e1, <- e2]
    rw [Nat.mul_mod_mul_right]
theorem lack_red {n x : Int} {W : Nat} (hW : 0 < W) (hx : x.natAbs = (redN n W).natAbs % redD n W) (e : List D0) (he : e = rmk (((redN x (redD n W)).natAbs : Nat) : Int) (redD x (redD n W))) (hok : redOk n W = true) : LackIs W (n.natAbs % W) e := by
  obtain ⟨_, g, hg0, h1, h2⟩ := red_parts n hW
  obtain ⟨N, hN⟩ : ∃ N, redN n W = N := ⟨_, rfl⟩
  obtain ⟨D, hD⟩ : ∃ D, redD n W = D := ⟨_, rfl⟩
  have hD0 : 0 < D := by rw [<- hD]; exact redD_pos hW
  have hDl : (digs D).length <= 18 := by
    simp only [redOk, Bool.and_eq_true, decide_eq_true_eq] at hok
    rw [<- hD]; exact hok.2
  rw [hN, hD] at h2
  rw [hD] at h1 he
  rw [hN, hD] at hx
  have hxD : x.natAbs < D := by rw [hx]; exact Nat.mod_lt _ hD0
  have l1 : (digs (redN x D).natAbs).length <= 18 := Nat.le_trans redN_len (Nat.le_trans (digs_mono_len (Nat.le_of_lt hxD)) hDl)
  have l2 : (digs (redD x D)).length <= 18 := Nat.le_trans redD_len hDl
  subst he
  refine ⟨ratOk_rmk (redD_pos hD0) ?_ (by rw [Int.natAbs_natCast]; exact l1) l2, ?_⟩
  · rw [Int.natAbs_natCast]; exact red_coprime hD0
  · rw [ratNum_rmk, ratDen_rmk, redN_abs]
    obtain ⟨k, hk⟩ : ∃ k, Nat.gcd x.natAbs D = k := ⟨_, rfl⟩
    have d1 : k ∣ x.natAbs := by rw [<- hk]; exact Nat.gcd_dvd_left _ _
    have d2 : k ∣ D := by rw [<- hk]; exact Nat.gcd_dvd_right _ _
    unfold redD
    rw [hk]
    have e1 : x.natAbs / k * k = x.natAbs := Nat.div_mul_cancel d1
    have e2 : D / k * k = D := Nat.div_mul_cancel d2
    have : x.natAbs / k * W = n.natAbs % W * (D / k) := by
      rw [<- h2, <- hx, <- h1]
      conv => lhs; rw [<- e2]
      conv => rhs; rw [<- e1]
      ac_rfl
    exact_mod_cast this
theorem spec_RatRest_g {w : World} {xs : List Value} {N : Int} {D : Nat} {m : Int} (h : Reps w xs (rmk N D)) (hok : ratOk (rmk N D) = true) (zlen : (digs (rr N D m).natAbs).length <= 18) (dok : redOk (N * ((1 : Nat) : Int) + -(rr N D m) * (D : Int)) (D * 1) = true) :
    Ret P n_spec_RatRest [.agg ⟨xs⟩, .int .i64 m] w fun v w' => ∃ vs1 f1 vs2 f2, v = .tuple #[.agg ⟨vs1⟩, .agg ⟨vs2⟩, .bool (modeOk m)] /\ Owns w' w.heap.size vs1 (enc (rr N D m)) f1 /\ f1.Nodup /\ Owns w' w.heap.size vs2 (rs N D m) f2 /\ f2.Nodup /\ (∀ k ∈ f1, k ∉ f2) /\ Ext w w' := by
  have hr := h
  obtain ⟨p1, n1, c1, p2, n2, c2, rfl, i1, i2, li1, li2, he, hd⟩ := rmk_open h hok
  refine spec_RatRest_ret ?_
  unfold spec_RatRest
  intro r w1 hn1 r1 w2 hn2 r2 w3 hn3
  have e1 := hn1.r_eq; have e2 := hn2.r_eq; have e3 := hn3.r_eq; have z1 := hn1.size; have z2 := hn2.size; have z3 := hn3.size
  have X := (hn1.ext.trans hn2.ext).trans hn3.ext
  have b0 := (hn1.blk.ext hn2.ext).ext hn3.ext; have b1 := hn2.blk.ext hn3.ext; have b2 := hn3.blk
  have zok := rmk_int_ok (show (digs (rr N D m).natAbs).length <= 18 by omega)
  have zred := redR_int (show (digs (rr N D m).natAbs).length <= 18 by omega)
  have zrok := redOk_small (n := rr N D m) (d := 1) (by omega) (Nat.le_trans one_len1 (by decide))
  refine ⟨_, _, _, _, _, _, _, b0.loadA0 (by kernel_rfl), ?_⟩
  refine Ret.at (spec_RatRound_n (m := m) (hr.ext X) hok) ?_
  rintro v w4 ⟨vs4, f4, hv, ho4, nd4, y4⟩
  subst hv
  have ho4 : Owns w4 w3.heap.size vs4 (enc (rr N D m)) f4 := ho4
  have hr4 := ho4.reps
  obtain ⟨s0, sp, sn, sc, sz, rfl, _, _⟩ := open_Signed hr4 (enc_code _)
  refine ⟨_, _, _, _, _, rfl, ?_⟩
  intro r3 w5 hn5
  have e5 := hn5.r_eq; have z5 := hn5.size; have l4 := y4.le
  obtain ⟨w6, st6, hb6, y6⟩ := hn5.fill (P := P) (t := T_impl_Signed) (xs := [.bool s0, .slice sp sn sc]) (by simp [Value.oneCell']) (by kernel_rfl) rfl
  have Y6 := y4.trans y6
  have l6 := y6.le
  have zero : ∀ W, Ext w6 W -> modeOk m = false -> ∃ W1, Stores P T_impl_Signed ⟨r1, 0, none⟩ (.agg ⟨[.bool false, .slice none 0 0]⟩) W W1 /\ ∃ W2, Stores P T_impl_Rat ⟨r2, 0, none⟩ (.agg ⟨[.bool false, .slice none 0 0, .slice none 0 0]⟩) W1 W2 /\ Loads P T_impl_Signed ⟨r1, 0, none⟩ (.agg ⟨[.bool false, .slice none 0 0]⟩) W2 /\ Loads P T_impl_Rat ⟨r2, 0, none⟩ (.agg ⟨[.bool false, .slice none 0 0, .slice none 0 0]⟩) W2 /\ Owns W2 w.heap.size [.bool false, .slice none 0 0] (enc (rr N D m)) [] /\ Owns W2 w.heap.size [.bool false, .slice none 0 0, .slice none 0 0] (rs N D m) [] /\ Ext w W2 := by
    intro W hW hno
    have q1 := (b1.ext Y6).ext hW; have q2 := (b2.ext Y6).ext hW
    obtain ⟨W1, W2, a1, _, a2, a3, a4, a5, a6, a7⟩ := two_end (t1 := T_impl_Signed) (t2 := T_impl_Rat) q1 q2 ((X.trans Y6).trans hW) (own_sgn0 W (r2 + 1)) (own_rat0 W (r2 + 1)) (by kernel_rfl) rfl (by kernel_rfl) rfl (by omega) (by omega) (by omega) (by omega) (by omega) (by omega)
    have z1' : rr N D m = 0 := by rw [rr, hno]; rfl
    have z2' : rs N D m = rat0 := by rw [rs, hno]; rfl
    rw [z1', z2']
    exact ⟨W1, a1, W2, a2, a3, a4, a5, a6, a7⟩
  refine ⟨w6, st6, ?_⟩
  have hr6 : Reps w6 [.bool s0, .slice sp sn sc] (enc (rr N D m)) := hr4.ext y6
  refine ⟨_, _, _, _, hb6.loadA0 (by kernel_rfl), ?_⟩
  refine Ret.at (spec_RatInt_n hr6 (by omega)) ?_
  rintro v w7 ⟨vs7, f7, hv, ho7, _, y7⟩
  subst hv
  rw [zred] at ho7
  rw [zrok]
  have hr7 := ho7.reps
  obtain ⟨u0, up, un, uc, uz, up2, un2, uc2, uz2, rfl, _, _, _⟩ := open_Rat hr7 (rmk_code _ _)
  refine ⟨_, _, _, _, _, _, _, _, rfl, ?_⟩
  intro r4 w8 hn8
  have e8 := hn8.r_eq; have z8 := hn8.size; have l7 := y7.le
  obtain ⟨w9, st9, hb9, y9⟩ := hn8.fill (P := P) (t := T_impl_Rat) (xs := [.bool u0, .slice up un uc, .slice up2 un2 uc2]) (by simp [Value.oneCell']) (by kernel_rfl) rfl
  have l9 := y9.le
  have Y9 := (Y6.trans y7).trans y9
  refine ⟨w9, st9, _, _, _, _, _, _, _, (b0.ext Y9).loadA0 (by kernel_rfl), _, _, _, _, _, _, _, hb9.loadA0 (by kernel_rfl), ?_⟩
  refine Ret.at (spec_RatSub_n (hr.ext (X.trans Y9)) (hr7.ext y9) hok zok) ?_
  rintro v w10 ⟨vs10, f10, hv, ho10, nd10, y10⟩
  subst hv
  rw [dok]
  have hr10 := ho10.reps
  obtain ⟨g0, gp, gn, gc, gz, gp2, gn2, gc2, gz2, rfl, _, _, _⟩ := open_Rat hr10 (redR_code _ _)
  refine ⟨_, _, _, _, _, _, _, _, rfl, ?_⟩
  intro r5 w11 hn11
  have e11 := hn11.r_eq; have z11 := hn11.size; have l10 := y10.le
  obtain ⟨w12, st12, hb12, y12⟩ := hn11.fill (P := P) (t := T_impl_Rat) (xs := [.bool g0, .slice gp gn gc, .slice gp2 gn2 gc2]) (by simp [Value.oneCell']) (by kernel_rfl) rfl
  have D' := Ext.drew w12
  have Y12 := ((Y9.trans y10).trans y12).trans D'
  have T12 := (((y7.trans y9).trans y10).trans y12).trans D'
  have q1 := b1.ext Y12; have q2 := b2.ext Y12
  have k3 := hb6.ext T12; have k5 := hb12.ext D'
  have o1 := (ho4.ext y6).ext T12
  have o2 := ((ho10.ext y12).ext D').mono (show w3.heap.size <= w9.heap.size by omega)
  have dis : ∀ k ∈ f4, k ∉ f10 := fun k hk hm => by
    have a := (ho4.lt k hk).2
    have b := (ho10.lt k hm).1
    omega
  refine ⟨w12, st12, ?_⟩
  refine ifN (fun hno => ifT (ifT ?_)) (fun hyes => ifN (fun hh => absurd hh (by simp)) (fun _ => ifN (fun hh => absurd hh (by simp)) (fun _ => ?_)))
  · obtain ⟨W1, a1, W2, a2, a3, a4, a5, a6, a7⟩ := zero _ (((y7.trans y9).trans y10).trans y12) hno
    exact ⟨W1, a1, W2, a2, _, _, _, _, a3, _, _, _, _, _, _, _, a4, _, [], _, [], by rw [hno], a5, List.nodup_nil, a6, List.nodup_nil, fun k hk => by simp at hk, a7⟩
  obtain ⟨W1, W2, a1, ch1, a2, a3, a4, a5, a6, a7⟩ := two_end (t1 := T_impl_Signed) (t2 := T_impl_Rat) q1 q2 (X.trans Y12) o1 o2 (by kernel_rfl) rfl (by kernel_rfl) rfl (by omega) (by omega) (by omega) (by omega) (by omega) (by omega)
  have z1' : rr N D m = rround N D m := by rw [rr, hyes]; rfl
  have z2' : rs N D m = restR N D m := by rw [rs, hyes]; rfl
  refine ⟨[r1], _, _, _, _, fun W hW => (k3.chg (show Chg [r1] w12.drew W from hW) (by simp; omega)).loadA0 (by kernel_rfl), _, _, _, _, _, _, _, fun W hW => (k5.chg (show Chg [r1] w12.drew W from hW) (by simp; omega)).loadA0 (by kernel_rfl), W1, a1, show Chg [r1] w12.drew W1 from ch1, W2, a2, _, _, _, _, a3, _, _, _, _, _, _, _, a4, _, f4, _, f10, by rw [hyes], a5, nd4, ?_, nd10, dis, a7⟩
  rw [z2', restR, <- z1']
  exact a6
theorem spec_l12Size_c {w : World} {xs : List Value} {n : Int} {W : Nat} (h : Reps w xs (redR n W)) (hok : redOk n W = true) (hW : 0 < W) :
    Ret P n_spec_l12Size [.agg ⟨xs⟩] w fun v w' => ∃ vs f d, v = .agg ⟨vs⟩ /\ Owns w' w.heap.size vs d f /\ LackIs W (n.natAbs % W) d /\ Ext w w' := by
  have hrok := redR_ok hW hok
  have hrm : redR n W = rmk (redN n W) (redD n W) := by rw [redR, if_pos hok]
  rw [hrm] at h hrok
  obtain ⟨g1, g, hg0, g2, g3⟩ := red_parts n hW
  obtain ⟨x, hx⟩ : ∃ x, redN n W * ((1 : Nat) : Int) + -(rround (redN n W) (redD n W) 0) * (redD n W : Int) = x := ⟨_, rfl⟩
  have hxa : x.natAbs = (redN n W).natAbs % redD n W := by
    rw [<- hx]
    have := rest0 (n := redN n W) (d := redD n W)
    rwa [show redN n W * ((1 : Nat) : Int) = redN n W by simp]
  have key := lack_red hW hxa
  have hdp := redD_pos (n := n) hW
  have hlens := hok
  simp only [redOk, Bool.and_eq_true, decide_eq_true_eq] at hlens
  obtain ⟨ln, ld⟩ := hlens
  rw [<- redN_abs] at ln
  have ld : (digs (redD n W)).length <= 18 := ld
  obtain ⟨N, hN⟩ : ∃ N, redN n W = N := ⟨_, rfl⟩
  obtain ⟨D, hD⟩ : ∃ D, redD n W = D := ⟨_, rfl⟩
  rw [hN, hD] at hx hxa h hrok
  rw [hD] at key hdp ld
  rw [hN] at ln
  have hxD : x.natAbs < D := by rw [hxa]; exact Nat.mod_lt _ hdp
  have lx : (digs x.natAbs).length <= 18 := Nat.le_trans (digs_mono_len (Nat.le_of_lt hxD)) ld
  have xok : redOk x D = true := redOk_small lx ld
  have hr := h
  obtain ⟨a0, ap, an, ac, az, ap2, an2, ac2, az2, rfl, _, _, _⟩ := open_Rat h (rmk_code _ _)
  refine spec_l12Size_ret ?_
  unfold spec_l12Size
  intro r w1 hn1 r1 w2 hn2
  have e1 := hn1.r_eq; have e2 := hn2.r_eq; have z1 := hn1.size; have z2 := hn2.size
  have X := hn1.ext.trans hn2.ext
  have b0 := hn1.blk.ext hn2.ext; have b1 := hn2.blk
  refine ⟨_, _, _, _, _, _, _, b0.loadA0 (by kernel_rfl), ?_⟩
  have hrs : rs N D 0 = redR x D := by
    have : rs N D 0 = restR N D 0 := rfl
    rw [this, restR, hx, Nat.mul_one]
  refine Ret.at (spec_RatRest_g (m := 0) (hr.ext X) hrok (by
      show (digs (rround N D 0).natAbs).length <= 18
      rw [rround_abs, round0]
      exact Nat.le_trans (digs_mono_len (Nat.div_le_self _ _)) ln) (by
      show redOk (N * ((1 : Nat) : Int) + -(rround N D 0) * (D : Int)) (D * 1) = true
      rw [hx, Nat.mul_one]; exact xok)) ?_
  rintro v w3 ⟨vs1, f1, vs2, f2, hv, ho1, nd1, ho2, nd2, hdis, y3⟩
  subst hv
  rw [hrs] at ho2
  obtain ⟨s0, sp, sn, sc, sz, rfl, _, _⟩ := open_Signed ho1.reps (enc_code _)
  obtain ⟨c0, cp, cn, cc, cz, cp2, cn2, cc2, cz2, rfl, _, _, _⟩ := open_Rat ho2.reps (redR_code _ _)
  refine ⟨_, _, _, _, _, _, _, _, _, _, _, _, rfl, ?_⟩
  intro r2 w4 hn4 r3 w5 hn5
  have e4 := hn4.r_eq; have e5 := hn5.r_eq; have z4 := hn4.size; have z5 := hn5.size; have l3 := y3.le
  obtain ⟨w6, st6, hb6, ch6, _⟩ := (hn4.blk.ext hn5.ext).storeA0 (P := P) (t := T_impl_Signed) (xs := [.bool s0, .slice sp sn sc]) (by kernel_rfl) rfl (by simp [Value.oneCell'])
  have y6 : Ext w3 w6 := (hn4.ext.trans hn5.ext).chg ch6 (by simp; omega)
  have hb5 : Blk w6 r3 T_impl_Rat _ := hn5.blk.chg ch6 (by simp; omega)
  obtain ⟨w7, st7, hb7, ch7, _⟩ := hb5.storeA0 (P := P) (t := T_impl_Rat) (xs := [.bool c0, .slice cp cn cc, .slice cp2 cn2 cc2]) (by kernel_rfl) rfl (by simp [Value.oneCell'])
  have y7 : Ext w3 w7 := y6.chg ch7 (by simp; omega)
  have hn7 : w5.heap.size <= w7.heap.size := Nat.le_trans ch6.size ch7.size
  have ho7 := ho2.ext y7
  refine ⟨w6, st6, w7, st7, _, _, _, _, _, _, _, hb7.loadA0 (by kernel_rfl), ?_⟩
  refine Ret.at (spec_RatSign_c ho7.reps (redR_code _ _)) ?_
  rintro v w8 ⟨rfl, y8⟩
  have l8 := y8.le
  have xrok := redR_ok hdp xok
  have hxm : redR x D = rmk (redN x D) (redD x D) := by rw [redR, if_pos xok]
  have Y8 := (X.trans y3).trans (y7.trans y8)
  have fin : ∀ (W1 : World) (vs : List Value) (f : List Nat), Ext w W1 -> w7.heap.size <= W1.heap.size -> Blk W1 r3 T_impl_Rat vs -> Blk W1 r1 T_impl_Rat [.bool false, .slice none 0 0, .slice none 0 0] -> (∀ k ∈ f, r3 ≠ k /\ r1 < k) -> Owns W1 (r1 + 1) vs (rmk (((redN x D).natAbs : Nat) : Int) (redD x D)) f ->
      spec_l12Size_j0 r1 r3 W1 fun v w' => ∃ vs f d, v = .agg ⟨vs⟩ /\ Owns w' w.heap.size vs d f /\ LackIs W (n.natAbs % W) d /\ Ext w w' := by
    intro W1 vs f XW hle q3 q1 hdf ho
    obtain ⟨t0, tp, tn, tc, tz, tp2, tn2, tc2, tz2, rfl, _, _, _⟩ := open_Rat ho.reps (rmk_code _ _)
    unfold spec_l12Size_j0
    obtain ⟨W', st', ld', ow', xx', _, _⟩ := agg_end (t := T_impl_Rat) q1 XW (by omega) ho (by kernel_rfl) rfl (by omega) (by omega)
    exact ⟨_, _, _, _, _, _, _, q3.loadA0 (by kernel_rfl), W', st', _, _, _, _, _, _, _, ld', _, f, _, rfl, ow', key _ rfl hok, xx'⟩
  have hb1 : Blk w8 r1 T_impl_Rat _ := (b1.ext (y3.trans y7)).ext y8
  refine ⟨_, rfl, ifD (fun hneg => ?_) (fun hpos => ?_)⟩
  · have hrn : redN x D < 0 := by
      rw [rsign, if_pos xrok, hxm, ratNum_rmk] at hneg
      unfold sgn at hneg
      split at hneg
      · assumption
      · split at hneg <;> omega
    refine ⟨_, _, _, _, _, _, _, (hb7.ext y8).loadA0 (by kernel_rfl), ?_⟩
    refine Ret.at (spec_RatNeg_c (ho7.ext y8).reps (redR_code _ _) xrok) ?_
    rintro v w9 ⟨vs9, f9, hv, ho9, y9⟩
    subst hv
    rw [hxm, ratNum_rmk, ratDen_rmk, show -(redN x D) = (((redN x D).natAbs : Nat) : Int) by omega] at ho9
    obtain ⟨t0, tp, tn, tc, tz, tp2, tn2, tc2, tz2, rfl, _, _, _⟩ := open_Rat ho9.reps (rmk_code _ _)
    obtain ⟨w10, st10, hb10, ch10, _⟩ := ((hb7.ext y8).ext y9).storeA0 (P := P) (t := T_impl_Rat) (xs := [.bool t0, .slice tp tn tc, .slice tp2 tn2 tc2]) (by kernel_rfl) rfl (by simp [Value.oneCell'])
    have l9 := y9.le
    have lt9 := ho9.lt
    refine ⟨_, _, _, _, _, _, _, _, rfl, w10, st10, ?_⟩
    refine fin w10 _ f9 ((Y8.trans y9).chg ch10 (by simp; omega)) (Nat.le_trans (Nat.le_trans l8 l9) ch10.size) hb10 ((hb1.ext y9).chg ch10 (by simp; omega)) (fun k hk => ?_) ((ho9.chg1 ch10 (by omega)).mono (by omega))
    have := lt9 k hk; exact ⟨by omega, by omega⟩
  · have hrn : 0 <= redN x D := by
      rw [rsign, if_pos xrok, hxm, ratNum_rmk] at hpos
      unfold sgn at hpos
      split at hpos
      · omega
      · omega
    have lt2 := ho2.lt
    refine fin w8 _ f2 Y8 l8 (hb7.ext y8) hb1 (fun k hk => ?_) ?_
    · have := lt2 k hk; exact ⟨by omega, by omega⟩
    · have := (ho7.ext y8).mono (show r1 + 1 <= w2.heap.size by omega)
      rw [hxm] at this
      rw [show (((redN x D).natAbs : Nat) : Int) = redN x D by omega]
      exact this
end Go.Proofs.YtbgokfhcgcoipaaGreat
namespace Go.Proofs.YtbgokfhcgcoipaaGreat
open Go Go.Proofs.YtbgokfhcgcoipaaGreat.Sx
def isumGo (l : List (List D0)) : List D0 := l.foldl iadd (enc 0)
def isum (l : List (List D0)) : List D0 := if l.all intOk then isumGo l else enc 0
theorem isumGo_ok : ∀ (l : List (List D0)), intOk (isumGo l) = true /\ (isumGo l).map D0.code = [.bool, .ints] := by
  have key : ∀ (l : List (List D0)) (t : List D0), intOk t = true -> t.map D0.code = [.bool, .ints] -> intOk (l.foldl iadd t) = true /\ (l.foldl iadd t).map D0.code = [.bool, .ints] := by
    intro l
    induction l with
    | nil => intro t h1 h2; exact ⟨h1, h2⟩
    | cons a r ih => intro t h1 h2; exact ih _ (iadd_ok _ _) (iadd_code _ _)
  intro l
  exact key l _ enc0_ok rfl
theorem isumGo_take (l : List (List D0)) {j : Nat} (hj : j < l.length) : isumGo (l.take (j + 1)) = iadd (isumGo (l.take j)) l[j] := by
  rw [List.take_add_one, List.getElem?_eq_getElem hj, Option.toList_some]
  unfold isumGo
  rw [List.foldl_append]; rfl
def AllR (w : World) (k : Nat) : List (List Value) -> List (List D0) -> Prop
  | [], [] => True
  | cs :: css, x :: l => cs.length = k /\ Reps w cs x /\ AllR w k css l
  | _, _ => False
theorem AllR.ext {w w' : World} {k : Nat} : ∀ {css : List (List Value)} {l : List (List D0)}, AllR w k css l -> Ext w w' -> AllR w' k css l
  | [], [], _, _ => trivial
  | _ :: _, _ :: _, h, e => ⟨h.1, h.2.1.ext e, AllR.ext h.2.2 e⟩
  | [], _ :: _, h, _ => h.elim
  | _ :: _, [], h, _ => h.elim
theorem AllR.snoc {w : World} {k : Nat} {cs : List Value} {x : List D0} (hc : cs.length = k) (hr : Reps w cs x) : ∀ {css : List (List Value)} {l : List (List D0)}, AllR w k css l -> AllR w k (css ++ [cs]) (l ++ [x])
  | [], [], _ => ⟨hc, hr, trivial⟩
  | _ :: _, _ :: _, h => ⟨h.1, h.2.1, AllR.snoc hc hr h.2.2⟩
  | [], _ :: _, h => h.elim
  | _ :: _, [], h => h.elim
theorem AllR.at {w : World} {k : Nat} : ∀ {css : List (List Value)} {l : List (List D0)}, AllR w k css l -> ∀ i x, l[i]? = some x -> ∃ cs, cs.length = k /\ Reps w cs x /\ (css.flatten.drop (i * k)).take k = cs
  | [], [], _, i, x, hx => by simp at hx
  | cs :: css, y :: l, h, i, x, hx => by
    cases i with
    | zero =>
      simp only [List.getElem?_cons_zero, Option.some.injEq] at hx
      subst hx
      refine ⟨cs, h.1, h.2.1, ?_⟩
      rw [Nat.zero_mul, List.drop_zero, List.flatten_cons, <- h.1, List.take_left]
    | succ i =>
      simp only [List.getElem?_cons_succ] at hx
      obtain ⟨c, h1, h2, h3⟩ := AllR.at h.2.2 i x hx
      refine ⟨c, h1, h2, ?_⟩
      rw [List.flatten_cons, Nat.succ_mul, Nat.add_comm, <- List.drop_drop, <- h.1, List.drop_left, h.1]
      exact h3
  | [], _ :: _, h, _, _, _ => h.elim
  | _ :: _, [], h, _, _, _ => h.elim
end Go.Proofs.YtbgokfhcgcoipaaGreat
namespace Go.Proofs.YtbgokfhcgcoipaaGreat
open Go Go.Shelf
def ren212 : Ren := ⟨fun x => match x with | 212 => 53 | 263 => 78 | 264 => 79 | n => n, fun x => match x with | 46 => 77 | 51 => 95 | 146 => 96 | 53 => 89 | 148 => 98 | n => n, fun x => x⟩
theorem lays212 : Lays.n212 Tryz.prog ren212 := {
  mixed := by kernel_rfl,
  f212 := Tryz.func53.trans (congrArg some (by kernel_rfl)),
  f263 := Tryz.func78.trans (congrArg some (by kernel_rfl)),
  f264 := Tryz.func79.trans (congrArg some (by kernel_rfl)),
  t46 := Tryz.underlying77,
  a46 := Tryz.isAgg77,
  z46 := Tryz.sizeOf77,
  v46 := Tryz.zeroValue77,
  t51 := Tryz.underlying95,
  a51 := Tryz.isAgg95,
  z51 := Tryz.sizeOf95,
  v51 := Tryz.zeroValue95,
  t53 := Tryz.underlying89,
  a53 := Tryz.isAgg89,
  z53 := Tryz.sizeOf89,
  v53 := Tryz.zeroValue89,
  t146 := Tryz.underlying96,
  a146 := Tryz.isAgg96,
  z146 := Tryz.sizeOf96,
  v146 := Tryz.zeroValue96,
  t148 := Tryz.underlying98,
  a148 := Tryz.isAgg98,
  z148 := Tryz.sizeOf98,
  v148 := Tryz.zeroValue98 }
end Go.Proofs.YtbgokfhcgcoipaaGreat
namespace Go.Proofs.YtbgokfhcgcoipaaGreat
open Go Go.Proofs.YtbgokfhcgcoipaaGreat.Sx
def oneRow (k n : Nat) : List Value := (List.replicate k (1 : Int)).map (Value.int .i64) ++ (List.replicate (n - k) (0 : Int)).map (Value.int .i64)
theorem oneRow_len {k n : Nat} (h : k <= n) : (oneRow k n).length = n := by simp [oneRow]; omega
theorem oneRow_get {k n j : Nat} {v : Value} (h : ((List.replicate k (1 : Int)).map (Value.int .i64))[j]? = some v) : (oneRow k n)[j]? = some v := by
  have hl := (List.getElem?_eq_some_iff.1 h).1
  unfold oneRow
  rw [List.getElem?_append_left hl]; exact h
theorem oneRow_put {k m n : Nat} (h : k + m <= n) : (oneRow k n).take k ++ (List.replicate m (1 : Int)).map (Value.int .i64) ++ (oneRow k n).drop (k + ((List.replicate m (1 : Int)).map (Value.int .i64)).length) = oneRow (k + m) n := by
  unfold oneRow
  rw [List.take_append_of_le_length (by simp), List.take_of_length_le (by simp)]
  rw [List.drop_append, List.drop_of_length_le (by simp), List.nil_append]
  simp only [List.length_map, List.length_replicate, List.map_replicate, List.drop_replicate]
  rw [List.replicate_append_replicate, show n - k - (k + m - k) = n - (k + m) by omega]
theorem slices_Repeat_c {w : World} {b o c : Nat} (hx : Seg w b o [.int .i64 1]) {n : Nat} (h1 : 1 <= n) (h2 : n <= 30) :
    Ret P n_slices_Repeat_int_int [.slice (some ⟨b, o, none⟩) 1 c, .int .i64 n] w fun v w' => ∃ r, v = .slice (some ⟨r, 0, none⟩) n n /\ w.heap.size <= r /\ Blk w' r T_int ((List.replicate n (1 : Int)).map (Value.int .i64)) /\ Ext w w' := by
  refine slices_Repeat_int_int_ret ?_
  unfold slices_Repeat_int_int
  refine ifD (fun h => by omega) (fun _ => ?_)
  have wu : ∀ z : Int, 0 <= z -> z < 1000 -> IntKind.wrap .u64 z = z := fun z h0 h1 => by rw [IntKind.wrap_u64]; omega
  refine ⟨_, rfl, _, rfl, ?_⟩
  rw [wu _ (by omega) (by omega), wu _ (by omega) (by omega)]
  refine Ret.at (Any.bits_Mul lays212 1 n (by omega) (by omega) w |>.mono fun e w' ⟨he, hw⟩ => ⟨_, he, ⟨rfl, hw⟩⟩ : Ret P 53 [.int .u64 ((1 : Nat) : Int), .int .u64 ((n : Nat) : Int)] w fun v w' => v = .tuple #[.int .u64 ((1 * n / 18446744073709551616 : Nat) : Int), .int .u64 ((1 * n % 18446744073709551616 : Nat) : Int)] /\ w' = w) ?_
  rintro v w0 ⟨hv, hw⟩
  subst hv; subst hw
  refine ⟨_, _, rfl, ifD (fun h => absurd h (by rw [Nat.one_mul, Nat.div_eq_of_lt (by omega)]; simp)) (fun _ => ifD (fun h => absurd h (by rw [Nat.one_mul, Nat.mod_eq_of_lt (by omega)]; omega)) (fun _ => ?_))⟩
  unfold slices_Repeat_int_int_j0
  rw [show ((1 * n % 18446744073709551616 : Nat) : Int) = (n : Int) by rw [Nat.one_mul, Nat.mod_eq_of_lt (by omega)]]
  refine exW ⟨by omega, by omega⟩ ⟨⟨by omega, by omega, by omega⟩, ?_⟩
  intro r w1 hn1
  have e1 := hn1.r_eq; have s1 := hn1.size
  have hb0 := hn1.blk
  rw [zeroRow_int, Nat.mul_one, Int.toNat_natCast] at hb0
  have hb0 : Blk w1 r T_int (oneRow 0 n) := by
    have e : oneRow 0 n = List.replicate n (Value.int .i64 0) := by simp [oneRow]
    rw [e]; exact hb0
  rw [Int.toNat_natCast]
  have hm1 : Nat.min 1 n = 1 := Nat.min_eq_left h1
  obtain ⟨w2, hC2, hb2, ch2, sz2⟩ := copies_row (P := P) (dT := T_s_int) (sT := T_s_int) (e := T_int) (size := 1) (o := 0) (dLen := n) (dCap := n) (sLen := 1) (sCap := c) (cs := (List.replicate 1 (1 : Int)).map (Value.int .i64)) (a := ⟨b, o, none⟩) (by kernel_rfl) (by kernel_rfl) hb0
    (by rw [hm1]; simp) (fun j v hj => by
      have := (hx.ext hn1.ext) j v hj
      rw [addr_add]; exact this) (by rw [oneRow_len (by omega)]; simp; omega) (by simp [Value.oneCell'])
  have hput := oneRow_put (k := 0) (m := 1) (n := n) (by omega)
  rw [hput] at hb2
  have hm : Nat.min 1 n = 1 := Nat.min_eq_left h1
  rw [hm] at hC2
  have X2 : Ext w0 w2 := hn1.ext.chg ch2 (fun q hq => by have := List.mem_singleton.1 hq; omega)
  refine ⟨_, w2, hC2, ?_⟩
  refine ⟨fun z W => ∃ k : Nat, z = k /\ 1 <= k /\ k <= n /\ Blk W r T_int (oneRow k n) /\ Ext w0 W, fun z _ => n - z.toNat, ⟨1, rfl, by omega, h1, hb2, X2⟩, ?_⟩
  rintro junk W z ⟨k, rfl, hk1, hkn, hb, hX⟩
  refine ifD (fun hlt => ?_) (fun hge => ?_)
  · have hmin : Nat.min k (n - k) <= k /\ k + Nat.min k (n - k) <= n /\ 1 <= Nat.min k (n - k) := by
      have : Nat.min k (n - k) = min k (n - k) := rfl
      rw [this]; omega
    obtain ⟨m, hmm⟩ : ∃ m, Nat.min k (n - k) = m := ⟨_, rfl⟩
    rw [hmm] at hmin
    have hbd := hb.ext (Ext.drew W)
    obtain ⟨w4, hC4, hb4, ch4, sz4⟩ := copies_row (P := P) (w := W.drew) (dT := T_s_int) (sT := T_s_int) (e := T_int) (size := 1) (o := k) (dLen := n - k) (dCap := n - k) (sLen := k) (sCap := n) (cs := (List.replicate m (1 : Int)).map (Value.int .i64)) (a := ⟨r, 0, none⟩) (by kernel_rfl) (by kernel_rfl) hbd
      (by rw [hmm]; simp) (fun j v hj => by
        have hj2 : ((List.replicate k (1 : Int)).map (Value.int .i64))[j]? = some v := by
          have hl := (List.getElem?_eq_some_iff.1 hj).1
          have hl' : j < m := by simpa using hl
          simp only [List.getElem?_map, List.getElem?_replicate] at hj ⊢
          rw [if_pos hl'] at hj
          rw [if_pos (show j < k by omega)]
          exact hj
        have := hbd.seg j v (oneRow_get hj2)
        rw [addr_add]; exact this) (by rw [oneRow_len hkn]; simp; omega) (by simp [Value.oneCell'])
    rw [oneRow_put hmin.2.1] at hb4
    rw [hmm] at hC4
    have ea : sub (some ⟨r, 0, none⟩) ((k : Nat) : Int).toNat n 1 = some ⟨r, k, none⟩ ∨ k = n := by
      rcases Nat.eq_or_lt_of_le hkn with h | h
      · exact .inr h
      · left
        unfold sub
        rw [if_neg (by omega)]
        rw [Option.map_some, addr_add, Int.toNat_natCast, Nat.mul_one, Nat.zero_add]
    rcases ea with ea | ea
    · have eb : sub (some ⟨r, 0, none⟩) 0 n 1 = some ⟨r, 0, none⟩ := by
        unfold sub
        split
        · rfl
        · simp [Addr.add]
      refine ⟨⟨by omega, by omega⟩, ⟨by omega, by omega⟩, (m : Int), w4, ?_, ?_⟩
      · rw [ea, eb, Int.toNat_natCast, Nat.sub_zero, Nat.sub_zero]
        exact hC4
      · refine exW ⟨by omega, by omega⟩ ⟨⟨k + m, by omega, by omega, by omega, hb4, ?_⟩, by show n - ((k : Int) + m).toNat < n - (k : Int).toNat; omega⟩
        exact (hX.trans (Ext.drew W)).chg ch4 (fun q hq => by have := List.mem_singleton.1 hq; omega)
    · omega
  · have hkn2 : k = n := by omega
    subst hkn2
    refine ⟨r, rfl, by omega, ?_, hX⟩
    have e : oneRow k k = (List.replicate k (1 : Int)).map (Value.int .i64) := by simp [oneRow]
    rw [e] at hb; exact hb
end Go.Proofs.YtbgokfhcgcoipaaGreat
namespace Go.Proofs.YtbgokfhcgcoipaaGreat.Sx
open Go Go.RowKit
theorem Fl.trans {os : List Obj} {ss : List (Option Nat)} {w : World} {s1 : List (Option Nat)} {w1 : World} {s2 : List (Option Nat)} {w2 : World} (h : Fl os ss w s1 w1) (g : Fl os s1 w1 s2 w2) : Fl os ss w s2 w2 := by
  induction h with
  | refl => exact g
  | step h1 h2 _ ih => exact .step h1 h2 (ih g)
theorem Fl.old {os : List Obj} {ss : List (Option Nat)} {w : World} {s1 : List (Option Nat)} {w1 : World} (h : Fl os ss w s1 w1) {k r : Nat} (hk : s1[k]? = some (some r)) : ss[k]? = some (some r) ∨ w.heap.size <= r := by
  induction h with
  | refl => exact .inl hk
  | step h1 h2 h3 ih =>
    rename_i ss w k' o s' w'
    have hs : (w.alloc o).heap.size = w.heap.size + 1 := by simp
    rcases ih hk with h | h
    · by_cases e : k' = k
      · subst e
        have hl : k' < ss.length := by
          rcases Nat.lt_or_ge k' ss.length with h | h
          · exact h
          · rw [List.getElem?_eq_none h] at h1; cases h1
        rw [List.getElem?_set_self hl] at h
        simp at h
        exact .inr (by omega)
      · rw [List.getElem?_set_ne e] at h
        exact .inl h
    · exact .inr (by omega)
def FlS (os : List Obj) (w0 : World) (ss : List (Option Nat)) (w : World) : Prop :=
 Ext w0 w /\ (∀ (k r : Nat), ss[k]? = some (some r) -> w0.heap.size <= r /\ r < w.heap.size /\ w.heap[r]? = os[k]?) /\ (∀ (k l r : Nat), ss[k]? = some (some r) -> ss[l]? = some (some r) -> k = l)
theorem FlS.ext {os : List Obj} {w0 w w' : World} {ss : List (Option Nat)} (h : FlS os w0 ss w) (y : Ext w w') : FlS os w0 ss w' :=
  ⟨h.1.trans y, fun k r hk => by
    obtain ⟨a, b, c⟩ := h.2.1 k r hk
    exact ⟨a, Nat.lt_of_lt_of_le b y.le, (y.block r b).trans c⟩, h.2.2⟩
theorem FlS.step {os : List Obj} {w0 w w' : World} {ss ss' : List (Option Nat)} (h : FlS os w0 ss w) (f : Fl os ss w ss' w') : FlS os w0 ss' w' := by
  induction f with
  | refl => exact h
  | step h1 h2 h3 ih =>
    rename_i ss w k' o s' w'
    refine ih ?_
    have y : Ext w (w.alloc o) := (Below.refl _ _).alloc (Nat.le_refl _) _
    have hs : (w.alloc o).heap.size = w.heap.size + 1 := by simp
    have hg : (w.alloc o).heap[w.heap.size]? = some o := heap_alloc_new w _
    have hl : k' < ss.length := by
      rcases Nat.lt_or_ge k' ss.length with h | h
      · exact h
      · rw [List.getElem?_eq_none h] at h1; cases h1
    have hx := h.ext y
    have hle := h.1.le
    refine ⟨hx.1, fun k r hk => ?_, fun k l r hk hl' => ?_⟩
    · by_cases e : k' = k
      · subst e
        rw [List.getElem?_set_self hl] at hk
        simp at hk
        subst hk
        exact ⟨hle, by omega, hg.trans h2.symm⟩
      · rw [List.getElem?_set_ne e] at hk
        exact hx.2.1 k r hk
    · by_cases e : k' = k
      · by_cases e2 : k' = l
        · omega
        · subst e
          rw [List.getElem?_set_self hl] at hk
          simp at hk
          subst hk
          rw [List.getElem?_set_ne e2] at hl'
          have := (h.2.1 l _ hl').2.1
          omega
      · rw [List.getElem?_set_ne e] at hk
        by_cases e2 : k' = l
        · subst e2
          rw [List.getElem?_set_self hl] at hl'
          simp at hl'
          subst hl'
          have := (h.2.1 k _ hk).2.1
          omega
        · rw [List.getElem?_set_ne e2] at hl'
          exact h.2.2 k l r hk hl'
theorem FlS.first {os : List Obj} {w0 w : World} {ss0 ss : List (Option Nat)} (f : Fl os ss0 w0 ss w) (h : ss0.all Option.isNone = true) : FlS os w0 ss w := by
  refine FlS.step ⟨Ext.refl _, fun k r hk => ?_, fun k l r hk _ => ?_⟩ f <;>
  · have hm := List.mem_of_getElem? hk
    have := List.all_eq_true.1 h _ hm
    simp at this
theorem FlS.blk {os : List Obj} {w0 w : World} {ss : List (Option Nat)} {k r : Nat} {cs : List Value} {e : TypeId} (h : FlS os w0 ss w) (hk : ss[k]? = some (some r)) (ho : os[k]? = some (.cells ⟨cs⟩ e (0, 0))) : w0.heap.size <= r /\ r < w.heap.size /\ Blk w r e cs := by
  obtain ⟨a, b, c⟩ := h.2.1 k r hk
  exact ⟨a, b, c.trans ho⟩
theorem FlS.ne {os : List Obj} {w0 w : World} {ss : List (Option Nat)} {k l r s : Nat} (h : FlS os w0 ss w) (hk : ss[k]? = some (some r)) (hl : ss[l]? = some (some s)) (e : k ≠ l) : r ≠ s := fun hh => e (h.2.2 k l r hk (hh ▸ hl))
theorem FlS.apart {os : List Obj} {w0 wc we w' : World} {ss ss' : List (Option Nat)} {k r : Nat} (h : FlS os w0 ss wc) (f : Fl os ss we ss' w') (hk : ss'[k]? = some (some r)) : r < wc.heap.size ∨ we.heap.size <= r := by
  rcases f.old hk with a | a
  · exact .inl (h.2.1 k r a).2.1
  · exact .inr a
end Go.Proofs.YtbgokfhcgcoipaaGreat.Sx
namespace Go.Proofs.YtbgokfhcgcoipaaGreat
open Go Go.Proofs.YtbgokfhcgcoipaaGreat.Sx
theorem laws_markSignedS_c {w : World} {B : Nat} {e : TypeId} {p : Option Addr} {n c : Nat} {l : List (List D0)} {f : List Nat} {k : Int} (h : OwnRows w B e 2 p n c l f) (hc : ∀ x ∈ l, x.map D0.code = [.bool, .ints]) (h0 : 0 <= k) (h1 : k + cntL l <= 1000000000000000000) :
    Ret P n_laws_markSignedS [.slice p n c, .int .i64 k] w fun v w' => v = .int .i64 (k + cntL l) /\ OwnRows w' B e 2 p n c (markL l k) f /\ Chg f w w' := by
  have hz := h.1; have hcap := h.rows.2.1; have hcm := h.rows.2.2.1
  refine laws_markSignedS_ret ?_
  unfold laws_markSignedS
  refine ⟨fun k1 i wr => ∃ j : Nat, i = j /\ j <= n /\ k1 = k + cntL (l.take j) /\ OwnRows wr B e 2 p n c (markL (l.take j) k ++ l.drop j) f /\ Chg f w wr, fun _ i _ => n - i.toNat, ⟨0, rfl, by omega, by simp [cntL], by simpa [markL] using h, Chg.refl _ _⟩, ?_⟩
  intro junk wr k1 i ⟨j, hij, hj, hk1, ho, hch⟩
  subst hij
  refine ifD (fun hlt => ?_) (fun hge => ?_)
  · have hjl : j < l.length := by omega
    obtain ⟨x, hxe⟩ : ∃ x, l[j]? = some x := ⟨_, List.getElem?_eq_getElem hjl⟩
    have hcode := hc x (List.mem_of_getElem? hxe)
    obtain ⟨hct, hcle⟩ := cntL_row hxe
    have hcn := cntL_nonneg (l.take j)
    obtain ⟨b, xs, cs, zs, fi, hp, hB, hA, hk, blk, ow, ndf, hbf, hbm, hfm, back⟩ := ho.focus (markL_at hxe)
    subst hp
    obtain ⟨a0, us, es, rfl, rfl, ow2, hcode2⟩ := ow.consBool hcode
    clear ow hcode; have ow := ow2; have hcode := hcode2; clear ow2 hcode2
    obtain ⟨a1p, a1n, a1c, a1z, us, es, f1, rfl, rfl, rfl, o1, ow2, hcode2⟩ := ow.consInts hcode
    clear ow hcode; have ow := ow2; have hcode := hcode2; clear ow2 hcode2
    obtain ⟨rfl, rfl, rfl⟩ := ow.done hcode
    simp only [cnts, D0.cnt] at hct hcle
    have z1 : a1z.length = a1n := by have := o1.len; simpa using this
    have m1 : ∀ q, a1p.map (·.block) = some q -> q ∈ ((a1p.map (·.block)).toList ++ ([] : List Nat)) := fun q hq => List.mem_append_left _ (mem_opt hq)
    have u1 : ∀ {W : World} {W2 : World} {zs : List Value}, Own W B T_int 1 a1p a1n a1c zs -> Chg [b] W W2 -> Own W2 B T_int 1 a1p a1n a1c zs := fun o ch => o.chg ch (fun q hq hm => hbf (List.mem_singleton.1 hm ▸ m1 q hq))
    have chT : Chg (b :: ((a1p.map (·.block)).toList ++ ([] : List Nat))) wr wr := Chg.refl _ _
    have sub1 : ∀ q ∈ [b], q ∈ b :: ((a1p.map (·.block)).toList ++ ([] : List Nat)) := fun q hq => by rw [List.mem_singleton.1 hq]; exact List.mem_cons_self
    refine ⟨by decide, _, rfl, ⟨by omega, by omega⟩, ?_⟩
    rw [Int.tmod_eq_emod_of_nonneg (show (0 : Int) <= k1 by omega)]
    obtain ⟨w1, st, blk2, ch, sz⟩ := blk.storeMid (P := P) (t := T_bool) (v := .bool (decide ((k1) % 3 = 0))) hA 0 (by simp) (by kernel_rfl) rfl rfl
    have blk : Blk w1 b e (xs ++ [.bool (decide ((k1) % 3 = 0)), .slice a1p a1n a1c] ++ zs) := blk2; clear blk2
    have chT := chT.trans (ch.mono sub1)
    have o1 := u1 o1 ch
    refine ⟨w1, (by simp only [addr_add, Int.toNat_natCast, Nat.zero_add, Nat.add_zero]; exact st), exW ⟨by omega, by omega⟩ ?_⟩
    refine ⟨⟨by omega, by omega⟩, _, _, _, (by simp only [addr_add, Int.toNat_natCast, Nat.zero_add, Nat.add_zero]; exact (blk.segMid hA).loadAt 1 rfl (by kernel_rfl) rfl), ?_⟩
    refine Ret.at (laws_markIntS_c o1 (by omega) (by omega)) ?_
    rintro v w2 ⟨hv, on, ch⟩
    subst hv
    have blk := blk.chg ch (fun hm => hbf (m1 _ (opt_mem hm)))
    have chT := chT.trans (ch.mono (fun q hq => List.mem_cons_of_mem _ (m1 q (opt_mem hq))))
    have o1 := on; clear on
    refine ⟨_, rfl, ?_⟩
    refine exW ⟨by omega, by omega⟩ ⟨⟨j + 1, by omega, by omega, by omega, ?_, hch.trans (chT.mono (fun q hq => ?_))⟩, ?_⟩
    · rw [<- markL_set hxe, <- hk1]
      have e : marks [.bool a0, .ints a1z] k1 = [.bool (decide ((k1) % 3 = 0)), .ints (mkI a1n (k1 + 1))] := by simp only [marks, D0.mark, D0.cnt, z1] <;> rfl
      rw [e]
      exact back _ [.bool (decide ((k1) % 3 = 0)), .slice a1p a1n a1c] _ chT rfl blk (Owns.append (Owns.bool _ _ _) (Owns.append (Owns.ints o1) (Owns.nil _ _)))
    · rcases List.mem_cons.1 hq with h | h
      · rw [h]; exact hbm
      · exact hfm q h
    · show n - ((j : Int) + 1).toNat < n - (j : Int).toNat
      omega
  · have hjn : j = n := by omega
    subst hjn
    rw [List.take_of_length_le (by omega), List.drop_of_length_le (by omega), List.append_nil] at ho
    rw [List.take_of_length_le (by omega)] at hk1
    exact ⟨by rw [hk1], ho, hch⟩
theorem laws_heldSignedS_c {w : World} {p : Option Addr} {n c : Nat} {l : List (List D0)} {k : Int} (h : RowsR w 2 p n c (markL l k)) (hc : ∀ x ∈ l, x.map D0.code = [.bool, .ints]) (h0 : 0 <= k) (h1 : k + cntL l <= 1000000000000000000) :
    Ret P n_laws_heldSignedS [.slice p n c, .int .i64 k] w fun v w' => v = .int .i64 (k + cntL l) /\ Ext w w' := by
  have hz : l.length = n := by have := h.1; rwa [markL_len] at this
  have hcap := h.2.1; have hcm := h.2.2.1
  refine laws_heldSignedS_ret ?_
  unfold laws_heldSignedS
  refine ⟨fun k1 i wr => ∃ j : Nat, i = j /\ j <= n /\ k1 = k + cntL (l.take j) /\ Ext w wr, fun _ i _ => n - i.toNat, ⟨0, rfl, by omega, by simp [cntL], Ext.refl _⟩, ?_⟩
  intro junk wr k1 i ⟨j, hij, hj, hk1, hx⟩
  subst hij
  refine ifD (fun hlt => ?_) (fun hge => ?_)
  · have hjl : j < l.length := by omega
    obtain ⟨x, hxe⟩ : ∃ x, l[j]? = some x := ⟨_, List.getElem?_eq_getElem hjl⟩
    have hcode := hc x (List.mem_of_getElem? hxe)
    obtain ⟨hct, hcle⟩ := cntL_row hxe
    have hcn := cntL_nonneg (l.take j)
    obtain ⟨b, off, hp, hs⟩ := (h.ext hx).2.2.2 (by omega)
    subst hp
    obtain ⟨cs, hk, hr, hsg⟩ := hs j _ (markL_get l k j x hxe)
    rw [<- hk1] at hr
    obtain ⟨s0, es, rfl, hcode2⟩ := code_bool hcode
    clear hcode; have hcode := hcode2; clear hcode2
    obtain ⟨z1, es, rfl, hcode2⟩ := code_ints hcode
    clear hcode; have hcode := hcode2; clear hcode2
    have hn := code_nil hcode; subst hn
    simp only [marks, D0.mark, D0.cnt] at hr
    simp only [cnts, D0.cnt] at hct hcle
    obtain ⟨a0, us, es, rfl, hd, hr2, hc2⟩ := hr.bool rfl
    cases hd
    clear hr hc2; have hr := hr2; clear hr2
    obtain ⟨a1p, a1n, a1c, a1z, us, es, rfl, hd, g1, hr2, hc2⟩ := hr.ints rfl
    cases hd
    clear hr hc2; have hr := hr2; clear hr2
    obtain ⟨hv, _⟩ := hr.done rfl
    subst hv
    have y1 : z1.length = a1n := by have := g1.1; rwa [mkI_len] at this
    rw [y1] at g1
    have X : Ext wr wr := Ext.refl _
    refine ⟨⟨by omega, by omega⟩, _, (by simp only [addr_add, Int.toNat_natCast, Nat.zero_add, Nat.add_zero]; exact (hsg.ext X).loadAt 0 rfl (by kernel_rfl) rfl), by decide, _, rfl, ?_⟩
    rw [Int.tmod_eq_emod_of_nonneg (show (0 : Int) <= k1 by omega)]
    refine ⟨fun h => absurd h (bne_no rfl), fun _ => exW ⟨by omega, by omega⟩ ?_⟩
    refine ⟨⟨by omega, by omega⟩, _, _, _, (by simp only [addr_add, Int.toNat_natCast, Nat.zero_add, Nat.add_zero]; exact (hsg.ext X).loadAt 1 rfl (by kernel_rfl) rfl), ?_⟩
    refine Ret.at (laws_heldIntS_c (n := a1n) (k := k1 + 1) (by have := g1.ext X;  exact this) (by omega) (by omega)) ?_
    rintro v w1 ⟨hv, y⟩
    subst hv
    have X := X.trans y
    refine ⟨_, rfl, ifD (fun h => absurd h (by omega)) (fun _ => ?_)⟩
    refine exW ⟨by omega, by omega⟩ ⟨⟨j + 1, by omega, by omega, by omega, hx.trans X⟩, ?_⟩
    show n - ((j : Int) + 1).toNat < n - (j : Int).toNat
    omega
  · have hjn : j = n := by omega
    subst hjn
    rw [List.take_of_length_le (by omega)] at hk1
    exact ⟨by rw [hk1], hx⟩
end Go.Proofs.YtbgokfhcgcoipaaGreat
namespace Go.Proofs.YtbgokfhcgcoipaaGreat.Sx
open Go Go.RowKit Go.ChangeShapes Go.WideShapes
def rowedV (P : Program) (ns : List String) : Bool := ns.all fun n => ((P.globalNamed n).bind (P.globals[·]?)).all fun gl => P.readableRec gl.type && decide (gl.type < P.types.size)
section
variable {H : Type} {enc : TypeId × Value -> H} {P : Program}
theorem trodAll_ext (hl : laidOutB P = true) {W W' : World} (hb : Ext W W') (sp' : Nat -> Bool) : ∀ {ts : List TypeId} {vs : List Value} {ds : List (DataW H)} {ps : List MemPlace},
    (∀ t ∈ ts, P.readableRec t = true /\ t < P.types.size) -> (∀ p ∈ ps, p.block < W.heap.size) -> (∀ p ∈ ps, sp' p.block = true) ->
    DataW.TrodAll enc P W 0 (fun _ => true) true ts vs ds ps -> DataW.TrodAll enc P W' 0 sp' true ts vs ds ps
  | [], _, _, _, _, _, _, h => by
    obtain ⟨rfl, rfl, rfl⟩ := trodAll_nil h
    exact rfl
  | t :: ts, _, _, _, hr, hlt, hsp, h => by
    obtain ⟨v, vs1, d, ds1, a, b, rfl, rfl, rfl, h1, h2⟩ := trodAll_cons h
    have hrt := hr t (by simp)
    exact ⟨a, b, WideElems.Trod_stays hl hrt.1 hrt.2 h1 (fun x hx => Below.same hb (hlt x (by simp [hx]))) (fun x hx => hsp x (by simp [hx])),
      trodAll_ext hl hb sp' (fun u hu => hr u (by simp [hu])) (fun x hx => hlt x (by simp [hx])) (fun x hx => hsp x (by simp [hx])) h2, rfl⟩
theorem trodVars_sp (hl : laidOutB P = true) {W W' : World} (hb : Ext W W') (sp' : Nat -> Bool) :
    ∀ {ns : List String} {gs : List (DataW H)} {ps : List MemPlace}, rowedV P ns = true -> (∀ p ∈ ps, sp' p.block = true) -> DataW.TrodVars enc P W (fun _ => true) ns gs ps -> DataW.TrodVars enc P W' sp' ns gs ps
  | [], [], _, _, _, h => h
  | [], _ :: _, _, _, _, h => h.elim
  | _ :: _, [], _, _, _, h => h.elim
  | n :: ns, d :: ds, ps, hv, hsp, h => by
    have hlt := h.lt
    obtain ⟨g, t, cs, fuel, p, q, h1, h2, h3, h4, hs, e⟩ := h
    simp only [rowedV, List.all_cons, Bool.and_eq_true] at hv
    have ht : P.readableRec t = true /\ t < P.types.size := by
      have := hv.1
      rw [h1] at this
      cases hg : P.globals[g]? with
      | none => rw [hg] at h2; cases h2
      | some gl =>
        rw [hg] at h2
        obtain rfl : gl.type = t := Option.some.inj h2
        simpa [hg] using this
    have hp : ∀ x ∈ p, x.block < W.heap.size := fun x hx => hlt x (by rw [e]; simp [hx])
    have h3' : W'.var? P n = some cs := by
      unfold World.var? at h3 ⊢
      rw [h1] at h3 ⊢
      simp only [Option.bind_some] at h3 ⊢
      have hg : g < W.heap.size := by
        cases hh : W.heap[g]? with
        | none => rw [hh] at h3; cases h3
        | some o => exact (Array.getElem?_eq_some_iff.1 hh).1
      rw [hb.block g hg]; exact h3
    exact ⟨g, t, cs, fuel, p, q, h1, h2, h3', DataW.trod_stays (kids_book hl ht.1) (book_sized ht.1) (fun h => by cases h) ⟨ht.2, book_self t⟩ h4 (fun x hx => Below.same hb (hp x hx)) (fun x hx => hsp x (by rw [e]; simp [hx])),
      trodVars_sp hl hb sp' (by simpa [rowedV] using hv.2) (fun x hx => hsp x (by rw [e]; simp [hx])) hs, e⟩
theorem post_of_ext {f : Func} {s : ChangeSpec} {apart fresh handsOn again : Bool} {W W' : World} {args : Array Value} {ds gs : List (DataW H)} {before : List MemPlace} {tb : TypeId}
    (hl : laidOutB P = true) (hpar : ∀ t ∈ f.params.toList, P.readableRec t = true /\ t < P.types.size) (hvr : rowedV P s.vars = true)
    (hrt : f.resultTypes = #[tb]) (htb : P.underlying tb = some .bool)
    (hW : DataW.Whole enc P f.params.toList s.vars apart W args.toList ds gs before) (hx : Ext W W')
    (hfn : s.fn H (ds ++ gs) = { results := [.lit (.bool true)], args := ds, vars := gs }) :
    s.post enc P f apart fresh handsOn again W args (.bool true) W' := by
  have hW0 := hW
  have hlt : ∀ p ∈ before, p.block < W.heap.size := hW.lt
  obtain ⟨pa, pv, hA, hV, rfl, hz, hn⟩ := hW
  have hlta : ∀ p ∈ pa, p.block < W.heap.size := fun p hp => hlt p (by simp [hp])
  have hltv : ∀ p ∈ pv, p.block < W.heap.size := fun p hp => hlt p (by simp [hp])
  have hr : (Value.bool true).resultList f.resultTypes.size = [Value.bool true] := by rw [hrt]; rfl
  refine ⟨ds, gs, pa ++ pv, [], pa, pv, hW0, ?_, ?_, ?_, Below.frame hx _, fun _ => ?_⟩
  · rw [hfn, hr, hrt]
    exact trodAll_mk1 (shut_bool htb _)
  · rw [hfn]
    exact trodAll_ext hl hx _ hpar hlta (fun p hp => by simpa using hlta p hp) hA
  · rw [hfn]
    exact trodVars_sp hl hx _ hvr (fun p hp => by simpa using hltv p hp) hV
  · refine ⟨?_, (.lit (.bool true)) :: ds, gs, pa ++ pv, ⟨[] ++ pa, pv, ?_, ?_, by simp, ?_, ?_⟩, fun p hp _ => hp⟩
    · rw [hr, hrt]
      exact ok_one (f := { f with resultTypes := #[tb] }) rfl rfl (okWide_bool_mk htb _)
    · rw [hr, hrt]
      exact trodAll_append (trodAll_ext hl hx _ hpar hlta (fun _ _ => rfl) hA) (trodAll_mk1 (shut_bool htb _))
    · exact trodVars_sp hl hx _ hvr (fun _ _ => rfl) hV
    · intro b off hp
      have := hlt _ hp
      rw [Below.frozen hx (p := ⟨b, off, none⟩) this]
      exact hz b off hp
    · exact hn
end
end Go.Proofs.YtbgokfhcgcoipaaGreat.Sx
namespace Go.Proofs.YtbgokfhcgcoipaaGreat.Sx
open Go Go.RowKit Go.ChangeShapes Go.WideShapes
def flatF (P : Program) (g : TypeId -> Option (List C0)) : Nat -> List Field -> Option (List C0)
  | _, [] => some []
  | o, f :: r => match Nat.beq f.offset o, g f.type with
    | true, some a => match Nat.beq (P.cellsOf f.type) a.length, flatF P g (o + a.length) r with
      | true, some b => some (a ++ b)
      | _, _ => none
    | _, _ => none
def flatC (P : Program) : Nat -> TypeId -> Option (List C0)
  | 0, _ => none
  | n + 1, t => match P.underlying t with
    | some .bool => some [.bool]
    | some (.int .i64) => some [.int]
    | some .string => some [.str]
    | some (.slice e) => match P.underlying e, P.cellsOf e with
      | some (.int .i64), 1 => some [.ints]
      | _, _ => none
    | some (.struct fs) => match flatF P (flatC P n) 0 fs.toList with
      | some a => if Nat.beq (P.cellsOf t) a.length then some a else none
      | none => none
    | _ => none
section
variable {H : Type} {enc : TypeId × Value -> H} {P : Program} {w : World}
theorem spot_none {a : Addr} {v : Value} (h : w.cell? a = some v) : a = ⟨a.block, a.off, none⟩ := by
  obtain ⟨b, o, spot⟩ := a
  have : spot = none := by simpa using World.cell?_spot h
  subst this; rfl
theorem ints_of_trod {t e : TypeId} {fuel : Nat} {sp : Nat -> Bool} {hd : Bool} {cs : List Value} {x : DataW H × List MemPlace} (ht : P.underlying t = some (.slice e)) (he : P.underlying e = some (.int .i64)) (hc : P.cellsOf e = 1)
    (h : DataW.trod enc P w 0 sp hd fuel t cs = some x) : ∃ p n c zs, cs = [.slice p n c] /\ IntsR w p n c zs /\ zs.length <= 9223372036854775807 := by
  rcases Go.ChangeShapes.open_ints ht he hc h with ⟨rfl, _⟩ | ⟨a, len, cap, zs, rfl, _, hl, hm, hz, _, hcell, _⟩
  · exact ⟨none, 0, 0, [], rfl, ⟨rfl, Nat.le_refl _, by omega, fun h => absurd h (by omega)⟩, by simp⟩
  · have hlz : len <= zs.length := by rw [hz]; split <;> omega
    refine ⟨some a, len, cap, zs.take len, rfl, ⟨by simp; omega, hl, by simpa [maxLen] using hm, fun hpos => ?_⟩, by simp only [maxLen] at hm; simp; omega⟩
    have h0 := hcell 0 (by omega)
    have hs := spot_none h0
    have ha : a = ⟨a.block, a.off, none⟩ := by
      obtain ⟨b, o, s⟩ := a
      simp [Addr.add] at hs
      simp [hs]
    refine ⟨a.block, a.off, by rw [<- ha], fun j v hj => ?_⟩
    simp only [List.getElem?_map, List.getElem?_take] at hj
    split at hj
    · rename_i hjl
      have hjz : j < zs.length := by omega
      have := hcell j hjz
      rw [ha, addr_add] at this
      rw [this]
      rw [List.getElem?_eq_getElem hjz] at hj
      simp at hj
      rw [<- hj]
      simp [hjz]
    · simp at hj
theorem flatF_open {g : TypeId -> Option (List C0)} {n : Nat} {sp : Nat -> Bool} {hd : Bool}
    (ih : ∀ {t : TypeId} {ks : List C0} {cs : List Value} {x : DataW H × List MemPlace}, g t = some ks -> DataW.trod enc P w 0 sp hd n t cs = some x -> ∃ ds, Reps w cs ds /\ ds.map D0.code = ks /\ ∀ d ∈ ds, d.ok) :
    ∀ (fs : List Field) (o : Nat) (ks : List C0) (cs : List Value), flatF P g o fs = some ks -> cs.length = o + ks.length ->
      (∀ f ∈ fs, ∃ x, DataW.trod enc P w 0 sp hd n f.type ((cs.drop f.offset).take (P.cellsOf f.type)) = some x) -> ∃ ds, Reps w (cs.drop o) ds /\ ds.map D0.code = ks /\ ∀ d ∈ ds, d.ok
  | [], o, ks, cs, hf, hl, _ => by
    simp only [flatF, Option.some.injEq] at hf
    subst hf
    rw [List.drop_of_length_le (by simp at hl; omega)]
    exact ⟨[], trivial, rfl, by simp⟩
  | f :: r, o, ks, cs, hf, hl, hx => by
    simp only [flatF] at hf
    split at hf
    · rename_i a h1 h2
      split at hf
      · rename_i b h3 h4
        have h1' := Nat.eq_of_beq_eq_true h1
        have h3' := Nat.eq_of_beq_eq_true h3
        cases hf
        rw [List.length_append] at hl
        obtain ⟨x, hx0⟩ := hx f (by simp)
        obtain ⟨ds, r1, c1, k1⟩ := ih h2 hx0
        obtain ⟨es, r2, c2, k2⟩ := flatF_open ih r (o + a.length) b cs h4 (by omega) (fun f' hf' => hx f' (by simp [hf']))
        refine ⟨ds ++ es, ?_, by simp [c1, c2], fun d hd => ?_⟩
        · rw [h1', h3'] at r1
          have : cs.drop o = (cs.drop o).take a.length ++ cs.drop (o + a.length) := by
            rw [<- List.drop_drop, List.take_append_drop]
          rw [this]
          exact r1.append r2
        · rcases List.mem_append.1 hd with h | h
          · exact k1 d h
          · exact k2 d h
      · cases hf
    · cases hf
theorem flat_open {sp : Nat -> Bool} {hd : Bool} : ∀ (m : Nat) {fuel : Nat} {t : TypeId} {ks : List C0} {cs : List Value} {x : DataW H × List MemPlace}, flatC P m t = some ks -> DataW.trod enc P w 0 sp hd fuel t cs = some x ->
    ∃ ds, Reps w cs ds /\ ds.map D0.code = ks /\ ∀ d ∈ ds, d.ok
  | 0, _, _, _, _, _, h, _ => by cases h
  | m + 1, fuel, t, ks, cs, x, h, ht => by
    simp only [flatC] at h
    split at h
    · rename_i hu
      obtain ⟨b, rfl, _⟩ := DataW.trod_bool hu ht
      cases h
      exact ⟨[.bool b], ⟨rfl, trivial⟩, rfl, by simp [D0.ok]⟩
    · rename_i hu
      obtain ⟨b, rfl, _, hw⟩ := DataW.trod_int hu ht
      cases h
      refine ⟨[.int b], ⟨rfl, trivial⟩, rfl, ?_⟩
      simp only [List.mem_singleton, forall_eq, D0.ok]
      simp [Lit.wf, IntKind.min, IntKind.max, IntKind.bits, IntKind.signed] at hw
      omega
    · rename_i hu
      obtain ⟨s, rfl, _, hw⟩ := DataW.trod_string hu ht
      cases h
      exact ⟨[.str s], ⟨rfl, trivial⟩, rfl, by simpa [D0.ok, maxLen] using hw⟩
    · rename_i e hu
      split at h
      · rename_i he hc
        cases h
        obtain ⟨p, n, c, zs, rfl, hr, hz⟩ := ints_of_trod hu he hc ht
        exact ⟨[.ints zs], ⟨⟨p, n, c, rfl, hr⟩, trivial⟩, rfl, by simpa [D0.ok] using hz⟩
      · cases h
    · rename_i fs hu
      split at h
      · rename_i a hf
        split at h
        · rename_i hsz
          cases h
          obtain ⟨xs, n, rfl, _, hlen, hxl, hfs⟩ := DataW.trod_struct hu ht
          have hsz' := Nat.eq_of_beq_eq_true hsz
          have := flatF_open (fun h1 h2 => flat_open m h1 h2) fs.toList 0 ks cs hf (by omega) (fun f hf => by
            obtain ⟨i, hi⟩ := List.getElem?_of_mem hf
            have hil : i < fs.size := by simpa using (List.getElem?_eq_some_iff.1 hi).1
            have := hfs i f (by simpa using hi)
            rw [List.getElem?_eq_getElem (by omega)] at this
            exact ⟨_, this⟩)
          simpa using this
        · cases h
      · cases h
    · cases h
end
end Go.Proofs.YtbgokfhcgcoipaaGreat.Sx
