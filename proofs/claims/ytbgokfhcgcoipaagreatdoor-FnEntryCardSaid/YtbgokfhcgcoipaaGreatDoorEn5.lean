/-
  Parts of the proof of fnEntry_holds: CEntL, CLegSums, CJoin, CLegsText, CEntD, CRowX, CEntMk, CSame, Lay, CSortL, CCursL, CSort, CBookCurs, SxRow, SxOpen, CByR, GT, CFnBook, CMust, CPostAll, CEntI, CBookSame, CEnName, CFnEntry, CTab, CTabP, CTabX.
  Conditions: none.
-/
import Derived.WalkKit
import Derived.Shelf.Strings.OnBuilder
import Derived.Defers
import Derived.Shelf.Lays
import Derived.Lib.SlicesCompact
import Derived.Shelf.Sort.Plain
import Derived.Shelf.Slices.CompactS
import Derived.Sort.OwnSorted
import Derived.ProofKit
import Derived.Deep.Slices
import Derived.Recover
import Derived.Test.YtbgokfhcgcoipaaGreatDoorRows
import Derived.OpenShut
import Derived.Lib.LaidTab
import Derived.Test.YtbgokfhcgcoipaaGreatDoorEn4
set_option linter.unusedVariables false
set_option linter.unusedSimpArgs false
namespace Go.ChangeShapes
end Go.ChangeShapes
namespace Go.RowKit
end Go.RowKit
namespace Go.Shelf
end Go.Shelf
namespace Go.Sort
end Go.Sort
namespace Go.WideShapes
end Go.WideShapes

namespace Go.Proofs.YtbgokfhcgcoipaaGreatDoor
open Go Go.Proofs.YtbgokfhcgcoipaaGreatDoor.Sx
def badAcct (b : List (List D0)) (x : List D0) : Bool := decide (acctAt b (strOf x) < 0)
def badCur (b : List (List D0)) (x : List D0) : Bool := decide (strOf (balOf b (strOf x)) ≠ strOf (x.drop 1))
def entCode (b l : List (List D0)) : Int :=
 if (bookOk b && legsOk l) = false then 1 else if l.any (badAcct b) then 2 else if l.any (badCur b) then 3 else if balT l = false then 4 else if (postN b l).isSome then 0 else 5
def entBook (b l : List (List D0)) : List (List D0) := if entCode b l = 0 then (postN b l).getD [] else []
theorem any_succ {f : List D0 -> Bool} {l : List (List D0)} {j : Nat} (h : j < l.length) : (l.take (j + 1)).any f = ((l.take j).any f || f l[j]) := by
  rw [List.take_succ_eq_append_getElem h, List.any_append]
  simp
theorem any_at {f : List D0 -> Bool} {l : List (List D0)} {j : Nat} (h : j < l.length) (hf : f l[j] = true) : l.any f = true := by
  rw [List.any_eq_true]; exact ⟨_, List.getElem_mem h, hf⟩
theorem postN_all : ∀ (l : List (List D0)) {bk r : List (List D0)}, (∀ x ∈ bk, x.map D0.code = [.str, .str, .bool, .ints]) -> (∀ x ∈ bk, cnts x <= 60) -> postN bk l = some r -> r.length = bk.length /\ (∀ x ∈ r, x.map D0.code = [.str, .str, .bool, .ints]) /\ ∀ x ∈ r, cnts x <= 60
  | [], bk, r, hc, hb, h => by
    simp only [postN, Option.some.injEq] at h
    subst h; exact ⟨rfl, hc, hb⟩
  | x :: l, bk, r, hc, hb, h => by
    unfold postN at h
    split at h
    · rename_i hok
      obtain ⟨h1, h2, h3⟩ := postOk_parts hok
      obtain ⟨j, hj, e1, e2⟩ := acct_in h2
      have := postN_all l (postL_code' hc hok) (fun y hy => by
        rcases List.mem_or_eq_of_mem_set hy with hy | hy
        · exact hb y hy
        · rw [hy, cnts_app]
          have e3 := addM_cnt h3
          obtain ⟨a, es, he, _⟩ := code_str (hc _ (List.getElem_mem hj))
          rw [e2, he] at e3 ⊢
          show (1 : Int) + 0 + _ <= 60
          omega) h
      rw [postL_len] at this
      exact this
    · cases h
theorem entCode_one {b l : List (List D0)} (h : (bookOk b && legsOk l) = false) : entCode b l = 1 := by unfold entCode; rw [if_pos h]
theorem entCode_two {b l : List (List D0)} (h : (bookOk b && legsOk l) = true) (h2 : l.any (badAcct b) = true) : entCode b l = 2 := by unfold entCode; rw [if_neg (by rw [h]; simp), if_pos h2]
theorem entCode_three {b l : List (List D0)} (h : (bookOk b && legsOk l) = true) (h2 : l.any (badAcct b) = false) (h3 : l.any (badCur b) = true) : entCode b l = 3 := by
  unfold entCode; rw [if_neg (by rw [h]; simp), if_neg (by rw [h2]; simp), if_pos h3]
theorem entCode_four {b l : List (List D0)} (h : (bookOk b && legsOk l) = true) (h2 : l.any (badAcct b) = false) (h3 : l.any (badCur b) = false) (h4 : balT l = false) : entCode b l = 4 := by
  unfold entCode; rw [if_neg (by rw [h]; simp), if_neg (by rw [h2]; simp), if_neg (by rw [h3]; simp), if_pos h4]
theorem entCode_rest {b l : List (List D0)} (h : (bookOk b && legsOk l) = true) (h2 : l.any (badAcct b) = false) (h3 : l.any (badCur b) = false) (h4 : balT l = true) : entCode b l = if (postN b l).isSome then 0 else 5 := by
  unfold entCode; rw [if_neg (by rw [h]; simp), if_neg (by rw [h2]; simp), if_neg (by rw [h3]; simp), if_neg (by rw [h4]; simp)]
theorem entCode_zero {b l : List (List D0)} (h : entCode b l = 0) : bookOk b = true /\ legsOk l = true /\ ∃ r, postN b l = some r := by
  unfold entCode at h
  split at h
  · cases h
  · rename_i h1
    split at h
    · cases h
    · split at h
      · cases h
      · split at h
        · cases h
        · split at h
          · rename_i h5
            simp only [Bool.not_eq_false, Bool.and_eq_true] at h1
            exact ⟨h1.1, h1.2, Option.isSome_iff_exists.1 h5⟩
          · cases h
theorem entBook_facts {b l : List (List D0)} (hc : ∀ x ∈ b, x.map D0.code = [.str, .str, .bool, .ints]) : (∀ x ∈ entBook b l, x.map D0.code = [.str, .str, .bool, .ints]) /\ cntL (entBook b l) <= 1000000000 := by
  unfold entBook
  split
  · rename_i h
    obtain ⟨h1, h2, r, hr⟩ := entCode_zero h
    obtain ⟨e1, e2, e3⟩ := postN_all l hc (fun x hx => leg_cnt (hc x hx) (bookOk_leg h1 x hx)) hr
    rw [hr]
    have hl := bookOk_len h1
    have := cntL_maxA (M := 60) (by decide) r e3
    exact ⟨e2, by show cntL r <= _; omega⟩
  · exact ⟨fun x hx => by simp at hx, by decide⟩
end Go.Proofs.YtbgokfhcgcoipaaGreatDoor
namespace Go.Proofs.YtbgokfhcgcoipaaGreatDoor
open Go Go.Proofs.YtbgokfhcgcoipaaGreatDoor.Sx
def sumOk (x : ByteArray × Int) : Bool := moneyOk (.str x.1 :: enc x.2)
def nz (s : List (ByteArray × Int)) : List (ByteArray × Int) := s.filter fun x => decide (x.2 ≠ 0)
def legSumsT (l : List (List D0)) : List (List D0) := if legsOk l && (sumsTo l l.length).all sumOk then sumsRows (nz (sumsTo l l.length)) else []
theorem nz_snoc (s : List (ByteArray × Int)) (x : ByteArray × Int) : nz (s ++ [x]) = if x.2 = 0 then nz s else nz s ++ [x] := by
  unfold nz
  rw [List.filter_append]
  by_cases h : x.2 = 0 <;> simp [h]
theorem legSumsT_code (l : List (List D0)) : ∀ x ∈ legSumsT l, x.map D0.code = [.str, .bool, .ints] := by
  unfold legSumsT
  split
  · exact sumsRows_code
  · intro x hx; simp at hx
theorem cntL_money : ∀ (s : List (ByteArray × Int)), (∀ x ∈ s, sumOk x = true) -> cntL (sumsRows s) <= (s.length : Nat) * 6
  | [], _ => by simp [sumsRows, cntL]
  | x :: s, h => by
    have ih := cntL_money s (fun y hy => h y (List.mem_cons_of_mem _ hy))
    have hx := h x List.mem_cons_self
    have hl : (digs x.2.natAbs).length <= 4 := by
      have h' : (curKnown x.1 && intOk (enc x.2) && decide ((digs x.2.natAbs).length <= 4)) = true := hx
      rw [Bool.and_eq_true, decide_eq_true_eq] at h'
      exact h'.2
    have he : cntL (sumsRows (x :: s)) = cnts (.str x.1 :: enc x.2) + cntL (sumsRows s) := rfl
    rw [he]
    have hc : cnts (.str x.1 :: enc x.2) = 1 + (1 + (((digs x.2.natAbs).length : Nat) + 0)) := rfl
    rw [hc, List.length_cons]
    omega
theorem legSumsT_cnt (l : List (List D0)) : cntL (legSumsT l) <= 1000000000 := by
  unfold legSumsT
  split
  · rename_i h
    rw [Bool.and_eq_true, List.all_eq_true] at h
    have h1 := cntL_money (nz (sumsTo l l.length)) (fun x hx => h.2 x (List.mem_filter.1 hx).1)
    have h2 : (nz (sumsTo l l.length)).length <= (sumsTo l l.length).length := List.length_filter_le _ _
    have h3 := sumsTo_len l l.length (Nat.le_refl _)
    have h4 := (legs_facts h.1).2.1
    omega
  · decide
theorem flat_at {α : Type} {k : Nat} : ∀ {css : List (List α)}, (∀ c ∈ css, c.length = k) -> ∀ (i : Nat) (cs : List α), css[i]? = some cs -> (css.flatten.drop (i * k)).take k = cs
  | [], _, i, cs, h => by simp at h
  | c :: css, h, 0, cs, hi => by
    simp only [List.getElem?_cons_zero, Option.some.injEq] at hi
    subst hi
    rw [Nat.zero_mul, List.drop_zero, List.flatten_cons, List.take_left' (h c List.mem_cons_self)]
  | c :: css, h, i + 1, cs, hi => by
    have ih := flat_at (css := css) (fun d hd => h d (List.mem_cons_of_mem _ hd)) i cs (by simpa using hi)
    rw [List.flatten_cons, Nat.succ_mul, Nat.add_comm, <- h c List.mem_cons_self, List.drop_length_add_append, h c List.mem_cons_self]
    exact ih
theorem nodup_at {α : Type} {fs : List (List α)} (h : fs.flatten.Nodup) {j : Nat} {f : List α} (hj : fs[j]? = some f) : f.Nodup /\ (∀ q ∈ f, q ∉ (fs.take j).flatten) /\ (∀ q ∈ f, q ∈ fs.flatten) /\ ∀ q ∈ f, q ∈ (fs.take (j + 1)).flatten := by
  have e := cons_at hj
  have h' := h
  rw [e, List.flatten_append, List.flatten_cons, List.nodup_append] at h'
  have h2 := h'.2.1
  rw [List.nodup_append] at h2
  have hm : ∀ q ∈ f, q ∈ fs.flatten := fun q hq => List.mem_flatten.2 ⟨f, List.mem_of_getElem? hj, hq⟩
  refine ⟨h2.1, fun q hq hm2 => h'.2.2 q hm2 q (List.mem_append_left _ hq) rfl, hm, fun q hq => ?_⟩
  rw [take_snoc hj, List.flatten_append, List.mem_append]
  exact .inr (by simpa using hq)
theorem take_sub {α : Type} {fs : List (List α)} {j : Nat} {q : α} (h : q ∈ (fs.take j).flatten) : q ∈ (fs.take (j + 1)).flatten := by
  obtain ⟨g, hg, hq⟩ := List.mem_flatten.1 h
  refine List.mem_flatten.2 ⟨g, ?_, hq⟩
  rw [show j = min j (j + 1) by omega, <- List.take_take] at hg
  exact List.mem_of_mem_take hg
theorem hand_over {w : World} {B bo on oc r2 : Nat} {S : List (List D0)} {f fi : List Nat} {cs : List Value} {x : List D0} (ho : OwnRows w B T_impl_Money 3 (some ⟨bo, 0, none⟩) on oc S f) (hB : B <= w.heap.size) (hr2 : Blk w r2 T_impl_Money cs) (hk : cs.length = 3) (hw : Owns w B cs x fi) (hn : fi.Nodup) (hd : ∀ q ∈ fi, q ∉ f) (hsm : on <= 1000000)
    (hT : sliceT P T_s_impl_Money T_impl_Money (.agg ⟨[.string ByteArray.empty, .bool false, .slice none 0 0]⟩) 3 48) :
    ∃ g' c' w' f', Appends P [T_s_impl_Money, T_s_impl_Money] [.slice (some ⟨bo, 0, none⟩) on oc, .slice (some ⟨r2, 0, none⟩) 1 1] (.slice (some ⟨g', 0, none⟩) (on + 1) c') w w' /\ OwnRows w' B T_impl_Money 3 (some ⟨g', 0, none⟩) (on + 1) c' (S ++ [x]) f' /\ Chg [bo] w w' /\ (g' = bo ∨ w.heap.size <= g') /\ (∀ q ∈ f', q ∈ f ∨ q ∈ fi ∨ w.heap.size <= q) := by
  have hSl := ho.1
  obtain ⟨xs, hown, h1, hput⟩ := ho.ins (i := on) (Nat.le_refl _)
  have hxl := hown.len
  have hbf : bo ∈ f := by obtain ⟨_, _, _, _, _, hf, _⟩ := ho; rw [hf]; simp
  obtain ⟨g', c', w', hA, hO, hC, hg⟩ := hown.pushM (m := 1) (mc := 1) (a := ⟨r2, 0, none⟩) (news := cs) hT hB (fun j u hj => by rw [addr_add, Nat.zero_add, hr2.cell, hj]) (by rw [hk]) hw.reps.cells1 (by omega) (by decide)
  have hO' : Sx.Own w' B T_impl_Money 3 (some ⟨g', 0, none⟩) (on + 1) c' (xs.take (on * 3) ++ cs ++ xs.drop (on * 3)) := by
    rw [List.take_of_length_le (by omega), List.drop_of_length_le (by omega), List.append_nil]
    exact hO
  have hbo : ∀ q ∈ fi, q ≠ bo := fun q hq e => hd q hq (by rw [e]; exact hbf)
  obtain ⟨f', hor, hf'⟩ := hput w' (some ⟨g', 0, none⟩) c' cs x fi hO' hC (by
    rcases hg with h | h
    · exact .inl (by rw [h])
    · exact .inr (fun q hq => by simp at hq; omega)) hk (hw.chg hC (fun k hk hm => hbo k hk (by simpa using hm))) hn hd (fun q hq e => by
      simp at e
      rcases hg with h | h
      · exact hbo q hq (by omega)
      · have := (hw.lt q hq).2; omega)
  rw [List.take_of_length_le (by omega), List.drop_of_length_le (by omega)] at hor
  exact ⟨g', c', w', f', hA, hor, hC, hg, hf'⟩
theorem impl_LegSums_o {w : World} {p : Option Addr} {n c : Nat} {l : List (List D0)} (h : RowsR w 4 p n c l) (hc : ∀ x ∈ l, x.map D0.code = [.str, .str, .bool, .ints]) (hn : n <= 1048576) (hb : ∀ x ∈ l, bulks x <= 1048576) (ht : Tab w) :
    Ret P n_impl_LegSums [.slice p n c] w fun v w' => ∃ p' n' c' f, v = .slice p' n' c' /\ OwnRows w' w.heap.size T_impl_Money 3 p' n' c' (legSumsT l) f /\ Ext w w' := by
  have hln := h.1
  have hT := ins_sliceT_Money
  have none0 : ∀ W, legSumsT l = [] -> OwnRows W w.heap.size T_impl_Money 3 none 0 0 (legSumsT l) [] := fun W he => by
    rw [he]; exact ⟨rfl, [], [], trivial, Own.nil _ _ _ _, by simp, by simp⟩
  refine impl_LegSums_ret ?_
  unfold impl_LegSums
  refine Ret.at (impl_LegsOk_c h hc hn hb ht) ?_
  rintro v w1 ⟨hv, y1⟩
  subst hv
  refine ⟨_, rfl, ifN (fun hno => ⟨none, 0, 0, [], rfl, none0 w1 (by unfold legSumsT; rw [hno]; rfl), y1⟩) (fun hok => ?_)⟩
  intro r w1' hn1
  have er := hn1.r_eq; have zr := hn1.size
  have y1' := y1.trans hn1.ext
  have ly1 := y1.le
  refine Ret.at (impl_legSums_o (h.ext y1') hc hok) ?_
  rintro v w2 ⟨p2, n2, c2, f2, hv, ho, y2⟩
  subst hv
  have hbr : Blk w2 r T_impl_Money [] := hn1.blk.ext y2
  have hor0 : OwnRows w2 w.heap.size T_impl_Money 3 (some ⟨r, 0, none⟩) 0 0 [] [r] := (OwnRows.fresh hn1 (by omega)).ext y2
  have ly2 := y2.le
  have hwr : r < w1'.heap.size := by omega
  have ho := ho
  have hf2 : ∀ q ∈ f2, w1'.heap.size <= q /\ q < w2.heap.size := ho.lt
  have hsl := ho.1
  rw [sumsRows_len] at hsl
  have hsz := sums8 hc hok
  rw [hln] at hsz
  have hs2 := sumsTo_len l n (by omega)
  have hl8 := (legs_facts hok).2.1
  obtain ⟨_, css, fs, ha, hown, hf2e, hnd⟩ := ho
  obtain ⟨hclen, hcl, hfl⟩ := ha.lens
  have hnd' := hnd
  rw [hf2e] at hnd'
  have hnd2 := (List.nodup_append.1 hnd').2.1
  have hfm : ∀ q ∈ fs.flatten, q ∈ f2 := fun q hq => by rw [hf2e]; exact List.mem_append_right _ hq
  refine ⟨_, _, _, rfl, fun op on oc i wr => ∃ (j bo : Nat) (f : List Nat), op = some ⟨bo, 0, none⟩ /\ i = j /\ j <= n2 /\ OwnRows wr w.heap.size T_impl_Money 3 op on oc (sumsRows (nz ((sumsTo l n).take j))) f /\ (bo = r ∨ w2.heap.size <= bo) /\ (∀ q ∈ f, q = r ∨ w2.heap.size <= q ∨ q ∈ (fs.take j).flatten) /\ (∀ a (ha : a < (sumsTo l n).length), a < j -> sumOk (sumsTo l n)[a] = true) /\ Chg [r] w2 wr, fun _ _ _ i _ => n2 - i.toNat,
    ⟨0, r, [r], rfl, rfl, Nat.zero_le _, hor0, .inl rfl, fun q hq => .inl (by simpa using hq), fun a _ h => absurd h (by omega), Chg.refl _ _⟩, ?_⟩
  intro junk wr op on oc i ⟨j, bo, f, hop, hij, hj, hor, hbo, hfo, hall, hch⟩
  subst hij
  subst hop
  have X2 : Ext w w2 := y1'.trans y2
  have XR : Ext w wr := X2.chg hch (by simp; omega)
  have lch := hch.size
  refine ifD (fun hlt => ?_) (fun hge => ?_)
  rotate_left
  · have hjn : j = n2 := by omega
    subst hjn
    refine ⟨_, _, _, f, rfl, ?_, XR⟩
    rw [List.take_of_length_le (by omega)] at hor
    have : legSumsT l = sumsRows (nz (sumsTo l n)) := by
      unfold legSumsT
      rw [hln, hok, Bool.true_and, if_pos]
      rw [List.all_eq_true]
      intro x hx
      obtain ⟨a, ha', rfl⟩ := List.getElem_of_mem hx
      exact hall a ha' (by omega)
    rw [this]
    exact hor
  have hjn : j < n2 := by omega
  have hjs : j < (sumsTo l n).length := by omega
  have hrow : (sumsRows (sumsTo l n))[j]? = some (.str (sumsTo l n)[j].1 :: enc (sumsTo l n)[j].2) := by
    rw [List.getElem?_eq_getElem (by rw [sumsRows_len]; exact hjs), row_at hjs]
  obtain ⟨cs, fi, hcs, hfi, hk3, how⟩ := ha.focus j _ hrow
  obtain ⟨d1, d2, d3, d4⟩ := nodup_at hnd2 hfi
  obtain ⟨b2, hp2, _, hseg⟩ := hown.seg (by omega)
  have hbm : b2 ∈ f2 := by rw [hf2e, hp2]; simp
  subst hp2
  have hb2l := hf2 b2 hbm
  obtain ⟨ys, hbk, hytk⟩ : ∃ ys, Blk w2 b2 T_impl_Money ys /\ ys.take (n2 * 3) = css.flatten := by
    obtain ⟨b, ys, hp, _, hbk, _, _, _, hy⟩ := hown.blk (by omega)
    simp only [Option.some.injEq, Addr.mk.injEq, and_true] at hp
    subst hp
    exact ⟨ys, hbk, hy⟩
  have hbkr : Blk wr b2 T_impl_Money ys := hbk.chg hch (by simp; omega)
  have hsegr : ∀ W, Ext wr W -> Seg W b2 0 css.flatten := fun W hW => by
    have := ((hbkr.ext hW).seg).take (n2 * 3)
    rwa [hytk] at this
  have howr : Owns wr w1'.heap.size cs _ fi := how.chg hch (fun k hk hm => by
    have := hf2 k (hfm k (d3 k hk))
    simp at hm; omega)
  have hrep := howr.reps
  obtain ⟨k0, k1, kp, kn, kc, kz, rfl, hkd, hki⟩ := open_Money hrep rfl
  have hld : Loads P T_impl_Money ((⟨b2, 0, none⟩ : Addr).add (j * 3)) (.agg ⟨[.string k0, .bool k1, .slice kp kn kc]⟩) wr :=
    (hsegr wr (Ext.refl _)).loadAAt (j * 3) [.string k0, .bool k1, .slice kp kn kc] (by rw [addr_add]) (by kernel_rfl) (flat_at hclen j _ hcs)
  have hb2 := hsz _ (List.getElem_mem hjs)
  have hval : (sumsTo l n)[j] = ((sumsTo l n)[j].1, (sumsTo l n)[j].2) := rfl
  refine ⟨⟨by omega, by omega⟩, _, _, _, _, _, by rw [Int.toNat_natCast]; exact hld, ?_⟩
  intro r1 w3 hn3
  have e3 := hn3.r_eq
  obtain ⟨w4, st4, b4, y4⟩ := hn3.fill (P := P) (t := T_impl_Money) (xs := [.string k0, .bool k1, .slice kp kn kc]) (by simp [Value.oneCell']) (by kernel_rfl) rfl
  refine ⟨w4, st4, _, _, _, _, _, b4.loadA0 (by kernel_rfl), ?_⟩
  refine Ret.at (impl_MoneyOk_c (ht.ext (XR.trans y4)) (hrep.ext y4) rfl) ?_
  rintro v w5 ⟨hv, y5⟩
  subst hv
  have Y5 := y4.trans y5
  have hTs : legSumsT l = [] ∨ moneyOk (.str (sumsTo l n)[j].1 :: enc (sumsTo l n)[j].2) = true := by
    cases hm : moneyOk (.str (sumsTo l n)[j].1 :: enc (sumsTo l n)[j].2) with
    | true => exact .inr rfl
    | false =>
      left
      unfold legSumsT
      rw [if_neg]
      rw [hln, hok, Bool.true_and, List.all_eq_true]
      intro hal
      have := hal _ (List.getElem_mem hjs)
      rw [show sumOk (sumsTo l n)[j] = moneyOk (.str (sumsTo l n)[j].1 :: enc (sumsTo l n)[j].2) from rfl, hm] at this
      cases this
  refine ⟨_, rfl, ifN (fun hnm => ⟨none, 0, 0, [], rfl, none0 w5 ?_, XR.trans Y5⟩) (fun hm => ?_)⟩
  · rcases hTs with h1 | h1
    · exact h1
    · rw [hnm] at h1; cases h1
  have htk : (sumsTo l n).take (j + 1) = (sumsTo l n).take j ++ [(sumsTo l n)[j]] := List.take_succ_eq_append_getElem hjs
  have hall' : ∀ a (ha : a < (sumsTo l n).length), a < j + 1 -> sumOk (sumsTo l n)[a] = true := fun a ha hlt2 => by
    by_cases haj : a < j
    · exact hall a ha haj
    · have : a = j := by omega
      subst this
      exact hm
  have fin0 : ∀ W, Ext wr W -> (sumsTo l n)[j].2 = 0 -> impl_LegSums_j0 wr (fun op on oc i wr => ∃ (j bo : Nat) (f : List Nat), op = some ⟨bo, 0, none⟩ /\ i = j /\ j <= n2 /\ OwnRows wr w.heap.size T_impl_Money 3 op on oc (sumsRows (nz ((sumsTo l n).take j))) f /\ (bo = r ∨ w2.heap.size <= bo) /\ (∀ q ∈ f, q = r ∨ w2.heap.size <= q ∨ q ∈ (fs.take j).flatten) /\ (∀ a (ha : a < (sumsTo l n).length), a < j -> sumOk (sumsTo l n)[a] = true) /\ Chg [r] w2 wr) (fun _ _ _ i _ => n2 - i.toNat) (some ⟨bo, 0, none⟩) on oc ((j : Nat) : Int) (some ⟨bo, 0, none⟩) on oc W (fun v w' => ∃ p' n' c' f, v = .slice p' n' c' /\ OwnRows w' w.heap.size T_impl_Money 3 p' n' c' (legSumsT l) f /\ Ext w w') := by
    intro W hW hz
    unfold impl_LegSums_j0
    refine exW ⟨by omega, by omega⟩ ⟨⟨j + 1, bo, f, rfl, rfl, by omega, ?_, hbo, fun q hq => ?_, hall', hch.trans hW.toChg⟩, by show n2 - ((j : Int) + 1).toNat < n2 - (j : Int).toNat; omega⟩
    · rw [htk, nz_snoc, if_pos hz]
      exact hor.ext hW
    · rcases hfo q hq with h | h | h
      · exact .inl h
      · exact .inr (.inl h)
      · exact .inr (.inr (take_sub h))
  have fin1 : ∀ W, Ext wr W -> (sumsTo l n)[j].2 ≠ 0 -> ∀ r2 wb, New W (.cells ⟨[.string k0, .bool k1, .slice kp kn kc]⟩ T_impl_Money (0, 0)) r2 wb -> ∃ (q_p : Option Addr) (q_n : Nat) (q_c : Nat) (wv_9 : World), Appends P [T_s_impl_Money, T_s_impl_Money] [(.slice (some ⟨bo, 0, none⟩) on oc), (.slice (some ⟨r2, 0, none⟩) 1 1)] (.slice q_p q_n q_c) wb wv_9 /\
      impl_LegSums_j0 wr (fun op on oc i wr => ∃ (j bo : Nat) (f : List Nat), op = some ⟨bo, 0, none⟩ /\ i = j /\ j <= n2 /\ OwnRows wr w.heap.size T_impl_Money 3 op on oc (sumsRows (nz ((sumsTo l n).take j))) f /\ (bo = r ∨ w2.heap.size <= bo) /\ (∀ q ∈ f, q = r ∨ w2.heap.size <= q ∨ q ∈ (fs.take j).flatten) /\ (∀ a (ha : a < (sumsTo l n).length), a < j -> sumOk (sumsTo l n)[a] = true) /\ Chg [r] w2 wr) (fun _ _ _ i _ => n2 - i.toNat) (some ⟨bo, 0, none⟩) on oc ((j : Nat) : Int) q_p q_n q_c wv_9 (fun v w' => ∃ p' n' c' f, v = .slice p' n' c' /\ OwnRows w' w.heap.size T_impl_Money 3 p' n' c' (legSumsT l) f /\ Ext w w') := by
    intro W hW hz r2 wb hnb
    have hWb := hW.trans hnb.ext
    have lWb := hWb.le
    have honl : on <= 8 := by
      have h1 := hor.1
      rw [sumsRows_len] at h1
      have h2 : (nz ((sumsTo l n).take j)).length <= ((sumsTo l n).take j).length := List.length_filter_le _ _
      have h3 : ((sumsTo l n).take j).length <= j := by simp; omega
      omega
    obtain ⟨g', c', w9, f', hA, hor9, hC, hg, hf'⟩ := hand_over (hor.ext hWb) (by have := XR.le; omega) hnb.blk rfl ((howr.ext hWb).mono (B' := w.heap.size) (by have := y1'.le; omega)) d1 (fun q hq hm => by
      have h1 := hf2 q (hfm q (d3 q hq))
      rcases hfo q hm with h | h | h
      · omega
      · omega
      · exact d2 q hq h) (by omega) hT
    refine ⟨_, _, _, w9, hA, ?_⟩
    unfold impl_LegSums_j0
    refine exW ⟨by omega, by omega⟩ ⟨⟨j + 1, g', f', rfl, rfl, by omega, ?_, ?_, fun q hq => ?_, hall', ?_⟩, by show n2 - ((j : Int) + 1).toNat < n2 - (j : Int).toNat; omega⟩
    · rw [htk, nz_snoc, if_neg hz]
      have e : sumsRows (nz ((sumsTo l n).take j) ++ [(sumsTo l n)[j]]) = sumsRows (nz ((sumsTo l n).take j)) ++ [.str (sumsTo l n)[j].1 :: enc (sumsTo l n)[j].2] := by simp [sumsRows]
      rw [e]
      exact hor9
    · rcases hg with h | h
      · rw [h]; exact hbo
      · exact .inr (by omega)
    · rcases hf' q hq with h | h | h
      · rcases hfo q h with h | h | h
        · exact .inl h
        · exact .inr (.inl h)
        · exact .inr (.inr (take_sub h))
      · exact .inr (.inr (d4 q h))
      · exact .inr (.inl (by omega))
    · have hc1 : Chg [r] w2 wb := hch.trans hWb.toChg
      refine ⟨hC.os.trans hc1.os, hC.tape.trans hc1.tape, hC.output.trans hc1.output, Nat.le_trans hc1.size hC.size, fun k hk hn => ?_⟩
      refine (hC.block k (Nat.lt_of_lt_of_le hk hc1.size) (fun hm => ?_)).trans (hc1.block k hk hn)
      simp at hm hn
      rcases hbo with h | h <;> omega
  refine ⟨_, _, _, _, _, (b4.ext y5).loadA0 (by kernel_rfl), ?_⟩
  refine Ret.at (impl_isZero_c (hrep.ext Y5 : Reps w5 _ (.str (sumsTo l n)[j].1 :: enc (sumsTo l n)[j].2))) ?_
  rintro v w6 ⟨hv, y6⟩
  subst hv
  have hzero : (intOk (enc (sumsTo l n)[j].2) && decide (isign (enc (sumsTo l n)[j].2) = 0)) = decide ((sumsTo l n)[j].2 = 0) := by
    rw [enc_small8 hb2, Bool.true_and, decide_eq_decide]
    exact isign_zeroV hb2
  refine ⟨_, rfl, ifN (fun hnz => ⟨_, _, _, _, _, ((b4.ext y5).ext y6).loadA0 (by kernel_rfl), ?_⟩) (fun hz0 => fin0 w6 (Y5.trans y6) (of_decide_eq_true (hzero.symm.trans hz0)))⟩
  exact fin1 w6 (Y5.trans y6) (of_decide_eq_false (hzero.symm.trans hnz))
theorem impl_LegSums_c {w : World} {p : Option Addr} {n c : Nat} {l : List (List D0)} (h : RowsR w 4 p n c l) (hc : ∀ x ∈ l, x.map D0.code = [.str, .str, .bool, .ints]) (hn : n <= 1048576) (hb : ∀ x ∈ l, bulks x <= 1048576) (ht : Tab w) :
    Ret P n_impl_LegSums [.slice p n c] w fun v w' => ∃ p' n' c' f, v = .slice p' n' c' /\ OwnRows w' w.heap.size T_impl_Money 3 p' n' c' (legSumsT l) f /\ (∀ x ∈ legSumsT l, x.map D0.code = [.str, .bool, .ints]) /\ cntL (legSumsT l) <= 1000000000 /\ Ext w w' :=
  (impl_LegSums_o h hc hn hb ht).mono fun v w' ⟨p', n', c', f, hv, ho, hx⟩ => ⟨p', n', c', f, hv, ho, legSumsT_code l, legSumsT_cnt l, hx⟩
end Go.Proofs.YtbgokfhcgcoipaaGreatDoor
namespace Go.Proofs.YtbgokfhcgcoipaaGreatDoor
open Go Go.Proofs.YtbgokfhcgcoipaaGreatDoor.Sx
def StrsR (w : World) (p : Option Addr) (n c : Nat) (l : List ByteArray) : Prop :=
 l.length = n /\ n <= c /\ c <= 9223372036854775807 /\ (0 < n -> ∃ b off, p = some ⟨b, off, none⟩ /\ Seg w b off (l.map Value.string))
theorem StrsR.ext {w w' : World} {p : Option Addr} {n c : Nat} {l : List ByteArray} (h : StrsR w p n c l) (he : Ext w w') : StrsR w' p n c l :=
  ⟨h.1, h.2.1, h.2.2.1, fun hn => let ⟨b, off, hp, hs⟩ := h.2.2.2 hn; ⟨b, off, hp, hs.ext he⟩⟩
theorem StrsR.at {P : Program} {w : World} {p : Option Addr} {n c k : Nat} {l : List ByteArray} (h : StrsR w p n c l) {t : TypeId} (ht : cellT P t = true) (hk : k < n) :
    ∃ a, p = some a /\ Loads P t (a.add (k * 1)) (.string (l[k]'(by rw [h.1]; exact hk))) w := by
  obtain ⟨b, off, hp, hs⟩ := h.2.2.2 (by omega)
  refine ⟨_, hp, ?_⟩
  rw [Nat.mul_one]
  exact hs.load ht (by simp [List.getElem?_eq_getElem (by rw [h.1]; exact hk : k < l.length)])
theorem own_strs {w : World} {base : Nat} {e : TypeId} {p : Option Addr} {n c : Nat} {l : List ByteArray} (h : Own w base e 1 p n c (l.map Value.string)) : StrsR w p n c l :=
  ⟨by simpa using h.len, h.le, h.capLe, fun hn => let ⟨b, hp, _, hs⟩ := h.seg hn; ⟨b, 0, hp, hs⟩⟩
theorem sliceT_string : sliceT P T_s_string T_string (.string ByteArray.empty) 1 16 := ⟨by kernel_rfl, by kernel_rfl, rfl, by decide⟩
def joinT (by' : ByteArray) (l : List ByteArray) : ByteArray := ⟨(Lib.join (l.map (·.data.toList)) by'.data.toList).toArray⟩
theorem joinT_nil (b : ByteArray) : joinT b [] = ByteArray.empty := rfl
theorem joinT_one (b x : ByteArray) : joinT b [x] = x := ba_ext (by simp [joinT, Lib.join_one])
theorem joinT_snoc {b x : ByteArray} : ∀ {l : List ByteArray}, l ≠ [] -> joinT b (l ++ [x]) = (joinT b l ++ b) ++ x
  | [], h => absurd rfl h
  | y :: r, _ => ba_ext (by simp [joinT, Lib.join_cons, Lib.joinTail])
theorem joinT_size {b : ByteArray} {k : Nat} : ∀ {l : List ByteArray}, (∀ x ∈ l, x.size <= k) -> (joinT b l).size <= l.length * (k + b.size) := by
  intro l
  have key : ∀ (n : Nat) (l : List ByteArray), l.length = n -> (∀ x ∈ l, x.size <= k) -> (joinT b l).size <= l.length * (k + b.size) := by
    intro n
    induction n with
    | zero =>
      intro l hl _
      rw [List.eq_nil_of_length_eq_zero hl, joinT_nil]
      show 0 <= _
      omega
    | succ n ih =>
      intro l hl hx
      have hne : l ≠ [] := by intro e; rw [e] at hl; simp at hl
      have hl2 := List.dropLast_concat_getLast hne
      have hd : l.dropLast.length = n := by simp [hl]
      have h1 := ih l.dropLast hd fun x hx' => hx x ((List.dropLast_sublist l).subset hx')
      have h2 := hx _ (List.getLast_mem hne)
      by_cases h0 : l.dropLast = []
      · rw [h0, List.nil_append] at hl2
        rw [<- hl2, joinT_one]
        simp only [List.length_cons, List.length_nil]
        omega
      · rw [<- hl2, joinT_snoc h0, ByteArray.size_append, ByteArray.size_append, List.length_append, List.length_singleton, hd]
        rw [hd] at h1
        rw [Nat.succ_mul]
        omega
  exact key _ l rfl
theorem X156 : Go.Proofs.Builder.Extra P ren156 where
  sizeBuilder := by kernel_rfl
  liesBuilder := by kernel_rfl
  t5 := lays105.t5
  a5 := lays105.a5
  z5 := lays105.z5
  v5 := lays105.v5
  infoByte := by kernel_rfl
  cellsByte := by kernel_rfl
  sizeByte := by kernel_rfl
  neB5 := by decide
theorem impl_Join_c {w : World} {p : Option Addr} {n c : Nat} {l : List ByteArray} (h : StrsR w p n c l) (b : ByteArray) {k : Nat} (hk : ∀ x ∈ l, x.size <= k) (hb : n * (k + b.size) <= 140737488355328) (hn : n <= 140737488355328) :
    Ret P n_impl_Join [.slice p n c, .string b] w fun v w' => v = .string (joinT b l) /\ Ext w w' := by
  refine impl_Join_ret ?_
  unfold impl_Join
  have hz := h.1; have hcap := h.2.1
  have hsz := joinT_size (b := b) hk
  rw [hz] at hsz
  have hlen : (Lib.join (l.map (·.data.toList)) b.data.toList).length <= 140737488355328 := by
    have : (joinT b l).size = (Lib.join (l.map (·.data.toList)) b.data.toList).length := by simp [joinT, ByteArray.size]
    omega
  rcases Nat.eq_zero_or_pos n with h0 | h0
  · subst h0
    have : l = [] := List.eq_nil_of_length_eq_zero hz
    subst this
    refine (Any.strings_Join_none lays156 X156 p c b w).mono ?_
    rintro e w' ⟨rfl, rfl⟩
    exact ⟨_, rfl, rfl, Ext.refl _⟩
  · obtain ⟨r, o, rfl, hs⟩ := h.2.2.2 h0
    have hcells : ∀ (j : Nat) x, l[j]? = some x -> w.cell? ⟨r, o + j, none⟩ = some (.string x) := fun j x hx => hs j _ (by simp [hx])
    have hbk : r < w.heap.size := World.block_lt_of_cell? w _ (hcells 0 _ (List.getElem?_eq_getElem (by omega)))
    have := Any.strings_Join lays156 X156 r o c l b w hcells hbk (by omega) (by omega) hlen
    rw [hz] at this
    refine this.mono ?_
    rintro e w' ⟨rfl, hx⟩
    exact ⟨_, rfl, rfl, hx⟩
end Go.Proofs.YtbgokfhcgcoipaaGreatDoor
namespace Go.Proofs.YtbgokfhcgcoipaaGreatDoor
open Go Go.Proofs.YtbgokfhcgcoipaaGreatDoor.Sx
def legT : List D0 -> ByteArray
  | [.str a, .str c, .bool b, .ints z] => (a ++ S [32]) ++ moneyT [.str c, .bool b, .ints z]
  | _ => S []
def legsT (l : List (List D0)) : ByteArray := joinT (S [59, 32]) (l.map legT)
theorem legT_size {x : List D0} (hc : x.map D0.code = [.str, .str, .bool, .ints]) (hb : bulks x <= 1048576) : (legT x).size <= 1049000 := by
  unfold legT
  split
  · rename_i a c b z
    have N := moneyT_size c b z
    have s1 : (S [32]).size = 1 := rfl
    simp only [bulks, D0.bulk, List.map_cons, List.map_nil, List.sum_cons, List.sum_nil] at hb
    simp only [ByteArray.size_append, s1]
    omega
  · show 0 <= _; omega
theorem impl_LegsText_c {w : World} {p : Option Addr} {n c : Nat} {l : List (List D0)} (h : RowsR w 4 p n c l) (hc : ∀ x ∈ l, x.map D0.code = [.str, .str, .bool, .ints]) (hz : n <= 1048576) (hb : ∀ x ∈ l, bulks x <= 1048576) (ht : Tab w) (hp : TabP w) :
    Ret P n_impl_LegsText [.slice p n c] w fun v w' => v = .string (legsT l) /\ Ext w w' := by
  have hln := h.1
  refine impl_LegsText_ret ?_
  unfold impl_LegsText
  intro r w1 hn1
  have e1 := hn1.r_eq; have z1 := hn1.size
  refine ⟨fun q m d i wr => ∃ j : Nat, i = j /\ j <= n /\ m = j /\ Own wr w.heap.size T_string 1 q j d (((l.take j).map legT).map Value.string) /\ Ext w wr, fun _ _ _ i _ => n - i.toNat, ⟨0, rfl, by omega, rfl, Own.of_blk0 hn1.blk (by omega) (by simp) (by decide), hn1.ext⟩, ?_⟩
  intro junk wr q m d i ⟨j, hij, hj, hm, how, hx⟩
  subst hij; subst hm
  have lx := hx.le
  refine ifD (fun hlt => ?_) (fun hge => ?_)
  · have hjn : m < n := by omega
    have hjl : m < l.length := by omega
    obtain ⟨a, cs, hp', hk, hr, hl⟩ := (h.ext hx).at (P := P) (t := T_impl_Leg) (by kernel_rfl) hjn
    subst hp'
    have hrr := hr; have hcode := hc _ (List.getElem_mem hjl); have hbj := hb _ (List.getElem_mem hjl)
    obtain ⟨a0, a1, a2, a3p, a3n, a3c, a3z, rfl, hd, ha⟩ := open_Leg hr hcode
    have hnext : ((l.take (m + 1)).map legT).map Value.string = ((l.take m).map legT).map Value.string ++ [.string (legT (l[m]'hjl))] := by
      rw [List.take_add_one, List.getElem?_eq_getElem hjl, List.map_append, List.map_append]; rfl
    rw [hd] at hbj hnext
    simp only [bulks, D0.bulk, List.map_cons, List.map_nil, List.sum_cons, List.sum_nil] at hbj
    refine ⟨⟨by omega, by omega⟩, _, _, _, _, _, _, by simpa using hl, ?_⟩
    intro r2 w2 hn2
    obtain ⟨w3, st, hb3, y3⟩ := hn2.fill (P := P) (t := T_impl_Leg) hrr.cells1 (by kernel_rfl) rfl
    have D := Ext.drew w3
    have X3 := (hx.trans y3).trans D
    have bk := hb3.ext D
    have hm : Reps w3.drew [.string a1, .bool a2, .slice a3p a3n a3c] [.str a1, .bool a2, .ints a3z] := ⟨rfl, rfl, ⟨_, _, _, rfl, ha.ext (y3.trans D)⟩, trivial⟩
    have N := moneyT_size a1 a2 a3z
    have s1 : (S [32]).size = 1 := rfl
    refine ⟨w3, st, _, fun W hW => (bk.ext hW).loadAt 0 rfl (by kernel_rfl) rfl, ?_, _, rfl, _, _, _, _, _, fun W hW => (bk.ext hW).loadAAt 1 [.string a1, .bool a2, .slice a3p a3n a3c] rfl (by kernel_rfl) rfl, ?_⟩
    · omega
    refine Ret.at (impl_MoneyText_c hm (ht.ext (X3)) (hp.ext (X3))) ?_
    rintro v w4 ⟨hv, y4⟩
    subst hv
    refine ⟨_, rfl, y4, ?_, _, rfl, ?_⟩
    · simp only [ByteArray.size_append, s1]; omega
    intro r5 w5 hn5
    have Y5 := ((y3.trans D).trans y4).trans hn5.ext
    have hb5 : w.heap.size <= w5.heap.size := (hx.trans Y5).le
    obtain ⟨p', c', w6, hap, how6, hch, _⟩ := (how.ext Y5).push1 (P := P) sliceT_string hb5 hn5.blk rfl (by simp [Value.oneCell']) (by omega) (by decide)
    refine ⟨p', m + 1, c', w6, hap, exW ⟨by omega, by omega⟩ ⟨⟨m + 1, by omega, by omega, rfl, by rw [hnext]; exact how6, ?_⟩, ?_⟩⟩
    · exact (hx.trans Y5).chg hch fun k hk => (World.ownsRow.lt how k (by cases q <;> simp_all [Value.ownBlock])).1
    · show n - ((m : Int) + 1).toNat < n - (m : Int).toNat
      omega
  · have hmn : m = n := by omega
    subst hmn
    rw [List.take_of_length_le (by omega)] at how
    have hst := own_strs how
    refine Ret.at (impl_Join_c hst (S [59, 32]) (k := 1049000) ?_ ?_ (by omega)) ?_
    · intro x hx'
      obtain ⟨y, hy, rfl⟩ := List.mem_map.1 hx'
      exact legT_size (hc y hy) (hb y hy)
    · have : m * (1049000 + (S [59, 32]).size) <= 1048576 * (1049000 + (S [59, 32]).size) := Nat.mul_le_mul_right _ hz
      have s2 : (S [59, 32]).size = 2 := rfl
      rw [s2] at this ⊢
      omega
    rintro v w6 ⟨hv, y6⟩
    subst hv
    exact ⟨_, rfl, rfl, hx.trans y6⟩
end Go.Proofs.YtbgokfhcgcoipaaGreatDoor
namespace Go.Proofs.YtbgokfhcgcoipaaGreatDoor
open Go Go.Proofs.YtbgokfhcgcoipaaGreatDoor.Sx
abbrev Pr := ByteArray × ByteArray × ByteArray × Int
def prLegs (p : Pr) : List B3 := [(p.1, p.2.2.1, p.2.2.2), (p.2.1, p.2.2.1, -p.2.2.2)]
def legsOf : List Pr -> List B3
  | [] => []
  | p :: r => prLegs p ++ legsOf r
theorem legsOf_len : ∀ P : List Pr, (legsOf P).length = 2 * P.length
  | [] => rfl
  | p :: r => by
    show (prLegs p ++ legsOf r).length = _
    rw [List.length_append, legsOf_len r]
    show 2 + _ = 2 * (r.length + 1)
    omega
theorem legsOf_append : ∀ P Q : List Pr, legsOf (P ++ Q) = legsOf P ++ legsOf Q
  | [], Q => rfl
  | p :: r, Q => by
    show prLegs p ++ legsOf (r ++ Q) = prLegs p ++ legsOf r ++ legsOf Q
    rw [legsOf_append r Q, List.append_assoc]
def InB (b : List B3) (n c : ByteArray) : Prop := ∃ y ∈ b, y.1 = n /\ y.2.1 = c
def PrIn (b : List B3) (p : Pr) : Prop := InB b p.1 p.2.2.1 /\ InB b p.2.1 p.2.2.1 /\ p.2.2.2.natAbs <= 500
theorem legs_in {b : List B3} : ∀ {P : List Pr}, (∀ p ∈ P, PrIn b p) -> ∀ x ∈ legsOf P, InB b x.1 x.2.1 /\ x.2.2.natAbs <= 500
  | [], _, x, hx => by simp [legsOf] at hx
  | p :: r, h, x, hx => by
    have hx : x ∈ prLegs p ++ legsOf r := hx
    rcases List.mem_append.1 hx with hx | hx
    · have hp := h p (by simp)
      simp only [prLegs, List.mem_cons, List.not_mem_nil, or_false] at hx
      rcases hx with rfl | rfl
      · exact ⟨hp.1, hp.2.2⟩
      · exact ⟨hp.2.1, by show (-p.2.2.2).natAbs <= 500; rw [Int.natAbs_neg]; exact hp.2.2⟩
    · exact legs_in (fun q hq => h q (by simp [hq])) x hx
def Zs (s : List (ByteArray × Int)) : Prop := ∀ x ∈ s, x.2 = 0
theorem zs_pair : ∀ {s : List (ByteArray × Int)} {c : ByteArray} {u : Int}, Zs s -> Zs (sumAdd (sumAdd s c u) c (-u))
  | [], c, u, _ => by
    intro x hx
    simp only [sumAdd, bLess_irrefl, Bool.false_eq_true, if_false, if_true, List.mem_singleton] at hx
    subst hx
    show u + -u = 0
    omega
  | y :: r, c, u, h => by
    have hy := h y (by simp)
    have hr : Zs r := fun x hx => h x (by simp [hx])
    by_cases h1 : bLess y.1 c = true
    · have e : sumAdd (sumAdd (y :: r) c u) c (-u) = y :: sumAdd (sumAdd r c u) c (-u) := by simp only [sumAdd, h1, if_true]
      rw [e]
      intro x hx
      rcases List.mem_cons.1 hx with rfl | hx
      · exact hy
      · exact zs_pair hr x hx
    · by_cases h2 : y.1 = c
      · have e : sumAdd (sumAdd (y :: r) c u) c (-u) = (y.1, y.2 + u + -u) :: r := by simp only [sumAdd, h1, h2, bLess_irrefl, Bool.false_eq_true, if_false, if_true]
        rw [e]
        intro x hx
        rcases List.mem_cons.1 hx with rfl | hx
        · show y.2 + u + -u = 0
          omega
        · exact hr x hx
      · have e : sumAdd (sumAdd (y :: r) c u) c (-u) = (c, u + -u) :: y :: r := by simp only [sumAdd, h1, h2, bLess_irrefl, Bool.false_eq_true, if_false, if_true]
        rw [e]
        intro x hx
        rcases List.mem_cons.1 hx with rfl | hx
        · show u + -u = 0
          omega
        · exact h x hx
theorem legKV_bk (x : B3) : legKV (bkR x) = (x.2.1, x.2.2) := by
  show (x.2.1, ival (enc x.2.2)) = _
  rw [ival_enc]
theorem zs_fold : ∀ (P : List Pr) (s : List (ByteArray × Int)), Zs s -> Zs (((legsOf P).map bkR).foldl (fun s x => sumAdd s (legKV x).1 (legKV x).2) s)
  | [], s, h => h
  | p :: r, s, h => by
    show Zs (((prLegs p ++ legsOf r).map bkR).foldl _ s)
    rw [List.map_append, List.foldl_append]
    refine zs_fold r _ ?_
    show Zs (sumAdd (sumAdd s (legKV (bkR (p.1, p.2.2.1, p.2.2.2))).1 (legKV (bkR (p.1, p.2.2.1, p.2.2.2))).2) (legKV (bkR (p.2.1, p.2.2.1, -p.2.2.2))).1 (legKV (bkR (p.2.1, p.2.2.1, -p.2.2.2))).2)
    rw [legKV_bk, legKV_bk]
    exact zs_pair h
theorem sums_zero (P : List Pr) : Zs (sumsTo ((legsOf P).map bkR) ((legsOf P).map bkR).length) := by
  unfold sumsTo
  rw [List.take_length]
  exact zs_fold P [] (fun x hx => by simp at hx)
def addB (x y : B3) : B3 := if y.1 = x.1 then (y.1, y.2.1, y.2.2 + x.2.2) else y
theorem addB_1 (x y : B3) : (addB x y).1 = y.1 := by unfold addB; split <;> rfl
theorem addB_2 (x y : B3) : (addB x y).2.1 = y.2.1 := by unfold addB; split <;> rfl
theorem set_addB {b : List B3} (h : BkL b) {j : Nat} (hj : j < b.length) {x : B3} (hx : (b[j]).1 = x.1) : b.set j ((b[j]).1, (b[j]).2.1, (b[j]).2.2 + x.2.2) = b.map (addB x) := by
  refine List.ext_getElem (by simp) fun i h1 h2 => ?_
  rw [List.getElem_set, List.getElem_map]
  have hi : i < b.length := by simpa using h2
  by_cases e : j = i
  · subst e
    rw [if_pos rfl]
    unfold addB
    rw [if_pos hx]
  · rw [if_neg e]
    unfold addB
    rw [if_neg]
    intro hh
    have : (b[i]).1 = (b[j]).1 := hh.trans hx.symm
    rcases Nat.lt_or_gt_of_ne e with h3 | h3
    · exact bLess_ne (List.pairwise_iff_getElem.1 h.ord j i hj hi h3) this.symm
    · exact bLess_ne (List.pairwise_iff_getElem.1 h.ord i j hi hj h3) this
theorem BkL.step {b : List B3} (h : BkL b) {x : B3} (hin : InB b x.1 x.2.1) (hm : ∀ y ∈ b, y.2.2.natAbs + x.2.2.natAbs < 1000000000000000000000000000000000000) :
    postOk (b.map bkR) x.1 (.str x.2.1 :: enc x.2.2) = true /\ postL (b.map bkR) x.1 (.str x.2.1 :: enc x.2.2) = (b.map (addB x)).map bkR /\ BkL (b.map (addB x)) := by
  obtain ⟨y, hy, hy1, hy2⟩ := hin
  obtain ⟨j, hj, rfl⟩ := List.getElem_of_mem hy
  have hk := (moneyOk_parts (h.row _ hy).2).1
  have hb := hm _ hy
  have g : moneyOk (.str (b[j]).2.1 :: enc x.2.2) = true := money_midB hk (by omega)
  have k : moneyOk (.str (b[j]).2.1 :: enc ((b[j]).2.2 + x.2.2)) = true := money_midB hk (by omega)
  obtain ⟨p1, p2⟩ := h.post hj g k
  rw [hy1, hy2] at p1
  have p2' : postL (b.map bkR) x.1 (.str x.2.1 :: enc x.2.2) = (b.set j ((b[j]).1, (b[j]).2.1, (b[j]).2.2 + x.2.2)).map bkR := by
    rw [hy1, hy2] at p2
    unfold postT at p2
    rw [if_pos p1] at p2
    rw [p2, hy1, hy2]
  rw [set_addB h hj hy1] at p2'
  refine ⟨p1, p2', ?_⟩
  rw [<- set_addB h hj hy1]
  exact h.set hj k
def shiftAll (b legs : List B3) : List B3 := legs.foldl (fun b x => b.map (addB x)) b
theorem inB_map {b : List B3} {x : B3} {n c : ByteArray} (h : InB b n c) : InB (b.map (addB x)) n c := by
  obtain ⟨y, hy, h1, h2⟩ := h
  exact ⟨addB x y, List.mem_map.2 ⟨y, hy, rfl⟩, by rw [addB_1]; exact h1, by rw [addB_2]; exact h2⟩
theorem postN_legs : ∀ (legs : List B3) (b : List B3) (M : Nat), BkL b -> (∀ x ∈ legs, InB b x.1 x.2.1 /\ x.2.2.natAbs <= 500) -> (∀ y ∈ b, y.2.2.natAbs <= M) -> M + 500 * legs.length <= 1000000 ->
    postN (b.map bkR) (legs.map bkR) = some ((shiftAll b legs).map bkR) /\ BkL (shiftAll b legs) /\ (∀ y ∈ shiftAll b legs, y.2.2.natAbs <= M + 500 * legs.length)
  | [], b, M, h, _, hM, _ => ⟨rfl, h, fun y hy => by have := hM y hy; omega⟩
  | x :: r, b, M, h, hl, hM, hb => by
    rw [List.length_cons] at hb
    have hx := hl x (by simp)
    obtain ⟨p1, p2, p3⟩ := h.step hx.1 (fun y hy => by have := hM y hy; omega)
    obtain ⟨q1, q2, q3⟩ := postN_legs r (b.map (addB x)) (M + 500) p3 (fun y hy => ⟨inB_map (hl y (by simp [hy])).1, (hl y (by simp [hy])).2⟩) (fun y hy => by
      obtain ⟨z, hz, rfl⟩ := List.mem_map.1 hy
      have := hM z hz
      unfold addB
      split
      · show (z.2.2 + x.2.2).natAbs <= _
        omega
      · omega) (by omega)
    refine ⟨?_, q2, fun y hy => by have := q3 y hy; rw [List.length_cons]; omega⟩
    show (if postOk (b.map bkR) x.1 (.str x.2.1 :: enc x.2.2) then postN (postL (b.map bkR) x.1 (.str x.2.1 :: enc x.2.2)) (r.map bkR) else none) = _
    rw [if_pos p1, p2]
    exact q1
def tot : List B3 -> ByteArray -> Int
  | [], _ => 0
  | x :: r, n => (if n = x.1 then x.2.2 else 0) + tot r n
theorem tot_append : ∀ (a b : List B3) (n : ByteArray), tot (a ++ b) n = tot a n + tot b n
  | [], b, n => by simp [tot]
  | x :: r, b, n => by simp only [List.cons_append, tot, tot_append r b n]; omega
theorem shift_tot : ∀ (legs b : List B3), shiftAll b legs = b.map fun y => (y.1, y.2.1, y.2.2 + tot legs y.1)
  | [], b => by
    show b = _
    simp [tot]
  | x :: r, b => by
    show shiftAll (b.map (addB x)) r = _
    rw [shift_tot r, List.map_map]
    refine List.map_congr_left fun y _ => ?_
    simp only [Function.comp, addB_1, addB_2, tot]
    unfold addB
    split
    · show (y.1, y.2.1, y.2.2 + x.2.2 + tot r y.1) = (y.1, y.2.1, y.2.2 + (x.2.2 + tot r y.1))
      rw [Int.add_assoc]
    · rw [Int.zero_add]
def negB (x : B3) : B3 := (x.1, x.2.1, -x.2.2)
theorem tot_undo : ∀ (l : List B3) (n : ByteArray), tot (l.reverse.map negB) n = -(tot l n)
  | [], n => by simp [tot]
  | x :: r, n => by
    rw [List.reverse_cons, List.map_append, tot_append, tot_undo r n]
    simp only [List.map_cons, List.map_nil, tot, negB]
    split <;> omega
theorem shift_undo (b l : List B3) : shiftAll (shiftAll b l) (l.reverse.map negB) = b := by
  rw [shift_tot, shift_tot, List.map_map]
  conv => rhs; rw [<- List.map_id b]
  refine List.map_congr_left fun y _ => ?_
  simp only [Function.comp, tot_undo, id]
  rw [Int.add_neg_cancel_right]
theorem legNeg_bk (x : B3) : legNeg (bkR x) = bkR (negB x) := by
  show [.str x.1, .str x.2.1] ++ enc (-(ival (enc x.2.2))) = _
  rw [ival_enc]; rfl
theorem undo_bk {l : List B3} (h : legsOk (l.map bkR) = true) : undo (l.map bkR) = (l.reverse.map negB).map bkR := by
  unfold undo
  rw [if_pos h, <- List.map_reverse, List.map_map, List.map_map]
  exact List.map_congr_left fun y _ => legNeg_bk y
def swapP (p : Pr) : Pr := (p.2.1, p.1, p.2.2.1, p.2.2.2)
theorem legs_undo : ∀ P : List Pr, (legsOf P).reverse.map negB = legsOf (P.reverse.map swapP)
  | [] => rfl
  | p :: r => by
    show (prLegs p ++ legsOf r).reverse.map negB = _
    rw [List.reverse_append, List.map_append, legs_undo r, List.reverse_cons, List.map_append, legsOf_append]
    congr 1
    show [negB (p.2.1, p.2.2.1, -p.2.2.2), negB (p.1, p.2.2.1, p.2.2.2)] = prLegs (swapP p) ++ []
    unfold negB prLegs swapP
    simp
theorem prIn_swap {b : List B3} {p : Pr} (h : PrIn b p) : PrIn b (swapP p) := ⟨h.2.1, h.1, h.2.2⟩
theorem sumI_set (f : List D0 -> Int) : ∀ (l : List (List D0)) (j : Nat) (hj : j < l.length) (y : List D0), sumI f (l.set j y) = sumI f l - f l[j] + f y
  | x :: r, 0, _, y => by simp only [List.set_cons_zero, sumI, List.getElem_cons_zero]; omega
  | x :: r, j + 1, hj, y => by
    simp only [List.set_cons_succ, sumI, List.getElem_cons_succ, sumI_set f r j (by simpa using hj) y]; omega
theorem sum_step {b : List B3} (h : BkL b) {x : B3} (hin : InB b x.1 x.2.1) (c : ByteArray) : sumI (unitsOf c) ((b.map (addB x)).map bkR) = sumI (unitsOf c) (b.map bkR) + (if x.2.1 = c then x.2.2 else 0) := by
  obtain ⟨y, hy, hy1, hy2⟩ := hin
  obtain ⟨j, hj, rfl⟩ := List.getElem_of_mem hy
  rw [<- set_addB h hj hy1, List.map_set, sumI_set _ _ _ (by simpa using hj), List.getElem_map, unitsOf_bk, unitsOf_bk, <- hy2]
  dsimp only
  split <;> omega
def ltot : List B3 -> ByteArray -> Int
  | [], _ => 0
  | x :: r, c => (if x.2.1 = c then x.2.2 else 0) + ltot r c
theorem sum_shift (c : ByteArray) : ∀ (legs b : List B3) (M : Nat), BkL b -> (∀ x ∈ legs, InB b x.1 x.2.1 /\ x.2.2.natAbs <= 500) -> (∀ y ∈ b, y.2.2.natAbs <= M) -> M + 500 * legs.length <= 1000000 -> sumI (unitsOf c) ((shiftAll b legs).map bkR) = sumI (unitsOf c) (b.map bkR) + ltot legs c
  | [], b, M, _, _, _, _ => by simp [shiftAll, ltot]
  | x :: r, b, M, h, hl, hM, hb => by
    rw [List.length_cons] at hb
    have hx := hl x (by simp)
    obtain ⟨_, _, p3⟩ := h.step hx.1 (fun y hy => by have := hM y hy; omega)
    show sumI (unitsOf c) ((shiftAll (b.map (addB x)) r).map bkR) = _
    rw [sum_shift c r (b.map (addB x)) (M + 500) p3 (fun y hy => ⟨inB_map (hl y (by simp [hy])).1, (hl y (by simp [hy])).2⟩) (fun y hy => by
      obtain ⟨z, hz, rfl⟩ := List.mem_map.1 hy
      have := hM z hz
      unfold addB
      split
      · show (z.2.2 + x.2.2).natAbs <= _
        omega
      · omega) (by omega), sum_step h hx.1]
    show _ = _ + ((if x.2.1 = c then x.2.2 else 0) + ltot r c)
    omega
theorem ltot_pairs (c : ByteArray) : ∀ P : List Pr, ltot (legsOf P) c = 0
  | [] => rfl
  | p :: r => by
    show (if p.2.2.1 = c then p.2.2.2 else 0) + ((if p.2.2.1 = c then -p.2.2.2 else 0) + ltot (legsOf r) c) = 0
    rw [ltot_pairs c r]
    split <;> omega
theorem legs_ok {b : List B3} (h : BkL b) {P : List Pr} (hP : ∀ p ∈ P, PrIn b p) (h1 : P ≠ []) (h2 : P.length <= 4) : legsOk ((legsOf P).map bkR) = true := by
  unfold legsOk
  have hl := legsOf_len P
  have : 0 < P.length := List.length_pos_iff.2 h1
  rw [Bool.and_eq_true]
  refine ⟨decide_eq_true (by rw [List.length_map]; omega), List.all_eq_true.2 fun x hx => ?_⟩
  obtain ⟨y, hy, rfl⟩ := List.mem_map.1 hx
  obtain ⟨⟨z, hz, hz1, hz2⟩, hy2⟩ := legs_in hP y hy
  obtain ⟨r1, r2⟩ := h.row z hz
  show (isWord y.1 && moneyOk (.str y.2.1 :: enc y.2.2)) = true
  rw [<- hz1, r1, <- hz2, money_midB (moneyOk_parts r2).1 (by omega)]; rfl
theorem legs_bulk {b : List B3} (h : BkL b) {P : List Pr} (hP : ∀ p ∈ P, PrIn b p) : ∀ x ∈ (legsOf P).map bkR, bulks x <= 1048576 := fun x hx => by
  obtain ⟨y, hy, rfl⟩ := List.mem_map.1 hx
  obtain ⟨⟨z, hz, hz1, hz2⟩, hy2⟩ := legs_in hP y hy
  obtain ⟨r1, r2⟩ := h.row z hz
  have s1 := word_size r1
  have s2 := known_size (moneyOk_parts r2).1
  have s3 : (digs y.2.2.natAbs).length <= 4 := digs_len 4 (by omega)
  rw [hz1] at s1; rw [hz2] at s2
  simp only [bkR, enc, bulks, D0.bulk, List.map_cons, List.map_nil, List.sum_cons, List.sum_nil]
  omega
theorem legs_bal {b : List B3} (h : BkL b) {P : List Pr} (hP : ∀ p ∈ P, PrIn b p) (h1 : P ≠ []) (h2 : P.length <= 4) : balT ((legsOf P).map bkR) = true := by
  unfold balT
  rw [legs_ok h hP h1 h2, Bool.true_and, List.all_eq_true]
  exact fun x hx => decide_eq_true (sums_zero P x hx)
theorem legs_sums (P : List Pr) : legSumsT ((legsOf P).map bkR) = [] := by
  unfold legSumsT
  have : nz (sumsTo ((legsOf P).map bkR) ((legsOf P).map bkR).length) = [] := by
    unfold nz
    rw [List.filter_eq_nil_iff]
    intro x hx
    simp [sums_zero P x hx]
  rw [this]
  split <;> rfl
structure EntF (b : List B3) (P : List Pr) (M : Nat) : Prop where
  bk : BkL b
  prs : ∀ p ∈ P, PrIn b p
  ne : P ≠ []
  len : P.length <= 4
  bound : ∀ y ∈ b, y.2.2.natAbs <= M
  small : M <= 100000
theorem BkL.bad {b : List B3} (h : BkL b) {x : B3} (hin : InB b x.1 x.2.1) : badAcct (b.map bkR) (bkR x) = false /\ badCur (b.map bkR) (bkR x) = false := by
  obtain ⟨y, hy, hy1, hy2⟩ := hin
  obtain ⟨j, hj, rfl⟩ := List.getElem_of_mem hy
  have h1 := h.at hj
  have h2 := h.bal hj
  rw [hy1] at h1 h2
  refine ⟨decide_eq_false (by show ¬ acctAt (b.map bkR) x.1 < 0; rw [h1]; omega), decide_eq_false ?_⟩
  show ¬ strOf (balOf (b.map bkR) x.1) ≠ x.2.1
  rw [h2]
  show ¬ (b[j]).2.1 ≠ x.2.1
  rw [hy2]; simp
theorem EntF.code {b : List B3} {P : List Pr} {M : Nat} (h : EntF b P M) : entCode (b.map bkR) ((legsOf P).map bkR) = 0 /\ entBook (b.map bkR) ((legsOf P).map bkR) = (shiftAll b (legsOf P)).map bkR /\ BkL (shiftAll b (legsOf P)) /\ (∀ y ∈ shiftAll b (legsOf P), y.2.2.natAbs <= M + 4000) := by
  have hl := legsOf_len P
  have h2 := h.len
  have h3 := h.small
  have hin := legs_in h.prs
  obtain ⟨p1, p2, p3⟩ := postN_legs (legsOf P) b M h.bk hin h.bound (by omega)
  have b1 : (List.map bkR (legsOf P)).any (badAcct (b.map bkR)) = false := by
    rw [List.any_eq_false]
    intro x hx
    obtain ⟨y, hy, rfl⟩ := List.mem_map.1 hx
    rw [(h.bk.bad (hin y hy).1).1]; simp
  have b2 : (List.map bkR (legsOf P)).any (badCur (b.map bkR)) = false := by
    rw [List.any_eq_false]
    intro x hx
    obtain ⟨y, hy, rfl⟩ := List.mem_map.1 hx
    rw [(h.bk.bad (hin y hy).1).2]; simp
  have hc : entCode (b.map bkR) ((legsOf P).map bkR) = 0 := by
    unfold entCode
    rw [h.bk.ok, legs_ok h.bk h.prs h.ne h.len, b1, b2, legs_bal h.bk h.prs h.ne h.len, p1]
    rfl
  refine ⟨hc, ?_, p2, fun y hy => by have := p3 y hy; omega⟩
  unfold entBook
  rw [if_pos hc, p1]
  rfl
theorem inB_shift {b : List B3} : ∀ {legs : List B3} {n c : ByteArray}, InB b n c -> InB (shiftAll b legs) n c := fun {legs n c} h => by
  obtain ⟨y, hy, h1, h2⟩ := h
  rw [shift_tot]
  exact ⟨_, List.mem_map.2 ⟨y, hy, rfl⟩, h1, h2⟩
theorem EntF.back {b : List B3} {P : List Pr} {M : Nat} (h : EntF b P M) (hM : M + 4000 <= 100000) : EntF (shiftAll b (legsOf P)) (P.reverse.map swapP) (M + 4000) := by
  obtain ⟨_, _, h3, h4⟩ := h.code
  refine ⟨h3, fun p hp => ?_, by simpa using h.ne, by simpa using h.len, h4, hM⟩
  obtain ⟨q, hq, rfl⟩ := List.mem_map.1 hp
  obtain ⟨k1, k2, k3⟩ := prIn_swap (h.prs q (List.mem_reverse.1 hq))
  exact ⟨inB_shift k1, inB_shift k2, k3⟩
theorem EntF.again {b : List B3} {P : List Pr} {M : Nat} (h : EntF b P M) : shiftAll (shiftAll b (legsOf P)) (legsOf (P.reverse.map swapP)) = b := by
  rw [<- legs_undo, shift_undo]
theorem EntF.undo {b : List B3} {P : List Pr} {M : Nat} (h : EntF b P M) : Go.Proofs.YtbgokfhcgcoipaaGreatDoor.undo ((legsOf P).map bkR) = (legsOf (P.reverse.map swapP)).map bkR := by
  rw [undo_bk (legs_ok h.bk h.prs h.ne h.len), legs_undo]
theorem EntF.sums {b : List B3} {P : List Pr} {M : Nat} (h : EntF b P M) (c : ByteArray) : bookSum ((shiftAll b (legsOf P)).map bkR) c = bookSum (b.map bkR) c := by
  obtain ⟨_, _, h3, _⟩ := h.code
  have hl := legsOf_len P
  have := h.len; have := h.small
  rw [h3.sum, h.bk.sum, sum_shift c (legsOf P) b M h.bk (legs_in h.prs) h.bound (by omega), ltot_pairs, Int.add_zero]
theorem legs_text {P : List Pr} (h : P ≠ []) : legsT ((legsOf P).map bkR) ≠ S [] := by
  cases P with
  | nil => exact absurd rfl h
  | cons p r =>
    intro he
    have h1 : (legsT ((legsOf (p :: r)).map bkR)).data.toList = [] := by rw [he]
    unfold legsT joinT at h1
    have h2 : Lib.join (((legsOf (p :: r)).map bkR |>.map legT).map (·.data.toList)) (S [59, 32]).data.toList = [] := by simpa using h1
    have h3 : ((legsOf (p :: r)).map bkR |>.map legT).map (fun x : ByteArray => x.data.toList) = (legT (bkR (p.1, p.2.2.1, p.2.2.2))).data.toList :: (((p.2.1, p.2.2.1, -p.2.2.2) :: legsOf r).map bkR |>.map legT).map (fun x : ByteArray => x.data.toList) := rfl
    rw [h3, Lib.join_cons] at h2
    have h4 := (List.append_eq_nil_iff.1 h2).1
    have h5 : (legT (bkR (p.1, p.2.2.1, p.2.2.2))).size = 0 := by rw [ba_size, h4]; rfl
    have h6 : (((p.1 ++ S [32]) ++ moneyT (.str p.2.2.1 :: enc p.2.2.2))).size = 0 := h5
    rw [ByteArray.size_append, ByteArray.size_append] at h6
    have : (S [32]).size = 1 := rfl
    omega
end Go.Proofs.YtbgokfhcgcoipaaGreatDoor
namespace Go.Proofs.YtbgokfhcgcoipaaGreatDoor
open Go Go.Proofs.YtbgokfhcgcoipaaGreatDoor.Sx
theorem Sx.OwnRows.blk_mem {w : World} {B : Nat} {e : TypeId} {k : Nat} {p : Option Addr} {n c : Nat} {l : List (List D0)} {f : List Nat} (h : OwnRows w B e k p n c l f) : ∀ q ∈ (p.map (·.block)).toList, q ∈ f := by
  obtain ⟨_, css, fs, _, _, rfl, _⟩ := h
  exact fun q hq => List.mem_append_left _ hq
end Go.Proofs.YtbgokfhcgcoipaaGreatDoor
namespace Go.Proofs.YtbgokfhcgcoipaaGreatDoor
open Go Go.Proofs.YtbgokfhcgcoipaaGreatDoor.Sx
set_option maxHeartbeats 1000000
def FK (o : Obj) (B : Nat) (ss : List (Option Nat)) (w : World) : Prop := B <= w.heap.size /\ ∀ r, ss[0]? = some (some r) -> B <= r /\ r < w.heap.size /\ w.heap[r]? = some o
theorem FK.start {o : Obj} (w : World) : FK o w.heap.size [none] w := ⟨Nat.le_refl _, fun r h => by simp at h⟩
theorem Fl.fresh {os : List Obj} {ss : List (Option Nat)} {w : World} {s1 : List (Option Nat)} {w1 : World} (h : Fl os ss w s1 w1) {k r : Nat} (hk : s1[k]? = some (some r)) : ss[k]? = some (some r) ∨ (w.heap.size <= r /\ r < w1.heap.size /\ w1.heap[r]? = os[k]?) := by
  induction h with
  | refl => exact .inl hk
  | step h1 h2 h3 ih =>
    rename_i ss w k' o s' w'
    have hs : (w.alloc o).heap.size = w.heap.size + 1 := by simp
    rcases ih hk with h | h
    · by_cases e : k' = k
      · subst e
        have hl : k' < ss.length := by
          rcases Nat.lt_or_ge k' ss.length with h | h
          · exact h
          · rw [List.getElem?_eq_none h] at h1; cases h1
        rw [List.getElem?_set_self hl] at h
        simp at h
        subst h
        have y := h3.ext
        have hle := y.le
        refine .inr ⟨Nat.le_refl _, by omega, ?_⟩
        rw [y.block w.heap.size (by omega), heap_alloc_new w o, h2]
      · rw [List.getElem?_set_ne e] at h
        exact .inl h
    · exact .inr ⟨by omega, h.2⟩
theorem FK.fl {o : Obj} {B : Nat} {ss ss' : List (Option Nat)} {w w' : World} (h : FK o B ss w) (f : Fl [o] ss w ss' w') : FK o B ss' w' := by
  have hle := f.ext.le
  refine ⟨Nat.le_trans h.1 hle, fun r hr => ?_⟩
  rcases Fl.fresh f hr with k | ⟨k1, k2, k3⟩
  · obtain ⟨a, b, c⟩ := h.2 r k
    exact ⟨a, by omega, (f.ext.block r b).trans c⟩
  · exact ⟨Nat.le_trans h.1 k1, k2, k3⟩
theorem FK.chg {o : Obj} {B : Nat} {ss : List (Option Nat)} {w w' : World} {T : List Nat} (h : FK o B ss w) (c : Chg T w w') (hT : ∀ q ∈ T, q < B) : FK o B ss w' :=
  ⟨Nat.le_trans h.1 c.size, fun r hr => by
    obtain ⟨a, b, e⟩ := h.2 r hr
    exact ⟨a, Nat.lt_of_lt_of_le b c.size, (c.block r b (fun hm => by have := hT r hm; omega)).trans e⟩⟩
theorem FK.blk {cs : List Value} {e : TypeId} {B r : Nat} {ss : List (Option Nat)} {w : World} (h : FK (.cells ⟨cs⟩ e (0, 0)) B ss w) (hr : ss[0]? = some (some r)) : B <= r /\ r < w.heap.size /\ Blk w r e cs := h.2 r hr
theorem nin {a b : Nat} (h : a ≠ b) : a ∉ [b] := fun hm => h (List.mem_singleton.1 hm)
theorem spec_l18Draw_c {w0 w : World} {rc n c bn bc : Nat} {p bp : Option Addr} {b : List B3} (hx0 : Ext w0 w) (hrc : w0.heap.size <= rc) (h : RowsR w0 4 bp bn bc (b.map bkR)) (hD : DBk b) (hc : Cur w rc p n c) (hb : ByR w0 p n) (hne : 0 < n -> ∀ q, p.map (·.block) = some q -> q ≠ rc) (hn : n <= 1048576) :
    Ret P n_spec_l18Draw [.pointer (some ⟨rc, 0, none⟩), .agg ⟨[.slice bp bn bc]⟩] w fun v w' => ∃ (Q : List Pr) (p' : Option Addr) (n' c' : Nat), v = .slice p' n' c' /\ RowsR w' 4 p' n' c' ((legsOf Q).map bkR) /\ (∀ q ∈ Q, PrIn b q) /\ Q.length <= 3 /\ (b = [] -> Q = []) /\ (b ≠ [] -> Q ≠ []) /\ Ext w0 w' := by
  have hbn : b.length = bn := by have := h.1; simpa using this
  have hlt := hc.lt
  have lx0 := hx0.le
  refine spec_l18Draw_x_ret ?_
  unfold spec_l18Draw_x
  intro r w1 hn1 r1 w2 hn2
  have e1 := hn1.r_eq; have e2 := hn2.r_eq; have s1 := hn1.size; have s2 := hn2.size
  have rc0 : ∀ q ∈ [rc], w0.heap.size <= q := fun q hq => by have := List.mem_singleton.1 hq; omega
  have X2 := hx0.trans (hn1.ext.trans hn2.ext)
  refine Ret.at (spec_l01Below_c (hc.ext (hn1.ext.trans hn2.ext)) (hb.ext X2) hne hn (k := 3) (by decide) (by decide)) ?_
  rintro v w3 ⟨z, rfl, hz0, hz1, hc3, ch3⟩
  have X3 := X2.chg ch3 rc0
  have z3 := ch3.size
  obtain ⟨k0, hk0⟩ : ∃ k : Nat, 1 + z = k := ⟨(1 + z).toNat, by omega⟩
  have oF : OwnRows w3 w1.heap.size T_impl_Leg 4 (some ⟨r1, 0, none⟩) 0 0 [] [r1] := (OwnRows.fresh hn2 (by omega)).chg ch3 (fun x hx => nin (by have := List.mem_singleton.1 hx; omega))
  refine ⟨_, rfl, exW ⟨by omega, by omega⟩ ⟨fun lp ln lc i W => ∃ (k : Nat) (Q : List Pr) (f : List Nat), i = k /\ OwnRows W w1.heap.size T_impl_Leg 4 lp ln lc ((legsOf Q).map bkR) f /\ Q.length + k <= 3 /\ (∀ q ∈ Q, PrIn b q) /\ (b = [] -> Q = []) /\ (Q = [] -> 1 <= k) /\ Cur W rc p n c /\ Blk W r T_impl_Book [.slice bp bn bc] /\ Ext w0 W /\ w2.heap.size <= W.heap.size, fun _ _ _ i _ => i.toNat,
    ⟨k0, [], [r1], by omega, oF, by simp; omega, fun q hq => by simp at hq, fun _ => rfl, fun _ => by omega, hc3, (hn1.blk.ext hn2.ext).chg ch3 (nin (by omega)), X3, by omega⟩, ?_⟩⟩
  rintro junk W lp ln lc i ⟨k, Q, f, rfl, hO, hk, hQ, hbe, hQ1, hcW, hB, hX, hWz⟩
  have fin : ∀ (lp : Option Addr) (ln lc : Nat), OwnRows W w1.heap.size T_impl_Leg 4 lp ln lc ((legsOf Q).map bkR) f -> (b ≠ [] -> Q ≠ []) -> ∃ (Q : List Pr) (p' : Option Addr) (n' c' : Nat), Value.slice lp ln lc = .slice p' n' c' /\ RowsR W 4 p' n' c' ((legsOf Q).map bkR) /\ (∀ q ∈ Q, PrIn b q) /\ Q.length <= 3 /\ (b = [] -> Q = []) /\ (b ≠ [] -> Q ≠ []) /\ Ext w0 W :=
    fun lp ln lc ho hq => ⟨Q, lp, ln, lc, rfl, ho.rows, hQ, by omega, hbe, hq, hX⟩
  refine ifD (fun hpos => ?_) (fun hge => ⟨fun e => absurd e (by simp), fun _ => fin _ _ _ hO (fun _ hq => by have := hQ1 hq; omega)⟩)
  refine ⟨_, _, _, hB.loadAt 0 rfl (by kernel_rfl) rfl, ifD (fun hbp => ?_) (fun hb0 => fin _ _ _ hO (fun hne => absurd (List.length_eq_zero_iff.1 (by omega)) hne))⟩
  unfold spec_l18Draw_x_j0
  have hl5 := hD.len
  obtain ⟨bb, bo, hpp, hs⟩ := h.2.2.2 (by omega)
  subst hpp
  have row : ∀ (i : Nat) (hi : i < b.length) (W' : World), Ext w0 W' -> ∃ (a2 : Bool) (a3p : Option Addr) (a3n a3c : Nat), Loads P T_impl_Acct (((⟨bb, bo, none⟩ : Addr)).add (i * 4)) (.agg ⟨[.string (b[i]).1, .string (b[i]).2.1, .bool a2, .slice a3p a3n a3c]⟩) W' /\ ∀ W'' : World, Ext w0 W'' -> Loads P T_impl_Acct (((⟨bb, bo, none⟩ : Addr)).add (i * 4)) (.agg ⟨[.string (b[i]).1, .string (b[i]).2.1, .bool a2, .slice a3p a3n a3c]⟩) W'' := by
    intro i hi W' hW'
    obtain ⟨cs, hk, hr, hsg⟩ := hs i (bkR b[i]) (by rw [List.getElem?_map, List.getElem?_eq_getElem hi]; rfl)
    have hr0 := hr
    obtain ⟨a0, a1, a2, a3p, a3n, a3c, a3z, rfl, _, _⟩ := open_Acct hr (bkR_code b _ (List.mem_map.2 ⟨_, List.getElem_mem hi, rfl⟩))
    have ha0 : a0 = (b[i]).1 := Value.string.inj hr0.1
    have ha1 : a1 = (b[i]).2.1 := Value.string.inj hr0.2.1
    subst ha0; subst ha1
    have ld : ∀ W'' : World, Ext w0 W'' -> Loads P T_impl_Acct (((⟨bb, bo, none⟩ : Addr)).add (i * 4)) (.agg ⟨[.string (b[i]).1, .string (b[i]).2.1, .bool a2, .slice a3p a3n a3c]⟩) W'' := fun W'' hW'' =>
      (hsg.ext hW'').loadAAt 0 [.string (b[i]).1, .string (b[i]).2.1, .bool a2, .slice a3p a3n a3c] (by rw [addr_add]; rfl) (by kernel_rfl) rfl
    exact ⟨a2, a3p, a3n, a3c, ld W' hW', ld⟩
  have hlW := hO.lt
  have hrW : r < W.heap.size := hB.lt
  have D := Ext.drew W
  have B0 := hB.ext D
  have nrc : r ≠ rc := by omega
  have lD := D.le
  have rcW := hcW.lt
  -- the first account
  refine ⟨[rc], _, _, _, fun W' hW => (B0.chg (show Chg [rc] W.drew W' from hW) (nin nrc)).loadAt 0 rfl (by kernel_rfl) rfl, _, _, _, fun W' hW => (B0.chg (show Chg [rc] W.drew W' from hW) (nin nrc)).loadAt 0 rfl (by kernel_rfl) rfl, ?_⟩
  intro ss w6 F1
  have K := (FK.start W.drew).fl F1
  have Xa := hX.trans (D.trans F1.ext)
  refine Ret.at (spec_l01Below_c (hcW.ext (D.trans F1.ext)) (hb.ext Xa) hne hn (k := ((bn : Nat) : Int)) (by omega) (by omega)) ?_
  rintro v w7 ⟨ia, rfl, ia0, ia1, hc7, ch7⟩
  have K := K.chg ch7 (fun q hq => by have := List.mem_singleton.1 hq; omega)
  have X7 := Xa.chg ch7 rc0
  obtain ⟨i, rfl⟩ : ∃ i : Nat, ia = i := ⟨ia.toNat, by omega⟩
  have hi : i < b.length := by omega
  obtain ⟨a2, a3p, a3n, a3c, _, ldA⟩ := row i hi w7 X7
  refine ⟨_, rfl, show Chg [rc] w6 w7 from ch7, ⟨by omega, by omega⟩, _, _, _, _, _, _, fun W' hW => by rw [Int.toNat_natCast]; exact ldA W' (X7.chg (show Chg [rc] w7 W' from hW) rc0), ?_⟩
  intro ss1 w9 r2 F2 G2
  obtain ⟨q2, l2, B2⟩ := (K.fl F2).blk G2
  obtain ⟨w10, st10, B2, ch10, z10⟩ := B2.storeA0 (P := P) (t := T_impl_Acct) (xs := [.string (b[i]).1, .string (b[i]).2.1, .bool a2, .slice a3p a3n a3c]) (by kernel_rfl) rfl (by simp [Value.oneCell'])
  have zz7 := ch7.size
  have l7 := F1.ext.le
  have l9 := F2.ext.le
  have hO10 := ((((hO.ext (D.trans F1.ext)).chg ch7 (fun x hx => nin (by have := hlW x hx; omega))).ext F2.ext)).chg ch10 (fun x hx => nin (by have := hlW x hx; omega))
  have hc10 := (hc7.ext F2.ext).keep ch10 (nin (by omega))
  have hB10 := ((((B0.ext F1.ext).chg ch7 (nin nrc)).ext F2.ext)).chg ch10 (nin (by omega))
  have X10 := (X7.trans F2.ext).chg ch10 (fun q hq => by have := List.mem_singleton.1 hq; have := hX.le; omega)
  refine ⟨w10, st10, ?_⟩
  -- the second account
  have D2 := Ext.drew w10
  have lD2 := D2.le
  have B0 := hB10.ext D2
  refine ⟨[rc], _, _, _, fun W' hW => (B0.chg (show Chg [rc] w10.drew W' from hW) (nin nrc)).loadAt 0 rfl (by kernel_rfl) rfl, _, _, _, fun W' hW => (B0.chg (show Chg [rc] w10.drew W' from hW) (nin nrc)).loadAt 0 rfl (by kernel_rfl) rfl, ?_⟩
  intro ss2 w13 F3
  have K := (FK.start w10.drew).fl F3
  have Xa := X10.trans (D2.trans F3.ext)
  refine Ret.at (spec_l01Below_c (hc10.ext (D2.trans F3.ext)) (hb.ext Xa) hne hn (k := ((bn : Nat) : Int)) (by omega) (by omega)) ?_
  rintro v w14 ⟨ka, rfl, ka0, ka1, hc14, ch14⟩
  have K := K.chg ch14 (fun q hq => by have := List.mem_singleton.1 hq; omega)
  have X14 := Xa.chg ch14 rc0
  obtain ⟨j, rfl⟩ : ∃ i : Nat, ka = i := ⟨ka.toNat, by omega⟩
  have hj : j < b.length := by omega
  obtain ⟨d2, d3p, d3n, d3c, _, ldD⟩ := row j hj w14 X14
  refine ⟨_, rfl, show Chg [rc] w13 w14 from ch14, ⟨by omega, by omega⟩, _, _, _, _, _, _, fun W' hW => by rw [Int.toNat_natCast]; exact ldD W' (X14.chg (show Chg [rc] w14 W' from hW) rc0), ?_⟩
  intro ss3 w16 r3 F4 G4
  obtain ⟨q3, l3, B3⟩ := (K.fl F4).blk G4
  obtain ⟨w17, st17, B3, ch17, z17⟩ := B3.storeA0 (P := P) (t := T_impl_Acct) (xs := [.string (b[j]).1, .string (b[j]).2.1, .bool d2, .slice d3p d3n d3c]) (by kernel_rfl) rfl (by simp [Value.oneCell'])
  have zz14 := ch14.size
  have l13 := F3.ext.le
  have l16 := F4.ext.le
  have hO17 := ((((hO10.ext (D2.trans F3.ext)).chg ch14 (fun x hx => nin (by have := hlW x hx; omega))).ext F4.ext)).chg ch17 (fun x hx => nin (by have := hlW x hx; omega))
  have hc17 := (hc14.ext F4.ext).keep ch17 (nin (by omega))
  have hB17 := ((((B0.ext F3.ext).chg ch14 (nin nrc)).ext F4.ext)).chg ch17 (nin (by omega))
  have n2c : r2 ≠ rc := by omega
  have B2 := ((((B2.ext (D2.trans F3.ext)).chg ch14 (nin n2c)).ext F4.ext)).chg ch17 (nin (by omega))
  have X17 := (X14.trans F4.ext).chg ch17 (fun q hq => by have := List.mem_singleton.1 hq; have := hX.le; omega)
  refine ⟨w17, st17, ?_⟩
  -- the amount
  have D3 := Ext.drew w17
  have lD3 := D3.le
  have B2d := B2.ext D3
  refine ⟨[rc], (b[i]).2.1, fun W' hW => (B2d.chg (show Chg [rc] w17.drew W' from hW) (nin n2c)).loadAt 1 (by rw [addr_add, addr_add]) (by kernel_rfl) rfl, ?_⟩
  intro ss4 w19 F5
  have K := (FK.start w17.drew).fl F5
  have Xa := X17.trans (D3.trans F5.ext)
  refine Ret.at (spec_l01Below_c (hc17.ext (D3.trans F5.ext)) (hb.ext Xa) hne hn (k := 500) (by decide) (by decide)) ?_
  rintro v w20 ⟨m, rfl, hm0, hm1, hc20, ch20⟩
  have K := K.chg ch20 (fun q hq => by have := List.mem_singleton.1 hq; omega)
  have X20 := Xa.chg ch20 rc0
  refine ⟨_, rfl, show Chg [rc] w19 w20 from ch20, ?_⟩
  intro ss5 w21 F6
  have K := K.fl F6
  refine Ret.at (spec_IntOf_c (n := m) (by omega) (by omega)) ?_
  rintro v w22 ⟨vs22, f22, rfl, o22, nd22, y22⟩
  have r22 := o22.reps
  obtain ⟨g0, gp, gn, gc, gz, rfl, _, _⟩ := open_Signed o22.reps (enc_code _)
  refine ⟨_, _, _, _, rfl, show Chg [rc] w21 w22 from y22.toChg, ?_⟩
  intro ss6 w23 r4 F7 G7
  have l19 := F5.ext.le; have zz20 := ch20.size; have l21 := F6.ext.le; have l22 := y22.le; have l23 := F7.ext.le
  have K22 := K.chg (T := []) y22.toChg (fun q hq => by simp at hq)
  obtain ⟨q4, l4, B4⟩ := (K22.fl F7).blk G7
  have r4ap : r4 < w21.heap.size ∨ w22.heap.size <= r4 := by
    rcases Fl.fresh F7 G7 with h4 | h4
    · exact .inl (K.2 r4 h4).2.1
    · exact .inr h4.1
  have f22lt := o22.lt
  have n4f : ∀ q ∈ f22, q ≠ r4 := fun q hq => by have := f22lt q hq; omega
  obtain ⟨w24, st24, B4, ch24, z24⟩ := B4.storeA0 (P := P) (t := T_impl_Money) (xs := [.string (b[i]).2.1, .bool g0, .slice gp gn gc]) (by kernel_rfl) rfl (by simp [Value.oneCell'])
  have o24 := (o22.ext F7.ext).chg ch24 (fun q hq => nin (n4f q hq))
  have own4 : Owns w24 w21.heap.size [.string (b[i]).2.1, .bool g0, .slice gp gn gc] (.str (b[i]).2.1 :: enc m) f22 := by
    have := Owns.append (Owns.str w24 w21.heap.size (b[i]).2.1) o24
    simpa using this
  have Y23 := F6.ext.trans (y22.trans F7.ext)
  have hO24 := ((((hO17.ext (D3.trans F5.ext)).chg ch20 (fun x hx => nin (by have := hlW x hx; omega))).ext Y23)).chg ch24 (fun x hx => nin (by have := hlW x hx; omega))
  have hc24 := (hc20.ext Y23).keep ch24 (nin (by omega))
  have hB24 := ((((hB17.ext (D3.trans F5.ext)).chg ch20 (nin nrc)).ext Y23)).chg ch24 (nin (by omega))
  have B2 := ((((B2d.ext F5.ext).chg ch20 (nin n2c)).ext Y23)).chg ch24 (nin (by omega))
  have B3 := ((((B3.ext (D3.trans F5.ext)).chg ch20 (nin (by omega))).ext Y23)).chg ch24 (nin (by omega))
  have X24 := (X20.trans Y23).chg ch24 (fun q hq => by have := List.mem_singleton.1 hq; have := hX.le; omega)
  refine ⟨w24, st24, _, _, _, _, _, B4.loadA0 (by kernel_rfl), ?_⟩
  -- the amount turned
  have hck := curs4_known _ (hD.all _ (List.getElem_mem hi)).2.1
  have okm : moneyOk (.str (b[i]).2.1 :: enc m) = true := money_midB hck (by omega)
  refine Ret.at (spec_MoneyNeg_c (c := (b[i]).2.1) (b := decide (m < 0)) (z := digs m.natAbs) own4.reps okm) ?_
  rintro v w25 ⟨vs25, f25, rfl, o25, nd25, y25⟩
  have o25 : Owns w25 w24.heap.size vs25 (.str (b[i]).2.1 :: enc (-m)) f25 := by
    have e : ival [.bool (decide (m < 0)), .ints (digs m.natAbs)] = m := ival_enc m
    rw [e] at o25; exact o25
  have r25 := o25.reps
  have r25c := r25
  obtain ⟨t0, t1, tp, tn, tc, tz, rfl, _, _⟩ := open_Money r25 rfl
  have ht0 : t0 = (b[i]).2.1 := Value.string.inj r25c.1
  subst ht0
  refine ⟨_, _, _, _, _, _, rfl, ?_⟩
  intro r5 w26 hn26
  have e26 := hn26.r_eq; have s26 := hn26.size
  obtain ⟨w27, st27, B5, y27⟩ := hn26.fill (P := P) (t := T_impl_Money) r25c.cells1 (by kernel_rfl) rfl
  have l25 := y25.le; have l27 := y27.le; have lB5 := B5.lt
  have Y27 := y25.trans y27
  refine ⟨w27, st27, (b[i]).1, (B2.ext Y27).loadAt 0 (by rw [addr_add]) (by kernel_rfl) rfl, _, _, _, _, _, (B4.ext Y27).loadA0 (by kernel_rfl), ?_⟩
  intro r6 w28 hn28
  have e28 := hn28.r_eq; have s28 := hn28.size
  have Y28 := Y27.trans hn28.ext
  have f25lt := o25.lt
  have leg1 : Owns w28 w1.heap.size [.string (b[i]).1, .string (b[i]).2.1, .bool g0, .slice gp gn gc] (bkR ((b[i]).1, (b[i]).2.1, m)) f22 := by
    have := Owns.append (Owns.str w28 w1.heap.size (b[i]).1) ((own4.ext Y28).mono (B' := w1.heap.size) (by omega))
    show Owns _ _ _ (.str (b[i]).1 :: .str (b[i]).2.1 :: enc m) _
    simpa using this
  have hlen : (legsOf Q).length = ln := by have := hO.rows.1; simpa using this
  have hln : ln <= 6 := by rw [<- hlen, legsOf_len]; omega
  obtain ⟨p', c', w29, f', ap1, hO29, ch29, hf'⟩ := OwnRows_pushF (hO24.ext Y28) sliceT_leg (by omega) hn28.blk rfl leg1 nd22 (fun q hq hm => by have := f22lt q hq; have := hlW q hm; omega) (by omega) (by decide)
  have pbf : ∀ x ∈ (lp.map (·.block)).toList, x ∈ f := hO.blk_mem
  have npb : ∀ {q : Nat}, W.heap.size <= q -> q ∉ (lp.map (·.block)).toList := fun hq hm => by have := hlW _ (pbf _ hm); omega
  have z29 := ch29.size
  have hc29 := (hc24.ext Y28).keep ch29 (fun hm => by have := hlW _ (pbf _ hm); omega)
  have hB29 := (hB24.ext Y28).chg ch29 (fun hm => by have := hlW _ (pbf _ hm); omega)
  have B2 := (B2.ext Y28).chg ch29 (npb (by omega))
  have B3 := (B3.ext Y28).chg ch29 (npb (by omega))
  have B5 := (B5.ext hn28.ext).chg ch29 (npb (by omega))
  have o29 := ((o25.ext (y27.trans hn28.ext)).chg ch29 (fun q hq => npb (by have := f25lt q hq; omega)))
  have X29 := (X24.trans Y28).chg ch29 (fun q hq => by have := hlW _ (pbf _ hq); have := hx0.le; omega)
  have hlt29 := hO29.lt
  refine ⟨p', _, c', w29, ap1, (b[j]).2.1, B3.loadAt 1 (by rw [addr_add, addr_add]) (by kernel_rfl) rfl, (b[i]).2.1, B2.loadAt 1 (by rw [addr_add, addr_add]) (by kernel_rfl) rfl, ?_⟩
  -- the second leg, of either account
  have go : ∀ (nm : ByteArray), InB b nm (b[i]).2.1 -> ∀ (r7 : Nat) (w30 : World), New w29 (.cells ⟨[.string nm, .string (b[i]).2.1, .bool t1, .slice tp tn tc]⟩ T_impl_Leg (0, 0)) r7 w30 ->
      ∃ (q' : Option Addr) (n' c'' : Nat) (w31 : World), Appends P [T_s_impl_Leg, T_s_impl_Leg] [.slice p' (ln + 1) c', .slice (some ⟨r7, 0, none⟩) 1 1] (.slice q' n' c'') w30 w31 /\
        spec_l18Draw_x_j1 W (fun lp ln lc i W => ∃ (k : Nat) (Q : List Pr) (f : List Nat), i = k /\ OwnRows W w1.heap.size T_impl_Leg 4 lp ln lc ((legsOf Q).map bkR) f /\ Q.length + k <= 3 /\ (∀ q ∈ Q, PrIn b q) /\ (b = [] -> Q = []) /\ (Q = [] -> 1 <= k) /\ Cur W rc p n c /\ Blk W r T_impl_Book [.slice (some ⟨bb, bo, none⟩) bn bc] /\ Ext w0 W /\ w2.heap.size <= W.heap.size) (fun _ _ _ i _ => i.toNat) lp ln lc (k : Int) q' n' c'' w31 fun v w' => ∃ (Q : List Pr) (p' : Option Addr) (n' c' : Nat), v = .slice p' n' c' /\ RowsR w' 4 p' n' c' ((legsOf Q).map bkR) /\ (∀ q ∈ Q, PrIn b q) /\ Q.length <= 3 /\ (b = [] -> Q = []) /\ (b ≠ [] -> Q ≠ []) /\ Ext w0 w' := by
    intro nm hnm r7 w30 hn30
    have e30 := hn30.r_eq; have s30 := hn30.size
    have leg2 : Owns w30 w1.heap.size [.string nm, .string (b[i]).2.1, .bool t1, .slice tp tn tc] (bkR (nm, (b[i]).2.1, -m)) f25 := by
      have := Owns.append (Owns.str w30 w1.heap.size nm) ((o29.ext hn30.ext).mono (B' := w1.heap.size) (by omega))
      show Owns _ _ _ (.str nm :: .str (b[i]).2.1 :: enc (-m)) _
      simpa using this
    obtain ⟨p2, c2, w31, f2, ap2, hO31, ch31, hf2⟩ := OwnRows_pushF (hO29.ext hn30.ext) sliceT_leg (by omega) hn30.blk rfl leg2 nd25 (fun q hq hm => by
      have h5 := f25lt q hq
      rcases hf' q hm with h6 | h6 | h6
      · have := hlW q h6; omega
      · have := f22lt q h6; omega
      · omega) (by omega) (by decide)
    have pbf2 : ∀ x ∈ (p'.map (·.block)).toList, x ∈ f' := hO29.blk_mem
    have z31 := ch31.size
    refine ⟨p2, _, c2, w31, ap2, ?_⟩
    unfold spec_l18Draw_x_j1
    have hrows : ((legsOf Q).map bkR ++ [bkR ((b[i]).1, (b[i]).2.1, m)]) ++ [bkR (nm, (b[i]).2.1, -m)] = (legsOf (Q ++ [((b[i]).1, nm, (b[i]).2.1, m)])).map bkR := by
      rw [legsOf_append, List.map_append, List.append_assoc]; rfl
    rw [hrows] at hO31
    refine exW ⟨by omega, by omega⟩ ⟨⟨k - 1, Q ++ [((b[i]).1, nm, (b[i]).2.1, m)], f2, by omega, hO31, by rw [List.length_append]; show Q.length + 1 + (k - 1) <= 3; omega, fun q hq => ?_, fun he => absurd he (by intro h0; rw [h0] at hi; simp at hi), fun he => absurd he (by simp), ?_, ?_, ?_, by omega⟩, ?_⟩
    · rcases List.mem_append.1 hq with hq | hq
      · exact hQ q hq
      · rw [List.mem_singleton.1 hq]
        exact ⟨⟨b[i], List.getElem_mem hi, rfl, rfl⟩, hnm, by show m.natAbs <= 500; omega⟩
    · exact (hc29.ext hn30.ext).keep ch31 (fun hm => by have := hlt29 _ (pbf2 _ hm); omega)
    · exact (hB29.ext hn30.ext).chg ch31 (fun hm => by have := hlt29 _ (pbf2 _ hm); omega)
    · exact (X29.trans hn30.ext).chg ch31 (fun q hq => by have := hlt29 _ (pbf2 _ hq); have := hx0.le; omega)
    · show ((k : Int) - 1).toNat < (k : Int).toNat
      omega
  refine ifD (fun heq => ?_) (fun _ => ?_)
  · refine ⟨(b[j]).1, B3.loadAt 0 (by rw [addr_add]) (by kernel_rfl) rfl, _, _, _, _, _, B5.loadA0 (by kernel_rfl), ?_⟩
    intro r7 w30 hn30
    exact go (b[j]).1 ⟨b[j], List.getElem_mem hj, rfl, heq⟩ r7 w30 hn30
  · refine ⟨(b[i]).1, B2.loadAt 0 (by rw [addr_add]) (by kernel_rfl) rfl, _, _, _, _, _, B5.loadA0 (by kernel_rfl), ?_⟩
    intro r7 w30 hn30
    exact go (b[i]).1 ⟨b[i], List.getElem_mem hi, rfl, rfl⟩ r7 w30 hn30
theorem spec_MakeLegs_c {w : World} {p bp : Option Addr} {n c bn bc : Nat} {b : List B3} (h : ByR w p n) (hn : n <= 1048576) (g : RowsR w 4 bp bn bc (b.map bkR)) (hD : DBk b) :
    Ret P n_spec_MakeLegs [.slice p n c, .agg ⟨[.slice bp bn bc]⟩] w fun v w' => ∃ (Q : List Pr) (p' : Option Addr) (n' c' : Nat), v = .slice p' n' c' /\ RowsR w' 4 p' n' c' ((legsOf Q).map bkR) /\ (∀ q ∈ Q, PrIn b q) /\ Q.length <= 3 /\ (b = [] -> Q = []) /\ (b ≠ [] -> Q ≠ []) /\ Ext w w' := by
  refine spec_MakeLegs_ret ?_
  unfold spec_MakeLegs
  intro r w1 hn1
  have e1 := hn1.r_eq; have s1 := hn1.size
  refine Ret.at (spec_l01New_c (h.ext hn1.ext) hn) ?_
  rintro v w2 ⟨rc, rfl, hr, hc, y2⟩
  have X2 := hn1.ext.trans y2
  refine ⟨_, rfl, ?_⟩
  refine curBump hc fun w3 hc3 ch3 => ?_
  have hne : 0 < n -> ∀ q, p.map (·.block) = some q -> q ≠ rc := h.ne (by omega)
  have X3 : Ext w1 w3 := y2.chg ch3 (fun q hq => by have := List.mem_singleton.1 hq; omega)
  refine ⟨_, _, _, (hn1.blk.ext X3).loadA0 (by kernel_rfl), ?_⟩
  refine Ret.at (spec_l18Draw_c X3 hr (g.ext hn1.ext) hD hc3 (h.ext hn1.ext) hne hn) ?_
  rintro v w4 ⟨Q, ap, an, ac, rfl, hR, hQ, hQl, hQ0, hQ1, X4⟩
  exact ⟨_, _, _, rfl, Q, _, _, _, rfl, hR, hQ, hQl, hQ0, hQ1, hn1.ext.trans X4⟩
end Go.Proofs.YtbgokfhcgcoipaaGreatDoor
namespace Go.Proofs.YtbgokfhcgcoipaaGreatDoor
open Go Go.Proofs.YtbgokfhcgcoipaaGreatDoor.Sx
theorem impl_MoneySame_c {w : World} {xs ys : List Value} {dx dy : List D0} (h : Reps w xs dx) (k : Reps w ys dy) (hc : dx.map D0.code = [.str, .bool, .ints]) (kc : dy.map D0.code = [.str, .bool, .ints]) :
    Ret P n_impl_MoneySame [.agg ⟨xs⟩, .agg ⟨ys⟩] w fun v w' => v = .bool (decide (dx = dy)) /\ Ext w w' := by
  obtain ⟨a0, a1, a2p, a2n, a2c, a2z, rfl, rfl, ha⟩ := open_Money h hc
  obtain ⟨b0, b1, b2p, b2n, b2c, b2z, rfl, rfl, hb⟩ := open_Money k kc
  refine impl_MoneySame_ret ?_
  unfold impl_MoneySame
  intro r w1 hn1 r1 w2 hn2
  have x := hn1.ext.trans hn2.ext
  have k0 := hn1.blk.ext hn2.ext; have k1 := hn2.blk
  refine ⟨_, k0.load (by kernel_rfl) rfl, _, k1.load (by kernel_rfl) rfl, ifD (fun e => ?_) (fun e => ⟨dec_no (fun h => e (by simp at h; exact h.1)), x⟩)⟩
  subst e
  refine ⟨_, _, _, _, k0.loadA (xs := [.bool a1, .slice a2p a2n a2c]) (by kernel_rfl) rfl, _, _, _, _, k1.loadA (xs := [.bool b1, .slice b2p b2n b2c]) (by kernel_rfl) rfl, ?_⟩
  refine Ret.at (impl_intSame_c (dx := [.bool a1, .ints a2z]) (dy := [.bool b1, .ints b2z]) ⟨rfl, ⟨_, _, _, rfl, ha.ext x⟩, trivial⟩ ⟨rfl, ⟨_, _, _, rfl, hb.ext x⟩, trivial⟩ rfl rfl) ?_
  rintro v w3 ⟨hv, y⟩
  subst hv
  exact ⟨_, rfl, by simp, x.trans y⟩
end Go.Proofs.YtbgokfhcgcoipaaGreatDoor
namespace Go.Proofs.YtbgokfhcgcoipaaGreatDoor
open Go Go.Proofs Go.Shelf
def lay190_ren : Go.Shelf.Ren := ⟨fun | 190 => 140 | 125 => 204 | 258 => 203 | 128 => 252 | 129 => 253 | 302 => 243 | 303 => 244 | 304 => 245 | 305 => 246 | 306 => 247 | 307 => 248 | 308 => 249 | 309 => 250 | 310 => 251 | 333 => 297 | 329 => 298 | 330 => 299 | 334 => 300 | 335 => 301 | 336 => 259 | 344 => 330 | n => n, fun | 31 => 98 | 9 => 9 | 3 => 3 | 46 => 235 | 0 => 0 | 51 => 223 | 53 => 153 | 4 => 4 | 183 => 260 | 182 => 259 | 131 => 118 | 5 => 5 | 218 => 292 | 222 => 296 | 228 => 328 | 229 => 329 | n => n, fun | n => n⟩
set_option maxRecDepth 1000000 in
theorem lay190 : Go.Proofs.Lays.n190 Tryz.prog lay190_ren := {
  mixed := by kernel_rfl
  f125 := Tryz.func204.trans (congrArg some (by kernel_rfl))
  f128 := Tryz.func252.trans (congrArg some (by kernel_rfl))
  f129 := Tryz.func253.trans (congrArg some (by kernel_rfl))
  f190 := Tryz.func140.trans (congrArg some (by kernel_rfl))
  f258 := Tryz.func203.trans (congrArg some (by kernel_rfl))
  f302 := Tryz.func243.trans (congrArg some (by kernel_rfl))
  f303 := Tryz.func244.trans (congrArg some (by kernel_rfl))
  f304 := Tryz.func245.trans (congrArg some (by kernel_rfl))
  f305 := Tryz.func246.trans (congrArg some (by kernel_rfl))
  f306 := Tryz.func247.trans (congrArg some (by kernel_rfl))
  f307 := Tryz.func248.trans (congrArg some (by kernel_rfl))
  f308 := Tryz.func249.trans (congrArg some (by kernel_rfl))
  f309 := Tryz.func250.trans (congrArg some (by kernel_rfl))
  f310 := Tryz.func251.trans (congrArg some (by kernel_rfl))
  f329 := Tryz.func298.trans (congrArg some (by kernel_rfl))
  f330 := Tryz.func299.trans (congrArg some (by kernel_rfl))
  f333 := Tryz.func297.trans (congrArg some (by kernel_rfl))
  f334 := Tryz.func300.trans (congrArg some (by kernel_rfl))
  f335 := Tryz.func301.trans (congrArg some (by kernel_rfl))
  f336 := Tryz.func259.trans (congrArg some (by kernel_rfl))
  f344 := Tryz.func330.trans (congrArg some (by kernel_rfl))
  t0 := Tryz.underlying0
  a0 := Tryz.isAgg0
  z0 := Tryz.sizeOf0
  v0 := Tryz.zeroValue0
  t3 := Tryz.underlying3
  a3 := Tryz.isAgg3
  z3 := Tryz.sizeOf3
  v3 := Tryz.zeroValue3
  t4 := Tryz.underlying4
  a4 := Tryz.isAgg4
  z4 := Tryz.sizeOf4
  v4 := Tryz.zeroValue4
  t5 := Tryz.underlying5
  a5 := Tryz.isAgg5
  z5 := Tryz.sizeOf5
  v5 := Tryz.zeroValue5
  t9 := Tryz.underlying9
  a9 := Tryz.isAgg9
  z9 := Tryz.sizeOf9
  v9 := Tryz.zeroValue9
  t31 := Tryz.underlying98
  a31 := Tryz.isAgg98
  z31 := Tryz.sizeOf98
  v31 := Tryz.zeroValue98
  t46 := Tryz.underlying235
  a46 := Tryz.isAgg235
  z46 := Tryz.sizeOf235
  v46 := Tryz.zeroValue235
  t51 := Tryz.underlying223
  a51 := Tryz.isAgg223
  z51 := Tryz.sizeOf223
  v51 := Tryz.zeroValue223
  t53 := Tryz.underlying153
  a53 := Tryz.isAgg153
  z53 := Tryz.sizeOf153
  v53 := Tryz.zeroValue153
  t131 := Tryz.underlying118
  a131 := Tryz.isAgg118
  z131 := Tryz.sizeOf118
  v131 := Tryz.zeroValue118
  t182 := Tryz.underlying259
  a182 := Tryz.isAgg259
  z182 := Tryz.sizeOf259
  v182 := Tryz.zeroValue259
  t183 := Tryz.underlying260
  a183 := Tryz.isAgg260
  z183 := Tryz.sizeOf260
  v183 := Tryz.zeroValue260
  t218 := Tryz.underlying292
  a218 := Tryz.isAgg292
  z218 := Tryz.sizeOf292
  v218 := Tryz.zeroValue292
  t222 := Tryz.underlying296
  a222 := Tryz.isAgg296
  z222 := Tryz.sizeOf296
  v222 := Tryz.zeroValue296
  t228 := Tryz.underlying328
  a228 := Tryz.isAgg328
  z228 := Tryz.sizeOf328
  v228 := Tryz.zeroValue328
  t229 := Tryz.underlying329
  a229 := Tryz.isAgg329
  z229 := Tryz.sizeOf329
  v229 := Tryz.zeroValue329 }
def lay194_ren : Go.Shelf.Ren := ⟨fun | 194 => 141 | n => n, fun | 31 => 98 | 9 => 9 | 3 => 3 | 4 => 4 | 0 => 0 | n => n, fun | n => n⟩
set_option maxRecDepth 1000000 in
theorem lay194 : Go.Proofs.Lays.n194 Tryz.prog lay194_ren := {
  mixed := by kernel_rfl
  f194 := Tryz.func141.trans (congrArg some (by kernel_rfl))
  t0 := Tryz.underlying0
  a0 := Tryz.isAgg0
  z0 := Tryz.sizeOf0
  v0 := Tryz.zeroValue0
  t3 := Tryz.underlying3
  a3 := Tryz.isAgg3
  z3 := Tryz.sizeOf3
  v3 := Tryz.zeroValue3
  t4 := Tryz.underlying4
  a4 := Tryz.isAgg4
  z4 := Tryz.sizeOf4
  v4 := Tryz.zeroValue4
  t9 := Tryz.underlying9
  a9 := Tryz.isAgg9
  z9 := Tryz.sizeOf9
  v9 := Tryz.zeroValue9
  t31 := Tryz.underlying98
  a31 := Tryz.isAgg98
  z31 := Tryz.sizeOf98
  v31 := Tryz.zeroValue98 }
end Go.Proofs.YtbgokfhcgcoipaaGreatDoor
namespace Go.Proofs.YtbgokfhcgcoipaaGreatDoor
open Go Go.Proofs.YtbgokfhcgcoipaaGreatDoor.Sx
theorem sorted_ext {α : Type} {r : α -> α -> Prop} (irr : ∀ a, ¬ r a a) (tr : ∀ a b c, r a b -> r b c -> r a c) : ∀ {A B : List α}, A.Pairwise r -> B.Pairwise r -> (∀ x, x ∈ A ↔ x ∈ B) -> A = B
  | [], [], _, _, _ => rfl
  | [], b :: B, _, _, h => by have := (h b).2 (.head _); cases this
  | a :: A, [], _, _, h => by have := (h a).1 (.head _); cases this
  | a :: A, b :: B, hA, hB, h => by
    obtain ⟨a1, a2⟩ := List.pairwise_cons.1 hA
    obtain ⟨b1, b2⟩ := List.pairwise_cons.1 hB
    have hab : a = b := by
      rcases List.mem_cons.1 ((h a).1 (.head _)) with e | e
      · exact e
      rcases List.mem_cons.1 ((h b).2 (.head _)) with e' | e'
      · exact e'.symm
      exact absurd (tr _ _ _ (b1 a e) (a1 b e')) (irr b)
    subst hab
    congr 1
    refine sorted_ext irr tr a2 b2 fun x => ⟨fun hx => ?_, fun hx => ?_⟩
    · rcases List.mem_cons.1 ((h x).1 (.tail _ hx)) with e | e
      · subst e; exact absurd (a1 x hx) (irr x)
      · exact e
    · rcases List.mem_cons.1 ((h x).2 (.tail _ hx)) with e | e
      · subst e; exact absurd (b1 x hx) (irr x)
      · exact e
theorem lt_bytes : ∀ x y : List UInt8, x < y ↔ Op.bytesLess x y = true
  | [], [] => by simp [Op.bytesLess]
  | [], b :: y => by simp [Op.bytesLess]
  | a :: x, [] => by simp [Op.bytesLess]
  | a :: x, b :: y => by
    rw [List.cons_lt_cons_iff, lt_bytes x y]
    simp [Op.bytesLess]
theorem le_bytes (x y : List UInt8) : x <= y ↔ Op.bytesLess y x = false := by
  rw [<- List.not_lt, lt_bytes]
  simp
def sortU (l : List (List UInt8)) : List (List UInt8) := l.mergeSort fun x y => decide (x <= y)
theorem sortU_perm (l : List (List UInt8)) : (sortU l).Perm l := List.mergeSort_perm _ _
theorem sortU_sorted (l : List (List UInt8)) : (sortU l).Pairwise fun x y => Op.bytesLess y x = false := by
  have := List.pairwise_mergeSort (le := fun x y : List UInt8 => decide (x <= y)) (fun a b c h g => ?_) (fun a b => ?_) l
  · exact this.imp fun {a b} h => (le_bytes _ _).1 (of_decide_eq_true h)
  · have h := (le_bytes _ _).1 (of_decide_eq_true h)
    have g := (le_bytes _ _).1 (of_decide_eq_true g)
    refine decide_eq_true ((le_bytes _ _).2 ?_)
    cases hca : Op.bytesLess c a with
    | false => rfl
    | true =>
      cases hbc : Op.bytesLess b c with
      | true => rw [bytes_trans b c a hbc hca] at h; cases h
      | false =>
        have := bytes_tri c b g hbc
        subst this
        rw [h] at hca; cases hca
  · cases h : Op.bytesLess b a with
    | false => rw [decide_eq_true ((le_bytes _ _).2 h)]; rfl
    | true =>
      have : Op.bytesLess a b = false := by
        cases h2 : Op.bytesLess a b with
        | false => rfl
        | true => have := bytes_trans a b a h2 h; rw [bytes_irrefl] at this; cases this
      rw [decide_eq_true ((le_bytes b a).2 this), Bool.or_true]
def unB (l : List UInt8) : ByteArray := ⟨l.toArray⟩
def toB (s : ByteArray) : List UInt8 := s.data.toList
theorem unB_toB (s : ByteArray) : unB (toB s) = s := by cases s; simp [unB, toB]
theorem toB_unB (l : List UInt8) : toB (unB l) = l := by simp [unB, toB]
theorem toB_eq (s : ByteArray) : s.toList = toB s := by rw [ByteArray.toList_eq]; rfl
theorem bLess_toB (a b : ByteArray) : bLess a b = Op.bytesLess (toB a) (toB b) := by unfold bLess; rw [toB_eq, toB_eq]
def sortB (l : List ByteArray) : List ByteArray := (sortU (l.map toB)).map unB
theorem bLess_ext {A B : List ByteArray} (hA : A.Pairwise fun x y => bLess x y = true) (hB : B.Pairwise fun x y => bLess x y = true) (h : ∀ x, x ∈ A ↔ x ∈ B) : A = B :=
  sorted_ext (r := fun x y => bLess x y = true) (fun a h => by rw [bLess_irrefl] at h; cases h) (fun a b c h g => bLess_trans h g) hA hB h
end Go.Proofs.YtbgokfhcgcoipaaGreatDoor
namespace Go.Proofs.YtbgokfhcgcoipaaGreatDoor
open Go Go.Proofs.YtbgokfhcgcoipaaGreatDoor.Sx
def cursS (l : List ByteArray) : List (ByteArray × Int) := l.foldl (fun s c => sumAdd s c 0) []
def cursL (l : List ByteArray) : List ByteArray := (cursS l).map (·.1)
theorem sumAdd_mem {s : List (ByteArray × Int)} {c : ByteArray} {u : Int} (x : ByteArray) : x ∈ (sumAdd s c u).map (·.1) ↔ x = c ∨ x ∈ s.map (·.1) := by
  constructor
  · intro h
    obtain ⟨y, hy, rfl⟩ := List.mem_map.1 h
    rcases sumAdd_fst hy with e | ⟨z, hz, e⟩
    · exact .inl e
    · exact .inr (List.mem_map.2 ⟨z, hz, e⟩)
  · cases hh : hasAt s c with
    | true =>
      obtain ⟨v, h1, h2⟩ := sumAdd_has (u := u) hh
      have e : (sumAdd s c u).map (·.1) = s.map (·.1) := by
        rw [h2]
        apply List.ext_getElem?
        intro i
        rw [List.getElem?_map, List.getElem?_map, List.getElem?_set]
        split
        · rename_i hi
          subst hi
          rw [h1]
          simp [(List.getElem?_eq_some_iff.1 h1).1]
        · rfl
      rw [e]
      rintro (rfl | h)
      · exact List.mem_map.2 ⟨_, List.mem_of_getElem? h1, rfl⟩
      · exact h
    | false =>
      rw [sumAdd_new hh]
      rw [List.map_append, List.map_cons, List.mem_append, List.mem_cons]
      rintro (rfl | h)
      · exact .inr (.inl rfl)
      · rw [<- List.take_append_drop (posOf s c) s, List.map_append, List.mem_append] at h
        rcases h with h | h
        · exact .inl h
        · exact .inr (.inr h)
theorem cursS_ordered (l : List ByteArray) : Ordered (cursS l) := by
  unfold cursS
  have gen : ∀ (l : List ByteArray) (s : List (ByteArray × Int)), Ordered s -> Ordered (l.foldl (fun s c => sumAdd s c 0) s) := by
    intro l
    induction l with
    | nil => intro s h; exact h
    | cons c l ih => intro s h; exact ih _ (sumAdd_ordered h)
  exact gen l [] List.Pairwise.nil
theorem cursL_sorted (l : List ByteArray) : (cursL l).Pairwise fun x y => bLess x y = true := by
  unfold cursL
  rw [List.pairwise_map]
  exact cursS_ordered l
theorem cursL_mem (l : List ByteArray) (x : ByteArray) : x ∈ cursL l ↔ x ∈ l := by
  unfold cursL cursS
  have gen : ∀ (l : List ByteArray) (s : List (ByteArray × Int)), x ∈ (l.foldl (fun s c => sumAdd s c 0) s).map (·.1) ↔ x ∈ l ∨ x ∈ s.map (·.1) := by
    intro l
    induction l with
    | nil => intro s; simp
    | cons c l ih =>
      intro s
      rw [List.foldl_cons, ih, sumAdd_mem, List.mem_cons]
      constructor
      · rintro (h | h | h)
        · exact .inl (.inr h)
        · exact .inl (.inl h)
        · exact .inr h
      · rintro ((h | h) | h)
        · exact .inr (.inl h)
        · exact .inl h
        · exact .inr (.inr h)
  rw [gen]; simp
theorem cursS_len (l : List ByteArray) : (cursS l).length <= l.length := by
  unfold cursS
  have gen : ∀ (l : List ByteArray) (s : List (ByteArray × Int)), (l.foldl (fun s c => sumAdd s c 0) s).length <= l.length + s.length := by
    intro l
    induction l with
    | nil => intro s; simp
    | cons c l ih =>
      intro s
      have := ih (sumAdd s c 0)
      have := (sumAdd_len s c 0).1
      rw [List.foldl_cons, List.length_cons]
      omega
  have := gen l []
  simpa using this
theorem compact_strict {zs : List (List UInt8)} (h : zs.Pairwise fun x y => Op.bytesLess y x = false) : (Lib.compact zs).Pairwise fun x y => Op.bytesLess x y = true := by
  unfold Lib.compact Lib.compactUpTo
  rw [List.pairwise_map]
  refine List.Pairwise.imp_of_mem (fun {i j} hi hj hij => ?_) ((List.pairwise_lt_range (n := zs.length)).filter _)
  rw [List.mem_filter, List.mem_range] at hi hj
  have hj2 := hj.2
  simp only [Lib.keeps, decide_eq_true_eq] at hj2
  have hne : (zs.toArray)[j]! ≠ (zs.toArray)[j - 1]! := by
    rcases hj2 with h0 | h0
    · omega
    · exact h0
  have at' : ∀ k (hk : k < zs.length), (zs.toArray)[k]! = zs[k] := fun k hk => by
    rw [getElem!_pos _ k (by simpa using hk)]; simp
  rw [at' j hj.1, at' (j - 1) (by omega)] at hne
  rw [at' i hi.1, at' j hj.1]
  have hs := List.pairwise_iff_getElem.1 h
  have h1 := hs (j - 1) j (by omega) hj.1 (by omega)
  have h2 : Op.bytesLess zs[j - 1] zs[j] = true := by
    cases hq : Op.bytesLess zs[j - 1] zs[j] with
    | true => rfl
    | false => exact absurd (bytes_tri _ _ h1 hq) hne
  rcases Nat.lt_or_ge i (j - 1) with hlt | hge
  · have h3 := hs i (j - 1) (by omega) (by omega) hlt
    cases hq : Op.bytesLess zs[i] zs[j] with
    | true => rfl
    | false =>
      have := bytes_tri _ _ h3
      cases hq2 : Op.bytesLess zs[i] zs[j - 1] with
      | true => rw [bytes_trans _ _ _ hq2 h2] at hq; cases hq
      | false =>
        rw [bytes_tri _ _ hq2 h3] at hq
        rw [h2] at hq; cases hq
  · have : i = j - 1 := by omega
    subst this
    exact h2
theorem compact_mem (zs : List (List UInt8)) (x : List UInt8) : x ∈ Lib.compact zs ↔ x ∈ zs := by
  have at' : ∀ k (hk : k < zs.length), (zs.toArray)[k]! = zs[k] := fun k hk => by
    rw [getElem!_pos _ k (by simpa using hk)]; simp
  unfold Lib.compact Lib.compactUpTo
  rw [List.mem_map]
  constructor
  · rintro ⟨i, hi, rfl⟩
    rw [List.mem_filter, List.mem_range] at hi
    rw [at' i hi.1]
    exact List.getElem_mem _
  · intro hx
    obtain ⟨i, hi, rfl⟩ := List.getElem_of_mem hx
    have key : ∀ i (hi : i < zs.length), ∃ a, a ∈ (List.range zs.length).filter (Lib.keeps zs.toArray) /\ (zs.toArray)[a]! = zs[i] := by
      intro i
      induction i with
      | zero => intro hi; exact ⟨0, List.mem_filter.2 ⟨List.mem_range.2 hi, by simp [Lib.keeps]⟩, at' 0 hi⟩
      | succ i ih =>
        intro hi
        by_cases he : zs[i + 1] = zs[i]
        · obtain ⟨a, h1, h2⟩ := ih (by omega)
          exact ⟨a, h1, by rw [h2, he]⟩
        · refine ⟨i + 1, List.mem_filter.2 ⟨List.mem_range.2 hi, ?_⟩, at' _ hi⟩
          refine decide_eq_true (.inr ?_)
          rw [at' (i + 1) hi, show i + 1 - 1 = i by omega, at' i (by omega)]
          exact he
    exact key i hi
def compB (l : List ByteArray) : List ByteArray := (Lib.compact (l.map toB)).map unB
theorem compB_sortB (l : List ByteArray) : compB (sortB l) = cursL l := by
  have e : (sortB l).map toB = sortU (l.map toB) := by
    unfold sortB
    rw [List.map_map]
    conv => rhs; rw [<- List.map_id (sortU (l.map toB))]
    refine List.map_congr_left fun x _ => ?_
    exact toB_unB x
  refine bLess_ext ?_ (cursL_sorted l) fun x => ?_
  · unfold compB
    rw [List.pairwise_map, e]
    refine (compact_strict (sortU_sorted _)).imp fun {a b} h => ?_
    rw [bLess_toB, toB_unB, toB_unB]; exact h
  · rw [cursL_mem]
    unfold compB
    rw [List.mem_map, e]
    constructor
    · rintro ⟨y, hy, rfl⟩
      obtain ⟨z, hz, rfl⟩ := List.mem_map.1 ((sortU_perm _).mem_iff.1 ((compact_mem _ _).1 hy))
      rwa [unB_toB]
    · intro h
      exact ⟨toB x, (compact_mem _ _).2 ((sortU_perm _).mem_iff.2 (List.mem_map.2 ⟨x, h, rfl⟩)), unB_toB x⟩
end Go.Proofs.YtbgokfhcgcoipaaGreatDoor
namespace Go.Proofs.YtbgokfhcgcoipaaGreatDoor
open Go Go.Proofs.YtbgokfhcgcoipaaGreatDoor.Sx Go.Proofs Go.Sort
theorem strs_enc (ss : List ByteArray) : ss.map Value.string = (ss.map toB).map encStr := by
  rw [List.map_map]
  refine List.map_congr_left fun s _ => ?_
  exact congrArg Value.string (unB_toB s).symm
theorem enc_strs (l : List (List UInt8)) : (l.map unB).map Value.string = l.map encStr := by
  rw [List.map_map]; rfl
theorem sort_bridge {f : FuncId}
    (hc : ∀ (blk off cap : Nat) (ss : List (List UInt8)) (w : World), Holds encStr w blk off ss.toArray -> blk < w.heap.size -> ss.length < 4611686018427387904 ->
      Calls P f #[.slice (some ⟨blk, off, none⟩) ss.length cap] w fun e w' => e = .returned (.tuple #[]) /\ ∃ n os, w' = Sort.grow (putRow encStr (Sort.ahead w n) blk off (ss.mergeSort fun x y => decide (x <= y)).toArray) os)
    {w : World} {B b n c : Nat} {ss : List ByteArray} (h : Own w B T_string 1 (some ⟨b, 0, none⟩) n c (ss.map Value.string)) (hn : n <= 4000000000) :
    Ret P f [.slice (some ⟨b, 0, none⟩) n c] w fun v w' => v = .tuple #[] /\ Own w' B T_string 1 (some ⟨b, 0, none⟩) n c ((sortB ss).map Value.string) /\ Chg [b] w w' := by
  have hl : ss.length = n := by simpa using h.len
  have hlt : b < w.heap.size := (World.ownsRow.lt h b rfl).2
  rw [strs_enc] at h
  obtain ⟨h0, h1 | ⟨g, cap, cur, h1, hbase, hb, h2, h3, h4, h5⟩⟩ := h
  · cases h1.1
  simp only [Value.slice.injEq, Option.some.injEq, Addr.mk.injEq, and_true, true_and] at h1
  obtain ⟨rfl, rfl⟩ := h1
  have hl2 : n = (ss.map toB).length := by simp [hl]
  subst hl2
  have hH : Holds encStr w b 0 (ss.map toB).toArray := holds_of_block hb (by simpa using h5)
  refine Calls.mono (hc b 0 c (ss.map toB) w hH hlt (by omega)) ?_
  rintro e w' ⟨rfl, m, os, rfl⟩
  refine ⟨_, rfl, rfl, ?_, ?_⟩
  · have := ownsRow_sorted (n := m) (os := os) (ts := sortU (ss.map toB)) (by simp [sortU]) hbase hb h2 h3 h4
    unfold Own sortB
    rw [enc_strs]
    exact this
  · have hg := grownBy_sorted (w := w) (g := b) (n := m) (os := os) ((ss.map toB).mergeSort fun x y => decide (x <= y)).toArray
    exact ⟨hg.os, hg.tape, hg.output, hg.size, fun k hk hne => hg.block k hk (by simpa using hne)⟩
theorem compact_len (zs : List (List UInt8)) : (Lib.compact zs).length <= zs.length := by
  unfold Lib.compact Lib.compactUpTo
  rw [List.length_map]
  have := List.length_filter_le (Lib.keeps zs.toArray) (List.range zs.length)
  rwa [List.length_range] at this
theorem compact_bridge {f : FuncId}
    (hc : ∀ (blk off cap : Nat) (zs : List (List UInt8)) (w : World), Holds encStr w blk off zs.toArray -> zs.length <= 9223372036854775807 -> zs.length <= cap ->
      Calls P f #[.slice (some ⟨blk, off, none⟩) zs.length cap] w fun e w' => e = .returned (.slice (some ⟨blk, off, none⟩) (Lib.compact zs).length cap) /\ ∃ q, w' = putRow encStr (Sort.ahead w q) blk off (Lib.compact zs ++ List.replicate (zs.length - (Lib.compact zs).length) []).toArray)
    {w : World} {B b n c : Nat} {ss : List ByteArray} (h : Own w B T_string 1 (some ⟨b, 0, none⟩) n c (ss.map Value.string)) (hn : n <= 4000000000) :
    Ret P f [.slice (some ⟨b, 0, none⟩) n c] w fun v w' => ∃ k, v = .slice (some ⟨b, 0, none⟩) k c /\ Own w' B T_string 1 (some ⟨b, 0, none⟩) k c ((compB ss).map Value.string) /\ Chg [b] w w' := by
  have hl : ss.length = n := by simpa using h.len
  have hcap := h.le
  rw [strs_enc] at h
  obtain ⟨h0, h1 | ⟨g, cap, cur, h1, hbase, hb, h2, h3, h4, h5⟩⟩ := h
  · cases h1.1
  simp only [Value.slice.injEq, Option.some.injEq, Addr.mk.injEq, and_true, true_and] at h1
  obtain ⟨rfl, rfl⟩ := h1
  have hl2 : n = (ss.map toB).length := by simp [hl]
  subst hl2
  have hH : Holds encStr w b 0 (ss.map toB).toArray := holds_of_block hb (by simpa using h5)
  have hcl := compact_len (ss.map toB)
  refine Calls.mono (hc b 0 c (ss.map toB) w hH (by omega) hcap) ?_
  rintro e w' ⟨rfl, q, rfl⟩
  refine ⟨_, rfl, _, rfl, ?_, ?_⟩
  · have h9 := ownsRow_sorted (n := q) (os := #[]) (ts := Lib.compact (ss.map toB) ++ List.replicate ((ss.map toB).length - (Lib.compact (ss.map toB)).length) []) (by rw [List.length_append, List.length_replicate]; omega) hbase hb h2 h3 h4
    rw [Sort.grow_empty] at h9
    have h8 := Own.take (show Own _ B T_string 1 (some ⟨b, 0, none⟩) (ss.map toB).length c _ from h9) (i := (Lib.compact (ss.map toB)).length) hcl
    unfold compB
    rw [enc_strs]
    rw [Nat.mul_one, List.map_append, List.take_left' (by simp)] at h8
    exact h8
  · have hg := grownBy_sorted (w := w) (g := b) (n := q) (os := #[]) (Lib.compact (ss.map toB) ++ List.replicate ((ss.map toB).length - (Lib.compact (ss.map toB)).length) []).toArray
    rw [Sort.grow_empty] at hg
    exact ⟨hg.os, hg.tape, hg.output, hg.size, fun k hk hne => hg.block k hk (by simpa using hne)⟩
theorem slices_Sort_c {w : World} {B b n c : Nat} {ss : List ByteArray} (h : Own w B T_string 1 (some ⟨b, 0, none⟩) n c (ss.map Value.string)) (hn : n <= 4000000000) :
    Ret P n_slices_Sort_string_string [.slice (some ⟨b, 0, none⟩) n c] w fun v w' => v = .tuple #[] /\ Own w' B T_string 1 (some ⟨b, 0, none⟩) n c ((sortB ss).map Value.string) /\ Chg [b] w w' :=
  sort_bridge (fun blk off cap ss w hH hb hl => Any.slices_Sort_string lay190 blk off cap ss w hH hb hl) h hn
theorem slices_Compact_c {w : World} {B b n c : Nat} {ss : List ByteArray} (h : Own w B T_string 1 (some ⟨b, 0, none⟩) n c (ss.map Value.string)) (hn : n <= 4000000000) :
    Ret P n_slices_Compact_string_string [.slice (some ⟨b, 0, none⟩) n c] w fun v w' => ∃ k, v = .slice (some ⟨b, 0, none⟩) k c /\ Own w' B T_string 1 (some ⟨b, 0, none⟩) k c ((compB ss).map Value.string) /\ Chg [b] w w' :=
  compact_bridge (fun blk off cap zs w hH hz hcap => Any.slices_Compact_string lay194 blk off cap zs w hH hz hcap) h hn
end Go.Proofs.YtbgokfhcgcoipaaGreatDoor
namespace Go.Proofs.YtbgokfhcgcoipaaGreatDoor
open Go Go.Proofs.YtbgokfhcgcoipaaGreatDoor.Sx
def acCur : List D0 -> ByteArray
  | _ :: .str c :: _ => c
  | _ => ByteArray.empty
def bookCursL (l : List (List D0)) : List ByteArray := cursL (l.map acCur)
def strRows (ss : List ByteArray) : List (List D0) := ss.map fun c => [.str c]
def bookCurs (l : List (List D0)) : List (List D0) := strRows (bookCursL l)
theorem strRows_code (ss : List ByteArray) : ∀ x ∈ strRows ss, x.map D0.code = [.str] := fun x hx => by
  obtain ⟨c, _, rfl⟩ := List.mem_map.1 hx
  rfl
theorem strRows_cnt : ∀ (ss : List ByteArray), cntL (strRows ss) = (ss.length : Nat)
  | [] => rfl
  | s :: ss => by
    have := strRows_cnt ss
    simp only [strRows, List.map_cons, cntL, cnts, D0.cnt, List.length_cons] at this ⊢
    rw [this]; omega
theorem bookCurs_len (l : List (List D0)) : (bookCursL l).length <= l.length := by
  unfold bookCursL cursL
  rw [List.length_map]
  have := cursS_len (l.map acCur)
  rwa [List.length_map] at this
theorem bookCurs_cnt {l : List (List D0)} (h : l.length <= 1048576) : cntL (bookCurs l) <= 1000000000 := by
  unfold bookCurs
  rw [strRows_cnt]
  have := bookCurs_len l
  omega
theorem strs_flat : ∀ (ss : List ByteArray), (ss.map fun s => [Value.string s]).flatten = ss.map Value.string
  | [] => rfl
  | s :: ss => by simp [strs_flat ss]
theorem strs_allO (w : World) (B : Nat) : ∀ (ss : List ByteArray), AllO w B 1 (ss.map fun s => [Value.string s]) (strRows ss) (ss.map fun _ => [])
  | [] => trivial
  | s :: ss => ⟨rfl, Owns.str w B s, strs_allO w B ss⟩
theorem strs_own {w : World} {B : Nat} {e : TypeId} {p : Option Addr} {n c : Nat} {ss : List ByteArray} (h : Own w B e 1 p n c (ss.map Value.string)) : OwnRows w B e 1 p n c (strRows ss) (p.map (·.block)).toList := by
  refine ⟨?_, ss.map fun s => [Value.string s], ss.map fun _ => [], strs_allO w B ss, by rw [strs_flat]; exact h, ?_, by cases p <;> simp⟩
  · have := h.len
    simp only [strRows, List.length_map] at this ⊢
    omega
  · have : (ss.map fun _ => ([] : List Nat)).flatten = [] := by simp
    rw [this, List.append_nil]
theorem sliceT_str1 : sliceT P T_s_string T_string (.string ByteArray.empty) 1 16 := ⟨by kernel_rfl, by kernel_rfl, rfl, by decide⟩
theorem impl_BookCurs_c {w : World} {p : Option Addr} {n c : Nat} {l : List (List D0)} (h : RowsR w 4 p n c l) (hc : ∀ x ∈ l, x.map D0.code = [.str, .str, .bool, .ints]) (hn : n <= 1048576) (hb : ∀ x ∈ l, bulks x <= 1048576) :
    Ret P n_impl_BookCurs [.agg ⟨[.slice p n c]⟩] w fun v w' => ∃ p' n' c' f, v = .slice p' n' c' /\ OwnRows w' w.heap.size T_string 1 p' n' c' (bookCurs l) f /\ (∀ x ∈ bookCurs l, x.map D0.code = [.str]) /\ cntL (bookCurs l) <= 1000000000 /\ Ext w w' := by
  have hln := h.1
  refine impl_BookCurs_ret ?_
  unfold impl_BookCurs
  intro r w1 hn1 r1 w2 hn2
  have e1 := hn1.r_eq; have z1 := hn1.size; have e2 := hn2.r_eq; have z2 := hn2.size
  have X2 := hn1.ext.trans hn2.ext
  refine ⟨_, _, _, (hn1.blk.ext hn2.ext).loadAt 0 rfl (by kernel_rfl) rfl, ?_⟩
  refine ⟨fun cp cn cc i wr => ∃ (j b : Nat), i = j /\ j <= n /\ cn = j /\ cp = some ⟨b, 0, none⟩ /\ Own wr w.heap.size T_string 1 cp cn cc (((l.take j).map acCur).map Value.string) /\ Ext w wr, fun _ _ _ i _ => n - i.toNat, ⟨0, r1, rfl, by omega, rfl, rfl, Own.of_blk0 hn2.blk (by omega) (by simp) (by decide), X2⟩, ?_⟩
  intro junk wr cp cn cc i ⟨j, b, hij, hj, hcn, hcp, ho, hx⟩
  subst hij; subst hcn
  have lx := hx.le
  refine ifD (fun hlt => ?_) (fun hge => ?_)
  · have hjl : cn < l.length := by omega
    obtain ⟨a, cs, hp, hk, hr, hl⟩ := (h.ext hx).at (P := P) (t := T_impl_Acct) (by kernel_rfl) (show cn < n by omega)
    subst hp
    have hrr := hr; have hcode := hc _ (List.getElem_mem hjl)
    obtain ⟨a0, a1, a2, a3p, a3n, a3c, a3z, rfl, hd, _⟩ := open_Acct hr hcode
    have hcur : acCur (l[cn]'hjl) = a1 := by rw [hd]; rfl
    refine ⟨⟨by omega, by omega⟩, _, _, _, _, _, _, by simpa using hl, ?_⟩
    intro r2 w3 hn3
    obtain ⟨w4, st, b4, y4⟩ := hn3.fill (P := P) (t := T_impl_Acct) hrr.cells1 (by kernel_rfl) rfl
    refine ⟨w4, st, _, b4.loadAt 1 rfl (by kernel_rfl) rfl, ?_⟩
    intro r3 w5 hn5
    have Y := y4.trans hn5.ext
    have lY := Y.le
    obtain ⟨p', c', w6, ha, ho6, ch, hp6⟩ := (ho.ext Y).push1 (P := P) sliceT_str1 (by omega) hn5.blk rfl (by simp [Value.oneCell']) (by omega) (by decide)
    obtain ⟨b', _, hp', _⟩ := ho6.blk (by omega)
    refine ⟨p', _, c', w6, ha, exW ⟨by omega, by omega⟩ ⟨⟨cn + 1, b', by omega, by omega, rfl, hp', ?_, (hx.trans Y).chg ch fun q hq => (World.ownsRow.lt ho q (by cases cp <;> simp_all [Value.ownBlock])).1⟩, ?_⟩⟩
    · rw [List.take_succ_eq_append_getElem hjl, List.map_append, List.map_append, List.map_cons, hcur]
      exact ho6
    · show n - ((cn : Int) + 1).toNat < n - (cn : Int).toNat
      omega
  · have hjn : cn = n := by omega
    subst hjn
    rw [List.take_of_length_le (by omega)] at ho
    subst hcp
    have hbB := (World.ownsRow.lt ho b rfl).1
    refine Ret.at (slices_Sort_c ho (by omega)) ?_
    rintro v w6 ⟨hv, ho6, ch⟩
    subst hv
    refine ⟨rfl, ?_⟩
    refine Ret.at (slices_Compact_c ho6 (by omega)) ?_
    rintro v w7 ⟨k, hv, ho7, ch7⟩
    subst hv
    rw [compB_sortB] at ho7
    refine ⟨_, _, _, rfl, _, _, _, _, rfl, strs_own ho7, strRows_code _, bookCurs_cnt (by omega), (hx.chg ch (by simp; omega)).chg ch7 (by simp; omega)⟩
end Go.Proofs.YtbgokfhcgcoipaaGreatDoor
namespace Go.Proofs.YtbgokfhcgcoipaaGreatDoor.Sx
open Go Go.RowKit Go.ChangeShapes Go.WideShapes
def rowedV (P : Program) (ns : List String) : Bool := ns.all fun n => ((P.globalNamed n).bind (P.globals[·]?)).all fun gl => P.readableRec gl.type && decide (gl.type < P.types.size)
section
variable {H : Type} {enc : TypeId × Value -> H} {P : Program}
theorem trodAll_ext (hl : laidOutB P = true) {W W' : World} (hb : Ext W W') (sp' : Nat -> Bool) : ∀ {ts : List TypeId} {vs : List Value} {ds : List (DataW H)} {ps : List MemPlace},
    (∀ t ∈ ts, P.readableRec t = true /\ t < P.types.size) -> (∀ p ∈ ps, p.block < W.heap.size) -> (∀ p ∈ ps, sp' p.block = true) ->
    DataW.TrodAll enc P W 0 (fun _ => true) true ts vs ds ps -> DataW.TrodAll enc P W' 0 sp' true ts vs ds ps
  | [], _, _, _, _, _, _, h => by
    obtain ⟨rfl, rfl, rfl⟩ := trodAll_nil h
    exact rfl
  | t :: ts, _, _, _, hr, hlt, hsp, h => by
    obtain ⟨v, vs1, d, ds1, a, b, rfl, rfl, rfl, h1, h2⟩ := trodAll_cons h
    have hrt := hr t (by simp)
    exact ⟨a, b, WideElems.Trod_stays hl hrt.1 hrt.2 h1 (fun x hx => Below.same hb (hlt x (by simp [hx]))) (fun x hx => hsp x (by simp [hx])),
      trodAll_ext hl hb sp' (fun u hu => hr u (by simp [hu])) (fun x hx => hlt x (by simp [hx])) (fun x hx => hsp x (by simp [hx])) h2, rfl⟩
theorem trodVars_sp (hl : laidOutB P = true) {W W' : World} (hb : Ext W W') (sp' : Nat -> Bool) :
    ∀ {ns : List String} {gs : List (DataW H)} {ps : List MemPlace}, rowedV P ns = true -> (∀ p ∈ ps, sp' p.block = true) -> DataW.TrodVars enc P W (fun _ => true) ns gs ps -> DataW.TrodVars enc P W' sp' ns gs ps
  | [], [], _, _, _, h => h
  | [], _ :: _, _, _, _, h => h.elim
  | _ :: _, [], _, _, _, h => h.elim
  | n :: ns, d :: ds, ps, hv, hsp, h => by
    have hlt := h.lt
    obtain ⟨g, t, cs, fuel, p, q, h1, h2, h3, h4, hs, e⟩ := h
    simp only [rowedV, List.all_cons, Bool.and_eq_true] at hv
    have ht : P.readableRec t = true /\ t < P.types.size := by
      have := hv.1
      rw [h1] at this
      cases hg : P.globals[g]? with
      | none => rw [hg] at h2; cases h2
      | some gl =>
        rw [hg] at h2
        obtain rfl : gl.type = t := Option.some.inj h2
        simpa [hg] using this
    have hp : ∀ x ∈ p, x.block < W.heap.size := fun x hx => hlt x (by rw [e]; simp [hx])
    have h3' : W'.var? P n = some cs := by
      unfold World.var? at h3 ⊢
      rw [h1] at h3 ⊢
      simp only [Option.bind_some] at h3 ⊢
      have hg : g < W.heap.size := by
        cases hh : W.heap[g]? with
        | none => rw [hh] at h3; cases h3
        | some o => exact (Array.getElem?_eq_some_iff.1 hh).1
      rw [hb.block g hg]; exact h3
    exact ⟨g, t, cs, fuel, p, q, h1, h2, h3', DataW.trod_stays (kids_book hl ht.1) (book_sized ht.1) (fun h => by cases h) ⟨ht.2, book_self t⟩ h4 (fun x hx => Below.same hb (hp x hx)) (fun x hx => hsp x (by rw [e]; simp [hx])),
      trodVars_sp hl hb sp' (by simpa [rowedV] using hv.2) (fun x hx => hsp x (by rw [e]; simp [hx])) hs, e⟩
theorem post_of_ext {f : Func} {s : ChangeSpec} {apart fresh handsOn again : Bool} {W W' : World} {args : Array Value} {ds gs : List (DataW H)} {before : List MemPlace} {tb : TypeId}
    (hl : laidOutB P = true) (hpar : ∀ t ∈ f.params.toList, P.readableRec t = true /\ t < P.types.size) (hvr : rowedV P s.vars = true)
    (hrt : f.resultTypes = #[tb]) (htb : P.underlying tb = some .bool)
    (hW : DataW.Whole enc P f.params.toList s.vars apart W args.toList ds gs before) (hx : Ext W W')
    (hfn : s.fn H (ds ++ gs) = { results := [.lit (.bool true)], args := ds, vars := gs }) :
    s.post enc P f apart fresh handsOn again W args (.bool true) W' := by
  have hW0 := hW
  have hlt : ∀ p ∈ before, p.block < W.heap.size := hW.lt
  obtain ⟨pa, pv, hA, hV, rfl, hz, hn⟩ := hW
  have hlta : ∀ p ∈ pa, p.block < W.heap.size := fun p hp => hlt p (by simp [hp])
  have hltv : ∀ p ∈ pv, p.block < W.heap.size := fun p hp => hlt p (by simp [hp])
  have hr : (Value.bool true).resultList f.resultTypes.size = [Value.bool true] := by rw [hrt]; rfl
  refine ⟨ds, gs, pa ++ pv, [], pa, pv, hW0, ?_, ?_, ?_, Below.frame hx _, fun _ => ?_⟩
  · rw [hfn, hr, hrt]
    exact trodAll_mk1 (shut_bool htb _)
  · rw [hfn]
    exact trodAll_ext hl hx _ hpar hlta (fun p hp => by simpa using hlta p hp) hA
  · rw [hfn]
    exact trodVars_sp hl hx _ hvr (fun p hp => by simpa using hltv p hp) hV
  · refine ⟨?_, (.lit (.bool true)) :: ds, gs, pa ++ pv, ⟨[] ++ pa, pv, ?_, ?_, by simp, ?_, ?_⟩, fun p hp _ => hp⟩
    · rw [hr, hrt]
      exact ok_one (f := { f with resultTypes := #[tb] }) rfl rfl (okWide_bool_mk htb _)
    · rw [hr, hrt]
      exact trodAll_append (trodAll_ext hl hx _ hpar hlta (fun _ _ => rfl) hA) (trodAll_mk1 (shut_bool htb _))
    · exact trodVars_sp hl hx _ hvr (fun _ _ => rfl) hV
    · intro b off hp
      have := hlt _ hp
      rw [Below.frozen hx (p := ⟨b, off, none⟩) this]
      exact hz b off hp
    · exact hn
end
end Go.Proofs.YtbgokfhcgcoipaaGreatDoor.Sx
namespace Go.Proofs.YtbgokfhcgcoipaaGreatDoor.Sx
open Go Go.RowKit Go.ChangeShapes Go.WideShapes
section
variable {H : Type} {enc : TypeId × Value -> H} {P : Program} {w : World}
theorem spot_none {a : Addr} {v : Value} (h : w.cell? a = some v) : a = ⟨a.block, a.off, none⟩ := by
  obtain ⟨b, o, spot⟩ := a
  have : spot = none := by simpa using World.cell?_spot h
  subst this; rfl
end
end Go.Proofs.YtbgokfhcgcoipaaGreatDoor.Sx
namespace Go.Proofs.YtbgokfhcgcoipaaGreatDoor
open Go Go.RowKit Go.ChangeShapes Go.Proofs.YtbgokfhcgcoipaaGreatDoor.Sx
theorem bytes_of_trod {H : Type} {enc : TypeId × Value -> H} {P : Program} {w : World} {t e : TypeId} {fuel : Nat} {sp : Nat -> Bool} {hd : Bool} {cs : List Value} {x : DataW H × List MemPlace} (ht : P.underlying t = some (.slice e)) (he : P.underlying e = some (.int .u8)) (hc : P.cellsOf e = 1)
    (h : DataW.trod enc P w 0 sp hd fuel t cs = some x) : ∃ p n c, cs = [.slice p n c] /\ ByR w p n := by
  rcases Go.ChangeShapes.open_ints ht he hc h with ⟨rfl, _⟩ | ⟨a, len, cap, zs, rfl, _, hl, hm, hz, _, hcell, _⟩
  · exact ⟨none, 0, 0, rfl, fun h => absurd h (by omega)⟩
  · have hlz : len <= zs.length := by rw [hz]; split <;> omega
    refine ⟨some a, len, cap, rfl, fun hpos => ?_⟩
    have h0 := hcell 0 (by omega)
    have hs := spot_none h0
    have ha : a = ⟨a.block, a.off, none⟩ := by
      obtain ⟨b, o, s⟩ := a
      simp [Addr.add] at hs
      simp [hs]
    have hlt := World.block_lt_of_cell? w _ h0
    refine ⟨a.block, a.off, zs.take len, by rw [<- ha], by simp; omega, fun j v hj => ?_, by simpa [Addr.add] using hlt⟩
    simp only [List.getElem?_map, List.getElem?_take] at hj
    split at hj
    · rename_i hjl
      have hjz : j < zs.length := by omega
      have := hcell j hjz
      rw [ha, addr_add] at this
      rw [this]
      rw [List.getElem?_eq_getElem hjz] at hj
      simp at hj
      rw [<- hj]
      simp [hjz]
    · simp at hj
end Go.Proofs.YtbgokfhcgcoipaaGreatDoor
namespace Go.Proofs.YtbgokfhcgcoipaaGreatDoor
variable {w : World} {R : Value -> World -> Prop}
open Go Go.Proofs.YtbgokfhcgcoipaaGreatDoor.Sx
set_option maxRecDepth 100000
def laws_FnEntry_s_j4 (a0 : Option Addr) (a1 a2 : Nat) (a3 : Bool) (a4 : World) (R : Value -> World -> Prop) : Prop :=
 (a3 = true ->
 Calls P 69 ⟨[.slice a0 a1 a2]⟩ a4 fun a5 a6 =>
 ∃ a7, a5 = .returned (.string a7) /\
 R (.bool (decide (a7 ≠ (S [])))) a6) /\
 (a3 = false ->
 R (.bool false) a4)
def laws_FnEntry_s_j3 (a0 : Option Addr) (a1 a2 : Nat) (a3 : Bool) (a4 : World) (R : Value -> World -> Prop) : Prop :=
 (a3 = true ->
 Calls P 68 ⟨[.slice a0 a1 a2]⟩ a4 fun a5 a6 =>
 ∃ a7 a8 a9, a5 = .returned (.slice a7 a8 a9) /\
 laws_FnEntry_s_j4 a0 a1 a2 ((decide ((((a8 : Nat) : Int) : Int) = 0))) a6 R) /\
 (a3 = false ->
 laws_FnEntry_s_j4 a0 a1 a2 false a4 R)
def laws_FnEntry_s_j2 (a0 : Option Addr) (a1 a2 : Nat) (a3 : Bool) (a4 : World) (R : Value -> World -> Prop) : Prop :=
 (a3 = true ->
 Calls P 67 ⟨[.slice a0 a1 a2]⟩ a4 fun a5 a6 =>
 ∃ a7, a5 = .returned (.bool a7) /\
 laws_FnEntry_s_j3 a0 a1 a2 a7 a6 R) /\
 (a3 = false ->
 laws_FnEntry_s_j3 a0 a1 a2 false a4 R)
def laws_FnEntry_s_j1 (r : Nat) (a0 : Option Addr) (a1 a2 a3 : Nat) (a4 : Bool) (a5 : World) (R : Value -> World -> Prop) : Prop :=
 (a4 = true ->
 ∃ a6 a7 a8, Loads P 89 ⟨a3, 0, none⟩ (.agg #[.slice a6 a7 a8]) a5 /\ ∃ a9 aa ab, Loads P 89 ⟨r, 0, none⟩ (.agg #[.slice a9 aa ab]) a5 /\ Calls P 66 ⟨[.agg #[.slice a6 a7 a8], .agg #[.slice a9 aa ab]]⟩ a5 fun ac ae =>
 ∃ af, ac = .returned (.bool af) /\
 laws_FnEntry_s_j2 a0 a1 a2 af ae R) /\
 (a4 = false ->
 laws_FnEntry_s_j2 a0 a1 a2 false a5 R)
def laws_FnEntry_s_j0 (r : Nat) (a0 : Option Addr) (a1 a2 : Nat) (a3 : Bool) (a4 : Nat) (W : World) (R : Value -> World -> Prop) : Prop :=
 ((!a3) = true ->
 ∃ a5 a6 a7, Loads P 87 ((⟨r, 0, none⟩ : Addr).add 0) (.slice a5 a6 a7) W /\ R (.bool (decide ((((a6 : Nat) : Int) : Int) = 0))) W) /\
 ((!a3) = false ->
 Calls P 65 ⟨[.slice a0 a1 a2]⟩ W fun a8 a9 =>
 ∃ aa ab ac ae, a8 = .returned (.tuple #[.slice aa ab ac, .bool ae]) /\
 ∃ af ag ah, Loads P 89 ⟨a4, 0, none⟩ (.agg #[.slice af ag ah]) a9 /\ Calls P 63 ⟨[.agg #[.slice af ag ah], .slice aa ab ac]⟩ a9 fun ai aj =>
 ∃ ak al am an, ai = .returned (.tuple #[.agg #[.slice ak al am], .bool an]) /\
 ∀ ao ap, New aj (.cells ⟨[.slice none 0 0]⟩ 89 (0, 0)) ao ap ->
 ∃ wv_11, Stores P 89 ⟨ao, 0, none⟩ (.agg #[.slice ak al am]) ap wv_11 /\
 ∃ aq ar au, Loads P 89 ⟨r, 0, none⟩ (.agg #[.slice aq ar au]) wv_11 /\ Calls P 55 ⟨[.agg #[.slice aq ar au]]⟩ wv_11 fun av aw =>
 ∃ ax ay az, av = .returned (.slice ax ay az) /\
 ∃ (b0 : Int -> World -> Prop) (mu : Int -> World -> Nat), b0 0 aw /\
 ∀ (b1 : Fr) (b2 : World) (b3 : Int), b0 b3 b2 ->
 ((decide ((b3 : Int) < ((ay : Nat) : Int))) = true ->
 (0 <= (b3 : Int) /\ (b3 : Int) < (ay : Nat)) /\ ptrS ax fun ad => ∃ b4, Loads P 9 (ad.add (b3.toNat * 1)) (.string b4) b2 /\ ∃ b5 b6 b7, (∀ wv_14, Ext b2.drew wv_14 -> Loads P 89 ⟨r, 0, none⟩ (.agg #[.slice b5 b6 b7]) wv_14) /\ Calls P 57 ⟨[.agg #[.slice b5 b6 b7], .string b4]⟩ b2.drew fun b8 b9 =>
 ∃ ba bb bc bd, b8 = .returned (.agg #[.bool ba, .slice bb bc bd]) /\
 Ext b2.drew b9 /\ ∃ be bf bg, (∀ wv_16, Ext b2.drew wv_16 -> Loads P 89 ⟨a4, 0, none⟩ (.agg #[.slice be bf bg]) wv_16) /\ Calls P 57 ⟨[.agg #[.slice be bf bg], .string b4]⟩ b9 fun bh bi =>
 ∃ bj bk bl bm, bh = .returned (.agg #[.bool bj, .slice bk bl bm]) /\
 Calls P 56 ⟨[.agg #[.bool ba, .slice bb bc bd], .agg #[.bool bj, .slice bk bl bm]]⟩ bi fun bn bo =>
 ∃ bp, bn = .returned (.int .i64 bp) /\
 ((decide ((bp : Int) ≠ 0)) = true ->
 R (.bool false) bo) /\
 ((decide ((bp : Int) ≠ 0)) = false ->
 ∃ bq : Int, bq = IntKind.wrap .i64 (b3 + 1) /\ b0 bq bo /\ mu bq bo < mu b3 b2)) /\
 ((decide ((b3 : Int) < ((ay : Nat) : Int))) = false ->
 (ae = true ->
 laws_FnEntry_s_j1 r a0 a1 a2 ao an b2 R) /\
 (ae = false ->
 laws_FnEntry_s_j1 r a0 a1 a2 ao false b2 R)))
def laws_FnEntry_s (a0 : Option Addr) (a1 a2 : Nat) (w : World) (R : Value -> World -> Prop) : Prop :=
 ((decide ((1048576 : Int) < ((a1 : Nat) : Int))) = true ->
 R (.bool true) w) /\
 ((decide ((1048576 : Int) < ((a1 : Nat) : Int))) = false ->
 Calls P 50 ⟨[.slice a0 a1 a2]⟩ w fun e wv =>
 ∃ a3 a4 a5, e = .returned (.agg #[.slice a3 a4 a5]) /\
 ∀ r a6, New wv (.cells ⟨[.slice none 0 0]⟩ 89 (0, 0)) r a6 ->
 ∃ wv_2, Stores P 89 ⟨r, 0, none⟩ (.agg #[.slice a3 a4 a5]) a6 wv_2 /\
 ∃ a7 a8 a9, Loads P 89 ⟨r, 0, none⟩ (.agg #[.slice a7 a8 a9]) wv_2 /\ Calls P 61 ⟨[.slice a0 a1 a2, .agg #[.slice a7 a8 a9]]⟩ wv_2 fun aa ab =>
 ∃ ac ae af, aa = .returned (.slice ac ae af) /\
 ∃ ag ah ai, Loads P 89 ⟨r, 0, none⟩ (.agg #[.slice ag ah ai]) ab /\ Calls P 62 ⟨[.agg #[.slice ag ah ai], .slice ac ae af]⟩ ab fun aj ak =>
 ∃ al, aj = .returned (.int .i64 al) /\
 ∃ am an ao, Loads P 89 ⟨r, 0, none⟩ (.agg #[.slice am an ao]) ak /\ Calls P 63 ⟨[.agg #[.slice am an ao], .slice ac ae af]⟩ ak fun ap aq =>
 ∃ ar au av aw, ap = .returned (.tuple #[.agg #[.slice ar au av], .bool aw]) /\
 ∀ ax ay, New aq (.cells ⟨[.slice none 0 0]⟩ 89 (0, 0)) ax ay ->
 ∃ wv_7, Stores P 89 ⟨ax, 0, none⟩ (.agg #[.slice ar au av]) ay wv_7 /\
 ((!(aw == (decide ((al : Int) = 0)))) = true ->
 (true = true ->
 R (.bool false) wv_7) /\
 (true = false ->
 laws_FnEntry_s_j0 r ac ae af aw ax wv_7 R)) /\
 ((!(aw == (decide ((al : Int) = 0)))) = false ->
 Calls P 64 ⟨[.int .i64 al]⟩ wv_7 fun az b0 =>
 ∃ b1, az = .returned (.string b1) /\
 ((decide (b1 = (S []))) = true ->
 R (.bool false) b0) /\
 ((decide (b1 = (S []))) = false ->
 laws_FnEntry_s_j0 r ac ae af aw ax b0 R)))
theorem laws_FnEntry_s_ret {a : Option Addr} {a0 a1 : Nat} (h : laws_FnEntry_s a a0 a1 w R) : Ret P 8 [.slice a a0 a1] w R := Ret.of_fsem Tryz.func8 rfl (Eq.mp (show _ = fsem P Tryz.f8 (fun k => cond (Nat.beq k 15) [(60, .one (.int .i64))] ([])) _ R w from by kernel_rfl) h)
end Go.Proofs.YtbgokfhcgcoipaaGreatDoor
namespace Go.Proofs.YtbgokfhcgcoipaaGreatDoor
open Go Go.Proofs.YtbgokfhcgcoipaaGreatDoor.Sx
set_option maxRecDepth 20000
theorem impl_IntCmp_s {w : World} {xs ys : List Value} {x : Int} (h : Reps w xs (enc x)) (k : Reps w ys (enc x)) (hx : intOk (enc x) = true) (hl : (digs x.natAbs).length <= 50) :
    Ret P n_impl_IntCmp [.agg ⟨xs⟩, .agg ⟨ys⟩] w fun v w' => v = .int .i64 0 /\ Ext w w' := by
  have hr := h; have kr := k
  obtain ⟨a0, ap, an, ac, az, rfl, _, _⟩ := open_Signed h (enc_code _)
  obtain ⟨b0, bp, bn, bc, bz, rfl, _, _⟩ := open_Signed k (enc_code _)
  refine impl_IntCmp_ret ?_
  unfold impl_IntCmp
  intro r w1 hn1 r1 w2 hn2
  have X2 := hn1.ext.trans hn2.ext
  refine ⟨_, _, _, _, (hn1.blk.ext hn2.ext).loadA0 (by kernel_rfl), _, _, _, _, hn2.blk.loadA0 (by kernel_rfl), ?_⟩
  refine Ret.at (impl_intsOk_c (hr.ext X2) (kr.ext X2) (enc_code _) (enc_code _)) ?_
  rintro v w3 ⟨hv, y3⟩
  rw [hx] at hv
  subst hv
  have X3 := X2.trans y3
  refine ⟨_, rfl, fun e => absurd e (by simp), fun _ => ?_⟩
  refine ⟨_, _, _, _, ((hn1.blk.ext hn2.ext).ext y3).loadA0 (by kernel_rfl), _, _, _, _, (hn2.blk.ext y3).loadA0 (by kernel_rfl), ?_⟩
  refine Ret.at (impl_intCmp_c (hr.ext X3) (kr.ext X3) (by omega) (by omega)) ?_
  rintro v w4 ⟨hv, y4⟩
  rw [Int.sub_self] at hv
  subst hv
  exact ⟨_, rfl, rfl, X3.trans y4⟩
end Go.Proofs.YtbgokfhcgcoipaaGreatDoor
namespace Go.Proofs.YtbgokfhcgcoipaaGreatDoor
open Go Go.Proofs.YtbgokfhcgcoipaaGreatDoor.Sx
set_option maxHeartbeats 1000000 in
theorem impl_mustPost_c {w : World} {p q : Option Addr} {n c m d : Nat} {b l : List (List D0)} (h : RowsR w 4 p n c b) (hc : ∀ x ∈ b, x.map D0.code = [.str, .str, .bool, .ints]) (hn : n <= 1000) (hb : ∀ x ∈ b, bulks x <= 1048576)
    (k : RowsR w 4 q m d l) (kc : ∀ x ∈ l, x.map D0.code = [.str, .str, .bool, .ints]) (hm : m <= 1000) (h0 : 0 < m) (kb : ∀ x ∈ l, bulks x <= 1048576) (ht : Tab w) :
    RetZ P n_impl_mustPost [.agg ⟨[.slice p n c]⟩, .slice q m d] w
      (fun v w' => ∃ bk p' n' c' f, postN b l = some bk /\ v = .agg ⟨[.slice p' n' c']⟩ /\ OwnRows w' w.heap.size T_impl_Acct 4 p' n' c' bk f /\ (∀ x ∈ bk, x.map D0.code = [.str, .str, .bool, .ints]) /\ Ext w w')
      (fun v w' => postN b l = none /\ v = .iface T_int (.int .i64 5) /\ Ext w w') := by
  have hln := h.1; have kln := k.1
  refine impl_mustPost_ret ?_
  unfold impl_mustPost
  intro r w1 hn1 r1 w2 hn2
  have e1 := hn1.r_eq; have z1 := hn1.size; have e2 := hn2.r_eq; have z2 := hn2.size
  have X2 := hn1.ext.trans hn2.ext
  refine ⟨fun i wr => ∃ (j : Nat) (bk : List (List D0)) (p' : Option Addr) (n' c' : Nat), i = j /\ j <= m /\ Blk wr r T_impl_Book [.slice p' n' c'] /\ Blk wr r1 T_impl_Book [.slice none 0 0] /\ RowsR wr 4 p' n' c' bk /\ n' <= 1000 /\ (∀ x ∈ bk, x.map D0.code = [.str, .str, .bool, .ints]) /\ (∀ x ∈ bk, bulks x <= 1048576 + 50 * j) /\ postN b l = postN bk (l.drop j) /\ (0 < j -> ∃ f, OwnRows wr w.heap.size T_impl_Acct 4 p' n' c' bk f /\ r ∉ f /\ r1 ∉ f) /\ Ext w wr,
    fun i _ => m - i.toNat, ⟨0, b, p, n, c, rfl, Nat.zero_le _, hn1.blk.ext hn2.ext, hn2.blk, h.ext X2, hn, hc, fun x hx => by have := hb x hx; omega, by rw [List.drop_zero], fun hh => absurd hh (by omega), X2⟩, ?_⟩
  intro junk wr i ⟨j, bk, p', n', c', hi, hj, hbr, hbr1, hrow, hn', hbc, hbb, hpn, hown, hx⟩
  subst hi
  have lx := hx.le
  have ltr := hbr.lt; have ltr1 := hbr1.lt
  refine ifD (fun hlt => ?_) (fun hge => ?_)
  · have hjm : j < m := by omega
    have hjl : j < l.length := by omega
    obtain ⟨bl, off, hpp, hs⟩ := (k.ext hx).2.2.2 (by omega)
    subst hpp
    obtain ⟨cs, hk, hr, hsg⟩ := hs j _ (List.getElem?_eq_getElem hjl)
    have hcode := kc _ (List.getElem_mem hjl)
    have hkb := kb _ (List.getElem_mem hjl)
    obtain ⟨a0, a1, a2, a3p, a3n, a3c, a3z, rfl, hd, ha⟩ := open_Leg hr hcode
    have hs0 : strOf l[j] = a0 := by rw [hd]; rfl
    have hm1 : l[j].drop 1 = [.str a1, .bool a2, .ints a3z] := by rw [hd]; rfl
    rw [hd] at hkb
    refine ⟨⟨by omega, by omega⟩, _, _, _, _, _, _, by rw [addr_add, Int.toNat_natCast]; exact hsg.loadAAt 0 [.string a0, .string a1, .bool a2, .slice a3p a3n a3c] rfl (by kernel_rfl) rfl, ?_⟩
    intro r4 w6 hn6
    have e6 := hn6.r_eq; have z6 := hn6.size
    obtain ⟨w7, st7, b7, y7⟩ := hn6.fill (P := P) (t := T_impl_Leg) (xs := [.string a0, .string a1, .bool a2, .slice a3p a3n a3c]) (by simp [Value.oneCell']) (by kernel_rfl) rfl
    have hmr : Reps wr [.string a1, .bool a2, .slice a3p a3n a3c] [.str a1, .bool a2, .ints a3z] := ⟨rfl, rfl, ⟨_, _, _, rfl, ha⟩, trivial⟩
    refine ⟨w7, st7, _, _, _, (hbr.ext y7).loadA0 (by kernel_rfl), _, b7.loadAt 0 rfl (by kernel_rfl) rfl, _, _, _, _, _, b7.loadAAt 1 [.string a1, .bool a2, .slice a3p a3n a3c] rfl (by kernel_rfl) rfl, ?_⟩
    refine Ret.at (impl_BookPost_o (hrow.ext y7) hbc (by omega) (fun x hx => by have := hbb x hx; omega) a0 (hmr.ext y7) rfl (by simp only [bulks, D0.bulk, List.map_cons, List.map_nil, List.sum_cons, List.sum_nil] at hkb ⊢; omega) (ht.ext (hx.trans y7))) ?_
    rintro v w8 ⟨p8, n8, c8, f8, hv, ho8, y8⟩
    subst hv
    have Y8 := y7.trans y8
    have l7 := y7.le; have l8 := y8.le
    refine ⟨_, _, _, _, rfl, ?_⟩
    intro r5 w9 hn9
    have e9 := hn9.r_eq; have z9 := hn9.size
    obtain ⟨w10, st10, b10, y10⟩ := hn9.fill (P := P) (t := T_impl_Book) (xs := [.slice p8 n8 c8]) (by simp [Value.oneCell']) (by kernel_rfl) rfl
    have Y10 := Y8.trans y10
    have hstep := postN_drop (bk := bk) hjl
    rw [hs0, hm1] at hstep
    refine ⟨w10, st10, ifN (fun hno => ⟨?_, rfl, hx.trans Y10⟩) (fun hyes => ?_)⟩
    · rw [hpn, hstep, hno]; rfl
    · obtain ⟨w11, st11, b11, ch11, sz11⟩ := (hbr.ext Y10).storeA0 (P := P) (t := T_impl_Book) (xs := [.slice p8 n8 c8]) (by kernel_rfl) rfl (by simp [Value.oneCell'])
      have hT : postT bk a0 [.str a1, .bool a2, .ints a3z] = postL bk a0 [.str a1, .bool a2, .ints a3z] := by unfold postT; rw [if_pos hyes]
      rw [hT] at ho8
      have hlen : n8 = n' := by
        have h1 := ho8.1
        have h2 := hrow.1
        rw [postL_len] at h1; omega
      have hf8 : ∀ q ∈ f8, w7.heap.size <= q := fun q hq => (ho8.lt q hq).1
      have ho11 : OwnRows w11 w.heap.size T_impl_Acct 4 p8 n8 c8 (postL bk a0 [.str a1, .bool a2, .ints a3z]) f8 := ((ho8.ext y10).chg ch11 (fun q hq hm => by have := hf8 q hq; simp at hm; omega)).mono (by omega)
      refine ⟨_, _, _, b10.loadA0 (by kernel_rfl), w11, st11, exW ⟨by omega, by omega⟩ ⟨⟨j + 1, _, p8, n8, c8, rfl, by omega, b11, (hbr1.ext Y10).chg ch11 (by simp; omega), ho11.rows, by omega, postL_code' hbc hyes, fun x hx => by have := postL_bulk hbc hbb hyes x hx; omega, by rw [hpn, hstep, if_pos hyes], fun _ => ⟨f8, ho11, fun hm => by have := hf8 r hm; omega, fun hm => by have := hf8 r1 hm; omega⟩, (hx.trans Y10).chg ch11 (by simp; omega)⟩, by show m - ((j : Int) + 1).toNat < m - (j : Int).toNat; omega⟩⟩
  · have hjm : j = m := by omega
    subst hjm
    obtain ⟨f, ho, hrf, hr1f⟩ := hown (by omega)
    rw [List.drop_of_length_le (by omega)] at hpn
    obtain ⟨w12, st12, b12, ch12, sz12⟩ := hbr1.storeA0 (P := P) (t := T_impl_Book) (xs := [.slice p' n' c']) (by kernel_rfl) rfl (by simp [Value.oneCell'])
    exact ⟨_, _, _, hbr.loadA0 (by kernel_rfl), w12, st12, _, _, _, b12.loadA0 (by kernel_rfl), bk, p', n', c', f, hpn, rfl, ho.chg ch12 (fun q hq hm => by simp at hm; subst hm; exact hr1f hq), hbc, hx.chg ch12 (by simp; omega)⟩
end Go.Proofs.YtbgokfhcgcoipaaGreatDoor
namespace Go.Proofs.YtbgokfhcgcoipaaGreatDoor
open Go Go.Proofs Go.Proofs.YtbgokfhcgcoipaaGreatDoor.Sx
theorem blk_setCellP {w : World} {b k : Nat} {e : TypeId} {cs : List Value} (h : Blk w b e cs) (v : Value) : Blk (w.setCell ⟨b, k, none⟩ v) b e (cs.set k v) /\ Chg [b] w (w.setCell ⟨b, k, none⟩ v) := by
  have h' : w.heap[b]? = some (.cells ⟨cs⟩ e (0, 0)) := h
  refine ⟨?_, rfl, rfl, rfl, by simp [World.setCell], fun j hj hn => ?_⟩
  rotate_left
  · show (w.heap.modify b _)[j]? = _
    rw [Array.getElem?_modify, if_neg (fun e => hn (by rw [e]; simp))]
  show (w.heap.modify b _)[b]? = _
  rw [Array.getElem?_modify, if_pos rfl, h']
  simp
theorem blk_frozenP {w : World} {b k : Nat} {e : TypeId} {cs : List Value} (h : Blk w b e cs) : w.frozen? ⟨b, k, none⟩ = false := by
  have h' : w.heap[b]? = some (.cells ⟨cs⟩ e (0, 0)) := h
  simp [World.frozen?, h']
theorem post_idle (p q : Addr) (w : World) :
    CallsD Tryz.prog 257 #[.pointer (some p), .pointer (some q)] .returning w fun e u' w' => e = .returned (.tuple #[]) /\ u' = .returning /\ w' = w := by
  refine callsD_of_wpS Tryz.func257 rfl fun c₀ cs hu => ?_
  apply wpS_seq
  apply wpS_region
  simp [wpOpsS, go_sem, recoverD, hu, Tryz.ntmps257, Exit.thenS]
  refine wpS_cond (t := false) (by simp [Act.eval, Array.replicate]) ?_
  simp only [Bool.false_eq_true, if_false]
  refine wpS_of_wp (wp_skip ?_)
  cases c₀
  simp_all [bodyPostS, results, Tryz.results257]
theorem post_caught {r1 r2 : Nat} {e1 e2 : TypeId} {x y : Value} (u : TypeId) (pv : Value) (w : World) (h1 : Blk w r1 e1 [x]) (h2 : Blk w r2 e2 [y]) (hne : r1 ≠ r2) :
    CallsD Tryz.prog 257 #[.pointer (some ⟨r1, 0, none⟩), .pointer (some ⟨r2, 0, none⟩)] (.panicking [{ v := .iface u pv, recovered := false }]) w fun e u' w' =>
      e = .returned (.tuple #[]) /\ u' = .panicking [{ v := .iface u pv, recovered := true }] /\ w' = (w.setCell ⟨r1, 0, none⟩ (.slice none 0 0)).setCell ⟨r2, 0, none⟩ (.bool false) := by
  have c1 : w.cell? ⟨r1, 0, none⟩ = some x := by rw [h1.cell]; rfl
  have f1 : w.frozen? ⟨r1, 0, none⟩ = false := blk_frozenP h1
  obtain ⟨g1, ch1⟩ := blk_setCellP (k := 0) h1 (.slice none 0 0)
  have h2' := h2.chg ch1 (by simp; omega)
  have c2 : (w.setCell ⟨r1, 0, none⟩ (.slice none 0 0)).cell? ⟨r2, 0, none⟩ = some y := by rw [h2'.cell]; rfl
  have f2 : (w.setCell ⟨r1, 0, none⟩ (.slice none 0 0)).frozen? ⟨r2, 0, none⟩ = false := blk_frozenP h2'
  refine callsD_of_wpS Tryz.func257 rfl fun c₀ cs hu => ?_
  apply wpS_seq
  apply wpS_region
  simp [wpOpsS, go_sem, recoverD, hu, Tryz.ntmps257, Exit.thenS]
  refine wpS_cond (t := true) (by simp [Act.eval, Array.replicate]) ?_
  simp only [if_true]
  apply wpS_region
  simp [wpOpsS, go_sem, c1, f1, c2, f2, bodyPostS, results, Tryz.results257]
theorem New.alloc (w : World) (o : Obj) : New w o w.heap.size (w.alloc o) := ⟨rfl, rfl⟩
set_option maxHeartbeats 1000000 in
theorem impl_postAll_c {w : World} {p q : Option Addr} {n c m d : Nat} {b l : List (List D0)} (h : RowsR w 4 p n c b) (hc : ∀ x ∈ b, x.map D0.code = [.str, .str, .bool, .ints]) (hn : n <= 1000) (hb : ∀ x ∈ b, bulks x <= 1048576)
    (k : RowsR w 4 q m d l) (kc : ∀ x ∈ l, x.map D0.code = [.str, .str, .bool, .ints]) (hm : m <= 1000) (h0 : 0 < m) (kb : ∀ x ∈ l, bulks x <= 1048576) (ht : Tab w) :
    Calls Tryz.prog 208 #[.agg #[.slice p n c], .slice q m d] w fun ed w' => ∃ v, ed = .returned v /\ ∃ p' n' c' f, v = .tuple #[.agg ⟨[.slice p' n' c']⟩, .bool (postN b l).isSome] /\ OwnRows w' w.heap.size T_impl_Acct 4 p' n' c' ((postN b l).getD []) f /\ (∀ x ∈ (postN b l).getD [], x.map D0.code = [.str, .str, .bool, .ints]) /\ Ext w w' := by
  have hmf : ∀ (fn : Fn) (first cap : Array Value) (w : World), (Instr.makeFunc fn first cap).run Tryz.prog w = .ok (.func fn first cap) w := fun _ _ _ _ => rfl
  have N1 := New.alloc w (.cells #[.slice p n c] T_impl_Book)
  have N2 := New.alloc (w.alloc (.cells #[.slice p n c] T_impl_Book)) (.cells #[.slice none 0 0] T_impl_Book)
  have N3 := New.alloc ((w.alloc (.cells #[.slice p n c] T_impl_Book)).alloc (.cells #[.slice none 0 0] T_impl_Book)) (.cells #[.bool false] T_bool)
  have X3 := (N1.ext.trans N2.ext).trans N3.ext
  have hcl := impl_mustPost_c (h.ext X3) hc hn hb (k.ext X3) kc hm h0 kb (ht.ext X3)
  have B1 : Blk (((w.alloc (.cells #[.slice p n c] T_impl_Book)).alloc (.cells #[.slice none 0 0] T_impl_Book)).alloc (.cells #[.bool false] T_bool)) (w.heap.size + 1) T_impl_Book [.slice none 0 0] := by
    have := N2.blk.ext N3.ext
    have e := N1.size
    rwa [e] at this
  have B2 : Blk (((w.alloc (.cells #[.slice p n c] T_impl_Book)).alloc (.cells #[.slice none 0 0] T_impl_Book)).alloc (.cells #[.bool false] T_bool)) (w.heap.size + 1 + 1) T_bool [.bool false] := by
    have := N3.blk
    have e := N1.size
    have e2 := N2.size
    rwa [e2, e] at this
  have Z3 : (((w.alloc (.cells #[.slice p n c] T_impl_Book)).alloc (.cells #[.slice none 0 0] T_impl_Book)).alloc (.cells #[.bool false] T_bool)).heap.size = w.heap.size + 1 + 1 + 1 := by
    rw [N3.size, N2.size, N1.size]
  have c0 : (((w.alloc (.cells #[.slice p n c] T_impl_Book)).alloc (.cells #[.slice none 0 0] T_impl_Book)).alloc (.cells #[.bool false] T_bool)).cell? ⟨w.heap.size, 0, none⟩ = some (.slice p n c) := by
    rw [((N1.blk.ext N2.ext).ext N3.ext).cell]; rfl
  generalize hW : (((w.alloc (.cells #[.slice p n c] T_impl_Book)).alloc (.cells #[.slice none 0 0] T_impl_Book)).alloc (.cells #[.bool false] T_bool)) = W3 at *
  go_enter_defers Tryz.func208, Tryz.ntmps208
  go_wp2_with (go_at_call 258; (try rw [hW]); refine hcl.mono ?_; rintro ed w' (⟨v, rfl, bk, p', n', c', f, hp, rfl, ho, hcd, hx⟩ | ⟨v, rfl, hp, rfl, hx⟩) <;> have B1' := B1.ext hx <;> have B2' := B2.ext hx <;> have c1 : w'.cell? ⟨w.heap.size + 1, 0, none⟩ = some (.slice none 0 0) := (by rw [B1'.cell]; rfl) <;> have c2 : w'.cell? ⟨w.heap.size + 1 + 1, 0, none⟩ = some (.bool false) := (by rw [B2'.cell]; rfl) <;> have f1 := blk_frozenP (k := 0) B1' <;> have f2 := blk_frozenP (k := 0) B2')
  · obtain ⟨G1, g1⟩ := blk_setCellP (k := 0) B1' (.slice p' n' c')
    obtain ⟨G2, g2⟩ := blk_setCellP (k := 0) (B2'.chg g1 (by simp)) (.bool true)
    have G1' := G1.chg g2 (by simp)
    refine leaves_cons (f := 257) (args := #[.pointer (some ⟨w.heap.size + 1, 0, none⟩), .pointer (some ⟨w.heap.size + 1 + 1, 0, none⟩)]) (by simp) (by simp [go_sem]) ?_
    refine (post_idle _ _ _).mono ?_
    rintro e u' w'' ⟨rfl, rfl, rfl⟩
    have Xf : Ext w ((w'.setCell ⟨w.heap.size + 1, 0, none⟩ (.slice p' n' c')).setCell ⟨w.heap.size + 1 + 1, 0, none⟩ (.bool true)) := ((X3.trans hx).chg g1 (by simp)).chg g2 (by simp; omega)
    have hof := (ho.chg g1 (fun q hq hm => by have := (ho.lt q hq).1; simp at hm; omega))
    have hof2 := (hof.chg g2 (fun q hq hm => by have := (ho.lt q hq).1; simp at hm; omega)).mono (B' := w.heap.size) (by omega)
    have d1 := G1'.cell 0
    have d2 := G2.cell 0
    generalize (w'.setCell ⟨w.heap.size + 1, 0, none⟩ (.slice p' n' c')).setCell ⟨w.heap.size + 1 + 1, 0, none⟩ (.bool true) = W' at *
    simp at d1 d2
    refine ⟨.tuple #[.agg ⟨[.slice p' n' c']⟩, .bool true], ?_, _, rfl, p', n', c', f, by rw [hp]; rfl, by rw [hp]; exact hof2, by rw [hp]; exact hcd, Xf⟩
    simp [results, Tryz.results208, go_sem, d1, d2]
  · obtain ⟨G1, g1⟩ := blk_setCellP (k := 0) B1' (.slice none 0 0)
    obtain ⟨G2, g2⟩ := blk_setCellP (k := 0) (B2'.chg g1 (by simp)) (.bool false)
    have G1' := G1.chg g2 (by simp)
    refine leaves_cons (f := 257) (args := #[.pointer (some ⟨w.heap.size + 1, 0, none⟩), .pointer (some ⟨w.heap.size + 1 + 1, 0, none⟩)]) (by simp) (by simp [go_sem]) ?_
    refine (post_caught _ _ _ B1' B2' (by simp)).mono ?_
    rintro e u' w'' ⟨rfl, rfl, rfl⟩
    have Xf : Ext w ((w'.setCell ⟨w.heap.size + 1, 0, none⟩ (.slice none 0 0)).setCell ⟨w.heap.size + 1 + 1, 0, none⟩ (.bool false)) := ((X3.trans hx).chg g1 (by simp)).chg g2 (by simp; omega)
    have d1 := G1'.cell 0
    have d2 := G2.cell 0
    generalize (w'.setCell ⟨w.heap.size + 1, 0, none⟩ (.slice none 0 0)).setCell ⟨w.heap.size + 1 + 1, 0, none⟩ (.bool false) = W' at *
    simp at d1 d2
    refine ⟨.tuple #[.agg ⟨[.slice none 0 0]⟩, .bool false], ?_, _, rfl, none, 0, 0, [], by rw [hp]; rfl, by rw [hp]; exact rows0 _ _ _ _, by rw [hp]; intro x hx; simp at hx, Xf⟩
    simp [results, Tryz.results208, go_sem, d1, d2]
end Go.Proofs.YtbgokfhcgcoipaaGreatDoor
namespace Go.Proofs.YtbgokfhcgcoipaaGreatDoor
open Go Go.Proofs.YtbgokfhcgcoipaaGreatDoor.Sx
def EntQ (w : World) (b l : List (List D0)) (v : Value) (w' : World) : Prop :=
 ∃ p' n' c' f, v = .tuple #[.agg ⟨[.slice p' n' c']⟩, .int .i64 (entCode b l)] /\ OwnRows w' w.heap.size T_impl_Acct 4 p' n' c' (entBook b l) f /\ Ext w w'
theorem entBook_no {b l : List (List D0)} {z : Int} (h : entCode b l = z) (hz : z ≠ 0) : entBook b l = [] := by unfold entBook; rw [h, if_neg hz]
theorem ent_zero {w W : World} {r1 : Nat} {b l : List (List D0)} {z : Int} (h : entCode b l = z) (hz : z ≠ 0) (X : Ext w W) (b1 : Blk W r1 T_impl_Book [.slice none 0 0]) (hr1 : w.heap.size <= r1) :
    ∃ wv, Stores P T_impl_Book ⟨r1, 0, none⟩ (.agg #[.slice none 0 0]) W wv /\ ∃ p n c, Loads P T_impl_Book ⟨r1, 0, none⟩ (.agg #[.slice p n c]) wv /\ EntQ w b l (.tuple #[.agg #[.slice p n c], .int .i64 z]) wv := by
  obtain ⟨w12, st12, b12, ch12, sz12⟩ := b1.storeA0 (P := P) (t := T_impl_Book) (xs := [.slice none 0 0]) (by kernel_rfl) rfl (by simp [Value.oneCell'])
  refine ⟨w12, st12, _, _, _, b12.loadA0 (by kernel_rfl), none, 0, 0, [], by rw [h], ?_, X.chg ch12 (by simp; omega)⟩
  rw [entBook_no h hz]
  exact rows0 _ _ _ _
set_option maxHeartbeats 1000000 in
theorem impl_checkEntry_j2_c {w W : World} {p q : Option Addr} {n c m d : Nat} {b l : List (List D0)} (h : RowsR w 4 p n c b) (hc : ∀ x ∈ b, x.map D0.code = [.str, .str, .bool, .ints]) (hn : n <= 1000) (hb : ∀ x ∈ b, bulks x <= 1048576) (k : RowsR w 4 q m d l) (kc : ∀ x ∈ l, x.map D0.code = [.str, .str, .bool, .ints]) (km : m <= 1000) (kb : ∀ x ∈ l, bulks x <= 1048576) (h0 : 0 < m) {r r1 : Nat} {code : Int} (ht : Tab w) (X : Ext w W) (b0 : Blk W r T_impl_Book [.slice p n c]) (b1 : Blk W r1 T_impl_Book [.slice none 0 0]) (hr1 : w.heap.size <= r1)
    (hz : code = 0 -> entCode b l = if (postN b l).isSome then 0 else 5) (hnz : code ≠ 0 -> entCode b l = code) : impl_checkEntry_j2 q m d r r1 code W (EntQ w b l) := by
  unfold impl_checkEntry_j2
  refine ifD (fun hne => ent_zero (hnz hne) hne X b1 hr1) (fun he => ?_)
  have he : code = 0 := Decidable.byContradiction he
  have hz := hz he
  refine ⟨_, _, _, b0.loadA0 (by kernel_rfl), ?_⟩
  refine Ret.at (P := P) (impl_postAll_c (h.ext X) hc hn hb (k.ext X) kc km h0 kb (ht.ext X)) ?_
  rintro v w2 ⟨p', n', c', f, hv, ho, hcd, y2⟩
  subst hv
  refine ⟨_, _, _, _, rfl, ?_⟩
  intro r4 w3 hn3
  have e3 := hn3.r_eq; have z3 := hn3.size
  obtain ⟨w4, st4, b4, y4⟩ := hn3.fill (P := P) (t := T_impl_Book) (xs := [.slice p' n' c']) (by simp [Value.oneCell']) (by kernel_rfl) rfl
  have Y4 := y2.trans y4
  have l2 := y2.le; have lX := X.le
  have ltr1 := b1.lt
  refine ⟨w4, st4, ifN (fun hno => ?_) (fun hyes => ?_)⟩
  · rw [hno] at hz
    exact ent_zero hz (by decide) (X.trans Y4) (b1.ext Y4) hr1
  · rw [hyes] at hz
    obtain ⟨w5, st5, b5, ch5, sz5⟩ := (b1.ext Y4).storeA0 (P := P) (t := T_impl_Book) (xs := [.slice p' n' c']) (by kernel_rfl) rfl (by simp [Value.oneCell'])
    refine ⟨_, _, _, b4.loadA0 (by kernel_rfl), w5, st5, _, _, _, b5.loadA0 (by kernel_rfl), p', n', c', f, by rw [hz]; rfl, ?_, (X.trans Y4).chg ch5 (by simp; omega)⟩
    have : entBook b l = (postN b l).getD [] := by unfold entBook; rw [hz]; rfl
    rw [this]
    exact ((ho.ext y4).chg ch5 (fun x hx hm => by have := (ho.lt x hx).1; simp at hm; omega)).mono (by omega)
set_option maxHeartbeats 1000000 in
theorem impl_checkEntry_j0_c {w W : World} {p q : Option Addr} {n c m d : Nat} {b l : List (List D0)} (h : RowsR w 4 p n c b) (hc : ∀ x ∈ b, x.map D0.code = [.str, .str, .bool, .ints]) (hn : n <= 1000) (hb : ∀ x ∈ b, bulks x <= 1048576) (k : RowsR w 4 q m d l) (kc : ∀ x ∈ l, x.map D0.code = [.str, .str, .bool, .ints]) (km : m <= 1000) (kb : ∀ x ∈ l, bulks x <= 1048576) (h0 : 0 < m) {r r1 : Nat} (ht : Tab w) (X : Ext w W) (b0 : Blk W r T_impl_Book [.slice p n c]) (b1 : Blk W r1 T_impl_Book [.slice none 0 0]) (hr1 : w.heap.size <= r1)
    (hok : (bookOk b && legsOk l) = true) : impl_checkEntry_j0 q m d r r1 W (EntQ w b l) := by
  have kln := k.1
  unfold impl_checkEntry_j0
  refine ⟨fun code i wr => ∃ j : Nat, i = j /\ j <= m /\ code = (if (l.take j).any (badCur b) then 3 else 0) /\ (l.take j).any (badAcct b) = false /\ Ext W wr, fun _ i _ => m - i.toNat, ⟨0, rfl, Nat.zero_le _, rfl, rfl, Ext.refl _⟩, ?_⟩
  intro junk wr code i ⟨j, hi, hj, hcode, hacct, hx⟩
  subst hi
  have Xr := X.trans hx
  refine ifD (fun hlt => ?_) (fun hge => ?_)
  · have hjm : j < m := by omega
    have hjl : j < l.length := by omega
    obtain ⟨bl, off, hpp, hs⟩ := (k.ext Xr).2.2.2 (by omega)
    subst hpp
    obtain ⟨cs, hk, hr, hsg⟩ := hs j _ (List.getElem?_eq_getElem hjl)
    obtain ⟨a0, a1, a2, a3p, a3n, a3c, a3z, rfl, hd, ha⟩ := open_Leg hr (kc _ (List.getElem_mem hjl))
    have hs0 : strOf l[j] = a0 := by rw [hd]; rfl
    have hs1 : strOf (l[j].drop 1) = a1 := by rw [hd]; rfl
    refine ⟨⟨by omega, by omega⟩, _, _, _, _, _, _, by rw [addr_add, Int.toNat_natCast]; exact hsg.loadAAt 0 [.string a0, .string a1, .bool a2, .slice a3p a3n a3c] rfl (by kernel_rfl) rfl, ?_⟩
    intro r4 w6 hn6
    obtain ⟨w7, st7, b7, y7⟩ := hn6.fill (P := P) (t := T_impl_Leg) (xs := [.string a0, .string a1, .bool a2, .slice a3p a3n a3c]) (by simp [Value.oneCell']) (by kernel_rfl) rfl
    have Y7 := hx.trans y7
    refine ⟨w7, st7, _, _, _, (b0.ext Y7).loadA0 (by kernel_rfl), _, b7.loadAt 0 rfl (by kernel_rfl) rfl, ?_⟩
    refine Ret.at (impl_BalanceOf_c (h.ext (X.trans Y7)) hc (by omega) hb a0) ?_
    rintro v w8 ⟨vs, fx, hv, ho, hnd, hbc, _, y8⟩
    subst hv
    obtain ⟨m0, m1, mp, mn, mc, mz, rfl, hmd, _⟩ := open_Money ho.reps hbc
    refine ⟨_, _, _, _, _, _, rfl, ?_⟩
    intro r5 w9 hn9
    obtain ⟨w10, st10, b10, y10⟩ := hn9.fill (P := P) (t := T_impl_Money) (xs := [.string m0, .bool m1, .slice mp mn mc]) (by simp [Value.oneCell']) (by kernel_rfl) rfl
    have Y10 := (Y7.trans y8).trans y10
    refine ⟨w10, st10, ifN (fun hno => ?_) (fun hyes => ?_)⟩
    · have h2 : l.any (badAcct b) = true := any_at hjl (by
        unfold badAcct
        rw [hs0]
        simp only [decide_eq_false_iff_not] at hno
        simp only [decide_eq_true_eq]
        omega)
      exact ent_zero (entCode_two hok h2) (by decide) (X.trans Y10) (b1.ext Y10) hr1
    · have hac : badAcct b l[j] = false := by
        unfold badAcct
        rw [hs0]
        simp only [decide_eq_true_eq] at hyes
        simp only [decide_eq_false_iff_not]
        omega
      have hcb : badCur b l[j] = decide (m0 ≠ a1) := by
        unfold badCur
        rw [hs0, hs1, hmd]
        rfl
      have ha1 : (l.take (j + 1)).any (badAcct b) = false := by rw [any_succ hjl, hacct, hac]; rfl
      have hc1 : (l.take (j + 1)).any (badCur b) = ((l.take j).any (badCur b) || decide (m0 ≠ a1)) := by rw [any_succ hjl, hcb]
      refine ⟨_, b10.loadAt 0 rfl (by kernel_rfl) rfl, _, ((b7.ext y8).ext y10).loadAt 1 rfl (by kernel_rfl) rfl, fun hne => ?_, fun heq => ?_⟩
      · unfold impl_checkEntry_j1
        refine exW ⟨by omega, by omega⟩ ⟨⟨j + 1, rfl, by omega, by rw [hc1, hne, Bool.or_true]; rfl, ha1, Y10⟩, by show m - ((j : Int) + 1).toNat < m - (j : Int).toNat; omega⟩
      · unfold impl_checkEntry_j1
        refine exW ⟨by omega, by omega⟩ ⟨⟨j + 1, rfl, by omega, by rw [hc1, heq, Bool.or_false]; exact hcode, ha1, Y10⟩, by show m - ((j : Int) + 1).toNat < m - (j : Int).toNat; omega⟩
  · have hjm : j = m := by omega
    subst hjm
    rw [List.take_of_length_le (by omega)] at hcode hacct
    refine ifD (fun hz => ?_) (fun hnz => ⟨fun hh => absurd hh (by simp), fun _ => ?_⟩)
    · have h3 : l.any (badCur b) = false := by
        cases hh : l.any (badCur b) with
        | false => rfl
        | true => rw [hh, if_pos rfl] at hcode; omega
      refine Ret.at (impl_Balanced_c (k.ext Xr) kc (by omega) kb (ht.ext Xr)) ?_
      rintro v w8 ⟨hv, y8⟩
      subst hv
      have Y8 := hx.trans y8
      refine ⟨_, rfl, ifN (fun hno => ?_) (fun hyes => ?_)⟩
      · exact impl_checkEntry_j2_c h hc hn hb k kc km kb h0 ht (X.trans Y8) (b0.ext Y8) (b1.ext Y8) hr1 (fun hh => absurd hh (by decide)) (fun _ => entCode_four hok hacct h3 hno)
      · exact impl_checkEntry_j2_c h hc hn hb k kc km kb h0 ht (X.trans Y8) (b0.ext Y8) (b1.ext Y8) hr1 (fun _ => entCode_rest hok hacct h3 hyes) (fun hh => absurd hz hh)
    · have h3 : l.any (badCur b) = true := by
        cases hh : l.any (badCur b) with
        | true => rfl
        | false => rw [hh] at hcode; exact absurd hcode hnz
      have h33 := entCode_three hok hacct h3
      rw [h3, if_pos rfl] at hcode
      exact impl_checkEntry_j2_c h hc hn hb k kc km kb h0 ht Xr (b0.ext hx) (b1.ext hx) hr1 (fun hh => absurd hh (by omega)) (fun _ => by rw [h33, hcode])
theorem impl_checkEntry_c {w : World} {p q : Option Addr} {n c m d : Nat} {b l : List (List D0)} (h : RowsR w 4 p n c b) (hc : ∀ x ∈ b, x.map D0.code = [.str, .str, .bool, .ints]) (hn : n <= 1048576) (hb : ∀ x ∈ b, bulks x <= 1048576) (k : RowsR w 4 q m d l) (kc : ∀ x ∈ l, x.map D0.code = [.str, .str, .bool, .ints]) (km : m <= 1048576) (kb : ∀ x ∈ l, bulks x <= 1048576) (ht : Tab w) :
    Ret P n_impl_checkEntry [.agg ⟨[.slice p n c]⟩, .slice q m d] w (EntQ w b l) := by
  refine impl_checkEntry_ret ?_
  unfold impl_checkEntry
  intro r w1 hn1 r1 w2 hn2
  have e1 := hn1.r_eq; have z1 := hn1.size; have e2 := hn2.r_eq; have z2 := hn2.size
  have X2 := hn1.ext.trans hn2.ext
  have b0 := hn1.blk.ext hn2.ext
  have b1 := hn2.blk
  refine ⟨_, _, _, b0.loadA0 (by kernel_rfl), ?_⟩
  refine Ret.at (impl_BookOk_c (h.ext X2) hc hn hb (ht.ext X2)) ?_
  rintro v w3 ⟨hv, y3⟩
  subst hv
  refine ⟨_, rfl, ifN (fun hno => ifT (ent_zero (entCode_one (by rw [hno]; rfl)) (by decide) (X2.trans y3) (b1.ext y3) (by omega))) (fun hbk => ?_)⟩
  refine Ret.at (impl_LegsOk_c (k.ext (X2.trans y3)) kc km kb (ht.ext (X2.trans y3))) ?_
  rintro v w4 ⟨hv, y4⟩
  subst hv
  have Y4 := y3.trans y4
  refine ⟨_, rfl, ifN (fun hno => ent_zero (entCode_one (by rw [hno, Bool.and_false])) (by decide) (X2.trans Y4) (b1.ext Y4) (by omega)) (fun hlk => ?_)⟩
  have hl12 := bookOk_len hbk
  have hln := h.1; have kln := k.1
  have hl8 : 1 <= l.length /\ l.length <= 8 := by
    have := hlk
    simp only [legsOk, Bool.and_eq_true, decide_eq_true_eq] at this
    exact this.1
  exact impl_checkEntry_j0_c h hc (by omega) hb k kc (by omega) kb (by omega) ht (X2.trans Y4) (b0.ext Y4) (b1.ext Y4) (by omega) (by rw [hbk, hlk]; rfl)
theorem impl_EntryCode_c {w : World} {p q : Option Addr} {n c m d : Nat} {b l : List (List D0)} (h : RowsR w 4 p n c b) (hc : ∀ x ∈ b, x.map D0.code = [.str, .str, .bool, .ints]) (hn : n <= 1048576) (hb : ∀ x ∈ b, bulks x <= 1048576) (k : RowsR w 4 q m d l) (kc : ∀ x ∈ l, x.map D0.code = [.str, .str, .bool, .ints]) (km : m <= 1048576) (kb : ∀ x ∈ l, bulks x <= 1048576) (ht : Tab w) :
    Ret P n_impl_EntryCode [.agg ⟨[.slice p n c]⟩, .slice q m d] w fun v w' => v = .int .i64 (entCode b l) /\ Ext w w' := by
  refine impl_EntryCode_ret ?_
  unfold impl_EntryCode
  intro r w1 hn1
  refine ⟨_, _, _, hn1.blk.loadA0 (by kernel_rfl), ?_⟩
  refine Ret.at (impl_checkEntry_c (h.ext hn1.ext) hc hn hb (k.ext hn1.ext) kc km kb (ht.ext hn1.ext)) ?_
  rintro v w2 ⟨p', n', c', f, hv, ho, y2⟩
  subst hv
  refine ⟨_, _, _, _, rfl, ?_⟩
  intro r1 w3 hn3
  obtain ⟨w4, st4, b4, y4⟩ := hn3.fill (P := P) (t := T_impl_Book) (xs := [.slice p' n' c']) (by simp [Value.oneCell']) (by kernel_rfl) rfl
  exact ⟨w4, st4, rfl, (hn1.ext.trans y2).trans y4⟩
theorem impl_PostLegs_c {w : World} {p q : Option Addr} {n c m d : Nat} {b l : List (List D0)} (h : RowsR w 4 p n c b) (hc : ∀ x ∈ b, x.map D0.code = [.str, .str, .bool, .ints]) (hn : n <= 1048576) (hb : ∀ x ∈ b, bulks x <= 1048576) (k : RowsR w 4 q m d l) (kc : ∀ x ∈ l, x.map D0.code = [.str, .str, .bool, .ints]) (km : m <= 1048576) (kb : ∀ x ∈ l, bulks x <= 1048576) (ht : Tab w) :
    Ret P n_impl_PostLegs [.agg ⟨[.slice p n c]⟩, .slice q m d] w fun v w' => ∃ p' n' c' f, v = .tuple #[.agg ⟨[.slice p' n' c']⟩, .bool (decide (entCode b l = 0))] /\ OwnRows w' w.heap.size T_impl_Acct 4 p' n' c' (entBook b l) f /\ (∀ x ∈ entBook b l, x.map D0.code = [.str, .str, .bool, .ints]) /\ cntL (entBook b l) <= 1000000000 /\ Ext w w' := by
  refine impl_PostLegs_ret ?_
  unfold impl_PostLegs
  intro r w1 hn1 r1 w2 hn2
  have e1 := hn1.r_eq; have z1 := hn1.size; have e2 := hn2.r_eq; have z2 := hn2.size
  have X2 := hn1.ext.trans hn2.ext
  refine ⟨_, _, _, (hn1.blk.ext hn2.ext).loadA0 (by kernel_rfl), ?_⟩
  refine Ret.at (impl_checkEntry_c (h.ext X2) hc hn hb (k.ext X2) kc km kb (ht.ext X2)) ?_
  rintro v w3 ⟨p', n', c', f, hv, ho, y3⟩
  subst hv
  refine ⟨_, _, _, _, rfl, ?_⟩
  intro r2 w4 hn4
  obtain ⟨w5, st5, b5, y5⟩ := hn4.fill (P := P) (t := T_impl_Book) (xs := [.slice p' n' c']) (by simp [Value.oneCell']) (by kernel_rfl) rfl
  have Y5 := y3.trans y5
  obtain ⟨w6, st6, b6, ch6, sz6⟩ := (hn2.blk.ext Y5).storeA0 (P := P) (t := T_impl_Book) (xs := [.slice p' n' c']) (by kernel_rfl) rfl (by simp [Value.oneCell'])
  obtain ⟨q1, q2⟩ := entBook_facts (l := l) hc
  exact ⟨w5, st5, _, _, _, b5.loadA0 (by kernel_rfl), w6, st6, _, _, _, b6.loadA0 (by kernel_rfl), p', n', c', f, rfl, ((ho.ext y5).chg ch6 (fun x hx hm => by have := (ho.lt x hx).1; simp at hm; omega)).mono (by omega), q1, q2, (X2.trans Y5).chg ch6 (by simp; omega)⟩
end Go.Proofs.YtbgokfhcgcoipaaGreatDoor
namespace Go.Proofs.YtbgokfhcgcoipaaGreatDoor
open Go Go.Proofs.YtbgokfhcgcoipaaGreatDoor.Sx
theorem impl_BookSame_1_c {w : World} {xs ys : List Value} {dx dy : List D0} (h : Reps w xs dx) (k : Reps w ys dy) (hc : dx.map D0.code = [.str, .str, .bool, .ints]) (kc : dy.map D0.code = [.str, .str, .bool, .ints]) :
    Ret P n_impl_BookSame_1 [.agg ⟨xs⟩, .agg ⟨ys⟩] w fun v w' => v = .bool (decide (dx = dy)) /\ Ext w w' := by
  obtain ⟨a0, a1, a2, a3p, a3n, a3c, a3z, rfl, rfl, ha⟩ := open_Acct h hc
  obtain ⟨b0, b1, b2, b3p, b3n, b3c, b3z, rfl, rfl, hb⟩ := open_Acct k kc
  refine impl_BookSame_1_ret ?_
  unfold impl_BookSame_1
  intro r w1 hn1 r1 w2 hn2
  have x := hn1.ext.trans hn2.ext
  have k0 := hn1.blk.ext hn2.ext; have k1 := hn2.blk
  refine ⟨_, k0.load (by kernel_rfl) rfl, _, k1.load (by kernel_rfl) rfl, ifD (fun e => ?_) (fun e => ⟨dec_no (fun h => e (by simp at h; exact h.1)), x⟩)⟩
  subst e
  refine ⟨_, _, _, _, _, k0.loadAAt 1 [.string a1, .bool a2, .slice a3p a3n a3c] rfl (by kernel_rfl) rfl, _, _, _, _, _, k1.loadAAt 1 [.string b1, .bool b2, .slice b3p b3n b3c] rfl (by kernel_rfl) rfl, ?_⟩
  refine Ret.at (impl_MoneySame_c (dx := [.str a1, .bool a2, .ints a3z]) (dy := [.str b1, .bool b2, .ints b3z]) ⟨rfl, rfl, ⟨_, _, _, rfl, ha.ext x⟩, trivial⟩ ⟨rfl, rfl, ⟨_, _, _, rfl, hb.ext x⟩, trivial⟩ rfl rfl) ?_
  rintro v w3 ⟨hv, y⟩
  subst hv
  exact ⟨_, rfl, by simp, x.trans y⟩
theorem slices_EqualFunc_Acct_c {w : World} {p q : Option Addr} {n c m d : Nat} {l s : List (List D0)} (h : RowsR w 4 p n c l) (k : RowsR w 4 q m d s) (hc : ∀ x ∈ l, x.map D0.code = [.str, .str, .bool, .ints]) (kc : ∀ x ∈ s, x.map D0.code = [.str, .str, .bool, .ints]) (f : Value)
    (hf : ∀ xs ys dx dy w', Ext w w' -> Reps w' xs dx -> Reps w' ys dy -> dx.map D0.code = [.str, .str, .bool, .ints] -> dy.map D0.code = [.str, .str, .bool, .ints] -> CallW P f [.agg ⟨xs⟩, .agg ⟨ys⟩] w' fun e w'' => e = .returned (.bool (decide (dx = dy))) /\ Ext w' w'') :
    Ret P n_slices_EqualFunc_impl_Acct_impl_Acct_impl_Acct_impl_Acct [.slice p n c, .slice q m d, f] w fun v w' => v = .bool (decide (l = s)) /\ Ext w w' := by
  refine slices_EqualFunc_impl_Acct_impl_Acct_impl_Acct_impl_Acct_ret ?_
  unfold slices_EqualFunc_impl_Acct_impl_Acct_impl_Acct_impl_Acct
  have hz := h.1; have hy := k.1; have hcap := h.2.1; have hcm := h.2.2.1
  refine ifD (fun hne => ⟨dec_no (fun e => hne (by rw [<- hz, <- hy, e])), Ext.refl _⟩) (fun heq => ?_)
  have hnm : n = m := by omega
  refine ⟨fun i wr => ∃ j : Nat, i = j /\ j <= n /\ Ext w wr /\ l.take j = s.take j, fun i _ => n - i.toNat, ⟨0, rfl, by omega, Ext.refl _, by simp⟩, ?_⟩
  intro junk wr i ⟨j, hij, hj, hx, he⟩
  subst hij
  refine ifD (fun hlt => ?_) (fun hge => ⟨dec_yes ?_, hx⟩)
  · have hjn : j < n := by omega
    have hjl : j < l.length := by omega
    have hjs : j < s.length := by omega
    obtain ⟨a, cs, hp, hk, hr, hl⟩ := (h.ext hx).at (P := P) (t := T_impl_Acct) (by kernel_rfl) hjn
    subst hp
    have hrr := hr; have hcode := hc _ (List.getElem_mem hjl)
    obtain ⟨a0, a1, a2, a3p, a3n, a3c, a3z, rfl, hd, ha3⟩ := open_Acct hr hcode
    refine ⟨⟨by omega, by omega⟩, _, _, _, _, _, _, by simpa using hl, ?_⟩
    intro r1 w2 hn2
    obtain ⟨w3, st, hb3, y3⟩ := hn2.fill (P := P) (t := T_impl_Acct) hrr.cells1 (by kernel_rfl) rfl
    have x3 := hx.trans y3
    obtain ⟨b, ds, hq, hk2, hr2, hl2⟩ := (k.ext x3).at (P := P) (t := T_impl_Acct) (by kernel_rfl) (show j < m by omega)
    subst hq
    have hrr2 := hr2; have hcode2 := kc _ (List.getElem_mem hjs)
    obtain ⟨b0, b1, b2, b3p, b3n, b3c, b3z, rfl, hd2, hbb3⟩ := open_Acct hr2 hcode2
    refine ⟨w3, st, ⟨by omega, by omega⟩, _, _, _, _, _, _, by simpa using hl2, ?_⟩
    intro r2 w4 hn4
    obtain ⟨w5, st2, hb5, y5⟩ := hn4.fill (P := P) (t := T_impl_Acct) hrr2.cells1 (by kernel_rfl) rfl
    have x5 := x3.trans y5
    refine ⟨w5, st2, _, _, _, _, _, _, (hb3.ext y5).loadA0 (by kernel_rfl), _, _, _, _, _, _, hb5.loadA0 (by kernel_rfl), ?_⟩
    obtain ⟨g, first, captured, h1, h2, h3⟩ := hf _ _ _ _ w5 x5 (hrr.ext (y3.trans y5)) (hrr2.ext y5) (hc _ (List.getElem_mem hjl)) (kc _ (List.getElem_mem hjs))
    refine ⟨g, first, captured, h1, h2, Calls.mono h3 fun e w6 ⟨he2, hy6⟩ => ?_⟩
    refine ⟨_, he2, ifN (fun hne => ⟨dec_no (fun e => of_decide_eq_false hne (by subst e; rfl)), x5.trans hy6⟩) (fun hee => ?_)⟩
    have e2 := of_decide_eq_true hee
    refine exW ⟨by omega, by omega⟩ ⟨⟨j + 1, by omega, by omega, x5.trans hy6, ?_⟩, by simp; omega⟩
    rw [List.take_add_one, List.take_add_one, he, List.getElem?_eq_getElem hjl, List.getElem?_eq_getElem hjs, e2]
  · have hjn : j = n := by omega
    subst hjn
    rwa [List.take_of_length_le (by omega), List.take_of_length_le (by omega)] at he
theorem impl_BookSame_c {w : World} {p q : Option Addr} {n c m d : Nat} {l s : List (List D0)} (h : RowsR w 4 p n c l) (hc : ∀ x ∈ l, x.map D0.code = [.str, .str, .bool, .ints]) (k : RowsR w 4 q m d s) (kc : ∀ x ∈ s, x.map D0.code = [.str, .str, .bool, .ints]) :
    Ret P n_impl_BookSame [.agg ⟨[.slice p n c]⟩, .agg ⟨[.slice q m d]⟩] w fun v w' => v = .bool (decide (l = s)) /\ Ext w w' := by
  refine impl_BookSame_ret ?_
  unfold impl_BookSame
  intro r w1 hn1 r1 w2 hn2
  have x := hn1.ext.trans hn2.ext
  refine ⟨_, _, _, (hn1.blk.ext hn2.ext).load (by kernel_rfl) rfl, _, _, _, hn2.blk.load (by kernel_rfl) rfl, ?_⟩
  refine Ret.at (slices_EqualFunc_Acct_c (h.ext x) (k.ext x) hc kc _ (fun xs ys dx dy w' hx h1 h2 c1 c2 => ?_)) ?_
  · refine ⟨_, _, _, rfl, by kernel_rfl, ?_⟩
    refine Calls.mono (impl_BookSame_1_c h1 h2 c1 c2) ?_
    rintro e w'' ⟨v, he, hv, y⟩
    subst hv
    exact ⟨he, y⟩
  · rintro v w3 ⟨hv, y⟩
    subst hv
    exact ⟨_, rfl, rfl, x.trans y⟩
end Go.Proofs.YtbgokfhcgcoipaaGreatDoor
namespace Go.Proofs.YtbgokfhcgcoipaaGreatDoor
open Go Go.Proofs.YtbgokfhcgcoipaaGreatDoor.Sx
def enNames : List ByteArray := [S [111, 107], S [102, 111, 114, 109], S [97, 99, 99, 116], S [99, 117, 114], S [115, 117, 109], S [108, 97, 114, 103, 101]]
def enName (c : Int) : ByteArray := if 0 <= c /\ c <= 5 then enNames.getD c.toNat (S []) else S []
theorem impl_nameAt_c {w : World} {p : Option Addr} {n c : Nat} {i : Int} {b : Nat} {ss : List ByteArray} (hp : p = some ⟨b, 0, none⟩) (hs : Seg w b 0 (ss.map Value.string)) (hn : ss.length = n) :
    Ret P n_impl_nameAt [.int .i64 i, .slice p n c] w fun v w' => v = .string (if 0 <= i /\ i < n then ss.getD i.toNat (S []) else S []) /\ w' = w := by
  refine impl_nameAt_ret ?_
  unfold impl_nameAt
  subst hp
  refine ifD (fun h => ifT ⟨?_, rfl⟩) (fun h => ifD (fun h2 => ⟨?_, rfl⟩) (fun h2 => ?_))
  · rw [if_neg (by omega)]
  · rw [if_neg (by omega)]
  · have hl : i.toNat < ss.length := by omega
    refine ⟨⟨by omega, by omega⟩, ss[i.toNat], hs.load (by kernel_rfl) (by simp [hl]), ?_, rfl⟩
    rw [if_pos (by omega)]
    simp [List.getD_eq_getElem?_getD, hl]
theorem impl_EnName_c (c : Int) (w : World) : Ret P n_impl_EnName [.int .i64 c] w fun v w' => v = .string (enName c) /\ Ext w w' := by
  refine impl_EnName_ret ?_
  unfold impl_EnName
  intro r w1 hn
  refine Ret.at (impl_nameAt_c (ss := enNames) rfl hn.blk.seg rfl) ?_
  rintro v w2 ⟨rfl, rfl⟩
  refine ⟨_, rfl, ?_, hn.ext⟩
  congr 1
  by_cases h : 0 <= c /\ c <= 5
  · rw [if_pos (by omega), enName, if_pos h]
  · rw [if_neg (by omega), enName, if_neg h]
end Go.Proofs.YtbgokfhcgcoipaaGreatDoor
namespace Go.Proofs.YtbgokfhcgcoipaaGreatDoor
open Go Go.Proofs.YtbgokfhcgcoipaaGreatDoor.Sx
set_option maxRecDepth 20000
theorem en_ok0 : decide (enName 0 = S []) = false := by decide
theorem en_ok1 : decide (enName 1 = S []) = false := by decide
theorem entCode_nil (b : List (List D0)) : entCode b [] = 1 := by
  unfold entCode
  have : legsOk [] = false := rfl
  rw [this, Bool.and_false]; rfl
theorem laws_FnEntry_c {w : World} {p0 : Option Addr} {n0 c0 : Nat} (h0 : ByR w p0 n0) (ht : Tab w) (hp : TabP w) : Ret P n_laws_FnEntry [.slice p0 n0 c0] w fun v w' => v = .bool true /\ Ext w w' := by
  have h := h0
  refine laws_FnEntry_s_ret ?_
  unfold laws_FnEntry_s
  refine ifD (fun _ => ⟨rfl, Ext.refl w⟩) (fun hs => ?_)
  have hn : n0 <= 1048576 := by omega
  refine Ret.at (spec_MakeBook_c h hn) ?_
  rintro v w1 ⟨b, f, bp, bn, bc, rfl, oB, hD, y1⟩
  have rB := oB.rows
  have hbn : b.length = bn := by have := rB.1; simpa using this
  have hb5 := hD.len
  refine ⟨_, _, _, rfl, ?_⟩
  intro r w2 hn2
  obtain ⟨w3, st3, bB, y3⟩ := hn2.fill (P := P) (t := T_impl_Book) (xs := [.slice bp bn bc]) (by simp [Value.oneCell']) (by kernel_rfl) rfl
  have rB := rB.ext y3
  have x := y1.trans y3
  refine ⟨w3, st3, _, _, _, bB.loadA0 (by kernel_rfl), ?_⟩
  refine Ret.at (spec_MakeLegs_c (h.ext x) hn rB hD) ?_
  rintro v w4 ⟨Q, lp, ln, lc, rfl, rL, hQ, hQ3, hQ0, hQ1, y4⟩
  have hll : (legsOf Q).length = ln := by have := rL.1; simpa using this
  have hln : ln <= 6 := by rw [<- hll, legsOf_len]; omega
  have kb := legs_bulk hD.bk hQ
  have rB := rB.ext y4; have bB := bB.ext y4
  have x := x.trans y4
  refine ⟨_, _, _, rfl, _, _, _, bB.loadA0 (by kernel_rfl), ?_⟩
  refine Ret.at (impl_EntryCode_c rB (bkR_code b) (by omega) hD.bk.bulk rL (bkR_code _) (by omega) kb (ht.ext x)) ?_
  rintro v w5 ⟨hv, y5⟩
  have rB := rB.ext y5; have bB := bB.ext y5; have rL := rL.ext y5
  have x := x.trans y5
  subst hv
  refine ⟨_, rfl, _, _, _, bB.loadA0 (by kernel_rfl), ?_⟩
  refine Ret.at (impl_PostLegs_c rB (bkR_code b) (by omega) hD.bk.bulk rL (bkR_code _) (by omega) kb (ht.ext x)) ?_
  rintro v w6 ⟨xp, xn, xc, xf, hv, oX, _, _, y6⟩
  have rB := rB.ext y6; have bB := bB.ext y6; have rL := rL.ext y6
  have x := x.trans y6
  subst hv
  refine ⟨_, _, _, _, rfl, ?_⟩
  intro r1 w7 hn7
  obtain ⟨w8, st8, bX, y8⟩ := hn7.fill (P := P) (t := T_impl_Book) (xs := [.slice xp xn xc]) (by simp [Value.oneCell']) (by kernel_rfl) rfl
  have rX := oX.rows.ext y8
  have rB := rB.ext y8; have bB := bB.ext y8; have rL := rL.ext y8
  have x := x.trans y8
  refine ⟨w8, st8, fun e => absurd e (by simp), fun _ => ?_⟩
  refine Ret.at (impl_EnName_c _ w8) ?_
  rintro v w9 ⟨hv, y9⟩
  subst hv
  have rB := rB.ext y9; have bB := bB.ext y9; have rL := rL.ext y9; have rX := rX.ext y9; have bX := bX.ext y9
  have x := x.trans y9
  refine ⟨_, rfl, ?_⟩
  rcases List.eq_nil_or_concat b with hbn0 | hbn1
  · -- no account
    have hq := hQ0 hbn0
    subst hbn0; subst hq
    have ec : entCode (List.map bkR []) (List.map bkR (legsOf [])) = 1 := entCode_nil _
    rw [ec]
    refine ⟨fun e => absurd (e.symm.trans en_ok1) (by simp), fun _ => ?_⟩
    unfold laws_FnEntry_s_j0
    refine ⟨fun _ => ⟨_, _, _, bB.loadAt 0 rfl (by kernel_rfl) rfl, ?_, x⟩, fun e => absurd e (by simp)⟩
    have : bn = 0 := by simpa using hbn.symm
    subst this; rfl
  · have hbne : b ≠ [] := by
      obtain ⟨l, y, rfl⟩ := hbn1
      simp
    have hQne := hQ1 hbne
    have E : EntF b Q 7000 := ⟨hD.bk, hQ, hQne, by omega, fun y hy => (hD.all y hy).2.2, by decide⟩
    obtain ⟨c1, c2, c3, c4⟩ := E.code
    have E2 := E.back (by decide)
    obtain ⟨d1, d2, d3, d4⟩ := E2.code
    rw [E.again] at d2
    rw [c2] at rX
    rw [c1]
    have hxn : (shiftAll b (legsOf Q)).length = xn := by have := rX.1; simpa using this
    have hsl : (shiftAll b (legsOf Q)).length = b.length := by rw [shift_tot, List.length_map]
    refine ⟨fun e => absurd (e.symm.trans en_ok0) (by simp), fun _ => ?_⟩
    unfold laws_FnEntry_s_j0
    refine ⟨fun e => absurd e (by simp), fun _ => ?_⟩
    refine Ret.at (impl_Undo_c rL (bkR_code _) (by omega) kb (ht.ext x)) ?_
    rintro v w10 ⟨up, un, uc, uf, hv, oU, _, _, y10⟩
    rw [legs_ok E.bk E.prs E.ne E.len] at hv
    rw [E.undo] at oU
    subst hv
    have rU := oU.rows
    have hun : (legsOf (Q.reverse.map swapP)).length = un := by have := rU.1; simpa using this
    have hul : un <= 6 := by rw [<- hun, legsOf_len, List.length_map, List.length_reverse]; omega
    have rB := rB.ext y10; have bB := bB.ext y10; have rL := rL.ext y10; have rX := rX.ext y10; have bX := bX.ext y10
    have x := x.trans y10
    refine ⟨_, _, _, _, rfl, _, _, _, bX.loadA0 (by kernel_rfl), ?_⟩
    refine Ret.at (impl_PostLegs_c rX (bkR_code _) (by omega) E2.bk.bulk rU (bkR_code _) (by omega) (legs_bulk E2.bk E2.prs) (ht.ext x)) ?_
    rintro v w11 ⟨zp, zn, zc, zf, hv, oZ, _, _, y11⟩
    rw [d1, decide_eq_true rfl] at hv
    rw [d2] at oZ
    subst hv
    have rZ := oZ.rows
    have rB := rB.ext y11; have bB := bB.ext y11; have rL := rL.ext y11; have rX := rX.ext y11; have bX := bX.ext y11
    have x := x.trans y11
    refine ⟨_, _, _, _, rfl, ?_⟩
    intro r2 w12 hn12
    obtain ⟨w13, st13, bZ, y13⟩ := hn12.fill (P := P) (t := T_impl_Book) (xs := [.slice zp zn zc]) (by simp [Value.oneCell']) (by kernel_rfl) rfl
    have rB := rB.ext y13; have bB := bB.ext y13; have rL := rL.ext y13; have rX := rX.ext y13; have bX := bX.ext y13; have rZ := rZ.ext y13
    have x := x.trans y13
    refine ⟨w13, st13, _, _, _, bB.loadA0 (by kernel_rfl), ?_⟩
    refine Ret.at (impl_BookCurs_c rB (bkR_code b) (by omega) hD.bk.bulk) ?_
    rintro v w14 ⟨cp, cn, cc, cf, rfl, oC, _, _, y14⟩
    have rB := rB.ext y14; have bB := bB.ext y14; have rL := rL.ext y14; have rX := rX.ext y14; have bX := bX.ext y14; have rZ := rZ.ext y14; have bZ := bZ.ext y14
    have x := x.trans y14
    have rC := oC.rows
    have hcn : (bookCursL (b.map bkR)).length = cn := by have := rC.1; simpa [bookCurs, strRows] using this
    have hcl : cn <= 5 := by have := bookCurs_len (b.map bkR); rw [List.length_map] at this; omega
    refine ⟨_, _, _, rfl, fun i W => ∃ j : Nat, i = j /\ j <= cn /\ Ext w14 W, fun i _ => cn - i.toNat, ⟨0, rfl, by omega, Ext.refl _⟩, ?_⟩
    rintro junk2 W2 i2 ⟨j2, rfl, hj2, hX2⟩
    refine ifD (fun hlt => ?_) (fun hge2 => ?_)
    · have D := Ext.drew W2
      have Z := hX2.trans D
      have hjl : j2 < (bookCursL (b.map bkR)).length := by omega
      obtain ⟨bb, o, hpp, hss⟩ := rC.2.2.2 (by omega)
      obtain ⟨cs, hk, hr, hsg⟩ := hss j2 [.str (bookCursL (b.map bkR))[j2]] (by unfold bookCurs strRows; rw [List.getElem?_map, List.getElem?_eq_getElem hjl]; rfl)
      obtain ⟨cur, hcur⟩ : ∃ cur, (bookCursL (b.map bkR))[j2] = cur := ⟨_, rfl⟩
      rw [hcur] at hr
      have hcs : cs = [.string cur] := by
        match cs, hr with
        | [x], hr => rw [show x = .string cur from hr.1]
      subst hcs
      subst hpp
      have hbd : (sumI (unitsOf cur) (b.map bkR)).natAbs <= 5 * 7000 := by
        refine Nat.le_trans (sumI_bound (M := 7000) _ fun y hy => ?_) (by rw [List.length_map]; omega)
        obtain ⟨x, hx, rfl⟩ := List.mem_map.1 hy
        rw [unitsOf_bk]
        split
        · exact (hD.all x hx).2.2
        · decide
      have hdl : (digs (sumI (unitsOf cur) (b.map bkR)).natAbs).length <= 1 := digs_len 1 (by omega)
      refine ⟨⟨by omega, by omega⟩, cur, (hsg.ext hX2).loadAt 0 (by rw [addr_add, Int.toNat_natCast]; rfl) (by kernel_rfl) rfl, _, _, _, fun W' hW => (bB.ext (Z.trans hW)).loadA0 (by kernel_rfl), ?_⟩
      refine Ret.at (impl_BookSum_c (rB.ext Z) (bkR_code b) (by omega) hD.bk.bulk cur (ht.ext (x.trans Z))) ?_
      rintro v3 w15 ⟨vs3, f3, rfl, o3, _, c3', _, y15⟩
      have r3 := o3.reps
      rw [hD.bk.sum] at r3
      have r3c := r3
      obtain ⟨u0, up', un', uc', uz, rfl, _, _⟩ := open_Signed r3 (enc_code _)
      have Z3 := Z.trans y15
      refine ⟨_, _, _, _, rfl, y15, _, _, _, fun W' hW => (bX.ext (Z.trans hW)).loadA0 (by kernel_rfl), ?_⟩
      refine Ret.at (impl_BookSum_c (rX.ext Z3) (bkR_code _) (by omega) E2.bk.bulk cur (ht.ext (x.trans Z3))) ?_
      rintro v4 w16 ⟨vs4, f4, rfl, o4, _, c4', _, y16⟩
      have r4 := o4.reps
      rw [E.sums, hD.bk.sum] at r4
      have r4c := r4
      obtain ⟨t0, tp, tn, tc, tz, rfl, _, _⟩ := open_Signed r4 (enc_code _)
      refine ⟨_, _, _, _, rfl, ?_⟩
      refine Ret.at (impl_IntCmp_s (r3c.ext y16) r4c (enc_small (by omega)) (by omega)) ?_
      rintro v5 w17 ⟨rfl, y17⟩
      exact ⟨_, rfl, fun e => absurd e (by simp), fun _ => exW ⟨by omega, by omega⟩ ⟨⟨j2 + 1, by omega, by omega, Z.trans (y15.trans (y16.trans y17))⟩, by show cn - ((j2 : Int) + 1).toNat < cn - (j2 : Int).toNat; omega⟩⟩
    · have rB := rB.ext hX2; have bB := bB.ext hX2; have rL := rL.ext hX2; have rX := rX.ext hX2; have bX := bX.ext hX2; have rZ := rZ.ext hX2; have bZ := bZ.ext hX2
      have x := x.trans hX2
      refine ⟨fun _ => ?_, fun e => absurd e (by simp)⟩
      unfold laws_FnEntry_s_j1
      refine ⟨fun _ => ?_, fun e => absurd e (by simp)⟩
      refine ⟨_, _, _, bZ.loadA0 (by kernel_rfl), _, _, _, bB.loadA0 (by kernel_rfl), ?_⟩
      refine Ret.at (impl_BookSame_c rZ (bkR_code _) rB (bkR_code _)) ?_
      rintro v3 w15 ⟨hv, y15⟩
      rw [decide_eq_true rfl] at hv
      subst hv
      have rL := rL.ext y15
      have x := x.trans y15
      refine ⟨_, rfl, ?_⟩
      unfold laws_FnEntry_s_j2
      refine ⟨fun _ => ?_, fun e => absurd e (by simp)⟩
      refine Ret.at (impl_Balanced_c rL (bkR_code _) (by omega) kb (ht.ext x)) ?_
      rintro v3 w16 ⟨hv, y16⟩
      rw [legs_bal E.bk E.prs E.ne E.len] at hv
      subst hv
      have rL := rL.ext y16
      have x := x.trans y16
      refine ⟨_, rfl, ?_⟩
      unfold laws_FnEntry_s_j3
      refine ⟨fun _ => ?_, fun e => absurd e (by simp)⟩
      refine Ret.at (impl_LegSums_c rL (bkR_code _) (by omega) kb (ht.ext x)) ?_
      rintro v3 w17 ⟨sp, sn, scc, sf, rfl, oS, _, _, y17⟩
      rw [legs_sums] at oS
      have hsn : 0 = sn := oS.rows.1
      subst hsn
      have rL := rL.ext y17
      have x := x.trans y17
      refine ⟨_, _, _, rfl, ?_⟩
      unfold laws_FnEntry_s_j4
      refine ⟨fun _ => ?_, fun e => absurd e (by simp)⟩
      refine Ret.at (impl_LegsText_c rL (bkR_code _) (by omega) kb (ht.ext x) (hp.ext x)) ?_
      rintro v3 w18 ⟨hv, y18⟩
      subst hv
      refine ⟨_, rfl, ?_, x.trans y18⟩
      rw [decide_eq_true (legs_text hQne)]
end Go.Proofs.YtbgokfhcgcoipaaGreatDoor
namespace Go.Proofs.YtbgokfhcgcoipaaGreatDoor
open Go Go.Proofs.YtbgokfhcgcoipaaGreatDoor.Sx
def curData {H : Type} (r : CurRow) : DataW H := .agg [.lit (.string r.1.data.toList), .lit (.string r.2.1.data.toList), .lit (.int .i64 r.2.2.1), .lit (.int .i64 r.2.2.2)]
theorem bytes_eq {a b : ByteArray} (h : a.data.toList = b.data.toList) : a = b := by
  obtain ⟨⟨x⟩⟩ := a; obtain ⟨⟨y⟩⟩ := b
  simp at h; subst h; rfl
set_option maxRecDepth 100000 in
theorem cur_cells {H : Type} {enc : TypeId × Value -> H} {w : World} {sp : Nat -> Bool} {hd : Bool} {fuel : Nat} {cs : List Value} {r : CurRow} {p : List MemPlace}
    (h : DataW.trod enc P w 0 sp hd fuel T_impl_currency cs = some (curData r, p)) : cs = curCells r := by
  obtain ⟨fs, hu, hsz, ⟨f0, e0, t0, o0⟩, ⟨f1, e1, t1, o1⟩, ⟨f2, e2, t2, o2⟩, ⟨f3, e3, t3, o3⟩⟩ := cur_fields
  have hu : P.underlying T_impl_currency = some (.struct fs) := hu
  have hs : P.underlying T_string = some .string := by kernel_rfl
  have hi : P.underlying T_int = some (.int .i64) := by kernel_rfl
  have cS : P.cellsOf T_string = 1 := by kernel_rfl
  have cI : P.cellsOf T_int = 1 := by kernel_rfl
  have cC : P.cellsOf T_impl_currency = 4 := by kernel_rfl
  obtain ⟨xs, n, rfl, hx, hlen, hxl, hf⟩ := DataW.trod_struct hu h
  rw [cC] at hlen
  rw [hsz] at hxl
  have h0 := hf 0 f0 e0; have h1 := hf 1 f1 e1; have h2 := hf 2 f2 e2; have h3 := hf 3 f3 e3
  rw [t0, o0, cS] at h0; rw [t1, o1, cS] at h1; rw [t2, o2, cI] at h2; rw [t3, o3, cI] at h3
  match cs, hlen, xs, hxl, hx, h0, h1, h2, h3 with
  | [c0, c1, c2, c3], _, [x0, x1, x2, x3], _, hx, h0, h1, h2, h3 =>
    simp only [List.drop_succ_cons, List.drop_zero, List.take_succ_cons, List.take_zero, List.getElem?_cons_zero, List.getElem?_cons_succ] at h0 h1 h2 h3
    obtain ⟨s0, a0, b0, _⟩ := DataW.trod_string hs h0
    obtain ⟨s1, a1, b1, _⟩ := DataW.trod_string hs h1
    obtain ⟨z2, a2, b2, _⟩ := DataW.trod_int hi h2
    obtain ⟨z3, a3, b3, _⟩ := DataW.trod_int hi h3
    simp only [Prod.mk.injEq, curData, DataW.agg.injEq, List.map_cons, List.map_nil, List.cons.injEq, b0, b1, b2, b3, DataW.lit.injEq, Lit.string.injEq, Lit.int.injEq, true_and, and_true] at hx
    simp only [List.cons.injEq, and_true] at a0 a1 a2 a3
    obtain ⟨⟨q0, q1, q2, q3⟩, _⟩ := hx
    rw [a0, a1, a2, a3, <- bytes_eq q0, <- bytes_eq q1, <- q2, <- q3]
    rfl
theorem flat_of_rows : ∀ (l : List CurRow) (cs : List Value), cs.length = l.length * 4 -> (∀ i (hi : i < l.length), (cs.drop (i * 4)).take 4 = curCells (l[i]'hi)) -> cs = l.flatMap curCells
  | [], cs, h, _ => by simpa using h
  | r :: l, cs, h, hr => by
    have h0 := hr 0 (by simp)
    simp only [Nat.zero_mul, List.drop_zero, List.getElem_cons_zero] at h0
    rw [List.flatMap_cons, <- h0, <- flat_of_rows l (cs.drop 4) (by simp at h ⊢; omega) (fun i hi => by
      have := hr (i + 1) (by simpa using hi)
      rw [List.drop_drop, show 4 + i * 4 = (i + 1) * 4 by omega]
      simpa using this), List.take_append_drop]
def curVar : String := "loop.example/g00793/impl.currencies"
set_option maxRecDepth 100000 in
theorem tab_of_head {W : World} {rest : List (String × DataW Unit)} (h : laidMet P ((curVar, Rows.laid_loop_example_g00793_impl_currencies) :: rest) W) : Tab W := by
  obtain ⟨ps, ⟨g, t, cs, fuel, p, q, hg, ht, hvar, hd, _, _⟩, _⟩ := h
  have hg0 : P.globalNamed curVar = some 0 := by kernel_rfl
  have ht0 : (P.globals[0]?).map (·.type) = some T_20_impl_currency := by kernel_rfl
  obtain rfl := Option.some.inj (hg0.symm.trans hg)
  obtain rfl := Option.some.inj (ht0.symm.trans ht)
  have hu : P.underlying T_20_impl_currency = some (.array 20 T_impl_currency) := und_T_20_impl_currency
  have cC : P.cellsOf T_impl_currency = 4 := by kernel_rfl
  have cA : P.cellsOf T_20_impl_currency = 80 := by kernel_rfl
  obtain ⟨xs, m, rfl, hx, hlen, hxl, hf⟩ := DataW.trod_array hu hd
  rw [cA] at hlen
  have hdat : (Rows.laid_loop_example_g00793_impl_currencies : DataW Unit) = .agg (implTab.map curData) := by rfl
  rw [hdat] at hx
  simp only [Prod.mk.injEq, DataW.agg.injEq] at hx
  have hl := impl_length
  have hcs : cs.toList = implTab.flatMap curCells := by
    refine flat_of_rows implTab _ (by omega) fun i hi => ?_
    have h1 := hf i (by omega)
    rw [cC] at h1
    have h2 : (xs.map (·.1))[i]? = some (curData (implTab[i]'hi)) := by rw [<- hx.1]; simp [hi]
    rw [List.getElem?_map] at h2
    cases h3 : xs[i]? with
    | none => rw [h3] at h2; cases h2
    | some x =>
      rw [h3] at h1 h2
      simp only [Option.map_some, Option.some.injEq] at h2
      obtain ⟨d, pp⟩ := x
      simp only at h2
      subst h2
      exact cur_cells h1
  intro i v hv
  have := World.var?_cell hg0 hvar i
  rw [Nat.zero_add, this, <- hv, <- hcs]
  simp
theorem trodVars_one {H : Type} {enc : TypeId × Value -> H} {w : World} {sp : Nat -> Bool} {n : String} {gs : List (DataW H)} {ps : List MemPlace} (h : DataW.TrodVars enc P w sp [n] gs ps) : ∃ g, gs = [g] := by
  match gs, h with
  | [g], _ => exact ⟨g, rfl⟩
  | g :: g2 :: r, h =>
    obtain ⟨_, _, _, _, _, _, _, _, _, _, h2, _⟩ := h
    exact h2.elim
end Go.Proofs.YtbgokfhcgcoipaaGreatDoor
namespace Go.Proofs.YtbgokfhcgcoipaaGreatDoor
open Go Go.Proofs.YtbgokfhcgcoipaaGreatDoor.Sx
theorem laidMet_tail {W : World} {x : String × DataW Unit} {rest : List (String × DataW Unit)} (h : laidMet P (x :: rest) W) : laidMet P rest W := by
  obtain ⟨ps, hv, hn, hr⟩ := h
  obtain ⟨n, d⟩ := x
  obtain ⟨g, t, cs, fuel, p, q, _, _, _, _, hrest, rfl⟩ := hv
  exact ⟨q, hrest, (List.nodup_append.1 hn).2.1, fun b off hm => hr b off (List.mem_append_right _ hm)⟩
theorem pow_data : (Rows.laid_internal_strconv_uint64pow10 : DataW Unit) = Lib.tabData .u64 Lib.pow10Tab := by kernel_rfl
set_option maxRecDepth 100000 in
theorem tabP_of_head {W : World} {rest : List (String × DataW Unit)} (h : laidMet P (("internal/strconv.uint64pow10", Rows.laid_internal_strconv_uint64pow10) :: rest) W) : TabP W := by
  rw [pow_data] at h
  exact Lib.tabIs_of_head (g := G_pow) (t := TA_pow) (e := TE_pow) (n := 20) (by kernel_rfl) (by kernel_rfl) und_A_pow und_E_pow (by kernel_rfl) (by kernel_rfl) h
def layAt (cs : List Value) : Obj -> Obj
  | .cells _ t frozen => .cells ⟨cs⟩ t frozen
  | o => o
end Go.Proofs.YtbgokfhcgcoipaaGreatDoor
namespace Go.Proofs.YtbgokfhcgcoipaaGreatDoor
open Go Go.Proofs.YtbgokfhcgcoipaaGreatDoor.Sx
theorem tabs_of_laid {W : World} (h : laidMetH P [("math/bits.deBruijn32tab", Rows.laid_math_bits_deBruijn32tab), ("math/bits.deBruijn64tab", Rows.laid_math_bits_deBruijn64tab), ("internal/strconv.uint64pow10", Rows.laid_internal_strconv_uint64pow10), (curVar, Rows.laid_loop_example_g00793_impl_currencies)] W) : Tab W /\ TabP W := by
  have h : laidMet P [("math/bits.deBruijn32tab", Rows.laid_math_bits_deBruijn32tab), ("math/bits.deBruijn64tab", Rows.laid_math_bits_deBruijn64tab), ("internal/strconv.uint64pow10", Rows.laid_internal_strconv_uint64pow10), (curVar, Rows.laid_loop_example_g00793_impl_currencies)] W := h
  have h2 := laidMet_tail (laidMet_tail h)
  exact ⟨tab_of_head (laidMet_tail h2), tabP_of_head h2⟩
noncomputable def laidWorldX (os : Os) (args : Array Value) : World :=
 { World.holding P os ⟨#[], args, []⟩ with heap := (((((World.holding P os ⟨#[], args, []⟩).heap.modify G_cur (layAt (implTab.flatMap curCells))).modify G_pow (layAt (L_pow.map (Value.int .u64)))).modify G_d32 (layAt (L_d32.map (Value.int .u8)))).modify G_d64 (layAt (L_d64.map (Value.int .u8)))) }
end Go.Proofs.YtbgokfhcgcoipaaGreatDoor
