/-
  Parts of the proof of restsAdd_holds: CRestAddL, CRowsW, CDecMul, CDecLow, CRatA, CRatB, CRatC, CRestAdS, SxMap, CMapO, Lay, SxIns, CSort, CCurs, CPushF, CRestAdI, CRestsAdd, SxFlS, DM, WRestsAdd, SxRow, SxOpen, CTab.
  Conditions: none.
-/
import Derived.Laws.CopyRow
import Derived.MapKept
import Derived.Shelf.Lays
import Derived.Laws.Externs
import Derived.Lib.AppendZerosOnto
import Derived.Lib.Overlaps
import Derived.Shelf.Sort.Plain
import Derived.Shelf.Slices.CompactS
import Derived.Sort.OwnSorted
import Derived.ProofKit
import Derived.Deep.Slices
import Derived.Test.YtfehpaekbbmkcaaGreatDoorRows
import Derived.OpenShut
import Derived.Lib.LaidTab
import Derived.Test.YtfehpaekbbmkcaaGreatDoorRs4

namespace Go.Proofs.YtfehpaekbbmkcaaGreatDoor
open Go Go.Proofs.YtfehpaekbbmkcaaGreatDoor.Sx
set_option linter.unusedVariables false
set_option linter.unusedSimpArgs false
def ratSum (dx dy : List D0) : List D0 := redR (ratNum dx * ratDen dy + ratNum dy * ratDen dx) (ratDen dx * ratDen dy)
def ratSumOk (dx dy : List D0) : Bool := redOk (ratNum dx * ratDen dy + ratNum dy * ratDen dx) (ratDen dx * ratDen dy)
/-- the row of a currency put in its place -/
def putGo (cur : ByteArray) (sum : List D0) (nz : Bool) : Bool → List (List D0) → List (List D0)
  | done, [] => if !done && nz then [.str cur :: sum] else []
  | done, x :: l => if rowStr x = cur then putGo cur sum nz done l else if !done && !(bLess (rowStr x) cur || decide (rowStr x = cur)) && nz then (.str cur :: sum) :: x :: putGo cur sum nz true l else x :: putGo cur sum nz done l
def restAddOk (l : List (List D0)) (cur : ByteArray) (r : List D0) : Bool := restsOk l && (ratOk r && (curKnown cur && ratSumOk (restOf l cur) r))
def nzB (d : List D0) : Bool := !(decide (rsign d = 0))
def restPut (l : List (List D0)) (cur : ByteArray) (r : List D0) : List (List D0) := putGo cur (ratSum (restOf l cur) r) (nzB (ratSum (restOf l cur) r)) false l
def restAdd (l : List (List D0)) (cur : ByteArray) (r : List D0) : List (List D0) := if restAddOk l cur r then restPut l cur r else []
def rLess (x y : List D0) : Prop := bLess (rowStr x) (rowStr y) = true
theorem bName_eq (x : List D0) : bName x = rowStr x := by
  unfold bName rowStr
  rfl
theorem restsOk_adj {l : List (List D0)} (h : restsOk l = true) {i : Nat} (hi : i + 1 < l.length) : bLess (rowStr (l[i]'(by omega))) (rowStr (l[i + 1]'hi)) = true := by
  unfold restsOk at h
  rw [List.all_eq_true] at h
  have := h (i + 1) (List.mem_range.2 hi)
  unfold restRowOk at this
  rw [getD_row hi, Bool.and_eq_true] at this
  have h2 := this.2
  rw [decide_eq_true (by omega : 0 < i + 1), Bool.true_and, Bool.not_not, show i + 1 - 1 = i by omega, getD_row (by omega : i < l.length), bName_eq, bName_eq] at h2
  exact h2
theorem restsOk_sorted {l : List (List D0)} (h : restsOk l = true) : l.Pairwise rLess := by
  rw [List.pairwise_iff_getElem]
  have key : ∀ (d i : Nat) (hi : i + d + 1 < l.length), bLess (rowStr (l[i]'(by omega))) (rowStr (l[i + d + 1]'hi)) = true := by
    intro d
    induction d with
    | zero => intro i hi; exact restsOk_adj h hi
    | succ d ih =>
      intro i hi
      exact bLess_trans (ih i (by omega)) (restsOk_adj h (i := i + d + 1) (by omega))
  intro i j hi hj hij
  obtain ⟨d, rfl⟩ : ∃ d, j = i + d + 1 := ⟨j - i - 1, by omega⟩
  exact key d i hj
theorem putGo_code {cur : ByteArray} {sum : List D0} {nz : Bool} (hs : sum.map D0.code = [.bool, .ints, .ints]) : ∀ {done : Bool} {l : List (List D0)}, (∀ x ∈ l, x.map D0.code = [.str, .bool, .ints, .ints]) → ∀ x ∈ putGo cur sum nz done l, x.map D0.code = [.str, .bool, .ints, .ints]
  | done, [], _, x, hx => by
    unfold putGo at hx
    split at hx
    · simp only [List.mem_singleton] at hx; subst hx; rw [List.map_cons, hs]; rfl
    · cases hx
  | done, y :: l, h, x, hx => by
    have hl : ∀ x ∈ l, x.map D0.code = [.str, .bool, .ints, .ints] := fun x hx => h x (.tail _ hx)
    unfold putGo at hx
    split at hx
    · exact putGo_code hs hl x hx
    · split at hx
      · rcases List.mem_cons.1 hx with e | hx
        · subst e; rw [List.map_cons, hs]; rfl
        · rcases List.mem_cons.1 hx with e | hx
          · subst e; exact h _ (.head _)
          · exact putGo_code hs hl x hx
      · rcases List.mem_cons.1 hx with e | hx
        · subst e; exact h _ (.head _)
        · exact putGo_code hs hl x hx
theorem putGo_mem {cur : ByteArray} {sum : List D0} {nz : Bool} : ∀ {done : Bool} {l : List (List D0)} (x : List D0), x ∈ putGo cur sum nz done l ↔ (x ∈ l ∧ rowStr x ≠ cur) ∨ (done = false ∧ nz = true ∧ x = .str cur :: sum)
  | done, [], x => by
    unfold putGo
    cases done <;> cases nz <;> simp
  | done, y :: l, x => by
    unfold putGo
    by_cases hy : rowStr y = cur
    · rw [if_pos hy, putGo_mem]
      constructor
      · rintro (⟨h, g⟩ | h)
        · exact .inl ⟨.tail _ h, g⟩
        · exact .inr h
      · rintro (⟨h, g⟩ | h)
        · rcases List.mem_cons.1 h with e | h
          · subst e; exact absurd hy g
          · exact .inl ⟨h, g⟩
        · exact .inr h
    · rw [if_neg hy]
      split
      · rename_i hc
        simp only [Bool.and_eq_true, Bool.not_eq_true'] at hc
        rw [List.mem_cons, List.mem_cons, putGo_mem, List.mem_cons]
        constructor
        · rintro (e | e | ⟨h, g⟩ | h)
          · exact .inr ⟨hc.1.1, hc.2, e⟩
          · exact .inl ⟨.inl e, by rw [e]; exact hy⟩
          · exact .inl ⟨.inr h, g⟩
          · exact absurd h.1 (by simp)
        · rintro (⟨e | h, g⟩ | h)
          · exact .inr (.inl e)
          · exact .inr (.inr (.inl ⟨h, g⟩))
          · exact .inl h.2.2
      · rw [List.mem_cons, putGo_mem, List.mem_cons]
        constructor
        · rintro (e | ⟨h, g⟩ | h)
          · exact .inl ⟨.inl e, by rw [e]; exact hy⟩
          · exact .inl ⟨.inr h, g⟩
          · exact .inr h
        · rintro (⟨e | h, g⟩ | h)
          · exact .inl e
          · exact .inr (.inl ⟨h, g⟩)
          · exact .inr (.inr h)
theorem putGo_sorted {cur : ByteArray} {sum : List D0} {nz : Bool} : ∀ {done : Bool} {l : List (List D0)}, l.Pairwise rLess → (putGo cur sum nz done l).Pairwise rLess
  | done, [], _ => by unfold putGo; split <;> simp
  | done, y :: l, h => by
    obtain ⟨h1, h2⟩ := List.pairwise_cons.1 h
    unfold putGo
    split
    · exact putGo_sorted h2
    · rename_i hy
      split
      · rename_i hc
        simp only [Bool.and_eq_true, Bool.not_eq_true', Bool.or_eq_false_iff] at hc
        have hlt : bLess cur (rowStr y) = true := by
          cases hq : bLess cur (rowStr y) with
          | true => rfl
          | false => exact absurd (bLess_tri hc.1.2.1 hq) hy
        refine List.pairwise_cons.2 ⟨fun x hx => ?_, List.pairwise_cons.2 ⟨fun x hx => ?_, putGo_sorted h2⟩⟩
        · rcases List.mem_cons.1 hx with e | hx
          · subst e; exact hlt
          · rcases (putGo_mem x).1 hx with ⟨hx, _⟩ | hx
            · exact bLess_trans hlt (h1 x hx)
            · exact absurd hx.1 (by simp)
        · rcases (putGo_mem x).1 hx with ⟨hx, _⟩ | hx
          · exact h1 x hx
          · exact absurd hx.1 (by simp)
      · rename_i hc
        refine List.pairwise_cons.2 ⟨fun x hx => ?_, putGo_sorted h2⟩
        rcases (putGo_mem x).1 hx with ⟨hx, _⟩ | ⟨hd, hnz, e⟩
        · exact h1 x hx
        · subst e
          rw [hd, hnz] at hc
          simp only [Bool.not_false, Bool.true_and, Bool.and_true, Bool.not_eq_true', Bool.or_eq_false_iff, decide_eq_false_iff_not] at hc
          show bLess (rowStr y) cur = true
          cases hq : bLess (rowStr y) cur with
          | true => rfl
          | false => exact absurd ⟨hq, hy⟩ hc
/-- the codes that are known, in order -/
def codesL : List ByteArray := sortB (implTab.map (·.1))
theorem implTab_nodup : (implTab.map (·.1)).Nodup := by decide +kernel
theorem codesL_sorted : codesL.Pairwise fun x y => bLess x y = true := sorted_strict (sortB_sorted _) (sortB_nodup implTab_nodup)
theorem codesL_len : codesL.length = 20 := by unfold codesL; rw [sortB_len]; rfl
theorem curIn_mem (c : ByteArray) : curKnown c = true ↔ c ∈ codesL := by
  unfold codesL curKnown curIn
  rw [sortB_mem, List.any_eq_true, List.mem_map]
  simp
/-- what a map of codes holds, by the codes in order -/
def pickL (f : ByteArray → Option (List D0)) (l : List ByteArray) : List (List D0) := l.filterMap fun c => (f c).map fun x => .str c :: x
theorem pickL_mem {f : ByteArray → Option (List D0)} {l : List ByteArray} {y : List D0} : y ∈ pickL f l ↔ ∃ c ∈ l, ∃ x, f c = some x ∧ y = .str c :: x := by
  unfold pickL
  rw [List.mem_filterMap]
  constructor
  · rintro ⟨c, hc, he⟩
    cases hf : f c with
    | none => rw [hf] at he; cases he
    | some x => rw [hf] at he; simp at he; exact ⟨c, hc, x, hf, he.symm⟩
  · rintro ⟨c, hc, x, hf, rfl⟩
    exact ⟨c, hc, by rw [hf]; rfl⟩
theorem pickL_sorted {f : ByteArray → Option (List D0)} : ∀ {l : List ByteArray}, (l.Pairwise fun x y => bLess x y = true) → (pickL f l).Pairwise rLess
  | [], _ => List.Pairwise.nil
  | c :: l, h => by
    obtain ⟨h1, h2⟩ := List.pairwise_cons.1 h
    unfold pickL
    rw [List.filterMap_cons]
    cases hf : f c with
    | none => exact pickL_sorted h2
    | some x =>
      refine List.pairwise_cons.2 ⟨fun y hy => ?_, pickL_sorted h2⟩
      obtain ⟨d, hd, z, _, rfl⟩ := pickL_mem.1 (show y ∈ pickL f l from hy)
      exact h1 d hd
theorem pickL_snoc {f : ByteArray → Option (List D0)} {l : List ByteArray} {j : Nat} (hj : j < l.length) : pickL f (l.take (j + 1)) = pickL f (l.take j) ++ (match f (l[j]'hj) with | some x => [.str (l[j]'hj) :: x] | none => []) := by
  rw [List.take_succ_eq_append_getElem hj]
  unfold pickL
  rw [List.filterMap_append]
  congr 1
  cases h : f (l[j]'hj) <;> simp [h]
/-- the row of a code -/
def findR : List (List D0) → ByteArray → Option (List D0)
  | [], _ => none
  | x :: l, c => if rowStr x = c then some (x.drop 1) else findR l c
theorem findR_mem {c : ByteArray} {x : List D0} : ∀ {l : List (List D0)}, (∀ y ∈ l, y.map D0.code = [.str, .bool, .ints, .ints]) → findR l c = some x → .str c :: x ∈ l
  | [], _, h => by cases h
  | y :: l, hc, h => by
    unfold findR at h
    split at h
    · rename_i he
      obtain ⟨a, es, rfl, _⟩ := code_str (hc y (.head _))
      have := Option.some.inj h
      subst this
      have : a = c := he
      subst this
      exact .head _
    · exact .tail _ (findR_mem (fun z hz => hc z (.tail _ hz)) h)
theorem findR_of {c : ByteArray} {x : List D0} : ∀ {l : List (List D0)}, l.Pairwise rLess → .str c :: x ∈ l → findR l c = some x
  | [], _, h => by cases h
  | y :: l, hs, h => by
    obtain ⟨h1, h2⟩ := List.pairwise_cons.1 hs
    unfold findR
    rcases List.mem_cons.1 h with e | h
    · subst e; rw [if_pos (show rowStr (.str c :: x) = c from rfl)]; rfl
    · rw [if_neg, findR_of h2 h]
      intro e
      have : bLess (rowStr y) c = true := h1 _ h
      rw [e, bLess_irrefl] at this; cases this
theorem findR_snoc {l : List (List D0)} {c : ByteArray} {j : Nat} (hj : j < l.length) (hs : l.Pairwise rLess) : findR (l.take (j + 1)) c = if c = rowStr (l[j]'hj) then some ((l[j]'hj).drop 1) else findR (l.take j) c := by
  rw [List.take_succ_eq_append_getElem hj]
  have gen : ∀ (a : List (List D0)) (y : List D0), (∀ x ∈ a, bLess (rowStr x) (rowStr y) = true) → findR (a ++ [y]) c = if c = rowStr y then some (y.drop 1) else findR a c := by
    intro a y
    induction a with
    | nil =>
      intro _
      simp only [List.nil_append, findR]
      by_cases h : c = rowStr y
      · rw [if_pos h.symm, if_pos h]
      · rw [if_neg (fun e => h e.symm), if_neg h]
    | cons x a ih =>
      intro h
      rw [List.cons_append, findR, findR, ih fun z hz => h z (.tail _ hz)]
      by_cases hx : rowStr x = c
      · rw [if_pos hx, if_pos hx, if_neg]
        rintro rfl
        have := h x (.head _)
        rw [hx, bLess_irrefl] at this; cases this
      · rw [if_neg hx, if_neg hx]
  refine gen _ _ fun x hx => ?_
  obtain ⟨i, hi, rfl⟩ := List.getElem_of_mem hx
  have hi' : i < j := by have := hi; rw [List.length_take] at this; omega
  rw [List.getElem_take]
  exact List.pairwise_iff_getElem.1 hs i j (by omega) hj hi'
/-- the two ways give one list -/
theorem put_pick {l : List (List D0)} {cur : ByteArray} {sum : List D0} {nz : Bool} (hc : ∀ x ∈ l, x.map D0.code = [.str, .bool, .ints, .ints]) (hok : restsOk l = true) (hk : curKnown cur = true) :
    pickL (fun c => if c = cur then (if nz then some sum else none) else findR l c) codesL = putGo cur sum nz false l := by
  have hs := restsOk_sorted hok
  refine sorted_ext (r := rLess) (fun a h => by unfold rLess at h; rw [bLess_irrefl] at h; cases h) (fun a b c h g => bLess_trans h g) (pickL_sorted codesL_sorted) (putGo_sorted hs) fun y => ?_
  rw [pickL_mem, putGo_mem]
  constructor
  · rintro ⟨c, hcm, x, hf, rfl⟩
    by_cases e : c = cur
    · subst e
      rw [if_pos rfl] at hf
      cases nz with
      | false => cases hf
      | true => rw [if_pos rfl] at hf; exact .inr ⟨rfl, rfl, by rw [Option.some.inj hf]⟩
    · rw [if_neg e] at hf
      exact .inl ⟨findR_mem hc hf, e⟩
  · rintro (⟨hy, hne⟩ | ⟨_, hnz, rfl⟩)
    · obtain ⟨i, hi, rfl⟩ := List.getElem_of_mem hy
      have hrow := restsOk_row hok hi
      obtain ⟨a, es, he, _⟩ := code_str (hc _ hy)
      have hcode := hc _ hy
      rw [he] at hne hy hrow hcode ⊢
      refine ⟨a, (curIn_mem a).1 ?_, es, ?_, rfl⟩
      · unfold restOk at hrow
        split at hrow
        · rename_i heq
          simp only [List.cons.injEq, D0.str.injEq] at heq
          simp only [Bool.and_eq_true] at hrow
          rw [heq.1]; exact hrow.1.1
        · cases hrow
      · rw [if_neg (show ¬ a = cur from hne)]; exact findR_of hs hy
    · exact ⟨cur, (curIn_mem cur).1 hk, sum, by rw [if_pos rfl, hnz]; rfl, rfl⟩
theorem restOf_ok {cur : ByteArray} : ∀ {l : List (List D0)}, (∀ x ∈ l, restOk x = true) → ratOk (restOf l cur) = true
  | [], _ => zero_ok
  | x :: l, h => by
    unfold restOf
    split
    · have := h x (.head _)
      unfold restOk at this
      split at this
      · simp only [Bool.and_eq_true] at this; exact this.1.2
      · cases this
    · exact restOf_ok fun y hy => h y (.tail _ hy)
theorem restsOk_rows {l : List (List D0)} (h : restsOk l = true) : ∀ x ∈ l, restOk x = true := fun x hx => by
  obtain ⟨i, hi, rfl⟩ := List.getElem_of_mem hx
  exact restsOk_row h hi
theorem restAdd_code {l : List (List D0)} {cur : ByteArray} {r : List D0} (hc : ∀ x ∈ l, x.map D0.code = [.str, .bool, .ints, .ints]) : ∀ x ∈ restAdd l cur r, x.map D0.code = [.str, .bool, .ints, .ints] := by
  unfold restAdd
  split
  · exact putGo_code (redR_code _ _) hc
  · intro x hx; cases hx
theorem rat_cnt {d : List D0} (h : ratOk d = true) : cnts d ≤ 90 := by
  obtain ⟨e, _, _, h1, h2⟩ := ratOk_enc h
  rw [e]
  simp only [rmk, cnts, D0.cnt]
  omega
end Go.Proofs.YtfehpaekbbmkcaaGreatDoor

namespace Go.Proofs.YtfehpaekbbmkcaaGreatDoor
open Go Go.Proofs.YtfehpaekbbmkcaaGreatDoor.Sx
set_option linter.unusedVariables false
set_option linter.unusedSimpArgs false
theorem Sx.AllO.getO {w : World} {B k : Nat} : ∀ {css : List (List Value)} {l : List (List D0)} {fs : List (List Nat)}, AllO w B k css l fs → ∀ i x, l[i]? = some x → ∃ cs f, css[i]? = some cs ∧ fs[i]? = some f ∧ cs.length = k ∧ Owns w B cs x f ∧ (css.flatten.drop (i * k)).take k = cs
  | [], [], [], _, i, x, h => by simp at h
  | cs :: css, y :: l, f :: fs, h, 0, x, hx => by
    simp only [List.getElem?_cons_zero, Option.some.injEq] at hx
    subst hx
    refine ⟨cs, f, rfl, rfl, h.1, h.2.1, ?_⟩
    rw [List.flatten_cons, Nat.zero_mul, List.drop_zero, List.take_left' h.1]
  | cs :: css, y :: l, f :: fs, h, i + 1, x, hx => by
    obtain ⟨cs', f', h1, h2, h3, h4, h5⟩ := AllO.getO h.2.2 i x (by simpa using hx)
    refine ⟨cs', f', by simpa using h1, by simpa using h2, h3, h4, ?_⟩
    rw [List.flatten_cons, Nat.add_mul, Nat.one_mul, Nat.add_comm, ← List.drop_drop, List.drop_left' h.1]
    exact h5
  | [], [], _ :: _, h, _, _, _ => h.elim
  | [], _ :: _, _, h, _, _, _ => h.elim
  | _ :: _, [], _, h, _, _, _ => h.elim
  | _ :: _, _ :: _, [], h, _, _, _ => h.elim
def Sx.RowsW (w : World) (B : Nat) (e : TypeId) (k : Nat) (p : Option Addr) (n c : Nat) (l : List (List D0)) : Prop :=
  l.length = n ∧ ∃ css fs, AllO w B k css l fs ∧ Own w B e k p n c css.flatten ∧ ∀ y ∈ fs.flatten, p.map (·.block) ≠ some y
theorem Sx.RowsW.ext {w w' : World} {B : Nat} {e : TypeId} {k : Nat} {p : Option Addr} {n c : Nat} {l : List (List D0)} (h : RowsW w B e k p n c l) (he : Ext w w') : RowsW w' B e k p n c l := by
  obtain ⟨h0, css, fs, h1, h2, h3⟩ := h
  exact ⟨h0, css, fs, h1.ext he, h2.ext he, h3⟩
theorem Sx.RowsW.fresh {w w' : World} {B : Nat} {e : TypeId} {k r : Nat} (hn : New w (.cells ⟨[]⟩ e (0, 0)) r w') (hb : B ≤ w.heap.size) : RowsW w' B e k (some ⟨r, 0, none⟩) 0 0 [] :=
  ⟨rfl, [], [], trivial, Own.of_blk0 hn.blk (by have := hn.r_eq; omega) (by simp) (by decide), by simp⟩
theorem Sx.RowsW.rows {w : World} {B : Nat} {e : TypeId} {k : Nat} {p : Option Addr} {n c : Nat} {l : List (List D0)} (h : RowsW w B e k p n c l) : RowsR w k p n c l := by
  obtain ⟨h0, css, fs, h1, h2, _⟩ := h
  refine ⟨h0, h2.le, h2.capLe, fun hn0 => ?_⟩
  obtain ⟨b, hp, _, hs⟩ := h2.seg hn0
  refine ⟨b, 0, hp, fun i x hx => ?_⟩
  obtain ⟨cs, q1, q2, q3⟩ := h1.at i x hx
  exact ⟨cs, q1, q2, by rw [← q3]; exact (hs.drop (i * k)).take k⟩
theorem Sx.RowsW.push {P : Program} {w : World} {B : Nat} {t e : TypeId} {z : Value} {k bytes : Nat} {p : Option Addr} {n c r : Nat} {l : List (List D0)} {fx : List Nat} {cs : List Value} {x : List D0} (h : RowsW w B e k p n c l)
    (hT : sliceT P t e z k bytes) (hb : B ≤ w.heap.size) (hr : Blk w r e cs) (hl : cs.length = k) (ho : Owns w B cs x fx) (hx : ∀ y ∈ fx, p.map (·.block) ≠ some y)
    (hbytes : (n + 1) * bytes ≤ 140737488355328) (hby : 1 ≤ bytes) :
    ∃ p' c' w', Appends P [t, t] [.slice p n c, .slice (some ⟨r, 0, none⟩) 1 1] (.slice p' (n + 1) c') w w' ∧ RowsW w' B e k p' (n + 1) c' (l ++ [x]) ∧ Chg (p.map (·.block)).toList w w' ∧
      (p'.map (·.block) = p.map (·.block) ∨ ∀ q, p'.map (·.block) = some q → w.heap.size ≤ q) := by
  obtain ⟨h0, css, fs, h1, h2, h3⟩ := h
  obtain ⟨p', c', w', hrun, hown', hch, hp⟩ := h2.push1 hT hb hr hl ho.reps.cells1 hbytes hby
  have e : (fs ++ [fx]).flatten = fs.flatten ++ fx := by simp
  have k1 : ∀ q ∈ fs.flatten, q ∉ (p.map (·.block)).toList := fun q hq hm => h3 q hq (opt_mem hm)
  have k2 : ∀ q ∈ fx, q ∉ (p.map (·.block)).toList := fun q hq hm => hx q hq (opt_mem hm)
  refine ⟨p', c', w', hrun, ⟨by simp [h0], css ++ [cs], fs ++ [fx], (h1.chg hch k1).snoc hl (ho.chg hch k2), by simpa using hown', fun y hy => ?_⟩, hch, hp⟩
  rw [e] at hy
  rcases hp with hp | hp
  · rw [hp]
    rcases List.mem_append.1 hy with hy | hy
    · exact h3 y hy
    · exact hx y hy
  · intro hq
    have g := hp y hq
    rcases List.mem_append.1 hy with hy | hy
    · have := (h1.lt y hy).2; omega
    · have := (ho.lt y hy).2; omega
end Go.Proofs.YtfehpaekbbmkcaaGreatDoor

namespace Go.Proofs.YtfehpaekbbmkcaaGreatDoor
open Go Go.Proofs.YtfehpaekbbmkcaaGreatDoor.Sx
set_option linter.unusedVariables false
set_option linter.unusedSimpArgs false
theorem own_out {w : World} {B : Nat} {e : TypeId} {size : Nat} {p : Option Addr} {n c : Nat} {xs : List Value} (h : Own w B e size p n c xs) : ∀ b, p.map (·.block) = some b → B ≤ b := fun b hb =>
  (World.ownsRow.lt h b (by cases p <;> simp_all [Value.ownBlock])).1
end Go.Proofs.YtfehpaekbbmkcaaGreatDoor

namespace Go.Proofs.YtfehpaekbbmkcaaGreatDoor
open Go Go.Proofs.YtfehpaekbbmkcaaGreatDoor.Sx
set_option linter.unusedVariables false
set_option linter.unusedSimpArgs false
theorem digs_pos_len {m : Nat} : 0 < (digs m).length ↔ m ≠ 0 := by
  constructor
  · intro h e
    rw [e, digs_zero] at h
    simp at h
  · intro h
    rw [digs_pos h]
    simp
theorem val_div (m k : Nat) : (val (digs m) / val (digs k)).toNat = m / k := by rw [val_digs, val_digs]; exact ediv_toNat m k
theorem val_mod (m k : Nat) : (val (digs m) % val (digs k)).toNat = m % k := by rw [val_digs, val_digs]; exact emod_toNat m k
end Go.Proofs.YtfehpaekbbmkcaaGreatDoor

namespace Go.Proofs.YtfehpaekbbmkcaaGreatDoor
open Go Go.Proofs.YtfehpaekbbmkcaaGreatDoor.Sx
set_option linter.unusedVariables false
set_option linter.unusedSimpArgs false
/-- a struct of one's own stored into an older block, and read again -/
theorem agg_end {t : TypeId} {w W : World} {r : Nat} {e : TypeId} {old xs : List Value} {d : List D0} {f : List Nat} {B : Nat} (hb : Blk W r e old) (X : Ext w W) (hr : w.heap.size ≤ r)
    (ho : Owns W B xs d f) (ht : aggT P t xs.length = true) (hlen : xs.length = old.length) (hrB : r < B) (hwB : w.heap.size ≤ B) :
    ∃ W', Stores P t ⟨r, 0, none⟩ (.agg ⟨xs⟩) W W' ∧ Loads P t ⟨r, 0, none⟩ (.agg ⟨xs⟩) W' ∧ Owns W' w.heap.size xs d f ∧ Ext w W' ∧ Chg [r] W W' ∧ Blk W' r e xs := by
  obtain ⟨W', st, hb', ch, _⟩ := hb.storeA0 (P := P) (t := t) (xs := xs) ht hlen ho.reps.cells1
  exact ⟨W', st, hb'.loadA0 ht, (ho.chg1 ch hrB).mono hwB, X.chg ch (by simp; exact hr), ch, hb'⟩
theorem own_rat0 (W : World) (B : Nat) : Owns W B [.bool false, .slice none 0 0, .slice none 0 0] rat0 [] :=
  Owns.append (Owns.bool W B false) (Owns.append (Owns.ints (zs := []) (Own.nil W B T_int 1)) (Owns.ints (zs := []) (Own.nil W B T_int 1)))
theorem redR_no {n : Int} {d : Nat} (h : redOk n d = false) : redR n d = rat0 := by rw [redR, h]; rfl
theorem redR_yes {n : Int} {d : Nat} (h : redOk n d = true) : redR n d = rmk (redN n d) (redD n d) := by rw [redR, if_pos h]
/-- an owned fraction out of its two parts -/
theorem own_rmk {W : World} {B : Nat} {b : Bool} {p q : Option Addr} {n c m c2 : Nat} {N : Int} {D : Nat} {f : List Nat} (h : Owns W B [.bool b, .slice p n c] (enc N) f) (k : Own W B T_int 1 q m c2 ((digs D).map (Value.int .i64))) : Owns W B [.bool b, .slice p n c, .slice q m c2] (rmk N D) (f ++ (q.map (·.block)).toList) := by
  rw [rmk_enc]; exact Owns.append h (Owns.ints k)
theorem impl_reduce_c {w : World} {xs : List Value} {n : Int} {d : Nat} {p : Option Addr} {m c : Nat} (h : Reps w xs (enc n)) (k : IntsR w p m c (digs d)) (hd : 0 < d) (hl : (digs n.natAbs).length ≤ 1000) (hm : m ≤ 1000) :
    Ret P n_impl_reduce [.agg ⟨xs⟩, .slice p m c] w fun v w' => ∃ vs f, v = .tuple #[.agg ⟨vs⟩, .bool (redOk n d)] ∧ Owns w' w.heap.size vs (redR n d) f ∧ f.Nodup ∧ Ext w w' := by
  obtain ⟨a0, ap, an, ac, az, rfl, hda, ha⟩ := open_Signed h (enc_code _)
  simp only [enc, List.cons.injEq, D0.bool.injEq, D0.ints.injEq, and_true] at hda
  obtain ⟨rfl, rfl⟩ := hda
  have hla := ha.1; have hlk := k.1
  refine impl_reduce_ret ?_
  unfold impl_reduce
  intro r w1 hn1 r1 w2 hn2
  have e1 := hn1.r_eq; have e2 := hn2.r_eq; have z1 := hn1.size; have z2 := hn2.size
  have X := hn1.ext.trans hn2.ext
  have q0 := hn1.blk.ext hn2.ext
  refine ⟨_, _, _, q0.loadAt 1 rfl (by kernel_rfl) rfl, ?_⟩
  refine Ret.at (impl_natGcd_c (ha.ext X) (k.ext X) (by omega) (by omega)) ?_
  rintro v w3 ⟨p3, n3, c3, hv, og, y3⟩
  subst hv
  have G := og.ints
  have gpos : 0 < Nat.gcd n.natAbs d := gcd_pos_right hd
  have lg := G.1
  have hg3 : 0 < n3 := by have := digs_pos_len.2 (show Nat.gcd n.natAbs d ≠ 0 by omega); omega
  have hg4 : n3 ≤ 1000 := by have := digs_mono_len (Nat.le_of_dvd hd (Nat.gcd_dvd_right n.natAbs d)); omega
  refine ⟨_, _, _, rfl, _, _, _, (q0.ext y3).loadAt 1 rfl (by kernel_rfl) rfl, ?_⟩
  refine Ret.at (impl_natDiv_c (ha.ext (X.trans y3)) G (digs_canon _) (digs_canon _) hg3 (by omega) (by omega)) ?_
  rintro v w4 ⟨p4, n4, c4, p5, n5, c5, hv, o4, _, _, y4⟩
  subst hv
  rw [val_div] at o4
  refine ⟨_, _, _, _, _, _, rfl, ?_⟩
  refine Ret.at (impl_natDiv_c (k.ext ((X.trans y3).trans y4)) (G.ext y4) (digs_canon _) (digs_canon _) hg3 (by omega) (by omega)) ?_
  rintro v w5 ⟨p6, n6, c6, p7, n7, c7, hv, o6, _, _, y5⟩
  subst hv
  rw [val_div] at o6
  have l4 := o4.ints.1; have l6 := o6.ints.1
  have Y := y3.trans (y4.trans y5)
  have q0 := q0.ext Y; have q1 := hn2.blk.ext Y
  have ly3 := y3.le; have ly4 := y4.le; have ly5 := y5.le
  have hok : redOk n d = (decide (n4 ≤ 18) && decide (n6 ≤ 18)) := by rw [redOk, l4, l6]
  have bad : redOk n d = false → ∃ W', Stores P T_impl_Rat ⟨r1, 0, none⟩ (.agg ⟨[.bool false, .slice none 0 0, .slice none 0 0]⟩) w5 W' ∧ Loads P T_impl_Rat ⟨r1, 0, none⟩ (.agg ⟨[.bool false, .slice none 0 0, .slice none 0 0]⟩) W' ∧ Owns W' w.heap.size [.bool false, .slice none 0 0, .slice none 0 0] (redR n d) [] ∧ Ext w W' := fun hno => by
    obtain ⟨W', st, ld, ow, xx, _, _⟩ := agg_end (t := T_impl_Rat) q1 (X.trans Y) (by omega) (own_rat0 w5 (r1 + 1)) (by kernel_rfl) rfl (by omega) (by omega)
    exact ⟨W', st, ld, by rw [redR_no hno]; exact ow, xx⟩
  refine ⟨_, _, _, _, _, _, rfl, ifD (fun h4 => ifT ?_) (fun h4 => ifD (fun h6 => ?_) (fun h6 => ?_))⟩
  · have hno : redOk n d = false := by rw [hok, decide_eq_false (by omega)]; rfl
    obtain ⟨W', st, ld, ow, xx⟩ := bad hno
    exact ⟨W', st, _, _, _, _, _, _, _, ld, _, [], by rw [hno], ow, List.nodup_nil, xx⟩
  · have hno : redOk n d = false := by rw [hok, decide_eq_false (show ¬ n6 ≤ 18 by omega), Bool.and_false]
    obtain ⟨W', st, ld, ow, xx⟩ := bad hno
    exact ⟨W', st, _, _, _, _, _, _, _, ld, _, [], by rw [hno], ow, List.nodup_nil, xx⟩
  · have hyes : redOk n d = true := by rw [hok, decide_eq_true (show n4 ≤ 18 by omega), decide_eq_true (show n6 ≤ 18 by omega)]; rfl
    refine ⟨_, q0.loadAt 0 rfl (by kernel_rfl) rfl, ?_⟩
    refine Ret.at (impl_signed_c (neg := decide (n < 0)) (o4.ext y5).ints.1) ?_
    rintro v w6 ⟨hv, y6⟩
    subst hv
    have ho : Owns w6 w3.heap.size [.bool (decide (n < 0) && !(digs (n.natAbs / Nat.gcd n.natAbs d)).isEmpty), .slice p4 n4 c4] (enc (redN n d)) (p4.map (·.block)).toList := by
      rw [enc_redN]
      exact Owns.int2 ((o4.ext y5).ext y6)
    have hr := own_rmk ho ((o6.mono (show w3.heap.size ≤ w4.heap.size by omega)).ext y6)
    obtain ⟨W', st, ld, ow, xx, _, _⟩ := agg_end (t := T_impl_Rat) (q1.ext y6) ((X.trans Y).trans y6) (by omega) hr (by kernel_rfl) rfl (by omega) (by omega)
    refine ⟨_, _, _, _, rfl, W', st, _, _, _, _, _, _, _, ld, _, _, by rw [hyes], by rw [redR_yes hyes]; exact ow, ?_, xx⟩
    exact nodup_append (nodup_opt p4) (nodup_opt p6) (m := w4.heap.size) (fun q hq => (ho.lt q hq).2 |> fun _ => (World.ownsRow.lt o4 q (by cases p4 <;> simp_all [Value.ownBlock])).2) (fun q hq => (World.ownsRow.lt o6 q (by cases p6 <;> simp_all [Value.ownBlock])).1)
theorem spec_l05Gcd_c {w : World} {p q : Option Addr} {n c m d : Nat} {x y : Nat} (h : IntsR w p n c (digs x)) (k : IntsR w q m d (digs y)) (hn : n ≤ 1000) (hm : m ≤ 1000) :
    Ret P n_spec_l05Gcd [.slice p n c, .slice q m d] w fun v w' => ∃ p' n' c', v = .slice p' n' c' ∧ IntsR w' p' n' c' (digs (Nat.gcd x y)) ∧ Ext w w' := by
  refine spec_l05Gcd_ret ?_
  unfold spec_l05Gcd
  obtain ⟨f, hf⟩ := numAt_ex
  refine ⟨fun ap an ac bp bn bc wr => ∃ s t, IntsR wr ap an ac (digs s) ∧ IntsR wr bp bn bc (digs t) ∧ an ≤ 100000 ∧ bn ≤ 100000 ∧ Ext w wr ∧ Nat.gcd s t = Nat.gcd x y, fun _ _ _ bp bn bc W => f W bp bn bc, ⟨x, y, h, k, by omega, by omega, Ext.refl _, rfl⟩, ?_⟩
  intro junk wr ap an ac bp bn bc ⟨s, t, ha, hb, han, hbn, hx, hg⟩
  have hbl := hb.1
  refine ifD (fun hlt => ?_) (fun hge => ?_)
  · have ht : 0 < t := by
      rcases Nat.eq_zero_or_pos t with e | e
      · subst e; rw [digs_zero] at hbl; simp at hbl; omega
      · exact e
    refine Ret.at (spec_l03Div_c ha hb (digs_limbs _) (digs_canon _) (by omega) han hbn) ?_
    rintro v w1 ⟨p1, n1, c1, p2, n2, c2, hv, o1, o2, y1⟩
    subst hv
    rw [val_mod] at o2
    have hn2 : n2 ≤ bn := by
      have := o2.1
      have := digs_mod_len (x := s) ht
      omega
    refine ⟨_, _, _, _, _, _, rfl, ⟨t, s % t, hb.ext y1, o2, hbn, by omega, hx.trans y1, by rw [gcd_step, hg]⟩, ?_⟩
    show f w1 p2 n2 c2 < f wr bp bn bc
    rw [hf _ _ _ _ _ o2, hf _ _ _ _ _ hb]
    exact Nat.mod_lt _ ht
  · have ht : t = 0 := by
      have : bn = 0 := by omega
      rw [this] at hbl
      exact digs_nil.1 (List.eq_nil_of_length_eq_zero hbl)
    subst ht
    rw [Nat.gcd_zero_right] at hg
    subst hg
    exact ⟨_, _, _, rfl, ha, hx⟩
theorem spec_l05Low_c {w : World} {neg : Bool} {n : Int} {d : Nat} {p q : Option Addr} {m c m2 c2 : Nat} (h : IntsR w p m c (digs n.natAbs)) (k : IntsR w q m2 c2 (digs d)) (hneg : n ≠ 0 → neg = decide (n < 0)) (hd : 0 < d) (hl : m ≤ 1000) (hm : m2 ≤ 1000) :
    Ret P n_spec_l05Low [.bool neg, .slice p m c, .slice q m2 c2] w fun v w' => ∃ vs f, v = .tuple #[.agg ⟨vs⟩, .bool (redOk n d)] ∧ Owns w' w.heap.size vs (redR n d) f ∧ f.Nodup ∧ Ext w w' := by
  have hla := h.1; have hlk := k.1
  refine spec_l05Low_ret ?_
  unfold spec_l05Low
  intro r w1 hn1
  have e1 := hn1.r_eq; have z1 := hn1.size
  refine Ret.at (spec_l02Trim_c (h.ext hn1.ext)) ?_
  rintro v w2 ⟨hv, hw, ht⟩
  subst hv; subst hw
  rw [trimL_eq (digs_limbs _), val_digs, Int.toNat_natCast] at ht ⊢
  refine ⟨_, _, _, rfl, ?_⟩
  refine Ret.at (spec_l02Trim_c (k.ext hn1.ext)) ?_
  rintro v w3 ⟨hv, hw, kt⟩
  subst hv; subst hw
  rw [trimL_eq (digs_limbs _), val_digs, Int.toNat_natCast] at kt ⊢
  have hd0 := digs_pos_len.2 (show d ≠ 0 by omega)
  refine ⟨_, _, _, rfl, ifD (fun hh => absurd hh (by omega)) (fun _ => ?_)⟩
  refine Ret.at (spec_l05Gcd_c ht kt (by omega) (by omega)) ?_
  rintro v w4 ⟨p4, n4, c4, hv, G, y4⟩
  subst hv
  have gpos : 0 < Nat.gcd n.natAbs d := gcd_pos_right hd
  have lg := G.1
  have hg3 : 0 < n4 := by have := digs_pos_len.2 (show Nat.gcd n.natAbs d ≠ 0 by omega); omega
  have hg4 : n4 ≤ 1000 := by have := digs_mono_len (Nat.le_of_dvd hd (Nat.gcd_dvd_right n.natAbs d)); omega
  refine ⟨_, _, _, rfl, ?_⟩
  refine Ret.at (spec_l03Div_c (ht.ext y4) G (digs_limbs _) (digs_canon _) hg3 (by omega) (by omega)) ?_
  rintro v w5 ⟨p5, n5, c5, p6, n6, c6, hv, i5, _, y5⟩
  subst hv
  rw [val_div] at i5
  refine ⟨_, _, _, _, _, _, rfl, ?_⟩
  refine Ret.at (spec_l03Div_c (kt.ext (y4.trans y5)) (G.ext y5) (digs_limbs _) (digs_canon _) hg3 (by omega) (by omega)) ?_
  rintro v w6 ⟨p7, n7, c7, p8, n8, c8, hv, i7, _, y6⟩
  subst hv
  rw [val_div] at i7
  have Y := (y4.trans y5).trans y6
  have q1 := hn1.blk.ext Y
  have X := hn1.ext.trans Y
  have lY := Y.le
  have l5 := i5.1; have l7 := i7.1
  have hok : redOk n d = (decide (n5 ≤ 18) && decide (n7 ≤ 18)) := by rw [redOk, l5, l7]
  have bad : redOk n d = false → ∃ W', Stores P T_impl_Rat ⟨r, 0, none⟩ (.agg ⟨[.bool false, .slice none 0 0, .slice none 0 0]⟩) w6 W' ∧ Loads P T_impl_Rat ⟨r, 0, none⟩ (.agg ⟨[.bool false, .slice none 0 0, .slice none 0 0]⟩) W' ∧ Owns W' w.heap.size [.bool false, .slice none 0 0, .slice none 0 0] (redR n d) [] ∧ Ext w W' := fun hno => by
    obtain ⟨W', st, ld, ow, xx, _, _⟩ := agg_end (t := T_impl_Rat) q1 X (by omega) (own_rat0 w6 (r + 1)) (by kernel_rfl) rfl (by omega) (by omega)
    exact ⟨W', st, ld, by rw [redR_no hno]; exact ow, xx⟩
  refine ⟨_, _, _, _, _, _, rfl, ifD (fun h4 => ifT ?_) (fun h4 => ifD (fun h6 => ?_) (fun h6 => ?_))⟩
  · have hno : redOk n d = false := by rw [hok, decide_eq_false (by omega)]; rfl
    obtain ⟨W', st, ld, ow, xx⟩ := bad hno
    exact ⟨W', st, _, _, _, _, _, _, _, ld, _, [], by rw [hno], ow, List.nodup_nil, xx⟩
  · have hno : redOk n d = false := by rw [hok, decide_eq_false (show ¬ n7 ≤ 18 by omega), Bool.and_false]
    obtain ⟨W', st, ld, ow, xx⟩ := bad hno
    exact ⟨W', st, _, _, _, _, _, _, _, ld, _, [], by rw [hno], ow, List.nodup_nil, xx⟩
  · have hyes : redOk n d = true := by rw [hok, decide_eq_true (show n5 ≤ 18 by omega), decide_eq_true (show n7 ≤ 18 by omega)]; rfl
    refine Ret.at (spec_l04Make_c (i5.ext y6) (digs_limbs _)) ?_
    rintro v w7 ⟨b7, p9, n9, c9, hv, hb7, o9, y7⟩
    subst hv
    rw [val_digs, Int.toNat_natCast] at hb7 o9
    have ecap : capL (digs (n.natAbs / Nat.gcd n.natAbs d)) = digs (n.natAbs / Nat.gcd n.natAbs d) := by unfold capL; rw [if_pos (by omega)]
    rw [ecap] at hb7 o9
    have ho : Owns w7 w6.heap.size [.bool b7, .slice p9 n9 c9] (enc (redN n d)) (p9.map (·.block)).toList := by
      have e : enc (redN n d) = mkS neg (digs (n.natAbs / Nat.gcd n.natAbs d)) := by
        by_cases hn : n = 0
        · subst hn
          rw [enc_redN]
          simp [mkS, digs_zero]
        · rw [enc_redN, hneg hn]
      rw [e]
      have := Owns.int2 (b := b7) o9
      rw [hb7] at this
      rw [hb7]
      exact this
    refine ⟨_, _, _, _, rfl, ?_⟩
    intro r8 w8 hn8
    obtain ⟨p10, c10, w10, ap10, o10, x10⟩ := append0 hn8.blk ((i7.ext y7).ext hn8.ext) (by omega)
    have e8 := hn8.r_eq; have z8 := hn8.size; have ly7 := y7.le; have ly6 := y6.le
    have y10 : Ext w8 w10 := x10
    have hr := own_rmk ((ho.ext hn8.ext).ext y10) (o10.mono (show w6.heap.size ≤ r8 by omega))
    obtain ⟨W', st, ld, ow, xx, _, _⟩ := agg_end (t := T_impl_Rat) (((q1.ext y7).ext hn8.ext).ext y10) (((X.trans y7).trans hn8.ext).trans y10) (by omega) hr (by kernel_rfl) rfl (by omega) (by omega)
    refine ⟨_, _, _, _, ap10, W', st, _, _, _, _, _, _, _, ld, _, _, by rw [hyes], by rw [redR_yes hyes]; exact ow, ?_, xx⟩
    exact nodup_append (nodup_opt p9) (nodup_opt p10) (m := w7.heap.size) (fun q hq => (ho.lt q hq).2) (fun q hq => by
      have := own_out o10 q (opt_mem hq)
      omega)
end Go.Proofs.YtfehpaekbbmkcaaGreatDoor

namespace Go.Proofs.YtfehpaekbbmkcaaGreatDoor
open Go Go.Proofs.YtfehpaekbbmkcaaGreatDoor.Sx
set_option linter.unusedVariables false
set_option linter.unusedSimpArgs false
theorem rmk_open {w : World} {vs : List Value} {N : Int} {D : Nat} (h : Reps w vs (rmk N D)) (hok : ratOk (rmk N D) = true) :
    ∃ p1 n1 c1 p2 n2 c2, vs = [.bool (decide (N < 0)), .slice p1 n1 c1, .slice p2 n2 c2] ∧ IntsR w p1 n1 c1 (digs N.natAbs) ∧ IntsR w p2 n2 c2 (digs D) ∧ n1 ≤ 18 ∧ n2 ≤ 18 ∧ Reps w [.bool (decide (N < 0)), .slice p1 n1 c1] (enc N) ∧ 0 < D := by
  have := rat_parts h (rmk_code N D) hok
  have k := (ratOk_enc hok).2.1
  rw [ratNum_rmk, ratDen_rmk] at this
  rw [ratDen_rmk] at k
  obtain ⟨p1, n1, c1, p2, n2, c2, a, b, c, d, e, f⟩ := this
  exact ⟨p1, n1, c1, p2, n2, c2, a, b, c, d, e, f, k⟩
theorem mkS_of {b : Bool} {m : Nat} {z : Int} (hm : m = z.natAbs) (hb : z ≠ 0 → b = decide (z < 0)) : mkS b (digs m) = enc z := by
  by_cases hz : z = 0
  · subst hz; subst hm; simp [mkS, enc, digs_zero]
  · rw [hb hz, hm]
    unfold mkS enc
    rw [isEmpty_digs]
    have : z.natAbs ≠ 0 := by omega
    simp [this]
theorem mul_sign {x y : Int} (h : x * y ≠ 0) : (!(decide (x < 0) == decide (y < 0))) = decide (x * y < 0) := by
  have hx : x ≠ 0 := fun e => h (by rw [e, Int.zero_mul])
  have hy : y ≠ 0 := fun e => h (by rw [e, Int.mul_zero])
  rcases Int.lt_or_gt_of_ne hx with h1 | h1 <;> rcases Int.lt_or_gt_of_ne hy with h2 | h2
  · have := Int.mul_pos_of_neg_of_neg h1 h2
    simp [h1, h2]; omega
  · have := Int.mul_neg_of_neg_of_pos h1 h2
    have h3 : ¬ y < 0 := by omega
    simp [h1, h3, this]
  · have := Int.mul_neg_of_pos_of_neg h1 h2
    have h3 : ¬ x < 0 := by omega
    simp [h2, h3, this]
  · have := Int.mul_pos h1 h2
    have h3 : ¬ x < 0 := by omega
    have h4 : ¬ y < 0 := by omega
    simp [h3, h4]; omega
theorem val_mul (m k : Nat) : (val (digs m) * val (digs k)).toNat = m * k := by rw [val_digs, val_digs, ← Int.natCast_mul, Int.toNat_natCast]
/-- a sign and limbs of one's own, made an integer of one's own -/
theorem own_int {W : World} {B : Nat} {b : Bool} {p : Option Addr} {n c m : Nat} {z : Int} (h : Own W B T_int 1 p n c ((digs m).map (Value.int .i64))) (hm : m = z.natAbs) (hb : z ≠ 0 → b = decide (z < 0)) :
    Owns W B [.bool (b && !(digs m).isEmpty), .slice p n c] (enc z) (p.map (·.block)).toList := by
  rw [← mkS_of hm hb]
  exact Owns.int2 h
/-- one object laid at some time between -/
def FlSt (o : Obj) (w0 : World) (ss : List (Option Nat)) (w : World) : Prop := Ext w0 w ∧ (ss = [none] ∨ ∃ r, ss = [some r] ∧ w0.heap.size ≤ r ∧ w.heap[r]? = some o)
theorem FlSt.start {o : Obj} (w0 : World) : FlSt o w0 [none] w0 := ⟨Ext.refl _, .inl rfl⟩
theorem FlSt.ext {o : Obj} {w0 w w' : World} {ss : List (Option Nat)} (h : FlSt o w0 ss w) (y : Ext w w') : FlSt o w0 ss w' := by
  refine ⟨h.1.trans y, ?_⟩
  rcases h.2 with h2 | ⟨r, h2, h3, h4⟩
  · exact .inl h2
  · exact .inr ⟨r, h2, h3, (y.block r (Array.getElem?_eq_some_iff.1 h4).1).trans h4⟩
theorem FlSt.step {o : Obj} {w0 w w' : World} {ss ss' : List (Option Nat)} (h : FlSt o w0 ss w) (f : Fl [o] ss w ss' w') : FlSt o w0 ss' w' := by
  refine ⟨h.1.trans f.ext, ?_⟩
  have hl := f.len
  rcases h.2 with h2 | ⟨r, h2, h3, h4⟩
  · subst h2
    match ss', hl, f with
    | [none], _, _ => exact .inl rfl
    | [some r], _, f =>
      obtain ⟨a, b⟩ := f.got (k := 0) rfl rfl rfl
      exact .inr ⟨r, rfl, Nat.le_trans h.1.le a, b⟩
    | [], hl, _ => simp at hl
    | _ :: _ :: _, hl, _ => simp at hl
  · subst h2
    have hk := f.keeps (k := 0) (r := r) rfl
    match ss', hl, hk with
    | [x], _, hk =>
      simp at hk
      subst hk
      exact .inr ⟨r, rfl, h3, (f.ext.block r (Array.getElem?_eq_some_iff.1 h4).1).trans h4⟩
    | [], hl, _ => simp at hl
    | _ :: _ :: _, hl, _ => simp at hl
theorem FlSt.get {o : Obj} {w0 w : World} {ss : List (Option Nat)} {r : Nat} (h : FlSt o w0 ss w) (hr : ss[0]? = some (some r)) : w0.heap.size ≤ r ∧ w.heap[r]? = some o := by
  rcases h.2 with h2 | ⟨r', h2, h3, h4⟩
  · subst h2; simp at hr
  · subst h2
    simp at hr
    subst hr
    exact ⟨h3, h4⟩
theorem impl_ratsOk_c {w : World} {xs ys : List Value} {N1 N2 : Int} {D1 D2 : Nat} (h : Reps w xs (rmk N1 D1)) (g : Reps w ys (rmk N2 D2)) (hok : ratOk (rmk N1 D1) = true) (gok : ratOk (rmk N2 D2) = true) :
    Ret P n_impl_ratsOk [.agg ⟨xs⟩, .agg ⟨ys⟩] w fun v w' => v = .bool true ∧ Ext w w' := by
  have hr := h; have gr := g
  obtain ⟨p1, n1, c1, q1, m1, d1, rfl, i1, i2, _, _, he, hd1⟩ := rmk_open h hok
  obtain ⟨p2, n2, c2, q2, m2, d2, rfl, j1, j2, _, _, ke, hd2⟩ := rmk_open g gok
  refine impl_ratsOk_ret ?_
  unfold impl_ratsOk
  intro r w1 hn1 r1 w2 hn2
  have X := hn1.ext.trans hn2.ext
  refine ⟨_, _, _, _, _, _, _, (hn1.blk.ext hn2.ext).loadA0 (by kernel_rfl), ?_⟩
  refine Ret.at (impl_RatOk_c (hr.ext X) (rmk_code _ _)) ?_
  rintro v w3 ⟨hv, y3⟩
  subst hv
  rw [hok]
  refine ⟨_, rfl, ifT ⟨_, _, _, _, _, _, _, (hn2.blk.ext y3).loadA0 (by kernel_rfl), ?_⟩⟩
  refine Ret.at (impl_RatOk_c (gr.ext (X.trans y3)) (rmk_code _ _)) ?_
  rintro v w4 ⟨hv, y4⟩
  subst hv
  rw [gok]
  exact ⟨_, rfl, rfl, (X.trans y3).trans y4⟩
end Go.Proofs.YtfehpaekbbmkcaaGreatDoor

namespace Go.Proofs.YtfehpaekbbmkcaaGreatDoor
open Go Go.Proofs.YtfehpaekbbmkcaaGreatDoor.Sx
set_option linter.unusedVariables false
set_option linter.unusedSimpArgs false
theorem lt_of_len {x i : Nat} (h : (digs x).length ≤ i) : x < 1000000000 ^ i := by
  have h1 := val_lt (digs_limbs x)
  rw [val_digs] at h1
  have : ((x : Nat) : Int) < ((1000000000 ^ (digs x).length : Nat) : Int) := by simpa using h1
  exact Nat.lt_of_lt_of_le (Int.ofNat_lt.1 this) (Nat.pow_le_pow_right (by decide) h)
theorem sum_len {x y : Int} {i : Nat} (hx : (digs x.natAbs).length ≤ i) (hy : (digs y.natAbs).length ≤ i) : (digs (x + y).natAbs).length ≤ i + 1 := by
  apply digs_len
  have h1 := lt_of_len hx; have h2 := lt_of_len hy
  have h3 : (x + y).natAbs ≤ x.natAbs + y.natAbs := Int.natAbs_add_le x y
  rw [Nat.pow_succ]
  omega
theorem cross_len {N : Int} {E : Nat} (hN : (digs N.natAbs).length ≤ 18) (hE : (digs E).length ≤ 18) : (digs (N * (E : Int)).natAbs).length ≤ 36 := by
  rw [Int.natAbs_mul, Int.natAbs_natCast]
  exact prod_len hN hE
/-- limbs don't lie in a struct of a sign and a slice -/
theorem IntsR.store2 {w w' : World} {r : Nat} {e : TypeId} {b : Bool} {q : Option Addr} {m d : Nat} {p : Option Addr} {n c : Nat} {z : List Int} (hb : Blk w r e [.bool b, .slice q m d]) (h : IntsR w p n c z) (ch : Chg [r] w w') : IntsR w' p n c z := by
  refine ⟨h.1, h.2.1, h.2.2.1, fun hn => ?_⟩
  obtain ⟨k, off, hp, hs⟩ := h.2.2.2 hn
  refine ⟨k, off, hp, hs.chg ch ?_⟩
  intro hm
  simp at hm
  subst hm
  have hl := h.1
  have h1 := hs 0 (.int .i64 (z[0]'(by omega))) (by simp [List.getElem?_eq_getElem (show 0 < z.length by omega)])
  rw [hb.cell] at h1
  generalize off + 0 = i at h1
  match i, h1 with
  | 0, h1 => simp at h1
  | 1, h1 => simp at h1
  | i + 2, h1 => simp at h1
theorem impl_Rat_num_n {w : World} {xs : List Value} {N : Int} {D E : Nat} {p : Option Addr} {m c : Nat} (h : Reps w xs (rmk N D)) (hok : ratOk (rmk N D) = true) (k : IntsR w p m c (digs E)) (hm : m ≤ 100) :
    Ret P n_impl_Rat_num [.agg ⟨xs⟩, .slice p m c] w fun v w' => ∃ vs f, v = .agg ⟨vs⟩ ∧ Owns w' w.heap.size vs (enc (N * E)) f ∧ f.Nodup ∧ Ext w w' := by
  obtain ⟨p1, n1, c1, q1, m1, d1, rfl, i1, i2, li1, li2, he, hd1⟩ := rmk_open h hok
  have ei1 := i1.1; have ek := k.1
  refine impl_Rat_num_ret ?_
  unfold impl_Rat_num
  intro r w1 hn1 r1 w2 hn2
  have e1 := hn1.r_eq; have e2 := hn2.r_eq; have z1 := hn1.size; have z2 := hn2.size
  have D := Ext.drew w2
  have lD := D.le
  have X := (hn1.ext.trans hn2.ext).trans D
  have b0 := (hn1.blk.ext hn2.ext).ext D; have b1 := hn2.blk.ext D
  refine ⟨_, fun W hW => (b0.ext hW).loadAt 0 rfl (by kernel_rfl) rfl, _, _, _, fun W hW => (b0.ext hW).loadAt 1 rfl (by kernel_rfl) rfl, ?_⟩
  refine Ret.at (impl_natMul_c (i1.ext X) (k.ext X) (digs_limbs _) (digs_limbs _) (by omega) (by omega)) ?_
  rintro v w4 ⟨p4, n4, c4, hv, o4, y4⟩
  subst hv
  rw [val_mul] at o4
  refine ⟨_, _, _, rfl, y4, ?_⟩
  refine Ret.at (impl_signed_c (neg := decide (N < 0)) o4.ints.1) ?_
  rintro v w5 ⟨hv, y5⟩
  subst hv
  have sg : N * (E : Int) ≠ 0 → decide (N < 0) = decide (N * (E : Int) < 0) := fun hh => by
    have := mul_sign hh
    rw [← this, decide_eq_false (show ¬ (E : Int) < 0 by omega)]
    cases decide (N < 0) <;> rfl
  obtain ⟨W', st, ld, ow, xx, _, _⟩ := agg_end (t := T_impl_Signed) ((b1.ext y4).ext y5) ((X.trans y4).trans y5) (by omega) (own_int (o4.ext y5) (z := N * (E : Int)) (by rw [Int.natAbs_mul, Int.natAbs_natCast]) sg) (by kernel_rfl) rfl (by omega) (by omega)
  exact ⟨_, _, _, _, rfl, W', st, _, _, _, _, ld, _, _, rfl, ow, nodup_opt p4, xx⟩
theorem impl_RatAdd_n {w : World} {xs ys : List Value} {N1 N2 : Int} {D1 D2 : Nat} (h : Reps w xs (rmk N1 D1)) (g : Reps w ys (rmk N2 D2)) (hok : ratOk (rmk N1 D1) = true) (gok : ratOk (rmk N2 D2) = true) :
    Ret P n_impl_RatAdd [.agg ⟨xs⟩, .agg ⟨ys⟩] w fun v w' => ∃ vs f, v = .tuple #[.agg ⟨vs⟩, .bool (redOk (N1 * D2 + N2 * D1) (D1 * D2))] ∧ Owns w' w.heap.size vs (redR (N1 * D2 + N2 * D1) (D1 * D2)) f ∧ f.Nodup ∧ Ext w w' := by
  have hr := h; have gr := g
  obtain ⟨p1, n1, c1, q1, m1, d1, rfl, i1, i2, li1, li2, he, hd1⟩ := rmk_open h hok
  obtain ⟨p2, n2, c2, q2, m2, d2, rfl, j1, j2, lj1, lj2, ke, hd2⟩ := rmk_open g gok
  have ei1 := i1.1; have ei2 := i2.1; have ej1 := j1.1; have ej2 := j2.1
  have pN := prod_len (x := N1.natAbs) (y := N2.natAbs) (i := 18) (j := 18) (by omega) (by omega)
  have pD := prod_len (x := D1) (y := D2) (i := 18) (j := 18) (by omega) (by omega)
  refine impl_RatAdd_ret ?_
  unfold impl_RatAdd
  intro r w1 hn1 r1 w2 hn2 r2 w3 hn3
  have e1 := hn1.r_eq; have e2 := hn2.r_eq; have e3 := hn3.r_eq; have z1 := hn1.size; have z2 := hn2.size; have z3 := hn3.size
  have X := (hn1.ext.trans hn2.ext).trans hn3.ext
  have b0 := (hn1.blk.ext hn2.ext).ext hn3.ext; have b1 := hn2.blk.ext hn3.ext; have b2 := hn3.blk
  refine ⟨_, _, _, _, _, _, _, b0.loadA0 (by kernel_rfl), _, _, _, _, _, _, _, b1.loadA0 (by kernel_rfl), ?_⟩
  refine Ret.at (impl_ratsOk_c (hr.ext X) (gr.ext X) hok gok) ?_
  rintro v w4 ⟨hv, y4⟩
  subst hv
  refine ⟨_, rfl, ifN (fun hh => absurd hh (by simp)) (fun _ => ?_)⟩
  have D := Ext.drew w4
  have Y := y4.trans D
  have X4 := X.trans Y
  have lY := Y.le
  have b0 := b0.ext Y; have b1 := b1.ext Y; have b2 := b2.ext Y
  have D' := Ext.drew w4.drew
  have X5 := X4.trans D'
  have lD' := D'.le
  have b0' := b0.ext D'; have b1' := b1.ext D'; have b2' := b2.ext D'
  refine ⟨_, _, _, _, _, _, _, fun W hW => (b0.ext hW).loadA0 (by kernel_rfl), _, _, _, _, _, _, _, fun W hW => (b1.ext hW).loadA0 (by kernel_rfl), _, _, _, fun W hW => (b1'.ext hW).loadAt 2 rfl (by kernel_rfl) rfl, _, _, _, rfl, by kernel_rfl, ?_⟩
  refine Calls.mono (impl_Rat_num_n (hr.ext X5) hok (j2.ext X5) (by omega)) ?_
  rintro e w5 ⟨v, he5, vs5, f5, hv, ho5, _, y5⟩
  subst hv
  obtain ⟨s0, sp, sn, sc, sz, rfl, _, _⟩ := open_Signed ho5.reps (enc_code _)
  refine ⟨_, _, _, _, he5, y5, _, _, _, fun W hW => (b0'.ext hW).loadAt 2 rfl (by kernel_rfl) rfl, _, _, _, rfl, by kernel_rfl, ?_⟩
  refine Calls.mono (impl_Rat_num_n (gr.ext (X5.trans y5)) gok (i2.ext (X5.trans y5)) (by omega)) ?_
  rintro e w6 ⟨v, he6, vs6, f6, hv, ho6, _, y6⟩
  subst hv
  obtain ⟨u0, up, un, uc, uz, rfl, _, _⟩ := open_Signed ho6.reps (enc_code _)
  refine ⟨_, _, _, _, he6, y6, ?_⟩
  have t1 := cross_len (N := N1) (E := D2) (by omega) (by omega)
  have t2 := cross_len (N := N2) (E := D1) (by omega) (by omega)
  have t3 := sum_len t1 t2
  refine Ret.at (impl_intAdd_c (ho5.reps.ext y6) ho6.reps (by omega) (by omega)) ?_
  rintro v w7 ⟨p7, n7, c7, hv, o7, y7⟩
  subst hv
  refine ⟨_, _, _, _, rfl, y7, _, _, _, fun W hW => (b0'.ext hW).loadAt 2 rfl (by kernel_rfl) rfl, _, _, _, fun W hW => (b1'.ext hW).loadAt 2 rfl (by kernel_rfl) rfl, ?_⟩
  have Y7 := (y5.trans y6).trans y7
  refine Ret.at (impl_natMul_c (i2.ext (X5.trans Y7)) (j2.ext (X5.trans Y7)) (digs_limbs _) (digs_limbs _) (by omega) (by omega)) ?_
  rintro v w8 ⟨p8, n8, c8, hv, o8, y8⟩
  subst hv
  rw [val_mul] at o8
  have l8 := o8.ints.1
  have lY7 := Y7.le; have ly8 := y8.le
  refine ⟨_, _, _, rfl, ?_⟩
  have hs : Reps w8 [.bool (decide (N1 * (D2 : Int) + N2 * (D1 : Int) < 0)), .slice p7 n7 c7] (enc (N1 * D2 + N2 * D1)) := ⟨rfl, ⟨_, _, _, rfl, o7.ints.ext y8⟩, trivial⟩
  refine Ret.at (impl_reduce_c hs o8.ints (Nat.mul_pos hd1 hd2) (by omega) (by omega)) ?_
  rintro v w99 ⟨vs9, f9, hv, ho9, nd9, y99⟩
  subst hv
  obtain ⟨zb, zp, zn, zc, zz, zp2, zn2, zc2, zz2, rfl, _, _, _⟩ := open_Rat ho9.reps (redR_code _ _)
  obtain ⟨W', st', ld', ow', xx', _, _⟩ := agg_end (t := T_impl_Rat) (((b2'.ext Y7).ext y8).ext y99) (((X5.trans Y7).trans y8).trans y99) (by omega) ho9 (by kernel_rfl) rfl (by omega) (by omega)
  exact ⟨_, _, _, _, _, _, _, _, rfl, W', st', _, _, _, _, _, _, _, ld', _, f9, rfl, ow', nd9, xx'⟩
  
theorem spec_RatAdd_n {w : World} {xs ys : List Value} {N1 N2 : Int} {D1 D2 : Nat} (h : Reps w xs (rmk N1 D1)) (g : Reps w ys (rmk N2 D2)) (hok : ratOk (rmk N1 D1) = true) (gok : ratOk (rmk N2 D2) = true) :
    Ret P n_spec_RatAdd [.agg ⟨xs⟩, .agg ⟨ys⟩] w fun v w' => ∃ vs f, v = .tuple #[.agg ⟨vs⟩, .bool (redOk (N1 * D2 + N2 * D1) (D1 * D2))] ∧ Owns w' w.heap.size vs (redR (N1 * D2 + N2 * D1) (D1 * D2)) f ∧ f.Nodup ∧ Ext w w' := by
  have hr := h; have gr := g
  obtain ⟨p1, n1, c1, q1, m1, d1, rfl, i1, i2, li1, li2, he, hd1⟩ := rmk_open h hok
  obtain ⟨p2, n2, c2, q2, m2, d2, rfl, j1, j2, lj1, lj2, ke, hd2⟩ := rmk_open g gok
  have ei1 := i1.1; have ei2 := i2.1; have ej1 := j1.1; have ej2 := j2.1
  have pN := prod_len (x := N1.natAbs) (y := N2.natAbs) (i := 18) (j := 18) (by omega) (by omega)
  have pD := prod_len (x := D1) (y := D2) (i := 18) (j := 18) (by omega) (by omega)
  refine spec_RatAdd_ret ?_
  unfold spec_RatAdd
  intro r w1 hn1 r1 w2 hn2 r2 w3 hn3
  have e1 := hn1.r_eq; have e2 := hn2.r_eq; have e3 := hn3.r_eq; have z1 := hn1.size; have z2 := hn2.size; have z3 := hn3.size
  have X := (hn1.ext.trans hn2.ext).trans hn3.ext
  have b0 := (hn1.blk.ext hn2.ext).ext hn3.ext; have b1 := hn2.blk.ext hn3.ext; have b2 := hn3.blk
  refine ⟨_, _, _, _, _, _, _, b0.loadA0 (by kernel_rfl), ?_⟩
  refine Ret.at (spec_RatOk_c (hr.ext X) (rmk_code _ _)) ?_
  rintro v w5 ⟨hv, y5⟩
  subst hv
  rw [hok]
  refine ⟨_, rfl, ifN (fun hh => absurd hh (by simp)) (fun _ => ⟨_, _, _, _, _, _, _, (b1.ext y5).loadA0 (by kernel_rfl), ?_⟩)⟩
  refine Ret.at (spec_RatOk_c (gr.ext (X.trans y5)) (rmk_code _ _)) ?_
  rintro v w4 ⟨hv, y4⟩
  subst hv
  rw [gok]
  refine ⟨_, rfl, ifN (fun hh => absurd hh (by simp)) (fun _ => ?_)⟩
  unfold spec_RatAdd_j0
  have D := Ext.drew w4
  have Y := (y5.trans y4).trans D
  have X4 := X.trans Y
  have lY := Y.le
  have b0 := b0.ext Y; have b1 := b1.ext Y; have b2 := b2.ext Y
  refine ⟨_, fun W hW => (b0.ext hW).loadAt 0 rfl (by kernel_rfl) rfl, _, _, _, fun W hW => (b0.ext hW).loadAt 1 rfl (by kernel_rfl) rfl, _, _, _, fun W hW => (b1.ext hW).loadAt 2 rfl (by kernel_rfl) rfl, ?_⟩
  intro ss1 a1 F11
  have S11 := (FlSt.start (o := .cells ⟨[.bool false, .slice none 0 0]⟩ T_impl_Signed (0, 0)) w4.drew).step F11
  refine Ret.at (spec_l02Mul_c (i1.ext (X4.trans F11.ext)) (j2.ext (X4.trans F11.ext)) (digs_limbs _) (digs_limbs _) (by omega) (by omega)) ?_
  rintro v a1b ⟨pa1, na1, ca1, hv, oa1, ya1⟩
  subst hv
  rw [val_digs, val_digs] at oa1
  have la1 := oa1.len
  simp only [List.length_map] at la1
  have ta1 := prod_len (x := N1.natAbs) (y := D2) (i := 18) (j := 18) (by omega) (by omega)
  rw [show N1.natAbs * D2 = ((N1.natAbs : Int) * D2).toNat by rw [← Int.natCast_mul, Int.toNat_natCast]] at ta1
  refine ⟨_, _, _, rfl, ya1, ?_⟩
  intro ss1' a1c F21
  have S21 := (S11.ext ya1).step F21
  refine Ret.at (prod_make (n := N1) (d := D2) (oa1.ints.ext F21.ext) hd2 (by omega)) ?_
  rintro v a1d ⟨ba1, pb1, nb1, cb1, hv, ra1, _, yb1⟩
  subst hv
  refine ⟨_, _, _, _, rfl, ?_⟩
  intro ss1'' a1e r1 F31 G1
  have S31 := (S21.ext yb1).step F31
  obtain ⟨hr1, hbk1⟩ := S31.get G1
  have B1 : Blk a1e r1 T_impl_Signed [.bool false, .slice none 0 0] := hbk1
  obtain ⟨a1f, st1, bb1, ch1, _⟩ := B1.storeA0 (P := P) (t := T_impl_Signed) (xs := [.bool ba1, .slice pb1 nb1 cb1]) (by kernel_rfl) rfl (by simp [Value.oneCell'])
  have Ya1 : Ext w4.drew a1f := S31.1.chg ch1 (by simp; exact hr1)
  have ia1 : Reps a1f [.bool ba1, .slice pb1 nb1 cb1] (enc (N1 * (D2 : Int))) := by
    obtain ⟨h0, ⟨p', n', c', hq, hi⟩, _⟩ := ra1
    cases hq
    exact ⟨h0, ⟨_, _, _, rfl, IntsR.store2 B1 (hi.ext F31.ext) ch1⟩, trivial⟩
  refine ⟨a1f, st1, ?_⟩
  have DA := Ext.drew a1f
  have YA := Ya1.trans DA
  have XA := X4.trans YA
  have c0 := b0.ext YA; have c1 := b1.ext YA; have c2 := b2.ext YA
  have lYA := YA.le
  refine ⟨_, fun W hW => (c1.ext hW).loadAt 0 rfl (by kernel_rfl) rfl, _, _, _, fun W hW => (c1.ext hW).loadAt 1 rfl (by kernel_rfl) rfl, _, _, _, fun W hW => (c0.ext hW).loadAt 2 rfl (by kernel_rfl) rfl, ?_⟩
  intro ss2 a2 F12
  have S12 := (FlSt.start (o := .cells ⟨[.bool false, .slice none 0 0]⟩ T_impl_Signed (0, 0)) a1f.drew).step F12
  refine Ret.at (spec_l02Mul_c (j1.ext (XA.trans F12.ext)) (i2.ext (XA.trans F12.ext)) (digs_limbs _) (digs_limbs _) (by omega) (by omega)) ?_
  rintro v a2b ⟨pa2, na2, ca2, hv, oa2, ya2⟩
  subst hv
  rw [val_digs, val_digs] at oa2
  have la2 := oa2.len
  simp only [List.length_map] at la2
  have ta2 := prod_len (x := N2.natAbs) (y := D1) (i := 18) (j := 18) (by omega) (by omega)
  rw [show N2.natAbs * D1 = ((N2.natAbs : Int) * D1).toNat by rw [← Int.natCast_mul, Int.toNat_natCast]] at ta2
  refine ⟨_, _, _, rfl, ya2, ?_⟩
  intro ss2' a2c F22
  have S22 := (S12.ext ya2).step F22
  refine Ret.at (prod_make (n := N2) (d := D1) (oa2.ints.ext F22.ext) hd1 (by omega)) ?_
  rintro v a2d ⟨ba2, pb2, nb2, cb2, hv, ra2, _, yb2⟩
  subst hv
  refine ⟨_, _, _, _, rfl, ?_⟩
  intro ss2'' a2e r2 F32 G2
  have S32 := (S22.ext yb2).step F32
  obtain ⟨hr2, hbk2⟩ := S32.get G2
  have B2 : Blk a2e r2 T_impl_Signed [.bool false, .slice none 0 0] := hbk2
  obtain ⟨a2f, st2, bb2, ch2, _⟩ := B2.storeA0 (P := P) (t := T_impl_Signed) (xs := [.bool ba2, .slice pb2 nb2 cb2]) (by kernel_rfl) rfl (by simp [Value.oneCell'])
  have Ya2 : Ext a1f.drew a2f := S32.1.chg ch2 (by simp; exact hr2)
  have ia2 : Reps a2f [.bool ba2, .slice pb2 nb2 cb2] (enc (N2 * (D1 : Int))) := by
    obtain ⟨h0, ⟨p', n', c', hq, hi⟩, _⟩ := ra2
    cases hq
    exact ⟨h0, ⟨_, _, _, rfl, IntsR.store2 B2 (hi.ext F32.ext) ch2⟩, trivial⟩
  refine ⟨a2f, st2, ?_⟩
  have XB := XA.trans Ya2
  have lYB := Ya2.le
  have g0 := c0.ext Ya2; have g1 := c1.ext Ya2; have g2 := c2.ext Ya2
  have k1 := (bb1.ext DA).ext Ya2
  have t1 := cross_len (N := N1) (E := D2) (by omega) (by omega)
  have t2 := cross_len (N := N2) (E := D1) (by omega) (by omega)
  have t3 := sum_len t1 t2
  refine ⟨_, _, _, _, k1.loadA0 (by kernel_rfl), _, _, _, _, bb2.loadA0 (by kernel_rfl), ?_⟩
  refine Ret.at (spec_l04Add_c ((ia1.ext DA).ext Ya2) ia2 (by omega) (by omega)) ?_
  rintro v w7 ⟨vs7, f7, hv, ho7, _, y7⟩
  subst hv
  rw [icap_fit (by omega)] at ho7
  have hr7 := ho7.reps
  obtain ⟨u0, up, un, uc, uz, rfl, hu, ui⟩ := open_Signed hr7 (enc_code _)
  simp only [enc, List.cons.injEq, D0.bool.injEq, D0.ints.injEq, and_true] at hu
  obtain ⟨rfl, rfl⟩ := hu
  refine ⟨_, _, _, _, rfl, ?_⟩
  intro r5 w8 hn8
  obtain ⟨w9, st9, hb9, y9⟩ := hn8.fill (P := P) (t := T_impl_Signed) (xs := [.bool (decide (N1 * (D2 : Int) + N2 * (D1 : Int) < 0)), .slice up un uc]) (by simp [Value.oneCell']) (by kernel_rfl) rfl
  refine ⟨w9, st9, ?_⟩
  have D9 := Ext.drew w9
  have Y9 := (y7.trans y9).trans D9
  have X9 := XB.trans Y9
  have lY9 := Y9.le
  have g0 := g0.ext Y9; have g1 := g1.ext Y9; have g2 := g2.ext Y9; have hb9 := hb9.ext D9
  have ui9 := (ui.ext y9).ext D9
  have lui := ui.1
  refine ⟨_, fun W hW => (hb9.ext hW).loadAt 0 rfl (by kernel_rfl) rfl, _, _, _, fun W hW => (hb9.ext hW).loadAt 1 rfl (by kernel_rfl) rfl, _, _, _, fun W hW => (g0.ext hW).loadAt 2 rfl (by kernel_rfl) rfl, _, _, _, fun W hW => (g1.ext hW).loadAt 2 rfl (by kernel_rfl) rfl, ?_⟩
  refine Ret.at (spec_l02Mul_c (i2.ext X9) (j2.ext X9) (digs_limbs _) (digs_limbs _) (by omega) (by omega)) ?_
  rintro v w10 ⟨p10, n10, c10, hv, o10, y10⟩
  subst hv
  rw [val_mul] at o10
  have l10 := o10.ints.1
  have ly10 := y10.le
  refine ⟨_, _, _, rfl, y10, ?_⟩
  refine Ret.at (spec_l05Low_c (n := N1 * D2 + N2 * D1) (ui9.ext y10) o10.ints (fun _ => rfl) (Nat.mul_pos hd1 hd2) (by omega) (by omega)) ?_
  rintro v w99 ⟨vs9, f9, hv, ho9, nd9, y99⟩
  subst hv
  obtain ⟨zb, zp, zn, zc, zz, zp2, zn2, zc2, zz2, rfl, _, _, _⟩ := open_Rat ho9.reps (redR_code _ _)
  obtain ⟨W', st', ld', ow', xx', _, _⟩ := agg_end (t := T_impl_Rat) ((g2.ext y10).ext y99) ((X9.trans y10).trans y99) (by omega) ho9 (by kernel_rfl) rfl (by omega) (by omega)
  exact ⟨_, _, _, _, _, _, _, _, rfl, W', st', _, _, _, _, _, _, _, ld', _, f9, rfl, ow', nd9, xx'⟩
  
end Go.Proofs.YtfehpaekbbmkcaaGreatDoor

namespace Go.Proofs.YtfehpaekbbmkcaaGreatDoor
open Go Go.Proofs.YtfehpaekbbmkcaaGreatDoor.Sx
set_option linter.unusedVariables false
set_option linter.unusedSimpArgs false
def ratAddOk (dx dy : List D0) : Bool := ratOk dx && (ratOk dy && ratSumOk dx dy)
def ratAdd (dx dy : List D0) : List D0 := if ratOk dx && ratOk dy then ratSum dx dy else rat0
theorem ratAdd_code (dx dy : List D0) : (ratAdd dx dy).map D0.code = [.bool, .ints, .ints] := by
  unfold ratAdd
  split
  · exact redR_code _ _
  · rfl
theorem restPut_ok {l : List (List D0)} {cur : ByteArray} {r : List D0} (hc : ∀ x ∈ l, x.map D0.code = [.str, .bool, .ints, .ints]) (h : restAddOk l cur r = true) : (restPut l cur r).length ≤ 20 := by
  simp only [restAddOk, Bool.and_eq_true] at h
  unfold restPut
  rw [← put_pick hc h.1 h.2.2.1]
  unfold pickL
  have := List.length_filterMap_le (fun c => (if c = cur then (if nzB (ratSum (restOf l cur) r) then some (ratSum (restOf l cur) r) else none) else findR l c).map fun x => D0.str c :: x) codesL
  rw [codesL_len] at this
  exact this
theorem ratSum_okk {dx dy : List D0} (hx : ratOk dx = true) (hy : ratOk dy = true) (h : ratSumOk dx dy = true) : ratOk (ratSum dx dy) = true := by
  obtain ⟨_, h1, _, _, _⟩ := ratOk_enc hx
  obtain ⟨_, h2, _, _, _⟩ := ratOk_enc hy
  exact redR_ok (Nat.mul_pos h1 h2) h
theorem restPut_rows {l : List (List D0)} {cur : ByteArray} {r : List D0} (h : restAddOk l cur r = true) : ∀ x ∈ restPut l cur r, restOk x = true := by
  simp only [restAddOk, Bool.and_eq_true] at h
  intro x hx
  unfold restPut at hx
  rcases (putGo_mem x).1 hx with ⟨hx, _⟩ | ⟨_, hnz, rfl⟩
  · exact restsOk_rows h.1 x hx
  · have hok := ratSum_okk (restOf_ok (cur := cur) (restsOk_rows h.1)) h.2.1 h.2.2.2
    obtain ⟨e, _⟩ := ratOk_enc hok
    rw [e] at hok hnz ⊢
    unfold nzB at hnz
    unfold restOk rmk
    unfold rmk at hok hnz
    simp only [Bool.and_eq_true]
    exact ⟨⟨h.2.2.1, hok⟩, hnz⟩
theorem known_len {c : ByteArray} (h : curKnown c = true) : c.size ≤ 50 := by
  unfold curKnown curIn at h
  rw [List.any_eq_true] at h
  obtain ⟨r, hr, he⟩ := h
  have e := of_decide_eq_true he
  subst e
  have all : (implTab.all fun r => decide (r.1.size ≤ 50)) = true := by decide +kernel
  rw [List.all_eq_true] at all
  exact of_decide_eq_true (all r hr)
theorem Sx.Chg.wide {a b c : World} {r : Nat} {S : List Nat} (h : Chg [r] a b) (k : Chg S b c) (hS : ∀ q ∈ S, q = r ∨ a.heap.size ≤ q) : Chg [r] a c :=
  ⟨k.os.trans h.os, k.tape.trans h.tape, k.output.trans h.output, Nat.le_trans h.size k.size, fun i hi hn => (k.block i (Nat.lt_of_lt_of_le hi h.size) fun hm => by
    rcases hS i hm with e | e
    · exact hn (by simp [e])
    · omega).trans (h.block i hi hn)⟩
theorem restRow_bulk {x : List D0} (hc : x.map D0.code = [.str, .bool, .ints, .ints]) (h : restOk x = true) : bulks x ≤ 1000 := by
  obtain ⟨a, es, rfl, h1⟩ := code_str hc
  obtain ⟨b, es, rfl, h2⟩ := code_bool h1
  obtain ⟨y, es, rfl, h3⟩ := code_ints h2
  obtain ⟨z, es, rfl, h4⟩ := code_ints h3
  have := code_nil h4; subst this
  have hr := restOk_rat h
  simp only [restOk, Bool.and_eq_true] at h
  have hk := known_len h.1.1
  obtain ⟨e, _, _, h1, h2⟩ := ratOk_enc hr
  simp only [rmk, List.cons.injEq, D0.ints.injEq, and_true] at e
  obtain ⟨_, e1, e2⟩ := e
  have e1 := congrArg List.length e1
  have e2 := congrArg List.length e2
  simp only [bulks, D0.bulk, List.map_cons, List.map_nil, List.sum_cons, List.sum_nil]
  omega
theorem restAdd_len {l : List (List D0)} {cur : ByteArray} {r : List D0} (hc : ∀ x ∈ l, x.map D0.code = [.str, .bool, .ints, .ints]) : (restAdd l cur r).length ≤ 20 := by
  unfold restAdd
  split
  · rename_i h; exact restPut_ok hc h
  · simp
theorem restAdd_rows {l : List (List D0)} {cur : ByteArray} {r : List D0} : ∀ x ∈ restAdd l cur r, restOk x = true := by
  unfold restAdd
  split
  · rename_i h; exact restPut_rows h
  · intro x hx; cases hx
theorem restAdd_bulk {l : List (List D0)} {cur : ByteArray} {r : List D0} (hc : ∀ x ∈ l, x.map D0.code = [.str, .bool, .ints, .ints]) : ∀ x ∈ restAdd l cur r, bulks x ≤ 1048576 := fun x hx => by
  have := restRow_bulk (restAdd_code hc x hx) (restAdd_rows x hx)
  omega
theorem restRow_cnt {x : List D0} (hc : x.map D0.code = [.str, .bool, .ints, .ints]) (h : restOk x = true) : cnts x ≤ 100 := by
  obtain ⟨a, es, rfl, h1⟩ := code_str hc
  obtain ⟨b, es, rfl, h2⟩ := code_bool h1
  obtain ⟨y, es, rfl, h3⟩ := code_ints h2
  obtain ⟨z, es, rfl, h4⟩ := code_ints h3
  have := code_nil h4; subst this
  have := rat_cnt (restOk_rat h)
  simp only [cnts, D0.cnt] at this ⊢
  omega
theorem spec_RatAdd_c {w : World} {xs ys : List Value} {dx dy : List D0} (h : Reps w xs dx) (g : Reps w ys dy) (hc : dx.map D0.code = [.bool, .ints, .ints]) (gc : dy.map D0.code = [.bool, .ints, .ints]) :
    Ret P n_spec_RatAdd [.agg ⟨xs⟩, .agg ⟨ys⟩] w fun v w' => ∃ vs f, v = .tuple #[.agg ⟨vs⟩, .bool (ratAddOk dx dy)] ∧ Owns w' w.heap.size vs (ratAdd dx dy) f ∧ Ext w w' := by
  cases hok : ratOk dx && ratOk dy with
  | true =>
    rw [Bool.and_eq_true] at hok
    have e1 := (ratOk_enc hok.1).1; have e2 := (ratOk_enc hok.2).1
    have k1 := hok.1; have k2 := hok.2
    rw [e1] at h k1; rw [e2] at g k2
    refine (spec_RatAdd_n h g k1 k2).mono ?_
    rintro v w' ⟨vs, f, hv, ho, _, y⟩
    refine ⟨vs, f, ?_, ?_, y⟩
    · rw [hv, ratAddOk, hok.1, hok.2]; rfl
    · unfold ratAdd
      rw [hok.1, hok.2]
      exact ho
  | false =>
    have hk : ratAddOk dx dy = false := by
      unfold ratAddOk
      rw [← Bool.and_assoc, hok]; rfl
    have hr := h; have gr := g
    obtain ⟨a0, a1p, a1n, a1c, a1z, a2p, a2n, a2c, a2z, rfl, ed, _, _⟩ := open_Rat h hc
    obtain ⟨b0, b1p, b1n, b1c, b1z, b2p, b2n, b2c, b2z, rfl, ed2, _, _⟩ := open_Rat g gc
    refine spec_RatAdd_ret ?_
    unfold spec_RatAdd
    intro r w1 hn1 r1 w2 hn2 r2 w3 hn3
    have e1 := hn1.r_eq; have e2 := hn2.r_eq; have e3 := hn3.r_eq; have z1 := hn1.size; have z2 := hn2.size; have z3 := hn3.size
    have X := (hn1.ext.trans hn2.ext).trans hn3.ext
    have b0 := (hn1.blk.ext hn2.ext).ext hn3.ext; have b1 := hn2.blk.ext hn3.ext; have b2 := hn3.blk
    have fin : ∀ W, Ext w3 W → ∃ wv_4, Stores P T_impl_Rat ⟨r2, 0, none⟩ (.agg #[(.bool false), (.slice none 0 0), (.slice none 0 0)]) W wv_4 ∧
      ∃ (r0_1 : Bool) (r1_p_1 : Option Addr) (r1_n_1 : Nat) (r1_c_1 : Nat) (r2_p_1 : Option Addr) (r2_n_1 : Nat) (r2_c_1 : Nat), Loads P T_impl_Rat ⟨r2, 0, none⟩ (.agg #[(.bool r0_1), (.slice r1_p_1 r1_n_1 r1_c_1), (.slice r2_p_1 r2_n_1 r2_c_1)]) wv_4 ∧ ∃ vs f, Value.tuple #[(.agg #[(.bool r0_1), (.slice r1_p_1 r1_n_1 r1_c_1), (.slice r2_p_1 r2_n_1 r2_c_1)]), .bool false] = .tuple #[.agg ⟨vs⟩, .bool (ratAddOk dx dy)] ∧ Owns wv_4 w.heap.size vs (ratAdd dx dy) f ∧ Ext w wv_4 := fun W hW => by
      obtain ⟨w5, st5, b5, ch5, sz5⟩ := (b2.ext hW).storeA0 (P := P) (t := T_impl_Rat) (xs := [.bool false, .slice none 0 0, .slice none 0 0]) (by kernel_rfl) rfl (by simp [Value.oneCell'])
      refine ⟨w5, st5, _, _, _, _, _, _, _, b5.loadA0 (by kernel_rfl), _, [], by rw [hk], ?_, (X.trans hW).chg ch5 (by simp; omega)⟩
      unfold ratAdd
      rw [hok]
      exact own_rat0 _ _
    refine ⟨_, _, _, _, _, _, _, b0.loadA0 (by kernel_rfl), ?_⟩
    refine Ret.at (spec_RatOk_c (hr.ext X) hc) ?_
    rintro v w5 ⟨hv, y5⟩
    subst hv
    refine ⟨_, rfl, ifN (fun hh => ifT (fin _ y5)) (fun h1 => ⟨_, _, _, _, _, _, _, (b1.ext y5).loadA0 (by kernel_rfl), ?_⟩)⟩
    refine Ret.at (spec_RatOk_c (gr.ext (X.trans y5)) gc) ?_
    rintro v w4 ⟨hv, y4⟩
    subst hv
    rw [h1, Bool.true_and] at hok
    exact ⟨_, rfl, ifN (fun _ => fin _ (y5.trans y4)) (fun hh => absurd hh (by rw [hok]; simp))⟩
theorem spec_RestAdd_j0_c {w W : World} {p : Option Addr} {n c r1 : Nat} {l : List (List D0)} {cur : ByteArray} {r : List D0} {vs : List Value} {fs0 : List Nat} (h : RowsR w 4 p n c l) (hc : ∀ x ∈ l, x.map D0.code = [.str, .bool, .ints, .ints]) (hn : n ≤ 1048576) (hb : ∀ x ∈ l, bulks x ≤ 1048576)
    (X : Ext w W) (ho : Owns W w.heap.size vs (ratSum (restOf l cur) r) fs0) (b1 : Blk W r1 T_impl_Rat vs) (hok : restAddOk l cur r = true) :
    spec_RestAdd_j0 p n c cur r1 W fun v w' => ∃ p' n' c', v = .tuple #[.slice p' n' c', .bool (restAddOk l cur r)] ∧ RowsR w' 4 p' n' c' (restAdd l cur r) ∧ Ext w w' := by
  have hz := h.1; have hcap := h.2.1; have hcm := h.2.2.1
  have lX := X.le
  obtain ⟨s0, s1p, s1n, s1c, s1z, s2p, s2n, s2c, s2z, rfl, hsd, _, _⟩ := open_Rat ho.reps (redR_code _ _)
  unfold spec_RestAdd_j0
  intro r2 w9 hn9
  have e9 := hn9.r_eq; have z9 := hn9.size
  refine Ret.at (spec_l19Copy_c (h.ext (X.trans hn9.ext)) hc hn hb) ?_
  rintro v w10 ⟨p3, c3, css, fs, hv, hall, how, hdis, y10⟩
  subst hv
  have l10 := y10.le
  have N10 := hn9.ext.trans y10
  obtain ⟨Inv, hI⟩ : ∃ I : Option Addr → Nat → Nat → Bool → Int → World → Prop, ∀ op on oc done i wr, I op on oc done i wr ↔ ∃ (j : Nat) (O : List (List D0)), i = j ∧ j ≤ n ∧ RowsW wr w.heap.size T_impl_Rest 4 op on oc O ∧ on ≤ j + 1 ∧ (done = false → on ≤ j) ∧ (∀ q, op.map (·.block) = some q → q = r2 ∨ w10.heap.size ≤ q) ∧ Ext W wr ∧ Chg [r2] w10 wr ∧ O ++ putGo cur (ratSum (restOf l cur) r) (nzB (ratSum (restOf l cur) r)) done (l.drop j) = restPut l cur r := ⟨_, fun _ _ _ _ _ _ => Iff.rfl⟩
  obtain ⟨mu, hmu⟩ : ∃ m : Option Addr → Nat → Nat → Bool → Int → World → Nat, ∀ op on oc done i wr, m op on oc done i wr = n - i.toNat := ⟨fun _ _ _ _ i _ => n - i.toNat, fun _ _ _ _ _ _ => rfl⟩
  refine ⟨_, _, _, rfl, Inv, mu, (hI _ _ _ _ _ _).2 ⟨0, [], rfl, by omega, (RowsW.fresh hn9 (by omega)).ext y10, by omega, fun _ => by omega, fun q hq => .inl (by simp at hq; omega), N10, Chg.refl _ _, rfl⟩, ?_⟩
  intro junk wr op on oc done i hinv
  obtain ⟨j, O, hi, hj, hO, hon, hond, hblk, hxW, hx, hput⟩ := (hI _ _ _ _ _ _).1 hinv
  subst hi
  have lx := hx.size; have lxW := hxW.le
  have hOl := hO.1
  have opl : ∀ q ∈ (op.map (·.block)).toList, q = r2 ∨ w10.heap.size ≤ q := fun q hq => hblk q (opt_mem hq)
  have sumLd : ∀ W2, Ext wr W2 → Loads P T_impl_Rat ⟨r1, 0, none⟩ (.agg ⟨[.bool s0, .slice s1p s1n s1c, .slice s2p s2n s2c]⟩) W2 := fun W2 hW2 => (b1.ext (hxW.trans hW2)).loadA0 (by kernel_rfl)
  have sumR : ∀ W2, Ext wr W2 → Reps W2 [.bool s0, .slice s1p s1n s1c, .slice s2p s2n s2c] (ratSum (restOf l cur) r) := fun W2 hW2 => (ho.ext (hxW.trans hW2)).reps
  have nz : nzB (ratSum (restOf l cur) r) = !(decide (rsign (ratSum (restOf l cur) r) = 0)) := rfl
  have sumPush : ∀ W2, Ext wr W2 → ∀ (r4 : Nat) (w15 : World), New W2 (.cells ⟨[.string cur, .bool s0, .slice s1p s1n s1c, .slice s2p s2n s2c]⟩ T_impl_Rest (0, 0)) r4 w15 →
      ∃ p' c' w', Appends P [T_s_impl_Rest, T_s_impl_Rest] [.slice op on oc, .slice (some ⟨r4, 0, none⟩) 1 1] (.slice p' (on + 1) c') w15 w' ∧ RowsW w' w.heap.size T_impl_Rest 4 p' (on + 1) c' (O ++ [.str cur :: ratSum (restOf l cur) r]) ∧ Ext W w' ∧ Chg [r2] w10 w' ∧ Chg (op.map (·.block)).toList W2 w' ∧ (∀ q, p'.map (·.block) = some q → q = r2 ∨ w10.heap.size ≤ q) := by
    intro W2 hW2 r4 w15 hn15
    have Y := hW2.trans hn15.ext
    have lY := Y.le
    have ho15 := Owns.append (Owns.str w15 w.heap.size cur) (ho.ext (hxW.trans Y))
    obtain ⟨p', c', w', ha, hR, ch, hp⟩ := (hO.ext Y).push (P := P) sliceT_rest (by omega) hn15.blk rfl ho15 (fun y hy e => by
      have h1 := (ho.lt y (by simpa using hy)).2
      have h2 := hblk y e
      omega) (by omega) (by omega)
    refine ⟨p', c', w', ha, hR, (hxW.trans Y).chg ch fun q hq => ?_, (hx.trans Y.toChg).wide ch opl, hn15.ext.toChg.trans ch, fun q hq => ?_⟩
    · have := opl q hq; omega
    · rcases hp with hp | hp
      · rw [hp] at hq; exact hblk q hq
      · have := hp q hq; exact .inr (by omega)
  refine ifD (fun hlt => ?_) (fun hge => ?_)
  · have hjn : j < n := by omega
    have hjl : j < l.length := by omega
    obtain ⟨cs, f, hcs, hfs, hk, hoj, hdrop⟩ := hall.getO j _ (List.getElem?_eq_getElem hjl)
    obtain ⟨b, hpb, hbB, hseg⟩ := how.seg (by omega)
    subst hpb
    have hfl : ∀ y ∈ f, w9.heap.size ≤ y ∧ y < w10.heap.size := hoj.lt
    have oj : ∀ W2, Chg [r2] w10 W2 → Owns W2 w.heap.size cs (l[j]'hjl) f := fun W2 hW2 => (hoj.chg hW2 (fun k hk hm => by have := hfl k hk; simp at hm; omega)).mono (by omega)
    have hrr := (oj wr hx).reps
    have hcode := hc _ (List.getElem_mem hjl)
    have hld := (hseg.chg hx (by simp; omega)).loadAAt (P := P) (t := T_impl_Rest) (a := (⟨b, 0, none⟩ : Addr).add (j * 4)) (j * 4) cs (addr_add _ _ _) (by rw [hk]; kernel_rfl) (by rw [hk]; exact hdrop)
    obtain ⟨a0, a1, a2p, a2n, a2c, a2z, a3p, a3n, a3c, a3z, rfl, hd, _, _⟩ := open_Rest hrr hcode
    have hdj : l.drop j = l[j]'hjl :: l.drop (j + 1) := List.drop_eq_getElem_cons hjl
    have hrs : rowStr (l[j]'hjl) = a0 := by rw [hd]; rfl
    rw [hdj, putGo, hrs] at hput
    refine ⟨⟨by omega, by omega⟩, _, _, _, _, _, _, _, _, hld, ?_⟩
    intro r3 w12 hn12
    have e12 := hn12.r_eq
    obtain ⟨w13, st, b13, y13⟩ := hn12.fill (P := P) (t := T_impl_Rest) hrr.cells1 (by kernel_rfl) rfl
    have l13 := y13.le
    have next : ∀ (op2 : Option Addr) (on2 oc2 : Nat) (d2 : Bool) (O2 : List (List D0)) (W2 : World), RowsW W2 w.heap.size T_impl_Rest 4 op2 on2 oc2 O2 → on2 ≤ j + 2 → (d2 = false → on2 ≤ j + 1) → (∀ q, op2.map (·.block) = some q → q = r2 ∨ w10.heap.size ≤ q) → Ext W W2 → Chg [r2] w10 W2 → O2 ++ putGo cur (ratSum (restOf l cur) r) (nzB (ratSum (restOf l cur) r)) d2 (l.drop (j + 1)) = restPut l cur r →
        spec_RestAdd_j1 wr Inv mu op on oc done (j : Int) op2 on2 oc2 d2 W2 fun v w' => ∃ p' n' c', v = .tuple #[.slice p' n' c', .bool (restAddOk l cur r)] ∧ RowsR w' 4 p' n' c' (restAdd l cur r) ∧ Ext w w' := by
      intro op2 on2 oc2 d2 O2 W2 h1 h2 h3 h4 h5 h6 h7
      unfold spec_RestAdd_j1
      refine exW ⟨by omega, by omega⟩ ⟨(hI _ _ _ _ _ _).2 ⟨j + 1, O2, rfl, by omega, h1, by omega, fun hh => by have := h3 hh; omega, h4, h5, h6, h7⟩, ?_⟩
      rw [hmu, hmu]; omega
    -- the row itself, pushed
    have rowPush : ∀ (op2 : Option Addr) (on2 oc2 : Nat) (d2 : Bool) (O2 : List (List D0)) (W2 : World), RowsW W2 w.heap.size T_impl_Rest 4 op2 on2 oc2 O2 → on2 ≤ j + 1 → (d2 = false → on2 ≤ j) → (∀ q, op2.map (·.block) = some q → q = r2 ∨ w10.heap.size ≤ q) → Ext W W2 → Chg [r2] w10 W2 → Blk W2 r3 T_impl_Rest [.string a0, .bool a1, .slice a2p a2n a2c, .slice a3p a3n a3c] → O2 ++ (l[j]'hjl :: putGo cur (ratSum (restOf l cur) r) (nzB (ratSum (restOf l cur) r)) d2 (l.drop (j + 1))) = restPut l cur r →
        spec_RestAdd_j2 wr Inv mu op on oc done (j : Int) r3 op2 on2 oc2 d2 W2 fun v w' => ∃ p' n' c', v = .tuple #[.slice p' n' c', .bool (restAddOk l cur r)] ∧ RowsR w' 4 p' n' c' (restAdd l cur r) ∧ Ext w w' := by
      intro op2 on2 oc2 d2 O2 W2 h1 h2 h3 h4 h5 h6 hb3 h7
      unfold spec_RestAdd_j2
      refine ⟨_, _, _, _, _, _, _, _, hb3.loadA0 (by kernel_rfl), ?_⟩
      intro r5 w17 hn17
      have l5 := h5.le; have l6 := h6.size; have l17 := hn17.ext.le
      obtain ⟨p', c', w', ha, hR, ch, hp⟩ := (h1.ext hn17.ext).push (P := P) sliceT_rest (by omega) hn17.blk rfl (oj _ (h6.trans hn17.ext.toChg)) (fun y hy e => by
        have h8 := hfl y hy
        have h9 := h4 y e
        omega) (by omega) (by omega)
      have opl2 : ∀ q ∈ (op2.map (·.block)).toList, q = r2 ∨ w10.heap.size ≤ q := fun q hq => h4 q (opt_mem hq)
      refine ⟨p', _, c', w', ha, next p' (on2 + 1) c' d2 _ w' hR (by omega) (fun hh => by have := h3 hh; omega) (fun q hq => ?_) ((h5.trans hn17.ext).chg ch fun q hq => by have := opl2 q hq; omega) ((h6.trans hn17.ext.toChg).wide ch opl2) (by rw [List.append_assoc]; exact h7)⟩
      rcases hp with hp | hp
      · rw [hp] at hq; exact h4 q hq
      · have := hp q hq; exact .inr (by omega)
    have Y13 := y13
    have hO13 := hO.ext Y13
    refine ⟨w13, st, _, b13.loadAt 0 rfl (by kernel_rfl) rfl, ifD (fun heq => ?_) (fun hne => ?_)⟩
    · rw [if_pos heq] at hput
      exact next op on oc done O w13 hO13 (by omega) (fun hh => by have := hond hh; omega) hblk (hxW.trans Y13) (hx.trans Y13.toChg) hput
    · rw [if_neg hne] at hput
      refine ifN (fun hdf => ?_) (fun hdt => ?_)
      · subst hdf
        refine ⟨_, b13.loadAt 0 rfl (by kernel_rfl) rfl, fun hgt => ?_, fun hle => ifF ?_⟩
        · refine ⟨_, _, _, _, _, _, _, sumLd w13 Y13, ?_⟩
          refine Ret.at (spec_RatSign_c (sumR w13 Y13) (redR_code _ _)) ?_
          rintro v w14 ⟨hv, y14⟩
          subst hv
          have Y14 := Y13.trans y14
          have bl : (!(bLess a0 cur || decide (a0 = cur))) = true := hgt
          refine ⟨_, rfl, ifD (fun hnz => ?_) (fun hz => ?_)⟩
          · have hz' : nzB (ratSum (restOf l cur) r) = true := by rw [nz, decide_eq_false hnz]; rfl
            rw [bl, hz'] at hput
            refine ⟨_, _, _, _, _, _, _, sumLd w14 Y14, ?_⟩
            intro r4 w15 hn15
            obtain ⟨p', c', w16, ha, hR, hE, hC, hC2, hq⟩ := sumPush w14 Y14 r4 w15 hn15
            refine ⟨p', _, c', w16, ha, rowPush p' (on + 1) c' true _ w16 hR (by have := hond rfl; omega) (fun hh => by cases hh) hq hE hC ?_ ?_⟩
            · refine ((b13.ext y14)).chg hC2 fun hm => ?_
              have := opl r3 hm
              have h2 : ∀ q ∈ (op.map (·.block)).toList, q < wr.heap.size := fun q hq => by
                obtain ⟨_, css', fs', _, ow, _⟩ := hO
                exact (World.ownsRow.lt ow q (by cases op <;> simp_all [Value.ownBlock])).2
              have := h2 r3 hm
              omega
            · rw [hz', List.append_assoc]; exact hput
          · have hz' : nzB (ratSum (restOf l cur) r) = false := by rw [nz, decide_eq_true (by simpa using hz)]; rfl
            rw [hz', Bool.and_false] at hput
            refine rowPush op on oc false O w14 (hO.ext Y14) (by omega) (fun hh => hond rfl) hblk (hxW.trans Y14) (hx.trans Y14.toChg) (b13.ext y14) ?_
            rw [hz']; exact hput
        · have bl : (!(bLess a0 cur || decide (a0 = cur))) = false := hle
          rw [bl, Bool.and_false, Bool.false_and] at hput
          exact rowPush op on oc false O w13 hO13 (by omega) (fun hh => hond rfl) hblk (hxW.trans Y13) (hx.trans Y13.toChg) b13 hput
      · subst hdt
        refine ifF (ifF ?_)
        exact rowPush op on oc true O w13 hO13 (by omega) (fun hh => by cases hh) hblk (hxW.trans Y13) (hx.trans Y13.toChg) b13 hput
  · have hjn : j = l.length := by omega
    rw [hjn, List.drop_length, putGo] at hput
    have ret : ∀ (op2 : Option Addr) (on2 oc2 : Nat) (O2 : List (List D0)) (W2 : World), RowsW W2 w.heap.size T_impl_Rest 4 op2 on2 oc2 O2 → Ext W W2 → O2 = restPut l cur r → spec_RestAdd_j3 op2 on2 oc2 W2 fun v w' => ∃ p' n' c', v = .tuple #[.slice p' n' c', .bool (restAddOk l cur r)] ∧ RowsR w' 4 p' n' c' (restAdd l cur r) ∧ Ext w w' := by
      intro op2 on2 oc2 O2 W2 h1 h2 h3
      unfold spec_RestAdd_j3
      refine ⟨_, _, _, by rw [hok], ?_, X.trans h2⟩
      unfold restAdd
      rw [if_pos hok, ← h3]
      exact h1.rows
    refine ifN (fun hdf => ?_) (fun hdt => ?_)
    · subst hdf
      refine ⟨_, _, _, _, _, _, _, sumLd wr (Ext.refl _), ?_⟩
      refine Ret.at (spec_RatSign_c (sumR wr (Ext.refl _)) (redR_code _ _)) ?_
      rintro v w14 ⟨hv, y14⟩
      subst hv
      refine ⟨_, rfl, ifD (fun hnz => ?_) (fun hz => ?_)⟩
      · have hz' : nzB (ratSum (restOf l cur) r) = true := by rw [nz, decide_eq_false hnz]; rfl
        rw [hz'] at hput
        refine ⟨_, _, _, _, _, _, _, sumLd w14 y14, ?_⟩
        intro r4 w15 hn15
        obtain ⟨p', c', w16, ha, hR, hE, hC, hC2, hq⟩ := sumPush w14 y14 r4 w15 hn15
        exact ⟨p', _, c', w16, ha, ret p' (on + 1) c' _ w16 hR hE hput⟩
      · have hz' : nzB (ratSum (restOf l cur) r) = false := by rw [nz, decide_eq_true (by simpa using hz)]; rfl
        rw [hz'] at hput
        exact ret op on oc O w14 (hO.ext y14) (hxW.trans y14) (by simpa using hput)
    · subst hdt
      exact ifF (ret op on oc O wr hO hxW (by simpa using hput))
theorem spec_RestAdd_o {w : World} {p : Option Addr} {n c : Nat} {l : List (List D0)} (h : RowsR w 4 p n c l) (hc : ∀ x ∈ l, x.map D0.code = [.str, .bool, .ints, .ints]) (hn : n ≤ 1048576) (hb : ∀ x ∈ l, bulks x ≤ 1048576) (cur : ByteArray)
    {xs : List Value} {dx : List D0} (g : Reps w xs dx) (gc : dx.map D0.code = [.bool, .ints, .ints]) :
    Ret P n_spec_RestAdd [.slice p n c, .string cur, .agg ⟨xs⟩] w fun v w' => ∃ p' n' c', v = .tuple #[.slice p' n' c', .bool (restAddOk l cur dx)] ∧ RowsR w' 4 p' n' c' (restAdd l cur dx) ∧ Ext w w' := by
  have gr := g
  obtain ⟨a0, a1p, a1n, a1c, a1z, a2p, a2n, a2c, a2z, rfl, ed, _, _⟩ := open_Rat g gc
  refine spec_RestAdd_ret ?_
  unfold spec_RestAdd
  intro r w1 hn1 ss w2 f1
  have e1 := hn1.r_eq; have z1 := hn1.size
  have D := Ext.drew w1
  have F1 := (FlSt.start w1.drew).step f1
  have X2 := (hn1.ext.trans D).trans f1.ext
  refine Ret.at (spec_RestOf_c (h.ext X2) hc hn hb cur) ?_
  rintro v w3 ⟨vs, hv, hvs, hvc, y3⟩
  subst hv
  have F3 := F1.ext y3
  obtain ⟨b0, b1p, b1n, b1c, b1z, b2p, b2n, b2c, b2z, rfl, _, _, _⟩ := open_Rat hvs hvc
  refine ⟨_, _, _, _, _, _, _, rfl, y3, _, _, _, _, _, _, _, fun W hW => ((hn1.blk.ext D).ext hW).loadA0 (by kernel_rfl), ?_⟩
  intro ss2 w4 f2
  have F4 := F3.step f2
  have X4 := (X2.trans y3).trans f2.ext
  refine Ret.at (spec_RatAdd_c (hvs.ext f2.ext) (gr.ext X4) hvc gc) ?_
  rintro v w5 ⟨us, fu, hv, hou, y5⟩
  subst hv
  have F5 := F4.ext y5
  obtain ⟨u0, u1p, u1n, u1c, u1z, u2p, u2n, u2c, u2z, rfl, _, _, _⟩ := open_Rat hou.reps (ratAdd_code _ _)
  refine ⟨_, _, _, _, _, _, _, _, rfl, ?_⟩
  intro ss3 w6 r1 f3 g3
  have F6 := F5.step f3
  obtain ⟨hr1, hb1⟩ := F6.get g3
  have X5 := (X4.trans y5).trans f3.ext
  have lD := D.le
  obtain ⟨w7, st7, b7, ch7, sz7⟩ := (show Blk w6 r1 T_impl_Rat [.bool false, .slice none 0 0, .slice none 0 0] from hb1).storeA0 (P := P) (t := T_impl_Rat) (xs := [.bool u0, .slice u1p u1n u1c, .slice u2p u2n u2c]) (by kernel_rfl) rfl (by simp [Value.oneCell'])
  have X7 := X5.chg ch7 (by simp; omega)
  have l4 := X4.le
  have r1u : ∀ k ∈ fu, k ∉ [r1] := fun k hk hm => by
    have hlt := hou.lt k hk
    simp only [List.mem_singleton] at hm
    subst hm
    rcases F4.2 with e | ⟨q, e, _, hq⟩
    · subst e
      have := (f3.got (k := 0) rfl rfl g3).1
      omega
    · subst e
      have := (f3.keeps (k := 0) rfl).symm.trans g3
      simp only [Option.some.injEq] at this
      subst this
      have := (Array.getElem?_eq_some_iff.1 hq).1
      omega
  have ou7 := ((hou.ext f3.ext).chg ch7 r1u).mono (B' := w.heap.size) (by omega)
  refine ⟨w7, st7, ?_⟩
  have no : ∀ W, Ext w7 W → restAddOk l cur dx = false → ∃ p' n' c', Value.tuple #[.slice none 0 0, .bool false] = .tuple #[.slice p' n' c', .bool (restAddOk l cur dx)] ∧ RowsR W 4 p' n' c' (restAdd l cur dx) ∧ Ext w W := fun W hW hno => by
    refine ⟨none, 0, 0, by rw [hno], ?_, X7.trans hW⟩
    unfold restAdd
    rw [hno]
    exact RowsR.nil _ _ _ (by omega)
  refine Ret.at (spec_RestsOk_c (h.ext X7) hc hn hb) ?_
  rintro v w8 ⟨hv, y8⟩
  subst hv
  refine ⟨_, rfl, ifN (fun hno => ifT (ifT (no w8 y8 (by unfold restAddOk; rw [hno]; rfl)))) (fun hyes => ?_)⟩
  refine Ret.at (spec_CurKnown_c cur) ?_
  rintro v w9 ⟨hv, y9⟩
  subst hv
  have Y9 := y8.trans y9
  refine ⟨_, rfl, ifN (fun hno => ifT (no w9 Y9 (by unfold restAddOk; rw [hno]; simp))) (fun hk => ?_)⟩
  have hro := restOf_ok (cur := cur) (restsOk_rows hyes)
  refine ifN (fun hno => no w9 Y9 ?_) (fun hy => ?_)
  · unfold ratAddOk at hno
    rw [hro, Bool.true_and] at hno
    unfold restAddOk
    rw [hyes, hk, Bool.true_and, Bool.true_and]
    exact hno
  · unfold ratAddOk at hy
    simp only [Bool.and_eq_true] at hy
    have hok : restAddOk l cur dx = true := by
      unfold restAddOk
      rw [hyes, hk, hy.2.1, hy.2.2]; rfl
    have e : ratAdd (restOf l cur) dx = ratSum (restOf l cur) dx := by
      unfold ratAdd
      rw [hro, hy.2.1]; rfl
    rw [e] at ou7
    exact spec_RestAdd_j0_c h hc hn hb (X7.trans Y9) (ou7.ext Y9) (b7.ext Y9) hok
end Go.Proofs.YtfehpaekbbmkcaaGreatDoor

namespace Go.Proofs.YtfehpaekbbmkcaaGreatDoor.Sx
open Go Go.RowKit Go.MapKept
set_option linter.unusedVariables false
set_option linter.unusedSimpArgs false
/-- the map at r has what f tells -/
def MapB (w : World) (r : Nat) (f : ByteArray → Option Value) : Prop :=
  ∃ es clock, w.heap[r]? = some (.map es clock) ∧ (∀ x ∈ es.toList, IsKey .string x.key) ∧ (es.toList.map (·.key)).Nodup ∧ ∀ k v, f k = some v ↔ ∃ (i : Nat) (e : MapEntry), es.toList[i]? = some e ∧ e.key = .string k ∧ e.val = v
theorem MapB.lt {w : World} {r : Nat} {f : ByteArray → Option Value} (h : MapB w r f) : r < w.heap.size := by
  obtain ⟨es, clock, hb, _⟩ := h
  exact (Array.getElem?_eq_some_iff.1 hb).1
theorem MapB.ext {w w' : World} {r : Nat} {f : ByteArray → Option Value} (h : MapB w r f) (he : Ext w w') : MapB w' r f := by
  have hl := h.lt
  obtain ⟨es, clock, hb, h2⟩ := h
  exact ⟨es, clock, (he.block r hl).trans hb, h2⟩
theorem MapB.chg {S : List Nat} {w w' : World} {r : Nat} {f : ByteArray → Option Value} (h : MapB w r f) (he : Chg S w w') (hr : r ∉ S) : MapB w' r f := by
  have hl := h.lt
  obtain ⟨es, clock, hb, h2⟩ := h
  exact ⟨es, clock, (he.block r hl hr).trans hb, h2⟩
theorem MapB.new {w w' : World} {r : Nat} (h : New w (.map #[] 0) r w') : MapB w' r fun _ => none := by
  obtain ⟨rfl, rfl⟩ := h
  exact ⟨#[], 0, heap_alloc_new w _, by simp, by simp, by simp⟩
theorem key_ne {es : List MapEntry} (hn : (es.map (·.key)).Nodup) {i j : Nat} {a b : MapEntry} (ha : es[i]? = some a) (hb : es[j]? = some b) (hk : a.key = b.key) : i = j := by
  obtain ⟨hi, ha'⟩ := List.getElem?_eq_some_iff.1 ha
  obtain ⟨hj, hb'⟩ := List.getElem?_eq_some_iff.1 hb
  rcases Nat.lt_trichotomy i j with h | h | h
  · exact absurd (by rw [List.getElem_map, List.getElem_map, ha', hb', hk]) (List.pairwise_iff_getElem.1 hn i j (by simpa using hi) (by simpa using hj) h)
  · exact h
  · exact absurd (by rw [List.getElem_map, List.getElem_map, ha', hb', hk]) (List.pairwise_iff_getElem.1 hn j i (by simpa using hj) (by simpa using hi) h)
section
variable {P : Program} {w : World} {r : Nat} {f : ByteArray → Option Value} {t kt et : TypeId}
theorem MapB.looks (h : MapB w r f) (hu : P.underlying t = some (.map kt et)) (hk : P.underlying kt = some .string) {k : ByteArray} {v : Value} (hv : f k = some v) : Looks P t (.map (some r)) (.string k) true (.tuple #[v, .bool true]) w := by
  obtain ⟨es, clock, hb, hks, hn, hf⟩ := h
  have hik : IsKey .string (.string k) := trivial
  unfold Looks
  rcases findNow_spec hik es.toList 0 hks with ⟨h1, h2⟩ | ⟨j, e, h1, h2, h3⟩
  · obtain ⟨i, e, hi, hke, _⟩ := (hf k v).1 hv
    exact absurd hke (h2 e (List.mem_of_getElem? hi))
  · have := (hf k e.val).2 ⟨j, e, h2, h3, rfl⟩
    rw [hv] at this
    obtain rfl := Option.some.inj this
    simp [Instr.lookup, underlying_run hu, MapKept.run_getObj_map hb, run_checkKey hk hik, run_findKey hk h1, Result.andThen]
theorem MapB.looks0 (h : MapB w r f) (hu : P.underlying t = some (.map kt et)) (hk : P.underlying kt = some .string) {inf : TypeInfo} {z : Value} (hi : P.info? et = some inf) (hz : inf.zero = some z) {k : ByteArray} (hv : f k = none) : Looks P t (.map (some r)) (.string k) true (.tuple #[z, .bool false]) w := by
  obtain ⟨es, clock, hb, hks, hn, hf⟩ := h
  have hik : IsKey .string (.string k) := trivial
  unfold Looks
  rcases findNow_spec hik es.toList 0 hks with ⟨h1, h2⟩ | ⟨j, e, h1, h2, h3⟩
  · simp [Instr.lookup, underlying_run hu, MapKept.run_getObj_map hb, run_checkKey hk hik, run_findKey hk h1, Result.andThen, zeroValue, typeInfo_run hi, hz]
  · have := (hf k e.val).2 ⟨j, e, h2, h3, rfl⟩
    rw [hv] at this
    cases this
theorem set_chg {w : World} {r : Nat} {o o' : Obj} (hb : w.heap[r]? = some o) : Chg [r] w { w with heap := w.heap.setIfInBounds r o' } :=
  ⟨rfl, rfl, rfl, by simp, fun k _ hk => (heap_set hb).2 k (by simpa using hk)⟩
theorem MapB.updates (h : MapB w r f) (hu : P.underlying t = some (.map kt et)) (hk : P.underlying kt = some .string) (k : ByteArray) (v : Value) :
    ∃ w', Updates P t (.map (some r)) (.string k) v w w' ∧ MapB w' r (fun x => if x = k then some v else f x) ∧ Chg [r] w w' ∧ w'.heap.size = w.heap.size := by
  obtain ⟨es, clock, hb, hks, hn, hf⟩ := h
  have hik : IsKey .string (.string k) := trivial
  rcases findNow_spec hik es.toList 0 hks with ⟨h1, h2⟩ | ⟨j, e, h1, h2, h3⟩
  · refine ⟨{ w with heap := w.heap.setIfInBounds r (.map (es.push { key := .string k, val := v, born := clock }) (clock + 1)) }, ?_, ?_, set_chg hb, by simp⟩
    · unfold Updates
      simp [Instr.mapUpdate, underlying_run hu, MapKept.run_getObj_map hb, run_checkKey hk hik, run_findKey hk h1, run_setObj_map _ hb, Result.andThen]
    · refine ⟨_, _, (heap_set hb).1, ?_, ?_, ?_⟩
      · intro x hx
        simp only [Array.toList_push, List.mem_append, List.mem_singleton] at hx
        rcases hx with hx | rfl
        · exact hks x hx
        · exact hik
      · simp only [Array.toList_push, List.map_append, List.map_cons, List.map_nil]
        refine List.nodup_append.2 ⟨hn, by simp, ?_⟩
        intro a ha b hb
        simp only [List.mem_singleton] at hb
        subst hb
        obtain ⟨x, hx, rfl⟩ := List.mem_map.1 ha
        exact h2 x hx
      · intro x v'
        simp only [Array.toList_push]
        by_cases hx : x = k
        · subst hx
          rw [if_pos rfl]
          constructor
          · intro e
            refine ⟨es.toList.length, _, by rw [List.getElem?_append_right (Nat.le_refl _), Nat.sub_self]; rfl, rfl, Option.some.inj e⟩
          · rintro ⟨i, e, hi, hke, rfl⟩
            rcases Nat.lt_or_ge i es.toList.length with hl | hl
            · rw [List.getElem?_append_left hl] at hi
              exact absurd hke (h2 e (List.mem_of_getElem? hi))
            · rw [List.getElem?_append_right hl] at hi
              have := List.mem_of_getElem? hi
              simp only [List.mem_singleton] at this
              rw [this]
        · rw [if_neg hx, hf]
          constructor
          · rintro ⟨i, e, hi, hke, hv⟩
            exact ⟨i, e, by rw [List.getElem?_append_left (List.getElem?_eq_some_iff.1 hi).1]; exact hi, hke, hv⟩
          · rintro ⟨i, e, hi, hke, hv⟩
            rcases Nat.lt_or_ge i es.toList.length with hl | hl
            · rw [List.getElem?_append_left hl] at hi
              exact ⟨i, e, hi, hke, hv⟩
            · rw [List.getElem?_append_right hl] at hi
              have := List.mem_of_getElem? hi
              simp only [List.mem_singleton] at this
              rw [this] at hke
              simp only [Value.string.injEq] at hke
              exact absurd hke.symm hx
  · have hj : es[j]? = some e := by simpa using h2
    have hkey : ∀ e', es[j]? = some e' → ({ e' with key := .string k, val := v } : MapEntry).key = e'.key := fun e' he' => by rw [hj] at he'; cases he'; exact h3.symm
    have hget : ∀ i, (es.modify j fun e => { e with key := .string k, val := v }).toList[i]? = if j = i then es.toList[i]?.map (fun e => { e with key := .string k, val := v }) else es.toList[i]? := fun i => by
      rw [Array.getElem?_toList, Array.getElem?_modify, Array.getElem?_toList]
    refine ⟨{ w with heap := w.heap.setIfInBounds r (.map (es.modify j fun e => { e with key := .string k, val := v }) clock) }, ?_, ?_, set_chg hb, by simp⟩
    · unfold Updates
      simp [Instr.mapUpdate, underlying_run hu, MapKept.run_getObj_map hb, run_checkKey hk hik, run_findKey hk h1, hj, h3, run_keyThatStays hik, run_setObj_map _ hb, Result.andThen]
    · refine ⟨_, _, (heap_set hb).1, isKey_modify hks _ _ hkey, by rw [modify_keys _ _ hkey]; exact hn, ?_⟩
      intro x v'
      show (if x = k then some v else f x) = some v' ↔ _
      by_cases hx : x = k
      · subst hx
        rw [if_pos rfl]
        constructor
        · intro e'
          exact ⟨j, _, by rw [hget, if_pos rfl, h2]; rfl, rfl, Option.some.inj e'⟩
        · rintro ⟨i, e', hi, hke, rfl⟩
          rw [hget] at hi
          split at hi
          · rename_i hij
            subst hij
            rw [h2] at hi
            simp only [Option.map_some, Option.some.injEq] at hi
            rw [← hi]
          · rename_i hij
            exact absurd (key_ne hn h2 hi (h3.trans hke.symm)) hij
      · rw [if_neg hx, hf]
        constructor
        · rintro ⟨i, e', hi, hke, hv⟩
          refine ⟨i, e', ?_, hke, hv⟩
          rw [hget, if_neg]
          · exact hi
          · rintro rfl
            rw [h2] at hi
            obtain rfl := Option.some.inj hi
            rw [h3] at hke
            simp only [Value.string.injEq] at hke
            exact hx hke.symm
        · rintro ⟨i, e', hi, hke, hv⟩
          rw [hget] at hi
          split at hi
          · rename_i hij
            subst hij
            rw [h2] at hi
            simp only [Option.map_some, Option.some.injEq] at hi
            rw [← hi] at hke
            simp only [Value.string.injEq] at hke
            exact absurd hke.symm hx
          · exact ⟨i, e', hi, hke, hv⟩
theorem MapB.deletes (h : MapB w r f) (hu : P.underlying t = some (.map kt et)) (hk : P.underlying kt = some .string) (ts : List TypeId) (k : ByteArray) :
    ∃ v w', Deletes P (t :: ts) [.map (some r), .string k] v w w' ∧ MapB w' r (fun x => if x = k then none else f x) ∧ Chg [r] w w' ∧ w'.heap.size = w.heap.size := by
  obtain ⟨es, clock, hb, hks, hn, hf⟩ := h
  have hik : IsKey .string (.string k) := trivial
  rcases findNow_spec hik es.toList 0 hks with ⟨h1, h2⟩ | ⟨j, e, h1, h2, h3⟩
  · refine ⟨.tuple #[], { w with heap := w.heap.setIfInBounds r (.map es clock) }, ?_, ?_, set_chg hb, by simp⟩
    · unfold Deletes
      simp [Builtin.delete_, underlying_run hu, MapKept.run_getObj_map hb, run_checkKey hk hik, run_findKey hk h1, run_setObj_map _ hb, Result.andThen]
    · refine ⟨_, _, (heap_set hb).1, hks, hn, ?_⟩
      intro x v'
      show (if x = k then none else f x) = some v' ↔ _
      by_cases hx : x = k
      · subst hx
        rw [if_pos rfl]
        constructor
        · intro e; cases e
        · rintro ⟨i, e, hi, hke, _⟩
          exact absurd hke (h2 e (List.mem_of_getElem? hi))
      · rw [if_neg hx, hf]
  · have hjl : j < es.size := by
      have := (List.getElem?_eq_some_iff.1 h2).1
      simpa using this
    have htl : (es.eraseIdxIfInBounds j).toList = es.toList.eraseIdx j := by
      unfold Array.eraseIdxIfInBounds
      rw [dif_pos hjl, Array.toList_eraseIdx]
    have hsub := List.eraseIdx_sublist es.toList j
    refine ⟨.tuple #[], { w with heap := w.heap.setIfInBounds r (.map (es.eraseIdxIfInBounds j) clock) }, ?_, ?_, set_chg hb, by simp⟩
    · unfold Deletes
      simp [Builtin.delete_, underlying_run hu, MapKept.run_getObj_map hb, run_checkKey hk hik, run_findKey hk h1, run_setObj_map _ hb, Result.andThen]
    · refine ⟨_, _, (heap_set hb).1, ?_, ?_, ?_⟩
      · intro x hx
        rw [htl] at hx
        exact hks x (hsub.subset hx)
      · rw [htl]
        exact (hsub.map _).nodup hn
      · intro x v'
        rw [htl]
        show (if x = k then none else f x) = some v' ↔ _
        have hmem : ∀ {e' : MapEntry}, (∃ i, (es.toList.eraseIdx j)[i]? = some e') ↔ ∃ i, i ≠ j ∧ es.toList[i]? = some e' := fun {e'} => by
          rw [← List.mem_eraseIdx_iff_getElem?, List.mem_iff_getElem?]
        by_cases hx : x = k
        · subst hx
          rw [if_pos rfl]
          constructor
          · intro e; cases e
          · rintro ⟨i, e', hi, hke, _⟩
            obtain ⟨i', hne, hi'⟩ := hmem.1 ⟨i, hi⟩
            exact absurd (key_ne hn hi' h2 (hke.trans h3.symm)) hne
        · rw [if_neg hx, hf]
          constructor
          · rintro ⟨i, e', hi, hke, hv⟩
            have hij : i ≠ j := by
              rintro rfl
              rw [h2] at hi
              obtain rfl := Option.some.inj hi
              rw [h3] at hke
              simp only [Value.string.injEq] at hke
              exact hx hke.symm
            obtain ⟨i', hi'⟩ := hmem.2 ⟨i, hij, hi⟩
            exact ⟨i', e', hi', hke, hv⟩
          · rintro ⟨i, e', hi, hke, hv⟩
            obtain ⟨i', _, hi'⟩ := hmem.1 ⟨i, hi⟩
            exact ⟨i', e', hi', hke, hv⟩
end
end Go.Proofs.YtfehpaekbbmkcaaGreatDoor.Sx

namespace Go.Proofs.YtfehpaekbbmkcaaGreatDoor.Sx
open Go Go.RowKit
set_option linter.unusedVariables false
set_option linter.unusedSimpArgs false
structure MapG (w : World) (r B : Nat) (G : ByteArray → Option (List Value × List D0 × List Nat)) : Prop where
  map : MapB w r (fun k => (G k).map fun x => .agg ⟨x.1⟩)
  own : ∀ k x, G k = some x → Owns w B x.1 x.2.1 x.2.2 ∧ x.2.2.Nodup ∧ r ∉ x.2.2
  dis : ∀ k k' x x', k ≠ k' → G k = some x → G k' = some x' → ∀ q ∈ x.2.2, q ∉ x'.2.2
theorem MapG.ext {w w' : World} {r B : Nat} {G : ByteArray → Option (List Value × List D0 × List Nat)} (h : MapG w r B G) (he : Ext w w') : MapG w' r B G :=
  ⟨h.map.ext he, fun k x hk => ⟨(h.own k x hk).1.ext he, (h.own k x hk).2⟩, h.dis⟩
theorem MapG.new {w w' : World} {r B : Nat} (h : New w (.map #[] 0) r w') : MapG w' r B fun _ => none :=
  ⟨MapB.new h, fun _ _ (hk : none = some _) => (nomatch hk), fun _ _ _ _ _ (hk : none = some _) => (nomatch hk)⟩
section
variable {P : Program} {w : World} {r B : Nat} {G : ByteArray → Option (List Value × List D0 × List Nat)} {t kt et : TypeId}
theorem MapG.updates (h : MapG w r B G) (hu : P.underlying t = some (.map kt et)) (hk : P.underlying kt = some .string) (k : ByteArray) {vs : List Value} {d : List D0} {f : List Nat} (ho : Owns w B vs d f) (hf : f.Nodup) (hr : r ∉ f)
    (hd : ∀ k' x, k' ≠ k → G k' = some x → ∀ q ∈ f, q ∉ x.2.2) :
    ∃ w', Updates P t (.map (some r)) (.string k) (.agg ⟨vs⟩) w w' ∧ MapG w' r B (fun x => if x = k then some (vs, d, f) else G x) ∧ Chg [r] w w' ∧ w'.heap.size = w.heap.size := by
  obtain ⟨w', h1, h2, h3, h4⟩ := h.map.updates (P := P) hu hk k (.agg ⟨vs⟩)
  refine ⟨w', h1, ⟨?_, ?_, ?_⟩, h3, h4⟩
  · have e : (fun x => (if x = k then some (vs, d, f) else G x).map fun x : List Value × List D0 × List Nat => Value.agg ⟨x.1⟩) = fun x => if x = k then some (.agg ⟨vs⟩) else (G x).map fun x => .agg ⟨x.1⟩ := by
      funext x
      split <;> rfl
    rw [e]; exact h2
  · intro k' x hx
    split at hx
    · obtain rfl := Option.some.inj hx
      exact ⟨ho.chg h3 (fun q hq hm => by simp at hm; subst hm; exact hr hq), hf, hr⟩
    · obtain ⟨o1, o2, o3⟩ := h.own k' x hx
      exact ⟨o1.chg h3 (fun q hq hm => by simp at hm; subst hm; exact o3 hq), o2, o3⟩
  · intro a b x y hne ha hb q hq
    split at ha
    · rename_i e; subst e
      obtain rfl := Option.some.inj ha
      rw [if_neg (fun e => hne e.symm)] at hb
      exact hd b y (fun e => hne e.symm) hb q hq
    · split at hb
      · rename_i hak e; subst e
        obtain rfl := Option.some.inj hb
        exact fun hm => hd a x hak ha q hm hq
      · exact h.dis a b x y hne ha hb q hq
theorem MapG.deletes (h : MapG w r B G) (hu : P.underlying t = some (.map kt et)) (hk : P.underlying kt = some .string) (ts : List TypeId) (k : ByteArray) :
    ∃ v w', Deletes P (t :: ts) [.map (some r), .string k] v w w' ∧ MapG w' r B (fun x => if x = k then none else G x) ∧ Chg [r] w w' ∧ w'.heap.size = w.heap.size := by
  obtain ⟨v, w', h1, h2, h3, h4⟩ := h.map.deletes (P := P) hu hk ts k
  refine ⟨v, w', h1, ⟨?_, ?_, ?_⟩, h3, h4⟩
  · have e : (fun x => (if x = k then none else G x).map fun x : List Value × List D0 × List Nat => Value.agg ⟨x.1⟩) = fun x => if x = k then none else (G x).map fun x => .agg ⟨x.1⟩ := by
      funext x
      split <;> rfl
    rw [e]; exact h2
  · intro k' x hx
    split at hx
    · cases hx
    · obtain ⟨o1, o2, o3⟩ := h.own k' x hx
      exact ⟨o1.chg h3 (fun q hq hm => by simp at hm; subst hm; exact o3 hq), o2, o3⟩
  · intro a b x y hne ha hb q hq
    split at ha
    · cases ha
    · split at hb
      · cases hb
      · exact h.dis a b x y hne ha hb q hq
end
end Go.Proofs.YtfehpaekbbmkcaaGreatDoor.Sx

namespace Go.Proofs.YtfehpaekbbmkcaaGreatDoor
open Go Go.Proofs Go.Shelf
def lay192_ren : Go.Shelf.Ren := ⟨fun | 192 => 189 | 190 => 248 | 125 => 283 | 258 => 282 | 128 => 314 | 129 => 315 | 302 => 305 | 303 => 306 | 304 => 307 | 305 => 308 | 306 => 309 | 307 => 310 | 308 => 311 | 309 => 312 | 310 => 313 | 333 => 333 | 329 => 334 | 330 => 335 | 334 => 336 | 335 => 337 | 336 => 338 | 344 => 354 | n => n, fun | 31 => 123 | 0 => 0 | 9 => 9 | 3 => 3 | 46 => 257 | 51 => 289 | 53 => 239 | 4 => 4 | 183 => 282 | 182 => 281 | 131 => 130 | 5 => 5 | 218 => 307 | 222 => 311 | 228 => 333 | 229 => 334 | n => n, fun | n => n⟩
set_option maxRecDepth 1000000 in
theorem lay192 : Go.Proofs.Lays.n192 Tryz.prog lay192_ren := {
  mixed := by kernel_rfl
  f125 := Tryz.func283.trans (congrArg some (by kernel_rfl))
  f128 := Tryz.func314.trans (congrArg some (by kernel_rfl))
  f129 := Tryz.func315.trans (congrArg some (by kernel_rfl))
  f190 := Tryz.func248.trans (congrArg some (by kernel_rfl))
  f192 := Tryz.func189.trans (congrArg some (by kernel_rfl))
  f258 := Tryz.func282.trans (congrArg some (by kernel_rfl))
  f302 := Tryz.func305.trans (congrArg some (by kernel_rfl))
  f303 := Tryz.func306.trans (congrArg some (by kernel_rfl))
  f304 := Tryz.func307.trans (congrArg some (by kernel_rfl))
  f305 := Tryz.func308.trans (congrArg some (by kernel_rfl))
  f306 := Tryz.func309.trans (congrArg some (by kernel_rfl))
  f307 := Tryz.func310.trans (congrArg some (by kernel_rfl))
  f308 := Tryz.func311.trans (congrArg some (by kernel_rfl))
  f309 := Tryz.func312.trans (congrArg some (by kernel_rfl))
  f310 := Tryz.func313.trans (congrArg some (by kernel_rfl))
  f329 := Tryz.func334.trans (congrArg some (by kernel_rfl))
  f330 := Tryz.func335.trans (congrArg some (by kernel_rfl))
  f333 := Tryz.func333.trans (congrArg some (by kernel_rfl))
  f334 := Tryz.func336.trans (congrArg some (by kernel_rfl))
  f335 := Tryz.func337.trans (congrArg some (by kernel_rfl))
  f336 := Tryz.func338.trans (congrArg some (by kernel_rfl))
  f344 := Tryz.func354.trans (congrArg some (by kernel_rfl))
  t0 := Tryz.underlying0
  a0 := Tryz.isAgg0
  z0 := Tryz.sizeOf0
  v0 := Tryz.zeroValue0
  t3 := Tryz.underlying3
  a3 := Tryz.isAgg3
  z3 := Tryz.sizeOf3
  v3 := Tryz.zeroValue3
  t4 := Tryz.underlying4
  a4 := Tryz.isAgg4
  z4 := Tryz.sizeOf4
  v4 := Tryz.zeroValue4
  t5 := Tryz.underlying5
  a5 := Tryz.isAgg5
  z5 := Tryz.sizeOf5
  v5 := Tryz.zeroValue5
  t9 := Tryz.underlying9
  a9 := Tryz.isAgg9
  z9 := Tryz.sizeOf9
  v9 := Tryz.zeroValue9
  t31 := Tryz.underlying123
  a31 := Tryz.isAgg123
  z31 := Tryz.sizeOf123
  v31 := Tryz.zeroValue123
  t46 := Tryz.underlying257
  a46 := Tryz.isAgg257
  z46 := Tryz.sizeOf257
  v46 := Tryz.zeroValue257
  t51 := Tryz.underlying289
  a51 := Tryz.isAgg289
  z51 := Tryz.sizeOf289
  v51 := Tryz.zeroValue289
  t53 := Tryz.underlying239
  a53 := Tryz.isAgg239
  z53 := Tryz.sizeOf239
  v53 := Tryz.zeroValue239
  t131 := Tryz.underlying130
  a131 := Tryz.isAgg130
  z131 := Tryz.sizeOf130
  v131 := Tryz.zeroValue130
  t182 := Tryz.underlying281
  a182 := Tryz.isAgg281
  z182 := Tryz.sizeOf281
  v182 := Tryz.zeroValue281
  t183 := Tryz.underlying282
  a183 := Tryz.isAgg282
  z183 := Tryz.sizeOf282
  v183 := Tryz.zeroValue282
  t218 := Tryz.underlying307
  a218 := Tryz.isAgg307
  z218 := Tryz.sizeOf307
  v218 := Tryz.zeroValue307
  t222 := Tryz.underlying311
  a222 := Tryz.isAgg311
  z222 := Tryz.sizeOf311
  v222 := Tryz.zeroValue311
  t228 := Tryz.underlying333
  a228 := Tryz.isAgg333
  z228 := Tryz.sizeOf333
  v228 := Tryz.zeroValue333
  t229 := Tryz.underlying334
  a229 := Tryz.isAgg334
  z229 := Tryz.sizeOf334
  v229 := Tryz.zeroValue334 }
end Go.Proofs.YtfehpaekbbmkcaaGreatDoor

namespace Go.Proofs.YtfehpaekbbmkcaaGreatDoor.Sx
open Go Go.RowKit
set_option linter.unusedVariables false
set_option linter.unusedSimpArgs false
theorem Own.take {w : World} {B : Nat} {e : TypeId} {size : Nat} {p : Option Addr} {n c : Nat} {xs : List Value} (h : Own w B e size p n c xs) {i : Nat} (hi : i ≤ n) : Own w B e size p i c (xs.take (i * size)) := by
  have hl := h.len
  have him : i * size ≤ n * size := Nat.mul_le_mul_right _ hi
  refine ⟨by simp; omega, ?_⟩
  rcases h.2 with ⟨h1, h2⟩ | ⟨g, cap, cur, h1, hb, hg, h3, h4, h5, h6⟩
  · simp only [Value.slice.injEq] at h1
    obtain ⟨rfl, rfl, rfl⟩ := h1
    have : i = 0 := by omega
    subst this
    exact .inl ⟨rfl, rfl⟩
  · simp only [Value.slice.injEq] at h1
    obtain ⟨rfl, _, rfl⟩ := h1
    refine .inr ⟨g, c, cur, rfl, hb, hg, by omega, h4, h5, ?_⟩
    rw [← h6, List.take_take, Nat.min_eq_left him]
theorem AllO.put {w : World} {B k : Nat} {cs : List Value} {x : List D0} {f : List Nat} (hk : cs.length = k) (ho : Owns w B cs x f) : ∀ {css : List (List Value)} {l : List (List D0)} {fs : List (List Nat)} (i : Nat), AllO w B k css l fs → AllO w B k (css.set i cs) (l.set i x) (fs.set i f)
  | [], [], [], _, _ => trivial
  | _ :: _, _ :: _, _ :: _, 0, h => ⟨hk, ho, h.2.2⟩
  | _ :: _, _ :: _, _ :: _, i + 1, h => ⟨h.1, h.2.1, AllO.put hk ho i h.2.2⟩
  | [], [], _ :: _, _, h => h.elim
  | [], _ :: _, _, _, h => h.elim
  | _ :: _, [], _, _, h => h.elim
  | _ :: _, _ :: _, [], _, h => h.elim
theorem mem_put {α : Type} {fs : List (List α)} {f : List α} {i : Nat} {y : α} (h : y ∈ (fs.set i f).flatten) : y ∈ f ∨ y ∈ fs.flatten := by
  obtain ⟨g, hg, hy⟩ := List.mem_flatten.1 h
  rcases List.mem_or_eq_of_mem_set hg with h1 | h1
  · exact .inr (List.mem_flatten.2 ⟨g, h1, hy⟩)
  · rw [h1] at hy; exact .inl hy
theorem nodup_put {α : Type} {fs : List (List α)} {f : List α} (h : fs.flatten.Nodup) (hf : f.Nodup) (hd : ∀ y ∈ f, y ∉ fs.flatten) (i : Nat) : (fs.set i f).flatten.Nodup := by
  induction fs generalizing i with
  | nil => simp
  | cons g fs ih =>
    rw [List.flatten_cons, List.nodup_append] at h
    cases i with
    | zero =>
      rw [List.set_cons_zero, List.flatten_cons, List.nodup_append]
      exact ⟨hf, h.2.1, fun a ha b hb e => hd a ha (by rw [e, List.flatten_cons]; exact List.mem_append_right _ hb)⟩
    | succ i =>
      rw [List.set_cons_succ, List.flatten_cons, List.nodup_append]
      refine ⟨h.1, ih h.2.1 (fun y hy hm => hd y hy (by rw [List.flatten_cons]; exact List.mem_append_right _ hm)) i, fun a ha b hb e => ?_⟩
      rcases mem_put hb with hb | hb
      · exact hd b hb (by rw [← e, List.flatten_cons]; exact List.mem_append_left _ ha)
      · exact h.2.2 a ha b hb e
/-- a row of a slice of structs of one's own, another one put there -/
theorem OwnRows.put {w : World} {B : Nat} {e : TypeId} {k : Nat} {p : Option Addr} {n c : Nat} {l : List (List D0)} {f : List Nat} (h : OwnRows w B e k p n c l f) {i : Nat} {x : List D0} (hx : l[i]? = some x) :
    ∃ b xs cs zs, p = some ⟨b, 0, none⟩ ∧ B ≤ b ∧ b ∈ f ∧ xs.length = i * k ∧ cs.length = k ∧ Blk w b e (xs ++ cs ++ zs) ∧ Reps w cs x ∧
      ∀ w' cs' x' f', Chg [b] w w' → cs'.length = k → Blk w' b e (xs ++ cs' ++ zs) → Owns w' B cs' x' f' → f'.Nodup → (∀ y ∈ f', y ∉ f) → ∃ f'', OwnRows w' B e k p n c (l.set i x') f'' ∧ ∀ q ∈ f'', q ∈ f ∨ q ∈ f' := by
  obtain ⟨hl, css, fs, ha, ho, rfl, hnd⟩ := h
  have hi : i < l.length := (List.getElem?_eq_some_iff.1 hx).1
  obtain ⟨cs, fi, hcs, hfi, hk, how⟩ := ha.focus i x hx
  obtain ⟨hlen, hcl, hfl⟩ := ha.lens
  obtain ⟨b, ys, rfl, hb, hblk, hyl, hnc, hc, hy⟩ := ho.blk (by omega)
  have hsp := congrArg List.flatten (cons_at hcs)
  rw [List.flatten_append, List.flatten_cons] at hsp
  have hA : (css.take i).flatten.length = i * k := by
    rw [flat_len fun c hc => hlen c (List.mem_of_mem_take hc), List.length_take, Nat.min_eq_left (by omega)]
  have hys : ys = (css.take i).flatten ++ cs ++ ((css.drop (i + 1)).flatten ++ ys.drop (n * k)) := by
    conv => lhs; rw [← List.take_append_drop (n * k) ys, hy, hsp]
    simp
  have hnd1 := List.nodup_append.1 hnd
  have hpin : ∀ q ∈ fs.flatten, q ∉ [b] := fun q hq hm => hnd1.2.2 q (by simpa using hm) q hq rfl
  rw [hys] at hblk
  refine ⟨b, _, cs, _, rfl, hb, by simp, hA, hk, hblk, how.reps, ?_⟩
  intro w' cs' x' f' hch hk' hblk' how' hnf hdis
  have ha' := AllO.put hk' how' i (ha.chg hch hpin)
  have hset : (css.set i cs').flatten = (css.take i).flatten ++ cs' ++ (css.drop (i + 1)).flatten := by
    rw [List.set_eq_take_append_cons_drop, if_pos (by omega), List.flatten_append, List.flatten_cons, List.append_assoc]
  refine ⟨[b] ++ (fs.set i f').flatten, ⟨by simpa using hl, _, _, ha', ?_, by simp, ?_⟩, ?_⟩
  · rw [hset]
    have hlen2 : ((css.take i).flatten ++ cs' ++ (css.drop (i + 1)).flatten).length = n * k := by
      rw [← hset, flat_len (k := k) (fun c hc => by
        rcases List.mem_or_eq_of_mem_set hc with h1 | h1
        · exact hlen c h1
        · rw [h1]; exact hk')]
      rw [List.length_set, show css.length = n by omega]
    have hyl2 : ((css.take i).flatten ++ cs' ++ ((css.drop (i + 1)).flatten ++ ys.drop (n * k))).length = c * k := by
      rw [← hyl]
      conv => rhs; rw [hys]
      simp only [List.length_append, hk, hk']
    have := Own.of_blk' (B := B) (n := n) hblk' hb hyl2 hnc hc
    rwa [← List.append_assoc, List.take_left' hlen2] at this
  · rw [List.nodup_append]
    refine ⟨by simp, nodup_put hnd1.2.1 hnf (fun y hy hm => hdis y hy (List.mem_append_right _ hm)) i, ?_⟩
    intro a ha b' hb' hab
    subst hab
    rcases mem_put hb' with hb' | hb'
    · exact hdis a hb' (by simp at ha; subst ha; simp)
    · exact hpin a hb' ha
  · intro q hq
    rcases List.mem_append.1 hq with hq | hq
    · exact .inl (by simp at hq; subst hq; simp)
    · rcases mem_put hq with hq | hq
      · exact .inr hq
      · exact .inl (List.mem_append_right _ hq)
end Go.Proofs.YtfehpaekbbmkcaaGreatDoor.Sx

namespace Go.Proofs.YtfehpaekbbmkcaaGreatDoor
open Go Go.Proofs.YtfehpaekbbmkcaaGreatDoor.Sx Go.Proofs Go.Sort
set_option linter.unusedVariables false
set_option linter.unusedSimpArgs false
theorem strs_enc (ss : List ByteArray) : ss.map Value.string = (ss.map toB).map encStr := by
  rw [List.map_map]
  refine List.map_congr_left fun s _ => ?_
  exact congrArg Value.string (unB_toB s).symm
theorem enc_strs (l : List (List UInt8)) : (l.map unB).map Value.string = l.map encStr := by
  rw [List.map_map]; rfl
theorem sort_bridge {f : FuncId}
    (hc : ∀ (blk off cap : Nat) (ss : List (List UInt8)) (w : World), Holds encStr w blk off ss.toArray → blk < w.heap.size → ss.length < 4611686018427387904 →
      Calls P f #[.slice (some ⟨blk, off, none⟩) ss.length cap] w fun e w' => e = .returned (.tuple #[]) ∧ ∃ n os, w' = Sort.grow (putRow encStr (Sort.ahead w n) blk off (ss.mergeSort fun x y => decide (x ≤ y)).toArray) os)
    {w : World} {B b n c : Nat} {ss : List ByteArray} (h : Own w B T_string 1 (some ⟨b, 0, none⟩) n c (ss.map Value.string)) (hn : n ≤ 4000000000) :
    Ret P f [.slice (some ⟨b, 0, none⟩) n c] w fun v w' => v = .tuple #[] ∧ Own w' B T_string 1 (some ⟨b, 0, none⟩) n c ((sortB ss).map Value.string) ∧ Chg [b] w w' := by
  have hl : ss.length = n := by simpa using h.len
  have hlt : b < w.heap.size := (World.ownsRow.lt h b rfl).2
  rw [strs_enc] at h
  obtain ⟨h0, h1 | ⟨g, cap, cur, h1, hbase, hb, h2, h3, h4, h5⟩⟩ := h
  · cases h1.1
  simp only [Value.slice.injEq, Option.some.injEq, Addr.mk.injEq, and_true, true_and] at h1
  obtain ⟨rfl, rfl⟩ := h1
  have hl2 : n = (ss.map toB).length := by simp [hl]
  subst hl2
  have hH : Holds encStr w b 0 (ss.map toB).toArray := holds_of_block hb (by simpa using h5)
  refine Calls.mono (hc b 0 c (ss.map toB) w hH hlt (by omega)) ?_
  rintro e w' ⟨rfl, m, os, rfl⟩
  refine ⟨_, rfl, rfl, ?_, ?_⟩
  · have := ownsRow_sorted (n := m) (os := os) (ts := sortU (ss.map toB)) (by simp [sortU]) hbase hb h2 h3 h4
    unfold Own sortB
    rw [enc_strs]
    exact this
  · have hg := grownBy_sorted (w := w) (g := b) (n := m) (os := os) ((ss.map toB).mergeSort fun x y => decide (x ≤ y)).toArray
    exact ⟨hg.os, hg.tape, hg.output, hg.size, fun k hk hne => hg.block k hk (by simpa using hne)⟩
theorem sort_Strings_c {w : World} {B b n c : Nat} {ss : List ByteArray} (h : Own w B T_string 1 (some ⟨b, 0, none⟩) n c (ss.map Value.string)) (hn : n ≤ 4000000000) :
    Ret P n_sort_Strings [.slice (some ⟨b, 0, none⟩) n c] w fun v w' => v = .tuple #[] ∧ Own w' B T_string 1 (some ⟨b, 0, none⟩) n c ((sortB ss).map Value.string) ∧ Chg [b] w w' :=
  sort_bridge (fun blk off cap ss w hH hb hl => Any.sort_Strings lay192 blk off cap ss w hH hb hl) h hn
end Go.Proofs.YtfehpaekbbmkcaaGreatDoor

namespace Go.Proofs.YtfehpaekbbmkcaaGreatDoor
open Go Go.Proofs.YtfehpaekbbmkcaaGreatDoor.Sx
set_option linter.unusedVariables false
set_option linter.unusedSimpArgs false
theorem sliceT_strs : sliceT P T_s_string T_string (.string ByteArray.empty) 1 16 := ⟨by kernel_rfl, by kernel_rfl, rfl, by decide⟩
set_option maxRecDepth 100000 in
theorem impl_Curs_c {w : World} (ht : Tab w) : Ret P n_impl_Curs [] w fun v w' => ∃ p c, v = .slice p 20 c ∧ Own w' w.heap.size T_string 1 p 20 c (codesL.map Value.string) ∧ Ext w w' := by
  have hlen := impl_length
  refine impl_Curs_ret ?_
  unfold impl_Curs
  intro r w1 hn1
  have e1 := hn1.r_eq; have z1 := hn1.size
  refine ⟨_, loadsA (by rw [flat_length]; kernel_rfl) (ht.ext hn1.ext), ?_⟩
  refine ⟨fun cp cn cc i wr => ∃ j : Nat, i = j ∧ j ≤ 20 ∧ cn = j ∧ Own wr w.heap.size T_string 1 cp cn cc (((implTab.take j).map (·.1)).map Value.string) ∧ Ext w wr, fun _ _ _ i _ => 20 - i.toNat, ⟨0, rfl, by omega, rfl, Own.of_blk0 hn1.blk (by omega) (by simp) (by decide), hn1.ext⟩, ?_⟩
  intro junk wr cp cn cc i ⟨j, hij, hj, hcn, ho, hx⟩
  subst hij; subst hcn
  have lx := hx.le
  refine ifD (fun hlt => ?_) (fun hge => ?_)
  · have hjl : cn < implTab.length := by omega
    apply index_cur hjl
    intro r1 w2 hn2
    obtain ⟨w3, st, hb3, y3⟩ := hn2.fill (P := P) (t := T_impl_currency) (xs := curCells (implTab[cn]'hjl)) (by simp [curCells, Value.oneCell']) (by kernel_rfl) rfl
    refine ⟨w3, st, _, hb3.loadAt 0 rfl (by kernel_rfl) rfl, ?_⟩
    intro r2 w4 hn4
    have Y := y3.trans hn4.ext
    have lY := Y.le
    obtain ⟨p', c', w5, ha, ho5, ch, hp⟩ := (ho.ext Y).push1 (P := P) sliceT_strs (by omega) hn4.blk rfl (by simp [Value.oneCell']) (by omega) (by decide)
    refine ⟨p', _, c', w5, ha, exW ⟨by omega, by omega⟩ ⟨⟨cn + 1, by omega, by omega, rfl, ?_, (hx.trans Y).chg ch fun q hq => (World.ownsRow.lt ho q (by cases cp <;> simp_all [Value.ownBlock])).1⟩, ?_⟩⟩
    · rw [List.take_succ_eq_append_getElem hjl, List.map_append, List.map_append]
      exact ho5
    · show 20 - ((cn : Int) + 1).toNat < 20 - (cn : Int).toNat
      omega
  · have hj20 : cn = 20 := by omega
    subst hj20
    rw [List.take_of_length_le (by omega)] at ho
    obtain ⟨b, ys, hpb, hbB, _⟩ := ho.blk (by omega)
    subst hpb
    refine Ret.at (sort_Strings_c ho (by omega)) ?_
    rintro v w6 ⟨hv, ho6, ch⟩
    subst hv
    exact ⟨rfl, _, _, rfl, ho6, hx.chg ch (by simp; omega)⟩
end Go.Proofs.YtfehpaekbbmkcaaGreatDoor

namespace Go.Proofs.YtfehpaekbbmkcaaGreatDoor
open Go Go.Proofs.YtfehpaekbbmkcaaGreatDoor.Sx
set_option linter.unusedVariables false
set_option linter.unusedSimpArgs false
theorem OwnRows_pushG {P : Program} {w : World} {B : Nat} {t e : TypeId} {z : Value} {k bytes : Nat} {p : Option Addr} {n c r : Nat} {l : List (List D0)} {f fx : List Nat} {cs : List Value} {x : List D0} (h : OwnRows w B e k p n c l f)
    (hT : sliceT P t e z k bytes) (hb : B ≤ w.heap.size) (hr : Blk w r e cs) (hl : cs.length = k) (ho : Owns w B cs x fx) (hfx : fx.Nodup) (hdis : ∀ q ∈ fx, q ∉ f)
    (hbytes : (n + 1) * bytes ≤ 140737488355328) (hby : 1 ≤ bytes) :
    ∃ p' c' w' f', Appends P [t, t] [.slice p n c, .slice (some ⟨r, 0, none⟩) 1 1] (.slice p' (n + 1) c') w w' ∧ OwnRows w' B e k p' (n + 1) c' (l ++ [x]) f' ∧ Chg (p.map (·.block)).toList w w' ∧
      (∀ q ∈ f', q ∈ f ∨ q ∈ fx ∨ w.heap.size ≤ q) ∧ (p'.map (·.block) = p.map (·.block) ∨ ∀ q, p'.map (·.block) = some q → w.heap.size ≤ q) := by
  obtain ⟨hln, css, fs, ha, hown, rfl, hnd⟩ := h
  obtain ⟨p', c', w', hrun, hown', hch, hp⟩ := hown.push1 hT hb hr hl ho.reps.cells1 hbytes hby
  have hpl : ∀ q ∈ (p.map (·.block)).toList, B ≤ q := fun q hq => (World.ownsRow.lt hown q (by cases p <;> simp_all [Value.ownBlock])).1
  have hnd1 := (List.nodup_append.1 hnd)
  have hpin : ∀ q ∈ fs.flatten, q ∉ (p.map (·.block)).toList := fun q hq hm => hnd1.2.2 q hm q hq rfl
  have hpx : ∀ q ∈ fx, q ∉ (p.map (·.block)).toList := fun q hq hm => hdis q hq (List.mem_append_left _ hm)
  have hlt : ∀ q ∈ fs.flatten ++ fx, q < w.heap.size := fun q hq => by
    rcases List.mem_append.1 hq with hq | hq
    · exact (ha.lt q hq).2
    · exact (ho.lt q hq).2
  have e : (fs ++ [fx]).flatten = fs.flatten ++ fx := by simp
  refine ⟨p', c', w', (p'.map (·.block)).toList ++ (fs ++ [fx]).flatten, hrun, ⟨by simp [hln], css ++ [cs], fs ++ [fx], (ha.chg hch hpin).snoc hl (ho.chg hch hpx), by simpa using hown', rfl, ?_⟩, hch, fun q hq => ?_, hp⟩
  rotate_left
  · rw [e] at hq
    rcases List.mem_append.1 hq with hq | hq
    · have hpa := opt_mem hq
      rcases hp with hp | hp
      · rw [hp] at hpa
        exact .inl (List.mem_append_left _ (mem_opt hpa))
      · exact .inr (.inr (hp q hpa))
    · rcases List.mem_append.1 hq with hq | hq
      · exact .inl (List.mem_append_right _ hq)
      · exact .inr (.inl hq)
  rw [e, List.nodup_append]
  refine ⟨by cases p' <;> simp, ?_, ?_⟩
  · rw [List.nodup_append]
    exact ⟨hnd1.2.1, hfx, fun a ha b hb e => hdis b hb (by rw [← e]; exact List.mem_append_right _ ha)⟩
  · intro a ha b hb hab
    subst hab
    have hpa := opt_mem ha
    rcases hp with hp | hp
    · rw [hp] at hpa
      have ham : a ∈ (p.map (·.block)).toList := mem_opt hpa
      rcases List.mem_append.1 hb with hb | hb
      · exact hpin a hb ham
      · exact hpx a hb ham
    · have := hp a hpa
      have := hlt a hb
      omega
end Go.Proofs.YtfehpaekbbmkcaaGreatDoor

namespace Go.Proofs.YtfehpaekbbmkcaaGreatDoor
open Go Go.Proofs.YtfehpaekbbmkcaaGreatDoor.Sx
set_option linter.unusedVariables false
set_option linter.unusedSimpArgs false
theorem pickL_len (f : ByteArray → Option (List D0)) (l : List ByteArray) : (pickL f l).length ≤ l.length := List.length_filterMap_le _ _
theorem und_mapR : P.underlying T_map_string_impl_Rat = some (.map T_string T_impl_Rat) := by kernel_rfl
theorem und_strR : P.underlying T_string = some .string := by kernel_rfl
theorem zero_ratR : ∃ inf, P.info? T_impl_Rat = some inf ∧ inf.zero = some (.agg ⟨[.bool false, .slice none 0 0, .slice none 0 0]⟩) := by
  have h : (P.info? T_impl_Rat).bind (·.zero) = some (.agg ⟨[.bool false, .slice none 0 0, .slice none 0 0]⟩) := by kernel_rfl
  cases hi : P.info? T_impl_Rat with
  | none => rw [hi] at h; cases h
  | some inf => rw [hi] at h; exact ⟨inf, rfl, h⟩
theorem impl_RestAdd_j2_c {w W : World} {r2 : Nat} {G : ByteArray → Option (List Value × List D0 × List Nat)} {F : ByteArray → Option (List D0)} (X : Ext w W) (ht : Tab w) (hG : MapG W r2 w.heap.size G) (hF : ∀ k, (G k).map (·.2.1) = F k) (hFc : ∀ k x, F k = some x → x.map D0.code = [.bool, .ints, .ints]) :
    impl_RestAdd_j2 r2 W fun v w' => ∃ p' n' c' f, v = .tuple #[.slice p' n' c', .bool true] ∧ OwnRows w' w.heap.size T_impl_Rest 4 p' n' c' (pickL F codesL) f ∧ Ext w w' := by
  have lX := X.le
  have hcl := codesL_len
  unfold impl_RestAdd_j2
  intro r4 w20 hn20
  have e20 := hn20.r_eq; have z20 := hn20.size
  refine Ret.at (impl_Curs_c (ht.ext (X.trans hn20.ext))) ?_
  rintro v w5 ⟨p5, c5, hv, ho5, y5⟩
  subst hv
  have l5 := y5.le
  obtain ⟨b5, _, hp5, hb5, _⟩ := ho5.blk (by omega)
  subst hp5
  obtain ⟨Inv, hI⟩ : ∃ I : Option Addr → Nat → Nat → Int → World → Prop, ∀ op on oc i wr, I op on oc i wr ↔ ∃ (j : Nat) (f : List Nat), i = j ∧ j ≤ 20 ∧ OwnRows wr w.heap.size T_impl_Rest 4 op on oc (pickL F (codesL.take j)) f ∧ (∀ q ∈ f, W.heap.size ≤ q ∨ ∃ k ∈ codesL.take j, ∃ x, G k = some x ∧ q ∈ x.2.2) ∧ (∀ q, op.map (·.block) = some q → q = r4 ∨ w5.heap.size ≤ q) ∧ Ext W wr ∧ Chg [r4] w5 wr := ⟨_, fun _ _ _ _ _ => Iff.rfl⟩
  obtain ⟨mu, hmu⟩ : ∃ m : Option Addr → Nat → Nat → Int → World → Nat, ∀ op on oc i wr, m op on oc i wr = 20 - i.toNat := ⟨fun _ _ _ i _ => 20 - i.toNat, fun _ _ _ _ _ => rfl⟩
  refine ⟨_, _, _, rfl, Inv, mu, (hI _ _ _ _ _).2 ⟨0, [r4], rfl, by omega, (OwnRows.fresh hn20 (by omega)).ext y5, fun q hq => by simp at hq; omega, fun q hq => .inl (by simp at hq; omega), hn20.ext.trans y5, Chg.refl _ _⟩, ?_⟩
  intro junk wr op on oc i hinv
  obtain ⟨j, f, hi, hj, hO, hf, hblk, hxW, hx⟩ := (hI _ _ _ _ _).1 hinv
  subst hi
  have lx := hx.size; have lxW := hxW.le
  have hOl := hO.1
  have hpl := pickL_len F (codesL.take j)
  have hon : on ≤ j := by rw [List.length_take] at hpl; omega
  have opl : ∀ q ∈ (op.map (·.block)).toList, q = r4 ∨ w5.heap.size ≤ q := fun q hq => hblk q (opt_mem hq)
  refine ifD (fun hlt => ?_) (fun hge => ?_)
  rotate_left
  · have hj20 : j = 20 := by omega
    rw [hj20, List.take_of_length_le (by omega)] at hO
    exact ⟨_, _, _, f, rfl, hO, X.trans hxW⟩
  have hj20 : j < 20 := by omega
  have hjl : j < codesL.length := by omega
  obtain ⟨code, hcode⟩ : ∃ code, codesL[j]'hjl = code := ⟨_, rfl⟩
  have hsnoc := pickL_snoc (f := F) hjl
  rw [hcode] at hsnoc
  have ho5r := ho5.chg hx (fun k hk => by simp at hk; subst hk; simp; omega)
  obtain ⟨b5', hp5', _, hsg⟩ := ho5r.seg (by omega)
  simp only [Option.some.injEq, Addr.mk.injEq, and_true] at hp5'
  subst hp5'
  have hld : Loads P T_string ((⟨b5, 0, none⟩ : Addr).add ((j : Int).toNat * 1)) (.string code) wr := hsg.loadAt j (by rw [addr_add]; simp) (by kernel_rfl) (by rw [List.getElem?_map, List.getElem?_eq_getElem hjl, hcode]; rfl)
  have hGr := hG.ext hxW
  have next : ∀ (op2 : Option Addr) (on2 oc2 : Nat) (f2 : List Nat) (W2 : World), OwnRows W2 w.heap.size T_impl_Rest 4 op2 on2 oc2 (pickL F (codesL.take (j + 1))) f2 → (∀ q ∈ f2, W.heap.size ≤ q ∨ ∃ k ∈ codesL.take (j + 1), ∃ x, G k = some x ∧ q ∈ x.2.2) → (∀ q, op2.map (·.block) = some q → q = r4 ∨ w5.heap.size ≤ q) → Ext W W2 → Chg [r4] w5 W2 →
      ∀ R, impl_RestAdd_j3 wr Inv mu op on oc (j : Int) op2 on2 oc2 W2 R := by
    intro op2 on2 oc2 f2 W2 h1 h2 h3 h4 h5 R
    unfold impl_RestAdd_j3
    refine exW ⟨by omega, by omega⟩ ⟨(hI _ _ _ _ _).2 ⟨j + 1, f2, rfl, by omega, h1, h2, h3, h4, h5⟩, ?_⟩
    rw [hmu, hmu]; omega
  have up : ∀ k, k ∈ codesL.take j → k ∈ codesL.take (j + 1) := fun k hk => by
    rw [List.take_succ_eq_append_getElem hjl]; exact List.mem_append_left _ hk
  refine ⟨⟨by omega, by omega⟩, _, hld, ?_⟩
  cases hg : G code with
  | none =>
    have hFn : F code = none := by rw [← hF, hg]; rfl
    rw [hFn, List.append_nil] at hsnoc
    obtain ⟨inf, hinf, hzero⟩ := zero_ratR
    refine ⟨_, _, _, _, _, _, _, _, hGr.map.looks0 (P := P) und_mapR und_strR hinf hzero (by simp only [hg]; rfl), ?_⟩
    intro r5 w23 hn23
    obtain ⟨w24, st24, b24, y24⟩ := hn23.fill (P := P) (t := T_impl_Rat) (xs := [.bool false, .slice none 0 0, .slice none 0 0]) (by simp [Value.oneCell']) (by kernel_rfl) rfl
    refine ⟨w24, st24, ifF (next op on oc f w24 (by rw [hsnoc]; exact hO.ext y24) (fun q hq => ?_) hblk (hxW.trans y24) (hx.trans y24.toChg) _)⟩
    rcases hf q hq with h | ⟨k, hk, h⟩
    · exact .inl h
    · exact .inr ⟨k, up k hk, h⟩
  | some x =>
    obtain ⟨vs, d, fx⟩ := x
    obtain ⟨ox, ndx, _⟩ := hGr.own code _ hg
    have hFs : F code = some d := by rw [← hF, hg]; rfl
    rw [hFs] at hsnoc
    obtain ⟨s0, s1p, s1n, s1c, s1z, s2p, s2n, s2c, s2z, e, hsd, _, _⟩ := open_Rat ox.reps (hFc code d hFs)
    simp only at e
    subst e
    refine ⟨_, _, _, _, _, _, _, _, hGr.map.looks (P := P) und_mapR und_strR (v := .agg ⟨[.bool s0, .slice s1p s1n s1c, .slice s2p s2n s2c]⟩) (by simp only [hg]; rfl), ?_⟩
    intro r5 w23 hn23
    obtain ⟨w24, st24, b24, y24⟩ := hn23.fill (P := P) (t := T_impl_Rat) (xs := [.bool s0, .slice s1p s1n s1c, .slice s2p s2n s2c]) (by simp [Value.oneCell']) (by kernel_rfl) rfl
    refine ⟨w24, st24, ifT ⟨_, _, _, _, _, _, _, b24.loadA0 (by kernel_rfl), ?_⟩⟩
    intro r6 w25 hn25
    have Y := y24.trans hn25.ext
    have lY := Y.le
    obtain ⟨p', c', w26, f', ha, hR, ch, hf', hp⟩ := OwnRows_pushG (P := P) (hO.ext Y) sliceT_rest (by omega) hn25.blk rfl (Owns.append (Owns.str _ _ code) (ox.ext Y)) (by simpa using ndx) (fun q hq hm => by
      simp only [List.nil_append] at hq
      have hGW := (hG.own code _ hg).1.lt q hq
      rcases hf q hm with h | ⟨k, hk, x, hx1, hx2⟩
      · omega
      · refine hG.dis k code _ _ (fun e => ?_) hx1 hg q hx2 hq
        subst e
        have hnd := codesL_sorted
        have h1 := List.pairwise_iff_getElem.1 hnd
        obtain ⟨a, ha, hae⟩ := List.getElem_of_mem hk
        have ha' : a < j := by have := ha; rw [List.length_take] at this; omega
        rw [List.getElem_take] at hae
        have := h1 a j (by omega) hjl ha'
        rw [hae, hcode, bLess_irrefl] at this
        cases this) (by omega) (by decide)
    refine ⟨p', _, c', w26, ha, next p' (on + 1) c' f' w26 (by rw [hsnoc]; exact hR) (fun q hq => ?_) (fun q hq => ?_) ((hxW.trans Y).chg ch fun q hq => by have := opl q hq; omega) ((hx.trans Y.toChg).wide ch opl) _⟩
    · rcases hf' q hq with h | h | h
      · rcases hf q h with h | ⟨k, hk, h⟩
        · exact .inl h
        · exact .inr ⟨k, up k hk, h⟩
      · simp only [List.nil_append] at h
        exact .inr ⟨code, by rw [List.take_succ_eq_append_getElem hjl, hcode]; simp, _, hg, h⟩
      · exact .inl (by omega)
    · rcases hp with hp | hp
      · rw [hp] at hq; exact hblk q hq
      · have := hp q hq; exact .inr (by omega)
set_option maxHeartbeats 1000000 in
theorem impl_RestAdd_j0_c {w W : World} {p : Option Addr} {n c r : Nat} {l : List (List D0)} {cur : ByteArray} {xs : List Value} {dx : List D0} (h : RowsR w 4 p n c l) (hc : ∀ x ∈ l, x.map D0.code = [.str, .bool, .ints, .ints]) (hn : n ≤ 1048576) (hb : ∀ x ∈ l, bulks x ≤ 1048576) (ht : Tab w)
    (g : Reps w xs dx) (gc : dx.map D0.code = [.bool, .ints, .ints]) (X : Ext w W) (b0 : Blk W r T_impl_Rat xs) (h1 : restsOk l = true) (h2 : ratOk dx = true) (h3 : curKnown cur = true) :
    impl_RestAdd_j0 p n c cur r W fun v w' => ∃ p' n' c' f, v = .tuple #[.slice p' n' c', .bool (restAddOk l cur dx)] ∧ OwnRows w' w.heap.size T_impl_Rest 4 p' n' c' (restAdd l cur dx) f ∧ Ext w w' := by
  have hz := h.1; have hcap := h.2.1; have hcm := h.2.2.1
  have lX := X.le
  have hro := restOf_ok (cur := cur) (restsOk_rows h1)
  have gr := g
  obtain ⟨a0, a1p, a1n, a1c, a1z, a2p, a2n, a2c, a2z, rfl, ed, _, _⟩ := open_Rat g gc
  unfold impl_RestAdd_j0
  intro ss w2 f1
  have D := Ext.drew W
  have F1 := (FlSt.start W.drew).step f1
  have X2 := (X.trans D).trans f1.ext
  refine Ret.at (impl_RestOf_c (h.ext X2) hc hn hb cur) ?_
  rintro v w3 ⟨vs, f0, hv, hvs, _, hvc, _, y3⟩
  subst hv
  have F3 := F1.ext y3
  have e1 := (ratOk_enc hro).1; have e2 := (ratOk_enc h2).1
  obtain ⟨b0', b1p, b1n, b1c, b1z, b2p, b2n, b2c, b2z, rfl, _, _, _⟩ := open_Rat hvs.reps hvc
  refine ⟨_, _, _, _, _, _, _, rfl, y3, _, _, _, _, _, _, _, fun W2 hW2 => ((b0.ext D).ext hW2).loadA0 (by kernel_rfl), ?_⟩
  intro ss2 w4 f2
  have F4 := F3.step f2
  have X4 := (X2.trans y3).trans f2.ext
  have k1 := hro; have k2 := h2
  rw [e1] at k1; rw [e2] at k2
  refine Ret.at (impl_RatAdd_n (by rw [← e1]; exact hvs.reps.ext f2.ext) (by rw [← e2]; exact gr.ext X4) k1 k2) ?_
  rintro v w5 ⟨us, fu, hv, hou, ndu, y5⟩
  subst hv
  have F5 := F4.ext y5
  have hou : Owns w5 w4.heap.size us (ratSum (restOf l cur) dx) fu := hou
  obtain ⟨u0, u1p, u1n, u1c, u1z, u2p, u2n, u2c, u2z, rfl, _, _, _⟩ := open_Rat hou.reps (redR_code _ _)
  refine ⟨_, _, _, _, _, _, _, _, rfl, ?_⟩
  intro ss3 w6 r1 f3 g3
  have F6 := F5.step f3
  obtain ⟨hr1, hb1⟩ := F6.get g3
  have X5 := (X4.trans y5).trans f3.ext
  have lD := D.le
  obtain ⟨w7, st7, b7, ch7, sz7⟩ := (show Blk w6 r1 T_impl_Rat [.bool false, .slice none 0 0, .slice none 0 0] from hb1).storeA0 (P := P) (t := T_impl_Rat) (xs := [.bool u0, .slice u1p u1n u1c, .slice u2p u2n u2c]) (by kernel_rfl) rfl (by simp [Value.oneCell'])
  have X7 := X5.chg ch7 (by simp; omega)
  have l4 := X4.le
  have r1u : ∀ k ∈ fu, k ∉ [r1] := fun k hk hm => by
    have hlt := hou.lt k hk
    simp only [List.mem_singleton] at hm
    subst hm
    rcases F4.2 with e | ⟨q, e, _, hq⟩
    · subst e
      have := (f3.got (k := 0) rfl rfl g3).1
      omega
    · subst e
      have := (f3.keeps (k := 0) rfl).symm.trans g3
      simp only [Option.some.injEq] at this
      subst this
      have := (Array.getElem?_eq_some_iff.1 hq).1
      omega
  have ou7 := ((hou.ext f3.ext).chg ch7 r1u).mono (B' := w.heap.size) (by omega)
  have ok : restAddOk l cur dx = ratSumOk (restOf l cur) dx := by unfold restAddOk; rw [h1, h2, h3]; rfl
  refine ⟨w7, st7, ifN (fun hno => ?_) (fun hyes => ?_)⟩
  · have hno : restAddOk l cur dx = false := ok.trans hno
    refine ⟨none, 0, 0, [], by rw [hno], ?_, X7⟩
    unfold restAdd
    rw [hno]
    exact ⟨rfl, [], [], trivial, Own.nil _ _ _ _, rfl, List.nodup_nil⟩
  have hyes : restAddOk l cur dx = true := ok.trans hyes
  have lsum := ou7.lt
  have l7 := X7.le
  intro r2 w9 hn9
  have e9 := hn9.r_eq; have z9 := hn9.size
  have b9 := b7.ext hn9.ext
  have hr1l := b7.lt
  have X9 := X7.trans hn9.ext
  refine ⟨_, _, _, _, _, _, _, b9.loadA0 (by kernel_rfl), ?_⟩
  obtain ⟨w10, hup, hG10, ch10, sz10⟩ := (MapG.new (B := w.heap.size) hn9).updates (P := P) und_mapR und_strR cur (ou7.ext hn9.ext) ndu (fun hm => by have := lsum r2 hm; omega) (fun k' x _ (hk : none = some x) => nomatch hk)
  refine ⟨w10, hup, ?_⟩
  obtain ⟨Inv, hI⟩ : ∃ I : Int → World → Prop, ∀ i wr, I i wr ↔ ∃ (j : Nat) (G : ByteArray → Option (List Value × List D0 × List Nat)), i = j ∧ j ≤ n ∧ MapG wr r2 w.heap.size G ∧ G cur = some ([.bool u0, .slice u1p u1n u1c, .slice u2p u2n u2c], ratSum (restOf l cur) dx, fu) ∧ (∀ k, k ≠ cur → (G k).map (·.2.1) = findR (l.take j) k) ∧ Ext w wr ∧ Chg [r2] w10 wr := ⟨_, fun _ _ => Iff.rfl⟩
  obtain ⟨mu, hmu⟩ : ∃ m : Int → World → Nat, ∀ i wr, m i wr = n - i.toNat := ⟨fun i _ => n - i.toNat, fun _ _ => rfl⟩
  have X10 := X9.chg ch10 (by simp; omega)
  refine ⟨Inv, mu, (hI _ _).2 ⟨0, _, rfl, by omega, hG10, if_pos rfl, fun k hk => by rw [if_neg hk]; rfl, X10, Chg.refl _ _⟩, ?_⟩
  intro junk wr i hinv
  obtain ⟨j, G, hi, hj, hG, hGc, hGk, hxw, hx⟩ := (hI _ _).1 hinv
  subst hi
  have lx := hx.size; have lxw := hxw.le
  have b9r := (b9.chg ch10 (by simp; omega)).chg hx (by simp; omega)
  have hsort := restsOk_sorted h1
  refine ifD (fun hlt => ?_) (fun hge => ?_)
  · have hjl : j < l.length := by omega
    obtain ⟨a, cs, hp, hk, hr, hl⟩ := (h.ext hxw).at (P := P) (t := T_impl_Rest) (by kernel_rfl) (show j < n by omega)
    subst hp
    have hrr := hr; have hcode := hc _ (List.getElem_mem hjl)
    have hbj := hb _ (List.getElem_mem hjl)
    obtain ⟨a0, a1, a2p, a2n, a2c, a2z, a3p, a3n, a3c, a3z, rfl, hd, ir2, ir3⟩ := open_Rest hr hcode
    have hrs : rowStr (l[j]'hjl) = a0 := by rw [hd]; rfl
    have hsnoc := fun k => findR_snoc (c := k) hjl hsort
    rw [hrs] at hsnoc
    refine ⟨⟨by omega, by omega⟩, _, _, _, _, _, _, _, _, by simpa using hl, ?_⟩
    intro r3 w12 hn12
    obtain ⟨w13, st, b13, y13⟩ := hn12.fill (P := P) (t := T_impl_Rest) hrr.cells1 (by kernel_rfl) rfl
    refine ⟨w13, st, _, b13.loadAt 0 rfl (by kernel_rfl) rfl, ifD (fun hne => ?_) (fun heq => ?_)⟩
    · have D13 := Ext.drew w13
      have Y := y13.trans D13
      have hs : Reps w13.drew [.bool a1, .slice a2p a2n a2c, .slice a3p a3n a3c] [.bool a1, .ints a2z, .ints a3z] := ⟨rfl, ⟨_, _, _, rfl, ir2.ext Y⟩, ⟨_, _, _, rfl, ir3.ext Y⟩, trivial⟩
      refine ⟨_, fun W2 hW2 => ((b13.ext D13).ext hW2).loadAt 0 rfl (by kernel_rfl) rfl, _, _, _, _, _, _, _, fun W2 hW2 => ((b13.ext D13).ext hW2).loadAAt 1 [.bool a1, .slice a2p a2n a2c, .slice a3p a3n a3c] rfl (by kernel_rfl) rfl, ?_⟩
      refine Ret.at (impl_ratCopy_c hs rfl (by
        rw [hd] at hbj
        simp only [bulks, D0.bulk, List.map_cons, List.map_nil, List.sum_cons, List.sum_nil] at hbj ⊢; omega)) ?_
      rintro v w16 ⟨vs, fx, hv, hox, ndx, y16⟩
      subst hv
      obtain ⟨c0, c1p, c1n, c1c, c1z, c2p, c2n, c2c, c2z, rfl, _, _, _⟩ := open_Rat hox.reps rfl
      have Y16 := Y.trans y16
      have lY := Y.le
      have hfx := hox.lt
      obtain ⟨w17, hup, hG17, ch17, sz17⟩ := (hG.ext Y16).updates (P := P) und_mapR und_strR a0 (hox.mono (by omega)) ndx (fun hm => by have := hfx r2 hm; omega) (fun k' x _ hx' q hq hm => by
        have h8 := hfx q hq
        have h9 := (hG.own k' x hx').1.lt q hm
        omega)
      refine ⟨_, _, _, _, _, _, _, rfl, y16, w17, hup, ?_⟩
      unfold impl_RestAdd_j1
      refine exW ⟨by omega, by omega⟩ ⟨(hI _ _).2 ⟨j + 1, _, rfl, by omega, hG17, ?_, fun k hk => ?_, (hxw.trans Y16).chg ch17 (by simp; omega), (hx.trans Y16.toChg).trans ch17⟩, ?_⟩
      · rw [if_neg (fun e => hne e.symm)]; exact hGc
      · rw [hsnoc k]
        by_cases hka : k = a0
        · rw [if_pos hka, if_pos hka, hd]; rfl
        · rw [if_neg hka, if_neg hka]; exact hGk k hk
      · rw [hmu, hmu]; omega
    · have heq : a0 = cur := by simpa using heq
      unfold impl_RestAdd_j1
      refine exW ⟨by omega, by omega⟩ ⟨(hI _ _).2 ⟨j + 1, G, rfl, by omega, hG.ext y13, hGc, fun k hk => ?_, hxw.trans y13, hx.trans y13.toChg⟩, ?_⟩
      · rw [hsnoc k, if_neg (fun e => hk (e.trans heq))]; exact hGk k hk
      · rw [hmu, hmu]; omega
  · have hjn : j = l.length := by omega
    rw [hjn, List.take_length] at hGk
    refine ⟨_, _, _, _, _, _, _, b9r.loadA0 (by kernel_rfl), ?_⟩
    refine Ret.at (impl_RatSign_c (hG.own cur _ hGc).1.reps (redR_code _ _)) ?_
    rintro v w18 ⟨hv, y18⟩
    subst hv
    have hfc : ∀ k x, findR l k = some x → x.map D0.code = [.bool, .ints, .ints] := fun k x hx => by
      have := hc _ (findR_mem hc hx)
      simpa [D0.code] using this
    have fin : ∀ (W2 : World) (G2 : ByteArray → Option (List Value × List D0 × List Nat)), Ext w W2 → MapG W2 r2 w.heap.size G2 → (∀ k, (G2 k).map (·.2.1) = if k = cur then (if nzB (ratSum (restOf l cur) dx) then some (ratSum (restOf l cur) dx) else none) else findR l k) →
        impl_RestAdd_j2 r2 W2 fun v w' => ∃ p' n' c' f, v = .tuple #[.slice p' n' c', .bool (restAddOk l cur dx)] ∧ OwnRows w' w.heap.size T_impl_Rest 4 p' n' c' (restAdd l cur dx) f ∧ Ext w w' := by
      intro W2 G2 hX hG2 hF
      have := impl_RestAdd_j2_c hX ht hG2 hF (fun k x hx => by
        split at hx
        · split at hx
          · obtain rfl := Option.some.inj hx; exact redR_code _ _
          · cases hx
        · exact hfc k x hx)
      rw [put_pick hc h1 h3] at this
      unfold restAdd
      rw [hyes, if_pos rfl]
      exact this
    refine ⟨_, rfl, ifD (fun hz => ?_) (fun hnz => ?_)⟩
    · obtain ⟨dv, w19, hdel, hG19, ch19, sz19⟩ := (hG.ext y18).deletes (P := P) und_mapR und_strR [T_string] cur
      refine ⟨dv, w19, hdel, fin w19 _ ((hxw.trans y18).chg ch19 (by simp; omega)) hG19 fun k => ?_⟩
      have hz' : nzB (ratSum (restOf l cur) dx) = false := by unfold nzB; rw [decide_eq_true hz]; rfl
      by_cases hk : k = cur
      · rw [if_pos hk, if_pos hk, hz']; rfl
      · rw [if_neg hk, if_neg hk]; exact hGk k hk
    · refine fin w18 G (hxw.trans y18) (hG.ext y18) fun k => ?_
      have hz' : nzB (ratSum (restOf l cur) dx) = true := by unfold nzB; rw [decide_eq_false hnz]; rfl
      by_cases hk : k = cur
      · rw [if_pos hk, hz', hk, hGc]; rfl
      · rw [if_neg hk]; exact hGk k hk
theorem impl_RestAdd_o {w : World} {p : Option Addr} {n c : Nat} {l : List (List D0)} (h : RowsR w 4 p n c l) (hc : ∀ x ∈ l, x.map D0.code = [.str, .bool, .ints, .ints]) (hn : n ≤ 1048576) (hb : ∀ x ∈ l, bulks x ≤ 1048576) (cur : ByteArray)
    {xs : List Value} {dx : List D0} (g : Reps w xs dx) (gc : dx.map D0.code = [.bool, .ints, .ints]) (ht : Tab w) :
    Ret P n_impl_RestAdd [.slice p n c, .string cur, .agg ⟨xs⟩] w fun v w' => ∃ p' n' c' f, v = .tuple #[.slice p' n' c', .bool (restAddOk l cur dx)] ∧ OwnRows w' w.heap.size T_impl_Rest 4 p' n' c' (restAdd l cur dx) f ∧ Ext w w' := by
  have gr := g
  obtain ⟨a0, a1p, a1n, a1c, a1z, a2p, a2n, a2c, a2z, rfl, ed, _, _⟩ := open_Rat g gc
  refine impl_RestAdd_ret ?_
  unfold impl_RestAdd
  intro r w1 hn1
  have no : ∀ W, Ext w W → restAddOk l cur dx = false → ∃ p' n' c' f, Value.tuple #[.slice none 0 0, .bool false] = .tuple #[.slice p' n' c', .bool (restAddOk l cur dx)] ∧ OwnRows W w.heap.size T_impl_Rest 4 p' n' c' (restAdd l cur dx) f ∧ Ext w W := fun W hW hno => by
    refine ⟨none, 0, 0, [], by rw [hno], ?_, hW⟩
    unfold restAdd
    rw [hno]
    exact ⟨rfl, [], [], trivial, Own.nil _ _ _ _, rfl, List.nodup_nil⟩
  refine Ret.at (impl_RestsOk_c (h.ext hn1.ext) hc hn hb (ht.ext hn1.ext)) ?_
  rintro v w2 ⟨hv, y2⟩
  subst hv
  have X2 := hn1.ext.trans y2
  refine ⟨_, rfl, ifN (fun hno => ifT (ifT (no w2 X2 (by unfold restAddOk; rw [hno]; rfl)))) (fun h1 => ?_)⟩
  refine ⟨_, _, _, _, _, _, _, (hn1.blk.ext y2).loadA0 (by kernel_rfl), ?_⟩
  refine Ret.at (impl_RatOk_c (gr.ext X2) gc) ?_
  rintro v w3 ⟨hv, y3⟩
  subst hv
  have X3 := X2.trans y3
  refine ⟨_, rfl, ifN (fun hno => ifT (no w3 X3 (by unfold restAddOk; rw [hno]; simp))) (fun h2 => ?_)⟩
  refine Ret.at (impl_CurKnown_c (ht.ext X3) cur) ?_
  rintro v w4 ⟨hv, y4⟩
  subst hv
  have X4 := X3.trans y4
  exact ⟨_, rfl, ifN (fun hno => no w4 X4 (by unfold restAddOk; rw [hno]; simp)) (fun h3 => impl_RestAdd_j0_c h hc hn hb ht gr gc X4 (((hn1.blk.ext y2).ext y3).ext y4) h1 h2 h3)⟩
end Go.Proofs.YtfehpaekbbmkcaaGreatDoor

namespace Go.Proofs.YtfehpaekbbmkcaaGreatDoor
open Go Go.Proofs.YtfehpaekbbmkcaaGreatDoor.Sx
set_option linter.unusedVariables false
set_option linter.unusedSimpArgs false
def restsGo : List (List D0) → List (List D0) → Option (List (List D0))
  | L, [] => some L
  | L, x :: o => if restAddOk L (rowStr x) (x.drop 1) then restsGo (restAdd L (rowStr x) (x.drop 1)) o else none
def restsAddOk (l o : List (List D0)) : Bool := restsOk l && (restsGo l o).isSome
def restsAdd (l o : List (List D0)) : List (List D0) := if restsOk l then (restsGo l o).getD [] else []
abbrev RCode (l : List (List D0)) : Prop := ∀ x ∈ l, x.map D0.code = [.str, .bool, .ints, .ints]
theorem restsGo_cases : ∀ {o L L' : List (List D0)}, RCode L → restsGo L o = some L' → L' = L ∨ (RCode L' ∧ L'.length ≤ 20 ∧ ∀ x ∈ L', restOk x = true)
  | [], L, L', hc, h => .inl (Option.some.inj h).symm
  | x :: o, L, L', hc, h => by
    unfold restsGo at h
    split at h
    · rcases restsGo_cases (restAdd_code hc) h with e | e
      · subst e
        exact .inr ⟨restAdd_code hc, restAdd_len hc, restAdd_rows⟩
      · exact .inr e
    · cases h
theorem restsAdd_code {l o : List (List D0)} (hc : RCode l) : RCode (restsAdd l o) := by
  unfold restsAdd
  split
  · cases h : restsGo l o with
    | none => intro x hx; cases hx
    | some L =>
      rcases restsGo_cases hc h with e | e
      · subst e; exact hc
      · exact e.1
  · intro x hx; cases hx
theorem restsAdd_cnt {l o : List (List D0)} (hc : RCode l) (hl : l.length ≤ 1048576) : cntL (restsAdd l o) ≤ 1000000000 := by
  have gen : ∀ L : List (List D0), RCode L → L.length ≤ 1048576 → (∀ x ∈ L, restOk x = true) → cntL L ≤ 1000000000 := fun L h1 h2 h3 => by
    have := cntL_max (M := 100) (by omega) L fun x hx => restRow_cnt (h1 x hx) (h3 x hx)
    have h4 : ((L.length : Nat) : Int) * 100 ≤ 1048576 * 100 := by omega
    omega
  unfold restsAdd
  split
  · rename_i hok
    cases h : restsGo l o with
    | none => simp [cntL]
    | some L =>
      rcases restsGo_cases hc h with e | e
      · subst e; exact gen _ hc hl (restsOk_rows hok)
      · exact gen L e.1 (by have := e.2.1; omega) e.2.2
  · simp [cntL]
theorem restsAdd_no {l o : List (List D0)} (h : restsAddOk l o = false) : restsAdd l o = [] := by
  unfold restsAddOk at h
  unfold restsAdd
  split
  · rename_i hok
    rw [hok, Bool.true_and] at h
    cases hg : restsGo l o with
    | none => rfl
    | some L => rw [hg] at h; cases h
  · rfl
theorem restsAdd_yes {l o L : List (List D0)} (h : restsOk l = true) (hg : restsGo l o = some L) : restsAddOk l o = true ∧ restsAdd l o = L := by
  unfold restsAddOk restsAdd
  rw [h, hg]
  exact ⟨rfl, rfl⟩
theorem impl_restsCopy_c {w : World} {p : Option Addr} {n c : Nat} {l : List (List D0)} (h : RowsR w 4 p n c l) (hc : RCode l) (hn : n ≤ 1048576) (hb : ∀ x ∈ l, bulks x ≤ 1048576) :
    Ret P n_impl_restsCopy [.slice p n c] w fun v w' => ∃ p' c' f, v = .slice p' n c' ∧ OwnRows w' w.heap.size T_impl_Rest 4 p' n c' l f ∧ Ext w w' := by
  have hln := h.1; have hcap := h.2.1; have hcm := h.2.2.1
  refine impl_restsCopy_ret ?_
  unfold impl_restsCopy
  intro r w1 hn1
  have e1 := hn1.r_eq; have z1 := hn1.size
  refine ⟨fun op on oc i wr => ∃ (j : Nat) (f : List Nat), i = j ∧ j ≤ n ∧ on = j ∧ OwnRows wr w.heap.size T_impl_Rest 4 op on oc (l.take j) f ∧ Ext w wr, fun _ _ _ i _ => n - i.toNat, ⟨0, [r], rfl, by omega, rfl, OwnRows.fresh hn1 (Nat.le_refl _), hn1.ext⟩, ?_⟩
  intro junk wr op on oc i ⟨j, f, hi, hj, hon, hor, hx⟩
  subst hi; subst hon
  have lx := hx.le
  refine ifD (fun hlt => ?_) (fun hge => ?_)
  · have hjl : on < l.length := by omega
    obtain ⟨a, cs, hp, hk, hr, hl⟩ := (h.ext hx).at (P := P) (t := T_impl_Rest) (by kernel_rfl) (show on < n by omega)
    subst hp
    have hrr := hr; have hcode := hc _ (List.getElem_mem hjl)
    have hbj := hb _ (List.getElem_mem hjl)
    obtain ⟨a0, a1, a2p, a2n, a2c, a2z, a3p, a3n, a3c, a3z, rfl, hd, ir2, ir3⟩ := open_Rest hr hcode
    have hsnoc := List.take_succ_eq_append_getElem hjl
    rw [hd] at hsnoc hbj
    refine ⟨⟨by omega, by omega⟩, _, _, _, _, _, _, _, _, by simpa using hl, ?_⟩
    intro r1 w3 hn3
    obtain ⟨w4, st, b4, y4⟩ := hn3.fill (P := P) (t := T_impl_Rest) hrr.cells1 (by kernel_rfl) rfl
    have D := Ext.drew w4
    have Y := y4.trans D
    refine ⟨w4, st, _, fun W hW => ((b4.ext D).ext hW).loadAt 0 rfl (by kernel_rfl) rfl, _, _, _, _, _, _, _, fun W hW => ((b4.ext D).ext hW).loadAAt 1 [.bool a1, .slice a2p a2n a2c, .slice a3p a3n a3c] rfl (by kernel_rfl) rfl, ?_⟩
    have hs : Reps w4.drew [.bool a1, .slice a2p a2n a2c, .slice a3p a3n a3c] [.bool a1, .ints a2z, .ints a3z] := ⟨rfl, ⟨_, _, _, rfl, ir2.ext Y⟩, ⟨_, _, _, rfl, ir3.ext Y⟩, trivial⟩
    refine Ret.at (impl_ratCopy_c hs rfl (by simp only [bulks, D0.bulk, List.map_cons, List.map_nil, List.sum_cons, List.sum_nil] at hbj ⊢; omega)) ?_
    rintro v w5 ⟨vs, fx, hv, ho, hnd, y5⟩
    subst hv
    have ho' := ho
    obtain ⟨b0, b1p, b1n, b1c, b1z, b2p, b2n, b2c, b2z, rfl, hq, _⟩ := open_Rat ho.reps rfl
    refine ⟨_, _, _, _, _, _, _, rfl, y5, ?_⟩
    intro r6 w6 hn6
    have Y6 := (Y.trans y5).trans hn6.ext
    have l6 := Y6.le; have lD := Y.le
    have ho6 := (Owns.append (Owns.str _ _ a0) (ho'.ext hn6.ext))
    obtain ⟨p7, c7, w7, fn, hap, hpush, hch, hxx⟩ := (hor.ext Y6).push (P := P) sliceT_rest (by omega) hn6.blk rfl (ho6.mono (by omega)) hnd (fun q hq hm => by
      have h1 := (ho'.lt q hq).1
      have h2 := (hor.lt q hm).2
      omega) (by omega) (by omega)
    have hxn := hxx w (hx.trans Y6) (Nat.le_refl _)
    refine ⟨_, _, _, _, hap, exW ⟨by omega, by omega⟩ ⟨⟨on + 1, fn, by omega, by omega, rfl, by rw [hsnoc]; exact hpush, hxn⟩, ?_⟩⟩
    show n - ((on : Int) + 1).toNat < n - (on : Int).toNat
    omega
  · have hjn : on = n := by omega
    subst hjn
    rw [List.take_of_length_le (by omega)] at hor
    exact ⟨op, oc, f, rfl, hor, hx⟩
theorem impl_RestsAdd_c {w : World} {p p2 : Option Addr} {n c n2 c2 : Nat} {l o : List (List D0)} (h : RowsR w 4 p n c l) (hc : RCode l) (hn : n ≤ 1048576) (hb : ∀ x ∈ l, bulks x ≤ 1048576)
    (h2 : RowsR w 4 p2 n2 c2 o) (hc2 : RCode o) (hn2 : n2 ≤ 1048576) (hb2 : ∀ x ∈ o, bulks x ≤ 1048576) (ht : Tab w) :
    Ret P n_impl_RestsAdd [.slice p n c, .slice p2 n2 c2] w fun v w' => ∃ p' n' c' f, v = .tuple #[.slice p' n' c', .bool (restsAddOk l o)] ∧ OwnRows w' w.heap.size T_impl_Rest 4 p' n' c' (restsAdd l o) f ∧ (∀ x ∈ restsAdd l o, x.map D0.code = [.str, .bool, .ints, .ints]) ∧ cntL (restsAdd l o) ≤ 1000000000 ∧ Ext w w' := by
  have hln := h.1; have hcap := h.2.1; have hcm := h.2.2.1
  have hlo := h2.1; have hcap2 := h2.2.1; have hcm2 := h2.2.2.1
  have kc := restsAdd_code (o := o) hc; have kn := restsAdd_cnt (o := o) hc (by omega)
  have no : ∀ W, Ext w W → restsAddOk l o = false → ∃ p' n' c' f, Value.tuple #[.slice none 0 0, .bool false] = .tuple #[.slice p' n' c', .bool (restsAddOk l o)] ∧ OwnRows W w.heap.size T_impl_Rest 4 p' n' c' (restsAdd l o) f ∧ (∀ x ∈ restsAdd l o, x.map D0.code = [.str, .bool, .ints, .ints]) ∧ cntL (restsAdd l o) ≤ 1000000000 ∧ Ext w W := fun W hW hno => by
    refine ⟨none, 0, 0, [], by rw [hno], ?_, kc, kn, hW⟩
    rw [restsAdd_no hno]
    exact ⟨rfl, [], [], trivial, Own.nil _ _ _ _, rfl, List.nodup_nil⟩
  refine impl_RestsAdd_ret ?_
  unfold impl_RestsAdd
  refine Ret.at (impl_RestsOk_c h hc hn hb ht) ?_
  rintro v w1 ⟨hv, y1⟩
  subst hv
  refine ⟨_, rfl, ifN (fun hno => no w1 y1 (by unfold restsAddOk; rw [hno]; rfl)) (fun hok => ?_)⟩
  refine Ret.at (impl_restsCopy_c (h.ext y1) hc hn hb) ?_
  rintro v w2 ⟨p3, c3, f3, hv, ho3, y2⟩
  subst hv
  have X2 := y1.trans y2
  have l1 := y1.le
  refine ⟨_, _, _, rfl, fun op on oc i wr => ∃ (j : Nat) (L : List (List D0)) (f : List Nat), i = j ∧ j ≤ n2 ∧ OwnRows wr w.heap.size T_impl_Rest 4 op on oc L f ∧ RCode L ∧ on ≤ 1048576 ∧ (∀ x ∈ L, bulks x ≤ 1048576) ∧ restsGo l o = restsGo L (o.drop j) ∧ Ext w wr, fun _ _ _ i _ => n2 - i.toNat, ⟨0, l, f3, rfl, by omega, ho3.mono (by omega), hc, hn, hb, rfl, X2⟩, ?_⟩
  intro junk wr op on oc i ⟨j, L, f, hi, hj, hor, hLc, hLn, hLb, hgo, hx⟩
  subst hi
  have lx := hx.le
  have hoL := hor.rows
  refine ifD (fun hlt => ?_) (fun hge => ?_)
  · have hjl : j < o.length := by omega
    obtain ⟨a, cs, hp, hk, hr, hl⟩ := (h2.ext hx).at (P := P) (t := T_impl_Rest) (by kernel_rfl) (show j < n2 by omega)
    subst hp
    have hrr := hr; have hcode := hc2 _ (List.getElem_mem hjl)
    obtain ⟨a0, a1, a2p, a2n, a2c, a2z, a3p, a3n, a3c, a3z, rfl, hd, ir2, ir3⟩ := open_Rest hr hcode
    rw [List.drop_eq_getElem_cons hjl, restsGo, hd] at hgo
    refine ⟨⟨by omega, by omega⟩, _, _, _, _, _, _, _, _, by simpa using hl, ?_⟩
    intro r1 w3 hn3
    obtain ⟨w4, st, b4, y4⟩ := hn3.fill (P := P) (t := T_impl_Rest) hrr.cells1 (by kernel_rfl) rfl
    have l4 := y4.le
    have hs : Reps w4 [.bool a1, .slice a2p a2n a2c, .slice a3p a3n a3c] [.bool a1, .ints a2z, .ints a3z] := ⟨rfl, ⟨_, _, _, rfl, ir2.ext y4⟩, ⟨_, _, _, rfl, ir3.ext y4⟩, trivial⟩
    refine ⟨w4, st, _, b4.loadAt 0 rfl (by kernel_rfl) rfl, _, _, _, _, _, _, _, b4.loadAAt 1 [.bool a1, .slice a2p a2n a2c, .slice a3p a3n a3c] rfl (by kernel_rfl) rfl, ?_⟩
    refine Ret.at (impl_RestAdd_o (hoL.ext y4) hLc hLn hLb a0 hs rfl (ht.ext (hx.trans y4))) ?_
    rintro v w5 ⟨p5, n5, c5, f5, hv, ho5, y5⟩
    subst hv
    have X5 := (hx.trans y4).trans y5
    have hgo : restsGo l o = if restAddOk L a0 [.bool a1, .ints a2z, .ints a3z] then restsGo (restAdd L a0 [.bool a1, .ints a2z, .ints a3z]) (o.drop (j + 1)) else none := hgo
    refine ⟨_, _, _, _, rfl, ifN (fun hno => no w5 X5 ?_) (fun hyes => ?_)⟩
    · rw [hno] at hgo
      unfold restsAddOk
      rw [hgo, hok]; rfl
    · rw [hyes, if_pos rfl] at hgo
      refine exW ⟨by omega, by omega⟩ ⟨⟨j + 1, _, f5, by omega, by omega, ho5.mono (by omega), restAdd_code hLc, ?_, restAdd_bulk hLc, hgo, X5⟩, ?_⟩
      · have := ho5.1; have := restAdd_len (cur := a0) (r := [.bool a1, .ints a2z, .ints a3z]) hLc; omega
      · show n2 - ((j : Int) + 1).toNat < n2 - (j : Int).toNat
        omega
  · have hjn : j = o.length := by omega
    rw [hjn, List.drop_length] at hgo
    obtain ⟨k1, k2⟩ := restsAdd_yes hok hgo
    refine ⟨op, on, oc, f, by rw [k1], ?_, kc, kn, hx⟩
    rw [k2]; exact hor
theorem spec_RestsAdd_c {w : World} {p p2 : Option Addr} {n c n2 c2 : Nat} {l o : List (List D0)} (h : RowsR w 4 p n c l) (hc : RCode l) (hn : n ≤ 1048576) (hb : ∀ x ∈ l, bulks x ≤ 1048576)
    (h2 : RowsR w 4 p2 n2 c2 o) (hc2 : RCode o) (hn2 : n2 ≤ 1048576) (hb2 : ∀ x ∈ o, bulks x ≤ 1048576) :
    Ret P n_spec_RestsAdd [.slice p n c, .slice p2 n2 c2] w fun v w' => ∃ p' n' c', v = .tuple #[.slice p' n' c', .bool (restsAddOk l o)] ∧ RowsR w' 4 p' n' c' (restsAdd l o) ∧ (∀ x ∈ restsAdd l o, x.map D0.code = [.str, .bool, .ints, .ints]) ∧ Ext w w' := by
  have hln := h.1; have hcap := h.2.1; have hcm := h.2.2.1
  have hlo := h2.1; have hcap2 := h2.2.1; have hcm2 := h2.2.2.1
  have kc := restsAdd_code (o := o) hc
  have no : ∀ W, Ext w W → restsAddOk l o = false → ∃ p' n' c', Value.tuple #[.slice none 0 0, .bool false] = .tuple #[.slice p' n' c', .bool (restsAddOk l o)] ∧ RowsR W 4 p' n' c' (restsAdd l o) ∧ (∀ x ∈ restsAdd l o, x.map D0.code = [.str, .bool, .ints, .ints]) ∧ Ext w W := fun W hW hno => by
    refine ⟨none, 0, 0, by rw [hno], ?_, kc, hW⟩
    rw [restsAdd_no hno]
    exact RowsR.nil _ _ _ (by omega)
  refine spec_RestsAdd_ret ?_
  unfold spec_RestsAdd
  refine Ret.at (spec_l19Copy_c h hc hn hb) ?_
  rintro v w2 ⟨p3, c3, css, fs, hv, hall, how, hdis, y2⟩
  subst hv
  have ho3 : RowsR w2 4 p3 n c3 l := RowsW.rows (B := w.heap.size) (e := T_impl_Rest) ⟨hln, css, fs, hall, how, fun y hy e => hdis y hy e⟩
  refine ⟨_, _, _, rfl, fun op on oc i wr => ∃ (j : Nat) (L : List (List D0)), i = j ∧ j ≤ n2 ∧ RowsR wr 4 op on oc L ∧ RCode L ∧ on ≤ 1048576 ∧ (∀ x ∈ L, bulks x ≤ 1048576) ∧ restsGo l o = restsGo L (o.drop j) ∧ Ext w wr, fun _ _ _ i _ => n2 - i.toNat, ⟨0, l, rfl, by omega, ho3, hc, hn, hb, rfl, y2⟩, ?_⟩
  intro junk wr op on oc i ⟨j, L, hi, hj, hoL, hLc, hLn, hLb, hgo, hx⟩
  subst hi
  have lx := hx.le
  refine ifD (fun hlt => ?_) (fun hge => ?_)
  · have hjl : j < o.length := by omega
    obtain ⟨a, cs, hp, hk, hr, hl⟩ := (h2.ext hx).at (P := P) (t := T_impl_Rest) (by kernel_rfl) (show j < n2 by omega)
    subst hp
    have hrr := hr; have hcode := hc2 _ (List.getElem_mem hjl)
    obtain ⟨a0, a1, a2p, a2n, a2c, a2z, a3p, a3n, a3c, a3z, rfl, hd, ir2, ir3⟩ := open_Rest hr hcode
    rw [List.drop_eq_getElem_cons hjl, restsGo, hd] at hgo
    refine ⟨⟨by omega, by omega⟩, _, _, _, _, _, _, _, _, by simpa using hl, ?_⟩
    intro r1 w3 hn3
    obtain ⟨w4, st, b4, y4⟩ := hn3.fill (P := P) (t := T_impl_Rest) hrr.cells1 (by kernel_rfl) rfl
    have hs : Reps w4 [.bool a1, .slice a2p a2n a2c, .slice a3p a3n a3c] [.bool a1, .ints a2z, .ints a3z] := ⟨rfl, ⟨_, _, _, rfl, ir2.ext y4⟩, ⟨_, _, _, rfl, ir3.ext y4⟩, trivial⟩
    refine ⟨w4, st, _, b4.loadAt 0 rfl (by kernel_rfl) rfl, _, _, _, _, _, _, _, b4.loadAAt 1 [.bool a1, .slice a2p a2n a2c, .slice a3p a3n a3c] rfl (by kernel_rfl) rfl, ?_⟩
    refine Ret.at (spec_RestAdd_o (hoL.ext y4) hLc hLn hLb a0 hs rfl) ?_
    rintro v w5 ⟨p5, n5, c5, hv, ho5, y5⟩
    subst hv
    have X5 := (hx.trans y4).trans y5
    have hgo : restsGo l o = if restAddOk L a0 [.bool a1, .ints a2z, .ints a3z] then restsGo (restAdd L a0 [.bool a1, .ints a2z, .ints a3z]) (o.drop (j + 1)) else none := hgo
    refine ⟨_, _, _, _, rfl, ifN (fun hno => no w5 X5 ?_) (fun hyes => ?_)⟩
    · rw [hno] at hgo
      unfold restsAddOk
      rw [hgo]
      exact Bool.and_false _
    · rw [hyes, if_pos rfl] at hgo
      refine exW ⟨by omega, by omega⟩ ⟨⟨j + 1, _, by omega, by omega, ho5, restAdd_code hLc, ?_, restAdd_bulk hLc, hgo, X5⟩, ?_⟩
      · have := ho5.1; have := restAdd_len (cur := a0) (r := [.bool a1, .ints a2z, .ints a3z]) hLc; omega
      · show n2 - ((j : Int) + 1).toNat < n2 - (j : Int).toNat
        omega
  · have hjn : j = o.length := by omega
    rw [hjn, List.drop_length] at hgo
    refine Ret.at (spec_RestsOk_c (h.ext hx) hc hn hb) ?_
    rintro v w6 ⟨hv, y6⟩
    subst hv
    refine ⟨_, rfl, ifN (fun hno => no w6 (hx.trans y6) (by unfold restsAddOk; rw [hno]; rfl)) (fun hok => ?_)⟩
    obtain ⟨k1, k2⟩ := restsAdd_yes hok hgo
    refine ⟨op, on, oc, by rw [k1], ?_, kc, hx.trans y6⟩
    rw [k2]; exact hoL.ext y6
end Go.Proofs.YtfehpaekbbmkcaaGreatDoor

namespace Go.Proofs.YtfehpaekbbmkcaaGreatDoor.Sx
open Go Go.RowKit
set_option linter.unusedVariables false
set_option linter.unusedSimpArgs false
theorem Fl.trans {os : List Obj} {ss : List (Option Nat)} {w : World} {s1 : List (Option Nat)} {w1 : World} {s2 : List (Option Nat)} {w2 : World} (h : Fl os ss w s1 w1) (g : Fl os s1 w1 s2 w2) : Fl os ss w s2 w2 := by
  induction h with
  | refl => exact g
  | step h1 h2 _ ih => exact .step h1 h2 (ih g)
theorem Fl.old {os : List Obj} {ss : List (Option Nat)} {w : World} {s1 : List (Option Nat)} {w1 : World} (h : Fl os ss w s1 w1) {k r : Nat} (hk : s1[k]? = some (some r)) : ss[k]? = some (some r) ∨ w.heap.size ≤ r := by
  induction h with
  | refl => exact .inl hk
  | step h1 h2 h3 ih =>
    rename_i ss w k' o s' w'
    have hs : (w.alloc o).heap.size = w.heap.size + 1 := by simp
    rcases ih hk with h | h
    · by_cases e : k' = k
      · subst e
        have hl : k' < ss.length := by
          rcases Nat.lt_or_ge k' ss.length with h | h
          · exact h
          · rw [List.getElem?_eq_none h] at h1; cases h1
        rw [List.getElem?_set_self hl] at h
        simp at h
        exact .inr (by omega)
      · rw [List.getElem?_set_ne e] at h
        exact .inl h
    · exact .inr (by omega)
def FlS (os : List Obj) (w0 : World) (ss : List (Option Nat)) (w : World) : Prop :=
  Ext w0 w ∧ (∀ (k r : Nat), ss[k]? = some (some r) → w0.heap.size ≤ r ∧ r < w.heap.size ∧ w.heap[r]? = os[k]?) ∧ (∀ (k l r : Nat), ss[k]? = some (some r) → ss[l]? = some (some r) → k = l)
theorem FlS.ext {os : List Obj} {w0 w w' : World} {ss : List (Option Nat)} (h : FlS os w0 ss w) (y : Ext w w') : FlS os w0 ss w' :=
  ⟨h.1.trans y, fun k r hk => by
    obtain ⟨a, b, c⟩ := h.2.1 k r hk
    exact ⟨a, Nat.lt_of_lt_of_le b y.le, (y.block r b).trans c⟩, h.2.2⟩
theorem FlS.step {os : List Obj} {w0 w w' : World} {ss ss' : List (Option Nat)} (h : FlS os w0 ss w) (f : Fl os ss w ss' w') : FlS os w0 ss' w' := by
  induction f with
  | refl => exact h
  | step h1 h2 h3 ih =>
    rename_i ss w k' o s' w'
    refine ih ?_
    have y : Ext w (w.alloc o) := (Below.refl _ _).alloc (Nat.le_refl _) _
    have hs : (w.alloc o).heap.size = w.heap.size + 1 := by simp
    have hg : (w.alloc o).heap[w.heap.size]? = some o := heap_alloc_new w _
    have hl : k' < ss.length := by
      rcases Nat.lt_or_ge k' ss.length with h | h
      · exact h
      · rw [List.getElem?_eq_none h] at h1; cases h1
    have hx := h.ext y
    have hle := h.1.le
    refine ⟨hx.1, fun k r hk => ?_, fun k l r hk hl' => ?_⟩
    · by_cases e : k' = k
      · subst e
        rw [List.getElem?_set_self hl] at hk
        simp at hk
        subst hk
        exact ⟨hle, by omega, hg.trans h2.symm⟩
      · rw [List.getElem?_set_ne e] at hk
        exact hx.2.1 k r hk
    · by_cases e : k' = k
      · by_cases e2 : k' = l
        · omega
        · subst e
          rw [List.getElem?_set_self hl] at hk
          simp at hk
          subst hk
          rw [List.getElem?_set_ne e2] at hl'
          have := (h.2.1 l _ hl').2.1
          omega
      · rw [List.getElem?_set_ne e] at hk
        by_cases e2 : k' = l
        · subst e2
          rw [List.getElem?_set_self hl] at hl'
          simp at hl'
          subst hl'
          have := (h.2.1 k _ hk).2.1
          omega
        · rw [List.getElem?_set_ne e2] at hl'
          exact h.2.2 k l r hk hl'
theorem FlS.first {os : List Obj} {w0 w : World} {ss0 ss : List (Option Nat)} (f : Fl os ss0 w0 ss w) (h : ss0.all Option.isNone = true) : FlS os w0 ss w := by
  refine FlS.step ⟨Ext.refl _, fun k r hk => ?_, fun k l r hk _ => ?_⟩ f <;>
  · have hm := List.mem_of_getElem? hk
    have := List.all_eq_true.1 h _ hm
    simp at this
theorem FlS.blk {os : List Obj} {w0 w : World} {ss : List (Option Nat)} {k r : Nat} {cs : List Value} {e : TypeId} (h : FlS os w0 ss w) (hk : ss[k]? = some (some r)) (ho : os[k]? = some (.cells ⟨cs⟩ e (0, 0))) : w0.heap.size ≤ r ∧ r < w.heap.size ∧ Blk w r e cs := by
  obtain ⟨a, b, c⟩ := h.2.1 k r hk
  exact ⟨a, b, c.trans ho⟩
theorem FlS.ne {os : List Obj} {w0 w : World} {ss : List (Option Nat)} {k l r s : Nat} (h : FlS os w0 ss w) (hk : ss[k]? = some (some r)) (hl : ss[l]? = some (some s)) (e : k ≠ l) : r ≠ s := fun hh => e (h.2.2 k l r hk (hh ▸ hl))
theorem FlS.apart {os : List Obj} {w0 wc we w' : World} {ss ss' : List (Option Nat)} {k r : Nat} (h : FlS os w0 ss wc) (f : Fl os ss we ss' w') (hk : ss'[k]? = some (some r)) : r < wc.heap.size ∨ we.heap.size ≤ r := by
  rcases f.old hk with a | a
  · exact .inl (h.2.1 k r a).2.1
  · exact .inr a
end Go.Proofs.YtfehpaekbbmkcaaGreatDoor.Sx

namespace Go.Proofs.YtfehpaekbbmkcaaGreatDoor
open Go Go.Proofs.YtfehpaekbbmkcaaGreatDoor.Sx
set_option linter.unusedVariables false
set_option linter.unusedSimpArgs false
theorem laws_markRestS_c {w : World} {B : Nat} {e : TypeId} {p : Option Addr} {n c : Nat} {l : List (List D0)} {f : List Nat} {k : Int} (h : OwnRows w B e 4 p n c l f) (hc : ∀ x ∈ l, x.map D0.code = [.str, .bool, .ints, .ints]) (h0 : 0 ≤ k) (h1 : k + cntL l ≤ 1000000000000000000) :
    Ret P n_laws_markRestS [.slice p n c, .int .i64 k] w fun v w' => v = .int .i64 (k + cntL l) ∧ OwnRows w' B e 4 p n c (markL l k) f ∧ Chg f w w' := by
  have hz := h.1; have hcap := h.rows.2.1; have hcm := h.rows.2.2.1
  refine laws_markRestS_ret ?_
  unfold laws_markRestS
  refine ⟨fun k1 i wr => ∃ j : Nat, i = j ∧ j ≤ n ∧ k1 = k + cntL (l.take j) ∧ OwnRows wr B e 4 p n c (markL (l.take j) k ++ l.drop j) f ∧ Chg f w wr, fun _ i _ => n - i.toNat, ⟨0, rfl, by omega, by simp [cntL], by simpa [markL] using h, Chg.refl _ _⟩, ?_⟩
  intro junk wr k1 i ⟨j, hij, hj, hk1, ho, hch⟩
  subst hij
  refine ifD (fun hlt => ?_) (fun hge => ?_)
  · have hjl : j < l.length := by omega
    obtain ⟨x, hxe⟩ : ∃ x, l[j]? = some x := ⟨_, List.getElem?_eq_getElem hjl⟩
    have hcode := hc x (List.mem_of_getElem? hxe)
    obtain ⟨hct, hcle⟩ := cntL_row hxe
    have hcn := cntL_nonneg (l.take j)
    obtain ⟨b, xs, cs, zs, fi, hp, hB, hA, hk, blk, ow, ndf, hbf, hbm, hfm, back⟩ := ho.focus (markL_at hxe)
    subst hp
    obtain ⟨a0, us, es, rfl, rfl, ow2, hcode2⟩ := ow.consStr hcode
    clear ow hcode; have ow := ow2; have hcode := hcode2; clear ow2 hcode2
    obtain ⟨a1, us, es, rfl, rfl, ow2, hcode2⟩ := ow.consBool hcode
    clear ow hcode; have ow := ow2; have hcode := hcode2; clear ow2 hcode2
    obtain ⟨a2p, a2n, a2c, a2z, us, es, f2, rfl, rfl, rfl, o2, ow2, hcode2⟩ := ow.consInts hcode
    clear ow hcode; have ow := ow2; have hcode := hcode2; clear ow2 hcode2
    obtain ⟨a3p, a3n, a3c, a3z, us, es, f3, rfl, rfl, rfl, o3, ow2, hcode2⟩ := ow.consInts hcode
    clear ow hcode; have ow := ow2; have hcode := hcode2; clear ow2 hcode2
    obtain ⟨rfl, rfl, rfl⟩ := ow.done hcode
    simp only [cnts, D0.cnt] at hct hcle
    have z2 : a2z.length = a2n := by have := o2.len; simpa using this
    have z3 : a3z.length = a3n := by have := o3.len; simpa using this
    have m2 : ∀ q, a2p.map (·.block) = some q → q ∈ ((a2p.map (·.block)).toList ++ ((a3p.map (·.block)).toList ++ ([] : List Nat))) := fun q hq => List.mem_append_left _ (mem_opt hq)
    have u2 : ∀ {W : World} {W2 : World} {zs : List Value}, Own W B T_int 1 a2p a2n a2c zs → Chg [b] W W2 → Own W2 B T_int 1 a2p a2n a2c zs := fun o ch => o.chg ch (fun q hq hm => hbf (List.mem_singleton.1 hm ▸ m2 q hq))
    have m3 : ∀ q, a3p.map (·.block) = some q → q ∈ ((a2p.map (·.block)).toList ++ ((a3p.map (·.block)).toList ++ ([] : List Nat))) := fun q hq => List.mem_append_right _ (List.mem_append_left _ (mem_opt hq))
    have u3 : ∀ {W : World} {W2 : World} {zs : List Value}, Own W B T_int 1 a3p a3n a3c zs → Chg [b] W W2 → Own W2 B T_int 1 a3p a3n a3c zs := fun o ch => o.chg ch (fun q hq hm => hbf (List.mem_singleton.1 hm ▸ m3 q hq))
    have x2 := (List.nodup_append.1 ndf).2.2; have nd2 := (List.nodup_append.1 ndf).2.1
    have d2_3 : ∀ q, a2p.map (·.block) = some q → q ∉ (a3p.map (·.block)).toList := fun q hq hm => x2 q (mem_opt hq) q (List.mem_append_left _ hm) rfl
    have d3_2 : ∀ q, a3p.map (·.block) = some q → q ∉ (a2p.map (·.block)).toList := fun q hq hm => x2 q hm q (List.mem_append_left _ (mem_opt hq)) rfl
    have chT : Chg (b :: ((a2p.map (·.block)).toList ++ ((a3p.map (·.block)).toList ++ ([] : List Nat)))) wr wr := Chg.refl _ _
    have sub1 : ∀ q ∈ [b], q ∈ b :: ((a2p.map (·.block)).toList ++ ((a3p.map (·.block)).toList ++ ([] : List Nat))) := fun q hq => by rw [List.mem_singleton.1 hq]; exact List.mem_cons_self
    refine Ret.at (laws_markText_c (by omega) _) ?_
    rintro v w1 ⟨hv, y⟩
    subst hv
    have blk := blk.ext y; have chT := chT.trans y.toChg
    have o2 := o2.ext y
    have o3 := o3.ext y
    obtain ⟨w2, st, blk2, ch, sz⟩ := blk.storeMid (P := P) (t := T_string) (v := .string (mtext (k1))) hA 0 (by simp) (by kernel_rfl) rfl rfl
    have blk : Blk w2 b e (xs ++ [.string (mtext (k1)), .bool a1, .slice a2p a2n a2c, .slice a3p a3n a3c] ++ zs) := blk2; clear blk2
    have chT := chT.trans (ch.mono sub1)
    have o2 := u2 o2 ch
    have o3 := u3 o3 ch
    refine ⟨_, rfl, ⟨by omega, by omega⟩, w2, (by simp only [addr_add, Int.toNat_natCast, Nat.zero_add, Nat.add_zero]; exact st), exW ⟨by omega, by omega⟩ ?_⟩
    refine ⟨by decide, _, rfl, ⟨by omega, by omega⟩, ?_⟩
    rw [Int.tmod_eq_emod_of_nonneg (show (0 : Int) ≤ k1 + 1 by omega)]
    obtain ⟨w3, st, blk2, ch, sz⟩ := blk.storeMid (P := P) (t := T_bool) (v := .bool (decide ((k1 + 1) % 3 = 0))) hA 1 (by simp) (by kernel_rfl) rfl rfl
    have blk : Blk w3 b e (xs ++ [.string (mtext (k1)), .bool (decide ((k1 + 1) % 3 = 0)), .slice a2p a2n a2c, .slice a3p a3n a3c] ++ zs) := blk2; clear blk2
    have chT := chT.trans (ch.mono sub1)
    have o2 := u2 o2 ch
    have o3 := u3 o3 ch
    refine ⟨w3, (by simp only [addr_add, Int.toNat_natCast, Nat.zero_add, Nat.add_zero]; exact st), exW ⟨by omega, by omega⟩ ?_⟩
    refine ⟨⟨by omega, by omega⟩, _, _, _, (by simp only [addr_add, Int.toNat_natCast, Nat.zero_add, Nat.add_zero]; exact (blk.segMid hA).loadAt 2 rfl (by kernel_rfl) rfl), ?_⟩
    refine Ret.at (laws_markIntS_c o2 (by omega) (by omega)) ?_
    rintro v w4 ⟨hv, on, ch⟩
    subst hv
    have blk := blk.chg ch (fun hm => hbf (m2 _ (opt_mem hm)))
    have chT := chT.trans (ch.mono (fun q hq => List.mem_cons_of_mem _ (m2 q (opt_mem hq))))
    have o3 := o3.chg ch d3_2
    have o2 := on; clear on
    refine ⟨_, rfl, ?_⟩
    refine ⟨⟨by omega, by omega⟩, _, _, _, (by simp only [addr_add, Int.toNat_natCast, Nat.zero_add, Nat.add_zero]; exact (blk.segMid hA).loadAt 3 rfl (by kernel_rfl) rfl), ?_⟩
    refine Ret.at (laws_markIntS_c o3 (by omega) (by omega)) ?_
    rintro v w5 ⟨hv, on, ch⟩
    subst hv
    have blk := blk.chg ch (fun hm => hbf (m3 _ (opt_mem hm)))
    have chT := chT.trans (ch.mono (fun q hq => List.mem_cons_of_mem _ (m3 q (opt_mem hq))))
    have o2 := o2.chg ch d2_3
    have o3 := on; clear on
    refine ⟨_, rfl, ?_⟩
    refine exW ⟨by omega, by omega⟩ ⟨⟨j + 1, by omega, by omega, by omega, ?_, hch.trans (chT.mono (fun q hq => ?_))⟩, ?_⟩
    · rw [← markL_set hxe, ← hk1]
      have e : marks [.str a0, .bool a1, .ints a2z, .ints a3z] k1 = [.str (mtext (k1)), .bool (decide ((k1 + 1) % 3 = 0)), .ints (mkI a2n (k1 + 1 + 1)), .ints (mkI a3n (k1 + 1 + 1 + (a2n : Nat)))] := by simp only [marks, D0.mark, D0.cnt, z2, z3] <;> rfl
      rw [e]
      exact back _ [.string (mtext (k1)), .bool (decide ((k1 + 1) % 3 = 0)), .slice a2p a2n a2c, .slice a3p a3n a3c] _ chT rfl blk (Owns.append (Owns.str _ _ _) (Owns.append (Owns.bool _ _ _) (Owns.append (Owns.ints o2) (Owns.append (Owns.ints o3) (Owns.nil _ _)))))
    · rcases List.mem_cons.1 hq with h | h
      · rw [h]; exact hbm
      · exact hfm q h
    · show n - ((j : Int) + 1).toNat < n - (j : Int).toNat
      omega
  · have hjn : j = n := by omega
    subst hjn
    rw [List.take_of_length_le (by omega), List.drop_of_length_le (by omega), List.append_nil] at ho
    rw [List.take_of_length_le (by omega)] at hk1
    exact ⟨by rw [hk1], ho, hch⟩
theorem laws_heldRestS_c {w : World} {p : Option Addr} {n c : Nat} {l : List (List D0)} {k : Int} (h : RowsR w 4 p n c (markL l k)) (hc : ∀ x ∈ l, x.map D0.code = [.str, .bool, .ints, .ints]) (h0 : 0 ≤ k) (h1 : k + cntL l ≤ 1000000000000000000) :
    Ret P n_laws_heldRestS [.slice p n c, .int .i64 k] w fun v w' => v = .int .i64 (k + cntL l) ∧ Ext w w' := by
  have hz : l.length = n := by have := h.1; rwa [markL_len] at this
  have hcap := h.2.1; have hcm := h.2.2.1
  refine laws_heldRestS_ret ?_
  unfold laws_heldRestS
  refine ⟨fun k1 i wr => ∃ j : Nat, i = j ∧ j ≤ n ∧ k1 = k + cntL (l.take j) ∧ Ext w wr, fun _ i _ => n - i.toNat, ⟨0, rfl, by omega, by simp [cntL], Ext.refl _⟩, ?_⟩
  intro junk wr k1 i ⟨j, hij, hj, hk1, hx⟩
  subst hij
  refine ifD (fun hlt => ?_) (fun hge => ?_)
  · have hjl : j < l.length := by omega
    obtain ⟨x, hxe⟩ : ∃ x, l[j]? = some x := ⟨_, List.getElem?_eq_getElem hjl⟩
    have hcode := hc x (List.mem_of_getElem? hxe)
    obtain ⟨hct, hcle⟩ := cntL_row hxe
    have hcn := cntL_nonneg (l.take j)
    obtain ⟨b, off, hp, hs⟩ := (h.ext hx).2.2.2 (by omega)
    subst hp
    obtain ⟨cs, hk, hr, hsg⟩ := hs j _ (markL_get l k j x hxe)
    rw [← hk1] at hr
    obtain ⟨s0, es, rfl, hcode2⟩ := code_str hcode
    clear hcode; have hcode := hcode2; clear hcode2
    obtain ⟨s1, es, rfl, hcode2⟩ := code_bool hcode
    clear hcode; have hcode := hcode2; clear hcode2
    obtain ⟨z2, es, rfl, hcode2⟩ := code_ints hcode
    clear hcode; have hcode := hcode2; clear hcode2
    obtain ⟨z3, es, rfl, hcode2⟩ := code_ints hcode
    clear hcode; have hcode := hcode2; clear hcode2
    have hn := code_nil hcode; subst hn
    simp only [marks, D0.mark, D0.cnt] at hr
    simp only [cnts, D0.cnt] at hct hcle
    obtain ⟨a0, us, es, rfl, hd, hr2, hc2⟩ := hr.str rfl
    cases hd
    clear hr hc2; have hr := hr2; clear hr2
    obtain ⟨a1, us, es, rfl, hd, hr2, hc2⟩ := hr.bool rfl
    cases hd
    clear hr hc2; have hr := hr2; clear hr2
    obtain ⟨a2p, a2n, a2c, a2z, us, es, rfl, hd, g2, hr2, hc2⟩ := hr.ints rfl
    cases hd
    clear hr hc2; have hr := hr2; clear hr2
    obtain ⟨a3p, a3n, a3c, a3z, us, es, rfl, hd, g3, hr2, hc2⟩ := hr.ints rfl
    cases hd
    clear hr hc2; have hr := hr2; clear hr2
    obtain ⟨hv, _⟩ := hr.done rfl
    subst hv
    have y2 : z2.length = a2n := by have := g2.1; rwa [mkI_len] at this
    rw [y2] at g2
    have y3 : z3.length = a3n := by have := g3.1; rwa [mkI_len] at this
    rw [y3] at g3
    have X : Ext wr wr := Ext.refl _
    have D := Ext.drew wr; have X := X.trans D
    refine ⟨⟨by omega, by omega⟩, _, fun W' hW => (by simp only [addr_add, Int.toNat_natCast, Nat.zero_add, Nat.add_zero]; exact (hsg.ext (X.trans hW)).loadAt 0 rfl (by kernel_rfl) rfl), ?_⟩
    refine Ret.at (laws_markText_c (by omega) _) ?_
    rintro v w1 ⟨hv, y⟩
    subst hv
    have X := X.trans y
    refine ⟨_, rfl, y, ifD (fun hne => absurd rfl hne) (fun _ => exW ⟨by omega, by omega⟩ ?_)⟩
    refine ⟨⟨by omega, by omega⟩, _, (by simp only [addr_add, Int.toNat_natCast, Nat.zero_add, Nat.add_zero]; exact (hsg.ext X).loadAt 1 rfl (by kernel_rfl) rfl), by decide, _, rfl, ?_⟩
    rw [Int.tmod_eq_emod_of_nonneg (show (0 : Int) ≤ k1 + 1 by omega)]
    refine ⟨fun h => absurd h (bne_no rfl), fun _ => exW ⟨by omega, by omega⟩ ?_⟩
    refine ⟨⟨by omega, by omega⟩, _, _, _, (by simp only [addr_add, Int.toNat_natCast, Nat.zero_add, Nat.add_zero]; exact (hsg.ext X).loadAt 2 rfl (by kernel_rfl) rfl), ?_⟩
    refine Ret.at (laws_heldIntS_c (n := a2n) (k := k1 + 1 + 1) (by have := g2.ext X;  exact this) (by omega) (by omega)) ?_
    rintro v w2 ⟨hv, y⟩
    subst hv
    have X := X.trans y
    refine ⟨_, rfl, ifD (fun h => absurd h (by omega)) (fun _ => ?_)⟩
    refine ⟨⟨by omega, by omega⟩, _, _, _, (by simp only [addr_add, Int.toNat_natCast, Nat.zero_add, Nat.add_zero]; exact (hsg.ext X).loadAt 3 rfl (by kernel_rfl) rfl), ?_⟩
    refine Ret.at (laws_heldIntS_c (n := a3n) (k := k1 + 1 + 1 + (a2n : Nat)) (by have := g3.ext X; simp only [y2] at this; exact this) (by omega) (by omega)) ?_
    rintro v w3 ⟨hv, y⟩
    subst hv
    have X := X.trans y
    refine ⟨_, rfl, ifD (fun h => absurd h (by omega)) (fun _ => ?_)⟩
    refine exW ⟨by omega, by omega⟩ ⟨⟨j + 1, by omega, by omega, by omega, hx.trans X⟩, ?_⟩
    show n - ((j : Int) + 1).toNat < n - (j : Int).toNat
    omega
  · have hjn : j = n := by omega
    subst hjn
    rw [List.take_of_length_le (by omega)] at hk1
    exact ⟨by rw [hk1], hx⟩
end Go.Proofs.YtfehpaekbbmkcaaGreatDoor

namespace Go.Proofs.YtfehpaekbbmkcaaGreatDoor
open Go Go.Proofs.YtfehpaekbbmkcaaGreatDoor.Sx
set_option linter.unusedVariables false
set_option linter.unusedSimpArgs false
set_option maxHeartbeats 4000000
theorem laws_FnExactRestsAdd_c {w : World} {p0 : Option Addr} {n0 c0 : Nat} {l0 : List (List D0)} (h0 : RowsR w 4 p0 n0 c0 l0) (hc0 : ∀ x ∈ l0, x.map D0.code = [.str, .bool, .ints, .ints]) (hk0 : ∀ x ∈ l0, ∀ d ∈ x, d.ok) {p1 : Option Addr} {n1 c1 : Nat} {l1 : List (List D0)} (h1 : RowsR w 4 p1 n1 c1 l1) (hc1 : ∀ x ∈ l1, x.map D0.code = [.str, .bool, .ints, .ints]) (hk1 : ∀ x ∈ l1, ∀ d ∈ x, d.ok) (ht : Tab w) :
    Ret P n_laws_FnExactRestsAdd [.slice p0 n0 c0, .slice p1 n1 c1] w fun v w' => v = .bool true ∧ Ext w w' := by
  refine laws_FnExactRestsAdd_ret ?_
  unfold laws_FnExactRestsAdd
  have x : Ext w w := Ext.refl w
  refine Ret.at (laws_szRestS_c (h0.ext x) hc0 hk0 (by omega) (by omega)) ?_
  rintro v W1 ⟨k0, hv, hs0, hm0, y⟩
  subst hv
  replace x := x.trans y
  have ll1 := y.le
  refine ⟨_, rfl, ifD (fun _ => ⟨rfl, x⟩) (fun hp0 => ?_)⟩
  refine Ret.at (laws_szRestS_c (h1.ext x) hc1 hk1 (by omega) (by omega)) ?_
  rintro v W2 ⟨k1, hv, hs1, hm1, y⟩
  subst hv
  replace x := x.trans y
  have ll2 := y.le
  refine ⟨_, rfl, ifD (fun _ => ⟨rfl, x⟩) (fun hp1 => ?_)⟩
  have hs0 := hs0 (by omega)
  have hs1 := hs1 (by omega)
  have hb0 : ∀ y ∈ l0, bulks y ≤ 1048576 := fun y hy => by have := bulks_le hy; omega
  have hz0 : n0 ≤ 1048576 := by omega
  have hsum0 : (l0.map bulks).sum ≤ 1048576 := by omega
  have hb1 : ∀ y ∈ l1, bulks y ≤ 1048576 := fun y hy => by have := bulks_le hy; omega
  have hz1 : n1 ≤ 1048576 := by omega
  have hsum1 : (l1.map bulks).sum ≤ 1048576 := by omega
  refine Ret.at (laws_toRestS_c (h0.ext x) hc0 hz0 hb0) ?_
  rintro v W3 ⟨p_s0, c_s0, f_s0, hv, o_s0, y⟩
  subst hv
  have lt_o_s0 : ∀ k ∈ f_s0, W2.heap.size ≤ k ∧ k < W3.heap.size := o_s0.lt
  have yy := y
  replace x := x.trans y
  have ll3 := y.le
  refine ⟨_, _, _, rfl, ?_⟩
  refine Ret.at (laws_toRestS_c (h1.ext x) hc1 hz1 hb1) ?_
  rintro v W4 ⟨p_s1, c_s1, f_s1, hv, o_s1, y⟩
  subst hv
  have lt_o_s1 : ∀ k ∈ f_s1, W3.heap.size ≤ k ∧ k < W4.heap.size := o_s1.lt
  have yy := y
  replace x := x.trans y
  replace o_s0 := o_s0.ext y
  have ll4 := y.le
  refine ⟨_, _, _, rfl, ?_⟩
  refine Ret.at (spec_RestsAdd_c o_s0.rows hc0 hz0 hb0 o_s1.rows hc1 hz1 hb1) ?_
  rintro v W5 ⟨p_w0, m_w0, c_w0, hv, o_w0, co_w0, y⟩
  subst hv
  replace x := x.trans y
  have ll5 := y.le
  have xS := Ext.refl W5
  refine ⟨_, _, _, _, rfl, ?_⟩
  refine Ret.at (laws_toRestS_c (h0.ext x) hc0 hz0 hb0) ?_
  rintro v W6 ⟨p_x0, c_x0, f_x0, hv, o_x0, y⟩
  subst hv
  have lt_o_x0 : ∀ k ∈ f_x0, W5.heap.size ≤ k ∧ k < W6.heap.size := o_x0.lt
  replace x := x.trans y
  replace xS := xS.trans y
  have ll6 := y.le
  refine ⟨_, _, _, rfl, ?_⟩
  refine Ret.at (laws_toRestS_c (h1.ext x) hc1 hz1 hb1) ?_
  rintro v W7 ⟨p_x1, c_x1, f_x1, hv, o_x1, y⟩
  subst hv
  have lt_o_x1 : ∀ k ∈ f_x1, W6.heap.size ≤ k ∧ k < W7.heap.size := o_x1.lt
  replace x := x.trans y
  replace xS := xS.trans y
  replace o_x0 := o_x0.ext y
  have ll7 := y.le
  refine ⟨_, _, _, rfl, ?_⟩
  refine Ret.at (impl_RestsAdd_c o_x0.rows hc0 hz0 hb0 o_x1.rows hc1 hz1 hb1 (ht.ext x)) ?_
  rintro v W8 ⟨p_g0, m_g0, c_g0, f_g0, hv, o_g0, co_g0, ct_g0, y⟩
  subst hv
  have tn_g0 := cntL_nn ct_g0
  have lt_o_g0 : ∀ k ∈ f_g0, W7.heap.size ≤ k ∧ k < W8.heap.size := o_g0.lt
  replace x := x.trans y
  replace xS := xS.trans y
  replace o_x0 := o_x0.ext y
  replace o_x1 := o_x1.ext y
  have ll8 := y.le
  refine ⟨_, _, _, _, rfl, ?_⟩
  refine Ret.at (laws_eqRestS_c o_g0.rows (o_w0.ext xS) co_g0 co_w0) ?_
  rintro v W9 ⟨hv, y⟩
  subst hv
  replace x := x.trans y
  replace xS := xS.trans y
  replace o_x0 := o_x0.ext y
  replace o_x1 := o_x1.ext y
  replace o_g0 := o_g0.ext y
  have ll9 := y.le
  refine ⟨_, rfl, ifN (fun h => absurd h (by simp)) (fun _ => ?_)⟩
  refine ⟨fun h => absurd h (bne_no rfl), fun _ => ?_⟩
  unfold laws_FnExactRestsAdd_j0
  refine Ret.at (laws_toRestS_c (h0.ext x) hc0 hz0 hb0) ?_
  rintro v W10 ⟨p_y0, c_y0, f_y0, hv, o_y0, y⟩
  subst hv
  have lt_o_y0 : ∀ k ∈ f_y0, W9.heap.size ≤ k ∧ k < W10.heap.size := o_y0.lt
  have y2 := y
  replace x := x.trans y
  replace xS := xS.trans y
  replace o_x0 := o_x0.ext y
  replace o_x1 := o_x1.ext y
  replace o_g0 := o_g0.ext y
  have ll10 := y.le
  refine ⟨_, _, _, rfl, ?_⟩
  refine Ret.at (laws_eqRestS_c o_x0.rows o_y0.rows hc0 hc0) ?_
  rintro v W11 ⟨hv, y⟩
  subst hv
  replace x := x.trans y
  replace xS := xS.trans y
  replace o_x0 := o_x0.ext y
  replace o_x1 := o_x1.ext y
  replace o_g0 := o_g0.ext y
  have ll11 := y.le
  refine ⟨_, rfl, ifN (fun h => absurd h (by simp)) (fun _ => ?_)⟩
  refine Ret.at (laws_toRestS_c (h1.ext x) hc1 hz1 hb1) ?_
  rintro v W12 ⟨p_y1, c_y1, f_y1, hv, o_y1, y⟩
  subst hv
  have lt_o_y1 : ∀ k ∈ f_y1, W11.heap.size ≤ k ∧ k < W12.heap.size := o_y1.lt
  have y2 := y
  replace x := x.trans y
  replace xS := xS.trans y
  replace o_x0 := o_x0.ext y
  replace o_x1 := o_x1.ext y
  replace o_g0 := o_g0.ext y
  have ll12 := y.le
  refine ⟨_, _, _, rfl, ?_⟩
  refine Ret.at (laws_eqRestS_c o_x1.rows o_y1.rows hc1 hc1) ?_
  rintro v W13 ⟨hv, y⟩
  subst hv
  replace x := x.trans y
  replace xS := xS.trans y
  replace o_x0 := o_x0.ext y
  replace o_x1 := o_x1.ext y
  replace o_g0 := o_g0.ext y
  have ll13 := y.le
  refine ⟨_, rfl, ifN (fun h => absurd h (by simp)) (fun _ => ?_)⟩
  have cn0 := cntL_nonneg l0; have cb0 := cntL_le l0 (m := 4) (fun y hy => by rw [code_len (hc0 y hy)]; decide)
  have cl0 : cntL l0 ≤ 100000000 := by have := h0.1; omega
  have cn1 := cntL_nonneg l1; have cb1 := cntL_le l1 (m := 4) (fun y hy => by rw [code_len (hc1 y hy)]; decide)
  have cl1 : cntL l1 ≤ 100000000 := by have := h1.1; omega
  refine Ret.at (laws_markRestS_c o_x0 hc0 (by omega) (by omega)) ?_
  rintro v W14 ⟨hv, on, ch⟩
  subst hv
  replace x := x.chg ch (fun k hk => by have := lt_o_x0 k hk; omega)
  replace xS := xS.chg ch (fun k hk => by have := lt_o_x0 k hk; omega)
  replace o_x1 := o_x1.chg ch (fun k hk hm => by have h1 := lt_o_x1 k hk; have h2 := lt_o_x0 k hm; omega)
  replace o_g0 := o_g0.chg ch (fun k hk hm => by have h1 := lt_o_g0 k hk; have h2 := lt_o_x0 k hm; omega)
  have ll14 := ch.size
  replace o_x0 := on; clear on
  refine ⟨_, rfl, ?_⟩
  refine Ret.at (laws_markRestS_c o_x1 hc1 (by omega) (by omega)) ?_
  rintro v W15 ⟨hv, on, ch⟩
  subst hv
  replace x := x.chg ch (fun k hk => by have := lt_o_x1 k hk; omega)
  replace xS := xS.chg ch (fun k hk => by have := lt_o_x1 k hk; omega)
  replace o_x0 := o_x0.chg ch (fun k hk hm => by have h1 := lt_o_x0 k hk; have h2 := lt_o_x1 k hm; omega)
  replace o_g0 := o_g0.chg ch (fun k hk hm => by have h1 := lt_o_g0 k hk; have h2 := lt_o_x1 k hm; omega)
  have ll15 := ch.size
  replace o_x1 := on; clear on
  refine ⟨_, rfl, ?_⟩
  refine ifD (fun h => absurd h (by omega)) (fun _ => ?_)
  refine Ret.at (laws_eqRestS_c o_g0.rows (o_w0.ext xS) co_g0 co_w0) ?_
  rintro v W16 ⟨hv, y⟩
  subst hv
  replace x := x.trans y
  replace xS := xS.trans y
  replace o_x0 := o_x0.ext y
  replace o_x1 := o_x1.ext y
  replace o_g0 := o_g0.ext y
  have ll16 := y.le
  refine ⟨_, rfl, ifN (fun h => absurd h (by simp)) (fun _ => ?_)⟩
  refine ⟨fun h => absurd h (bne_no rfl), fun _ => ?_⟩
  unfold laws_FnExactRestsAdd_j1
  refine Ret.at (laws_markRestS_c o_g0 co_g0 (by omega) (by omega)) ?_
  rintro v W17 ⟨hv, on, ch⟩
  subst hv
  replace x := x.chg ch (fun k hk => by have := lt_o_g0 k hk; omega)
  replace xS := xS.chg ch (fun k hk => by have := lt_o_g0 k hk; omega)
  replace o_x0 := o_x0.chg ch (fun k hk hm => by have h1 := lt_o_x0 k hk; have h2 := lt_o_g0 k hm; omega)
  replace o_x1 := o_x1.chg ch (fun k hk hm => by have h1 := lt_o_x1 k hk; have h2 := lt_o_g0 k hm; omega)
  have ll17 := ch.size
  replace o_g0 := on; clear on
  refine ⟨_, rfl, ?_⟩
  refine Ret.at (laws_heldRestS_c o_g0.rows co_g0 (by omega) (by omega)) ?_
  rintro v W18 ⟨hv, y⟩
  subst hv
  replace x := x.trans y
  replace xS := xS.trans y
  replace o_x0 := o_x0.ext y
  replace o_x1 := o_x1.ext y
  replace o_g0 := o_g0.ext y
  have ll18 := y.le
  refine ⟨_, rfl, ifD (fun h => absurd h (by omega)) (fun _ => ?_)⟩
  refine ifD (fun h => absurd rfl h) (fun _ => ?_)
  refine Ret.at (laws_toRestS_c (h0.ext x) hc0 hz0 hb0) ?_
  rintro v W19 ⟨p_h0, c_h0, f_h0, hv, o_h0, y⟩
  subst hv
  have lt_o_h0 : ∀ k ∈ f_h0, W18.heap.size ≤ k ∧ k < W19.heap.size := o_h0.lt
  have yy := y
  replace x := x.trans y
  replace xS := xS.trans y
  replace o_x0 := o_x0.ext y
  replace o_x1 := o_x1.ext y
  replace o_g0 := o_g0.ext y
  have ll19 := y.le
  refine ⟨_, _, _, rfl, ?_⟩
  refine Ret.at (laws_toRestS_c (h1.ext x) hc1 hz1 hb1) ?_
  rintro v W20 ⟨p_h1, c_h1, f_h1, hv, o_h1, y⟩
  subst hv
  have lt_o_h1 : ∀ k ∈ f_h1, W19.heap.size ≤ k ∧ k < W20.heap.size := o_h1.lt
  have yy := y
  replace x := x.trans y
  replace xS := xS.trans y
  replace o_x0 := o_x0.ext y
  replace o_x1 := o_x1.ext y
  replace o_g0 := o_g0.ext y
  replace o_h0 := o_h0.ext y
  have ll20 := y.le
  refine ⟨_, _, _, rfl, ?_⟩
  refine Ret.at (impl_RestsAdd_c o_h0.rows hc0 hz0 hb0 o_h1.rows hc1 hz1 hb1 (ht.ext x)) ?_
  rintro v W21 ⟨p_h0, m_h0, c_h0, f_h0, hv, o_h0, co_h0, ct_h0, y⟩
  subst hv
  have tn_h0 := cntL_nn ct_h0
  have lt_o_h0 : ∀ k ∈ f_h0, W20.heap.size ≤ k ∧ k < W21.heap.size := o_h0.lt
  replace x := x.trans y
  replace xS := xS.trans y
  replace o_x0 := o_x0.ext y
  replace o_x1 := o_x1.ext y
  replace o_g0 := o_g0.ext y
  have ll21 := y.le
  refine ⟨_, _, _, _, rfl, ?_⟩
  refine Ret.at (laws_eqRestS_c o_h0.rows (o_w0.ext xS) co_h0 co_w0) ?_
  rintro v W22 ⟨hv, y⟩
  subst hv
  replace x := x.trans y
  replace xS := xS.trans y
  replace o_x0 := o_x0.ext y
  replace o_x1 := o_x1.ext y
  replace o_g0 := o_g0.ext y
  replace o_h0 := o_h0.ext y
  have ll22 := y.le
  refine ⟨_, rfl, ifN (fun h => absurd h (by simp)) (fun _ => ?_)⟩
  refine ⟨fun h => absurd h (bne_no rfl), fun _ => ?_⟩
  unfold laws_FnExactRestsAdd_j2
  refine Ret.at (laws_heldRestS_c o_g0.rows co_g0 (by omega) (by omega)) ?_
  rintro v W23 ⟨hv, y⟩
  subst hv
  replace x := x.trans y
  replace xS := xS.trans y
  replace o_x0 := o_x0.ext y
  replace o_x1 := o_x1.ext y
  replace o_g0 := o_g0.ext y
  replace o_h0 := o_h0.ext y
  have ll23 := y.le
  refine ⟨_, rfl, ifD (fun h => absurd h (by omega)) (fun _ => ?_)⟩
  refine ifD (fun h => absurd rfl h) (fun _ => ?_)
  exact ⟨rfl, x⟩
end Go.Proofs.YtfehpaekbbmkcaaGreatDoor

namespace Go.Proofs.YtfehpaekbbmkcaaGreatDoor.Sx
open Go Go.RowKit Go.ChangeShapes Go.WideShapes
set_option linter.unusedVariables false
set_option linter.unusedSimpArgs false
/-- each named variable's type can be read and is a row of the table -/
def rowedV (P : Program) (ns : List String) : Bool := ns.all fun n => ((P.globalNamed n).bind (P.globals[·]?)).all fun gl => P.readableRec gl.type && decide (gl.type < P.types.size)
section
variable {H : Type} {enc : TypeId × Value → H} {P : Program}
theorem trodAll_ext (hl : laidOutB P = true) {W W' : World} (hb : Ext W W') (sp' : Nat → Bool) : ∀ {ts : List TypeId} {vs : List Value} {ds : List (DataW H)} {ps : List MemPlace},
    (∀ t ∈ ts, P.readableRec t = true ∧ t < P.types.size) → (∀ p ∈ ps, p.block < W.heap.size) → (∀ p ∈ ps, sp' p.block = true) →
    DataW.TrodAll enc P W 0 (fun _ => true) true ts vs ds ps → DataW.TrodAll enc P W' 0 sp' true ts vs ds ps
  | [], _, _, _, _, _, _, h => by
    obtain ⟨rfl, rfl, rfl⟩ := trodAll_nil h
    exact rfl
  | t :: ts, _, _, _, hr, hlt, hsp, h => by
    obtain ⟨v, vs1, d, ds1, a, b, rfl, rfl, rfl, h1, h2⟩ := trodAll_cons h
    have hrt := hr t (by simp)
    exact ⟨a, b, WideElems.Trod_stays hl hrt.1 hrt.2 h1 (fun x hx => Below.same hb (hlt x (by simp [hx]))) (fun x hx => hsp x (by simp [hx])),
      trodAll_ext hl hb sp' (fun u hu => hr u (by simp [hu])) (fun x hx => hlt x (by simp [hx])) (fun x hx => hsp x (by simp [hx])) h2, rfl⟩
theorem trodVars_sp (hl : laidOutB P = true) {W W' : World} (hb : Ext W W') (sp' : Nat → Bool) :
    ∀ {ns : List String} {gs : List (DataW H)} {ps : List MemPlace}, rowedV P ns = true → (∀ p ∈ ps, sp' p.block = true) → DataW.TrodVars enc P W (fun _ => true) ns gs ps → DataW.TrodVars enc P W' sp' ns gs ps
  | [], [], _, _, _, h => h
  | [], _ :: _, _, _, _, h => h.elim
  | _ :: _, [], _, _, _, h => h.elim
  | n :: ns, d :: ds, ps, hv, hsp, h => by
    have hlt := h.lt
    obtain ⟨g, t, cs, fuel, p, q, h1, h2, h3, h4, hs, e⟩ := h
    simp only [rowedV, List.all_cons, Bool.and_eq_true] at hv
    have ht : P.readableRec t = true ∧ t < P.types.size := by
      have := hv.1
      rw [h1] at this
      cases hg : P.globals[g]? with
      | none => rw [hg] at h2; cases h2
      | some gl =>
        rw [hg] at h2
        obtain rfl : gl.type = t := Option.some.inj h2
        simpa [hg] using this
    have hp : ∀ x ∈ p, x.block < W.heap.size := fun x hx => hlt x (by rw [e]; simp [hx])
    have h3' : W'.var? P n = some cs := by
      unfold World.var? at h3 ⊢
      rw [h1] at h3 ⊢
      simp only [Option.bind_some] at h3 ⊢
      have hg : g < W.heap.size := by
        cases hh : W.heap[g]? with
        | none => rw [hh] at h3; cases h3
        | some o => exact (Array.getElem?_eq_some_iff.1 hh).1
      rw [hb.block g hg]; exact h3
    exact ⟨g, t, cs, fuel, p, q, h1, h2, h3', DataW.trod_stays (kids_book hl ht.1) (book_sized ht.1) (fun h => by cases h) ⟨ht.2, book_self t⟩ h4 (fun x hx => Below.same hb (hp x hx)) (fun x hx => hsp x (by rw [e]; simp [hx])),
      trodVars_sp hl hb sp' (by simpa [rowedV] using hv.2) (fun x hx => hsp x (by rw [e]; simp [hx])) hs, e⟩
/-- what the row asks of a law that answered true in a world with more behind it -/
theorem post_of_ext {f : Func} {s : ChangeSpec} {apart fresh handsOn again : Bool} {W W' : World} {args : Array Value} {ds gs : List (DataW H)} {before : List MemPlace} {tb : TypeId}
    (hl : laidOutB P = true) (hpar : ∀ t ∈ f.params.toList, P.readableRec t = true ∧ t < P.types.size) (hvr : rowedV P s.vars = true)
    (hrt : f.resultTypes = #[tb]) (htb : P.underlying tb = some .bool)
    (hW : DataW.Whole enc P f.params.toList s.vars apart W args.toList ds gs before) (hx : Ext W W')
    (hfn : s.fn H (ds ++ gs) = { results := [.lit (.bool true)], args := ds, vars := gs }) :
    s.post enc P f apart fresh handsOn again W args (.bool true) W' := by
  have hW0 := hW
  have hlt : ∀ p ∈ before, p.block < W.heap.size := hW.lt
  obtain ⟨pa, pv, hA, hV, rfl, hz, hn⟩ := hW
  have hlta : ∀ p ∈ pa, p.block < W.heap.size := fun p hp => hlt p (by simp [hp])
  have hltv : ∀ p ∈ pv, p.block < W.heap.size := fun p hp => hlt p (by simp [hp])
  have hr : (Value.bool true).resultList f.resultTypes.size = [Value.bool true] := by rw [hrt]; rfl
  refine ⟨ds, gs, pa ++ pv, [], pa, pv, hW0, ?_, ?_, ?_, Below.frame hx _, fun _ => ?_⟩
  · rw [hfn, hr, hrt]
    exact trodAll_mk1 (shut_bool htb _)
  · rw [hfn]
    exact trodAll_ext hl hx _ hpar hlta (fun p hp => by simpa using hlta p hp) hA
  · rw [hfn]
    exact trodVars_sp hl hx _ hvr (fun p hp => by simpa using hltv p hp) hV
  · refine ⟨?_, (.lit (.bool true)) :: ds, gs, pa ++ pv, ⟨[] ++ pa, pv, ?_, ?_, by simp, ?_, ?_⟩, fun p hp _ => hp⟩
    · rw [hr, hrt]
      exact ok_one (f := { f with resultTypes := #[tb] }) rfl rfl (okWide_bool_mk htb _)
    · rw [hr, hrt]
      exact trodAll_append (trodAll_ext hl hx _ hpar hlta (fun _ _ => rfl) hA) (trodAll_mk1 (shut_bool htb _))
    · exact trodVars_sp hl hx _ hvr (fun _ _ => rfl) hV
    · intro b off hp
      have := hlt _ hp
      rw [Below.frozen hx (p := ⟨b, off, none⟩) this]
      exact hz b off hp
    · exact hn
end
end Go.Proofs.YtfehpaekbbmkcaaGreatDoor.Sx

namespace Go.Proofs.YtfehpaekbbmkcaaGreatDoor.Sx
open Go Go.RowKit Go.ChangeShapes Go.WideShapes
set_option linter.unusedVariables false
set_option linter.unusedSimpArgs false
/-- the cells of a struct's fields, one behind the other -/
def flatF (P : Program) (g : TypeId → Option (List C0)) : Nat → List Field → Option (List C0)
  | _, [] => some []
  | o, f :: r => match Nat.beq f.offset o, g f.type with
    | true, some a => match Nat.beq (P.cellsOf f.type) a.length, flatF P g (o + a.length) r with
      | true, some b => some (a ++ b)
      | _, _ => none
    | _, _ => none
/-- the cells of a type -/
def flatC (P : Program) : Nat → TypeId → Option (List C0)
  | 0, _ => none
  | n + 1, t => match P.underlying t with
    | some .bool => some [.bool]
    | some (.int .i64) => some [.int]
    | some .string => some [.str]
    | some (.slice e) => match P.underlying e, P.cellsOf e with
      | some (.int .i64), 1 => some [.ints]
      | _, _ => none
    | some (.struct fs) => match flatF P (flatC P n) 0 fs.toList with
      | some a => if Nat.beq (P.cellsOf t) a.length then some a else none
      | none => none
    | _ => none
section
variable {H : Type} {enc : TypeId × Value → H} {P : Program} {w : World}
theorem seg_of_cells {b off n : Nat} {sp : Option Nat} {cs : List Value} (h : w.cells? 0 ⟨b, off, none⟩ n = some cs) : cs.length = n ∧ Seg w b off cs := by
  obtain ⟨_, hl, hc⟩ := World.cells?_some h
  refine ⟨hl, fun j v hj => ?_⟩
  have hjl : j < n := by rw [← hl]; exact (List.getElem?_eq_some_iff.1 hj).1
  rw [← addr_add, hc j hjl, hj]
theorem spot_none {a : Addr} {v : Value} (h : w.cell? a = some v) : a = ⟨a.block, a.off, none⟩ := by
  obtain ⟨b, o, spot⟩ := a
  have : spot = none := by simpa using World.cell?_spot h
  subst this; rfl
theorem ints_of_trod {t e : TypeId} {fuel : Nat} {sp : Nat → Bool} {hd : Bool} {cs : List Value} {x : DataW H × List MemPlace} (ht : P.underlying t = some (.slice e)) (he : P.underlying e = some (.int .i64)) (hc : P.cellsOf e = 1)
    (h : DataW.trod enc P w 0 sp hd fuel t cs = some x) : ∃ p n c zs, cs = [.slice p n c] ∧ IntsR w p n c zs ∧ zs.length ≤ 9223372036854775807 := by
  rcases Go.ChangeShapes.open_ints ht he hc h with ⟨rfl, _⟩ | ⟨a, len, cap, zs, rfl, _, hl, hm, hz, _, hcell, _⟩
  · exact ⟨none, 0, 0, [], rfl, ⟨rfl, Nat.le_refl _, by omega, fun h => absurd h (by omega)⟩, by simp⟩
  · have hlz : len ≤ zs.length := by rw [hz]; split <;> omega
    refine ⟨some a, len, cap, zs.take len, rfl, ⟨by simp; omega, hl, by simpa [maxLen] using hm, fun hpos => ?_⟩, by simp only [maxLen] at hm; simp; omega⟩
    have h0 := hcell 0 (by omega)
    have hs := spot_none h0
    have ha : a = ⟨a.block, a.off, none⟩ := by
      obtain ⟨b, o, s⟩ := a
      simp [Addr.add] at hs
      simp [hs]
    refine ⟨a.block, a.off, by rw [← ha], fun j v hj => ?_⟩
    simp only [List.getElem?_map, List.getElem?_take] at hj
    split at hj
    · rename_i hjl
      have hjz : j < zs.length := by omega
      have := hcell j hjz
      rw [ha, addr_add] at this
      rw [this]
      rw [List.getElem?_eq_getElem hjz] at hj
      simp at hj
      rw [← hj]
      simp [hjz]
    · simp at hj
theorem flatF_open {g : TypeId → Option (List C0)} {n : Nat} {sp : Nat → Bool} {hd : Bool}
    (ih : ∀ {t : TypeId} {ks : List C0} {cs : List Value} {x : DataW H × List MemPlace}, g t = some ks → DataW.trod enc P w 0 sp hd n t cs = some x → ∃ ds, Reps w cs ds ∧ ds.map D0.code = ks ∧ ∀ d ∈ ds, d.ok) :
    ∀ (fs : List Field) (o : Nat) (ks : List C0) (cs : List Value), flatF P g o fs = some ks → cs.length = o + ks.length →
      (∀ f ∈ fs, ∃ x, DataW.trod enc P w 0 sp hd n f.type ((cs.drop f.offset).take (P.cellsOf f.type)) = some x) → ∃ ds, Reps w (cs.drop o) ds ∧ ds.map D0.code = ks ∧ ∀ d ∈ ds, d.ok
  | [], o, ks, cs, hf, hl, _ => by
    simp only [flatF, Option.some.injEq] at hf
    subst hf
    rw [List.drop_of_length_le (by simp at hl; omega)]
    exact ⟨[], trivial, rfl, by simp⟩
  | f :: r, o, ks, cs, hf, hl, hx => by
    simp only [flatF] at hf
    split at hf
    · rename_i a h1 h2
      split at hf
      · rename_i b h3 h4
        have h1' := Nat.eq_of_beq_eq_true h1
        have h3' := Nat.eq_of_beq_eq_true h3
        cases hf
        rw [List.length_append] at hl
        obtain ⟨x, hx0⟩ := hx f (by simp)
        obtain ⟨ds, r1, c1, k1⟩ := ih h2 hx0
        obtain ⟨es, r2, c2, k2⟩ := flatF_open ih r (o + a.length) b cs h4 (by omega) (fun f' hf' => hx f' (by simp [hf']))
        refine ⟨ds ++ es, ?_, by simp [c1, c2], fun d hd => ?_⟩
        · rw [h1', h3'] at r1
          have : cs.drop o = (cs.drop o).take a.length ++ cs.drop (o + a.length) := by
            rw [← List.drop_drop, List.take_append_drop]
          rw [this]
          exact r1.append r2
        · rcases List.mem_append.1 hd with h | h
          · exact k1 d h
          · exact k2 d h
      · cases hf
    · cases hf
theorem flat_open {sp : Nat → Bool} {hd : Bool} : ∀ (m : Nat) {fuel : Nat} {t : TypeId} {ks : List C0} {cs : List Value} {x : DataW H × List MemPlace}, flatC P m t = some ks → DataW.trod enc P w 0 sp hd fuel t cs = some x →
    ∃ ds, Reps w cs ds ∧ ds.map D0.code = ks ∧ ∀ d ∈ ds, d.ok
  | 0, _, _, _, _, _, h, _ => by cases h
  | m + 1, fuel, t, ks, cs, x, h, ht => by
    simp only [flatC] at h
    split at h
    · rename_i hu
      obtain ⟨b, rfl, _⟩ := DataW.trod_bool hu ht
      cases h
      exact ⟨[.bool b], ⟨rfl, trivial⟩, rfl, by simp [D0.ok]⟩
    · rename_i hu
      obtain ⟨b, rfl, _, hw⟩ := DataW.trod_int hu ht
      cases h
      refine ⟨[.int b], ⟨rfl, trivial⟩, rfl, ?_⟩
      simp only [List.mem_singleton, forall_eq, D0.ok]
      simp [Lit.wf, IntKind.min, IntKind.max, IntKind.bits, IntKind.signed] at hw
      omega
    · rename_i hu
      obtain ⟨s, rfl, _, hw⟩ := DataW.trod_string hu ht
      cases h
      exact ⟨[.str s], ⟨rfl, trivial⟩, rfl, by simpa [D0.ok, maxLen] using hw⟩
    · rename_i e hu
      split at h
      · rename_i he hc
        cases h
        obtain ⟨p, n, c, zs, rfl, hr, hz⟩ := ints_of_trod hu he hc ht
        exact ⟨[.ints zs], ⟨⟨p, n, c, rfl, hr⟩, trivial⟩, rfl, by simpa [D0.ok] using hz⟩
      · cases h
    · rename_i fs hu
      split at h
      · rename_i a hf
        split at h
        · rename_i hsz
          cases h
          obtain ⟨xs, n, rfl, _, hlen, hxl, hfs⟩ := DataW.trod_struct hu ht
          have hsz' := Nat.eq_of_beq_eq_true hsz
          have := flatF_open (fun h1 h2 => flat_open m h1 h2) fs.toList 0 ks cs hf (by omega) (fun f hf => by
            obtain ⟨i, hi⟩ := List.getElem?_of_mem hf
            have hil : i < fs.size := by simpa using (List.getElem?_eq_some_iff.1 hi).1
            have := hfs i f (by simpa using hi)
            rw [List.getElem?_eq_getElem (by omega)] at this
            exact ⟨_, this⟩)
          simpa using this
        · cases h
      · cases h
    · cases h
theorem rows_open {sp : Nat → Bool} {hd : Bool} {m fuel : Nat} {t e : TypeId} {ks : List C0} {cs : List Value} {x : DataW H × List MemPlace} (hu : P.underlying t = some (.slice e)) (hk : flatC P m e = some ks) (hc : P.cellsOf e = ks.length) (hpos : 0 < ks.length)
    (ht : DataW.trod enc P w 0 sp hd fuel t cs = some x) : ∃ p n c l, cs = [.slice p n c] ∧ RowsR w ks.length p n c l ∧ (∀ y ∈ l, y.map D0.code = ks) ∧ ∀ y ∈ l, ∀ d ∈ y, d.ok := by
  rcases Go.Deep.open_slice hu ht with ⟨rfl, _⟩ | ⟨a, len, cap, mm, n, D, Pl, rfl, _, hl, hm, hmm, _, hx⟩
  · exact ⟨none, 0, 0, [], rfl, RowsR.nil _ _ _ (by omega), by simp, by simp⟩
  · have hlm : len ≤ mm := by rw [hmm]; split <;> omega
    have hex : ∀ i, i < len → ∃ ds : List D0, (∃ cs', cs'.length = ks.length ∧ Reps w cs' ds ∧ w.cells? 0 (a.add (i * ks.length)) ks.length = some cs') ∧ ds.map D0.code = ks ∧ ∀ d ∈ ds, d.ok := fun i hi => by
      obtain ⟨cs', h1, h2⟩ := hx i (by omega)
      obtain ⟨ds, r, c, k⟩ := flat_open m hk h2
      rw [hc] at h1
      exact ⟨ds, ⟨cs', (World.cells?_some h1).2.1, r, h1⟩, c, k⟩
    obtain ⟨F, hF⟩ := Go.Deep.choose_lt hex
    refine ⟨some a, len, cap, (List.range len).map F, rfl, ⟨by simp, hl, by simpa [maxLen] using hm, fun hn => ?_⟩, ?_, ?_⟩
    · obtain ⟨⟨cs', _, _, h1⟩, _⟩ := hF 0 hn
      have h0 := (World.cells?_some h1).2.2 0 hpos
      have hlen := (World.cells?_some h1).2.1
      rw [List.getElem?_eq_getElem (by omega)] at h0
      have hs := spot_none h0
      have ha : a = ⟨a.block, a.off, none⟩ := by
        obtain ⟨b, o, s⟩ := a
        simp [Addr.add] at hs
        simp [hs]
      refine ⟨a.block, a.off, by rw [← ha], fun i y hy => ?_⟩
      have hil : i < len := by
        have := (List.getElem?_eq_some_iff.1 hy).1
        simpa using this
      obtain ⟨⟨cs', q1, q2, q3⟩, _⟩ := hF i hil
      have : y = F i := by simpa [hil] using hy.symm
      subst this
      rw [ha, addr_add] at q3
      exact ⟨cs', q1, q2, (seg_of_cells (sp := none) q3).2⟩
    · intro y hy
      obtain ⟨i, hi, rfl⟩ := List.mem_map.1 hy
      exact (hF i (by simpa using hi)).2.1
    · intro y hy
      obtain ⟨i, hi, rfl⟩ := List.mem_map.1 hy
      exact (hF i (by simpa using hi)).2.2
end
end Go.Proofs.YtfehpaekbbmkcaaGreatDoor.Sx

namespace Go.Proofs.YtfehpaekbbmkcaaGreatDoor
open Go Go.Proofs.YtfehpaekbbmkcaaGreatDoor.Sx
set_option linter.unusedVariables false
set_option linter.unusedSimpArgs false
def curData {H : Type} (r : CurRow) : DataW H := .agg [.lit (.string r.1.data.toList), .lit (.string r.2.1.data.toList), .lit (.int .i64 r.2.2.1), .lit (.int .i64 r.2.2.2)]
theorem bytes_eq {a b : ByteArray} (h : a.data.toList = b.data.toList) : a = b := by
  obtain ⟨⟨x⟩⟩ := a; obtain ⟨⟨y⟩⟩ := b
  simp at h; subst h; rfl
set_option maxRecDepth 100000 in
theorem cur_cells {H : Type} {enc : TypeId × Value → H} {w : World} {sp : Nat → Bool} {hd : Bool} {fuel : Nat} {cs : List Value} {r : CurRow} {p : List MemPlace}
    (h : DataW.trod enc P w 0 sp hd fuel T_impl_currency cs = some (curData r, p)) : cs = curCells r := by
  obtain ⟨fs, hu, hsz, ⟨f0, e0, t0, o0⟩, ⟨f1, e1, t1, o1⟩, ⟨f2, e2, t2, o2⟩, ⟨f3, e3, t3, o3⟩⟩ := cur_fields
  have hu : P.underlying T_impl_currency = some (.struct fs) := hu
  have hs : P.underlying T_string = some .string := by kernel_rfl
  have hi : P.underlying T_int = some (.int .i64) := by kernel_rfl
  have cS : P.cellsOf T_string = 1 := by kernel_rfl
  have cI : P.cellsOf T_int = 1 := by kernel_rfl
  have cC : P.cellsOf T_impl_currency = 4 := by kernel_rfl
  obtain ⟨xs, n, rfl, hx, hlen, hxl, hf⟩ := DataW.trod_struct hu h
  rw [cC] at hlen
  rw [hsz] at hxl
  have h0 := hf 0 f0 e0; have h1 := hf 1 f1 e1; have h2 := hf 2 f2 e2; have h3 := hf 3 f3 e3
  rw [t0, o0, cS] at h0; rw [t1, o1, cS] at h1; rw [t2, o2, cI] at h2; rw [t3, o3, cI] at h3
  match cs, hlen, xs, hxl, hx, h0, h1, h2, h3 with
  | [c0, c1, c2, c3], _, [x0, x1, x2, x3], _, hx, h0, h1, h2, h3 =>
    simp only [List.drop_succ_cons, List.drop_zero, List.take_succ_cons, List.take_zero, List.getElem?_cons_zero, List.getElem?_cons_succ] at h0 h1 h2 h3
    obtain ⟨s0, a0, b0, _⟩ := DataW.trod_string hs h0
    obtain ⟨s1, a1, b1, _⟩ := DataW.trod_string hs h1
    obtain ⟨z2, a2, b2, _⟩ := DataW.trod_int hi h2
    obtain ⟨z3, a3, b3, _⟩ := DataW.trod_int hi h3
    simp only [Prod.mk.injEq, curData, DataW.agg.injEq, List.map_cons, List.map_nil, List.cons.injEq, b0, b1, b2, b3, DataW.lit.injEq, Lit.string.injEq, Lit.int.injEq, true_and, and_true] at hx
    simp only [List.cons.injEq, and_true] at a0 a1 a2 a3
    obtain ⟨⟨q0, q1, q2, q3⟩, _⟩ := hx
    rw [a0, a1, a2, a3, ← bytes_eq q0, ← bytes_eq q1, ← q2, ← q3]
    rfl
theorem flat_of_rows : ∀ (l : List CurRow) (cs : List Value), cs.length = l.length * 4 → (∀ i (hi : i < l.length), (cs.drop (i * 4)).take 4 = curCells (l[i]'hi)) → cs = l.flatMap curCells
  | [], cs, h, _ => by simpa using h
  | r :: l, cs, h, hr => by
    have h0 := hr 0 (by simp)
    simp only [Nat.zero_mul, List.drop_zero, List.getElem_cons_zero] at h0
    rw [List.flatMap_cons, ← h0, ← flat_of_rows l (cs.drop 4) (by simp at h ⊢; omega) (fun i hi => by
      have := hr (i + 1) (by simpa using hi)
      rw [List.drop_drop, show 4 + i * 4 = (i + 1) * 4 by omega]
      simpa using this), List.take_append_drop]
def curVar : String := "loop.example/g00793/impl.currencies"
set_option maxRecDepth 100000 in
theorem tab_of_head {W : World} {rest : List (String × DataW Unit)} (h : laidMet P ((curVar, Rows.laid_loop_example_g00793_impl_currencies) :: rest) W) : Tab W := by
  obtain ⟨ps, ⟨g, t, cs, fuel, p, q, hg, ht, hvar, hd, _, _⟩, _⟩ := h
  have hg0 : P.globalNamed curVar = some 0 := by kernel_rfl
  have ht0 : (P.globals[0]?).map (·.type) = some T_20_impl_currency := by kernel_rfl
  obtain rfl := Option.some.inj (hg0.symm.trans hg)
  obtain rfl := Option.some.inj (ht0.symm.trans ht)
  have hu : P.underlying T_20_impl_currency = some (.array 20 T_impl_currency) := und_T_20_impl_currency
  have cC : P.cellsOf T_impl_currency = 4 := by kernel_rfl
  have cA : P.cellsOf T_20_impl_currency = 80 := by kernel_rfl
  obtain ⟨xs, m, rfl, hx, hlen, hxl, hf⟩ := DataW.trod_array hu hd
  rw [cA] at hlen
  have hdat : (Rows.laid_loop_example_g00793_impl_currencies : DataW Unit) = .agg (implTab.map curData) := by rfl
  rw [hdat] at hx
  simp only [Prod.mk.injEq, DataW.agg.injEq] at hx
  have hl := impl_length
  have hcs : cs.toList = implTab.flatMap curCells := by
    refine flat_of_rows implTab _ (by omega) fun i hi => ?_
    have h1 := hf i (by omega)
    rw [cC] at h1
    have h2 : (xs.map (·.1))[i]? = some (curData (implTab[i]'hi)) := by rw [← hx.1]; simp [hi]
    rw [List.getElem?_map] at h2
    cases h3 : xs[i]? with
    | none => rw [h3] at h2; cases h2
    | some x =>
      rw [h3] at h1 h2
      simp only [Option.map_some, Option.some.injEq] at h2
      obtain ⟨d, pp⟩ := x
      simp only at h2
      subst h2
      exact cur_cells h1
  intro i v hv
  have := World.var?_cell hg0 hvar i
  rw [Nat.zero_add, this, ← hv, ← hcs]
  simp
theorem tab_of_laid {W : World} (h : laidMetH P [(curVar, Rows.laid_loop_example_g00793_impl_currencies)] W) : Tab W := tab_of_head (rest := []) h
/-- a world for the witness: the settled one, the table laid in its variable -/
noncomputable def laidWorld (os : Os) (args : Array Value) : World :=
  { World.holding P os ⟨#[], args, []⟩ with heap := (World.holding P os ⟨#[], args, []⟩).heap.modify 0 fun
      | .cells _ t frozen => .cells ⟨implTab.flatMap curCells⟩ t frozen
      | o => o }
theorem trodVars_one {H : Type} {enc : TypeId × Value → H} {w : World} {sp : Nat → Bool} {n : String} {gs : List (DataW H)} {ps : List MemPlace} (h : DataW.TrodVars enc P w sp [n] gs ps) : ∃ g, gs = [g] := by
  match gs, h with
  | [g], _ => exact ⟨g, rfl⟩
  | g :: g2 :: r, h =>
    obtain ⟨_, _, _, _, _, _, _, _, _, _, h2, _⟩ := h
    exact h2.elim
end Go.Proofs.YtfehpaekbbmkcaaGreatDoor
