/-
  Parts of the proof of restsAdd_holds: SxMark, CDivA, SxPush, CDivB, CSigned, CIntAdd, CSpecInt, CNatOf, CDivC, CDivS, CGcd, CCmp, CDecCmp, CCopy, CRat, Tab, CCurr, CBookOk, CRestsOk, DMark, DMarkS, CUndo, CRestsNeg, CRestOf, CRatLaw, COrdL, CSortL.
  Conditions: none.
-/
import Derived.Laws.BytesArg
import Derived.Test.YtfehpaekbbmkcaaGreatDoorRs3

namespace Go.Proofs.YtfehpaekbbmkcaaGreatDoor.Sx
open Go
set_option linter.unusedVariables false
set_option linter.unusedSimpArgs false
def mkI (n : Nat) (k : Int) : List Int := (List.range n).map fun i => k + (i : Nat)
def mdig (k : Nat) (acc : ByteArray) : ByteArray := if h : k = 0 then acc else mdig (k / 10) (strOfNums [((48 + k % 10 : Nat) : Int)] ++ acc)
termination_by k
decreasing_by omega
theorem mdig_zero (acc : ByteArray) : mdig 0 acc = acc := by rw [mdig]; simp
theorem mdig_pos {k : Nat} (h : k ≠ 0) (acc : ByteArray) : mdig k acc = mdig (k / 10) (strOfNums [((48 + k % 10 : Nat) : Int)] ++ acc) := by rw [mdig]; simp [h]
def mtext (k : Int) : ByteArray := if k ≤ 0 then ⟨#[109, 48]⟩ else (⟨#[109]⟩ : ByteArray) ++ mdig k.toNat ByteArray.empty
def D0.mark (k : Int) : D0 → D0
  | .int _ => .int k
  | .bool _ => .bool (decide (k % 3 = 0))
  | .str _ => .str (mtext k)
  | .ints z => .ints (mkI z.length k)
def D0.cnt : D0 → Int
  | .ints z => (z.length : Nat)
  | _ => 1
def marks : List D0 → Int → List D0
  | [], _ => []
  | d :: r, k => d.mark k :: marks r (k + d.cnt)
def cnts : List D0 → Int
  | [] => 0
  | d :: r => d.cnt + cnts r
def tcnts : List D0 → Int
  | [] => 0
  | .ints z :: r => (z.length : Nat) + tcnts r
  | _ :: r => tcnts r
def markL : List (List D0) → Int → List (List D0)
  | [], _ => []
  | x :: l, k => marks x k :: markL l (k + cnts x)
def cntL : List (List D0) → Int
  | [] => 0
  | x :: l => cnts x + cntL l
theorem mkI_len (n : Nat) (k : Int) : (mkI n k).length = n := by simp [mkI]
theorem mkI_get (n : Nat) (k : Int) (i : Nat) (h : i < (mkI n k).length) : (mkI n k)[i] = k + (i : Nat) := by simp [mkI]
theorem mkI_succ (n : Nat) (k : Int) : mkI (n + 1) k = mkI n k ++ [k + (n : Nat)] := by simp [mkI, List.range_succ]
theorem cnt_nonneg (d : D0) : 0 ≤ d.cnt := by cases d <;> simp [D0.cnt]
theorem cnts_nonneg : ∀ (l : List D0), 0 ≤ cnts l
  | [] => Int.le_refl _
  | d :: r => by have := cnt_nonneg d; have := cnts_nonneg r; simp only [cnts]; omega
theorem cntL_nonneg : ∀ (l : List (List D0)), 0 ≤ cntL l
  | [] => Int.le_refl _
  | d :: r => by have := cnts_nonneg d; have := cntL_nonneg r; simp only [cntL]; omega
theorem markL_len : ∀ (l : List (List D0)) (k : Int), (markL l k).length = l.length
  | [], _ => rfl
  | x :: l, k => by simp [markL, markL_len l]
theorem markL_snoc : ∀ (l : List (List D0)) (x : List D0) (k : Int), markL (l ++ [x]) k = markL l k ++ [marks x (k + cntL l)]
  | [], x, k => by simp [markL, cntL]
  | y :: l, x, k => by
    simp only [List.cons_append, markL, markL_snoc l x, cntL]
    congr 4; omega
theorem markL_get : ∀ (l : List (List D0)) (k : Int) (i : Nat) (x : List D0), l[i]? = some x → (markL l k)[i]? = some (marks x (k + cntL (l.take i)))
  | [], _, _, _, h => by simp at h
  | y :: l, k, 0, x, h => by simp at h; subst h; simp [markL, cntL]
  | y :: l, k, i + 1, x, h => by
    simp only [List.getElem?_cons_succ] at h
    simp only [markL, List.getElem?_cons_succ, markL_get l _ i x h, List.take_succ_cons, cntL]
    congr 2; omega
theorem cntL_snoc : ∀ (l : List (List D0)) (x : List D0), cntL (l ++ [x]) = cntL l + cnts x
  | [], x => by simp [cntL]
  | y :: l, x => by simp only [List.cons_append, cntL, cntL_snoc l x]; omega
theorem take_snoc {α : Type} {l : List α} {i : Nat} {x : α} (h : l[i]? = some x) : l.take (i + 1) = l.take i ++ [x] := by
  rw [List.take_add_one, h]; rfl
theorem cntL_take_le : ∀ (l : List (List D0)) (i : Nat), cntL (l.take i) ≤ cntL l
  | [], i => by simp
  | x :: l, 0 => by have := cntL_nonneg (x :: l); simpa [cntL] using this
  | x :: l, i + 1 => by
    have := cntL_take_le l i
    simp only [List.take_succ_cons, cntL] at this ⊢
    omega
theorem cntL_row {l : List (List D0)} {i : Nat} {x : List D0} (h : l[i]? = some x) : cntL (l.take (i + 1)) = cntL (l.take i) + cnts x ∧ cntL (l.take i) + cnts x ≤ cntL l := by
  have h1 : cntL (l.take (i + 1)) = cntL (l.take i) + cnts x := by rw [take_snoc h, cntL_snoc]
  have h2 := cntL_take_le l (i + 1)
  exact ⟨h1, by omega⟩
theorem markL_set {l : List (List D0)} {k : Int} {i : Nat} {x : List D0} (h : l[i]? = some x) :
    (markL (l.take i) k ++ l.drop i).set i (marks x (k + cntL (l.take i))) = markL (l.take (i + 1)) k ++ l.drop (i + 1) := by
  have hi : i < l.length := (List.getElem?_eq_some_iff.1 h).1
  have hl : (markL (l.take i) k).length = i := by rw [markL_len]; simp; omega
  rw [List.set_append_right _ _ (by omega), hl, Nat.sub_self, take_snoc h, markL_snoc]
  have hd : l.drop i = x :: l.drop (i + 1) := by
    obtain ⟨h1, h2⟩ := List.getElem?_eq_some_iff.1 h
    rw [← h2]; exact List.drop_eq_getElem_cons h1
  rw [hd]; simp
theorem markL_at {l : List (List D0)} {k : Int} {i : Nat} {x : List D0} (h : l[i]? = some x) : (markL (l.take i) k ++ l.drop i)[i]? = some x := by
  have hi : i < l.length := (List.getElem?_eq_some_iff.1 h).1
  have hl : (markL (l.take i) k).length = i := by rw [markL_len]; simp; omega
  rw [List.getElem?_append_right (by omega), hl, Nat.sub_self, List.getElem?_drop, Nat.add_zero, h]
theorem cnts_le : ∀ (l : List D0), cnts l ≤ ((bulks l + l.length : Nat) : Int)
  | [] => by simp [cnts]
  | d :: r => by
    have h2 := cnts_le r
    have h1 : d.cnt ≤ (d.bulk : Nat) + 1 := by cases d <;> simp [D0.cnt, D0.bulk] <;> omega
    simp only [cnts, bulks, List.map_cons, List.sum_cons, List.length_cons] at h2 ⊢
    omega
theorem tcnts_le : ∀ (l : List D0), tcnts l ≤ ((bulks l : Nat) : Int)
  | [] => by simp [tcnts]
  | d :: r => by
    have h2 := tcnts_le r
    simp only [bulks] at h2
    cases d <;> simp only [tcnts, bulks, D0.bulk, List.map_cons, List.sum_cons] <;> omega
theorem cntL_le {m : Nat} : ∀ (l : List (List D0)), (∀ x ∈ l, x.length ≤ m) → cntL l ≤ (((l.map bulks).sum + l.length * m : Nat) : Int)
  | [], _ => by simp [cntL]
  | x :: l, h => by
    have h1 := cnts_le x; have h2 := cntL_le l fun y hy => h y (.tail _ hy); have h3 := h x (.head _)
    simp only [cntL, List.map_cons, List.sum_cons, List.length_cons, Nat.succ_mul] at h2 ⊢
    omega
theorem code_len {x : List D0} {cs : List C0} (h : x.map D0.code = cs) : x.length = cs.length := by rw [← h]; simp
theorem mem_opt {o : Option Nat} {q : Nat} (h : o = some q) : q ∈ o.toList := by subst h; simp
theorem opt_mem {o : Option Nat} {q : Nat} (h : q ∈ o.toList) : o = some q := by cases o <;> simp_all
theorem code_ints {ds : List D0} {cs : List C0} (h : ds.map D0.code = .ints :: cs) : ∃ z es, ds = .ints z :: es ∧ es.map D0.code = cs := by
  match ds, h with
  | .ints z :: es, h => exact ⟨z, es, rfl, (List.cons.inj h).2⟩
theorem code_str {ds : List D0} {cs : List C0} (h : ds.map D0.code = .str :: cs) : ∃ z es, ds = .str z :: es ∧ es.map D0.code = cs := by
  match ds, h with
  | .str z :: es, h => exact ⟨z, es, rfl, (List.cons.inj h).2⟩
theorem code_bool {ds : List D0} {cs : List C0} (h : ds.map D0.code = .bool :: cs) : ∃ z es, ds = .bool z :: es ∧ es.map D0.code = cs := by
  match ds, h with
  | .bool z :: es, h => exact ⟨z, es, rfl, (List.cons.inj h).2⟩
theorem code_nil {ds : List D0} (h : ds.map D0.code = []) : ds = [] := by simpa using h
theorem Owns.consInts {w : World} {B : Nat} {vs : List Value} {ds : List D0} {f : List Nat} {cs : List C0} (h : Owns w B vs ds f) (hc : ds.map D0.code = .ints :: cs) :
    ∃ p n c z us es f2, vs = .slice p n c :: us ∧ ds = .ints z :: es ∧ f = (p.map (·.block)).toList ++ f2 ∧ Own w B T_int 1 p n c (z.map (Value.int .i64)) ∧ Owns w B us es f2 ∧ es.map D0.code = cs := by
  match vs, ds, h, hc with
  | v :: us, .ints z :: es, h, hc =>
    obtain ⟨f1, f2, hf, ⟨p, n, c, hv, ho, hf1⟩, h2⟩ := h
    exact ⟨p, n, c, z, us, es, f2, by rw [hv], rfl, by rw [hf, hf1], ho, h2, (List.cons.inj hc).2⟩
  | [], .ints z :: es, h, _ => exact h.elim
theorem Owns.consStr {w : World} {B : Nat} {vs : List Value} {ds : List D0} {f : List Nat} {cs : List C0} (h : Owns w B vs ds f) (hc : ds.map D0.code = .str :: cs) :
    ∃ s us es, vs = .string s :: us ∧ ds = .str s :: es ∧ Owns w B us es f ∧ es.map D0.code = cs := by
  match vs, ds, h, hc with
  | v :: us, .str z :: es, h, hc =>
    obtain ⟨f1, f2, hf, ⟨hv, hf1⟩, h2⟩ := h
    exact ⟨z, us, es, by rw [hv], rfl, by rw [hf, hf1]; exact h2, (List.cons.inj hc).2⟩
  | [], .str z :: es, h, _ => exact h.elim
theorem Owns.consBool {w : World} {B : Nat} {vs : List Value} {ds : List D0} {f : List Nat} {cs : List C0} (h : Owns w B vs ds f) (hc : ds.map D0.code = .bool :: cs) :
    ∃ s us es, vs = .bool s :: us ∧ ds = .bool s :: es ∧ Owns w B us es f ∧ es.map D0.code = cs := by
  match vs, ds, h, hc with
  | v :: us, .bool z :: es, h, hc =>
    obtain ⟨f1, f2, hf, ⟨hv, hf1⟩, h2⟩ := h
    exact ⟨z, us, es, by rw [hv], rfl, by rw [hf, hf1]; exact h2, (List.cons.inj hc).2⟩
  | [], .bool z :: es, h, _ => exact h.elim
theorem Owns.done {w : World} {B : Nat} {vs : List Value} {ds : List D0} {f : List Nat} (h : Owns w B vs ds f) (hc : ds.map D0.code = []) : vs = [] ∧ ds = [] ∧ f = [] := by
  match vs, ds, h, hc with
  | [], [], h, _ => exact ⟨rfl, rfl, h⟩
  | v :: us, [], h, _ => exact h.elim
theorem Blk.segMid {w : World} {b o : Nat} {e : TypeId} {xs cur zs : List Value} (h : Blk w b e (xs ++ cur ++ zs)) (hA : xs.length = o) : Seg w b o cur := by
  subst hA
  have h1 := h.seg
  have h2 := (h1.drop xs.length).take cur.length
  rw [List.append_assoc, List.drop_left, List.take_left] at h2
  simpa using h2
theorem Blk.storeMid {P : Program} {w : World} {t : TypeId} {b o : Nat} {e : TypeId} {xs cur zs : List Value} {v : Value} (h : Blk w b e (xs ++ cur ++ zs)) (hA : xs.length = o) (j : Nat) (hj : j < cur.length) (ht : cellT P t = true) (hv : v.oneCell' = true) {a : Addr} (ha : a = ⟨b, o + j, none⟩) :
    ∃ w', Stores P t a v w w' ∧ Blk w' b e (xs ++ cur.set j v ++ zs) ∧ Chg [b] w w' ∧ w'.heap.size = w.heap.size := by
  subst ha; subst hA
  obtain ⟨w', h1, h2, h3, h4⟩ := h.store (P := P) (k := xs.length + j) (v := v) ht (by simp; omega) hv
  refine ⟨w', by rw [addr_add, Nat.zero_add] at h1; exact h1, ?_, h3, h4⟩
  rw [List.append_assoc, List.set_append_right _ _ (by omega), Nat.add_sub_cancel_left, List.set_append_left _ _ hj, ← List.append_assoc] at h2
  exact h2
theorem Own.blk {w : World} {B : Nat} {e : TypeId} {size : Nat} {p : Option Addr} {n c : Nat} {xs : List Value} (h : Own w B e size p n c xs) (hn : 0 < n) :
    ∃ b ys, p = some ⟨b, 0, none⟩ ∧ B ≤ b ∧ Blk w b e ys ∧ ys.length = c * size ∧ n ≤ c ∧ c ≤ maxLen ∧ ys.take (n * size) = xs := by
  rcases h.2 with ⟨h1, h2⟩ | ⟨g, cap, cur, h1, hb, hg, h3, h4, h5, h6⟩
  · omega
  · simp only [Value.slice.injEq] at h1
    obtain ⟨e1, _, e3⟩ := h1
    have e3 : c = cap := by omega
    subst e3
    exact ⟨g, cur.toList, e1, hb, hg, by simpa using h5, h3, h4, h6⟩
theorem Own.of_blk' {w : World} {B : Nat} {e : TypeId} {size : Nat} {b n c : Nat} {ys : List Value} (h : Blk w b e ys) (hb : B ≤ b) (hl : ys.length = c * size) (hn : n ≤ c) (hc : c ≤ maxLen) : Own w B e size (some ⟨b, 0, none⟩) n c (ys.take (n * size)) :=
  ⟨by
    have : n * size ≤ c * size := Nat.mul_le_mul_right _ hn
    simp; omega, .inr ⟨b, c, ⟨ys⟩, rfl, hb, h, hn, hc, by simpa using hl, rfl⟩⟩
/-- a cell of one's own slice is stored -/
theorem Own.set {P : Program} {w : World} {B : Nat} {e : TypeId} {size : Nat} {p : Option Addr} {n c : Nat} {xs : List Value} (h : Own w B e size p n c xs) {t : TypeId} {i : Nat} {v : Value} (hi : i < xs.length) (ht : cellT P t = true) (hv : v.oneCell' = true) :
    ∃ b w', p = some ⟨b, 0, none⟩ ∧ Stores P t ((⟨b, 0, none⟩ : Addr).add i) v w w' ∧ Own w' B e size p n c (xs.set i v) ∧ Chg (p.map (·.block)).toList w w' ∧ w'.heap.size = w.heap.size := by
  have hl := h.len
  have hn : 0 < n := by
    rcases Nat.eq_zero_or_pos n with h0 | h0
    · subst h0; simp at hl; rw [hl] at hi; simp at hi
    · exact h0
  obtain ⟨b, ys, rfl, hb, hblk, hyl, hnc, hc, hx⟩ := h.blk hn
  have hle : n * size ≤ c * size := Nat.mul_le_mul_right _ hnc
  obtain ⟨w', st, hb', ch, sz⟩ := hblk.store (P := P) (t := t) (k := i) (v := v) ht (by omega) hv
  refine ⟨b, w', rfl, st, ?_, by simpa using ch, sz⟩
  have := Own.of_blk' (n := n) hb' hb (by simpa using hyl) hnc hc
  rw [List.take_set, hx] at this
  exact this
theorem AllO.focus {w : World} {B k : Nat} : ∀ {css : List (List Value)} {l : List (List D0)} {fs : List (List Nat)}, AllO w B k css l fs → ∀ (i : Nat) (x : List D0), l[i]? = some x →
    ∃ cs fi, css[i]? = some cs ∧ fs[i]? = some fi ∧ cs.length = k ∧ Owns w B cs x fi
  | [], [], [], _, i, x, hx => by simp at hx
  | cs :: css, y :: l, f :: fs, h, 0, x, hx => by
    simp only [List.getElem?_cons_zero, Option.some.injEq] at hx
    subst hx
    exact ⟨cs, f, rfl, rfl, h.1, h.2.1⟩
  | cs :: css, y :: l, f :: fs, h, i + 1, x, hx => by
    simp only [List.getElem?_cons_succ] at hx ⊢
    exact AllO.focus h.2.2 i x hx
  | [], [], _ :: _, h, _, _, _ => h.elim
  | [], _ :: _, _, h, _, _, _ => h.elim
  | _ :: _, [], _, h, _, _, _ => h.elim
  | _ :: _, _ :: _, [], h, _, _, _ => h.elim
theorem AllO.set {S : List Nat} {w w' : World} {B k : Nat} {cs' : List Value} {x' : List D0} (hc : Chg S w w') (hk : cs'.length = k) : ∀ {css : List (List Value)} {l : List (List D0)} {fs : List (List Nat)}, AllO w B k css l fs → ∀ (i : Nat) (fi : List Nat), fs[i]? = some fi →
    Owns w' B cs' x' fi → (∀ (j : Nat) (f : List Nat), j ≠ i → fs[j]? = some f → ∀ y ∈ f, y ∉ S) → AllO w' B k (css.set i cs') (l.set i x') fs
  | [], [], [], _, i, fi, hx, _, _ => by simp at hx
  | cs :: css, y :: l, f :: fs, h, 0, fi, hx, ho, hS => by
    simp only [List.getElem?_cons_zero, Option.some.injEq] at hx
    subst hx
    refine ⟨hk, ho, h.2.2.chg hc fun y hy => ?_⟩
    obtain ⟨f', hf, hyf⟩ := List.mem_flatten.1 hy
    obtain ⟨j, hj, e⟩ := List.getElem_of_mem hf
    exact hS (j + 1) f' (by omega) (by simp [List.getElem?_eq_getElem hj, e]) y hyf
  | cs :: css, y :: l, f :: fs, h, i + 1, fi, hx, ho, hS => by
    simp only [List.getElem?_cons_succ] at hx
    refine ⟨h.1, h.2.1.chg hc fun y hy => hS 0 f (by omega) rfl y hy, AllO.set hc hk h.2.2 i fi hx ho fun j f' hj hf => hS (j + 1) f' (by omega) (by simpa using hf)⟩
  | [], [], _ :: _, h, _, _, _, _, _ => h.elim
  | [], _ :: _, _, h, _, _, _, _, _ => h.elim
  | _ :: _, [], _, h, _, _, _, _, _ => h.elim
  | _ :: _, _ :: _, [], h, _, _, _, _, _ => h.elim
theorem flat_len {α : Type} {k : Nat} : ∀ {css : List (List α)}, (∀ c ∈ css, c.length = k) → css.flatten.length = css.length * k
  | [], _ => by simp
  | c :: css, h => by
    rw [List.flatten_cons, List.length_append, flat_len fun c hc => h c (.tail _ hc), h c (.head _), List.length_cons, Nat.succ_mul, Nat.add_comm]
theorem cons_at {α : Type} {l : List α} {i : Nat} {x : α} (h : l[i]? = some x) : l = l.take i ++ x :: l.drop (i + 1) := by
  obtain ⟨h1, h2⟩ := List.getElem?_eq_some_iff.1 h
  conv => lhs; rw [← List.take_append_drop i l]
  rw [List.drop_eq_getElem_cons h1, h2]
theorem set_split {α : Type} {l : List α} {i : Nat} {x y : α} (h : l[i]? = some x) : l.set i y = l.take i ++ y :: l.drop (i + 1) := by
  obtain ⟨h1, h2⟩ := List.getElem?_eq_some_iff.1 h
  rw [List.set_eq_take_append_cons_drop, if_pos h1]
theorem AllO.lens {w : World} {B k : Nat} : ∀ {css : List (List Value)} {l : List (List D0)} {fs : List (List Nat)}, AllO w B k css l fs → (∀ c ∈ css, c.length = k) ∧ css.length = l.length ∧ fs.length = l.length
  | [], [], [], _ => ⟨fun _ h => by simp at h, rfl, rfl⟩
  | cs :: css, y :: l, f :: fs, h => by
    obtain ⟨h1, h2, h3⟩ := AllO.lens h.2.2
    refine ⟨fun c hc => ?_, by simp [h2], by simp [h3]⟩
    rcases List.mem_cons.1 hc with h4 | h4
    · rw [h4]; exact h.1
    · exact h1 c h4
  | [], [], _ :: _, h => h.elim
  | [], _ :: _, _, h => h.elim
  | _ :: _, [], _, h => h.elim
  | _ :: _, _ :: _, [], h => h.elim
theorem OwnRows.focus {w : World} {B : Nat} {e : TypeId} {k : Nat} {p : Option Addr} {n c : Nat} {l : List (List D0)} {f : List Nat} (h : OwnRows w B e k p n c l f) {i : Nat} {x : List D0} (hx : l[i]? = some x) :
    ∃ b xs cs zs fi, p = some ⟨b, 0, none⟩ ∧ B ≤ b ∧ xs.length = i * k ∧ cs.length = k ∧ Blk w b e (xs ++ cs ++ zs) ∧ Owns w B cs x fi ∧ fi.Nodup ∧ b ∉ fi ∧ b ∈ f ∧ (∀ y ∈ fi, y ∈ f) ∧
      ∀ w' cs' x', Chg (b :: fi) w w' → cs'.length = k → Blk w' b e (xs ++ cs' ++ zs) → Owns w' B cs' x' fi → OwnRows w' B e k p n c (l.set i x') f := by
  obtain ⟨hl, css, fs, ha, ho, hf, hnd⟩ := h
  have hi : i < l.length := (List.getElem?_eq_some_iff.1 hx).1
  obtain ⟨cs, fi, hcs, hfi, hk, how⟩ := ha.focus i x hx
  obtain ⟨hlen, hcl, hfl⟩ := ha.lens
  obtain ⟨b, ys, rfl, hb, hblk, hyl, hnc, hc, hy⟩ := ho.blk (by omega)
  have hsp := congrArg List.flatten (cons_at hcs)
  rw [List.flatten_append, List.flatten_cons] at hsp
  have hA : (css.take i).flatten.length = i * k := by
    rw [flat_len fun c hc => hlen c (List.mem_of_mem_take hc), List.length_take, Nat.min_eq_left (by omega)]
  have hys : ys = (css.take i).flatten ++ cs ++ ((css.drop (i + 1)).flatten ++ ys.drop (n * k)) := by
    conv => lhs; rw [← List.take_append_drop (n * k) ys, hy, hsp]
    simp
  have hnd' := hnd
  rw [hf] at hnd'
  simp only [Option.map_some, Option.toList_some, List.singleton_append, List.nodup_cons] at hnd'
  obtain ⟨hbn, hfn⟩ := hnd'
  obtain ⟨hf1, hf2⟩ := List.pairwise_flatten.1 hfn
  have hmem : ∀ y ∈ fi, y ∈ fs.flatten := fun y hy => List.mem_flatten.2 ⟨fi, List.mem_of_getElem? hfi, hy⟩
  rw [hys] at hblk
  refine ⟨b, _, cs, _, fi, rfl, hb, hA, hk, hblk, how, hf1 _ (List.mem_of_getElem? hfi), fun hm => hbn (hmem _ hm), by rw [hf]; simp, fun y hy => by rw [hf]; simp only [List.mem_append]; exact .inr (hmem y hy), ?_⟩
  intro w' cs' x' hch hk' hblk' how'
  refine ⟨by simpa using hl, css.set i cs', fs, ha.set hch hk' i fi hfi how' ?_, ?_, hf, hnd⟩
  · intro j g hj hg y hy hm
    have hyf : y ∈ fs.flatten := List.mem_flatten.2 ⟨g, List.mem_of_getElem? hg, hy⟩
    rcases List.mem_cons.1 hm with rfl | hm
    · exact hbn hyf
    · obtain ⟨j1, e1⟩ := List.getElem?_eq_some_iff.1 hg
      obtain ⟨i1, e2⟩ := List.getElem?_eq_some_iff.1 hfi
      rw [List.pairwise_iff_getElem] at hf2
      rcases Nat.lt_or_ge j i with hlt | hge
      · have := hf2 j i j1 i1 hlt
        rw [e1, e2] at this
        exact this y hy y hm rfl
      · have := hf2 i j i1 j1 (by omega)
        rw [e1, e2] at this
        exact this y hm y hy rfl
  · have hlen2 : ((css.take i).flatten ++ cs' ++ ((css.drop (i + 1)).flatten ++ ys.drop (n * k))).length = c * k := by
      have := congrArg List.length hys
      simp only [List.length_append] at this ⊢
      omega
    have := Own.of_blk' (n := n) hblk' hb hlen2 hnc hc
    have e : ((css.take i).flatten ++ cs' ++ ((css.drop (i + 1)).flatten ++ ys.drop (n * k))).take (n * k) = (css.set i cs').flatten := by
      rw [set_split hcs, List.flatten_append, List.flatten_cons, ← List.append_assoc, ← List.append_assoc, List.take_left']
      have h1 := congrArg List.length hsp
      have h2 := flat_len hlen
      simp only [List.length_append] at h1 ⊢
      rw [hcl, hl] at h2
      omega
    rwa [e] at this
end Go.Proofs.YtfehpaekbbmkcaaGreatDoor.Sx

namespace Go.Proofs.YtfehpaekbbmkcaaGreatDoor
open Go Go.Proofs.YtfehpaekbbmkcaaGreatDoor.Sx
set_option linter.unusedVariables false
set_option linter.unusedSimpArgs false
theorem mid_get {w : World} {b off : Nat} {xs zs : List Value} {u : List Int} (h : Blk w b T_int (xs ++ u.map (Value.int .i64) ++ zs)) (hA : xs.length = off) {i : Nat} (hi : i < u.length) :
    Loads P T_int ((⟨b, off, none⟩ : Addr).add (i * 1)) (.int .i64 (u.getD i 0)) w := by
  rw [Nat.mul_one]
  refine (h.segMid hA).load (by kernel_rfl) ?_
  rw [List.getElem?_map, List.getD_eq_getElem?_getD, List.getElem?_eq_getElem hi]; rfl
theorem mid_set {w : World} {b off : Nat} {xs zs : List Value} {u : List Int} (h : Blk w b T_int (xs ++ u.map (Value.int .i64) ++ zs)) (hA : xs.length = off) {i : Nat} (hi : i < u.length) (x : Int) :
    ∃ w', Stores P T_int ((⟨b, off, none⟩ : Addr).add (i * 1)) (.int .i64 x) w w' ∧ Blk w' b T_int (xs ++ (u.set i x).map (Value.int .i64) ++ zs) ∧ Chg [b] w w' ∧ w'.heap.size = w.heap.size := by
  obtain ⟨w', h1, h2, h3, h4⟩ := h.storeMid (P := P) (t := T_int) (v := .int .i64 x) hA i (by simpa using hi) (by kernel_rfl) rfl (a := (⟨b, off, none⟩ : Addr).add (i * 1)) (by rw [addr_add, Nat.mul_one])
  exact ⟨w', h1, by rw [List.map_set]; exact h2, h3, h4⟩
theorem getD_set_ne {u : List Int} {i j : Nat} (x : Int) (h : i ≠ j) : (u.set i x).getD j 0 = u.getD j 0 := by
  rw [List.getD_eq_getElem?_getD, List.getElem?_set_ne h, ← List.getD_eq_getElem?_getD]
theorem getD_set_eq {u : List Int} {i : Nat} (x : Int) (h : i < u.length) : (u.set i x).getD i 0 = x := by
  rw [List.getD_eq_getElem?_getD, List.getElem?_set_self h]; rfl
theorem take_set_succ {u : List Int} {j : Nat} {x : Int} (hj : j < u.length) (hl : Limbs (u.take j)) (hx : 0 ≤ x ∧ x < 1000000000) : Limbs ((u.set j x).take (j + 1)) := by
  have e : (u.set j x).take (j + 1) = u.take j ++ [x] := by
    rw [List.take_add_one, List.getElem?_set_self hj, List.take_set_of_le (Nat.le_refl _)]; rfl
  rw [e]
  exact hl.snoc hx
/-- the sign of a number of which only the top place may be negative -/
theorem top_sign {X M y : Int} (h0 : 0 ≤ X) (h1 : X < M) : (X + M * y < 0 ↔ y < 0) := by
  constructor
  · intro h
    by_cases hy : y < 0
    · exact hy
    · have := Int.mul_nonneg (show 0 ≤ M by omega) (show 0 ≤ y by omega)
      omega
  · intro hy
    have := Int.mul_le_mul_of_nonneg_left (show y ≤ -1 by omega) (show 0 ≤ M by omega)
    omega
theorem val_top {u : List Int} {m : Nat} (h : u.length = m + 1) : val u = val (u.take m) + 1000000000 ^ m * u.getD m 0 := by
  have := val_take_succ u m
  rwa [List.take_of_length_le (by omega)] at this
theorem mul_same {a x y : Int} (h : x = y) : a * x = a * y := by rw [h]
theorem subt_step {u vs : List Int} {j : Nat} {x borrow y b' V : Int} (hj : j < u.length) (hv : val u = V - x * val (vs.take j) + 1000000000 ^ j * borrow)
    (hy : y = u.getD j 0 - vs.getD j 0 * x - borrow + 1000000000 * b') : val (u.set j y) = V - x * val (vs.take (j + 1)) + 1000000000 ^ (j + 1) * b' := by
  rw [val_set u _ hj, val_take_succ, Int.pow_succ, Int.mul_assoc]
  have e : (1000000000 : Int) ^ j * (y - u.getD j 0) = 1000000000 ^ j * (1000000000 * b') - 1000000000 ^ j * borrow - x * (1000000000 ^ j * vs.getD j 0) := by
    have : x * (1000000000 ^ j * vs.getD j 0) = (1000000000 : Int) ^ j * (vs.getD j 0 * x) := by
      rw [Int.mul_comm, Int.mul_assoc]
    rw [this, ← Int.mul_sub, ← Int.mul_sub]; exact mul_same (by omega)
  rw [Int.mul_add]
  omega
theorem impl_subTimes_c {w : World} {b off m c d : Nat} {q : Option Addr} {xs zs : List Value} {u vs : List Int} {x : Int} (h : Blk w b T_int (xs ++ u.map (Value.int .i64) ++ zs)) (hA : xs.length = off) (hu : u.length = m + 1)
    (k : IntsR w q m d vs) (hq : ∀ z, q.map (·.block) = some z → z ≠ b) (hlu : Limbs u) (hlv : Limbs vs) (hx : 0 ≤ x ∧ x < 1000000000) (hm : m ≤ 10000000) :
    Ret P n_impl_subTimes [.slice (some ⟨b, off, none⟩) (m + 1) c, .slice q m d, .int .i64 x] w fun v w' => ∃ u' : List Int, v = .bool (decide (val u' < 0)) ∧ u'.length = m + 1 ∧ Blk w' b T_int (xs ++ u'.map (Value.int .i64) ++ zs) ∧ Chg [b] w w' ∧ w'.heap.size = w.heap.size ∧ Limbs (u'.take m) ∧ val u' = val u - x * val vs := by
  refine impl_subTimes_ret ?_
  unfold impl_subTimes
  have hlv1 := k.1
  refine ⟨fun borrow t wr => ∃ (j : Nat) (o : List Int), t = j ∧ j ≤ m ∧ o.length = m + 1 ∧ Blk wr b T_int (xs ++ o.map (Value.int .i64) ++ zs) ∧ Chg [b] w wr ∧ wr.heap.size = w.heap.size ∧ Limbs (o.take j) ∧ (∀ i, j ≤ i → o.getD i 0 = u.getD i 0) ∧ 0 ≤ borrow ∧ borrow < 1000000000 ∧ val o = val u - x * val (vs.take j) + 1000000000 ^ j * borrow, fun _ t _ => m - t.toNat,
    ⟨0, u, rfl, by omega, hu, h, Chg.refl _ _, rfl, by simp [Limbs], fun _ _ => rfl, by omega, by omega, by simp [val]⟩, ?_⟩
  intro junk wr borrow t ⟨j, o, ht, hjm, ho, hb, hch, hsz, hlo, hsame, hb0, hb1, hval⟩
  subst ht
  have kr := k.chg hch (fun z hz hm => hq z hz (by simpa using hm))
  refine ifD (fun hlt => ?_) (fun hge => ?_)
  · have U := hlu.getD j; have V := hlv.getD j
    have M := mul_limb V hx
    rw [← hsame j (Nat.le_refl _)] at U
    obtain ⟨ad, rfl, hl⟩ := ints_at kr (i := (j : Int)) (by omega) hlt
    simp only [Int.toNat_natCast] at hl
    refine ⟨⟨by omega, by omega⟩, _, by simpa only [Int.toNat_natCast] using hl, ⟨by omega, by omega⟩, _, by simpa only [Int.toNat_natCast] using mid_get hb hA (show j < o.length by omega), exW ⟨by omega, by omega⟩ (exW ⟨by omega, by omega⟩ (exW ⟨by omega, by omega⟩ ?_))⟩
    have fin : ∀ y b' : Int, 0 ≤ y → y < 1000000000 → 0 ≤ b' → b' < 1000000000 → y = o.getD j 0 - vs.getD j 0 * x - borrow + 1000000000 * b' →
        ∃ w', Stores P T_int ((⟨b, off, none⟩ : Addr).add (j * 1)) (.int .i64 y) wr w' ∧ ∃ (i : Nat) (o : List Int), ((j : Int) + 1) = i ∧ i ≤ m ∧ o.length = m + 1 ∧ Blk w' b T_int (xs ++ o.map (Value.int .i64) ++ zs) ∧ Chg [b] w w' ∧ w'.heap.size = w.heap.size ∧ Limbs (o.take i) ∧ (∀ z, i ≤ z → o.getD z 0 = u.getD z 0) ∧ 0 ≤ b' ∧ b' < 1000000000 ∧ val o = val u - x * val (vs.take i) + 1000000000 ^ i * b' := fun y b' y0 y1 b0 b1 e => by
      obtain ⟨w3, st, hb3, ch3, sz3⟩ := mid_set hb hA (show j < o.length by omega) y
      exact ⟨w3, st, j + 1, _, by omega, by omega, by simpa using ho, hb3, hch.trans ch3, by omega, take_set_succ (by omega) hlo ⟨y0, y1⟩, fun z hz => by rw [getD_set_ne _ (by omega)]; exact hsame z (by omega), b0, b1, subt_step (by omega) hval e⟩
    refine ifD (fun hneg => ?_) (fun hpos => ?_)
    · refine exW ⟨by omega, by omega⟩ (exW ⟨by omega, by omega⟩ (exW ⟨by omega, by omega⟩ ⟨by decide, ?_⟩))
      rw [tdiv_limb (by omega)]
      refine exW ⟨by omega, by omega⟩ (exW ⟨by omega, by omega⟩ (exW ⟨by omega, by omega⟩ ?_))
      unfold impl_subTimes_j0
      obtain ⟨w3, st, inv⟩ := fin (o.getD j 0 - vs.getD j 0 * x - borrow + (0 - (o.getD j 0 - vs.getD j 0 * x - borrow) + 1000000000 - 1) / 1000000000 * 1000000000) ((0 - (o.getD j 0 - vs.getD j 0 * x - borrow) + 1000000000 - 1) / 1000000000) (by omega) (by omega) (by omega) (by omega) (by omega)
      refine ⟨⟨by omega, by omega⟩, w3, by simpa only [Int.toNat_natCast] using st, exW ⟨by omega, by omega⟩ ⟨inv, ?_⟩⟩
      show m - ((j : Int) + 1).toNat < m - (j : Int).toNat
      omega
    · unfold impl_subTimes_j0
      obtain ⟨w3, st, inv⟩ := fin (o.getD j 0 - vs.getD j 0 * x - borrow) 0 (by omega) (by omega) (by omega) (by omega) (by omega)
      refine ⟨⟨by omega, by omega⟩, w3, by simpa only [Int.toNat_natCast] using st, exW ⟨by omega, by omega⟩ ⟨inv, ?_⟩⟩
      show m - ((j : Int) + 1).toNat < m - (j : Int).toNat
      omega
  · have hjm' : j = m := by omega
    subst hjm'
    rw [List.take_of_length_le (show vs.length ≤ j by omega)] at hval
    have U := hlu.getD j
    rw [← hsame j (Nat.le_refl _)] at U
    refine ⟨⟨by omega, by omega⟩, _, mid_get hb hA (show j < o.length by omega), exW ⟨by omega, by omega⟩ ⟨⟨by omega, by omega⟩, ?_⟩⟩
    obtain ⟨w3, st, hb3, ch3, sz3⟩ := mid_set hb hA (show j < o.length by omega) (o.getD j 0 - borrow)
    have hl3 : (o.set j (o.getD j 0 - borrow)).length = j + 1 := by simpa using ho
    have ht3 : (o.set j (o.getD j 0 - borrow)).take j = o.take j := List.take_set_of_le (Nat.le_refl _)
    have g3 := getD_set_eq (o.getD j 0 - borrow) (show j < o.length by omega)
    have hL3 : Limbs ((o.set j (o.getD j 0 - borrow)).take j) := by rw [ht3]; exact hlo
    refine ⟨w3, st, ⟨by omega, by omega⟩, _, mid_get hb3 hA (show j < _ by omega), _, ?_, hl3, hb3, hch.trans ch3, by omega, hL3, ?_⟩
    · have hn := val_nonneg hL3; have hlt3 := val_lt hL3
      have hlen : ((o.set j (o.getD j 0 - borrow)).take j).length = j := by rw [List.length_take]; omega
      rw [hlen] at hlt3
      have := top_sign (y := (o.set j (o.getD j 0 - borrow)).getD j 0) hn hlt3
      rw [val_top hl3]
      simp only [this]
    · rw [val_set _ _ (by omega)]
      have : (1000000000 : Int) ^ j * (o.getD j 0 - borrow - o.getD j 0) = - (1000000000 ^ j * borrow) := by
        rw [← Int.mul_neg]; exact mul_same (by omega)
      omega
theorem impl_addBack_c {w : World} {b off m c d : Nat} {q : Option Addr} {xs zs : List Value} {u vs : List Int} (h : Blk w b T_int (xs ++ u.map (Value.int .i64) ++ zs)) (hA : xs.length = off) (hu : u.length = m + 1)
    (k : IntsR w q m d vs) (hq : ∀ z, q.map (·.block) = some z → z ≠ b) (hlu : Limbs (u.take m)) (hlv : Limbs vs) (ht : -1000000000 ≤ u.getD m 0 ∧ u.getD m 0 ≤ 1000000000) (hm : m ≤ 10000000) :
    Ret P n_impl_addBack [.slice (some ⟨b, off, none⟩) (m + 1) c, .slice q m d] w fun v w' => ∃ u' : List Int, v = .tuple #[] ∧ u'.length = m + 1 ∧ Blk w' b T_int (xs ++ u'.map (Value.int .i64) ++ zs) ∧ Chg [b] w w' ∧ w'.heap.size = w.heap.size ∧ Limbs (u'.take m) ∧ val u' = val u + val vs := by
  refine impl_addBack_ret ?_
  unfold impl_addBack
  have hlv1 := k.1
  refine ⟨fun carry t wr => ∃ (j : Nat) (o : List Int), t = j ∧ j ≤ m ∧ o.length = m + 1 ∧ Blk wr b T_int (xs ++ o.map (Value.int .i64) ++ zs) ∧ Chg [b] w wr ∧ wr.heap.size = w.heap.size ∧ Limbs (o.take j) ∧ (∀ i, j ≤ i → o.getD i 0 = u.getD i 0) ∧ 0 ≤ carry ∧ carry ≤ 1 ∧ val o + 1000000000 ^ j * carry = val u + val (vs.take j), fun _ t _ => m - t.toNat,
    ⟨0, u, rfl, by omega, hu, h, Chg.refl _ _, rfl, by simp [Limbs], fun _ _ => rfl, by omega, by omega, by simp [val]⟩, ?_⟩
  intro junk wr carry t ⟨j, o, htj, hjm, ho, hb, hch, hsz, hlo, hsame, hb0, hb1, hval⟩
  subst htj
  have kr := k.chg hch (fun z hz hm => hq z hz (by simpa using hm))
  refine ifD (fun hlt => ?_) (fun hge => ?_)
  · have V := hlv.getD j
    have U : 0 ≤ o.getD j 0 ∧ o.getD j 0 < 1000000000 := by
      rw [hsame j (Nat.le_refl _)]
      have := hlu.getD j
      rwa [List.getD_eq_getElem?_getD, List.getElem?_take_of_lt (by omega), ← List.getD_eq_getElem?_getD] at this
    obtain ⟨ad, rfl, hl⟩ := ints_at kr (i := (j : Int)) (by omega) hlt
    simp only [Int.toNat_natCast] at hl
    refine ⟨⟨by omega, by omega⟩, _, by simpa only [Int.toNat_natCast] using hl, ⟨by omega, by omega⟩, _, by simpa only [Int.toNat_natCast] using mid_get hb hA (show j < o.length by omega), exW ⟨by omega, by omega⟩ (exW ⟨by omega, by omega⟩ ⟨by decide, _, rfl, ⟨by omega, by omega⟩, ?_⟩)⟩
    rw [tmod_limb (by omega)]
    obtain ⟨w3, st, hb3, ch3, sz3⟩ := mid_set hb hA (show j < o.length by omega) ((carry + (o.getD j 0 + vs.getD j 0)) % 1000000000)
    refine ⟨w3, by simpa only [Int.toNat_natCast] using st, by decide, ?_⟩
    rw [tdiv_limb (by omega)]
    refine exW ⟨by omega, by omega⟩ (exW ⟨by omega, by omega⟩ ⟨⟨j + 1, _, by omega, by omega, by simpa using ho, hb3, hch.trans ch3, by omega, take_set_succ (by omega) hlo (limb_mod _), fun z hz => by rw [getD_set_ne _ (by omega)]; exact hsame z (by omega), by omega, by omega, ?_⟩, ?_⟩)
    · rw [val_set o _ (by omega), val_take_succ, Int.pow_succ, Int.mul_assoc]
      have e : (1000000000 : Int) ^ j * ((carry + (o.getD j 0 + vs.getD j 0)) % 1000000000 - o.getD j 0) + 1000000000 ^ j * (1000000000 * ((carry + (o.getD j 0 + vs.getD j 0)) / 1000000000)) = 1000000000 ^ j * carry + 1000000000 ^ j * vs.getD j 0 := by
        rw [← Int.mul_add, ← Int.mul_add]; exact mul_same (by omega)
      omega
    · show m - ((j : Int) + 1).toNat < m - (j : Int).toNat
      omega
  · have hjm' : j = m := by omega
    subst hjm'
    rw [List.take_of_length_le (show vs.length ≤ j by omega)] at hval
    have hs := hsame j (Nat.le_refl _)
    rw [← hs] at ht
    refine ⟨⟨by omega, by omega⟩, _, mid_get hb hA (show j < o.length by omega), exW ⟨by omega, by omega⟩ ⟨⟨by omega, by omega⟩, ?_⟩⟩
    obtain ⟨w3, st, hb3, ch3, sz3⟩ := mid_set hb hA (show j < o.length by omega) (o.getD j 0 + carry)
    have ht3 : (o.set j (o.getD j 0 + carry)).take j = o.take j := List.take_set_of_le (Nat.le_refl _)
    refine ⟨w3, st, _, rfl, by simpa using ho, hb3, hch.trans ch3, by omega, by rw [ht3]; exact hlo, ?_⟩
    rw [val_set _ _ (by omega)]
    have : (1000000000 : Int) ^ j * (o.getD j 0 + carry - o.getD j 0) = 1000000000 ^ j * carry := mul_same (by omega)
    omega
theorem impl_natSmall_c {w : World} {p : Option Addr} {n c : Nat} {a : List Int} {d : Int} (h : IntsR w p n c a) (ha : Limbs a) (hd : 0 < d ∧ d < 1000000000) (hn : n ≤ 10000000) :
    Ret P n_impl_natSmall [.slice p n c, .int .i64 d] w fun v w' => ∃ p' n' c', v = .tuple #[.slice p' n' c', .int .i64 (val a % d)] ∧ Own w' w.heap.size T_int 1 p' n' c' ((digs (val a / d).toNat).map (Value.int .i64)) ∧ Ext w w' := by
  refine impl_natSmall_ret ?_
  unfold impl_natSmall
  have hla := h.1
  refine ⟨⟨by omega, by omega, by omega⟩, fun r w1 hn1 => exW ⟨by omega, by omega⟩ ?_⟩
  have hre := hn1.r_eq
  have hb1 := hn1.blk
  rw [zeroRow_int, Nat.mul_one] at hb1
  refine ⟨fun rest i wr => ∃ (s : Nat) (o : List Int), i = (s : Int) - 1 ∧ s ≤ n ∧ o.length = n ∧ Blk wr r T_int (o.map (Value.int .i64)) ∧ Ext w wr ∧ Limbs o ∧ 0 ≤ rest ∧ rest < d ∧ val (a.drop s) = d * val (o.drop s) + rest, fun _ i _ => (i + 1).toNat,
    ⟨n, List.replicate n 0, rfl, by omega, by simp, by simpa using hb1, hn1.ext, fun x hx => by simp at hx; omega, by omega, by omega, by rw [List.drop_of_length_le (by omega), List.drop_of_length_le (by simp)]; simp [val]⟩, ?_⟩
  intro junk wr rest i ⟨s, o, hi, hsn, hol, hblk, hx, hlo, hr0, hr1, hv⟩
  subst hi
  refine ifD (fun hlt => ?_) (fun hge => ?_)
  · obtain ⟨t, rfl⟩ : ∃ t, s = t + 1 := ⟨s - 1, by omega⟩
    have A := ha.getD t
    have e1 : (((t + 1 : Nat) : Int) - 1).toNat = t := by omega
    obtain ⟨ad, rfl, hl⟩ := ints_at (h.ext hx) (i := ((t + 1 : Nat) : Int) - 1) (by omega) (by omega)
    rw [e1] at hl ⊢
    have T1 : rest * 1000000000 + a.getD t 0 < 1000000000 * d := by
      have : rest * 1000000000 ≤ (d - 1) * 1000000000 := Int.mul_le_mul_of_nonneg_right (by omega) (by omega)
      omega
    have T0 : 0 ≤ rest * 1000000000 + a.getD t 0 := by omega
    have Y0 : 0 ≤ (rest * 1000000000 + a.getD t 0) / d := Int.ediv_nonneg T0 (by omega)
    have Y1 : (rest * 1000000000 + a.getD t 0) / d < 1000000000 := Int.ediv_lt_of_lt_mul (by omega) T1
    have Z0 := Int.emod_nonneg (rest * 1000000000 + a.getD t 0) (show d ≠ 0 by omega)
    have Z1 := Int.emod_lt_of_pos (rest * 1000000000 + a.getD t 0) hd.1
    have Q := Int.mul_ediv_add_emod (rest * 1000000000 + a.getD t 0) d
    refine exW ⟨by omega, by omega⟩ ⟨⟨by omega, by omega⟩, _, hl, exW ⟨by omega, by omega⟩ ⟨by omega, ?_⟩⟩
    rw [Int.tdiv_eq_ediv_of_nonneg T0, Int.tmod_eq_emod_of_nonneg T0]
    obtain ⟨w3, st, hb3, ch3, sz3⟩ := blk_set hblk (i := (t : Int)) (by omega) (by omega) ((rest * 1000000000 + a.getD t 0) / d)
    simp only [Int.toNat_natCast] at st hb3
    refine exW ⟨by omega, by omega⟩ ⟨⟨by omega, by omega⟩, w3, st, by omega, _, rfl, exW ⟨by omega, by omega⟩ ⟨⟨t, _, by omega, by omega, by simpa using hol, hb3, hx.chg ch3 (by simp; omega), hlo.set ⟨Y0, Y1⟩, Z0, Z1, ?_⟩, ?_⟩⟩
    · have ea : a.drop t = a.getD t 0 :: a.drop (t + 1) := by
        rw [List.drop_eq_getElem_cons (by omega), List.getD_eq_getElem?_getD, List.getElem?_eq_getElem (by omega)]; rfl
      have eo : (o.set t ((rest * 1000000000 + a.getD t 0) / d)).drop t = (rest * 1000000000 + a.getD t 0) / d :: o.drop (t + 1) := by
        rw [List.drop_eq_getElem_cons (by simp; omega), List.getElem_set_self, List.drop_set_of_lt (by omega)]
      rw [ea, eo, val, val, hv, Int.mul_add d]
      have : d * (1000000000 * val (o.drop (t + 1))) = 1000000000 * (d * val (o.drop (t + 1))) := by rw [Int.mul_left_comm]
      omega
    · show (((t + 1 : Nat) : Int) - 1 - 1 + 1).toNat < (((t + 1 : Nat) : Int) - 1 + 1).toNat
      omega
  · have hs0 : s = 0 := by omega
    subst hs0
    simp only [List.drop_zero] at hv
    have hown : Own wr w.heap.size T_int 1 (some ⟨r, 0, none⟩) n n (o.map (Value.int .i64)) := Own.of_blk hblk (by omega) (by simp [hol]) (by simp only [maxLen]; omega)
    refine Ret.at (impl_trim_c hown.ints) ?_
    rintro v w4 ⟨hv4, hw4, hr4⟩
    subst hv4; subst hw4
    have e1 : val a / d = val o := by rw [hv, Int.mul_comm, Int.add_comm, Int.add_mul_ediv_right _ _ (by omega), Int.ediv_eq_zero_of_lt hr0 hr1, Int.zero_add]
    have e2 : val a % d = rest := by rw [hv, Int.mul_comm, Int.add_comm, Int.add_mul_emod_self_right, Int.emod_eq_of_lt hr0 hr1]
    refine ⟨_, _, _, rfl, _, _, _, by rw [e2], ?_, hx⟩
    rw [e1, ← trimL_eq hlo]
    have hle := trimL_len o
    have := hown.sub (m := (trimL o).length) (by omega)
    rwa [← trimL_prefix] at this
end Go.Proofs.YtfehpaekbbmkcaaGreatDoor

namespace Go.Proofs.YtfehpaekbbmkcaaGreatDoor.Sx
open Go Go.RowKit
set_option linter.unusedVariables false
set_option linter.unusedSimpArgs false
/-- append of one row onto a row of one's own: where it lies then -/
theorem Own.push1 {P : Program} {w : World} {B : Nat} {t e : TypeId} {z : Value} {size bytes : Nat} {p : Option Addr} {n c r : Nat} {xs news : List Value} (h : Own w B e size p n c xs)
    (hT : sliceT P t e z size bytes) (hb : B ≤ w.heap.size) (hr : Blk w r e news) (hl : news.length = size) (h1 : ∀ u ∈ news, u.oneCell' = true)
    (hbytes : (n + 1) * bytes ≤ 140737488355328) (hby : 1 ≤ bytes) :
    ∃ p' c' w', Appends P [t, t] [.slice p n c, .slice (some ⟨r, 0, none⟩) 1 1] (.slice p' (n + 1) c') w w' ∧ Own w' B e size p' (n + 1) c' (xs ++ news) ∧ Chg (p.map (·.block)).toList w w' ∧
      (p'.map (·.block) = p.map (·.block) ∨ ∀ q, p'.map (·.block) = some q → w.heap.size ≤ q) := by
  obtain ⟨hu, hi, hz, hs⟩ := hT
  cases hinf : P.info? e with
  | none => rw [hinf] at hi; cases hi
  | some i =>
    rw [hinf] at hi
    simp only [Option.map_some, Option.some.injEq, Prod.mk.injEq] at hi
    have hnm : n + 1 ≤ maxLen := by
      have : n + 1 ≤ (n + 1) * bytes := Nat.le_mul_of_pos_right _ hby
      simp only [maxLen]; omega
    have hcells : ∀ j u, news[j]? = some u → w.cell? ((⟨r, 0, none⟩ : Addr).add j) = some u := fun j u hj => by rw [addr_add, Nat.zero_add, hr.cell, hj]
    obtain ⟨v', w', hrun, hown, hgr, _⟩ := run_append_own (P := P) w B t 0 e i z size bytes hu hinf hi.1 hi.2.1 hi.2.2 hz hs (.slice p n c) n xs h ⟨r, 0, none⟩ 1 1 news (by rw [hl, Nat.one_mul]) hcells h1 hnm hbytes hb
    have hv : ∃ p' c', v' = .slice p' (n + 1) c' := by
      rcases hown.2 with ⟨e1, e2⟩ | ⟨g, cap, cur, e1, _⟩
      · omega
      · exact ⟨_, _, e1⟩
    obtain ⟨p', c', rfl⟩ := hv
    have hob : (Value.slice p n c).ownBlock = p.map (·.block) := by cases p <;> rfl
    refine ⟨p', c', w', hrun, hown, ⟨hgr.os, hgr.tape, hgr.output, hgr.size, fun k hk hn => hgr.block k hk ?_⟩, ?_⟩
    · rw [hob]; intro e; rw [← e] at hn; simp at hn
    have hrun : (Builtin.append_ #[t, t] 0 #[.slice p n c, .slice (some ⟨r, 0, none⟩) 1 1]).run P w = .ok (.slice p' (n + 1) c') w' := hrun
    rcases h.2 with ⟨e1, e2⟩ | ⟨g, cap, cur, e1, hB, hg, h3, h4, h5, h6⟩
    · simp only [Value.slice.injEq] at e1
      obtain ⟨rfl, rfl, rfl⟩ := e1
      have h0 := run_append_nil (P := P) w t 0 e i z hu hinf hi.1 ⟨r, 0, none⟩ 1 1 news (by rw [hl, hi.2.1, Nat.one_mul]) hcells (by omega) (by omega) (by rw [hi.2.2]; omega)
      rw [h0] at hrun
      injection hrun with hv _
      simp only [Value.slice.injEq] at hv
      exact .inr fun q hq => by rw [← hv.1] at hq; simp at hq; omega
    · simp only [Value.slice.injEq] at e1
      obtain ⟨rfl, _, rfl⟩ := e1
      by_cases hroom : n + 1 ≤ c
      · have hsz : n * i.size + news.length ≤ cur.size := by
          have : (n + 1) * size ≤ c * size := Nat.mul_le_mul_right _ hroom
          rw [hi.2.1, hl, h5, Nat.succ_mul] at *
          omega
        have h0 := run_append_room (P := P) w t 0 e i hu hinf g n c cur hg ⟨r, 0, none⟩ 1 1 news (by rw [hl, hi.2.1, Nat.one_mul]) hcells h1 hroom hsz
        rw [h0] at hrun
        injection hrun with hv _
        simp only [Value.slice.injEq] at hv
        exact .inl (by rw [← hv.1])
      · have holds : ∀ j v, xs[j]? = some v → w.cell? ((⟨g, 0, none⟩ : Addr).add j) = some v := World.ownsRow.cells h rfl
        have hfit : Builtin.nextslicecap (n + 1) c * i.bytes ≤ 281474976710656 := by
          rw [hi.2.2]; exact growslice_fits (by omega) hbytes
        have h0 := run_append_grow (P := P) w t 0 e i z hu hinf hi.1 ⟨g, 0, none⟩ n c xs (by rw [h.len, hi.2.1]) holds ⟨r, 0, none⟩ 1 1 news (by rw [hl, hi.2.1, Nat.one_mul]) hcells (by omega) (by simp only [maxLen] at hnm; omega) hfit
        rw [h0] at hrun
        injection hrun with hv _
        simp only [Value.slice.injEq] at hv
        exact .inr fun q hq => by rw [← hv.1] at hq; simp at hq; omega
theorem OwnRows.fresh {w w' : World} {B : Nat} {e : TypeId} {k r : Nat} (hn : New w (.cells ⟨[]⟩ e (0, 0)) r w') (hb : B ≤ w.heap.size) : OwnRows w' B e k (some ⟨r, 0, none⟩) 0 0 [] [r] :=
  ⟨rfl, [], [], trivial, Own.of_blk0 hn.blk (by have := hn.r_eq; omega) (by simp) (by decide), by simp, by simp⟩
/-- a row with what it holds, all new, pushed -/
theorem OwnRows.push {P : Program} {w : World} {B : Nat} {t e : TypeId} {z : Value} {k bytes : Nat} {p : Option Addr} {n c r : Nat} {l : List (List D0)} {f fx : List Nat} {cs : List Value} {x : List D0} (h : OwnRows w B e k p n c l f)
    (hT : sliceT P t e z k bytes) (hb : B ≤ w.heap.size) (hr : Blk w r e cs) (hl : cs.length = k) (ho : Owns w B cs x fx) (hfx : fx.Nodup) (hdis : ∀ q ∈ fx, q ∉ f)
    (hbytes : (n + 1) * bytes ≤ 140737488355328) (hby : 1 ≤ bytes) :
    ∃ p' c' w' f', Appends P [t, t] [.slice p n c, .slice (some ⟨r, 0, none⟩) 1 1] (.slice p' (n + 1) c') w w' ∧ OwnRows w' B e k p' (n + 1) c' (l ++ [x]) f' ∧ Chg (p.map (·.block)).toList w w' ∧
      (∀ w0, Ext w0 w → w0.heap.size ≤ B → Ext w0 w') := by
  obtain ⟨hln, css, fs, ha, hown, rfl, hnd⟩ := h
  obtain ⟨p', c', w', hrun, hown', hch, hp⟩ := hown.push1 hT hb hr hl ho.reps.cells1 hbytes hby
  have hpl : ∀ q ∈ (p.map (·.block)).toList, B ≤ q := fun q hq => (World.ownsRow.lt hown q (by cases p <;> simp_all [Value.ownBlock])).1
  have hnd1 := (List.nodup_append.1 hnd)
  have hpin : ∀ q ∈ fs.flatten, q ∉ (p.map (·.block)).toList := fun q hq hm => hnd1.2.2 q hm q hq rfl
  have hpx : ∀ q ∈ fx, q ∉ (p.map (·.block)).toList := fun q hq hm => hdis q hq (List.mem_append_left _ hm)
  have hlt : ∀ q ∈ fs.flatten ++ fx, q < w.heap.size := fun q hq => by
    rcases List.mem_append.1 hq with hq | hq
    · exact (ha.lt q hq).2
    · exact (ho.lt q hq).2
  refine ⟨p', c', w', (p'.map (·.block)).toList ++ (fs ++ [fx]).flatten, hrun, ⟨by simp [hln], css ++ [cs], fs ++ [fx], (ha.chg hch hpin).snoc hl (ho.chg hch hpx), by simpa using hown', rfl, ?_⟩, hch, fun w0 hx hb0 => hx.chg hch fun q hq => Nat.le_trans hb0 (hpl q hq)⟩
  have e : (fs ++ [fx]).flatten = fs.flatten ++ fx := by simp
  rw [e, List.nodup_append]
  refine ⟨by cases p' <;> simp, ?_, ?_⟩
  · rw [List.nodup_append]
    exact ⟨hnd1.2.1, hfx, fun a ha b hb e => hdis b hb (by rw [← e]; exact List.mem_append_right _ ha)⟩
  · intro a ha b hb hab
    subst hab
    have hpa := opt_mem ha
    rcases hp with hp | hp
    · rw [hp] at hpa
      have ham : a ∈ (p.map (·.block)).toList := mem_opt hpa
      rcases List.mem_append.1 hb with hb | hb
      · exact hpin a hb ham
      · exact hpx a hb ham
    · have := hp a hpa
      have := hlt a hb
      omega
end Go.Proofs.YtfehpaekbbmkcaaGreatDoor.Sx

namespace Go.Proofs.YtfehpaekbbmkcaaGreatDoor
open Go Go.Proofs.YtfehpaekbbmkcaaGreatDoor.Sx
set_option linter.unusedVariables false
set_option linter.unusedSimpArgs false
theorem pow_pos9 (k : Nat) : (0 : Int) < 1000000000 ^ k := Int.pow_pos (by decide)
/-- the two top places -/
theorem val_top2 {v : List Int} {m : Nat} (h : v.length = m + 2) : val v = val (v.take m) + 1000000000 ^ m * (1000000000 * v.getD (m + 1) 0 + v.getD m 0) := by
  rw [val_top (m := m + 1) h, val_take_succ, Int.pow_succ, Int.mul_add, Int.mul_assoc]
  omega
theorem val_top3 {u : List Int} {m : Nat} (h : u.length = m + 3) : val u = val (u.take m) + 1000000000 ^ m * ((u.getD (m + 2) 0 * 1000000000 + u.getD (m + 1) 0) * 1000000000 + u.getD m 0) := by
  have e2 : (1000000000 : Int) ^ (m + 2) = 1000000000 ^ m * 1000000000 * 1000000000 := by rw [show m + 2 = (m + 1) + 1 from rfl, Int.pow_succ, Int.pow_succ]
  have e1 : (1000000000 : Int) ^ (m + 1) = 1000000000 ^ m * 1000000000 := Int.pow_succ _ _
  rw [val_top (m := m + 2) h, val_take_succ, val_take_succ, e2, e1]
  have : (1000000000 : Int) ^ m * ((u.getD (m + 2) 0 * 1000000000 + u.getD (m + 1) 0) * 1000000000 + u.getD m 0) = 1000000000 ^ m * u.getD m 0 + 1000000000 ^ m * 1000000000 * u.getD (m + 1) 0 + 1000000000 ^ m * 1000000000 * 1000000000 * u.getD (m + 2) 0 := by
    rw [Int.mul_assoc (1000000000 ^ m * 1000000000), Int.mul_assoc (1000000000 ^ m), Int.mul_assoc (1000000000 ^ m), ← Int.mul_add, ← Int.mul_add]
    exact mul_same (by omega)
  omega
theorem take_bounds {u : List Int} {m : Nat} (h : Limbs u) (hm : m ≤ u.length) : 0 ≤ val (u.take m) ∧ val (u.take m) < 1000000000 ^ m := by
  have h1 := val_nonneg (h.take m); have h2 := val_lt (h.take m)
  have : (u.take m).length = m := by rw [List.length_take]; omega
  rw [this] at h2
  exact ⟨h1, h2⟩
/-- a first guess is not too small -/
theorem guess0 {M ul vl T top u2 v1 v2 q D V : Int} (hM : 0 < M) (hul : ul < M) (hvl : 0 ≤ vl) (hD : D = ul + M * T) (hV : V = vl + M * (1000000000 * v1 + v2)) (hT : T = top * 1000000000 + u2) (hu2 : u2 < 1000000000) (hv2 : 0 ≤ v2) (hq : 0 ≤ q) (h : top < (q + 1) * v1) : D < (q + 1) * V := by
  have h1 : (q + 1) * (1000000000 * v1) = 1000000000 * ((q + 1) * v1) := Int.mul_left_comm _ _ _
  have h2 : 0 ≤ (q + 1) * v2 := Int.mul_nonneg (by omega) hv2
  have h3 : T + 1 ≤ (q + 1) * (1000000000 * v1 + v2) := by rw [Int.mul_add]; omega
  have h4 : M * (T + 1) ≤ M * ((q + 1) * (1000000000 * v1 + v2)) := Int.mul_le_mul_of_nonneg_left h3 (by omega)
  have h5 : 0 ≤ (q + 1) * vl := Int.mul_nonneg (by omega) hvl
  rw [hV, Int.mul_add, Int.mul_left_comm (q + 1) M]
  rw [Int.mul_add] at h4
  omega
/-- a guess that is too great is not needed -/
theorem guess1 {M ul vl T v12 q D V : Int} (hM : 0 < M) (hul : ul < M) (hvl : 0 ≤ vl) (hD : D = ul + M * T) (hV : V = vl + M * v12) (hq : 0 ≤ q) (h : T < q * v12) : D < q * V := by
  have h4 : M * (T + 1) ≤ M * (q * v12) := Int.mul_le_mul_of_nonneg_left (by omega) (by omega)
  have h5 : 0 ≤ q * vl := Int.mul_nonneg hq hvl
  rw [hV, Int.mul_add, Int.mul_left_comm q M]
  rw [Int.mul_add] at h4
  omega
/-- a guess that holds at the top is too great by one at most -/
theorem guess2 {M ul vl T v1 v2 q D V : Int} (hM : 0 < M) (hul : 0 ≤ ul) (hvl : 0 ≤ vl ∧ vl < M) (hD : D = ul + M * T) (hV : V = vl + M * (1000000000 * v1 + v2)) (hv1 : 1 ≤ v1) (hv2 : 0 ≤ v2) (hq : 0 ≤ q ∧ q < 1000000000) (h : q * (1000000000 * v1 + v2) ≤ T) : q * V ≤ D + V := by
  have h1 : q * vl ≤ q * M := Int.mul_le_mul_of_nonneg_left (by omega) hq.1
  have h2 : M * (q * (1000000000 * v1 + v2)) ≤ M * T := Int.mul_le_mul_of_nonneg_left h (by omega)
  have h3 : M * q ≤ M * (1000000000 * v1 + v2) := Int.mul_le_mul_of_nonneg_left (by omega) (by omega)
  rw [Int.mul_comm q M] at h1
  have e : q * V = q * vl + M * (q * (1000000000 * v1 + v2)) := by rw [hV, Int.mul_add, Int.mul_left_comm q M]
  omega
theorem impl_divStep_c {w : World} {b off m c d : Nat} {q : Option Addr} {xs zs : List Value} {u vs : List Int} (h : Blk w b T_int (xs ++ u.map (Value.int .i64) ++ zs)) (hA : xs.length = off) (hu : u.length = m + 1)
    (k : IntsR w q m d vs) (hq : ∀ z, q.map (·.block) = some z → z ≠ b) (hlu : Limbs u) (hlv : Limbs vs) (htop : 1 ≤ vs.getD (m - 1) 0) (hm2 : 2 ≤ m) (hm : m ≤ 10000000) (hD : val u < 1000000000 * val vs) :
    Ret P n_impl_divStep [.slice (some ⟨b, off, none⟩) (m + 1) c, .slice q m d] w fun v w' => ∃ (x : Int) (u' : List Int), v = .int .i64 x ∧ 0 ≤ x ∧ x < 1000000000 ∧ u'.length = m + 1 ∧ Blk w' b T_int (xs ++ u'.map (Value.int .i64) ++ zs) ∧ Chg [b] w w' ∧ Limbs u' ∧ val u' = val u - x * val vs ∧ 0 ≤ val u' ∧ val u' < val vs := by
  refine impl_divStep_ret ?_
  unfold impl_divStep
  have hvl := k.1
  obtain ⟨t, rfl⟩ : ∃ t, m = t + 2 := ⟨m - 2, by omega⟩
  have e1 : t + 2 - 1 = t + 1 := by omega
  rw [e1] at htop
  have U2 := hlu.getD (t + 2); have U1 := hlu.getD (t + 1); have U0 := hlu.getD t
  have V1 := hlv.getD (t + 1); have V0 := hlv.getD t
  have eu := val_top3 hu
  have ev := val_top2 hvl
  have bu := take_bounds (m := t) hlu (by omega); have bv := take_bounds (m := t) hlv (by omega)
  have hM := pow_pos9 t
  have hX := Ext.drew w
  have hbd := h.ext hX
  have kd := k.ext hX
  have i1 : ((t + 2 : Nat) : Int) - 1 = ((t + 1 : Nat) : Int) := by omega
  have i2 : ((t + 2 : Nat) : Int) - 2 = ((t : Nat) : Int) := by omega
  have lu : ∀ {W : World} {i : Nat}, Ext w W → i < t + 3 → Loads P T_int ((⟨b, off, none⟩ : Addr).add (i * 1)) (.int .i64 (u.getD i 0)) W := fun hW hi => mid_get (h.ext hW) hA (by omega)
  have lv : ∃ av, q = some av ∧ ∀ {W : World} {i : Nat}, Ext w W → i < t + 2 → Loads P T_int (av.add (i * 1)) (.int .i64 (vs.getD i 0)) W := by
    obtain ⟨bq, oq, hqe, _⟩ := k.2.2.2 (by omega)
    refine ⟨⟨bq, oq, none⟩, hqe, fun {W i} hW hi => ?_⟩
    obtain ⟨ad, hqa, hl⟩ := ints_at (k.ext hW) (i := (i : Int)) (by omega) (by omega)
    rw [hqe] at hqa
    obtain rfl := Option.some.inj hqa
    simpa only [Int.toNat_natCast] using hl
  obtain ⟨av, rfl, lv⟩ := lv
  have T1 : u.getD (t + 2) 0 * 1000000000 + u.getD (t + 1) 0 < 1000000000000000000 := by omega
  have T0 : 0 ≤ u.getD (t + 2) 0 * 1000000000 + u.getD (t + 1) 0 := by omega
  generalize htp : u.getD (t + 2) 0 * 1000000000 + u.getD (t + 1) 0 = top at eu T1 T0
  have Q0 : 0 ≤ top / vs.getD (t + 1) 0 := Int.ediv_nonneg T0 (by omega)
  have Q1 : top / vs.getD (t + 1) 0 ≤ top := Int.ediv_le_self _ T0
  have Qm := Int.mul_ediv_add_emod top (vs.getD (t + 1) 0)
  have Qr := Int.emod_lt_of_pos top (show 0 < vs.getD (t + 1) 0 by omega)
  have Qr0 := Int.emod_nonneg top (show vs.getD (t + 1) 0 ≠ 0 by omega)
  refine ⟨⟨by omega, by omega⟩, _, fun W hW => lu (hX.trans hW) (by omega), exW ⟨by omega, by omega⟩ (exW ⟨by omega, by omega⟩ ?_)⟩
  rw [i1]
  refine ⟨⟨by omega, by omega⟩, _, fun W hW => by simpa only [Int.toNat_natCast] using lu (i := t + 1) (hX.trans hW) (by omega), ?_⟩
  rw [htp]
  refine exW ⟨by omega, by omega⟩ (exW ⟨by omega, by omega⟩ ⟨⟨by omega, by omega⟩, _, by simpa only [Int.toNat_natCast] using lv (i := t + 1) hX (by omega), by omega, ?_⟩)
  rw [Int.tdiv_eq_ediv_of_nonneg T0]
  refine exW ⟨by omega, by omega⟩ ⟨_, rfl, ?_⟩
  refine ⟨fun z wr => Ext w wr ∧ 0 ≤ z ∧ z < 1000000000 ∧ z * vs.getD (t + 1) 0 ≤ top ∧ val u < (z + 1) * val vs, fun z _ => z.toNat, ⟨hX, ?_, ?_, ?_, ?_⟩, ?_⟩
  · split <;> omega
  · split <;> omega
  · have : ∀ z, z ≤ top / vs.getD (t + 1) 0 → z * vs.getD (t + 1) 0 ≤ top := fun z hz => by
      have := Int.mul_le_mul_of_nonneg_right hz (show 0 ≤ vs.getD (t + 1) 0 by omega)
      rw [Int.mul_comm (top / _)] at this
      omega
    apply this; split <;> omega
  · split
    · show val u < (999999999 + 1) * val vs
      omega
    · refine guess0 hM bu.2 bv.1 eu ev rfl U0.2 V0.1 Q0 ?_
      rw [Int.add_mul, Int.mul_comm (top / _)]
      omega
  intro junk wr z ⟨hx, hz0, hz1, hzt, hzD⟩
  have fin : ∀ W, Ext w W → z * val vs ≤ val u + val vs → Ret P n_impl_subTimes [.slice (some ⟨b, off, none⟩) (t + 2 + 1) c, .slice (some av) (t + 2) d, .int .i64 z] W fun v w7 => ∃ bb, v = .bool bb ∧ (bb = true → ∃ t76, t76 = IntKind.wrap .i64 (z - 1) ∧ Ret P n_impl_addBack [.slice (some ⟨b, off, none⟩) (t + 2 + 1) c, .slice (some av) (t + 2) d] w7 fun v2 w8 => v2 = .tuple #[] ∧ ∃ (x : Int) (u' : List Int), Value.int .i64 t76 = .int .i64 x ∧ 0 ≤ x ∧ x < 1000000000 ∧ u'.length = t + 2 + 1 ∧ Blk w8 b T_int (xs ++ u'.map (Value.int .i64) ++ zs) ∧ Chg [b] w w8 ∧ Limbs u' ∧ val u' = val u - x * val vs ∧ 0 ≤ val u' ∧ val u' < val vs) ∧
      (bb = false → ∃ (x : Int) (u' : List Int), Value.int .i64 z = .int .i64 x ∧ 0 ≤ x ∧ x < 1000000000 ∧ u'.length = t + 2 + 1 ∧ Blk w7 b T_int (xs ++ u'.map (Value.int .i64) ++ zs) ∧ Chg [b] w w7 ∧ Limbs u' ∧ val u' = val u - x * val vs ∧ 0 ≤ val u' ∧ val u' < val vs) := by
    intro W hW hle
    refine (impl_subTimes_c (h.ext hW) hA hu (k.ext hW) hq hlu hlv ⟨hz0, hz1⟩ hm).mono ?_
    rintro v w7 ⟨u1, hv, hl1, hb1, ch1, sz1, hL1, hval1⟩
    have hvV := val_lt hlv
    rw [hvl] at hvV
    have hlen : (u1.take (t + 2)).length = t + 2 := by rw [List.length_take]; omega
    have lim : ∀ u2 : List Int, u2.length = t + 2 + 1 → Limbs (u2.take (t + 2)) → 0 ≤ val u2 → val u2 < val vs → Limbs u2 := fun u2 h1 h2 h3 h4 => by
      have a1 := val_nonneg h2; have a2 := val_lt h2
      have hl : (u2.take (t + 2)).length = t + 2 := by rw [List.length_take]; omega
      rw [hl] at a2
      have a3 := val_top h1
      have hp := pow_pos9 (t + 2)
      have b1 : ¬ u2.getD (t + 2) 0 < 0 := fun hn => by
        have := Int.mul_le_mul_of_nonneg_left (show u2.getD (t + 2) 0 ≤ -1 by omega) (Int.le_of_lt hp); omega
      have b2 : ¬ 0 < u2.getD (t + 2) 0 := fun hn => by
        have := Int.mul_le_mul_of_nonneg_left (show 1 ≤ u2.getD (t + 2) 0 by omega) (Int.le_of_lt hp); omega
      have e : u2 = u2.take (t + 2) ++ [u2.getD (t + 2) 0] := by
        conv => lhs; rw [← List.take_of_length_le (show u2.length ≤ t + 2 + 1 by omega), List.take_add_one]
        rw [List.getElem?_eq_getElem (by omega), List.getD_eq_getElem?_getD, List.getElem?_eq_getElem (by omega)]; rfl
      rw [e]
      exact h2.snoc (by omega)
    rw [Int.add_mul] at hzD
    refine ⟨_, hv, fun hneg => exW ⟨by omega, by omega⟩ ?_, fun hpos => ?_⟩
    · have hneg := of_decide_eq_true hneg
      have hz1' : 1 ≤ z := by
        rcases Int.lt_or_le z 1 with h | h
        · have : z = 0 := by omega
          subst this
          have := val_nonneg hlu
          omega
        · exact h
      have a1 := val_nonneg hL1; have a2 := val_lt hL1
      rw [hlen] at a2
      have a3 := val_top hl1
      have hp := pow_pos9 (t + 2)
      have g : -1000000000 ≤ u1.getD (t + 2) 0 ∧ u1.getD (t + 2) 0 ≤ 1000000000 := by
        constructor
        · rcases Int.lt_or_le (u1.getD (t + 2) 0) (-1000000000) with hn | hn
          · have := Int.mul_le_mul_of_nonneg_left (show u1.getD (t + 2) 0 ≤ -2 by omega) (Int.le_of_lt hp); omega
          · exact hn
        · rcases Int.lt_or_le 1000000000 (u1.getD (t + 2) 0) with hn | hn
          · have := Int.mul_le_mul_of_nonneg_left (show 0 ≤ u1.getD (t + 2) 0 by omega) (Int.le_of_lt hp); omega
          · exact hn
      refine (impl_addBack_c hb1 hA hl1 ((k.ext hW).chg ch1 (fun y hy hm => hq y hy (by simpa using hm))) hq hL1 hlv g hm).mono ?_
      rintro v w8 ⟨u2, hv2, hl2, hb2, ch2, sz2, hL2, hval2⟩
      have ev2 : val u2 = val u - (z - 1) * val vs := by rw [Int.sub_mul]; omega
      exact ⟨hv2, z - 1, u2, rfl, by omega, by omega, hl2, hb2, hW.toChg.trans (ch1.trans ch2), lim u2 hl2 hL2 (by omega) (by omega), ev2, by omega, by omega⟩
    · have hpos := of_decide_eq_false hpos
      exact ⟨z, u1, rfl, hz0, hz1, hl1, hb1, hW.toChg.trans ch1, lim u1 hl1 hL1 (by omega) (by omega), hval1, by omega, by omega⟩
  have hxd := hx.trans (Ext.drew wr)
  refine ifD (fun hpos => ?_) (fun hzero => ifF (ifF ?_))
  · have M0 := mul_limb V0 ⟨hz0, hz1⟩
    rw [Int.mul_comm] at M0
    have ZV : 0 ≤ z * vs.getD (t + 1) 0 := Int.mul_nonneg hz0 (by omega)
    refine exW ⟨by omega, by omega⟩ ?_
    rw [i2]
    refine ⟨⟨by omega, by omega⟩, _, fun W hW => by simpa only [Int.toNat_natCast] using lv (i := t + 1) (hxd.trans hW) (by omega), exW ⟨by omega, by omega⟩ (exW ⟨by omega, by omega⟩ (ifD (fun hr => ?_) (fun hr => ifF ?_)))⟩
    · refine exW ⟨by omega, by omega⟩ ⟨⟨by omega, by omega⟩, _, fun W hW => by simpa only [Int.toNat_natCast] using lv (i := t) (hxd.trans hW) (by omega), exW ⟨by omega, by omega⟩ (exW ⟨by omega, by omega⟩ ⟨⟨by omega, by omega⟩, _, fun W hW => by simpa only [Int.toNat_natCast] using lv (i := t + 1) (hxd.trans hW) (by omega), exW ⟨by omega, by omega⟩ (exW ⟨by omega, by omega⟩ (exW ⟨by omega, by omega⟩ (exW ⟨by omega, by omega⟩ ⟨⟨by omega, by omega⟩, _, fun W hW => by simpa only [Int.toNat_natCast] using lu (i := t) (hxd.trans hW) (by omega), exW ⟨by omega, by omega⟩ (ifD (fun hmore => ?_) (fun hdone => ?_))⟩)))⟩)⟩
      · refine exW ⟨by omega, by omega⟩ ⟨⟨hxd, by omega, by omega, ?_, ?_⟩, ?_⟩
        · rw [Int.sub_mul]; omega
        · have := guess1 (q := z) (T := top * 1000000000 + u.getD t 0) (v12 := 1000000000 * vs.getD (t + 1) 0 + vs.getD t 0) hM bu.2 bv.1 eu ev hz0 (by rw [Int.mul_add, Int.mul_left_comm]; omega)
          rwa [Int.sub_add_cancel]
        · show (z - 1).toNat < z.toNat
          omega
      · refine Ret.at (fin _ hxd (guess2 hM bu.1 bv eu ev (by omega) V0.1 ⟨hz0, hz1⟩ (by rw [Int.mul_add, Int.mul_left_comm]; omega))) ?_
        rintro v w7 ⟨bb, hv, h1, h2⟩
        refine ⟨bb, by rw [hv], fun hb => ?_, h2⟩
        obtain ⟨t76, ht, hr⟩ := h1 hb
        refine ⟨t76, ht, Ret.at hr ?_⟩
        rintro v2 w8 ⟨hv2, hf⟩
        exact ⟨by rw [hv2], hf⟩
    · refine Ret.at (fin _ hxd (guess2 hM bu.1 bv eu ev (by omega) V0.1 ⟨hz0, hz1⟩ (by rw [Int.mul_add, Int.mul_left_comm]; omega))) ?_
      rintro v w7 ⟨bb, hv, h1, h2⟩
      refine ⟨bb, by rw [hv], fun hb => ?_, h2⟩
      obtain ⟨t76, ht, hr⟩ := h1 hb
      refine ⟨t76, ht, Ret.at hr ?_⟩
      rintro v2 w8 ⟨hv2, hf⟩
      exact ⟨by rw [hv2], hf⟩
  · have hz : z = 0 := by omega
    subst hz
    refine Ret.at (fin _ hxd (by have := val_nonneg hlu; have := val_nonneg hlv; omega)) ?_
    rintro v w7 ⟨bb, hv, h1, h2⟩
    refine ⟨bb, by rw [hv], fun hb => ?_, h2⟩
    obtain ⟨t76, ht, hr⟩ := h1 hb
    refine ⟨t76, ht, Ret.at hr ?_⟩
    rintro v2 w8 ⟨hv2, hf⟩
    exact ⟨by rw [hv2], hf⟩
end Go.Proofs.YtfehpaekbbmkcaaGreatDoor

namespace Go.Proofs.YtfehpaekbbmkcaaGreatDoor
open Go Go.Proofs.YtfehpaekbbmkcaaGreatDoor.Sx
set_option linter.unusedVariables false
set_option linter.unusedSimpArgs false
def mkS (neg : Bool) (m : List Int) : List D0 := [.bool (neg && !m.isEmpty), .ints m]
/-- an integer as its parts -/
def enc (z : Int) : List D0 := [.bool (decide (z < 0)), .ints (digs z.natAbs)]
def ival : List D0 → Int
  | [.bool b, .ints z] => if b then - val z else val z
  | _ => 0
/-- .. with at most fifty limbs, else 0 -/
def icap (z : Int) : List D0 := mkS (decide (z < 0)) (capL (digs z.natAbs))
theorem isEmpty_digs {n : Nat} : (digs n).isEmpty = decide (n = 0) := by
  cases h : (digs n) with
  | nil => simp [digs_nil.1 h]
  | cons a r =>
    have : n ≠ 0 := fun e => by rw [digs_nil.2 e] at h; cases h
    simp [this]
theorem mkS_pos (n : Nat) : mkS false (digs n) = enc n := by
  simp [mkS, enc] <;> omega
theorem mkS_neg (n : Nat) : mkS true (digs n) = enc (-n) := by
  simp only [mkS, enc, isEmpty_digs, Bool.true_and, Int.natAbs_neg, Int.natAbs_natCast]
  by_cases h : n = 0
  · subst h; simp
  · simp [h]; omega
theorem enc_code (z : Int) : (enc z).map D0.code = [.bool, .ints] := rfl
theorem ival_enc (z : Int) : ival (enc z) = z := by
  simp only [ival, enc, val_digs]
  by_cases h : z < 0
  · simp [h]; omega
  · simp [h]; omega
/-- a valid integer is made of its value -/
theorem intOk_enc {d : List D0} (h : intOk d = true) : d = enc (ival d) ∧ ∃ b z, d = [.bool b, .ints z] ∧ Canon z ∧ z.length ≤ 50 := by
  match d, h with
  | [.bool b, .ints z], h =>
    simp only [intOk, Bool.and_eq_true, natOk_spec, Bool.or_eq_true, Bool.not_eq_true'] at h
    obtain ⟨⟨hc, hl⟩, hb⟩ := h
    refine ⟨?_, b, z, rfl, hc, hl⟩
    have hv := val_nonneg hc.1
    have hd := digs_val hc
    cases b with
    | false =>
      simp only [ival, enc, Bool.false_eq_true, if_false]
      rw [show (val z).natAbs = (val z).toNat by omega, hd]
      have : ¬ val z < 0 := by omega
      simp [this]
    | true =>
      have hne : z ≠ [] := by
        rcases hb with hb | hb
        · cases hb
        · cases z with
          | nil => simp at hb
          | cons a r => simp
      have hp := canon_pos hc hne
      simp only [ival, enc, if_true]
      rw [show (-val z).natAbs = (val z).toNat by omega, hd]
      have : -val z < 0 := by omega
      simp [hp]
theorem Sx.Owns.int2 {w : World} {B : Nat} {b : Bool} {p : Option Addr} {n c : Nat} {z : List Int} (h : Own w B T_int 1 p n c (z.map (Value.int .i64))) : Owns w B [.bool b, .slice p n c] [.bool b, .ints z] (p.map (·.block)).toList :=
  (Owns.bool w B b).append (Owns.ints h)
theorem nodup_opt (p : Option Addr) : ((p.map (·.block)).toList : List Nat).Nodup := by cases p <;> simp
theorem len_bool {z : List Int} {n : Nat} (h : z.length = n) : decide ((0 : Int) < (n : Nat)) = !z.isEmpty := intOk_len (b := true) h
theorem impl_signed_c {w : World} {neg : Bool} {p : Option Addr} {n c : Nat} {z : List Int} (hl : z.length = n) : Ret P n_impl_signed [.bool neg, .slice p n c] w fun v w' => v = .agg ⟨[.bool (neg && !z.isEmpty), .slice p n c]⟩ ∧ Ext w w' := by
  refine impl_signed_ret ?_
  unfold impl_signed
  intro r w1 hn
  refine ⟨fun e => ?_, fun e => ?_⟩
  · obtain ⟨w2, st, hb, y⟩ := hn.fill (P := P) (t := T_impl_Signed) (xs := [.bool (decide ((0 : Int) < (n : Nat))), .slice p n c]) (by simp [Value.oneCell']) (by kernel_rfl) rfl
    exact ⟨w2, st, _, _, _, _, hb.loadA0 (by kernel_rfl), by rw [len_bool hl, e]; rfl, y⟩
  · obtain ⟨w2, st, hb, y⟩ := hn.fill (P := P) (t := T_impl_Signed) (xs := [.bool false, .slice p n c]) (by simp [Value.oneCell']) (by kernel_rfl) rfl
    exact ⟨w2, st, _, _, _, _, hb.loadA0 (by kernel_rfl), by rw [e]; rfl, y⟩
theorem impl_intAdd_c {w : World} {xs ys : List Value} {x y : Int} (h : Reps w xs (enc x)) (k : Reps w ys (enc y)) (hx : (digs x.natAbs).length ≤ 10000000) (hy : (digs y.natAbs).length ≤ 10000000) :
    Ret P n_impl_intAdd [.agg ⟨xs⟩, .agg ⟨ys⟩] w fun v w' => ∃ p n c, v = .agg ⟨[.bool (decide (x + y < 0)), .slice p n c]⟩ ∧ Own w' w.heap.size T_int 1 p n c ((digs (x + y).natAbs).map (Value.int .i64)) ∧ Ext w w' := by
  obtain ⟨a0, a1p, a1n, a1c, a1z, rfl, hd, ha⟩ := open_Signed h rfl
  obtain ⟨b0, b1p, b1n, b1c, b1z, rfl, he, hb⟩ := open_Signed k rfl
  simp only [enc, List.cons.injEq, D0.bool.injEq, D0.ints.injEq, and_true] at hd he
  obtain ⟨rfl, rfl⟩ := hd
  obtain ⟨rfl, rfl⟩ := he
  have la := ha.1; have lb := hb.1
  have ca := digs_canon x.natAbs; have cb := digs_canon y.natAbs
  have va := val_digs x.natAbs; have vb := val_digs y.natAbs
  refine impl_intAdd_ret ?_
  unfold impl_intAdd
  intro r w1 hn1 r1 w2 hn2 r2 w3 hn3
  have X := (hn1.ext.trans hn2.ext).trans hn3.ext
  have e1 := hn1.r_eq; have e2 := hn2.r_eq; have e3 := hn3.r_eq; have s1 := hn1.size; have s2 := hn2.size; have s3 := hn3.size
  have k0 := (hn1.blk.ext hn2.ext).ext hn3.ext; have k1 := hn2.blk.ext hn3.ext; have k2 := hn3.blk
  -- the end of every way: the sign, and what was added or subtracted
  have fin : ∀ (W : World) (neg : Bool) (p : Option Addr) (n c : Nat) (m : Nat), Own W w.heap.size T_int 1 p n c ((digs m).map (Value.int .i64)) → Ext w W → Blk W r2 T_impl_Signed [.bool false, .slice none 0 0] → (∀ q, p.map (·.block) = some q → q ≠ r2) → m = (x + y).natAbs → (m ≠ 0 → neg = decide (x + y < 0)) →
      Calls P n_impl_signed ⟨[.bool neg, .slice p n c]⟩ W fun e_1 wv_7 => ∃ (t170 : Bool) (t171_p : Option Addr) (t171_n : Nat) (t171_c : Nat), e_1 = .returned (.agg #[(.bool t170), (.slice t171_p t171_n t171_c)]) ∧
        ∃ wv_8, Stores P T_impl_Signed ⟨r2, 0, none⟩ (.agg #[(.bool t170), (.slice t171_p t171_n t171_c)]) wv_7 wv_8 ∧
        ∃ (r0 : Bool) (r1_p : Option Addr) (r1_n : Nat) (r1_c : Nat), Loads P T_impl_Signed ⟨r2, 0, none⟩ (.agg #[(.bool r0), (.slice r1_p r1_n r1_c)]) wv_8 ∧ (fun (v : Value) (w' : World) => ∃ p n c, v = .agg ⟨[.bool (decide (x + y < 0)), .slice p n c]⟩ ∧ Own w' w.heap.size T_int 1 p n c ((digs (x + y).natAbs).map (Value.int .i64)) ∧ Ext w w') (.agg #[(.bool r0), (.slice r1_p r1_n r1_c)]) wv_8 := by
    intro W neg p n c m hown hX hk2 hq hm hs
    refine Ret.at (impl_signed_c hown.ints.1) ?_
    rintro v W2 ⟨hv, y2⟩
    subst hv
    obtain ⟨W3, st, hb3, ch, sz⟩ := (hk2.ext y2).storeA0 (P := P) (t := T_impl_Signed) (xs := [.bool (neg && !(digs m).isEmpty), .slice p n c]) (by kernel_rfl) rfl (by simp [Value.oneCell'])
    refine ⟨_, _, _, _, rfl, W3, st, _, _, _, _, hb3.loadA0 (by kernel_rfl), p, n, c, ?_, ?_, (hX.trans y2).chg ch (by simp; omega)⟩
    · rw [isEmpty_digs]
      by_cases h0 : m = 0
      · have : ¬ (x + y < 0) := by omega
        simp [h0, this]
      · simp [h0, hs h0]
    · rw [← hm]
      exact (hown.ext y2).chg ch (fun q hq' => by simp only [List.mem_singleton]; exact hq q hq')
  have ne2 : ∀ {W : World} {B : Nat} {p : Option Addr} {n c : Nat} {zs : List Value}, Own W B T_int 1 p n c zs → r2 < B → ∀ q, p.map (·.block) = some q → q ≠ r2 := fun ho hB q hq => by
    have := (World.ownsRow.lt ho q (by rw [← hq]; rename_i p n c _; cases p <;> rfl)).1
    omega
  refine ⟨_, k0.load (by kernel_rfl) rfl, _, k1.load (by kernel_rfl) rfl, fun es => ?_, fun es => ?_⟩
  · have es' : decide (x < 0) = decide (y < 0) := by simpa using es
    have D := Ext.drew w3
    refine ⟨_, fun W hW => (k0.ext (D.trans hW)).load (by kernel_rfl) rfl, _, _, _, fun W hW => (k0.ext (D.trans hW)).load (by kernel_rfl) rfl, _, _, _, fun W hW => (k1.ext (D.trans hW)).load (by kernel_rfl) rfl, ?_⟩
    refine Ret.at (impl_natAdd_c (ha.ext (X.trans D)) (hb.ext (X.trans D)) ca.1 cb.1 (by omega) (by omega)) ?_
    rintro v w4 ⟨p, n, c, hv, hown, y4⟩
    subst hv
    rw [va, vb] at hown
    refine ⟨_, _, _, rfl, y4, fin w4 _ p n c _ (hown.mono ?_) ((X.trans D).trans y4) ((k2.ext D).ext y4) (ne2 hown ?_) ?_ ?_⟩
    · have := (X.trans D).le; omega
    · have := D.le; omega
    · by_cases hx0 : x < 0 <;> by_cases hy0 : y < 0 <;> simp [hx0, hy0] at es' <;> omega
    · intro h0
      by_cases hx0 : x < 0 <;> by_cases hy0 : y < 0 <;> simp [hx0, hy0] at es' ⊢ <;> omega
  · have es' : ¬ (decide (x < 0) = decide (y < 0)) := by simpa using es
    refine ⟨_, _, _, k0.load (by kernel_rfl) rfl, _, _, _, k1.load (by kernel_rfl) rfl, ?_⟩
    refine Ret.at (impl_natCmp_c (ha.ext X) (hb.ext X)) ?_
    rintro v w4 ⟨hv, y4⟩
    subst hv
    have cv := cmpL_val ca cb
    rw [va, vb] at cv
    have X4 := X.trans y4
    have k0 := k0.ext y4; have k1 := k1.ext y4; have k2 := k2.ext y4
    have s4 := y4.le
    refine ⟨_, rfl, ifD (fun hlt => ?_) (fun hge => ?_)⟩
    · have hlt' : x.natAbs < y.natAbs := by
        rcases cv with h | h | h <;> omega
      refine ⟨_, _, _, _, k1.loadA0 (by kernel_rfl), _, _, _, _, k0.loadA0 (by kernel_rfl), ?_⟩
      obtain ⟨w5, st5, k0', ch5, sz5⟩ := k0.storeA0 (P := P) (t := T_impl_Signed) (xs := [.bool (decide (y < 0)), .slice b1p b1n b1c]) (by kernel_rfl) rfl (by simp [Value.oneCell'])
      have k1 := k1.chg ch5 (by simp; omega); have k2 := k2.chg ch5 (by simp; omega); have X5 := X4.chg ch5 (by simp; omega)
      obtain ⟨w6, st6, k1', ch6, sz6⟩ := k1.storeA0 (P := P) (t := T_impl_Signed) (xs := [.bool (decide (x < 0)), .slice a1p a1n a1c]) (by kernel_rfl) rfl (by simp [Value.oneCell'])
      have k0' := k0'.chg ch6 (by simp; omega); have k2 := k2.chg ch6 (by simp; omega); have X6 := X5.chg ch6 (by simp; omega)
      refine ⟨w5, st5, w6, st6, ?_⟩
      unfold impl_intAdd_j0
      have D := Ext.drew w6
      refine ⟨_, fun W hW => (k0'.ext (D.trans hW)).load (by kernel_rfl) rfl, _, _, _, fun W hW => (k0'.ext (D.trans hW)).load (by kernel_rfl) rfl, _, _, _, fun W hW => (k1'.ext (D.trans hW)).load (by kernel_rfl) rfl, ?_⟩
      have hll : a1n ≤ b1n := by
        rcases Nat.lt_or_ge b1n a1n with h | h
        · have := canon_len cb ca (by omega); omega
        · exact h
      refine Ret.at (impl_natSub_c (hb.ext (X6.trans D)) (ha.ext (X6.trans D)) cb.1 ca.1 (by omega) hll (by omega)) ?_
      rintro v w7 ⟨p, n, c, hv, hown, y7⟩
      subst hv
      rw [va, vb] at hown
      refine ⟨_, _, _, rfl, y7, fin w7 _ p n c _ (hown.mono ?_) ((X6.trans D).trans y7) ((k2.ext D).ext y7) (ne2 hown ?_) ?_ ?_⟩
      · have := (X6.trans D).le; omega
      · have := D.le; omega
      · by_cases hx0 : x < 0 <;> by_cases hy0 : y < 0 <;> simp [hx0, hy0] at es' <;> omega
      · intro h0
        by_cases hx0 : x < 0 <;> by_cases hy0 : y < 0 <;> simp [hx0, hy0] at es' ⊢ <;> omega
    · have hge' : y.natAbs ≤ x.natAbs := by
        rcases cv with h | h | h <;> omega
      unfold impl_intAdd_j0
      have D := Ext.drew w4
      refine ⟨_, fun W hW => (k0.ext (D.trans hW)).load (by kernel_rfl) rfl, _, _, _, fun W hW => (k0.ext (D.trans hW)).load (by kernel_rfl) rfl, _, _, _, fun W hW => (k1.ext (D.trans hW)).load (by kernel_rfl) rfl, ?_⟩
      have hll : b1n ≤ a1n := by
        rcases Nat.lt_or_ge a1n b1n with h | h
        · have := canon_len ca cb (by omega); omega
        · exact h
      refine Ret.at (impl_natSub_c (ha.ext (X4.trans D)) (hb.ext (X4.trans D)) ca.1 cb.1 (by omega) hll (by omega)) ?_
      rintro v w7 ⟨p, n, c, hv, hown, y7⟩
      subst hv
      rw [va, vb] at hown
      refine ⟨_, _, _, rfl, y7, fin w7 _ p n c _ (hown.mono ?_) ((X4.trans D).trans y7) ((k2.ext D).ext y7) (ne2 hown ?_) ?_ ?_⟩
      · have := (X4.trans D).le; omega
      · have := D.le; omega
      · by_cases hx0 : x < 0 <;> by_cases hy0 : y < 0 <;> simp [hx0, hy0] at es' <;> omega
      · intro h0
        by_cases hx0 : x < 0 <;> by_cases hy0 : y < 0 <;> simp [hx0, hy0] at es' ⊢ <;> omega
end Go.Proofs.YtfehpaekbbmkcaaGreatDoor

namespace Go.Proofs.YtfehpaekbbmkcaaGreatDoor
open Go Go.Proofs.YtfehpaekbbmkcaaGreatDoor.Sx
set_option linter.unusedVariables false
set_option linter.unusedSimpArgs false
theorem capL_canon {n : Nat} : Canon (capL (digs n)) ∧ (capL (digs n)).length ≤ 50 := by
  unfold capL
  split
  · exact ⟨digs_canon n, by assumption⟩
  · exact ⟨⟨Limbs.nil, by simp⟩, by simp⟩
theorem icap_ok (z : Int) : intOk (icap z) = true := by
  have h := capL_canon (n := z.natAbs)
  simp only [icap, mkS, intOk, natOk_spec.2 h, Bool.true_and]
  cases decide (z < 0) <;> cases (capL (digs z.natAbs)) <;> simp
theorem mkS_digs {neg : Bool} {m : Nat} {z : Int} (hm : m = z.natAbs) (hs : m ≠ 0 → neg = decide (z < 0)) : mkS neg (capL (digs m)) = icap z := by
  subst hm
  by_cases h0 : z.natAbs = 0
  · have hz : z = 0 := by omega
    subst hz
    simp [icap, mkS, digs_zero, capL]
  · rw [hs h0]; rfl
end Go.Proofs.YtfehpaekbbmkcaaGreatDoor

namespace Go.Proofs.YtfehpaekbbmkcaaGreatDoor
open Go Go.Proofs.YtfehpaekbbmkcaaGreatDoor.Sx
set_option linter.unusedVariables false
set_option linter.unusedSimpArgs false
theorem digs_len : ∀ (k : Nat) {n : Nat}, n < 1000000000 ^ k → (digs n).length ≤ k
  | 0, n, h => by
    have : n = 0 := by simpa using h
    subst this; simp [digs_zero]
  | k + 1, n, h => by
    by_cases h0 : n = 0
    · subst h0; simp [digs_zero]
    · rw [digs_pos h0, List.length_cons]
      have := digs_len k (n := n / 1000000000) (Nat.div_lt_of_lt_mul (by rw [Nat.mul_comm, ← Nat.pow_succ]; exact h))
      omega
theorem icap_fit {z : Int} (h : (digs z.natAbs).length ≤ 50) : icap z = enc z := by
  unfold icap capL
  rw [if_pos h]
  simp only [mkS, enc, isEmpty_digs]
  by_cases h0 : z < 0
  · have : z.natAbs ≠ 0 := by omega
    simp [h0]; omega
  · simp [h0]
theorem spec_l04Make_c {w : World} {neg : Bool} {p : Option Addr} {n c : Nat} {z : List Int} (h : IntsR w p n c z) (hl : Limbs z) :
    Ret P n_spec_l04Make [.bool neg, .slice p n c] w fun v w' => ∃ b p n c, v = .agg ⟨[.bool b, .slice p n c]⟩ ∧ b = (neg && !(capL (digs (val z).toNat)).isEmpty) ∧ Own w' w.heap.size T_int 1 p n c ((capL (digs (val z).toNat)).map (Value.int .i64)) ∧ Ext w w' := by
  refine spec_l04Make_ret ?_
  unfold spec_l04Make
  intro r w1 hn1
  refine Ret.at (spec_l02Cap_c (h.ext hn1.ext)) ?_
  rintro v w2 ⟨p', n', c', hv, hw, hr⟩
  subst hv; subst hw
  rw [trimL_eq hl] at hr
  have hn' := hr.1
  have h50 : n' ≤ 50 := by
    have := (capL_canon (n := (val z).toNat)).2
    omega
  have e1 := hn1.r_eq
  refine ⟨_, _, _, rfl, fun e => ?_, fun e => ?_⟩
  all_goals
    intro r1 w3 hn3
    obtain ⟨p2, c2, w4, g1, g2, g3⟩ := Own.appendI (Own.fresh hn3) hn3.ext.le (hr.ext hn3.ext) (by omega)
    rw [Nat.zero_add] at g1 g2
    rw [List.nil_append] at g2
    have y4 : Ext w2 w4 := g3 w2 hn3.ext (Nat.le_refl _)
    refine ⟨_, _, _, _, g1, ?_⟩
  · obtain ⟨w5, st, hb5, ch, sz⟩ := (hn1.blk.ext y4).storeA0 (P := P) (t := T_impl_Signed) (xs := [.bool (decide ((0 : Int) < (n' : Nat))), .slice p2 n' c2]) (by kernel_rfl) rfl (by simp [Value.oneCell'])
    refine ⟨w5, st, _, _, _, _, hb5.loadA0 (by kernel_rfl), _, _, _, _, rfl, by rw [len_bool hn', e]; rfl, (g2.chg ch (fun q hq => ?_)).mono hn1.ext.le, (hn1.ext.trans y4).chg ch (by simp; omega)⟩
    have := (World.ownsRow.lt g2 q (by rw [← hq]; cases p2 <;> rfl)).1
    have := hn1.size
    simp; omega
  · obtain ⟨w5, st, hb5, ch, sz⟩ := (hn1.blk.ext y4).storeA0 (P := P) (t := T_impl_Signed) (xs := [.bool false, .slice p2 n' c2]) (by kernel_rfl) rfl (by simp [Value.oneCell'])
    refine ⟨w5, st, _, _, _, _, hb5.loadA0 (by kernel_rfl), _, _, _, _, rfl, by rw [e]; rfl, (g2.chg ch (fun q hq => ?_)).mono hn1.ext.le, (hn1.ext.trans y4).chg ch (by simp; omega)⟩
    have := (World.ownsRow.lt g2 q (by rw [← hq]; cases p2 <;> rfl)).1
    have := hn1.size
    simp; omega
theorem spec_l04Add_c {w : World} {xs ys : List Value} {x y : Int} (h : Reps w xs (enc x)) (k : Reps w ys (enc y)) (hx : (digs x.natAbs).length ≤ 1000000) (hy : (digs y.natAbs).length ≤ 1000000) :
    Ret P n_spec_l04Add [.agg ⟨xs⟩, .agg ⟨ys⟩] w fun v w' => ∃ vs' f, v = .agg ⟨vs'⟩ ∧ Owns w' w.heap.size vs' (icap (x + y)) f ∧ f.Nodup ∧ Ext w w' := by
  obtain ⟨a0, a1p, a1n, a1c, a1z, rfl, hd, ha⟩ := open_Signed h rfl
  obtain ⟨b0, b1p, b1n, b1c, b1z, rfl, he, hb⟩ := open_Signed k rfl
  simp only [enc, List.cons.injEq, D0.bool.injEq, D0.ints.injEq, and_true] at hd he
  obtain ⟨rfl, rfl⟩ := hd
  obtain ⟨rfl, rfl⟩ := he
  have la := ha.1; have lb := hb.1
  have ca := digs_canon x.natAbs; have cb := digs_canon y.natAbs
  have va := val_digs x.natAbs; have vb := val_digs y.natAbs
  refine spec_l04Add_ret ?_
  unfold spec_l04Add
  intro r w1 hn1 r1 w2 hn2 r2 w3 hn3
  have X := (hn1.ext.trans hn2.ext).trans hn3.ext
  have e1 := hn1.r_eq; have e2 := hn2.r_eq; have e3 := hn3.r_eq; have s1 := hn1.size; have s2 := hn2.size; have s3 := hn3.size
  have k0 := (hn1.blk.ext hn2.ext).ext hn3.ext; have k1 := hn2.blk.ext hn3.ext; have k2 := hn3.blk
  have fin : ∀ (W : World) (neg : Bool) (p : Option Addr) (n c : Nat) (z : List Int), IntsR W p n c z → Limbs z → Ext w3 W → (val z).toNat = (x + y).natAbs → ((val z).toNat ≠ 0 → neg = decide (x + y < 0)) →
      Calls P n_spec_l04Make ⟨[.bool neg, .slice p n c]⟩ W fun e_1 wv_7 => ∃ (t170 : Bool) (t171_p : Option Addr) (t171_n : Nat) (t171_c : Nat), e_1 = .returned (.agg #[(.bool t170), (.slice t171_p t171_n t171_c)]) ∧
        ∃ wv_8, Stores P T_impl_Signed ⟨r2, 0, none⟩ (.agg #[(.bool t170), (.slice t171_p t171_n t171_c)]) wv_7 wv_8 ∧
        ∃ (r0 : Bool) (r1_p : Option Addr) (r1_n : Nat) (r1_c : Nat), Loads P T_impl_Signed ⟨r2, 0, none⟩ (.agg #[(.bool r0), (.slice r1_p r1_n r1_c)]) wv_8 ∧ (fun (v : Value) (w' : World) => ∃ vs' f, v = .agg ⟨vs'⟩ ∧ Owns w' w.heap.size vs' (icap (x + y)) f ∧ f.Nodup ∧ Ext w w') (.agg #[(.bool r0), (.slice r1_p r1_n r1_c)]) wv_8 := by
    intro W neg p n c z hz hlz hW hm hs
    refine Ret.at (spec_l04Make_c hz hlz) ?_
    rintro v W2 ⟨b, q, qn, qc, hv, hbb, ho, y2⟩
    subst hv
    have hW0 := hW.le
    obtain ⟨W3, st, hb3, ch, sz⟩ := ((k2.ext hW).ext y2).storeA0 (P := P) (t := T_impl_Signed) (xs := [.bool b, .slice q qn qc]) (by kernel_rfl) rfl (by simp [Value.oneCell'])
    have ow := Owns.int2 (b := b) ho
    rw [hbb] at ow
    have ow2 : Owns W2 W.heap.size [.bool b, .slice q qn qc] (icap (x + y)) (q.map (·.block)).toList := by
      rw [← mkS_digs hm hs, hbb]; exact ow
    refine ⟨_, _, _, _, rfl, W3, st, _, _, _, _, hb3.loadA0 (by kernel_rfl), _, _, rfl, (ow2.chg1 ch (by omega)).mono (by have := X.le; omega), nodup_opt q, ((X.trans hW).trans y2).chg ch (by simp; omega)⟩
  refine ⟨_, k0.load (by kernel_rfl) rfl, _, k1.load (by kernel_rfl) rfl, fun es => ?_, fun es => ?_⟩
  · have es' : decide (x < 0) = decide (y < 0) := by simpa using es
    have D := Ext.drew w3
    refine ⟨_, fun W hW => (k0.ext (D.trans hW)).load (by kernel_rfl) rfl, _, _, _, fun W hW => (k0.ext (D.trans hW)).load (by kernel_rfl) rfl, _, _, _, fun W hW => (k1.ext (D.trans hW)).load (by kernel_rfl) rfl, ?_⟩
    refine Ret.at (spec_l02Add_c (ha.ext (X.trans D)) (hb.ext (X.trans D)) ca.1 cb.1 (by omega) (by omega)) ?_
    rintro v w4 ⟨p, n, c, o, hv, hr, hlo, hln, hvo, y4⟩
    subst hv
    rw [va, vb] at hvo
    refine ⟨_, _, _, rfl, y4, fin w4 _ p n c o hr hlo (D.trans y4) ?_ ?_⟩
    · by_cases hx0 : x < 0 <;> by_cases hy0 : y < 0 <;> simp [hx0, hy0] at es' <;> omega
    · intro h0
      by_cases hx0 : x < 0 <;> by_cases hy0 : y < 0 <;> simp [hx0, hy0] at es' ⊢ <;> omega
  · have es' : ¬ (decide (x < 0) = decide (y < 0)) := by simpa using es
    refine ⟨_, _, _, k0.load (by kernel_rfl) rfl, _, _, _, k1.load (by kernel_rfl) rfl, ?_⟩
    refine Ret.at (spec_l02Cmp_c (ha.ext X) (hb.ext X)) ?_
    rintro v w4 ⟨hv, y4⟩
    subst hv
    have cv := cmpL_val ca cb
    rw [va, vb] at cv
    have X4 := X.trans y4
    have k0 := k0.ext y4; have k1 := k1.ext y4
    have D := Ext.drew w4
    refine ⟨_, rfl, ifD (fun hge => ?_) (fun hlt => ?_)⟩
    · have hge' : y.natAbs ≤ x.natAbs := by
        rcases cv with h | h | h <;> omega
      refine ⟨_, fun W hW => (k0.ext (D.trans hW)).load (by kernel_rfl) rfl, _, _, _, fun W hW => (k0.ext (D.trans hW)).load (by kernel_rfl) rfl, _, _, _, fun W hW => (k1.ext (D.trans hW)).load (by kernel_rfl) rfl, ?_⟩
      have hll : b1n ≤ a1n := by
        rcases Nat.lt_or_ge a1n b1n with h | h
        · have := canon_len ca cb (by omega); omega
        · exact h
      refine Ret.at (spec_l02Sub_c (ha.ext (X4.trans D)) (hb.ext (X4.trans D)) ca.1 cb.1 (by omega) hll (by omega)) ?_
      rintro v w7 ⟨p, n, c, hv, hr, y7⟩
      subst hv
      rw [va, vb] at hr
      have vd := val_digs ((x.natAbs : Int) - y.natAbs).toNat
      refine ⟨_, _, _, rfl, y7, fin w7 _ p n c _ hr (digs_limbs _) ((y4.trans D).trans y7) ?_ ?_⟩
      · by_cases hx0 : x < 0 <;> by_cases hy0 : y < 0 <;> simp [hx0, hy0] at es' <;> omega
      · intro h0
        by_cases hx0 : x < 0 <;> by_cases hy0 : y < 0 <;> simp [hx0, hy0] at es' ⊢ <;> omega
    · have hlt' : x.natAbs < y.natAbs := by
        rcases cv with h | h | h <;> omega
      refine ⟨_, fun W hW => (k1.ext (D.trans hW)).load (by kernel_rfl) rfl, _, _, _, fun W hW => (k1.ext (D.trans hW)).load (by kernel_rfl) rfl, _, _, _, fun W hW => (k0.ext (D.trans hW)).load (by kernel_rfl) rfl, ?_⟩
      have hll : a1n ≤ b1n := by
        rcases Nat.lt_or_ge b1n a1n with h | h
        · have := canon_len cb ca (by omega); omega
        · exact h
      refine Ret.at (spec_l02Sub_c (hb.ext (X4.trans D)) (ha.ext (X4.trans D)) cb.1 ca.1 (by omega) hll (by omega)) ?_
      rintro v w7 ⟨p, n, c, hv, hr, y7⟩
      subst hv
      rw [va, vb] at hr
      have vd := val_digs ((y.natAbs : Int) - x.natAbs).toNat
      refine ⟨_, _, _, rfl, y7, fin w7 _ p n c _ hr (digs_limbs _) ((y4.trans D).trans y7) ?_ ?_⟩
      · by_cases hx0 : x < 0 <;> by_cases hy0 : y < 0 <;> simp [hx0, hy0] at es' <;> omega
      · intro h0
        by_cases hx0 : x < 0 <;> by_cases hy0 : y < 0 <;> simp [hx0, hy0] at es' ⊢ <;> omega
end Go.Proofs.YtfehpaekbbmkcaaGreatDoor

namespace Go.Proofs.YtfehpaekbbmkcaaGreatDoor
open Go Go.Proofs.YtfehpaekbbmkcaaGreatDoor.Sx
set_option linter.unusedVariables false
set_option linter.unusedSimpArgs false
theorem digs_split {o : List Int} {N n : Nat} (h : digs N = o ++ digs n) (hn : 0 < n) : digs N = (o ++ [((n % 1000000000 : Nat) : Int)]) ++ digs (n / 1000000000) := by
  rw [h, digs_pos (by omega)]; simp
/-- few enough rounds -/
def room (on : Nat) (n : Int) : Prop := (on = 0 ∧ n < 1000000000000000000000000000) ∨ (on = 1 ∧ n < 1000000000000000000) ∨ (on = 2 ∧ n < 1000000000) ∨ (on = 3 ∧ n < 1)
theorem room_next {on : Nat} {n : Int} (h : room on n) (h0 : 0 < n) : room (on + 1) (n / 1000000000) ∧ on ≤ 2 := by
  unfold room at h ⊢
  omega
theorem spec_NatOf_c {w : World} {n : Int} (h0 : 0 ≤ n) (h1 : n ≤ 9223372036854775807) :
    Ret P n_spec_NatOf [.int .i64 n] w fun v w' => ∃ p' n' c', v = .slice p' n' c' ∧ Own w' w.heap.size T_int 1 p' n' c' ((digs n.toNat).map (Value.int .i64)) ∧ Ext w w' := by
  refine spec_NatOf_ret ?_
  unfold spec_NatOf
  intro r w1 hn1
  refine ⟨fun m p on c wr => ∃ o : List Int, 0 ≤ m ∧ room on m ∧ m ≤ n ∧ Own wr w.heap.size T_int 1 p on c (o.map (Value.int .i64)) ∧ Ext w wr ∧ digs n.toNat = o ++ digs m.toNat, fun m _ _ _ _ => m.toNat,
    ⟨[], h0, by unfold room; omega, Int.le_refl _, Own.fresh hn1, hn1.ext, rfl⟩, ?_⟩
  intro junk wr m p on c ⟨o, hm0, hrm, hmn, hown, hx, hd⟩
  refine ifD (fun hpos => ?_) (fun hz => ?_)
  · obtain ⟨hr2, hon⟩ := room_next hrm hpos
    refine ⟨by decide, _, rfl, fun r1 w2 hn2 => ?_⟩
    rw [tmod_limb hm0] at hn2
    obtain ⟨p', c', w3, g1, g2, g3⟩ := Own.push hown hx.le hn2 (by omega)
    refine ⟨_, _, _, _, g1, by decide, ?_⟩
    rw [tdiv_limb hm0]
    refine exW ⟨by omega, by omega⟩ ⟨⟨_, by omega, hr2, by omega, g2, g3 w hx (Nat.le_refl _), ?_⟩, ?_⟩
    · have := digs_split hd (show 0 < m.toNat by omega)
      have e1 : ((m.toNat % 1000000000 : Nat) : Int) = m % 1000000000 := by omega
      have e2 : m.toNat / 1000000000 = (m / 1000000000).toNat := by omega
      rw [this, e1, e2]
    · show (m / 1000000000).toNat < m.toNat
      omega
  · have : m.toNat = 0 := by omega
    rw [this, digs_zero, List.append_nil] at hd
    exact ⟨_, _, _, rfl, by rw [hd]; exact hown, hx⟩
theorem impl_natOf_c {w : World} {n : Int} (h0 : 0 ≤ n) (h1 : n ≤ 18446744073709551615) :
    Ret P n_impl_natOf [.int .u64 n] w fun v w' => ∃ p' n' c', v = .slice p' n' c' ∧ Own w' w.heap.size T_int 1 p' n' c' ((digs n.toNat).map (Value.int .i64)) ∧ Ext w w' := by
  refine impl_natOf_ret ?_
  unfold impl_natOf
  intro r w1 hn1
  refine ⟨fun m p on c wr => ∃ o : List Int, 0 ≤ m ∧ room on m ∧ m ≤ n ∧ Own wr w.heap.size T_int 1 p on c (o.map (Value.int .i64)) ∧ Ext w wr ∧ digs n.toNat = o ++ digs m.toNat, fun m _ _ _ _ => m.toNat,
    ⟨[], h0, by unfold room; omega, Int.le_refl _, Own.fresh hn1, hn1.ext, rfl⟩, ?_⟩
  intro junk wr m p on c ⟨o, hm0, hrm, hmn, hown, hx, hd⟩
  refine ifD (fun hpos => ?_) (fun hz => ?_)
  · obtain ⟨hr2, hon⟩ := room_next hrm hpos
    refine ⟨by decide, _, rfl, ?_⟩
    rw [tmod_limb hm0]
    refine exW ⟨by omega, by omega⟩ (fun r1 w2 hn2 => ?_)
    obtain ⟨p', c', w3, g1, g2, g3⟩ := Own.push hown hx.le hn2 (by omega)
    refine ⟨_, _, _, _, g1, by decide, ?_⟩
    rw [tdiv_limb hm0]
    have wu : IntKind.wrap .u64 (m / 1000000000) = m / 1000000000 := by
      simp only [IntKind.wrap, IntKind.bits, IntKind.signed]
      simp
      omega
    refine ⟨_, rfl, ?_⟩
    rw [wu]
    refine ⟨⟨_, by omega, hr2, by omega, g2, g3 w hx (Nat.le_refl _), ?_⟩, ?_⟩
    · have := digs_split hd (show 0 < m.toNat by omega)
      have e1 : ((m.toNat % 1000000000 : Nat) : Int) = m % 1000000000 := by omega
      have e2 : m.toNat / 1000000000 = (m / 1000000000).toNat := by omega
      rw [this, e1, e2]
    · show (m / 1000000000).toNat < m.toNat
      omega
  · have : m.toNat = 0 := by omega
    rw [this, digs_zero, List.append_nil] at hd
    exact ⟨_, _, _, rfl, by rw [hd]; exact hown, hx⟩
end Go.Proofs.YtfehpaekbbmkcaaGreatDoor

namespace Go.Proofs.YtfehpaekbbmkcaaGreatDoor
open Go Go.Proofs.YtfehpaekbbmkcaaGreatDoor.Sx
set_option linter.unusedVariables false
set_option linter.unusedSimpArgs false
theorem val_zeros' (k : Nat) : val (List.replicate k 0) = 0 := by
  induction k with
  | zero => rfl
  | succ s ih => simp [List.replicate_succ, val, ih]
theorem Limbs.zeros (k : Nat) : Limbs (List.replicate k 0) := fun x hx => by simp at hx; omega
theorem pow_mono9 {i j : Nat} (h : i ≤ j) : (1000000000 : Int) ^ i ≤ 1000000000 ^ j := by
  have := Int.ofNat_le.2 (Nat.pow_le_pow_right (n := 1000000000) (by decide) h)
  simpa using this
theorem digs_lenI {z : Int} {k : Nat} (h0 : 0 ≤ z) (h : z < 1000000000 ^ k) : (digs z.toNat).length ≤ k := by
  apply digs_len
  have : ((z.toNat : Nat) : Int) < ((1000000000 ^ k : Nat) : Int) := by rw [Int.toNat_of_nonneg h0]; simpa using h
  exact Int.ofNat_lt.1 this
theorem digs_lenI' {z : Int} {k : Nat} (h0 : 0 ≤ z) (h : 1000000000 ^ k ≤ z) : k < (digs z.toNat).length := by
  rcases Nat.lt_or_ge k (digs z.toNat).length with g | g
  · exact g
  · exfalso
    have h1 := val_lt (digs_limbs z.toNat)
    rw [val_digs, Int.toNat_of_nonneg h0] at h1
    have := pow_mono9 g
    omega
theorem val_digsI {z : Int} (h : 0 ≤ z) : val (digs z.toNat) = z := by rw [val_digs, Int.toNat_of_nonneg h]
/-- the top place of a number without a zero on top -/
theorem canon_top {b : List Int} {m : Nat} (h : Canon b) (hl : b.length = m + 1) : 1 ≤ b.getD m 0 := by
  have h1 := h.2
  rw [getLast_getD (by omega), hl, Nat.add_sub_cancel] at h1
  have h2 := h.1.getD m
  have : b.getD m 0 ≠ 0 := fun e => h1 (by rw [e])
  omega
theorem impl_NatOf_c {w : World} {n : Int} (h0 : 0 ≤ n) (h1 : n ≤ 9223372036854775807) :
    Ret P n_impl_NatOf [.int .i64 n] w fun v w' => ∃ p' n' c', v = .slice p' n' c' ∧ Own w' w.heap.size T_int 1 p' n' c' ((digs n.toNat).map (Value.int .i64)) ∧ Ext w w' := by
  refine impl_NatOf_ret ?_
  unfold impl_NatOf
  refine ifD (fun h => absurd h (by omega)) (fun _ => ?_)
  have e : IntKind.wrap .u64 n = n := by
    have : (IntKind.wrap .u64 n) = n % 18446744073709551616 := rfl
    rw [this]; omega
  refine ⟨n, e.symm, ?_⟩
  refine Ret.at (impl_natOf_c h0 (by omega)) ?_
  rintro v w1 ⟨p', n', c', hv, ho, hx⟩
  subst hv
  exact ⟨_, _, _, rfl, _, _, _, rfl, ho, hx⟩
theorem impl_natDiv_c {w : World} {p q : Option Addr} {n c m d : Nat} {a b : List Int} (h : IntsR w p n c a) (k : IntsR w q m d b) (ha : Canon a) (hb : Canon b) (hb0 : 0 < m) (hn : n ≤ 100000) (hm : m ≤ 100000) :
    Ret P n_impl_natDiv [.slice p n c, .slice q m d] w fun v w' => ∃ p1 n1 c1 p2 n2 c2, v = .tuple #[.slice p1 n1 c1, .slice p2 n2 c2] ∧ Own w' w.heap.size T_int 1 p1 n1 c1 ((digs (val a / val b).toNat).map (Value.int .i64)) ∧ Own w' w.heap.size T_int 1 p2 n2 c2 ((digs (val a % val b).toNat).map (Value.int .i64)) ∧ (∀ z, p1.map (·.block) = some z → p2.map (·.block) ≠ some z) ∧ Ext w w' := by
  refine impl_natDiv_ret ?_
  unfold impl_natDiv
  have hla := h.1; have hlb := k.1
  have va0 := val_nonneg ha.1
  have vb0 : 0 < val b := canon_pos hb (by intro e; rw [e] at hlb; simp at hlb; omega)
  refine Ret.at (impl_natCmp_c h k) ?_
  rintro v w1 ⟨hv, y1⟩
  subst hv
  refine ⟨_, rfl, ifD (fun hlt => ?_) (fun hge => ifD (fun hone => ?_) (fun hmore => ?_))⟩
  · have hab : val a < val b := by rcases cmpL_val ha hb with h | h | h <;> omega
    intro r w2 hn2
    have e2 := hn2.r_eq
    have x2 := y1.trans hn2.ext
    refine Ret.at (impl_natCopy_c (h.ext x2) (by omega)) ?_
    rintro v w3 ⟨p', c', hv, ho, y3⟩
    subst hv
    refine ⟨_, _, _, rfl, _, _, _, _, _, _, rfl, ?_, ?_, ?_, x2.trans y3⟩
    · rw [Int.ediv_eq_zero_of_lt va0 hab]
      simp only [Int.toNat_zero, digs_zero]
      exact (((Own.fresh hn2).ext y3).mono (by have := y1.le; omega))
    · rw [Int.emod_eq_of_lt va0 hab, digs_val ha]
      exact ho.mono x2.le
    · intro z hz hz2
      have := (World.ownsRow.lt ho z (by rw [← hz2]; cases p' <;> rfl)).1
      simp at hz
      have := hn2.size
      omega
  · have hm1 : m = 1 := by omega
    subst hm1
    have hB := hb.1.getD 0
    have hT := canon_top (m := 0) hb (by omega)
    have ev : val b = b.getD 0 0 := by
      have := val_top (m := 0) hlb
      simpa [val] using this
    obtain ⟨ad, rfl, hl⟩ := ints_at (k.ext y1) (i := 0) (by omega) (by omega)
    refine ⟨⟨by omega, by omega⟩, _, by simpa only [Int.toNat_zero] using hl, ?_⟩
    rw [ev]
    simp only [Int.toNat_zero]
    refine Ret.at (impl_natSmall_c (h.ext y1) ha.1 ⟨by omega, by omega⟩ (by omega)) ?_
    rintro v w2 ⟨p1, n1, c1, hv, o1, y2⟩
    subst hv
    have Z0 := Int.emod_nonneg (val a) (show b.getD 0 0 ≠ 0 by omega)
    have Z1 := Int.emod_lt_of_pos (val a) (show 0 < b.getD 0 0 by omega)
    refine ⟨_, _, _, _, rfl, ?_⟩
    refine Ret.at (impl_NatOf_c Z0 (by omega)) ?_
    rintro v w3 ⟨p2, n2, c2, hv, o2, y3⟩
    subst hv
    refine ⟨_, _, _, rfl, _, _, _, _, _, _, rfl, (o1.ext y3).mono y1.le, o2.mono (by have := y1.le; have := y2.le; omega), fun z hz hz2 => ?_, y1.trans (y2.trans y3)⟩
    have := (World.ownsRow.lt o2 z (by rw [← hz2]; cases p2 <;> rfl)).1
    have := (World.ownsRow.lt o1 z (by rw [← hz]; cases p1 <;> rfl)).2
    omega
  · have hab : val b ≤ val a := by rcases cmpL_val ha hb with h | h | h <;> omega
    obtain ⟨t, rfl⟩ : ∃ t, m = t + 1 := ⟨m - 1, by omega⟩
    have hB := hb.1.getD t
    have hT := canon_top hb hlb
    have hmn : t + 1 ≤ n := by
      rcases Nat.lt_or_ge n (t + 1) with g | g
      · have := canon_len ha hb (by omega); omega
      · exact g
    have S0 : 1 ≤ 1000000000 / (b.getD t 0 + 1) := Int.le_ediv_of_mul_le (by omega) (by omega)
    have S1 : 1000000000 / (b.getD t 0 + 1) ≤ 500000000 := by
      have : 1000000000 / (b.getD t 0 + 1) < 500000001 := Int.ediv_lt_of_lt_mul (by omega) (by omega)
      omega
    have S2 : 1000000000 / (b.getD t 0 + 1) * (b.getD t 0 + 1) ≤ 1000000000 := Int.ediv_mul_le _ (by omega)
    generalize hsc : 1000000000 / (b.getD t 0 + 1) = sc at S0 S1 S2
    obtain ⟨ad, rfl, hl⟩ := ints_at (k.ext y1) (i := (t : Int)) (by omega) (by omega)
    simp only [Int.toNat_natCast] at hl
    have i1 : ((t + 1 : Nat) : Int) - 1 = (t : Int) := by omega
    rw [i1]
    refine exW ⟨by omega, by omega⟩ ⟨⟨by omega, by omega⟩, _, by simpa only [Int.toNat_natCast] using hl, exW ⟨by omega, by omega⟩ ⟨by omega, ?_⟩⟩
    rw [Int.tdiv_eq_ediv_of_nonneg (by omega), hsc]
    refine exW ⟨by omega, by omega⟩ fun r1 w2 hn2 => ?_
    have e2 := hn2.r_eq
    have x2 := y1.trans hn2.ext
    have one : ∀ {W W' : World} {r : Nat}, New W (.cells ⟨[.int .i64 sc]⟩ T_int (0, 0)) r W' → IntsR W' (some ⟨r, 0, none⟩) 1 1 [sc] := fun hn => ⟨rfl, Nat.le_refl _, by omega, fun _ => ⟨_, 0, rfl, hn.blk.seg⟩⟩
    have lsc : Limbs [sc] := fun x hx => by simp at hx; omega
    have vsc : val [sc] = sc := by simp [val]
    refine Ret.at (impl_natMul_c (h.ext x2) (one hn2) ha.1 lsc (by omega) (by omega)) ?_
    rintro v w3 ⟨up, un, uc, hv, ou, y3⟩
    subst hv
    refine ⟨_, _, _, rfl, fun r2 w4 hn4 => ?_⟩
    have x4 := (x2.trans y3).trans hn4.ext
    refine Ret.at (impl_natMul_c (k.ext x4) (one hn4) hb.1 lsc (by omega) (by omega)) ?_
    rintro v w5 ⟨vp, vn, vc, hv, ov, y5⟩
    subst hv
    refine ⟨_, _, _, rfl, ?_⟩
    rw [vsc] at ou ov
    have x5 := x4.trans y5
    have l2 := x2.le; have l3 := y3.le; have l4 := hn4.ext.le; have l5 := y5.le; have l1 := y1.le
    -- the values
    have U0 : 0 ≤ val a * sc := Int.mul_nonneg va0 (by omega)
    have V0 : val b ≤ val b * sc := by
      have := Int.mul_le_mul_of_nonneg_left S0 (Int.le_of_lt vb0); omega
    have aL := val_lt ha.1
    rw [hla] at aL
    have hpn := pow_pos9 n
    have U1 : val a * sc < 1000000000 ^ (n + 1) := by
      rw [Int.pow_succ]
      have h1 : val a * sc ≤ 1000000000 ^ n * sc := Int.mul_le_mul_of_nonneg_right (Int.le_of_lt aL) (by omega)
      have h2 : 1000000000 ^ n * sc < 1000000000 ^ n * 1000000000 := Int.mul_lt_mul_of_pos_left (by omega) hpn
      omega
    have hpt := pow_pos9 t
    have bt := val_top hlb
    have bb := take_bounds (m := t) hb.1 (by omega)
    have Vlow : 1000000000 ^ t * sc ≤ val b * sc := by
      refine Int.mul_le_mul_of_nonneg_right ?_ (by omega)
      have := Int.mul_le_mul_of_nonneg_left hT (Int.le_of_lt hpt)
      omega
    have Vlow1 : 1000000000 ^ t ≤ val b * sc := by
      have := Int.mul_le_mul_of_nonneg_left S0 (Int.le_of_lt hpt); omega
    have Vhi : val b * sc < 1000000000 ^ (t + 1) := by
      have h1 : val b * sc < (1000000000 ^ t * (b.getD t 0 + 1)) * sc := by
        refine Int.mul_lt_mul_of_pos_right ?_ (by omega)
        rw [Int.mul_add]; omega
      have h2 : (1000000000 ^ t * (b.getD t 0 + 1)) * sc = 1000000000 ^ t * (sc * (b.getD t 0 + 1)) := by rw [Int.mul_assoc, Int.mul_comm sc]
      have h3 : 1000000000 ^ t * (sc * (b.getD t 0 + 1)) ≤ 1000000000 ^ t * 1000000000 := Int.mul_le_mul_of_nonneg_left S2 (Int.le_of_lt hpt)
      rw [Int.pow_succ]; omega
    have hvlen : (digs (val b * sc).toNat).length = t + 1 := by
      have h1 := digs_lenI (by omega) Vhi
      have h2 := digs_lenI' (by omega) Vlow1
      omega
    have hvn : vn = t + 1 := by
      have := ov.len
      simp only [List.length_map] at this
      omega
    have hvval := val_digsI (show 0 ≤ val b * sc by omega)
    have hvtop := canon_top (digs_canon (val b * sc).toNat) hvlen
    have hvlim := digs_limbs (val b * sc).toNat
    have hUval := val_digsI U0
    have hUlen := digs_lenI U0 U1
    generalize hVl : digs (val b * sc).toNat = vs at ov hvlen hvval hvtop hvlim
    generalize hUl : digs (val a * sc).toNat = us at ou hUval hUlen
    have hUlim : Limbs us := by rw [← hUl]; exact digs_limbs _
    have hun : un = us.length := by have := ou.len; simp only [List.length_map] at this; omega
    subst hvn
    have dis0 : ∀ z, up.map (·.block) = some z → vp.map (·.block) ≠ some z := fun z hz hz2 => by
      have := (World.ownsRow.lt ou z (by rw [← hz]; cases up <;> rfl)).2
      have := (World.ownsRow.lt ov z (by rw [← hz2]; cases vp <;> rfl)).1
      omega
    have ou5 := ((ou.ext hn4.ext).ext y5).mono (base' := w.heap.size) (by omega)
    have ov5 := ov.mono (base' := w.heap.size) (by omega)
    refine ⟨fun P' N' C' wr => ∃ s, N' = us.length + s ∧ N' ≤ n + 1 ∧ Own wr w.heap.size T_int 1 P' N' C' ((us ++ List.replicate s 0).map (Value.int .i64)) ∧ Own wr w.heap.size T_int 1 vp (t + 1) vc (vs.map (Value.int .i64)) ∧ Ext w wr ∧ (∀ z, P'.map (·.block) = some z → vp.map (·.block) ≠ some z), fun _ N' _ _ => n + 1 - N',
      ⟨0, by omega, by omega, by simpa using ou5, ov5, x5, dis0⟩, ?_⟩
    intro junk wr up1 un1 uc1 ⟨s, hs, hsn, ou1, ov1, x6, dis1⟩
    have l6 := x6.le
    refine ifD (fun hgrow => ?_) (fun hfull => ?_)
    · intro r3 w7 hn7
      have e7 := hn7.r_eq
      obtain ⟨p', c', w8, ap, o8, ch8, d8⟩ := (ou1.ext hn7.ext).push1 (P := P) sliceT_int (by have := hn7.ext.le; omega) hn7.blk rfl (by simp [Value.oneCell']) (by omega) (by omega)
      have upl : ∀ z, up1.map (·.block) = some z → w.heap.size ≤ z ∧ z < wr.heap.size := fun z hz => World.ownsRow.lt ou1 z (by rw [← hz]; cases up1 <;> rfl)
      have vpl : ∀ z, vp.map (·.block) = some z → w.heap.size ≤ z ∧ z < wr.heap.size := fun z hz => World.ownsRow.lt ov1 z (by rw [← hz]; cases vp <;> rfl)
      refine ⟨p', _, c', w8, ap, ⟨s + 1, by omega, by omega, ?_, (ov1.ext hn7.ext).chg ch8 (fun z hz hm => dis1 z (opt_mem hm) hz), (x6.trans hn7.ext).chg ch8 (fun z hz => (upl z (opt_mem hz)).1), fun z hz hz2 => ?_⟩, ?_⟩
      · rw [List.replicate_succ', ← List.append_assoc]
        simpa using o8
      · rcases d8 with d8 | d8
        · exact dis1 z (d8 ▸ hz) hz2
        · have := d8 z hz; have := (vpl z hz2).2; have := hn7.size; omega
      · show n + 1 - (un1 + 1) < n + 1 - un1
        omega
    · have hN : un1 = n + 1 := by omega
      have hi66 : ((un1 : Nat) : Int) - ((t + 1 : Nat) : Int) = ((n - t : Nat) : Int) := by omega
      rw [hi66]
      refine exW ⟨by omega, by omega⟩ ⟨⟨by omega, by omega, by omega⟩, ?_⟩
      rw [Int.toNat_natCast]
      intro r4 w9 hn9
      have e9 := hn9.r_eq; have s9 := hn9.size
      have hb9 := hn9.blk
      rw [zeroRow_int, Nat.mul_one] at hb9
      obtain ⟨bu, ys, rfl, hbu, hblk, hyl, hnc, hcm, hyt⟩ := ou1.blk (by omega)
      have hbul := hblk.lt
      generalize hos : us ++ List.replicate s 0 = o0 at ou1 hyt
      have ho0 : o0.length = n + 1 := by rw [← hos]; simp; omega
      have hov : val o0 = val a * sc := by rw [← hos, val_append, val_zeros', Int.mul_zero, Int.add_zero, hUval]
      have hol0 : Limbs o0 := by rw [← hos]; exact Limbs.append.2 ⟨hUlim, Limbs.zeros s⟩
      have hys : ys = o0.map (Value.int .i64) ++ ys.drop (un1 * 1) := by rw [← hyt, List.take_append_drop]
      generalize hrs : ys.drop (un1 * 1) = rs at hys
      rw [hys] at hblk
      have vpne : ∀ z, vp.map (·.block) = some z → z ≠ bu := fun z hz e => dis1 bu rfl (by rw [hz, e])
      have vpl : ∀ z, vp.map (·.block) = some z → z < wr.heap.size := fun z hz => (World.ownsRow.lt ov1 z (by rw [← hz]; cases vp <;> rfl)).2
      refine exW ⟨by omega, by omega⟩ ⟨fun i wr2 => ∃ (j : Nat) (o ql : List Int), i = (j : Int) - 1 ∧ j ≤ n - t ∧ o.length = n + 1 ∧ ql.length = n - t ∧ Blk wr2 bu T_int (o.map (Value.int .i64) ++ rs) ∧ Blk wr2 r4 T_int (ql.map (Value.int .i64)) ∧ IntsR wr2 vp (t + 1) vc vs ∧ Ext w wr2 ∧ Limbs o ∧ Limbs ql ∧ (∀ z, z < j → ql.getD z 0 = 0) ∧ val o + val ql * (val b * sc) = val a * sc ∧ val o < 1000000000 ^ j * (val b * sc), fun i _ => (i + 1).toNat,
        ⟨n - t, o0, List.replicate (n - t) 0, rfl, by omega, ho0, by simp, hblk.ext hn9.ext, by simpa using hb9, (ov1.ints).ext hn9.ext, x6.trans hn9.ext, hol0, Limbs.zeros _, fun z hz => by simp [List.getD_eq_getElem?_getD, hz], by rw [val_zeros', Int.zero_mul]; omega, ?_⟩, ?_⟩
      · rw [hov]
        have h1 : val a * sc < 1000000000 ^ n * sc := Int.mul_lt_mul_of_pos_right aL (by omega)
        have h2 : (1000000000 : Int) ^ (n - t) * (1000000000 ^ t * sc) ≤ 1000000000 ^ (n - t) * (val b * sc) := Int.mul_le_mul_of_nonneg_left Vlow (Int.le_of_lt (pow_pos9 _))
        rw [← Int.mul_assoc, ← Int.pow_add, show n - t + t = n by omega] at h2
        omega
      intro junk2 wr2 i ⟨j, o, ql, hi, hj, hol, hqll, hbu2, hbq, kv, x10, hlo, hlq, hqz, hval, hlt⟩
      subst hi
      have l10 := x10.le
      refine ifD (fun hpos => ?_) (fun hend => ?_)
      · obtain ⟨f, rfl⟩ : ∃ f, j = f + 1 := ⟨j - 1, by omega⟩
        have ef : ((f + 1 : Nat) : Int) - 1 = (f : Int) := by omega
        rw [ef]
        have e81 : (f : Int) + ((t + 1 : Nat) : Int) + 1 = ((f + (t + 1) + 1 : Nat) : Int) := by omega
        refine exW ⟨by omega, by omega⟩ (exW ⟨by omega, by omega⟩ ?_)
        rw [e81]
        simp only [Int.toNat_natCast]
        have hsub : Sx.sub (some ⟨bu, 0, none⟩) f uc1 1 = some ⟨bu, f, none⟩ := by
          unfold Sx.sub
          rw [if_neg (by omega)]
          simp [Addr.add]
          omega
        rw [hsub, show f + (t + 1) + 1 - f = t + 1 + 1 by omega]
        refine ⟨⟨by omega, by omega⟩, ⟨by omega, by omega⟩, ?_⟩
        -- the window
        have esplit : o = o.take f ++ ((o.drop f).take (t + 1 + 1) ++ (o.drop f).drop (t + 1 + 1)) := by rw [List.take_append_drop, List.take_append_drop]
        have lA : (o.take f).length = f := by rw [List.length_take]; omega
        have lU : ((o.drop f).take (t + 1 + 1)).length = t + 1 + 1 := by rw [List.length_take, List.length_drop]; omega
        have hlA : Limbs (o.take f) := hlo.take f
        have hlD : Limbs (o.drop f) := fun x hx => hlo x (List.mem_of_mem_drop hx)
        have hlU := hlD.take (t + 1 + 1)
        have hlC : Limbs ((o.drop f).drop (t + 1 + 1)) := fun x hx => hlD x (List.mem_of_mem_drop hx)
        generalize o.take f = A at esplit lA hlA
        generalize (o.drop f).take (t + 1 + 1) = U at esplit lU hlU
        generalize (o.drop f).drop (t + 1 + 1) = C at esplit hlC
        subst esplit
        have hA0 := val_nonneg hlA; have hA1 := val_lt hlA; have hC0 := val_nonneg hlC; have hU0 := val_nonneg hlU
        rw [lA] at hA1
        rw [val_append, val_append, lA, lU, Int.mul_add, ← Int.mul_assoc, ← Int.pow_add] at hval hlt
        have hpf := pow_pos9 f
        have hCz : val C = 0 := by
          rcases Int.lt_or_le 0 (val C) with g | g
          · exfalso
            have g1 := Int.mul_le_mul_of_nonneg_left (show 1 ≤ val C by omega) (Int.le_of_lt (pow_pos9 (f + (t + 1 + 1))))
            have g2 := Int.mul_nonneg (Int.le_of_lt hpf) hU0
            have g3 : (1000000000 : Int) ^ (f + 1) * (val b * sc) < 1000000000 ^ (f + 1) * 1000000000 ^ (t + 1) := Int.mul_lt_mul_of_pos_left Vhi (pow_pos9 _)
            rw [← Int.pow_add, show f + 1 + (t + 1) = f + (t + 1 + 1) by omega] at g3
            omega
          · omega
        rw [hCz, Int.mul_zero, Int.add_zero] at hval hlt
        have hUD : val U < 1000000000 * (val b * sc) := by
          have g1 : (1000000000 : Int) ^ f * val U < 1000000000 ^ f * (1000000000 * (val b * sc)) := by
            have e : (1000000000 : Int) ^ f * (1000000000 * (val b * sc)) = 1000000000 ^ (f + 1) * (val b * sc) := by rw [Int.pow_succ, Int.mul_assoc]
            rw [e]; omega
          exact Int.lt_of_mul_lt_mul_left g1 (Int.le_of_lt hpf)
        have hbw : Blk wr2 bu T_int (A.map (Value.int .i64) ++ U.map (Value.int .i64) ++ (C.map (Value.int .i64) ++ rs)) := by
          have := hbu2
          rw [List.map_append, List.map_append] at this
          simpa only [List.append_assoc] using this
        refine Ret.at (impl_divStep_c hbw (by rw [List.length_map, lA]) lU kv vpne hlU hvlim (by simpa using hvtop) (by omega) (by omega) (by rw [hvval]; exact hUD)) ?_
        rintro v w11 ⟨x, u', hv, x0, x1, hl', hb', ch', hlu', hvu', hu0', hu1'⟩
        subst hv
        rw [hvval] at hvu' hu1'
        have hbq' := hbq.chg ch' (by simp; omega)
        have kv' := kv.chg ch' (fun z hz hm => vpne z hz (by simpa using hm))
        obtain ⟨w12, st, hbq12, ch12, sz12⟩ := blk_set hbq' (i := (f : Int)) (by omega) (by omega) x
        simp only [Int.toNat_natCast] at st hbq12
        have hbu12 := hb'.chg ch12 (by simp; omega)
        refine ⟨x, rfl, ⟨by omega, by omega⟩, w12, st, exW ⟨by omega, by omega⟩ ⟨⟨f, A ++ (u' ++ C), ql.set f x, by omega, by omega, ?_, by simpa using hqll, ?_, hbq12, kv'.chg ch12 (fun z hz hm => by have := vpl z hz; simp at hm; omega), (x10.chg ch' (by simp; omega)).chg ch12 (by simp; omega), ?_, hlq.set ⟨x0, x1⟩, fun z hz => by rw [getD_set_ne _ (by omega)]; exact hqz z (by omega), ?_, ?_⟩, ?_⟩⟩
        · simp only [List.length_append] at hol ⊢; omega
        · simpa only [List.map_append, List.append_assoc] using hbu12
        · exact Limbs.append.2 ⟨hlA, Limbs.append.2 ⟨hlu', hlC⟩⟩
        · rw [val_append, val_append, lA, hCz, Int.mul_zero, Int.add_zero, val_set _ _ (by omega), hqz f (by omega), Int.sub_zero, hvu', Int.mul_sub, Int.add_mul]
          have : (1000000000 : Int) ^ f * x * (val b * sc) = 1000000000 ^ f * (x * (val b * sc)) := Int.mul_assoc _ _ _
          omega
        · rw [val_append, val_append, lA, hCz, Int.mul_zero, Int.add_zero]
          have g1 : (1000000000 : Int) ^ f * (val u' + 1) ≤ 1000000000 ^ f * (val b * sc) := Int.mul_le_mul_of_nonneg_left (by omega) (Int.le_of_lt hpf)
          rw [Int.mul_add] at g1
          omega
        · show ((f : Int) - 1 + 1).toNat < ((f : Int) + 1).toNat
          omega
      · have hj0 : j = 0 := by omega
        subst hj0
        rw [show (1000000000 : Int) ^ 0 = 1 from rfl, Int.one_mul] at hlt
        have hrd : IntsR wr2 (some ⟨bu, 0, none⟩) un1 uc1 o := by
          refine ⟨by omega, hnc, by simp only [maxLen] at hcm; omega, fun _ => ⟨bu, 0, rfl, ?_⟩⟩
          have := hbu2.seg.take o.length
          rwa [List.take_left' (by simp)] at this
        refine Ret.at (impl_trim_c hrd) ?_
        rintro v w11 ⟨hv, hw, hr⟩
        subst hv; subst hw
        refine ⟨_, _, _, rfl, ?_⟩
        rw [trimL_eq hlo] at hr
        have hlen2 : (digs (val o).toNat).length ≤ n + 1 := by
          have := trimL_len o
          rw [trimL_eq hlo] at this; omega
        have ho0' := val_nonneg hlo
        rw [trimL_eq hlo]
        refine Ret.at (impl_natSmall_c hr (digs_limbs _) ⟨by omega, by omega⟩ (by omega)) ?_
        rintro v w12 ⟨p2, n2, c2, hv, o2, y12⟩
        subst hv
        rw [val_digsI ho0'] at o2
        refine ⟨_, _, _, _, rfl, ?_⟩
        have hq0 := val_nonneg hlq
        have hown : Own w12 w.heap.size T_int 1 (some ⟨r4, 0, none⟩) (n - t) (n - t) (ql.map (Value.int .i64)) := Own.of_blk (hbq.ext y12) (by omega) (by simp [hqll]) (by simp only [maxLen]; omega)
        refine Ret.at (impl_trim_c hown.ints) ?_
        rintro v w13 ⟨hv, hw, hr13⟩
        subst hv; subst hw
        -- the quotient and the rest
        have hval' : (val a - val ql * val b) * sc = val o := by
          rw [Int.sub_mul, Int.mul_assoc]; omega
        have hR0 : 0 ≤ val a - val ql * val b := by
          rcases Int.lt_or_le (val a - val ql * val b) 0 with g | g
          · have := Int.mul_le_mul_of_nonneg_right (show val a - val ql * val b ≤ -1 by omega) (show 0 ≤ sc by omega)
            omega
          · exact g
        have hR1 : val a - val ql * val b < val b := Int.lt_of_mul_lt_mul_right (a := sc) (by omega) (by omega)
        have hd : val a / val b = val ql := by
          have : val a = (val a - val ql * val b) + val b * val ql := by rw [Int.mul_comm (val b)]; omega
          rw [this, Int.add_mul_ediv_left _ _ (by omega), Int.ediv_eq_zero_of_lt hR0 hR1, Int.zero_add]
        have hr' : val a % val b = val a - val ql * val b := by
          have := Int.mul_ediv_add_emod (val a) (val b)
          rw [hd, Int.mul_comm] at this
          omega
        have hos2 : val o / sc = val a - val ql * val b := by rw [← hval', Int.mul_ediv_cancel _ (by omega)]
        rw [hos2] at o2
        refine ⟨_, _, _, rfl, _, _, _, _, _, _, rfl, ?_, ?_, fun z hz hz2 => ?_, x10.trans y12⟩
        · rw [hd, ← trimL_eq hlq]
          have hle := trimL_len ql
          have := hown.sub (m := (trimL ql).length) (by omega)
          rwa [← trimL_prefix] at this
        · rw [hr']
          exact o2.mono l10
        · have := (World.ownsRow.lt o2 z (by rw [← hz2]; cases p2 <;> rfl)).1
          have := hbq.lt
          simp at hz
          omega
end Go.Proofs.YtfehpaekbbmkcaaGreatDoor

namespace Go.Proofs.YtfehpaekbbmkcaaGreatDoor
open Go Go.Proofs.YtfehpaekbbmkcaaGreatDoor.Sx
set_option linter.unusedVariables false
set_option linter.unusedSimpArgs false
theorem spec_l03Small_c {w : World} {p : Option Addr} {n c : Nat} {a : List Int} {d : Int} (h : IntsR w p n c a) (ha : Limbs a) (hd : 0 < d ∧ d < 1000000000) (hn : n ≤ 10000000) :
    Ret P n_spec_l03Small [.slice p n c, .int .i64 d] w fun v w' => ∃ p' n' c', v = .tuple #[.slice p' n' c', .int .i64 (val a % d)] ∧ Own w' w.heap.size T_int 1 p' n' c' ((digs (val a / d).toNat).map (Value.int .i64)) ∧ Ext w w' := by
  refine spec_l03Small_ret ?_
  unfold spec_l03Small
  have hla := h.1
  refine ⟨⟨by omega, by omega, by omega⟩, fun r w1 hn1 => exW ⟨by omega, by omega⟩ ?_⟩
  have hre := hn1.r_eq
  have hb1 := hn1.blk
  rw [zeroRow_int, Nat.mul_one] at hb1
  refine ⟨fun rest i wr => ∃ (s : Nat) (o : List Int), i = (s : Int) - 1 ∧ s ≤ n ∧ o.length = n ∧ Blk wr r T_int (o.map (Value.int .i64)) ∧ Ext w wr ∧ Limbs o ∧ 0 ≤ rest ∧ rest < d ∧ val (a.drop s) = d * val (o.drop s) + rest, fun _ i _ => (i + 1).toNat,
    ⟨n, List.replicate n 0, rfl, by omega, by simp, by simpa using hb1, hn1.ext, fun x hx => by simp at hx; omega, by omega, by omega, by rw [List.drop_of_length_le (by omega), List.drop_of_length_le (by simp)]; simp [val]⟩, ?_⟩
  intro junk wr rest i ⟨s, o, hi, hsn, hol, hblk, hx, hlo, hr0, hr1, hv⟩
  subst hi
  refine ifD (fun hlt => ?_) (fun hge => ?_)
  · obtain ⟨t, rfl⟩ : ∃ t, s = t + 1 := ⟨s - 1, by omega⟩
    have A := ha.getD t
    have e1 : (((t + 1 : Nat) : Int) - 1).toNat = t := by omega
    obtain ⟨ad, rfl, hl⟩ := ints_at (h.ext hx) (i := ((t + 1 : Nat) : Int) - 1) (by omega) (by omega)
    rw [e1] at hl ⊢
    have T1 : rest * 1000000000 + a.getD t 0 < 1000000000 * d := by
      have : rest * 1000000000 ≤ (d - 1) * 1000000000 := Int.mul_le_mul_of_nonneg_right (by omega) (by omega)
      omega
    have T0 : 0 ≤ rest * 1000000000 + a.getD t 0 := by omega
    have Y0 : 0 ≤ (rest * 1000000000 + a.getD t 0) / d := Int.ediv_nonneg T0 (by omega)
    have Y1 : (rest * 1000000000 + a.getD t 0) / d < 1000000000 := Int.ediv_lt_of_lt_mul (by omega) T1
    have Z0 := Int.emod_nonneg (rest * 1000000000 + a.getD t 0) (show d ≠ 0 by omega)
    have Z1 := Int.emod_lt_of_pos (rest * 1000000000 + a.getD t 0) hd.1
    have Q := Int.mul_ediv_add_emod (rest * 1000000000 + a.getD t 0) d
    refine exW ⟨by omega, by omega⟩ ⟨⟨by omega, by omega⟩, _, hl, exW ⟨by omega, by omega⟩ ⟨by omega, ?_⟩⟩
    rw [Int.tdiv_eq_ediv_of_nonneg T0, Int.tmod_eq_emod_of_nonneg T0]
    obtain ⟨w3, st, hb3, ch3, sz3⟩ := blk_set hblk (i := (t : Int)) (by omega) (by omega) ((rest * 1000000000 + a.getD t 0) / d)
    simp only [Int.toNat_natCast] at st hb3
    refine exW ⟨by omega, by omega⟩ ⟨⟨by omega, by omega⟩, w3, st, by omega, _, rfl, exW ⟨by omega, by omega⟩ ⟨⟨t, _, by omega, by omega, by simpa using hol, hb3, hx.chg ch3 (by simp; omega), hlo.set ⟨Y0, Y1⟩, Z0, Z1, ?_⟩, ?_⟩⟩
    · have ea : a.drop t = a.getD t 0 :: a.drop (t + 1) := by
        rw [List.drop_eq_getElem_cons (by omega), List.getD_eq_getElem?_getD, List.getElem?_eq_getElem (by omega)]; rfl
      have eo : (o.set t ((rest * 1000000000 + a.getD t 0) / d)).drop t = (rest * 1000000000 + a.getD t 0) / d :: o.drop (t + 1) := by
        rw [List.drop_eq_getElem_cons (by simp; omega), List.getElem_set_self, List.drop_set_of_lt (by omega)]
      rw [ea, eo, val, val, hv, Int.mul_add d]
      have : d * (1000000000 * val (o.drop (t + 1))) = 1000000000 * (d * val (o.drop (t + 1))) := by rw [Int.mul_left_comm]
      omega
    · show (((t + 1 : Nat) : Int) - 1 - 1 + 1).toNat < (((t + 1 : Nat) : Int) - 1 + 1).toNat
      omega
  · have hs0 : s = 0 := by omega
    subst hs0
    simp only [List.drop_zero] at hv
    have hown : Own wr w.heap.size T_int 1 (some ⟨r, 0, none⟩) n n (o.map (Value.int .i64)) := Own.of_blk hblk (by omega) (by simp [hol]) (by simp only [maxLen]; omega)
    refine Ret.at (spec_l02Trim_c hown.ints) ?_
    rintro v w4 ⟨hv4, hw4, hr4⟩
    subst hv4; subst hw4
    have e1 : val a / d = val o := by rw [hv, Int.mul_comm, Int.add_comm, Int.add_mul_ediv_right _ _ (by omega), Int.ediv_eq_zero_of_lt hr0 hr1, Int.zero_add]
    have e2 : val a % d = rest := by rw [hv, Int.mul_comm, Int.add_comm, Int.add_mul_emod_self_right, Int.emod_eq_of_lt hr0 hr1]
    refine ⟨_, _, _, rfl, _, _, _, by rw [e2], ?_, hx⟩
    rw [e1, ← trimL_eq hlo]
    have hle := trimL_len o
    have := hown.sub (m := (trimL o).length) (by omega)
    rwa [← trimL_prefix] at this
theorem spec_l02Sub_o {w : World} {p q : Option Addr} {n c m d : Nat} {a b : List Int} (h : IntsR w p n c a) (k : IntsR w q m d b) (ha : Limbs a) (hb : Limbs b) (hn : n ≤ 10000000) (hbl : m ≤ n) (hab : val b ≤ val a) :
    Ret P n_spec_l02Sub [.slice p n c, .slice q m d] w fun v w' => ∃ p' n' c', v = .slice p' n' c' ∧ Own w' w.heap.size T_int 1 p' n' c' ((digs (val a - val b).toNat).map (Value.int .i64)) ∧ Ext w w' := by
  refine spec_l02Sub_ret ?_
  unfold spec_l02Sub
  have hla := h.1; have hlb := k.1
  intro r w1 hn1
  let Inv : Option Addr → Nat → Nat → Int → Int → World → Prop := fun p on c less i wr => ∃ (o : List Int), i = on ∧ on ≤ n ∧ Own wr w.heap.size T_int 1 p on c (o.map (Value.int .i64)) ∧ Ext w wr ∧ Limbs o ∧ o.length = on ∧ 0 ≤ less ∧ less ≤ 1 ∧ val o - 1000000000 ^ on * less = val (a.take on) - val (b.take on)
  refine ⟨Inv, fun _ _ _ _ i _ => n - i.toNat, ⟨[], rfl, by omega, Own.fresh hn1, hn1.ext, Limbs.nil, rfl, by omega, by omega, by simp [val]⟩, ?_⟩
  intro junk wr op j oc less i ⟨o, hi, hjn, hown, hx, hlo, hol, hc0, hc1, hv⟩
  subst hi
  have A := ha.getD j; have B := hb.getD j
  have bb : (j : Int) < m ∨ b.getD j 0 = 0 := by
    by_cases e : j < m
    · left; omega
    · right; exact getD_beyond (by omega)
  have J1 : ∀ l' u, (j : Int) < n → u = a.getD j 0 - less - b.getD j 0 + 1000000000 * l' → 0 ≤ u → u < 1000000000 → 0 ≤ l' → l' ≤ 1 →
      spec_l02Sub_j1 wr Inv (fun _ _ _ _ i _ => n - i.toNat) op j oc less j l' u wr fun v w' => ∃ p' n' c', v = .slice p' n' c' ∧ Own w' w.heap.size T_int 1 p' n' c' ((digs (val a - val b).toNat).map (Value.int .i64)) ∧ Ext w w' := by
    intro l' u hlt hu h0 h1 h2 h3
    unfold spec_l02Sub_j1
    intro r1 w2 hn2
    obtain ⟨p', c', w3, g1, g2, g3⟩ := Own.push hown hx.le hn2 (by omega)
    refine ⟨_, _, _, _, g1, exW ⟨by omega, by omega⟩ ⟨⟨o ++ [u], by omega, by omega, g2, g3 w hx (Nat.le_refl _), hlo.snoc ⟨h0, h1⟩, by simp [hol], h2, h3, sub_step hol hv rfl hu⟩, ?_⟩⟩
    show n - ((j : Int) + 1).toNat < n - (j : Int).toNat
    omega
  have J0 : ∀ t, (j : Int) < n → t = a.getD j 0 - less - b.getD j 0 →
      spec_l02Sub_j0 wr Inv (fun _ _ _ _ i _ => n - i.toNat) op j oc less j t wr fun v w' => ∃ p' n' c', v = .slice p' n' c' ∧ Own w' w.heap.size T_int 1 p' n' c' ((digs (val a - val b).toNat).map (Value.int .i64)) ∧ Ext w w' := by
    intro t hlt ht
    unfold spec_l02Sub_j0
    exact ifD (fun hneg => exW ⟨by omega, by omega⟩ (J1 1 _ hlt (by omega) (by omega) (by omega) (by omega) (by omega))) (fun hpos => J1 0 _ hlt (by omega) (by omega) (by omega) (by omega) (by omega))
  refine ifD (fun hlt => ?_) (fun hge => ?_)
  · obtain ⟨ad, rfl, hl⟩ := ints_at (h.ext hx) (i := (j : Int)) (by omega) hlt
    refine ⟨⟨by omega, by omega⟩, _, hl, exW ⟨by simp only [Int.toNat_natCast]; omega, by simp only [Int.toNat_natCast]; omega⟩ (ifD (fun hlm => ?_) (fun hge => J0 _ hlt (by simp only [Int.toNat_natCast]; rw [bb.resolve_left hge]; omega)))⟩
    obtain ⟨ad2, rfl, hl2⟩ := ints_at (k.ext hx) (i := (j : Int)) (by omega) hlm
    exact ⟨⟨by omega, by omega⟩, _, hl2, exW ⟨by simp only [Int.toNat_natCast]; omega, by simp only [Int.toNat_natCast]; omega⟩ (J0 _ hlt (by simp only [Int.toNat_natCast]))⟩
  · have hjn' : j = n := by omega
    subst hjn'
    rw [← hla] at hv
    have hval := sub_end hlo (by omega) (by omega) hab hc0 hc1 hv
    refine Ret.at (spec_l02Trim_c hown.ints) ?_
    rintro v w4 ⟨hv4, hw4, hr4⟩
    subst hv4; subst hw4
    refine ⟨_, _, _, rfl, _, _, _, rfl, ?_, hx⟩
    have e := trimL_eq hlo
    rw [hval] at e
    rw [← e]
    have hle := trimL_len o
    have := hown.sub (m := (trimL o).length) (by omega)
    rwa [← trimL_prefix] at this
theorem spec_l03Digit_c {w : World} {p q : Option Addr} {n c m d : Nat} {a b : List Int} (h : IntsR w p n c a) (k : IntsR w q m d b) (ha : Canon a) (hb : Canon b) (hb0 : 0 < m) (hm : m ≤ 100000) (hlt : val a < 1000000000 * val b) :
    Ret P n_spec_l03Digit [.slice p n c, .slice q m d] w fun v w' => v = .int .i64 (val a / val b) ∧ Ext w w' := by
  refine spec_l03Digit_ret ?_
  unfold spec_l03Digit
  have hla := h.1; have hlb := k.1
  have va0 := val_nonneg ha.1
  have vb0 : 0 < val b := canon_pos hb (by intro e; rw [e] at hlb; simp at hlb; omega)
  refine ⟨fun lo hi wr => Ext w wr ∧ 0 ≤ lo ∧ lo ≤ hi ∧ hi ≤ 999999999 ∧ lo * val b ≤ val a ∧ val a < (hi + 1) * val b, fun lo hi _ => (hi - lo).toNat, ⟨Ext.refl _, by omega, by omega, by omega, by omega, by omega⟩, ?_⟩
  intro junk wr lo hi ⟨hx, h0, h1, h2, hl, hh⟩
  refine ifD (fun hmore => ?_) (fun hend => ?_)
  · refine exW ⟨by omega, by omega⟩ (exW ⟨by omega, by omega⟩ ⟨by decide, ?_⟩)
    rw [Int.tdiv_eq_ediv_of_nonneg (by omega)]
    refine exW ⟨by omega, by omega⟩ ?_
    have Q1 : lo < (lo + hi + 1) / 2 := by omega
    have Q2 : (lo + hi + 1) / 2 ≤ hi := by omega
    generalize (lo + hi + 1) / 2 = z at Q1 Q2
    refine Ret.at (spec_NatOf_c (show 0 ≤ z by omega) (by omega)) ?_
    rintro v w1 ⟨p1, n1, c1, hv, o1, y1⟩
    subst hv
    refine ⟨_, _, _, rfl, ?_⟩
    have ln1 : n1 ≤ 1 := by
      have e := o1.len
      have := digs_lenI (z := z) (k := 1) (by omega) (by rw [show (1000000000 : Int) ^ 1 = 1000000000 from rfl]; omega)
      simp only [List.length_map] at e
      omega
    refine Ret.at (spec_l02Mul_c (k.ext (hx.trans y1)) o1.ints hb.1 (digs_limbs _) (by omega) (by omega)) ?_
    rintro v w2 ⟨p2, n2, c2, hv, o2, y2⟩
    subst hv
    refine ⟨_, _, _, rfl, ?_⟩
    rw [val_digsI (by omega)] at o2
    have Z0 : 0 ≤ val b * z := Int.mul_nonneg (by omega) (by omega)
    refine Ret.at (spec_l02Cmp_c o2.ints (h.ext (hx.trans (y1.trans y2)))) ?_
    rintro v w3 ⟨hv, y3⟩
    subst hv
    have hc := cmpL_val (digs_canon (val b * z).toNat) ha
    rw [val_digsI Z0] at hc
    have ezb := Int.mul_comm (val b) z
    refine ⟨_, rfl, ifD (fun hle => ⟨⟨hx.trans (y1.trans (y2.trans y3)), by omega, by omega, by omega, by rcases hc with h | h | h <;> omega, hh⟩, ?_⟩) (fun hgt => exW ⟨by omega, by omega⟩ ⟨⟨hx.trans (y1.trans (y2.trans y3)), by omega, by omega, by omega, hl, ?_⟩, ?_⟩)⟩
    · show (hi - z).toNat < (hi - lo).toNat
      omega
    · rw [Int.sub_add_cancel]; rcases hc with h | h | h <;> omega
    · show (z - 1 - lo).toNat < (hi - lo).toNat
      omega
  · have : lo = hi := by omega
    subst this
    refine ⟨?_, hx⟩
    congr 1
    have e : val a = (val a - lo * val b) + val b * lo := by rw [Int.mul_comm (val b)]; omega
    rw [Int.add_mul, Int.one_mul] at hh
    rw [e, Int.add_mul_ediv_left _ _ (by omega), Int.ediv_eq_zero_of_lt (by omega) (by omega), Int.zero_add]
theorem spec_l03Div_c {w : World} {p q : Option Addr} {n c m d : Nat} {a b : List Int} (h : IntsR w p n c a) (k : IntsR w q m d b) (ha : Limbs a) (hb : Canon b) (hb0 : 0 < m) (hn : n ≤ 100000) (hm : m ≤ 100000) :
    Ret P n_spec_l03Div [.slice p n c, .slice q m d] w fun v w' => ∃ p1 n1 c1 p2 n2 c2, v = .tuple #[.slice p1 n1 c1, .slice p2 n2 c2] ∧ IntsR w' p1 n1 c1 (digs (val a / val b).toNat) ∧ IntsR w' p2 n2 c2 (digs (val a % val b).toNat) ∧ Ext w w' := by
  refine spec_l03Div_ret ?_
  unfold spec_l03Div
  have hla := h.1; have hlb := k.1
  have va0 := val_nonneg ha
  have vb0 : 0 < val b := canon_pos hb (by intro e; rw [e] at hlb; simp at hlb; omega)
  refine ifD (fun hone => ?_) (fun hmore => ?_)
  · have hm1 : m = 1 := by omega
    subst hm1
    have hB := hb.1.getD 0
    have hT := canon_top (m := 0) hb (by omega)
    have ev : val b = b.getD 0 0 := by
      have := val_top (m := 0) hlb
      simpa [val] using this
    obtain ⟨ad, rfl, hl⟩ := ints_at k (i := 0) (by omega) (by omega)
    refine ⟨⟨by omega, by omega⟩, _, by simpa only [Int.toNat_zero] using hl, ?_⟩
    rw [ev]
    simp only [Int.toNat_zero]
    refine Ret.at (spec_l03Small_c h ha ⟨by omega, by omega⟩ (by omega)) ?_
    rintro v w2 ⟨p1, n1, c1, hv, o1, y2⟩
    subst hv
    have Z0 := Int.emod_nonneg (val a) (show b.getD 0 0 ≠ 0 by omega)
    have Z1 := Int.emod_lt_of_pos (val a) (show 0 < b.getD 0 0 by omega)
    refine ⟨_, _, _, _, rfl, ?_⟩
    refine Ret.at (spec_NatOf_c Z0 (by omega)) ?_
    rintro v w3 ⟨p2, n2, c2, hv, o2, y3⟩
    subst hv
    exact ⟨_, _, _, rfl, _, _, _, _, _, _, rfl, (o1.ext y3).ints, o2.ints, y2.trans y3⟩
  · refine ⟨⟨by omega, by omega, by omega⟩, ?_⟩
    intro r w1 hn1 r1 w2 hn2
    have e1 := hn1.r_eq; have e2 := hn2.r_eq; have s1 := hn1.size
    have x2 := hn1.ext.trans hn2.ext
    have hb1 := hn1.blk
    rw [zeroRow_int, Nat.mul_one] at hb1
    refine exW ⟨by omega, by omega⟩ ⟨fun rp rn rc i wr => ∃ (s : Nat) (o : List Int) (R : Int), i = (s : Int) - 1 ∧ s ≤ n ∧ o.length = n ∧ Blk wr r T_int (o.map (Value.int .i64)) ∧ Ext w wr ∧ Limbs o ∧ (∀ z, z < s → o.getD z 0 = 0) ∧ 0 ≤ R ∧ R < val b ∧ IntsR wr rp rn rc (digs R.toNat) ∧ (∀ z, rp.map (·.block) = some z → z ≠ r) ∧ val (a.drop s) = val b * val (o.drop s) + R, fun _ _ _ i _ => (i + 1).toNat,
      ⟨n, List.replicate n 0, 0, rfl, by omega, by simp, by simpa using hb1.ext hn2.ext, x2, Limbs.zeros _, fun z hz => by simp [List.getD_eq_getElem?_getD, hz], by omega, by omega, ?_, ?_, by rw [List.drop_of_length_le (by omega), List.drop_of_length_le (by simp)]; simp [val]⟩, ?_⟩
    · simp only [Int.toNat_zero, digs_zero]; exact (Own.fresh hn2).ints
    · intro z hz; simp at hz; omega
    intro junk wr rp rn rc i ⟨s, o, R, hi, hsn, hol, hblk, hx, hlo, hoz, hR0, hR1, hR, hRb, hv⟩
    subst hi
    have lx := hx.le
    refine ifD (fun hpos => ?_) (fun hend => ?_)
    · obtain ⟨t, rfl⟩ : ∃ t, s = t + 1 := ⟨s - 1, by omega⟩
      have A := ha.getD t
      have ei : ((t + 1 : Nat) : Int) - 1 = (t : Int) := by omega
      rw [ei]
      obtain ⟨ad, rfl, hl⟩ := ints_at (h.ext hx) (i := (t : Int)) (by omega) (by omega)
      simp only [Int.toNat_natCast] at hl ⊢
      refine ⟨⟨by omega, by omega⟩, _, hl, ?_⟩
      intro r2 w3 hn3
      have e3 := hn3.r_eq
      have lR : (digs R.toNat).length ≤ m := by
        have hbl := val_lt hb.1
        rw [hlb] at hbl
        exact digs_lenI hR0 (by omega)
      have lR2 := hR.1
      obtain ⟨p4, c4, w4, ap, o4, x4⟩ := Own.appendI (w := w3) (base := wr.heap.size) (p := some ⟨r2, 0, none⟩) (n := 1) (c := 1) (zs := [a.getD t 0]) (Own.of_blk hn3.blk (by omega) rfl (by simp only [maxLen]; omega)) hn3.ext.le (hR.ext hn3.ext) (by omega)
      refine ⟨_, _, _, _, ap, ?_⟩
      have X4 : Ext wr w4 := x4 wr hn3.ext (Nat.le_refl _)
      have hlim4 : Limbs ([a.getD t 0] ++ digs R.toNat) := Limbs.append.2 ⟨Limbs.cons.2 ⟨A, Limbs.nil⟩, digs_limbs _⟩
      have hval4 : val ([a.getD t 0] ++ digs R.toNat) = a.getD t 0 + 1000000000 * R := by
        rw [List.singleton_append, val, val_digsI hR0]
      refine Ret.at (spec_l02Trim_c o4.ints) ?_
      rintro v w5 ⟨hv5, hw5, hr5⟩
      subst hv5; subst hw5
      rw [trimL_eq hlim4, hval4] at hr5 ⊢
      have hN0 : 0 ≤ a.getD t 0 + 1000000000 * R := by omega
      have hN1 : a.getD t 0 + 1000000000 * R < 1000000000 * val b := by omega
      generalize hN : a.getD t 0 + 1000000000 * R = N at hr5 hN0 hN1
      have hNv := val_digsI hN0
      have hNl : (digs N.toNat).length ≤ m + 1 := by
        refine digs_lenI hN0 ?_
        have hbl := val_lt hb.1
        rw [hlb] at hbl
        rw [Int.pow_succ]; omega
      refine ⟨_, _, _, rfl, ?_⟩
      have p4b : ∀ z, p4.map (·.block) = some z → z ≠ r := fun z hz e => by
        have := (World.ownsRow.lt o4 z (by rw [← hz]; cases p4 <;> rfl)).1
        have := hblk.lt
        omega
      refine Ret.at (spec_l02Cmp_c hr5 (k.ext (hx.trans X4))) ?_
      rintro v w6 ⟨hv6, y6⟩
      subst hv6
      have hc := cmpL_val (digs_canon N.toNat) hb
      rw [hNv] at hc
      have ea : a.drop t = a.getD t 0 :: a.drop (t + 1) := by
        rw [List.drop_eq_getElem_cons (by omega), List.getD_eq_getElem?_getD, List.getElem?_eq_getElem (by omega)]; rfl
      have eo : ∀ x : Int, (o.set t x).drop t = x :: o.drop (t + 1) := fun x => by
        rw [List.drop_eq_getElem_cons (by simp; omega), List.getElem_set_self, List.drop_set_of_lt (by omega)]
      have hstep : ∀ x : Int, val (a.drop t) = val b * val (x :: o.drop (t + 1)) + (N - val b * x) := fun x => by
        rw [ea, val, val, hv, Int.mul_add (val b)]
        have : val b * (1000000000 * val (o.drop (t + 1))) = 1000000000 * (val b * val (o.drop (t + 1))) := by rw [Int.mul_left_comm]
        omega
      have es : o.drop t = 0 :: o.drop (t + 1) := by
        have := hoz t (by omega)
        rw [List.drop_eq_getElem_cons (by omega)]
        rw [List.getD_eq_getElem?_getD, List.getElem?_eq_getElem (by omega)] at this
        simp only [Option.getD_some] at this
        rw [this]
      refine ⟨_, rfl, ifD (fun hless => ?_) (fun hnot => ?_)⟩
      · unfold spec_l03Div_j0
        have X6 := X4.trans y6
        refine exW ⟨by omega, by omega⟩ ⟨⟨t, o, N, by omega, by omega, hol, hblk.ext X6, hx.trans X6, hlo, fun z hz => hoz z (by omega), hN0, by rcases hc with h | h | h <;> omega, hr5.ext y6, p4b, ?_⟩, ?_⟩
        · rw [es, hstep 0, Int.mul_zero, Int.sub_zero]
        · show ((t : Int) - 1 + 1).toNat < ((t : Int) + 1).toNat
          omega
      · have X6 := X4.trans y6
        refine Ret.at (spec_l03Digit_c (hr5.ext y6) (k.ext (hx.trans X6)) (digs_canon _) hb hb0 hm (by rw [hNv]; exact hN1)) ?_
        rintro v w7 ⟨hv7, y7⟩
        subst hv7
        rw [hNv]
        have Q0 : 0 ≤ N / val b := Int.ediv_nonneg hN0 (by omega)
        have Q1 : N / val b < 1000000000 := Int.ediv_lt_of_lt_mul vb0 (by omega)
        have QE := Int.mul_ediv_add_emod N (val b)
        have QM0 := Int.emod_nonneg N (show val b ≠ 0 by omega)
        have QM1 := Int.emod_lt_of_pos N vb0
        generalize N / val b = x at Q0 Q1 QE
        have X7 := X6.trans y7
        have hblk7 := hblk.ext X7
        obtain ⟨w8, st, hb8, ch8, sz8⟩ := blk_set hblk7 (i := (t : Int)) (by omega) (by omega) x
        simp only [Int.toNat_natCast] at st hb8
        have x8 : Ext w w8 := (hx.trans X7).chg ch8 (by simp; omega)
        refine ⟨_, rfl, ⟨by omega, by omega⟩, w8, st, ?_⟩
        refine Ret.at (spec_NatOf_c Q0 (by omega)) ?_
        rintro v w9 ⟨p9, n9, c9, hv, o9, y9⟩
        subst hv
        refine ⟨_, _, _, rfl, ?_⟩
        have ln9 : n9 ≤ 1 := by
          have e := o9.len
          have := digs_lenI (z := x) (k := 1) (by omega) (by rw [show (1000000000 : Int) ^ 1 = 1000000000 from rfl]; omega)
          simp only [List.length_map] at e
          omega
        refine Ret.at (spec_l02Mul_c (k.ext (x8.trans y9)) o9.ints hb.1 (digs_limbs _) (by omega) (by omega)) ?_
        rintro v w10 ⟨p10, n10, c10, hv, o10, y10⟩
        subst hv
        refine ⟨_, _, _, rfl, ?_⟩
        rw [val_digsI Q0] at o10
        have M0 : 0 ≤ val b * x := Int.mul_nonneg (by omega) Q0
        have hr8 := ((hr5.ext (y6.trans y7)).chg ch8 (fun z hz hm => p4b z hz (by simpa using hm))).ext (y9.trans y10)
        have hle : (digs (val b * x).toNat).length ≤ (digs N.toNat).length := by
          refine digs_lenI M0 ?_
          have := val_lt (digs_limbs N.toNat)
          rw [hNv] at this
          omega
        have l10 := o10.len
        simp only [List.length_map] at l10
        refine Ret.at (spec_l02Sub_o hr8 o10.ints (digs_limbs _) (digs_limbs _) (by omega) (by omega) (by rw [hNv, val_digsI M0]; omega)) ?_
        rintro v w11 ⟨p11, n11, c11, hv, o11, y11⟩
        subst hv
        rw [hNv, val_digsI M0] at o11
        refine ⟨_, _, _, rfl, ?_⟩
        unfold spec_l03Div_j0
        have X11 := y9.trans (y10.trans y11)
        refine exW ⟨by omega, by omega⟩ ⟨⟨t, o.set t x, N - val b * x, by omega, by omega, by simpa using hol, hb8.ext X11, x8.trans X11, hlo.set ⟨Q0, Q1⟩, fun z hz => by rw [getD_set_ne _ (by omega)]; exact hoz z (by omega), by omega, by omega, o11.ints, ?_, ?_⟩, ?_⟩
        · intro z hz e
          have := (World.ownsRow.lt o11 z (by rw [← hz]; cases p11 <;> rfl)).1
          have := hblk7.lt; have := y9.le; have := y10.le
          omega
        · rw [eo, hstep x]
        · show ((t : Int) - 1 + 1).toNat < ((t : Int) + 1).toNat
          omega
    · have hs0 : s = 0 := by omega
      subst hs0
      simp only [List.drop_zero] at hv
      have hown : Own wr w.heap.size T_int 1 (some ⟨r, 0, none⟩) n n (o.map (Value.int .i64)) := Own.of_blk hblk (by omega) (by simp [hol]) (by simp only [maxLen]; omega)
      refine Ret.at (spec_l02Trim_c hown.ints) ?_
      rintro v w4 ⟨hv4, hw4, hr4⟩
      subst hv4; subst hw4
      have e1 : val a / val b = val o := by rw [hv, Int.mul_comm, Int.add_comm, Int.add_mul_ediv_right _ _ (by omega), Int.ediv_eq_zero_of_lt hR0 hR1, Int.zero_add]
      have e2 : val a % val b = R := by rw [hv, Int.mul_comm, Int.add_comm, Int.add_mul_emod_self_right, Int.emod_eq_of_lt hR0 hR1]
      rw [trimL_eq hlo] at hr4 ⊢
      refine ⟨_, _, _, rfl, _, _, _, _, _, _, rfl, by rw [e1]; exact hr4, by rw [e2]; exact hR, hx⟩
end Go.Proofs.YtfehpaekbbmkcaaGreatDoor

namespace Go.Proofs.YtfehpaekbbmkcaaGreatDoor
open Go Go.Proofs.YtfehpaekbbmkcaaGreatDoor.Sx
set_option linter.unusedVariables false
set_option linter.unusedSimpArgs false
theorem ints_uniq {w : World} {p : Option Addr} {n c : Nat} {zs ys : List Int} (h : IntsR w p n c zs) (k : IntsR w p n c ys) : zs = ys := by
  have h1 := h.1; have k1 := k.1
  apply List.ext_getElem (by omega)
  intro i hi hj
  obtain ⟨b, o, hp, hs⟩ := h.2.2.2 (by omega)
  obtain ⟨b', o', hp', hs'⟩ := k.2.2.2 (by omega)
  rw [hp] at hp'
  obtain ⟨rfl, rfl⟩ : b = b' ∧ o = o' := by injection hp' with e; injection e with e1 e2; exact ⟨e1, e2⟩
  have a1 := hs i (.int .i64 zs[i]) (by simp [hi])
  have a2 := hs' i (.int .i64 ys[i]) (by simp [hj])
  rw [a1] at a2
  injection a2 with e; injection e
theorem digs_inj {x y : Nat} (h : digs x = digs y) : x = y := by
  have := congrArg val h
  rw [val_digs, val_digs] at this
  omega
/-- what a slice says, as a number (a measure of loops) -/
theorem numAt_ex : ∃ f : World → Option Addr → Nat → Nat → Nat, ∀ W p n c y, IntsR W p n c (digs y) → f W p n c = y := by
  refine ⟨fun W p n c => @dite _ (∃ y, IntsR W p n c (digs y)) (Classical.propDecidable _) (fun h => Classical.choose h) (fun _ => 0), fun W p n c y h => ?_⟩
  have hx : ∃ y, IntsR W p n c (digs y) := ⟨y, h⟩
  show @dite _ (∃ y, IntsR W p n c (digs y)) (Classical.propDecidable _) (fun h => Classical.choose h) (fun _ => 0) = y
  rw [dif_pos hx]
  exact digs_inj (ints_uniq (Classical.choose_spec hx) h)
theorem emod_toNat (x y : Nat) : (((x : Int) % (y : Int)).toNat) = x % y := by
  rw [← Int.natCast_emod]; exact Int.toNat_natCast _
theorem ediv_toNat (x y : Nat) : (((x : Int) / (y : Int)).toNat) = x / y := by
  rw [← Int.natCast_ediv]; exact Int.toNat_natCast _
theorem digs_mod_len {x y : Nat} (h : 0 < y) : (digs (x % y)).length ≤ (digs y).length := by
  refine digs_len _ ?_
  have h1 := val_lt (digs_limbs y)
  rw [val_digs] at h1
  have : ((y : Nat) : Int) < ((1000000000 ^ (digs y).length : Nat) : Int) := by simpa using h1
  exact Nat.lt_trans (Nat.mod_lt _ h) (Int.ofNat_lt.1 this)
theorem digs_mono_len {x y : Nat} (h : x ≤ y) : (digs x).length ≤ (digs y).length := by
  refine digs_len _ ?_
  have h1 := val_lt (digs_limbs y)
  rw [val_digs] at h1
  have : ((y : Nat) : Int) < ((1000000000 ^ (digs y).length : Nat) : Int) := by simpa using h1
  exact Nat.lt_of_le_of_lt h (Int.ofNat_lt.1 this)
theorem gcd_step (x y : Nat) : Nat.gcd y (x % y) = Nat.gcd x y := by
  rw [Nat.gcd_comm x y, Nat.gcd_rec y x, Nat.gcd_comm]
theorem impl_natGcd_c {w : World} {p q : Option Addr} {n c m d : Nat} {x y : Nat} (h : IntsR w p n c (digs x)) (k : IntsR w q m d (digs y)) (hn : n ≤ 100000) (hm : m ≤ 100000) :
    Ret P n_impl_natGcd [.slice p n c, .slice q m d] w fun v w' => ∃ p' n' c', v = .slice p' n' c' ∧ Own w' w.heap.size T_int 1 p' n' c' ((digs (Nat.gcd x y)).map (Value.int .i64)) ∧ Ext w w' := by
  refine impl_natGcd_ret ?_
  unfold impl_natGcd
  obtain ⟨f, hf⟩ := numAt_ex
  refine ⟨fun ap an ac bp bn bc wr => ∃ s t, IntsR wr ap an ac (digs s) ∧ IntsR wr bp bn bc (digs t) ∧ an ≤ 100000 ∧ bn ≤ 100000 ∧ Ext w wr ∧ Nat.gcd s t = Nat.gcd x y, fun _ _ _ bp bn bc W => f W bp bn bc, ⟨x, y, h, k, hn, hm, Ext.refl _, rfl⟩, ?_⟩
  intro junk wr ap an ac bp bn bc ⟨s, t, ha, hb, han, hbn, hx, hg⟩
  have hbl := hb.1
  refine ifD (fun hlt => ?_) (fun hge => ?_)
  · have ht : 0 < t := by
      rcases Nat.eq_zero_or_pos t with e | e
      · subst e; rw [digs_zero] at hbl; simp at hbl; omega
      · exact e
    refine Ret.at (impl_natDiv_c ha hb (digs_canon _) (digs_canon _) (by omega) han hbn) ?_
    rintro v w1 ⟨p1, n1, c1, p2, n2, c2, hv, o1, o2, _, y1⟩
    subst hv
    rw [val_digs, val_digs, emod_toNat] at o2
    have hn2 : n2 ≤ bn := by
      have := o2.len
      simp only [List.length_map] at this
      have := digs_mod_len (x := s) ht
      omega
    refine ⟨_, _, _, _, _, _, rfl, ⟨t, s % t, hb.ext y1, o2.ints, hbn, by omega, hx.trans y1, by rw [gcd_step, hg]⟩, ?_⟩
    show f w1 p2 n2 c2 < f wr bp bn bc
    rw [hf _ _ _ _ _ o2.ints, hf _ _ _ _ _ hb]
    exact Nat.mod_lt _ ht
  · have ht : t = 0 := by
      have : bn = 0 := by omega
      rw [this] at hbl
      exact digs_nil.1 (List.eq_nil_of_length_eq_zero hbl)
    subst ht
    rw [Nat.gcd_zero_right] at hg
    subst hg
    refine Ret.at (impl_natCopy_c ha (by omega)) ?_
    rintro v w1 ⟨p', c', hv, ho, y1⟩
    subst hv
    exact ⟨_, _, _, rfl, _, _, _, rfl, ho.mono hx.le, hx.trans y1⟩
theorem spec_NatGcd_c {w : World} {p q : Option Addr} {n c m d : Nat} {x y : Nat} (h : IntsR w p n c (digs x)) (k : IntsR w q m d (digs y)) (hn : n ≤ 50) (hm : m ≤ 50) :
    Ret P n_spec_NatGcd [.slice p n c, .slice q m d] w fun v w' => ∃ p' n' c', v = .slice p' n' c' ∧ IntsR w' p' n' c' (digs (Nat.gcd x y)) ∧ Ext w w' := by
  refine spec_NatGcd_ret ?_
  unfold spec_NatGcd
  have hl := h.1; have kl := k.1
  have okx : natOk (digs x) = true := natOk_spec.2 ⟨digs_canon x, by omega⟩
  have oky : natOk (digs y) = true := natOk_spec.2 ⟨digs_canon y, by omega⟩
  refine Ret.at (spec_NatOk_c h) ?_
  rintro v w1 ⟨hv, y1⟩
  subst hv
  refine ⟨_, rfl, ifN (fun e => by rw [okx] at e; cases e) (fun _ => ?_)⟩
  refine Ret.at (spec_NatOk_c (k.ext y1)) ?_
  rintro v w2 ⟨hv, y2⟩
  subst hv
  refine ⟨_, rfl, ifN (fun e => by rw [oky] at e; cases e) (fun _ => ?_)⟩
  have x2 := y1.trans y2
  unfold spec_NatGcd_j0
  intro r w3 hn3
  obtain ⟨p4, c4, w4, ap4, o4, x4⟩ := Own.appendI (Own.fresh hn3) hn3.ext.le (h.ext (x2.trans hn3.ext)) (by omega)
  rw [List.nil_append, Nat.zero_add] at o4
  rw [Nat.zero_add] at ap4
  have X4 := x4 w2 hn3.ext (Nat.le_refl _)
  refine ⟨_, _, _, _, ap4, ?_⟩
  intro r5 w5 hn5
  obtain ⟨p6, c6, w6, ap6, o6, x6⟩ := Own.appendI (Own.fresh hn5) hn5.ext.le (k.ext ((x2.trans X4).trans hn5.ext)) (by omega)
  rw [List.nil_append, Nat.zero_add] at o6
  rw [Nat.zero_add] at ap6
  have X6 := x6 w4 hn5.ext (Nat.le_refl _)
  refine ⟨_, _, _, _, ap6, ?_⟩
  obtain ⟨f, hf⟩ := numAt_ex
  refine ⟨fun ap an ac bp bn bc wr => ∃ s t, IntsR wr ap an ac (digs s) ∧ IntsR wr bp bn bc (digs t) ∧ an ≤ 100000 ∧ bn ≤ 100000 ∧ Ext w wr ∧ Nat.gcd s t = Nat.gcd x y, fun _ _ _ bp bn bc W => f W bp bn bc, ⟨x, y, (o4.ext X6).ints, o6.ints, by omega, by omega, (x2.trans X4).trans X6, rfl⟩, ?_⟩
  intro junk wr ap an ac bp bn bc ⟨s, t, ha, hb, han, hbn, hx, hg⟩
  have hbl := hb.1
  refine ifD (fun hlt => ?_) (fun hge => ?_)
  · have ht : 0 < t := by
      rcases Nat.eq_zero_or_pos t with e | e
      · subst e; rw [digs_zero] at hbl; simp at hbl; omega
      · exact e
    refine Ret.at (spec_l03Div_c ha hb (digs_limbs _) (digs_canon _) (by omega) han hbn) ?_
    rintro v w1 ⟨p1, n1, c1, p2, n2, c2, hv, o1, o2, y1⟩
    subst hv
    rw [val_digs, val_digs, emod_toNat] at o2
    have hn2 : n2 ≤ bn := by
      have := o2.1
      have := digs_mod_len (x := s) ht
      omega
    refine ⟨_, _, _, _, _, _, rfl, ⟨t, s % t, hb.ext y1, o2, hbn, by omega, hx.trans y1, by rw [gcd_step, hg]⟩, ?_⟩
    show f w1 p2 n2 c2 < f wr bp bn bc
    rw [hf _ _ _ _ _ o2, hf _ _ _ _ _ hb]
    exact Nat.mod_lt _ ht
  · have ht : t = 0 := by
      have : bn = 0 := by omega
      rw [this] at hbl
      exact digs_nil.1 (List.eq_nil_of_length_eq_zero hbl)
    subst ht
    rw [Nat.gcd_zero_right] at hg
    subst hg
    exact ⟨_, _, _, rfl, ha, hx⟩
def ratOk : List D0 → Bool
  | [.bool s, .ints x, .ints y] => intOk [.bool s, .ints x] && natOk y && !y.isEmpty && decide (y.length ≤ 18) && decide (x.length ≤ 18) && decide (Nat.gcd (val x).toNat (val y).toNat = 1)
  | _ => false
theorem digs_one : digs 1 = [1] := by rw [digs_pos (by decide)]; simp [digs_zero]
theorem gcd_one {l : List Int} {g : Nat} (h : l = digs g) : (decide (g = 1)) = (decide (l.length = 1) && decide (l.getD 0 0 = 1)) := by
  subst h
  by_cases e : g = 1
  · subst e; rw [digs_one]; rfl
  · rw [decide_eq_false e]
    symm
    rw [Bool.and_eq_false_iff]
    by_cases h1 : (digs g).length = 1
    · right
      rw [decide_eq_false_iff_not]
      intro h2
      apply e
      have hv := val_digs g
      have := val_top (m := 0) h1
      rw [h2] at this
      simp [val] at this
      omega
    · left; simp [h1]
theorem impl_RatOk_c {w : World} {xs : List Value} {dx : List D0} (h : Reps w xs dx) (hc : dx.map D0.code = [.bool, .ints, .ints]) :
    Ret P n_impl_RatOk [.agg ⟨xs⟩] w fun v w' => v = .bool (ratOk dx) ∧ Ext w w' := by
  have hr := h
  obtain ⟨a0, a1p, a1n, a1c, a1z, a2p, a2n, a2c, a2z, rfl, rfl, ir1, ir2⟩ := open_Rat h hc
  refine impl_RatOk_ret ?_
  unfold impl_RatOk
  intro r w1 hn1
  have l1 := ir1.1; have l2 := ir2.1
  have hi : Reps w1 [.bool a0, .slice a1p a1n a1c] [.bool a0, .ints a1z] := ⟨rfl, ⟨_, _, _, rfl, ir1.ext hn1.ext⟩, trivial⟩
  have b := hn1.blk
  refine ⟨_, _, _, _, b.loadAAt 0 [.bool a0, .slice a1p a1n a1c] rfl (by kernel_rfl) rfl, ?_⟩
  refine Ret.at (impl_IntOk_c hi rfl) ?_
  rintro v w2 ⟨hv, y2⟩
  subst hv
  have b2 := b.ext y2
  have X2 := hn1.ext.trans y2
  refine ⟨_, rfl, ifN (fun e => ifT (ifT (ifT (ifT ⟨by simp [ratOk, e], X2⟩)))) (fun e1 => ⟨_, _, _, b2.loadAt 2 rfl (by kernel_rfl) rfl, ?_⟩)⟩
  refine Ret.at (impl_NatOk_c (ir2.ext X2)) ?_
  rintro v w3 ⟨hv, y3⟩
  subst hv
  have b3 := b2.ext y3
  have X3 := X2.trans y3
  refine ⟨_, rfl, ifN (fun e => ifT (ifT (ifT ⟨by simp [ratOk, e], X3⟩))) (fun e2 => ⟨_, _, _, b3.loadAt 2 rfl (by kernel_rfl) rfl, ifD (fun e => ifT (ifT ⟨?_, X3⟩)) (fun e3 => ⟨_, _, _, b3.loadAt 2 rfl (by kernel_rfl) rfl, ifD (fun e => ifT ⟨?_, X3⟩) (fun e4 => ⟨_, _, _, b3.loadAt 1 rfl (by kernel_rfl) rfl, ifD (fun e => ⟨?_, X3⟩) (fun e5 => ?_)⟩)⟩)⟩)⟩
  · have : a2z = [] := List.eq_nil_of_length_eq_zero (by omega)
    simp [ratOk, this]
  · simp only [ratOk, show decide (a2z.length ≤ 18) = false by simp; omega, Bool.and_false, Bool.false_and]
  · simp only [ratOk, show decide (a1z.length ≤ 18) = false by simp; omega, Bool.and_false, Bool.false_and]
  unfold impl_RatOk_j0
  have ok1 := natOk_spec.1 e2
  have ok0 := (intOk_enc e1).2
  obtain ⟨b', z', ez, can1, _⟩ := ok0
  simp only [List.cons.injEq, D0.ints.injEq, D0.bool.injEq, and_true] at ez
  obtain ⟨_, rfl⟩ := ez
  have r1 := ir1.ext X3; have r2 := ir2.ext X3
  rw [← digs_val can1] at r1
  rw [← digs_val ok1.1] at r2
  refine ⟨_, _, _, b3.loadAt 1 rfl (by kernel_rfl) rfl, _, _, _, b3.loadAt 2 rfl (by kernel_rfl) rfl, ?_⟩
  refine Ret.at (impl_natGcd_c r1 r2 (by omega) (by omega)) ?_
  rintro v w4 ⟨p', n', c', hv, ho, y4⟩
  subst hv
  have hlen := ho.len
  simp only [List.length_map] at hlen
  have g := gcd_one (g := Nat.gcd (val a1z).toNat (val a2z).toNat) rfl
  have hne : a2z.isEmpty = false := by cases a2z with
    | nil => simp at l2; omega
    | cons => rfl
  have val' : ratOk [.bool a0, .ints a1z, .ints a2z] = decide (Nat.gcd (val a1z).toNat (val a2z).toNat = 1) := by
    simp only [ratOk, e1, e2, hne, show decide (a2z.length ≤ 18) = true by simp; omega, show decide (a1z.length ≤ 18) = true by simp; omega, Bool.not_false, Bool.and_self, Bool.true_and]
  rw [val', g]
  refine ⟨_, _, _, rfl, ifD (fun h1 => ?_) (fun h1 => ⟨?_, X3.trans y4⟩)⟩
  · obtain ⟨ad, rfl, hl⟩ := ints_at ho.ints (i := 0) (by omega) (by omega)
    refine ⟨⟨by omega, by omega⟩, _, by simpa only [Int.toNat_zero] using hl, ?_, X3.trans y4⟩
    rw [show decide ((digs (Nat.gcd (val a1z).toNat (val a2z).toNat)).length = 1) = true by simp; omega, Bool.true_and]
  · rw [show decide ((digs (Nat.gcd (val a1z).toNat (val a2z).toNat)).length = 1) = false by simp; omega, Bool.false_and]
theorem spec_RatOk_c {w : World} {xs : List Value} {dx : List D0} (h : Reps w xs dx) (hc : dx.map D0.code = [.bool, .ints, .ints]) :
    Ret P n_spec_RatOk [.agg ⟨xs⟩] w fun v w' => v = .bool (ratOk dx) ∧ Ext w w' := by
  have hr := h
  obtain ⟨a0, a1p, a1n, a1c, a1z, a2p, a2n, a2c, a2z, rfl, rfl, ir1, ir2⟩ := open_Rat h hc
  refine spec_RatOk_ret ?_
  unfold spec_RatOk
  intro r w1 hn1
  have l1 := ir1.1; have l2 := ir2.1
  have hi : Reps w1 [.bool a0, .slice a1p a1n a1c] [.bool a0, .ints a1z] := ⟨rfl, ⟨_, _, _, rfl, ir1.ext hn1.ext⟩, trivial⟩
  have b := hn1.blk
  refine ⟨_, _, _, _, b.loadAAt 0 [.bool a0, .slice a1p a1n a1c] rfl (by kernel_rfl) rfl, ?_⟩
  refine Ret.at (spec_IntOk_c hi rfl) ?_
  rintro v w2 ⟨hv, y2⟩
  subst hv
  have b2 := b.ext y2
  have X2 := hn1.ext.trans y2
  refine ⟨_, rfl, ifN (fun e => ifT (ifT (ifT (ifT ⟨by simp [ratOk, e], X2⟩)))) (fun e1 => ⟨_, _, _, b2.loadAt 2 rfl (by kernel_rfl) rfl, ?_⟩)⟩
  refine Ret.at (spec_NatOk_c (ir2.ext X2)) ?_
  rintro v w3 ⟨hv, y3⟩
  subst hv
  have b3 := b2.ext y3
  have X3 := X2.trans y3
  refine ⟨_, rfl, ifN (fun e => ifT (ifT (ifT ⟨by simp [ratOk, e], X3⟩))) (fun e2 => ⟨_, _, _, b3.loadAt 2 rfl (by kernel_rfl) rfl, ifD (fun e => ifT (ifT ⟨?_, X3⟩)) (fun e3 => ⟨_, _, _, b3.loadAt 2 rfl (by kernel_rfl) rfl, ifD (fun e => ifT ⟨?_, X3⟩) (fun e4 => ⟨_, _, _, b3.loadAt 1 rfl (by kernel_rfl) rfl, ifD (fun e => ⟨?_, X3⟩) (fun e5 => ?_)⟩)⟩)⟩)⟩
  · have : a2z = [] := List.eq_nil_of_length_eq_zero (by omega)
    simp [ratOk, this]
  · simp only [ratOk, show decide (a2z.length ≤ 18) = false by simp; omega, Bool.and_false, Bool.false_and]
  · simp only [ratOk, show decide (a1z.length ≤ 18) = false by simp; omega, Bool.and_false, Bool.false_and]
  have ok1 := natOk_spec.1 e2
  have ok0 := (intOk_enc e1).2
  obtain ⟨b', z', ez, can1, _⟩ := ok0
  simp only [List.cons.injEq, D0.ints.injEq, D0.bool.injEq, and_true] at ez
  obtain ⟨_, rfl⟩ := ez
  have r1 := ir1.ext X3; have r2 := ir2.ext X3
  rw [← digs_val can1] at r1
  rw [← digs_val ok1.1] at r2
  refine ⟨_, _, _, b3.loadAt 1 rfl (by kernel_rfl) rfl, _, _, _, b3.loadAt 2 rfl (by kernel_rfl) rfl, ?_⟩
  refine Ret.at (spec_NatGcd_c r1 r2 (by omega) (by omega)) ?_
  rintro v w4 ⟨p', n', c', hv, ho, y4⟩
  subst hv
  have hne : a2z.isEmpty = false := by cases a2z with
    | nil => simp at l2; omega
    | cons => rfl
  have val' : ratOk [.bool a0, .ints a1z, .ints a2z] = decide (Nat.gcd (val a1z).toNat (val a2z).toNat = 1) := by
    simp only [ratOk, e1, e2, hne, show decide (a2z.length ≤ 18) = true by simp; omega, show decide (a1z.length ≤ 18) = true by simp; omega, Bool.not_false, Bool.and_self, Bool.true_and]
  refine ⟨_, _, _, rfl, fun r5 w5 hn5 => ?_⟩
  have one : IntsR w5 (some ⟨r5, 0, none⟩) 1 1 [1] := ⟨rfl, Nat.le_refl _, by omega, fun _ => ⟨_, 0, rfl, hn5.blk.seg⟩⟩
  refine Ret.at (spec_l02Cmp_c (ho.ext hn5.ext) one) ?_
  rintro v w6 ⟨hv, y6⟩
  subst hv
  refine ⟨_, rfl, ?_, X3.trans (y4.trans (hn5.ext.trans y6))⟩
  rw [val', ← digs_one]
  by_cases e : Nat.gcd (val a1z).toNat (val a2z).toNat = 1
  · have h0 : cmpL (digs (Nat.gcd (val a1z).toNat (val a2z).toNat)) (digs 1) = 0 := cmpL_zero.2 (congrArg digs e)
    rw [decide_eq_true h0, decide_eq_true e]
  · have : ¬ cmpL (digs (Nat.gcd (val a1z).toNat (val a2z).toNat)) (digs 1) = 0 := fun hc => e (digs_inj (cmpL_zero.1 hc))
    rw [decide_eq_false this, decide_eq_false e]
end Go.Proofs.YtfehpaekbbmkcaaGreatDoor

namespace Go.Proofs.YtfehpaekbbmkcaaGreatDoor
open Go Go.Proofs.YtfehpaekbbmkcaaGreatDoor.Sx
set_option linter.unusedVariables false
set_option linter.unusedSimpArgs false
def sgn (z : Int) : Int := if z < 0 then -1 else if z = 0 then 0 else 1
theorem impl_intSign_c {w : World} {xs : List Value} {z : Int} (h : Reps w xs (enc z)) : Ret P n_impl_intSign [.agg ⟨xs⟩] w fun v w' => v = .int .i64 (sgn z) ∧ Ext w w' := by
  obtain ⟨a0, a1p, a1n, a1c, a1z, rfl, hd, ha⟩ := open_Signed h rfl
  simp only [enc, List.cons.injEq, D0.bool.injEq, D0.ints.injEq, and_true] at hd
  obtain ⟨rfl, rfl⟩ := hd
  have hl := ha.1
  have he := isEmpty_digs (n := z.natAbs)
  refine impl_intSign_ret ?_
  unfold impl_intSign
  intro r w1 hn
  have hzero : (a1n = 0) ↔ z = 0 := by
    rw [← hl, List.length_eq_zero_iff, digs_nil]; omega
  refine ⟨_, _, _, hn.blk.load (by kernel_rfl) rfl, ifD (fun h0 => ⟨?_, hn.ext⟩) (fun h0 => ⟨_, hn.blk.load (by kernel_rfl) rfl, fun e => ⟨?_, hn.ext⟩, fun e => ⟨?_, hn.ext⟩⟩)⟩
  · have : z = 0 := hzero.1 (by omega)
    subst this; rfl
  · have e := of_decide_eq_true e
    simp [sgn, e]
  · have e := of_decide_eq_false e
    have : z ≠ 0 := fun h => h0 (by have := hzero.2 h; omega)
    simp [sgn, e, this]
end Go.Proofs.YtfehpaekbbmkcaaGreatDoor

namespace Go.Proofs.YtfehpaekbbmkcaaGreatDoor
open Go Go.Proofs.YtfehpaekbbmkcaaGreatDoor.Sx
set_option linter.unusedVariables false
set_option linter.unusedSimpArgs false
/-- the comparison of valid integers is the sign of the difference -/
theorem icmp_enc {x y : Int} (hx : intOk (enc x) = true) (hy : intOk (enc y) = true) : icmp (enc x) (enc y) = sgn (x - y) := by
  have cv := cmpL_val (digs_canon x.natAbs) (digs_canon y.natAbs)
  have cv2 := cmpL_val (digs_canon y.natAbs) (digs_canon x.natAbs)
  rw [val_digs, val_digs] at cv cv2
  unfold enc at hx hy
  unfold enc
  simp only [icmp, hx, hy, Bool.not_true, Bool.or_self, Bool.false_eq_true, if_false, sgn]
  by_cases h1 : x < 0 <;> by_cases h2 : y < 0 <;> simp only [h1, h2, decide_true, decide_false, Bool.not_true, Bool.not_false, Bool.and_true, Bool.true_and, Bool.and_false, Bool.false_and, Bool.false_eq_true, if_true, if_false]
  · rcases cv2 with ⟨h, h'⟩ | ⟨h, h'⟩ | ⟨h, h'⟩ <;> rw [h] <;> (repeat' split) <;> omega
  · (repeat' split) <;> omega
  · (repeat' split) <;> omega
  · rcases cv with ⟨h, h'⟩ | ⟨h, h'⟩ | ⟨h, h'⟩ <;> rw [h] <;> (repeat' split) <;> omega
end Go.Proofs.YtfehpaekbbmkcaaGreatDoor

namespace Go.Proofs.YtfehpaekbbmkcaaGreatDoor
open Go Go.Proofs.YtfehpaekbbmkcaaGreatDoor.Sx
set_option linter.unusedVariables false
set_option linter.unusedSimpArgs false
/-- append onto an empty slice without room: nothing that is there is touched -/
theorem Sx.append0 {w : World} {r : Nat} {q : Option Addr} {m d : Nat} {ys : List Int} (hb : Blk w r T_int []) (k : IntsR w q m d ys) (hm : m ≤ 100000000) :
    ∃ p' c' w', Appends P [T_s_int, T_s_int] [.slice (some ⟨r, 0, none⟩) 0 0, .slice q m d] (.slice p' m c') w w' ∧ Own w' r T_int 1 p' m c' (ys.map (Value.int .i64)) ∧ Ext w w' := by
  have h : Own w r T_int 1 (some ⟨r, 0, none⟩) 0 0 (([] : List Int).map (Value.int .i64)) := Own.of_blk0 hb (Nat.le_refl _) rfl (by decide)
  obtain ⟨p', c', w', h1, h2, h3⟩ := Own.appendI h (Nat.le_of_lt hb.lt) k (by omega)
  rw [Nat.zero_add] at h1 h2
  refine ⟨p', c', w', h1, by simpa using h2, ?_⟩
  obtain ⟨hu, hi, hz, hs⟩ := sliceT_int
  cases hinf : P.info? T_int with
  | none => rw [hinf] at hi; cases hi
  | some i =>
    rw [hinf] at hi
    simp only [Option.map_some, Option.some.injEq, Prod.mk.injEq] at hi
    cases q with
    | none =>
      have hm0 : m = 0 := by
        rcases Nat.eq_zero_or_pos m with h0 | h0
        · exact h0
        · obtain ⟨b, off, hp, _⟩ := k.2.2.2 h0; cases hp
      subst hm0
      have := run_append_none (P := P) w r T_s_int 0 T_int i 1 hu hinf _ 0 d _ h
      have h1 : (Builtin.append_ #[T_s_int, T_s_int] 0 #[.slice (some ⟨r, 0, none⟩) 0 0, .slice none 0 d]).run P w = .ok (.slice p' 0 c') w' := h1
      rw [this] at h1
      cases h1
      exact Ext.refl _
    | some a =>
      have hcells : ∀ j u, (ys.map (Value.int .i64))[j]? = some u → w.cell? (a.add j) = some u := by
        intro j u hj
        have hl : j < m := by
          have := (List.getElem?_eq_some_iff.1 hj).1
          rw [List.length_map, k.1] at this; exact this
        obtain ⟨b, off, hp, hseg⟩ := k.2.2.2 (by omega)
        cases hp
        rw [addr_add]
        exact hseg j u hj
      have h1 : (Builtin.append_ #[T_s_int, T_s_int] 0 #[.slice (some ⟨r, 0, none⟩) 0 0, .slice (some a) m d]).run P w = .ok (.slice p' m c') w' := h1
      rcases Nat.eq_zero_or_pos m with h0 | h0
      · subst h0
        have hy : ys = [] := List.eq_nil_of_length_eq_zero k.1
        subst hy
        have := run_append_room (P := P) w T_s_int 0 T_int i hu hinf r 0 0 #[] hb a 0 d [] (by simp) (by simp) (by simp) (by omega) (by simp)
        rw [this] at h1
        cases h1
        have e : w.setRow r ((#[] : Array Value).toList.take (0 * i.size) ++ ([] : List Value) ++ (#[] : Array Value).toList.drop (0 * i.size + ([] : List Value).length)).toArray = w := by
          have := setRow_self w r #[] T_int (0, 0) hb
          simpa using this
        rw [e]
        exact Ext.refl _
      · have hnext : Builtin.nextslicecap (0 + m) 0 * i.bytes ≤ 281474976710656 := by
          rw [Nat.zero_add, nextslicecap_zero h0, hi.2.2]; omega
        have := run_append_grow (P := P) w T_s_int 0 T_int i (.int .i64 0) hu hinf hi.1 ⟨r, 0, none⟩ 0 0 [] (by simp) (by simp) a m d (ys.map (Value.int .i64)) (by simp [k.1, hi.2.1]) hcells (by omega) (by omega) hnext
        rw [this] at h1
        injection h1 with _ hw
        rw [← hw]
        exact (Ext.drew w).trans ((Go.RowKit.Below.refl _ _).alloc (Nat.le_refl _) _)
/-- what floats lies where it was laid -/
theorem Sx.Fl.got {os : List Obj} {ss : List (Option Nat)} {w : World} {ss' : List (Option Nat)} {w' : World} (h : Fl os ss w ss' w') : ∀ {k r : Nat} {o : Obj}, ss[k]? = some none → os[k]? = some o → ss'[k]? = some (some r) → w.heap.size ≤ r ∧ w'.heap[r]? = some o := by
  induction h with
  | refl => intro k r o h0 _ h1; rw [h0] at h1; cases h1
  | step h1 h2 h3 ih =>
    rename_i ss w k' o' ss' w'
    intro k r o h0 ho hr
    by_cases hk : k' = k
    · subst hk
      rw [h2] at ho
      cases ho
      have hset : (ss.set k' (some w.heap.size))[k']? = some (some w.heap.size) := by
        rw [List.getElem?_set_self]
        exact (List.getElem?_eq_some_iff.1 h1).1
      have := h3.keeps hset
      rw [this] at hr
      cases hr
      exact ⟨Nat.le_refl _, (h3.ext.block _ (by simp)).trans (heap_alloc_new w _)⟩
    · obtain ⟨a, b⟩ := ih (k := k) (r := r) (o := o) (by rw [List.getElem?_set_ne hk]; exact h0) ho hr
      refine ⟨?_, b⟩
      have : w.heap.size ≤ (w.alloc o').heap.size := by simp
      omega
theorem spec_l19Rat_c {w : World} {xs : List Value} {dx : List D0} (h : Reps w xs dx) (hc : dx.map D0.code = [.bool, .ints, .ints]) (hb : bulks dx ≤ 100000000) :
    Ret P n_spec_l19Rat [.agg ⟨xs⟩] w fun v w' => ∃ vs' f, v = .agg ⟨vs'⟩ ∧ Owns w' w.heap.size vs' dx f ∧ Ext w w' := by
  obtain ⟨a0, a1p, a1n, a1c, a1z, a2p, a2n, a2c, a2z, rfl, rfl, ha, hd⟩ := open_Rat h hc
  have l1 := ha.1; have l2 := hd.1
  simp only [bulks, D0.bulk, List.map_cons, List.map_nil, List.sum_cons, List.sum_nil] at hb
  refine spec_l19Rat_ret ?_
  unfold spec_l19Rat
  intro r w1 hn1 r1 w2 hn2
  have D := Ext.drew w2
  have X := (hn1.ext.trans hn2.ext).trans D
  have k0 := hn1.blk.ext hn2.ext; have k1 := hn2.blk.ext D
  have e2 := hn2.r_eq; have s1 := hn1.size; have s2 := hn2.size; have lD := D.le
  refine ⟨_, fun W hW => (k0.ext (D.trans hW)).loadAt 0 rfl (by kernel_rfl) rfl, _, _, _, fun W hW => (k0.ext (D.trans hW)).loadAt 1 rfl (by kernel_rfl) rfl, ?_⟩
  intro ss w4 r2 f1 g1 ss1 w5 f2
  obtain ⟨b1, hb1⟩ := f1.got (k := 0) rfl rfl g1
  have hb1 : Blk w4 r2 T_int [] := hb1
  have Y := f1.ext.trans f2.ext
  obtain ⟨p, c, w6, a1, o1, y6⟩ := append0 (hb1.ext f2.ext) (ha.ext (X.trans Y)) (by omega)
  refine ⟨_, _, _, _, a1, y6, _, _, _, fun W hW => (k0.ext (D.trans hW)).loadAt 2 rfl (by kernel_rfl) rfl, ?_⟩
  intro ss2 w8 r3 f3 g3
  -- the second lies since the first or since the third
  have hb3 : w2.drew.heap.size ≤ r3 ∧ Blk w8 r3 T_int [] := by
    have n0 : ([none, none] : List (Option Nat))[1]? = some none := rfl
    have len1 : ss1.length = 2 := by rw [f2.len, f1.len]; rfl
    cases hs : ss[1]? with
    | none => 
      have := f1.len
      rw [List.getElem?_eq_none_iff, this] at hs
      simp at hs
    | some v =>
      cases v with
      | some q =>
        obtain ⟨b, hq⟩ := f1.got (k := 1) n0 rfl hs
        have e := (f3.keeps (f2.keeps hs)).symm.trans g3
        have e : q = r3 := by simpa using e
        rw [e] at b hq
        exact ⟨b, ((Blk.ext (show Blk w4 r3 T_int [] from hq) f2.ext).ext y6).ext f3.ext⟩
      | none =>
        cases hs1 : ss1[1]? with
        | none => rw [List.getElem?_eq_none_iff, len1] at hs1; simp at hs1
        | some v =>
          cases v with
          | some q =>
            obtain ⟨b, hq⟩ := f2.got (k := 1) hs rfl hs1
            have e := (f3.keeps hs1).symm.trans g3
            have e : q = r3 := by simpa using e
            rw [e] at b hq
            exact ⟨Nat.le_trans f1.ext.le b, (Blk.ext (show Blk w5 r3 T_int [] from hq) y6).ext f3.ext⟩
          | none =>
            obtain ⟨b, hq⟩ := f3.got (k := 1) hs1 rfl g3
            exact ⟨Nat.le_trans ((Y.trans y6).le) b, hq⟩
  have Z := (Y.trans y6).trans f3.ext
  obtain ⟨p2, c2, w9, a2, o2, y9⟩ := append0 hb3.2 (hd.ext (X.trans Z)) (by omega)
  have Z2 := Z.trans y9
  obtain ⟨w10, st, hb10, ch, sz⟩ := (k1.ext Z2).storeA0 (P := P) (t := T_impl_Rat) (xs := [.bool a0, .slice p a1n c, .slice p2 a2n c2]) (by kernel_rfl) rfl (by simp [Value.oneCell'])
  have n1 : ∀ q, p.map (·.block) = some q → q ∉ [r1] := fun q hq hm => by
    have := (World.ownsRow.lt (o1.mono b1) q (by rw [← hq]; cases p <;> rfl)).1
    simp at hm; omega
  have n2 : ∀ q, p2.map (·.block) = some q → q ∉ [r1] := fun q hq hm => by
    have := (World.ownsRow.lt (o2.mono hb3.1) q (by rw [← hq]; cases p2 <;> rfl)).1
    simp at hm; omega
  have q1 : Own w10 w.heap.size T_int 1 p a1n c (a1z.map (Value.int .i64)) := (((o1.ext f3.ext).ext y9).chg ch n1).mono (by omega)
  have q2 : Own w10 w.heap.size T_int 1 p2 a2n c2 (a2z.map (Value.int .i64)) := (o2.chg ch n2).mono (by have := hb3.1; omega)
  exact ⟨_, _, _, _, a2, y9, w10, st, _, _, _, _, _, _, _, hb10.loadA0 (by kernel_rfl), _, _, rfl, Owns.append (Owns.bool _ _ a0) (Owns.append (Owns.ints q1) (Owns.ints q2)), (X.trans Z2).chg ch (by simp; omega)⟩
theorem impl_intCopy_c {w : World} {xs : List Value} {dx : List D0} (h : Reps w xs dx) (hc : dx.map D0.code = [.bool, .ints]) (hb : bulks dx ≤ 100000000) :
    Ret P n_impl_intCopy [.agg ⟨xs⟩] w fun v w' => ∃ vs' f, v = .agg ⟨vs'⟩ ∧ Owns w' w.heap.size vs' dx f ∧ f.Nodup ∧ Ext w w' := by
  obtain ⟨a0, a1p, a1n, a1c, a1z, rfl, rfl, ha⟩ := open_Signed h hc
  have l1 := ha.1
  simp only [bulks, D0.bulk, List.map_cons, List.map_nil, List.sum_cons, List.sum_nil] at hb
  refine impl_intCopy_ret ?_
  unfold impl_intCopy
  intro r w1 hn1 r1 w2 hn2
  have D := Ext.drew w2
  have X := (hn1.ext.trans hn2.ext).trans D
  have k0 := hn1.blk.ext hn2.ext; have k1 := hn2.blk.ext D
  have e2 := hn2.r_eq; have s1 := hn1.size; have s2 := hn2.size; have lD := D.le
  refine ⟨_, fun W hW => (k0.ext (D.trans hW)).loadAt 0 rfl (by kernel_rfl) rfl, _, _, _, fun W hW => (k0.ext (D.trans hW)).loadAt 1 rfl (by kernel_rfl) rfl, ?_⟩
  refine Ret.at (impl_natCopy_c (ha.ext X) (by omega)) ?_
  rintro v w3 ⟨p, c, hv, ho, y3⟩
  subst hv
  obtain ⟨w4, st, hb4, ch, sz⟩ := (k1.ext y3).storeA0 (P := P) (t := T_impl_Signed) (xs := [.bool a0, .slice p a1n c]) (by kernel_rfl) rfl (by simp [Value.oneCell'])
  exact ⟨_, _, _, rfl, y3, w4, st, _, _, _, _, hb4.loadA0 (by kernel_rfl), _, _, rfl, ((Owns.int2 ho).chg1 ch (by omega)).mono (by omega), nodup_opt p, (X.trans y3).chg ch (by simp; omega)⟩
theorem impl_ratCopy_c {w : World} {xs : List Value} {dx : List D0} (h : Reps w xs dx) (hc : dx.map D0.code = [.bool, .ints, .ints]) (hb : bulks dx ≤ 100000000) :
    Ret P n_impl_ratCopy [.agg ⟨xs⟩] w fun v w' => ∃ vs' f, v = .agg ⟨vs'⟩ ∧ Owns w' w.heap.size vs' dx f ∧ f.Nodup ∧ Ext w w' := by
  obtain ⟨a0, a1p, a1n, a1c, a1z, a2p, a2n, a2c, a2z, rfl, rfl, ha, hd⟩ := open_Rat h hc
  have l1 := ha.1; have l2 := hd.1
  simp only [bulks, D0.bulk, List.map_cons, List.map_nil, List.sum_cons, List.sum_nil] at hb
  refine impl_ratCopy_ret ?_
  unfold impl_ratCopy
  intro r w1 hn1 r1 w2 hn2
  have D := Ext.drew w2
  have X := (hn1.ext.trans hn2.ext).trans D
  have k0 := hn1.blk.ext hn2.ext; have k1 := hn2.blk.ext D
  have e2 := hn2.r_eq; have s1 := hn1.size; have s2 := hn2.size; have lD := D.le
  refine ⟨_, _, _, _, fun W hW => (k0.ext (D.trans hW)).loadAAt 0 [.bool a0, .slice a1p a1n a1c] rfl (by kernel_rfl) rfl, ?_⟩
  have hs : Reps w2.drew [.bool a0, .slice a1p a1n a1c] [.bool a0, .ints a1z] := ⟨rfl, ⟨_, _, _, rfl, ha.ext X⟩, trivial⟩
  refine Ret.at (impl_intCopy_c hs rfl (by simp only [bulks, D0.bulk, List.map_cons, List.map_nil, List.sum_cons, List.sum_nil]; omega)) ?_
  rintro v w3 ⟨vs, f, hv, ho, nd, y3⟩
  subst hv
  obtain ⟨b0, bp, bn, bc, bz, rfl, hq, hbr⟩ := open_Signed ho.reps rfl
  cases hq
  refine ⟨_, _, _, _, rfl, y3, _, _, _, fun W hW => (k0.ext (D.trans hW)).loadAt 2 rfl (by kernel_rfl) rfl, ?_⟩
  refine Ret.at (impl_natCopy_c (hd.ext (X.trans y3)) (by omega)) ?_
  rintro v w4 ⟨p, c, hv, ho2, y4⟩
  subst hv
  have l3 := y3.le; have l4 := y4.le
  obtain ⟨w5, st, hb5, ch, sz⟩ := ((k1.ext y3).ext y4).storeA0 (P := P) (t := T_impl_Rat) (xs := [.bool a0, .slice bp bn bc, .slice p a2n c]) (by kernel_rfl) rfl (by simp [Value.oneCell'])
  have q1 := (ho.ext y4).chg1 ch (by omega)
  have q2 := (Owns.ints ho2).chg1 ch (by omega)
  refine ⟨_, _, _, rfl, w5, st, _, _, _, _, _, _, _, hb5.loadA0 (by kernel_rfl), _, _, rfl, Owns.append (q1.mono (by omega)) (q2.mono (by omega)), ?_, ((X.trans y3).trans y4).chg ch (by simp; omega)⟩
  exact nodup_append nd (nodup_opt p) (m := w3.heap.size) (fun k hk => (ho.lt k hk).2) (fun k hk => ((Owns.ints ho2).lt k hk).1)
def ratZeroD : List D0 := [.bool false, .ints [], .ints [1]]
theorem spec_RatZero_c (w : World) : Ret P n_spec_RatZero [] w fun v w' => ∃ vs' f, v = .agg ⟨vs'⟩ ∧ Owns w' w.heap.size vs' ratZeroD f ∧ f.Nodup ∧ Ext w w' := by
  refine spec_RatZero_ret ?_
  unfold spec_RatZero
  intro r w1 hn1 r1 w2 hn2
  have e1 := hn1.r_eq; have e2 := hn2.r_eq; have s1 := hn1.size; have s2 := hn2.size
  obtain ⟨w3, st, hb3, ch, sz⟩ := (hn1.blk.ext hn2.ext).storeA0 (P := P) (t := T_impl_Rat) (xs := [.bool false, .slice none 0 0, .slice (some ⟨r1, 0, none⟩) 1 1]) (by kernel_rfl) rfl (by simp [Value.oneCell'])
  have ho : Own w3 w.heap.size T_int 1 (some ⟨r1, 0, none⟩) 1 1 (([1] : List Int).map (Value.int .i64)) := Own.of_blk (hn2.blk.chg ch (by simp; omega)) (by omega) rfl (by decide)
  exact ⟨w3, st, _, _, _, _, _, _, _, hb3.loadA0 (by kernel_rfl), _, _, rfl, Owns.append (Owns.bool _ _ false) (Owns.append (Owns.ints (zs := []) (Own.nil w3 w.heap.size T_int 1)) (Owns.ints ho)), by simp, (hn1.ext.trans hn2.ext).chg ch (by simp; omega)⟩
theorem impl_RatZero_c (w : World) : Ret P n_impl_RatZero [] w fun v w' => ∃ vs' f, v = .agg ⟨vs'⟩ ∧ Owns w' w.heap.size vs' ratZeroD f ∧ f.Nodup ∧ Ext w w' := by
  refine impl_RatZero_ret ?_
  unfold impl_RatZero
  intro r w1 hn1 r1 w2 hn2
  have e1 := hn1.r_eq; have e2 := hn2.r_eq; have s1 := hn1.size; have s2 := hn2.size
  obtain ⟨w3, st, hb3, ch, sz⟩ := (hn1.blk.ext hn2.ext).storeA0 (P := P) (t := T_impl_Rat) (xs := [.bool false, .slice none 0 0, .slice (some ⟨r1, 0, none⟩) 1 1]) (by kernel_rfl) rfl (by simp [Value.oneCell'])
  have ho : Own w3 w.heap.size T_int 1 (some ⟨r1, 0, none⟩) 1 1 (([1] : List Int).map (Value.int .i64)) := Own.of_blk (hn2.blk.chg ch (by simp; omega)) (by omega) rfl (by decide)
  exact ⟨w3, st, _, _, _, _, _, _, _, hb3.loadA0 (by kernel_rfl), _, _, rfl, Owns.append (Owns.bool _ _ false) (Owns.append (Owns.ints (zs := []) (Own.nil w3 w.heap.size T_int 1)) (Owns.ints ho)), by simp, (hn1.ext.trans hn2.ext).chg ch (by simp; omega)⟩
end Go.Proofs.YtfehpaekbbmkcaaGreatDoor

namespace Go.Proofs.YtfehpaekbbmkcaaGreatDoor
open Go Go.Proofs.YtfehpaekbbmkcaaGreatDoor.Sx
set_option linter.unusedVariables false
set_option linter.unusedSimpArgs false
def ratNum : List D0 → Int
  | [.bool s, .ints x, .ints _] => ival [.bool s, .ints x]
  | _ => 0
def ratDen : List D0 → Nat
  | [.bool _, .ints _, .ints y] => (val y).toNat
  | _ => 0
/-- a fraction as its parts -/
def rmk (n : Int) (d : Nat) : List D0 := [.bool (decide (n < 0)), .ints (digs n.natAbs), .ints (digs d)]
theorem rmk_enc (n : Int) (d : Nat) : rmk n d = enc n ++ [.ints (digs d)] := rfl
theorem rmk_code (n : Int) (d : Nat) : (rmk n d).map D0.code = [.bool, .ints, .ints] := rfl
theorem ratNum_rmk (n : Int) (d : Nat) : ratNum (rmk n d) = n := ival_enc n
theorem ratDen_rmk (n : Int) (d : Nat) : ratDen (rmk n d) = d := by simp [ratDen, rmk, val_digs]
theorem ival_natAbs {s : Bool} {x : List Int} (h : Limbs x) : (ival [.bool s, .ints x]).natAbs = (val x).toNat := by
  have := val_nonneg h
  unfold ival
  cases s <;> simp <;> omega
theorem ratOk_enc {dx : List D0} (h : ratOk dx = true) : dx = rmk (ratNum dx) (ratDen dx) ∧ 0 < ratDen dx ∧ Nat.gcd (ratNum dx).natAbs (ratDen dx) = 1 ∧ (digs (ratNum dx).natAbs).length ≤ 18 ∧ (digs (ratDen dx)).length ≤ 18 := by
  match dx, h with
  | [.bool s, .ints x, .ints y], h =>
    simp only [ratOk, Bool.and_eq_true, decide_eq_true_eq, Bool.not_eq_true'] at h
    obtain ⟨⟨⟨⟨⟨h1, h2⟩, h3⟩, h4⟩, h5⟩, h6⟩ := h
    have e1 := (intOk_enc h1).1
    obtain ⟨b', z', ez, can1, _⟩ := (intOk_enc h1).2
    simp only [List.cons.injEq, D0.ints.injEq, D0.bool.injEq, and_true] at ez
    obtain ⟨_, rfl⟩ := ez
    have can2 := (natOk_spec.1 h2).1
    have na := ival_natAbs (s := s) can1.1
    have ey := digs_val can2
    have hp := canon_pos can2 (by intro e; subst e; simp at h3)
    have ex := digs_val can1
    refine ⟨?_, ?_, ?_, ?_, ?_⟩
    · have e1' : [D0.bool s, .ints x] = enc (ratNum [.bool s, .ints x, .ints y]) := e1
      have ey' : digs (ratDen [.bool s, .ints x, .ints y]) = y := ey
      rw [rmk_enc, ← e1', ey']; rfl
    · simp only [ratDen]; omega
    · simp only [ratNum, ratDen, na]; exact h6
    · simp only [ratNum, na, ex]; exact h5
    · simp only [ratDen, ey]; exact h4
theorem ratOk_rmk {n : Int} {d : Nat} (hd : 0 < d) (hg : Nat.gcd n.natAbs d = 1) (h1 : (digs n.natAbs).length ≤ 18) (h2 : (digs d).length ≤ 18) : ratOk (rmk n d) = true := by
  have i1 : intOk [.bool (decide (n < 0)), .ints (digs n.natAbs)] = true := by
    have := icap_ok n
    rwa [icap_fit (by omega)] at this
  have i2 : natOk (digs d) = true := natOk_spec.2 ⟨digs_canon d, by omega⟩
  have i3 : (digs d).isEmpty = false := by rw [isEmpty_digs]; simp; omega
  simp only [ratOk, rmk, i1, i2, i3, decide_eq_true h1, decide_eq_true h2, val_digs, Int.toNat_natCast, Bool.not_false, Bool.and_self, Bool.true_and]
  exact decide_eq_true hg
def rsign (dx : List D0) : Int := if ratOk dx then sgn (ratNum dx) else 0
def rcmp (dx dy : List D0) : Int := if ratOk dx && ratOk dy then sgn (ratNum dx * ratDen dy - ratNum dy * ratDen dx) else 0
theorem zero_ok : ratOk ratZeroD = true := by
  have : ratZeroD = rmk 0 1 := by simp [ratZeroD, rmk, digs_zero, digs_one]
  rw [this]
  exact ratOk_rmk (by decide) rfl (by simp [digs_zero]) (by simp [digs_one])
theorem zero_num : ratNum ratZeroD = 0 := by simp [ratZeroD, ratNum, ival, val]
theorem zero_den : ratDen ratZeroD = 1 := by simp [ratZeroD, ratDen, val]
theorem rcmp_zero (dx : List D0) : rcmp dx ratZeroD = rsign dx := by
  unfold rcmp rsign
  rw [zero_ok, Bool.and_true, zero_num, zero_den]
  simp
/-- the first two parts of a fraction that is valid -/
theorem rat_parts {w : World} {vs : List Value} {dx : List D0} (h : Reps w vs dx) (hc : dx.map D0.code = [.bool, .ints, .ints]) (hok : ratOk dx = true) :
    ∃ p1 n1 c1 p2 n2 c2, vs = [.bool (decide (ratNum dx < 0)), .slice p1 n1 c1, .slice p2 n2 c2] ∧ IntsR w p1 n1 c1 (digs (ratNum dx).natAbs) ∧ IntsR w p2 n2 c2 (digs (ratDen dx)) ∧ n1 ≤ 18 ∧ n2 ≤ 18 ∧ Reps w [.bool (decide (ratNum dx < 0)), .slice p1 n1 c1] (enc (ratNum dx)) := by
  obtain ⟨e, h1, h2, h3, h4⟩ := ratOk_enc hok
  obtain ⟨a0, a1p, a1n, a1c, a1z, a2p, a2n, a2c, a2z, rfl, hd, ir1, ir2⟩ := open_Rat h hc
  rw [hd] at e
  simp only [rmk, List.cons.injEq, D0.ints.injEq, D0.bool.injEq, and_true] at e
  rw [← hd] at e
  obtain ⟨e0, e1, e2⟩ := e
  rw [e1] at ir1
  rw [e2] at ir2
  have l1 := ir1.1; have l2 := ir2.1
  exact ⟨_, _, _, _, _, _, by rw [e0], ir1, ir2, by omega, by omega, rfl, ⟨_, _, _, rfl, ir1⟩, trivial⟩
theorem impl_RatSign_c {w : World} {xs : List Value} {dx : List D0} (h : Reps w xs dx) (hc : dx.map D0.code = [.bool, .ints, .ints]) :
    Ret P n_impl_RatSign [.agg ⟨xs⟩] w fun v w' => v = .int .i64 (rsign dx) ∧ Ext w w' := by
  have hr := h; have hcc := hc
  obtain ⟨a0, a1p, a1n, a1c, a1z, a2p, a2n, a2c, a2z, rfl, rfl, ir1, ir2⟩ := open_Rat h hc
  refine impl_RatSign_ret ?_
  unfold impl_RatSign
  intro r w1 hn1
  refine ⟨_, _, _, _, _, _, _, hn1.blk.loadA0 (by kernel_rfl), ?_⟩
  refine Ret.at (impl_RatOk_c (hr.ext hn1.ext) rfl) ?_
  rintro v w2 ⟨hv, y2⟩
  subst hv
  have X2 := hn1.ext.trans y2
  refine ⟨_, rfl, ifN (fun e => ⟨by simp [rsign, e], X2⟩) (fun e => ?_)⟩
  obtain ⟨p1, n1, c1, p2, n2, c2, ev, i1, i2, _, _, he⟩ := rat_parts hr hcc e
  simp only [List.cons.injEq, Value.slice.injEq, Value.bool.injEq, and_true] at ev
  obtain ⟨e0, ⟨rfl, rfl, rfl⟩, rfl, rfl, rfl⟩ := ev
  rw [← e0] at he
  refine ⟨_, _, _, _, (hn1.blk.ext y2).loadAAt 0 [.bool a0, .slice a1p a1n a1c] rfl (by kernel_rfl) rfl, ?_⟩
  refine Ret.at (impl_intSign_c (he.ext X2)) ?_
  rintro v w3 ⟨hv, y3⟩
  subst hv
  exact ⟨_, rfl, by rw [rsign, if_pos e], X2.trans y3⟩
/-- a product of a signed and a natural number, made an integer -/
theorem prod_make {w : World} {n : Int} {d : Nat} {p : Option Addr} {m c : Nat} (h : IntsR w p m c (digs ((n.natAbs : Int) * d).toNat)) (hd : 0 < d) (hl : m ≤ 50) :
    Ret P n_spec_l04Make [.bool (decide (n < 0)), .slice p m c] w fun v w' => ∃ b p n' c, v = .agg ⟨[.bool b, .slice p n' c]⟩ ∧ Reps w' [.bool b, .slice p n' c] (enc (n * d)) ∧ intOk (enc (n * d)) = true ∧ Ext w w' := by
  have hlen := h.1
  refine (spec_l04Make_c h (digs_limbs _)).mono ?_
  rintro v w' ⟨b, p', n', c', hv, hb, ho, y⟩
  have ez : val (digs ((n.natAbs : Int) * d).toNat) = (n.natAbs : Int) * d := val_digsI (Int.mul_nonneg (by omega) (by omega))
  rw [ez] at hb ho
  have ecap : capL (digs ((n.natAbs : Int) * d).toNat) = digs ((n.natAbs : Int) * d).toNat := by unfold capL; rw [if_pos (by omega)]
  rw [ecap] at hb ho
  have ea : (n * d).natAbs = ((n.natAbs : Int) * d).toNat := by
    rw [Int.natAbs_mul, Int.natAbs_natCast, ← Int.natCast_mul, Int.toNat_natCast]
  have eb : (decide (n < 0) && !(digs ((n.natAbs : Int) * d).toNat).isEmpty) = decide (n * d < 0) := by
    rw [isEmpty_digs, ← ea]
    by_cases hn : n < 0
    · have h1 : n * (d : Int) < 0 := Int.mul_neg_of_neg_of_pos hn (by omega)
      have h2 : (n * (d : Int)).natAbs ≠ 0 := by omega
      simp [hn, h1, h2]
    · have h1 : ¬ n * (d : Int) < 0 := Int.not_lt.2 (Int.mul_nonneg (by omega) (by omega))
      simp [hn, h1]
  refine ⟨b, p', n', c', hv, ?_, ?_, y⟩
  · rw [enc, ea, ← eb, ← hb]
    exact ⟨rfl, ⟨_, _, _, rfl, ho.ints⟩, trivial⟩
  · have := icap_ok (n * d)
    rwa [icap_fit (by rw [ea]; omega)] at this
theorem prod_len {x y : Nat} {i j : Nat} (hx : (digs x).length ≤ i) (hy : (digs y).length ≤ j) : (digs (x * y)).length ≤ i + j := by
  apply digs_len
  have h1 := val_lt (digs_limbs x); have h2 := val_lt (digs_limbs y)
  rw [val_digs] at h1 h2
  have h1' : x < 1000000000 ^ i := by
    have : ((x : Nat) : Int) < ((1000000000 ^ (digs x).length : Nat) : Int) := by simpa using h1
    exact Nat.lt_of_lt_of_le (Int.ofNat_lt.1 this) (Nat.pow_le_pow_right (by decide) hx)
  have h2' : y < 1000000000 ^ j := by
    have : ((y : Nat) : Int) < ((1000000000 ^ (digs y).length : Nat) : Int) := by simpa using h2
    exact Nat.lt_of_lt_of_le (Int.ofNat_lt.1 this) (Nat.pow_le_pow_right (by decide) hy)
  rw [Nat.pow_add]
  exact Nat.mul_lt_mul'' h1' h2'
theorem spec_RatCmp_c {w : World} {xs ys : List Value} {dx dy : List D0} (h : Reps w xs dx) (k : Reps w ys dy) (hc : dx.map D0.code = [.bool, .ints, .ints]) (kc : dy.map D0.code = [.bool, .ints, .ints]) :
    Ret P n_spec_RatCmp [.agg ⟨xs⟩, .agg ⟨ys⟩] w fun v w' => v = .int .i64 (rcmp dx dy) ∧ Ext w w' := by
  have hr := h; have hcc := hc; have kr := k; have kcc := kc
  obtain ⟨a0, a1p, a1n, a1c, a1z, a2p, a2n, a2c, a2z, rfl, rfl, ir1, ir2⟩ := open_Rat h hc
  obtain ⟨b0, b1p, b1n, b1c, b1z, b2p, b2n, b2c, b2z, rfl, rfl, jr1, jr2⟩ := open_Rat k kc
  refine spec_RatCmp_ret ?_
  unfold spec_RatCmp
  intro r w1 hn1 s w2 hn2
  have X2 := hn1.ext.trans hn2.ext
  have br := hn1.blk.ext hn2.ext
  refine ⟨_, _, _, _, _, _, _, br.loadA0 (by kernel_rfl), ?_⟩
  refine Ret.at (spec_RatOk_c (hr.ext X2) rfl) ?_
  rintro v w3 ⟨hv, y3⟩
  subst hv
  have X3 := X2.trans y3
  refine ⟨_, rfl, ifN (fun e => ifT ⟨by simp [rcmp, e], X3⟩) (fun e1 => ⟨_, _, _, _, _, _, _, (hn2.blk.ext y3).loadA0 (by kernel_rfl), ?_⟩)⟩
  refine Ret.at (spec_RatOk_c (kr.ext X3) rfl) ?_
  rintro v w4 ⟨hv, y4⟩
  subst hv
  have X4 := X3.trans y4
  refine ⟨_, rfl, ifN (fun e => ⟨by simp [rcmp, e], X4⟩) (fun e2 => ?_)⟩
  have D := Ext.drew w4
  have X5 := X4.trans D
  have br5 := (br.ext (y3.trans y4)).ext D
  have bs5 := (hn2.blk.ext (y3.trans y4)).ext D
  obtain ⟨p1, n1, c1, p2, n2, c2, ev, i1, i2, g1, g2, he⟩ := rat_parts hr hcc e1
  obtain ⟨q1, m1, d1, q2, m2, d2, fv, j1, j2, f1, f2, ke⟩ := rat_parts kr kcc e2
  have hn := (ratOk_enc e1).2; have kn := (ratOk_enc e2).2
  have hrc : rcmp [.bool a0, .ints a1z, .ints a2z] [.bool b0, .ints b1z, .ints b2z] = sgn (ratNum [.bool a0, .ints a1z, .ints a2z] * ratDen [.bool b0, .ints b1z, .ints b2z] - ratNum [.bool b0, .ints b1z, .ints b2z] * ratDen [.bool a0, .ints a1z, .ints a2z]) := by
    unfold rcmp; rw [e1, e2]; rfl
  rw [hrc]
  generalize ratNum [.bool a0, .ints a1z, .ints a2z] = N1 at ev i1 he hn
  generalize ratNum [.bool b0, .ints b1z, .ints b2z] = N2 at fv j1 ke kn
  generalize ratDen [.bool a0, .ints a1z, .ints a2z] = D1 at i2 hn
  generalize ratDen [.bool b0, .ints b1z, .ints b2z] = D2 at j2 kn
  simp only [List.cons.injEq, Value.slice.injEq, Value.bool.injEq, and_true] at ev fv
  obtain ⟨rfl, ⟨rfl, rfl, rfl⟩, rfl, rfl, rfl⟩ := ev
  obtain ⟨rfl, ⟨rfl, rfl, rfl⟩, rfl, rfl, rfl⟩ := fv
  unfold spec_RatCmp_j0
  refine ⟨_, fun W hW => (br5.ext hW).loadAt 0 rfl (by kernel_rfl) rfl, _, _, _, fun W hW => (br5.ext hW).loadAt 1 rfl (by kernel_rfl) rfl, _, _, _, fun W hW => (bs5.ext hW).loadAt 2 rfl (by kernel_rfl) rfl, ?_⟩
  refine Ret.at (spec_l02Mul_c (i1.ext X5) (j2.ext X5) (digs_limbs _) (digs_limbs _) (by omega) (by omega)) ?_
  rintro v w6 ⟨p6, n6, c6, hv, o6, y6⟩
  subst hv
  rw [val_digs, val_digs] at o6
  have l6 := o6.len
  simp only [List.length_map] at l6
  have t6 := prod_len hn.2.2.1 kn.2.2.2
  rw [show N1.natAbs * D2 = ((N1.natAbs : Int) * D2).toNat by rw [← Int.natCast_mul, Int.toNat_natCast]] at t6
  refine ⟨_, _, _, rfl, y6, ?_⟩
  refine Ret.at (prod_make o6.ints kn.1 (by omega)) ?_
  rintro v w7 ⟨b7, p7, n7, c7, hv, r7, k7, y7⟩
  subst hv
  have Y7 := y6.trans y7
  refine ⟨_, _, _, _, rfl, y7, _, fun W hW => (bs5.ext hW).loadAt 0 rfl (by kernel_rfl) rfl, _, _, _, fun W hW => (bs5.ext hW).loadAt 1 rfl (by kernel_rfl) rfl, _, _, _, fun W hW => (br5.ext hW).loadAt 2 rfl (by kernel_rfl) rfl, ?_⟩
  refine Ret.at (spec_l02Mul_c (j1.ext (X5.trans Y7)) (i2.ext (X5.trans Y7)) (digs_limbs _) (digs_limbs _) (by omega) (by omega)) ?_
  rintro v w8 ⟨p8, n8, c8, hv, o8, y8⟩
  subst hv
  rw [val_digs, val_digs] at o8
  have l8 := o8.len
  simp only [List.length_map] at l8
  have t8 := prod_len kn.2.2.1 hn.2.2.2
  rw [show N2.natAbs * D1 = ((N2.natAbs : Int) * D1).toNat by rw [← Int.natCast_mul, Int.toNat_natCast]] at t8
  refine ⟨_, _, _, rfl, y8, ?_⟩
  refine Ret.at (prod_make o8.ints hn.1 (by omega)) ?_
  rintro v w9 ⟨b9, p9, n9, c9, hv, r9, k9, y9⟩
  subst hv
  refine ⟨_, _, _, _, rfl, ?_⟩
  refine Ret.at (spec_IntCmp_c (r7.ext (y8.trans y9)) r9 (enc_code _) (enc_code _)) ?_
  rintro v w10 ⟨hv, y10⟩
  subst hv
  exact ⟨_, rfl, by rw [icmp_enc k7 k9], X5.trans (Y7.trans (y8.trans (y9.trans y10)))⟩
theorem spec_RatSign_c {w : World} {xs : List Value} {dx : List D0} (h : Reps w xs dx) (hc : dx.map D0.code = [.bool, .ints, .ints]) :
    Ret P n_spec_RatSign [.agg ⟨xs⟩] w fun v w' => v = .int .i64 (rsign dx) ∧ Ext w w' := by
  have hr := h
  obtain ⟨a0, a1p, a1n, a1c, a1z, a2p, a2n, a2c, a2z, rfl, rfl, ir1, ir2⟩ := open_Rat h hc
  refine spec_RatSign_ret ?_
  unfold spec_RatSign
  intro r w1 hn1
  have D := Ext.drew w1
  have X := hn1.ext.trans D
  refine ⟨_, _, _, _, _, _, _, fun W hW => ((hn1.blk.ext D).ext hW).loadA0 (by kernel_rfl), ?_⟩
  refine Ret.at (spec_RatZero_c _) ?_
  rintro v w2 ⟨vs, f, hv, ho, _, y2⟩
  subst hv
  have ho' := ho.reps
  obtain ⟨g0, g1p, g1n, g1c, g1z, g2p, g2n, g2c, g2z, rfl, hd, _⟩ := open_Rat ho.reps rfl
  refine ⟨_, _, _, _, _, _, _, rfl, y2, ?_⟩
  refine Ret.at (spec_RatCmp_c (hr.ext (X.trans y2)) ho' rfl rfl) ?_
  rintro v w3 ⟨hv, y3⟩
  subst hv
  exact ⟨_, rfl, by rw [rcmp_zero], X.trans (y2.trans y3)⟩
end Go.Proofs.YtfehpaekbbmkcaaGreatDoor

namespace Go.Proofs.YtfehpaekbbmkcaaGreatDoor
open Go Go.Proofs.YtfehpaekbbmkcaaGreatDoor.Sx
abbrev CurRow := ByteArray × ByteArray × Int × Int
def implTab : List CurRow := [(S [67, 72, 70], S [55, 53, 54], 2, 5), (S [69, 85, 82], S [57, 55, 56], 2, 1), (S [85, 83, 68], S [56, 52, 48], 2, 1), (S [71, 66, 80], S [56, 50, 54], 2, 1), (S [74, 80, 89], S [51, 57, 50], 0, 1), (S [83, 69, 75], S [55, 53, 50], 2, 100), (S [78, 79, 75], S [53, 55, 56], 2, 100), (S [68, 75, 75], S [50, 48, 56], 2, 50), (S [67, 90, 75], S [50, 48, 51], 2, 100), (S [72, 85, 70], S [51, 52, 56], 2, 500), (S [80, 76, 78], S [57, 56, 53], 2, 1), (S [67, 65, 68], S [49, 50, 52], 2, 5), (S [65, 85, 68], S [48, 51, 54], 2, 5), (S [78, 90, 68], S [53, 53, 52], 2, 10), (S [75, 87, 68], S [52, 49, 52], 3, 5), (S [66, 72, 68], S [48, 52, 56], 3, 5), (S [84, 78, 68], S [55, 56, 56], 3, 10), (S [73, 83, 75], S [51, 53, 50], 0, 1), (S [75, 82, 87], S [52, 49, 48], 0, 10), (S [67, 76, 70], S [57, 57, 48], 4, 1)]
def specTab : List CurRow := [(S [65, 85, 68], S [48, 51, 54], 2, 5), (S [66, 72, 68], S [48, 52, 56], 3, 5), (S [67, 65, 68], S [49, 50, 52], 2, 5), (S [67, 72, 70], S [55, 53, 54], 2, 5), (S [67, 76, 70], S [57, 57, 48], 4, 1), (S [67, 90, 75], S [50, 48, 51], 2, 100), (S [68, 75, 75], S [50, 48, 56], 2, 50), (S [69, 85, 82], S [57, 55, 56], 2, 1), (S [71, 66, 80], S [56, 50, 54], 2, 1), (S [72, 85, 70], S [51, 52, 56], 2, 500), (S [73, 83, 75], S [51, 53, 50], 0, 1), (S [74, 80, 89], S [51, 57, 50], 0, 1), (S [75, 82, 87], S [52, 49, 48], 0, 10), (S [75, 87, 68], S [52, 49, 52], 3, 5), (S [78, 79, 75], S [53, 55, 56], 2, 100), (S [78, 90, 68], S [53, 53, 52], 2, 10), (S [80, 76, 78], S [57, 56, 53], 2, 1), (S [83, 69, 75], S [55, 53, 50], 2, 100), (S [84, 78, 68], S [55, 56, 56], 3, 10), (S [85, 83, 68], S [56, 52, 48], 2, 1)]
theorem und_T_impl_currency : ∃ fs, Tryz.prog.underlying T_impl_currency = some (.struct fs) := ⟨_, Tryz.underlying210⟩
theorem und_T_20_impl_currency : Tryz.prog.underlying T_20_impl_currency = some (.array 20 T_impl_currency) := Tryz.underlying215
theorem cur_fields : ∃ fs : Array Field, Tryz.prog.underlying T_impl_currency = some (.struct fs) ∧ fs.size = 4 ∧ (∃ f, fs[0]? = some f ∧ f.type = T_string ∧ f.offset = 0) ∧ (∃ f, fs[1]? = some f ∧ f.type = T_string ∧ f.offset = 1) ∧ (∃ f, fs[2]? = some f ∧ f.type = T_int ∧ f.offset = 2) ∧ (∃ f, fs[3]? = some f ∧ f.type = T_int ∧ f.offset = 3) :=
  ⟨_, Tryz.underlying210, rfl, ⟨_, rfl, rfl, rfl⟩, ⟨_, rfl, rfl, rfl⟩, ⟨_, rfl, rfl, rfl⟩, ⟨_, rfl, rfl, rfl⟩⟩
end Go.Proofs.YtfehpaekbbmkcaaGreatDoor

namespace Go.Proofs.YtfehpaekbbmkcaaGreatDoor
open Go Go.Proofs.YtfehpaekbbmkcaaGreatDoor.Sx
set_option linter.unusedVariables false
set_option linter.unusedSimpArgs false
def curCells (r : CurRow) : List Value := [.string r.1, .string r.2.1, .int .i64 r.2.2.1, .int .i64 r.2.2.2]
def curZero : CurRow := (ByteArray.empty, ByteArray.empty, 0, 0)
def curFind : List CurRow → ByteArray → CurRow
  | [], _ => curZero
  | r :: l, c => if r.1 = c then r else curFind l c
def curIn (l : List CurRow) (c : ByteArray) : Bool := l.any fun r => decide (r.1 = c)
def curKnown (c : ByteArray) : Bool := curIn implTab c
/-- the program's table lies in its variable -/
def Tab (w : World) : Prop := Seg w 0 0 (implTab.flatMap curCells)
theorem Tab.ext {w w' : World} (h : Tab w) (he : Ext w w') : Tab w' := Seg.ext h he
theorem curIn_drop {l : List CurRow} {c : ByteArray} {j : Nat} (hj : j < l.length) : curIn (l.drop j) c = (decide ((l[j]'hj).1 = c) || curIn (l.drop (j + 1)) c) := by
  rw [List.drop_eq_getElem_cons hj, curIn, List.any_cons]; rfl
theorem curFind_drop {l : List CurRow} {c : ByteArray} {j : Nat} (hj : j < l.length) : curFind (l.drop j) c = if (l[j]'hj).1 = c then l[j]'hj else curFind (l.drop (j + 1)) c := by
  rw [List.drop_eq_getElem_cons hj, curFind]
theorem curFind_fst {c : ByteArray} : ∀ {l : List CurRow}, (∀ r ∈ l, r.1 ≠ ByteArray.empty) → decide ((curFind l c).1 ≠ ByteArray.empty) = curIn l c
  | [], _ => by simp [curFind, curIn, curZero]
  | r :: l, h => by
    unfold curFind
    have hr := h r (.head _)
    have ih := curFind_fst (c := c) fun r hr => h r (.tail _ hr)
    rw [curIn, List.any_cons]
    by_cases he : r.1 = c
    · rw [if_pos he, decide_eq_true hr]; simp [he]
    · rw [if_neg he, ih]; simp [he, curIn]
theorem flat_row : ∀ (l : List CurRow) (j : Nat) (hj : j < l.length), ((l.flatMap curCells).drop (j * 4)).take 4 = curCells (l[j]'hj)
  | r :: l, 0, _ => by simp [List.flatMap_cons, curCells]
  | r :: l, j + 1, hj => by
    have := flat_row l j (by simpa using hj)
    rw [List.flatMap_cons, show (j + 1) * 4 = 4 + j * 4 by omega, ← List.drop_drop, List.drop_left' (show (curCells r).length = 4 from rfl), this]
    rfl
theorem flat_length : ∀ (l : List CurRow), (l.flatMap curCells).length = l.length * 4
  | [] => rfl
  | r :: l => by rw [List.flatMap_cons, List.length_append, flat_length l, List.length_cons]; simp [curCells]; omega
theorem impl_length : implTab.length = 20 := rfl
set_option maxRecDepth 100000 in
theorem index_cur {j : Nat} (hj : j < implTab.length) {K : Value → Prop} (h : K (.agg ⟨curCells (implTab[j]'hj)⟩)) : indexS P T_20_impl_currency (.agg ⟨implTab.flatMap curCells⟩) (.int .i64 (j : Nat)) K := by
  have hu : P.underlying T_20_impl_currency = some (.array 20 T_impl_currency) := und_T_20_impl_currency
  have hc : P.cellsOf T_impl_currency = 4 := by kernel_rfl
  obtain ⟨fs, hs⟩ := und_T_impl_currency
  have hs : P.underlying T_impl_currency = some (.struct fs) := hs
  have hl := impl_length
  unfold indexS
  rw [hu]
  refine ⟨⟨by omega, by omega⟩, _, ?_, h⟩
  unfold partS
  rw [hs, hc]
  show Value.agg ⟨((implTab.flatMap curCells).drop (((j : Nat) : Int).toNat * 4)).take 4⟩ = _
  rw [Int.toNat_natCast, flat_row]
set_option maxRecDepth 100000 in
theorem impl_currencyOf_c {w : World} (ht : Tab w) (c : ByteArray) :
    Ret P n_impl_currencyOf [.string c] w fun v w' => v = .tuple #[.agg ⟨curCells (curFind implTab c)⟩, .bool (curKnown c)] ∧ Ext w w' := by
  have hlen := impl_length
  refine impl_currencyOf_ret ?_
  unfold impl_currencyOf
  intro r w1 hn1
  have e1 := hn1.r_eq; have s1 := hn1.size
  refine ⟨_, loadsA (by rw [flat_length]; kernel_rfl) (ht.ext hn1.ext), ?_⟩
  refine ⟨fun i wr => ∃ j : Nat, i = j ∧ j ≤ 20 ∧ Ext w1 wr ∧ curFind implTab c = curFind (implTab.drop j) c ∧ curKnown c = curIn (implTab.drop j) c, fun i _ => 20 - i.toNat, ⟨0, rfl, by omega, Ext.refl _, rfl, rfl⟩, ?_⟩
  intro junk wr i ⟨j, hij, hj, hx, hf, hk⟩
  subst hij
  have lx := hx.le
  refine ifD (fun hlt => ?_) (fun hge => ?_)
  · have hjl : j < implTab.length := by omega
    rw [curFind_drop hjl] at hf
    rw [curIn_drop hjl] at hk
    apply index_cur hjl
    intro r1 w2 hn2
    obtain ⟨w3, st, hb3, y3⟩ := hn2.fill (P := P) (t := T_impl_currency) (xs := curCells (implTab[j]'hjl)) (by simp [curCells, Value.oneCell']) (by kernel_rfl) rfl
    refine ⟨w3, st, _, hb3.loadAt 0 rfl (by kernel_rfl) rfl, ifD (fun heq => ?_) (fun hne => ?_)⟩
    · have hf := hf.trans (if_pos heq)
      rw [decide_eq_true heq, Bool.true_or] at hk
      obtain ⟨w4, st4, hb4, ch, sz⟩ := (hn1.blk.ext (hx.trans y3)).storeA0 (P := P) (t := T_impl_currency) (xs := curCells (implTab[j]'hjl)) (by kernel_rfl) rfl (by simp [curCells, Value.oneCell'])
      refine ⟨_, _, _, _, hb3.loadA0 (by kernel_rfl), w4, st4, _, _, _, _, hb4.loadA0 (by kernel_rfl), ?_, ((hn1.ext.trans hx).trans y3).chg ch (by simp; omega)⟩
      rw [hf, hk]; rfl
    · have hf := hf.trans (if_neg hne)
      rw [decide_eq_false hne, Bool.false_or] at hk
      refine exW ⟨by omega, by omega⟩ ⟨⟨j + 1, by omega, by omega, hx.trans y3, hf, hk⟩, ?_⟩
      show 20 - ((j : Int) + 1).toNat < 20 - (j : Int).toNat
      omega
  · rw [List.drop_of_length_le (by omega)] at hf hk
    obtain ⟨w4, st4, hb4, ch, sz⟩ := (hn1.blk.ext hx).storeA0 (P := P) (t := T_impl_currency) (xs := curCells curZero) (by kernel_rfl) rfl (by simp [curCells, Value.oneCell'])
    refine ⟨w4, st4, _, _, _, _, hb4.loadA0 (by kernel_rfl), ?_, (hn1.ext.trans hx).chg ch (by simp; omega)⟩
    rw [hf, hk]; rfl
theorem impl_CurKnown_c {w : World} (ht : Tab w) (c : ByteArray) :
    Ret P n_impl_CurKnown [.string c] w fun v w' => v = .bool (curKnown c) ∧ Ext w w' := by
  refine impl_CurKnown_ret ?_
  unfold impl_CurKnown
  refine Ret.at (impl_currencyOf_c ht c) ?_
  rintro v w1 ⟨hv, y1⟩
  subst hv
  refine ⟨_, _, _, _, _, rfl, ?_⟩
  intro r w2 hn2
  obtain ⟨w3, st, hb3, y3⟩ := hn2.fill (P := P) (t := T_impl_currency) (xs := curCells (curFind implTab c)) (by simp [curCells, Value.oneCell']) (by kernel_rfl) rfl
  exact ⟨w3, st, rfl, y1.trans y3⟩
theorem spec_nonempty : ∀ r ∈ specTab, r.1 ≠ ByteArray.empty := by
  have : (specTab.all fun r => decide (r.1 ≠ ByteArray.empty)) = true := by decide +kernel
  intro r hr
  rw [List.all_eq_true] at this
  exact of_decide_eq_true (this r hr)
theorem spec_known (c : ByteArray) : curIn specTab c = curKnown c := by
  have h1 : (specTab.all fun r => curIn implTab r.1) = true := by decide +kernel
  have h2 : (implTab.all fun r => curIn specTab r.1) = true := by decide +kernel
  rw [List.all_eq_true] at h1 h2
  have key : ∀ {a b : List CurRow}, (∀ r ∈ a, curIn b r.1 = true) → curIn a c = true → curIn b c = true := by
    intro a b h hc
    unfold curIn at hc
    rw [List.any_eq_true] at hc
    obtain ⟨r, hr, he⟩ := hc
    have he := of_decide_eq_true he
    have := h r hr
    rwa [he] at this
  unfold curKnown
  cases h3 : curIn specTab c with
  | true => exact (key h1 h3).symm
  | false =>
    cases h4 : curIn implTab c with
    | false => rfl
    | true => rw [key h2 h4] at h3; cases h3
theorem spec_length : specTab.length = 20 := rfl
theorem spec_l08Find_c {w : World} (c : ByteArray) :
    Ret P n_spec_l08Find [.string c] w fun v w' => v = .agg ⟨curCells (curFind specTab c)⟩ ∧ Ext w w' := by
  have hlen := spec_length
  refine spec_l08Find_ret ?_
  unfold spec_l08Find
  intro r w1 hn1
  have e1 := hn1.r_eq; have s1 := hn1.size
  refine Ret.at (R := fun v w' => ∃ r, v = .slice (some ⟨r, 0, none⟩) 20 20 ∧ Seg w' r 0 (specTab.flatMap curCells) ∧ Ext w1 w') ?_ ?_
  · refine spec_l08Table_ret ?_
    unfold spec_l08Table
    intro r2 w2 hn2
    exact ⟨r2, rfl, hn2.blk.seg, hn2.ext⟩
  rintro v w2 ⟨r2, hv, hseg, y2⟩
  subst hv
  refine ⟨_, _, _, rfl, ?_⟩
  refine ⟨fun i wr => ∃ j : Nat, i = j ∧ j ≤ 20 ∧ Ext w2 wr ∧ curFind specTab c = curFind (specTab.drop j) c, fun i _ => 20 - i.toNat, ⟨0, rfl, by omega, Ext.refl _, rfl⟩, ?_⟩
  intro junk wr i ⟨j, hij, hj, hx, hf⟩
  subst hij
  have lx := hx.le; have ly := y2.le
  refine ifD (fun hlt => ?_) (fun hge => ?_)
  · have hjl : j < specTab.length := by omega
    rw [curFind_drop hjl] at hf
    have hrow : Seg wr r2 (0 + j * 4) (curCells (specTab[j]'hjl)) := by
      rw [← flat_row specTab j hjl]
      exact ((hseg.ext hx).drop (j * 4)).take 4
    refine ⟨⟨by omega, by omega⟩, _, _, _, _, (by simp only [addr_add, Int.toNat_natCast]; exact loadsA (cs := curCells (specTab[j]'hjl)) (by kernel_rfl) hrow), ?_⟩
    intro r1 w3 hn3
    obtain ⟨w4, st, hb4, y4⟩ := hn3.fill (P := P) (t := T_spec_l08Row) (xs := curCells (specTab[j]'hjl)) (by simp [curCells, Value.oneCell']) (by kernel_rfl) rfl
    refine ⟨w4, st, _, hb4.loadAt 0 rfl (by kernel_rfl) rfl, ifD (fun heq => ?_) (fun hne => ?_)⟩
    · have hf := hf.trans (if_pos heq)
      obtain ⟨w5, st5, hb5, ch, sz⟩ := (hn1.blk.ext ((y2.trans hx).trans y4)).storeA0 (P := P) (t := T_spec_l08Row) (xs := curCells (specTab[j]'hjl)) (by kernel_rfl) rfl (by simp [curCells, Value.oneCell'])
      refine ⟨_, _, _, _, hb4.loadA0 (by kernel_rfl), w5, st5, _, _, _, _, hb5.loadA0 (by kernel_rfl), ?_, (((hn1.ext.trans y2).trans hx).trans y4).chg ch (by simp; omega)⟩
      rw [hf]; rfl
    · have hf := hf.trans (if_neg hne)
      refine exW ⟨by omega, by omega⟩ ⟨⟨j + 1, by omega, by omega, hx.trans y4, hf⟩, ?_⟩
      show 20 - ((j : Int) + 1).toNat < 20 - (j : Int).toNat
      omega
  · rw [List.drop_of_length_le (by omega)] at hf
    obtain ⟨w4, st4, hb4, ch, sz⟩ := (hn1.blk.ext (y2.trans hx)).storeA0 (P := P) (t := T_spec_l08Row) (xs := curCells curZero) (by kernel_rfl) rfl (by simp [curCells, Value.oneCell'])
    refine ⟨w4, st4, _, _, _, _, hb4.loadA0 (by kernel_rfl), ?_, ((hn1.ext.trans y2).trans hx).chg ch (by simp; omega)⟩
    rw [hf]; rfl
theorem spec_CurKnown_c {w : World} (c : ByteArray) :
    Ret P n_spec_CurKnown [.string c] w fun v w' => v = .bool (curKnown c) ∧ Ext w w' := by
  refine spec_CurKnown_ret ?_
  unfold spec_CurKnown
  refine Ret.at (spec_l08Find_c c) ?_
  rintro v w1 ⟨hv, y1⟩
  subst hv
  refine ⟨_, _, _, _, rfl, ?_, y1⟩
  rw [← spec_known, ← curFind_fst spec_nonempty]
  rfl
end Go.Proofs.YtfehpaekbbmkcaaGreatDoor

namespace Go.Proofs.YtfehpaekbbmkcaaGreatDoor
open Go Go.Proofs.YtfehpaekbbmkcaaGreatDoor.Sx
set_option linter.unusedVariables false
set_option linter.unusedSimpArgs false
def bName : List D0 → ByteArray
  | .str s :: _ => s
  | _ => ByteArray.empty
theorem range_no {f : Nat → Bool} {n i : Nat} (hi : i < n) (h : f i = false) : (List.range n).all f = false := by
  rw [Bool.eq_false_iff]
  intro ha
  rw [List.all_eq_true] at ha
  have := ha i (List.mem_range.2 hi)
  rw [h] at this; cases this
theorem range_yes {f : Nat → Bool} {n : Nat} (h : ∀ i < n, f i = true) : (List.range n).all f = true := by
  rw [List.all_eq_true]
  exact fun i hi => h i (List.mem_range.1 hi)
theorem getD_row {l : List (List D0)} {i : Nat} (h : i < l.length) : l.getD i [] = l[i]'h := by
  rw [List.getD_eq_getElem?_getD, List.getElem?_eq_getElem h]; rfl
end Go.Proofs.YtfehpaekbbmkcaaGreatDoor

namespace Go.Proofs.YtfehpaekbbmkcaaGreatDoor
open Go Go.Proofs.YtfehpaekbbmkcaaGreatDoor.Sx
set_option linter.unusedVariables false
set_option linter.unusedSimpArgs false
def restOk : List D0 → Bool
  | [.str c, .bool s, .ints x, .ints y] => curKnown c && ratOk [.bool s, .ints x, .ints y] && !(decide (rsign [.bool s, .ints x, .ints y] = 0))
  | _ => false
def restRowOk (l : List (List D0)) (i : Nat) : Bool := restOk (l.getD i []) && !(decide (0 < i) && !(Op.bytesLess (bName (l.getD (i - 1) [])).toList (bName (l.getD i [])).toList))
def restsOk (l : List (List D0)) : Bool := (List.range l.length).all (restRowOk l)
theorem spec_RestsOk_c {w : World} {p : Option Addr} {n c : Nat} {l : List (List D0)} (h : RowsR w 4 p n c l) (hc : ∀ x ∈ l, x.map D0.code = [.str, .bool, .ints, .ints]) (hn : n ≤ 1048576) (hb : ∀ x ∈ l, bulks x ≤ 1048576) :
    Ret P n_spec_RestsOk [.slice p n c] w fun v w' => v = .bool (restsOk l) ∧ Ext w w' := by
  have hz := h.1; have hcap := h.2.1; have hcm := h.2.2.1
  refine spec_RestsOk_ret ?_
  unfold spec_RestsOk
  refine ⟨fun i wr => ∃ j : Nat, i = j ∧ j ≤ n ∧ Ext w wr ∧ ∀ i < j, restRowOk l i = true, fun i _ => n - i.toNat, ⟨0, rfl, by omega, Ext.refl _, fun i h => absurd h (by omega)⟩, ?_⟩
  intro junk wr i ⟨j, hij, hj, hx, hall⟩
  subst hij
  refine ifD (fun hlt => ?_) (fun hge => ?_)
  · have hjn : j < n := by omega
    have hjl : j < l.length := by omega
    obtain ⟨b, off, hpp, hs⟩ := (h.ext hx).2.2.2 (by omega)
    subst hpp
    obtain ⟨cs, hk, hr, hsg⟩ := hs j _ (List.getElem?_eq_getElem hjl)
    have hrr := hr; have hcode := hc _ (List.getElem_mem hjl); have hbj := hb _ (List.getElem_mem hjl)
    obtain ⟨a0, a1, a2p, a2n, a2c, a2z, a3p, a3n, a3c, a3z, rfl, hd, ir2, ir3⟩ := open_Rest hr hcode
    have hgd : l.getD j [] = [.str a0, .bool a1, .ints a2z, .ints a3z] := by rw [getD_row hjl, hd]
    rw [hd] at hbj
    simp only [bulks, D0.bulk, List.map_cons, List.map_nil, List.sum_cons, List.sum_nil] at hbj
    have first : ∀ i (hi : i < l.length), ∀ W, Ext wr W → Loads P T_string (((⟨b, off, none⟩ : Addr).add (i * 4)).add 0) (.string (bName (l.getD i []))) W := by
      intro i hi W hW
      obtain ⟨cs, hk, hr, hsg⟩ := hs i _ (List.getElem?_eq_getElem hi)
      obtain ⟨a0, a1, a2p, a2n, a2c, a2z, a3p, a3n, a3c, a3z, rfl, hd, _⟩ := open_Rest hr (hc _ (List.getElem_mem hi))
      rw [getD_row hi, hd]
      exact (hsg.ext hW).loadAt 0 (by simp [Addr.add]) (by kernel_rfl) rfl
    have bad : restRowOk l j = false → restsOk l = false := fun h => range_no hjl h
    have hl : Loads P T_impl_Rest ((⟨b, off, none⟩ : Addr).add (j * 4)) (.agg ⟨[.string a0, .bool a1, .slice a2p a2n a2c, .slice a3p a3n a3c]⟩) wr := by
      rw [addr_add]; exact loadsA (by kernel_rfl) hsg
    refine ⟨⟨by omega, by omega⟩, _, _, _, _, _, _, _, _, by simpa using hl, ?_⟩
    intro r1 w2 hn2
    obtain ⟨w3, st, hb3, y3⟩ := hn2.fill (P := P) (t := T_impl_Rest) hrr.cells1 (by kernel_rfl) rfl
    have D := Ext.drew w3
    have y4 := y3.trans D
    have hb4 := hb3.ext D
    have X4 := hx.trans y4
    refine ⟨w3, st, _, fun W hW => (hb4.ext hW).loadAt 0 rfl (by kernel_rfl) rfl, ?_⟩
    refine Ret.at (spec_CurKnown_c a0) ?_
    rintro v w4 ⟨hv, z4⟩
    subst hv
    have X5 := X4.trans z4
    have hb5 := hb4.ext z4
    refine ⟨_, rfl, ifN (fun hno => ifT (ifT (ifT ⟨by rw [bad (by simp only [restRowOk, hgd, restOk, hno, Bool.false_and])], X5⟩))) (fun h1 => ?_)⟩
    have hm : ∀ {W}, Ext wr W → Reps W [.bool a1, .slice a2p a2n a2c, .slice a3p a3n a3c] [.bool a1, .ints a2z, .ints a3z] := fun hW => ⟨rfl, ⟨_, _, _, rfl, ir2.ext hW⟩, ⟨_, _, _, rfl, ir3.ext hW⟩, trivial⟩
    refine ⟨_, _, _, _, _, _, _, fun W hW => (hb5.ext hW).loadAAt 1 [.bool a1, .slice a2p a2n a2c, .slice a3p a3n a3c] rfl (by kernel_rfl) rfl, ?_⟩
    refine Ret.at (spec_RatOk_c (hm (y4.trans z4)) rfl) ?_
    rintro v w5 ⟨hv, z5⟩
    subst hv
    have X6 := X5.trans z5
    have hb6 := hb5.ext z5
    refine ⟨_, rfl, ifN (fun hno => ifT (ifT ⟨by rw [bad (by simp only [restRowOk, hgd, restOk, hno, Bool.and_false, Bool.false_and])], X6⟩)) (fun h2 => ?_)⟩
    refine ⟨_, _, _, _, _, _, _, fun W hW => (hb6.ext hW).loadAAt 1 [.bool a1, .slice a2p a2n a2c, .slice a3p a3n a3c] rfl (by kernel_rfl) rfl, ?_⟩
    refine Ret.at (spec_RatSign_c (hm ((y4.trans z4).trans z5)) rfl) ?_
    rintro v w6 ⟨hv, z6⟩
    subst hv
    have Z := ((y4.trans z4).trans z5).trans z6
    have X7 := X6.trans z6
    have hb7 := hb6.ext z6
    refine ⟨_, rfl, ifD (fun hno => ifT ⟨by rw [bad (by simp only [restRowOk, hgd, restOk, decide_eq_true hno, Bool.not_true, Bool.and_false, Bool.false_and])], X7⟩) (fun h3 => ?_)⟩
    have next : restRowOk l j = true → ∃ t48 : Int, t48 = IntKind.wrap .i64 ((j : Int) + 1) ∧ (fun (i : Int) (wr : World) => ∃ j : Nat, i = j ∧ j ≤ n ∧ Ext w wr ∧ ∀ i < j, restRowOk l i = true) t48 w6 ∧ (fun (i : Int) (_ : World) => n - i.toNat) t48 w6 < (fun (i : Int) (_ : World) => n - i.toNat) (j : Int) wr := by
      intro hs
      refine exW ⟨by omega, by omega⟩ ⟨⟨j + 1, by omega, by omega, X7, fun i hi => ?_⟩, ?_⟩
      · rcases Nat.lt_or_ge i j with h | h
        · exact hall i h
        · have : i = j := by omega
          subst this; exact hs
      · show n - ((j : Int) + 1).toNat < n - (j : Int).toNat
        omega
    have hleg : restOk (l.getD j []) = true := by rw [hgd]; simp only [restOk, h1, h2, decide_eq_false h3, Bool.and_self, Bool.not_false]
    refine ifD (fun hpos => ?_) (fun hzero => ifF (next ?_))
    · refine exW ⟨by omega, by omega⟩ ⟨⟨by omega, by omega⟩, bName (l.getD (j - 1) []), fun W hW => ?_, a0, fun W hW => (hb7.ext hW).loadAt 0 rfl (by kernel_rfl) rfl, fun hle => ⟨?_, X7⟩, fun hgt => next ?_⟩
      · have := first (j - 1) (by omega) W (Z.trans hW)
        rw [show ((j : Int) - 1).toNat = j - 1 by omega]
        exact this
      · rw [bad]
        unfold restRowOk
        rw [hleg, hgd, decide_eq_true (show 0 < j by omega)]
        rw [show (!(Op.bytesLess (bName (l.getD (j - 1) [])).toList (bName [.str a0, .bool a1, .ints a2z, .ints a3z]).toList)) = true from hle]
        rfl
      · unfold restRowOk
        rw [hleg, hgd, decide_eq_true (show 0 < j by omega)]
        rw [show (!(Op.bytesLess (bName (l.getD (j - 1) [])).toList (bName [.str a0, .bool a1, .ints a2z, .ints a3z]).toList)) = false from hgt]
        rfl
    · unfold restRowOk
      rw [hleg, decide_eq_false (show ¬ 0 < j by omega)]
      rfl
  · refine ⟨?_, hx⟩
    unfold restsOk
    rw [range_yes (fun i hi => hall i (by omega))]
theorem impl_RestsOk_c {w : World} {p : Option Addr} {n c : Nat} {l : List (List D0)} (h : RowsR w 4 p n c l) (hc : ∀ x ∈ l, x.map D0.code = [.str, .bool, .ints, .ints]) (hn : n ≤ 1048576) (hb : ∀ x ∈ l, bulks x ≤ 1048576) (ht : Tab w) :
    Ret P n_impl_RestsOk [.slice p n c] w fun v w' => v = .bool (restsOk l) ∧ Ext w w' := by
  have hz := h.1; have hcap := h.2.1; have hcm := h.2.2.1
  refine impl_RestsOk_ret ?_
  unfold impl_RestsOk
  refine ⟨fun i wr => ∃ j : Nat, i = j ∧ j ≤ n ∧ Ext w wr ∧ ∀ i < j, restRowOk l i = true, fun i _ => n - i.toNat, ⟨0, rfl, by omega, Ext.refl _, fun i h => absurd h (by omega)⟩, ?_⟩
  intro junk wr i ⟨j, hij, hj, hx, hall⟩
  subst hij
  refine ifD (fun hlt => ?_) (fun hge => ?_)
  · have hjn : j < n := by omega
    have hjl : j < l.length := by omega
    obtain ⟨b, off, hpp, hs⟩ := (h.ext hx).2.2.2 (by omega)
    subst hpp
    obtain ⟨cs, hk, hr, hsg⟩ := hs j _ (List.getElem?_eq_getElem hjl)
    have hrr := hr; have hcode := hc _ (List.getElem_mem hjl); have hbj := hb _ (List.getElem_mem hjl)
    obtain ⟨a0, a1, a2p, a2n, a2c, a2z, a3p, a3n, a3c, a3z, rfl, hd, ir2, ir3⟩ := open_Rest hr hcode
    have hgd : l.getD j [] = [.str a0, .bool a1, .ints a2z, .ints a3z] := by rw [getD_row hjl, hd]
    rw [hd] at hbj
    simp only [bulks, D0.bulk, List.map_cons, List.map_nil, List.sum_cons, List.sum_nil] at hbj
    have first : ∀ i (hi : i < l.length), ∀ W, Ext wr W → Loads P T_string (((⟨b, off, none⟩ : Addr).add (i * 4)).add 0) (.string (bName (l.getD i []))) W := by
      intro i hi W hW
      obtain ⟨cs, hk, hr, hsg⟩ := hs i _ (List.getElem?_eq_getElem hi)
      obtain ⟨a0, a1, a2p, a2n, a2c, a2z, a3p, a3n, a3c, a3z, rfl, hd, _⟩ := open_Rest hr (hc _ (List.getElem_mem hi))
      rw [getD_row hi, hd]
      exact (hsg.ext hW).loadAt 0 (by simp [Addr.add]) (by kernel_rfl) rfl
    have bad : restRowOk l j = false → restsOk l = false := fun h => range_no hjl h
    have hl : Loads P T_impl_Rest ((⟨b, off, none⟩ : Addr).add (j * 4)) (.agg ⟨[.string a0, .bool a1, .slice a2p a2n a2c, .slice a3p a3n a3c]⟩) wr := by
      rw [addr_add]; exact loadsA (by kernel_rfl) hsg
    refine ⟨⟨by omega, by omega⟩, _, _, _, _, _, _, _, _, by simpa using hl, ?_⟩
    intro r1 w2 hn2
    obtain ⟨w3, st, hb3, y3⟩ := hn2.fill (P := P) (t := T_impl_Rest) hrr.cells1 (by kernel_rfl) rfl
    have D := Ext.drew w3
    have y4 := y3.trans D
    have hb4 := hb3.ext D
    have X4 := hx.trans y4
    refine ⟨w3, st, _, fun W hW => (hb4.ext hW).loadAt 0 rfl (by kernel_rfl) rfl, ?_⟩
    refine Ret.at (impl_CurKnown_c (ht.ext X4) a0) ?_
    rintro v w4 ⟨hv, z4⟩
    subst hv
    have X5 := X4.trans z4
    have hb5 := hb4.ext z4
    refine ⟨_, rfl, ifN (fun hno => ifT (ifT (ifT ⟨by rw [bad (by simp only [restRowOk, hgd, restOk, hno, Bool.false_and])], X5⟩))) (fun h1 => ?_)⟩
    have hm : ∀ {W}, Ext wr W → Reps W [.bool a1, .slice a2p a2n a2c, .slice a3p a3n a3c] [.bool a1, .ints a2z, .ints a3z] := fun hW => ⟨rfl, ⟨_, _, _, rfl, ir2.ext hW⟩, ⟨_, _, _, rfl, ir3.ext hW⟩, trivial⟩
    refine ⟨_, _, _, _, _, _, _, fun W hW => (hb5.ext hW).loadAAt 1 [.bool a1, .slice a2p a2n a2c, .slice a3p a3n a3c] rfl (by kernel_rfl) rfl, ?_⟩
    refine Ret.at (impl_RatOk_c (hm (y4.trans z4)) rfl) ?_
    rintro v w5 ⟨hv, z5⟩
    subst hv
    have X6 := X5.trans z5
    have hb6 := hb5.ext z5
    refine ⟨_, rfl, ifN (fun hno => ifT (ifT ⟨by rw [bad (by simp only [restRowOk, hgd, restOk, hno, Bool.and_false, Bool.false_and])], X6⟩)) (fun h2 => ?_)⟩
    refine ⟨_, _, _, _, _, _, _, fun W hW => (hb6.ext hW).loadAAt 1 [.bool a1, .slice a2p a2n a2c, .slice a3p a3n a3c] rfl (by kernel_rfl) rfl, ?_⟩
    refine Ret.at (impl_RatSign_c (hm ((y4.trans z4).trans z5)) rfl) ?_
    rintro v w6 ⟨hv, z6⟩
    subst hv
    have Z := ((y4.trans z4).trans z5).trans z6
    have X7 := X6.trans z6
    have hb7 := hb6.ext z6
    refine ⟨_, rfl, ifD (fun hno => ifT ⟨by rw [bad (by simp only [restRowOk, hgd, restOk, decide_eq_true hno, Bool.not_true, Bool.and_false, Bool.false_and])], X7⟩) (fun h3 => ?_)⟩
    have next : restRowOk l j = true → ∃ t48 : Int, t48 = IntKind.wrap .i64 ((j : Int) + 1) ∧ (fun (i : Int) (wr : World) => ∃ j : Nat, i = j ∧ j ≤ n ∧ Ext w wr ∧ ∀ i < j, restRowOk l i = true) t48 w6 ∧ (fun (i : Int) (_ : World) => n - i.toNat) t48 w6 < (fun (i : Int) (_ : World) => n - i.toNat) (j : Int) wr := by
      intro hs
      refine exW ⟨by omega, by omega⟩ ⟨⟨j + 1, by omega, by omega, X7, fun i hi => ?_⟩, ?_⟩
      · rcases Nat.lt_or_ge i j with h | h
        · exact hall i h
        · have : i = j := by omega
          subst this; exact hs
      · show n - ((j : Int) + 1).toNat < n - (j : Int).toNat
        omega
    have hleg : restOk (l.getD j []) = true := by rw [hgd]; simp only [restOk, h1, h2, decide_eq_false h3, Bool.and_self, Bool.not_false]
    refine ifD (fun hpos => ?_) (fun hzero => ifF (next ?_))
    · refine exW ⟨by omega, by omega⟩ ⟨⟨by omega, by omega⟩, bName (l.getD (j - 1) []), fun W hW => ?_, a0, fun W hW => (hb7.ext hW).loadAt 0 rfl (by kernel_rfl) rfl, fun hle => ⟨?_, X7⟩, fun hgt => next ?_⟩
      · have := first (j - 1) (by omega) W (Z.trans hW)
        rw [show ((j : Int) - 1).toNat = j - 1 by omega]
        exact this
      · rw [bad]
        unfold restRowOk
        rw [hleg, hgd, decide_eq_true (show 0 < j by omega)]
        rw [show (!(Op.bytesLess (bName (l.getD (j - 1) [])).toList (bName [.str a0, .bool a1, .ints a2z, .ints a3z]).toList)) = true from hle]
        rfl
      · unfold restRowOk
        rw [hleg, hgd, decide_eq_true (show 0 < j by omega)]
        rw [show (!(Op.bytesLess (bName (l.getD (j - 1) [])).toList (bName [.str a0, .bool a1, .ints a2z, .ints a3z]).toList)) = false from hgt]
        rfl
    · unfold restRowOk
      rw [hleg, decide_eq_false (show ¬ 0 < j by omega)]
      rfl
  · refine ⟨?_, hx⟩
    unfold restsOk
    rw [range_yes (fun i hi => hall i (by omega))]
end Go.Proofs.YtfehpaekbbmkcaaGreatDoor

namespace Go.Proofs.YtfehpaekbbmkcaaGreatDoor
open Go Go.Proofs.YtfehpaekbbmkcaaGreatDoor.Sx
set_option linter.unusedVariables false
set_option linter.unusedSimpArgs false
theorem laws_markIntS_c {w : World} {B : Nat} {p : Option Addr} {n c : Nat} {zs : List Int} {k : Int} (h : Own w B T_int 1 p n c (zs.map (Value.int .i64))) (h0 : 0 ≤ k) (h1 : k + n ≤ 9223372036854775807) :
    Ret P n_laws_markIntS [.slice p n c, .int .i64 k] w fun v w' => v = .int .i64 (k + n) ∧ Own w' B T_int 1 p n c ((mkI n k).map (Value.int .i64)) ∧ Chg (p.map (·.block)).toList w w' := by
  have hz : zs.length = n := by have := h.len; simpa using this
  have hcap := h.le
  refine laws_markIntS_ret ?_
  unfold laws_markIntS
  refine ⟨fun k1 i wr => ∃ j : Nat, i = j ∧ j ≤ n ∧ k1 = k + j ∧ Own wr B T_int 1 p n c ((mkI j k ++ zs.drop j).map (Value.int .i64)) ∧ Chg (p.map (·.block)).toList w wr, fun _ i _ => n - i.toNat, ⟨0, rfl, by omega, by omega, by simpa [mkI] using h, Chg.refl _ _⟩, ?_⟩
  intro junk wr k1 i ⟨j, hij, hj, hk1, ho, hch⟩
  subst hij; subst hk1
  refine ifD (fun hlt => ?_) (fun hge => ?_)
  · obtain ⟨b, w2, hp, st, ho2, ch2, sz2⟩ := ho.set (P := P) (t := T_int) (i := j) (v := .int .i64 (k + j)) (by simp [mkI_len]; omega) (by kernel_rfl) rfl
    subst hp
    refine ⟨⟨by omega, by omega⟩, w2, by simpa using st, exW ⟨by omega, by omega⟩ (exW ⟨by omega, by omega⟩ ⟨⟨j + 1, by omega, by omega, by omega, ?_, hch.trans ch2⟩, ?_⟩)⟩
    · have e : (mkI j k ++ zs.drop j).set j (k + (j : Nat)) = mkI (j + 1) k ++ zs.drop (j + 1) := by
        rw [List.set_append_right _ _ (by rw [mkI_len]; omega), mkI_len, Nat.sub_self, mkI_succ, List.drop_eq_getElem_cons (show j < zs.length by omega), List.set_cons_zero, List.append_assoc]
        rfl
      rw [← e, List.map_set]
      exact ho2
    · show n - ((j : Int) + 1).toNat < n - (j : Int).toNat
      omega
  · have hjn : j = n := by omega
    subst hjn
    rw [List.drop_of_length_le (by omega), List.append_nil] at ho
    exact ⟨rfl, ho, hch⟩
theorem laws_heldIntS_c {w : World} {p : Option Addr} {n c : Nat} {k : Int} (h : IntsR w p n c (mkI n k)) (h0 : 0 ≤ k) (h1 : k + n ≤ 9223372036854775807) :
    Ret P n_laws_heldIntS [.slice p n c, .int .i64 k] w fun v w' => v = .int .i64 (k + n) ∧ Ext w w' := by
  have hcap := h.2.1; have hcm := h.2.2.1
  refine laws_heldIntS_ret ?_
  unfold laws_heldIntS
  refine ⟨fun k1 i wr => ∃ j : Nat, i = j ∧ j ≤ n ∧ k1 = k + j ∧ Ext w wr, fun _ i _ => n - i.toNat, ⟨0, rfl, by omega, by omega, Ext.refl _⟩, ?_⟩
  intro junk wr k1 i ⟨j, hij, hj, hk1, hx⟩
  subst hij; subst hk1
  refine ifD (fun hlt => ?_) (fun hge => ?_)
  · have hjn : j < n := by omega
    obtain ⟨a, hpa, hl⟩ := (h.ext hx).at (P := P) (t := T_int) (by kernel_rfl) hjn
    subst hpa
    rw [mkI_get] at hl
    refine ⟨⟨by omega, by omega⟩, k + (j : Nat), by simpa using hl, ifD (fun hne => absurd rfl hne) (fun _ => exW ⟨by omega, by omega⟩ (exW ⟨by omega, by omega⟩ ⟨⟨j + 1, by omega, by omega, by omega, hx⟩, ?_⟩))⟩
    show n - ((j : Int) + 1).toNat < n - (j : Int).toNat
    omega
  · have hjn : j = n := by omega
    subst hjn
    exact ⟨rfl, hx⟩
theorem bne_no {a b : Bool} (e : a = b) : ¬ (!(a == b)) = true := by subst e; simp
theorem convs_bytes {w : World} {s e d ee : TypeId} {r : Nat} (xs : List Int) (hs : P.underlying s = some (.slice e)) (he : P.underlying e = some (.int .u8)) (hd : P.underlying d = some .string) (hb : Blk w r ee (xs.map (Value.int .u8))) :
    Convs P s d (.slice (some ⟨r, 0, none⟩) xs.length xs.length) (.string (strOfNums xs)) w :=
  run_convert_bytes_arg w s e hs he r 0 xs.length xs.length xs rfl (fun i hi => by
    have := hb.seg i (.int .u8 (xs.getD i 0)) (by simp [List.getD_eq_getElem?_getD, List.getElem?_eq_getElem hi])
    simpa using this) d hd
theorem laws_markText_c {k : Int} (hk : k ≤ 1000000000000000000) (w : World) : Ret P n_laws_markText [.int .i64 k] w fun v w' => v = .string (mtext k) ∧ Ext w w' := by
  refine laws_markText_ret ?_
  unfold laws_markText
  refine ifD (fun h => ⟨by rw [mtext, if_pos h], Ext.refl _⟩) (fun h => ?_)
  refine ⟨fun k1 out wr => 0 ≤ k1 ∧ k1 ≤ k ∧ out.size + k1 ≤ k ∧ mdig k1.toNat out = mdig k.toNat ByteArray.empty ∧ Ext w wr, fun k1 _ _ => k1.toNat, ⟨by omega, by omega, by show (0 : Int) + k ≤ k; omega, rfl, Ext.refl _⟩, ?_⟩
  intro junk wr k1 out ⟨h0, hle, hsz, hm, hx⟩
  refine ifD (fun hpos => ?_) (fun hz => ?_)
  · have ht : Int.tmod k1 10 = k1 % 10 := Int.tmod_eq_emod_of_nonneg h0
    have htd : Int.tdiv k1 10 = k1 / 10 := Int.tdiv_eq_ediv_of_nonneg h0
    refine ⟨by decide, _, rfl, ?_⟩
    rw [ht]
    refine exW ⟨by omega, by omega⟩ ⟨_, rfl, ?_⟩
    have wu : IntKind.wrap .u8 (48 + k1 % 10) = 48 + k1 % 10 := by
      simp only [IntKind.wrap, IntKind.bits, IntKind.signed]
      simp
      omega
    rw [wu]
    intro r w1 hn
    refine ⟨_, convs_bytes (ee := T_uint8) [48 + k1 % 10] (e := T_uint8) (by kernel_rfl) (by kernel_rfl) (by kernel_rfl) hn.blk, ?_, _, rfl, by decide, ?_⟩
    · rw [strOfNums_size]; simp; omega
    rw [htd]
    refine exW ⟨by omega, by omega⟩ ⟨⟨by omega, by omega, ?_, ?_, hx.trans hn.ext⟩, ?_⟩
    · rw [ByteArray.size_append, strOfNums_size]; simp; omega
    · rw [← hm, mdig_pos (k := k1.toNat) (by omega)]
      have e1 : (k1 / 10).toNat = k1.toNat / 10 := by omega
      have e2 : (48 + k1 % 10) = ((48 + k1.toNat % 10 : Nat) : Int) := by omega
      rw [e1, e2]
    · show (k1 / 10).toNat < k1.toNat
      omega
  · have : k1.toNat = 0 := by omega
    rw [this, mdig_zero] at hm
    refine ⟨?_, _, rfl, ?_, hx⟩
    · show 1 + out.size ≤ 9223372036854775807
      omega
    · rw [mtext, if_neg h, hm]
end Go.Proofs.YtfehpaekbbmkcaaGreatDoor

namespace Go.Proofs.YtfehpaekbbmkcaaGreatDoor
open Go Go.Proofs.YtfehpaekbbmkcaaGreatDoor.Sx
set_option linter.unusedVariables false
set_option linter.unusedSimpArgs false
theorem cntL_nn {d : List (List D0)} {m : Int} (_ : cntL d ≤ m) : 0 ≤ cntL d := cntL_nonneg d
end Go.Proofs.YtfehpaekbbmkcaaGreatDoor

namespace Go.Proofs.YtfehpaekbbmkcaaGreatDoor
open Go Go.Proofs.YtfehpaekbbmkcaaGreatDoor.Sx
set_option linter.unusedVariables false
set_option linter.unusedSimpArgs false
theorem cntL_max {M : Int} (hM : 0 ≤ M) : ∀ (l : List (List D0)), (∀ x ∈ l, cnts x ≤ M) → cntL l ≤ (l.length : Nat) * M
  | [], _ => by simp [cntL]
  | x :: l, h => by
    have h1 := h x (.head _); have h2 := cntL_max hM l fun y hy => h y (.tail _ hy)
    simp only [cntL, List.length_cons, Int.natCast_add, Int.natCast_one, Int.add_mul, Int.one_mul]
    omega
end Go.Proofs.YtfehpaekbbmkcaaGreatDoor

namespace Go.Proofs.YtfehpaekbbmkcaaGreatDoor
open Go Go.Proofs.YtfehpaekbbmkcaaGreatDoor.Sx
set_option linter.unusedVariables false
set_option linter.unusedSimpArgs false
theorem restsOk_row {l : List (List D0)} (h : restsOk l = true) {i : Nat} (hi : i < l.length) : restOk (l[i]'hi) = true := by
  unfold restsOk at h
  rw [List.all_eq_true] at h
  have := h i (List.mem_range.2 hi)
  unfold restRowOk at this
  rw [getD_row hi, Bool.and_eq_true] at this
  exact this.1
theorem restOk_rat {c : ByteArray} {s : Bool} {x y : List Int} (h : restOk [.str c, .bool s, .ints x, .ints y] = true) : ratOk [.bool s, .ints x, .ints y] = true := by
  simp only [restOk, Bool.and_eq_true] at h
  exact h.1.2
theorem sliceT_rest : sliceT P T_s_impl_Rest T_impl_Rest (.agg ⟨[.string ByteArray.empty, .bool false, .slice none 0 0, .slice none 0 0]⟩) 4 72 := ⟨by kernel_rfl, by kernel_rfl, rfl, by decide⟩
/-- rows that share nothing with their own block -/
theorem spec_l19Copy_c {w : World} {p : Option Addr} {n c : Nat} {l : List (List D0)} (h : RowsR w 4 p n c l) (hc : ∀ x ∈ l, x.map D0.code = [.str, .bool, .ints, .ints]) (hn : n ≤ 1048576) (hb : ∀ x ∈ l, bulks x ≤ 1048576) :
    Ret P n_spec_l19Copy [.slice p n c] w fun v w' => ∃ p' c' css fs, v = .slice p' n c' ∧ AllO w' w.heap.size 4 css l fs ∧ Own w' w.heap.size T_impl_Rest 4 p' n c' css.flatten ∧ (∀ y ∈ fs.flatten, p'.map (·.block) ≠ some y) ∧ Ext w w' := by
  have hz := h.1; have hcap := h.2.1; have hcm := h.2.2.1
  refine spec_l19Copy_ret ?_
  unfold spec_l19Copy
  intro r w2 hn2
  have e2 := hn2.r_eq; have s2 := hn2.size
  have o2 : Own w2 w.heap.size T_impl_Rest 4 (some ⟨r, 0, none⟩) 0 0 [] := Own.of_blk0 hn2.blk (by omega) (by simp) (by decide)
  refine ⟨fun op on oc i wr => ∃ (j : Nat) (css : List (List Value)) (fs : List (List Nat)), i = j ∧ j ≤ n ∧ on = j ∧ Ext w wr ∧ AllO wr w.heap.size 4 css (l.take j) fs ∧ Own wr w.heap.size T_impl_Rest 4 op on oc css.flatten ∧ (∀ y ∈ fs.flatten, op.map (·.block) ≠ some y), fun _ _ _ i _ => n - i.toNat, ⟨0, [], [], rfl, by omega, rfl, hn2.ext, by rw [List.take_zero]; trivial, o2, fun y hy => by simp at hy⟩, ?_⟩
  intro junk wr op on oc i ⟨j, css, fs, hi, hj, hon, hx, hall, how, hdis⟩
  subst hi; subst hon
  have lx := hx.le
  refine ifD (fun hlt => ?_) (fun hge => ?_)
  · have hjl : on < l.length := by omega
    obtain ⟨a, cs, hp, hk, hr, hl⟩ := (h.ext hx).at (P := P) (t := T_impl_Rest) (by kernel_rfl) (show on < n by omega)
    subst hp
    have hrr := hr; have hcode := hc _ (List.getElem_mem hjl); have hbj := hb _ (List.getElem_mem hjl)
    obtain ⟨a0, a1, a2p, a2n, a2c, a2z, a3p, a3n, a3c, a3z, rfl, hd, ir2, ir3⟩ := open_Rest hr hcode
    rw [hd] at hbj
    simp only [bulks, D0.bulk, List.map_cons, List.map_nil, List.sum_cons, List.sum_nil] at hbj
    refine ⟨⟨by omega, by omega⟩, _, _, _, _, _, _, _, _, by simpa using hl, ?_⟩
    intro r1 w3 hn3
    obtain ⟨w4, st, hb4, y4⟩ := hn3.fill (P := P) (t := T_impl_Rest) hrr.cells1 (by kernel_rfl) rfl
    have D := Ext.drew w4
    have Y := y4.trans D
    have hb5 := hb4.ext D
    refine ⟨w4, st, _, fun W hW => (hb5.ext hW).loadAt 0 rfl (by kernel_rfl) rfl, _, _, _, _, _, _, _, fun W hW => (hb5.ext hW).loadAAt 1 [.bool a1, .slice a2p a2n a2c, .slice a3p a3n a3c] rfl (by kernel_rfl) rfl, ?_⟩
    have hs : Reps w4.drew [.bool a1, .slice a2p a2n a2c, .slice a3p a3n a3c] [.bool a1, .ints a2z, .ints a3z] := ⟨rfl, ⟨_, _, _, rfl, ir2.ext Y⟩, ⟨_, _, _, rfl, ir3.ext Y⟩, trivial⟩
    refine Ret.at (spec_l19Rat_c hs rfl (by simp only [bulks, D0.bulk, List.map_cons, List.map_nil, List.sum_cons, List.sum_nil]; omega)) ?_
    rintro v w5 ⟨vs, fx, hv, ho, y5⟩
    subst hv
    have ho' := ho
    obtain ⟨b0, b1p, b1n, b1c, b1z, b2p, b2n, b2c, b2z, rfl, hq, _⟩ := open_Rat ho.reps rfl
    refine ⟨_, _, _, _, _, _, _, rfl, y5, ?_⟩
    intro r6 w6 hn6
    have Y6 := (Y.trans y5).trans hn6.ext
    have l6 := Y6.le; have lD := Y.le; have e6 := hn6.r_eq
    have ho6 := (Owns.append (Owns.str _ _ a0) (ho'.ext hn6.ext))
    obtain ⟨p7, c7, w7, hap, o7, ch7, d7⟩ := (how.ext Y6).push1 (P := P) sliceT_rest (by omega) hn6.blk rfl ho6.reps.cells1 (by omega) (by omega)
    have opl : ∀ q, op.map (·.block) = some q → w.heap.size ≤ q ∧ q < wr.heap.size := fun q hq => World.ownsRow.lt how q (by rw [← hq]; cases op <;> rfl)
    have all7 := (hall.ext Y6).chg ch7 (fun y hy hm => hdis y hy (opt_mem hm))
    have ho7 := (ho6.mono (B' := w.heap.size) (by omega)).chg ch7 (fun y hy hm => by
      have h1 := (ho'.lt y hy).1
      have h2 := (opl y (opt_mem hm)).2
      omega)
    have hsn : l.take (on + 1) = l.take on ++ [[.str a0, .bool a1, .ints a2z, .ints a3z]] := by rw [take_snoc (List.getElem?_eq_getElem hjl), hd]
    refine ⟨_, _, _, _, hap, exW ⟨by omega, by omega⟩ ⟨⟨on + 1, css ++ [[.string a0, .bool b0, .slice b1p b1n b1c, .slice b2p b2n b2c]], fs ++ [fx], by omega, by omega, rfl, (hx.trans Y6).chg ch7 (fun q hq => (opl q (opt_mem hq)).1), ?_, by simpa using o7, ?_⟩, ?_⟩⟩
    · rw [hsn]
      exact AllO.snoc rfl ho7 all7
    · intro y hy e
      rw [List.flatten_append, List.mem_append] at hy
      have hy7 : y < w6.heap.size := by
        rcases hy with hy | hy
        · have := (hall.lt y hy).2; omega
        · have := (ho'.lt y (by simpa using hy)).2; have := hn6.ext.le; omega
      rcases d7 with d7 | d7
      · rcases hy with hy | hy
        · exact hdis y hy (d7 ▸ e)
        · have h1 := (ho'.lt y (by simpa using hy)).1
          have h2 := (opl y (d7 ▸ e)).2
          omega
      · have := d7 y e; omega
    · show n - ((on : Int) + 1).toNat < n - (on : Int).toNat
      omega
  · have hjn : on = n := by omega
    subst hjn
    rw [List.take_of_length_le (by omega)] at hall
    exact ⟨_, _, css, fs, rfl, hall, how, hdis, hx⟩
end Go.Proofs.YtfehpaekbbmkcaaGreatDoor

namespace Go.Proofs.YtfehpaekbbmkcaaGreatDoor
open Go Go.Proofs.YtfehpaekbbmkcaaGreatDoor.Sx
set_option linter.unusedVariables false
set_option linter.unusedSimpArgs false
def rowStr : List D0 → ByteArray
  | .str s :: _ => s
  | _ => ByteArray.empty
def restOf : List (List D0) → ByteArray → List D0
  | [], _ => [.bool false, .ints [], .ints [1]]
  | x :: l, cur => if rowStr x = cur then x.drop 1 else restOf l cur
theorem restOf_code {cur : ByteArray} : ∀ {l : List (List D0)}, (∀ x ∈ l, x.map D0.code = [.str, .bool, .ints, .ints]) → (restOf l cur).map D0.code = [.bool, .ints, .ints]
  | [], _ => rfl
  | x :: l, h => by
    unfold restOf
    split
    · rw [List.map_drop, h x (.head _)]; rfl
    · exact restOf_code fun y hy => h y (.tail _ hy)
theorem bulks_drop (x : List D0) : bulks (x.drop 1) ≤ bulks x := by
  cases x with
  | nil => simp [bulks]
  | cons a r => simp [bulks]
theorem restOf_bulks {cur : ByteArray} : ∀ {l : List (List D0)}, (∀ x ∈ l, bulks x ≤ 1048576) → bulks (restOf l cur) ≤ 1048576
  | [], _ => by simp [restOf, bulks, D0.bulk]
  | x :: l, h => by
    unfold restOf
    split
    · exact Nat.le_trans (bulks_drop x) (h x (.head _))
    · exact restOf_bulks fun y hy => h y (.tail _ hy)
theorem restOf_at {l : List (List D0)} {cur : ByteArray} {j : Nat} (hj : j < l.length) : restOf (l.drop j) cur = if rowStr (l[j]'hj) = cur then (l[j]'hj).drop 1 else restOf (l.drop (j + 1)) cur := by
  rw [List.drop_eq_getElem_cons hj, restOf]
theorem spec_RestOf_c {w : World} {p : Option Addr} {n c : Nat} {l : List (List D0)} (h : RowsR w 4 p n c l) (hc : ∀ x ∈ l, x.map D0.code = [.str, .bool, .ints, .ints]) (hn : n ≤ 1048576) (hb : ∀ x ∈ l, bulks x ≤ 1048576) (cur : ByteArray) :
    Ret P n_spec_RestOf [.slice p n c, .string cur] w fun v w' => ∃ vs, v = .agg ⟨vs⟩ ∧ Reps w' vs (restOf l cur) ∧ (restOf l cur).map D0.code = [.bool, .ints, .ints] ∧ Ext w w' := by
  have hz := h.1; have hcap := h.2.1; have hcm := h.2.2.1
  refine spec_RestOf_ret ?_
  unfold spec_RestOf
  intro r w1 hn1
  have e1 := hn1.r_eq; have s1 := hn1.size
  refine ⟨fun i wr => ∃ j : Nat, i = j ∧ j ≤ n ∧ Ext w1 wr ∧ restOf l cur = restOf (l.drop j) cur, fun i _ => n - i.toNat, ⟨0, rfl, by omega, Ext.refl _, rfl⟩, ?_⟩
  intro junk wr i ⟨j, hij, hj, hx, he⟩
  subst hij
  have X := hn1.ext.trans hx
  have lx := hx.le
  refine ifD (fun hlt => ?_) (fun hge => ?_)
  · have hjn : j < n := by omega
    have hjl : j < l.length := by omega
    obtain ⟨a, cs, hp, hk, hr, hl⟩ := (h.ext X).at (P := P) (t := T_impl_Rest) (by kernel_rfl) hjn
    subst hp
    have hrr := hr; have hcode := hc _ (List.getElem_mem hjl)
    have hbj := hb _ (List.getElem_mem hjl)
    obtain ⟨a0, a1, a2p, a2n, a2c, a2z, a3p, a3n, a3c, a3z, rfl, hd, ha, ha3⟩ := open_Rest hr hcode
    rw [restOf_at hjl, hd] at he
    rw [hd] at hbj
    simp only [bulks, D0.bulk, List.map_cons, List.map_nil, List.sum_cons, List.sum_nil] at hbj
    refine ⟨⟨by omega, by omega⟩, _, _, _, _, _, _, _, _, by simpa using hl, ?_⟩
    intro r1 w2 hn2
    obtain ⟨w3, st, hb3, y3⟩ := hn2.fill (P := P) (t := T_impl_Rest) hrr.cells1 (by kernel_rfl) rfl
    have l3 := y3.le
    refine ⟨w3, st, _, hb3.loadAt 0 rfl (by kernel_rfl) rfl, ifD (fun heq => ?_) (fun hne => ?_)⟩
    · have he := he.trans (if_pos (show rowStr [.str a0, .bool a1, .ints a2z, .ints a3z] = cur from heq))
      refine ⟨_, _, _, _, _, _, _, hb3.loadAAt 1 [.bool a1, .slice a2p a2n a2c, .slice a3p a3n a3c] rfl (by kernel_rfl) rfl, ?_⟩
      have hs : Reps w3 [.bool a1, .slice a2p a2n a2c, .slice a3p a3n a3c] [.bool a1, .ints a2z, .ints a3z] := ⟨rfl, ⟨_, _, _, rfl, ha.ext y3⟩, ⟨_, _, _, rfl, ha3.ext y3⟩, trivial⟩
      refine Ret.at (spec_l19Rat_c hs rfl (by simp only [bulks, D0.bulk, List.map_cons, List.map_nil, List.sum_cons, List.sum_nil]; omega)) ?_
      rintro v w4 ⟨vs, f, hv, ho, y4⟩
      subst hv
      obtain ⟨b0, b1p, b1n, b1c, b1z, b2p, b2n, b2c, b2z, rfl, hq, _⟩ := open_Rat ho.reps rfl
      have Y := (hx.trans y3).trans y4
      obtain ⟨w5, st, hb5, ch, sz⟩ := (hn1.blk.ext Y).storeA0 (P := P) (t := T_impl_Rat) (xs := [.bool b0, .slice b1p b1n b1c, .slice b2p b2n b2c]) (by kernel_rfl) rfl (by simp [Value.oneCell'])
      have o5 := ho.chg1 ch (by omega)
      refine ⟨_, _, _, _, _, _, _, rfl, w5, st, _, _, _, _, _, _, _, hb5.loadA0 (by kernel_rfl), _, rfl, ?_, restOf_code hc, (hn1.ext.trans Y).chg ch (by simp; omega)⟩
      rw [he]
      exact o5.reps
    · have he := he.trans (if_neg (show ¬ rowStr [.str a0, .bool a1, .ints a2z, .ints a3z] = cur from hne))
      refine exW ⟨by omega, by omega⟩ ⟨⟨j + 1, by omega, by omega, hx.trans y3, he⟩, ?_⟩
      show n - ((j : Int) + 1).toNat < n - (j : Int).toNat
      omega
  · rw [List.drop_of_length_le (by omega)] at he
    refine Ret.at (spec_RatZero_c _) ?_
    rintro v w2 ⟨vs, f, hv, ho, nd, y2⟩
    subst hv
    obtain ⟨b0, b1p, b1n, b1c, b1z, b2p, b2n, b2c, b2z, rfl, hq, _⟩ := open_Rat ho.reps rfl
    have Y := hx.trans y2
    obtain ⟨w5, st, hb5, ch, sz⟩ := (hn1.blk.ext Y).storeA0 (P := P) (t := T_impl_Rat) (xs := [.bool b0, .slice b1p b1n b1c, .slice b2p b2n b2c]) (by kernel_rfl) rfl (by simp [Value.oneCell'])
    have o5 := ho.chg1 ch (by omega)
    refine ⟨_, _, _, _, _, _, _, rfl, w5, st, _, _, _, _, _, _, _, hb5.loadA0 (by kernel_rfl), _, rfl, ?_, restOf_code hc, (hn1.ext.trans Y).chg ch (by simp; omega)⟩
    rw [he]
    exact o5.reps
theorem impl_RestOf_c {w : World} {p : Option Addr} {n c : Nat} {l : List (List D0)} (h : RowsR w 4 p n c l) (hc : ∀ x ∈ l, x.map D0.code = [.str, .bool, .ints, .ints]) (hn : n ≤ 1048576) (hb : ∀ x ∈ l, bulks x ≤ 1048576) (cur : ByteArray) :
    Ret P n_impl_RestOf [.slice p n c, .string cur] w fun v w' => ∃ vs f, v = .agg ⟨vs⟩ ∧ Owns w' w.heap.size vs (restOf l cur) f ∧ f.Nodup ∧ (restOf l cur).map D0.code = [.bool, .ints, .ints] ∧ tcnts (restOf l cur) ≤ 1000000000 ∧ Ext w w' := by
  have hz := h.1; have hcap := h.2.1; have hcm := h.2.2.1
  have hcnt : tcnts (restOf l cur) ≤ 1000000000 := by
    have h1 := tcnts_le (restOf l cur); have h2 := restOf_bulks (cur := cur) hb
    omega
  refine impl_RestOf_ret ?_
  unfold impl_RestOf
  intro r w1 hn1
  have e1 := hn1.r_eq; have s1 := hn1.size
  refine ⟨fun i wr => ∃ j : Nat, i = j ∧ j ≤ n ∧ Ext w1 wr ∧ restOf l cur = restOf (l.drop j) cur, fun i _ => n - i.toNat, ⟨0, rfl, by omega, Ext.refl _, rfl⟩, ?_⟩
  intro junk wr i ⟨j, hij, hj, hx, he⟩
  subst hij
  have X := hn1.ext.trans hx
  have lx := hx.le
  refine ifD (fun hlt => ?_) (fun hge => ?_)
  · have hjn : j < n := by omega
    have hjl : j < l.length := by omega
    obtain ⟨a, cs, hp, hk, hr, hl⟩ := (h.ext X).at (P := P) (t := T_impl_Rest) (by kernel_rfl) hjn
    subst hp
    have hrr := hr; have hcode := hc _ (List.getElem_mem hjl)
    have hbj := hb _ (List.getElem_mem hjl)
    obtain ⟨a0, a1, a2p, a2n, a2c, a2z, a3p, a3n, a3c, a3z, rfl, hd, ha, ha3⟩ := open_Rest hr hcode
    rw [restOf_at hjl, hd] at he
    rw [hd] at hbj
    simp only [bulks, D0.bulk, List.map_cons, List.map_nil, List.sum_cons, List.sum_nil] at hbj
    refine ⟨⟨by omega, by omega⟩, _, _, _, _, _, _, _, _, by simpa using hl, ?_⟩
    intro r1 w2 hn2
    obtain ⟨w3, st, hb3, y3⟩ := hn2.fill (P := P) (t := T_impl_Rest) hrr.cells1 (by kernel_rfl) rfl
    have l3 := y3.le
    refine ⟨w3, st, _, hb3.loadAt 0 rfl (by kernel_rfl) rfl, ifD (fun heq => ?_) (fun hne => ?_)⟩
    · have he := he.trans (if_pos (show rowStr [.str a0, .bool a1, .ints a2z, .ints a3z] = cur from heq))
      refine ⟨_, _, _, _, _, _, _, hb3.loadAAt 1 [.bool a1, .slice a2p a2n a2c, .slice a3p a3n a3c] rfl (by kernel_rfl) rfl, ?_⟩
      have hs : Reps w3 [.bool a1, .slice a2p a2n a2c, .slice a3p a3n a3c] [.bool a1, .ints a2z, .ints a3z] := ⟨rfl, ⟨_, _, _, rfl, ha.ext y3⟩, ⟨_, _, _, rfl, ha3.ext y3⟩, trivial⟩
      refine Ret.at (impl_ratCopy_c hs rfl (by simp only [bulks, D0.bulk, List.map_cons, List.map_nil, List.sum_cons, List.sum_nil]; omega)) ?_
      rintro v w4 ⟨vs, f, hv, ho, nd, y4⟩
      subst hv
      obtain ⟨b0, b1p, b1n, b1c, b1z, b2p, b2n, b2c, b2z, rfl, hq, _⟩ := open_Rat ho.reps rfl
      have Y := (hx.trans y3).trans y4
      obtain ⟨w5, st, hb5, ch, sz⟩ := (hn1.blk.ext Y).storeA0 (P := P) (t := T_impl_Rat) (xs := [.bool b0, .slice b1p b1n b1c, .slice b2p b2n b2c]) (by kernel_rfl) rfl (by simp [Value.oneCell'])
      have o5 := (ho.chg1 ch (by omega)).mono (B' := w.heap.size) (by omega)
      refine ⟨_, _, _, _, _, _, _, rfl, w5, st, _, _, _, _, _, _, _, hb5.loadA0 (by kernel_rfl), _, f, rfl, ?_, nd, restOf_code hc, hcnt, (hn1.ext.trans Y).chg ch (by simp; omega)⟩
      rw [he]
      exact o5
    · have he := he.trans (if_neg (show ¬ rowStr [.str a0, .bool a1, .ints a2z, .ints a3z] = cur from hne))
      refine exW ⟨by omega, by omega⟩ ⟨⟨j + 1, by omega, by omega, hx.trans y3, he⟩, ?_⟩
      show n - ((j : Int) + 1).toNat < n - (j : Int).toNat
      omega
  · rw [List.drop_of_length_le (by omega)] at he
    refine Ret.at (impl_RatZero_c _) ?_
    rintro v w2 ⟨vs, f, hv, ho, nd, y2⟩
    subst hv
    obtain ⟨b0, b1p, b1n, b1c, b1z, b2p, b2n, b2c, b2z, rfl, hq, _⟩ := open_Rat ho.reps rfl
    have Y := hx.trans y2
    obtain ⟨w5, st, hb5, ch, sz⟩ := (hn1.blk.ext Y).storeA0 (P := P) (t := T_impl_Rat) (xs := [.bool b0, .slice b1p b1n b1c, .slice b2p b2n b2c]) (by kernel_rfl) rfl (by simp [Value.oneCell'])
    have o5 := (ho.chg1 ch (by omega)).mono (B' := w.heap.size) (by omega)
    refine ⟨_, _, _, _, _, _, _, rfl, w5, st, _, _, _, _, _, _, _, hb5.loadA0 (by kernel_rfl), _, f, rfl, ?_, nd, restOf_code hc, hcnt, (hn1.ext.trans Y).chg ch (by simp; omega)⟩
    rw [he]
    exact o5
end Go.Proofs.YtfehpaekbbmkcaaGreatDoor

namespace Go.Proofs.YtfehpaekbbmkcaaGreatDoor
open Go Go.Proofs.YtfehpaekbbmkcaaGreatDoor.Sx
set_option linter.unusedVariables false
set_option linter.unusedSimpArgs false
/-- the struct of zeros -/
def rat0 : List D0 := [.bool false, .ints [], .ints []]
def redN (n : Int) (d : Nat) : Int := if n < 0 then -((n.natAbs / Nat.gcd n.natAbs d : Nat) : Int) else ((n.natAbs / Nat.gcd n.natAbs d : Nat) : Int)
def redD (n : Int) (d : Nat) : Nat := d / Nat.gcd n.natAbs d
def redOk (n : Int) (d : Nat) : Bool := decide ((digs (n.natAbs / Nat.gcd n.natAbs d)).length ≤ 18) && decide ((digs (d / Nat.gcd n.natAbs d)).length ≤ 18)
/-- a fraction of numbers, in lowest terms, if it is not too long -/
def redR (n : Int) (d : Nat) : List D0 := if redOk n d then rmk (redN n d) (redD n d) else rat0
theorem redR_code (n : Int) (d : Nat) : (redR n d).map D0.code = [.bool, .ints, .ints] := by unfold redR; split <;> rfl
theorem redN_abs (n : Int) (d : Nat) : (redN n d).natAbs = n.natAbs / Nat.gcd n.natAbs d := by
  unfold redN
  generalize n.natAbs / Nat.gcd n.natAbs d = q
  split <;> omega
theorem enc_redN (n : Int) (d : Nat) : enc (redN n d) = mkS (decide (n < 0)) (digs (n.natAbs / Nat.gcd n.natAbs d)) := by
  unfold redN
  by_cases h : n < 0
  · rw [if_pos h, decide_eq_true h, mkS_neg]
  · rw [if_neg h, decide_eq_false h, mkS_pos]
theorem gcd_pos_right {m d : Nat} (hd : 0 < d) : 0 < Nat.gcd m d := Nat.gcd_pos_of_pos_right m hd
theorem redD_pos {n : Int} {d : Nat} (hd : 0 < d) : 0 < redD n d := Nat.div_pos (Nat.le_of_dvd hd (Nat.gcd_dvd_right _ _)) (gcd_pos_right hd)
theorem red_coprime {n : Int} {d : Nat} (hd : 0 < d) : Nat.gcd (redN n d).natAbs (redD n d) = 1 := by
  rw [redN_abs, redD, Nat.gcd_div (Nat.gcd_dvd_left _ _) (Nat.gcd_dvd_right _ _)]
  exact Nat.div_self (gcd_pos_right hd)
theorem redR_ok {n : Int} {d : Nat} (hd : 0 < d) (h : redOk n d = true) : ratOk (redR n d) = true := by
  have h' := h
  simp only [redOk, Bool.and_eq_true, decide_eq_true_eq] at h'
  rw [redR, if_pos h]
  exact ratOk_rmk (redD_pos hd) (red_coprime hd) (by rw [redN_abs]; exact h'.1) h'.2
end Go.Proofs.YtfehpaekbbmkcaaGreatDoor

namespace Go.Proofs.YtfehpaekbbmkcaaGreatDoor
open Go Go.Proofs.YtfehpaekbbmkcaaGreatDoor.Sx
set_option linter.unusedVariables false
set_option linter.unusedSimpArgs false
def bLess (a b : ByteArray) : Bool := Op.bytesLess a.toList b.toList
theorem bytes_irrefl : ∀ x : List UInt8, Op.bytesLess x x = false
  | [] => rfl
  | a :: x => by simp [Op.bytesLess, bytes_irrefl x]
theorem bytes_trans : ∀ x y z : List UInt8, Op.bytesLess x y = true → Op.bytesLess y z = true → Op.bytesLess x z = true
  | [], [], z, h, _ => by simp [Op.bytesLess] at h
  | [], _ :: _, [], _, h => by simp [Op.bytesLess] at h
  | [], _ :: _, _ :: _, _, _ => rfl
  | _ :: _, [], _, h, _ => by simp [Op.bytesLess] at h
  | _ :: _, _ :: _, [], _, h => by simp [Op.bytesLess] at h
  | a :: x, b :: y, c :: z, h, g => by
    simp only [Op.bytesLess, Bool.or_eq_true, decide_eq_true_eq, Bool.and_eq_true, beq_iff_eq] at h g ⊢
    rcases h with h | ⟨rfl, h⟩
    · rcases g with g | ⟨rfl, g⟩
      · exact .inl (UInt8.lt_trans h g)
      · exact .inl h
    · rcases g with g | ⟨rfl, g⟩
      · exact .inl g
      · exact .inr ⟨rfl, bytes_trans x y z h g⟩
theorem bytes_tri : ∀ x y : List UInt8, Op.bytesLess x y = false → Op.bytesLess y x = false → x = y
  | [], [], _, _ => rfl
  | [], _ :: _, h, _ => by simp [Op.bytesLess] at h
  | _ :: _, [], _, h => by simp [Op.bytesLess] at h
  | a :: x, b :: y, h, g => by
    simp only [Op.bytesLess, Bool.or_eq_false_iff, decide_eq_false_iff_not, Bool.and_eq_false_iff, beq_eq_false_iff_ne] at h g
    have hab : a = b := by
      have h1 := h.1
      have h2 := g.1
      rw [UInt8.not_lt] at h1 h2
      exact UInt8.le_antisymm h2 h1
    subst hab
    rcases h.2 with h2 | h2
    · exact absurd rfl h2
    · rcases g.2 with g2 | g2
      · exact absurd rfl g2
      · rw [bytes_tri x y h2 g2]
theorem bLess_irrefl (a : ByteArray) : bLess a a = false := bytes_irrefl _
theorem bLess_trans {a b c : ByteArray} (h : bLess a b = true) (g : bLess b c = true) : bLess a c = true := bytes_trans _ _ _ h g
theorem toList_inj {a b : ByteArray} (h : a.toList = b.toList) : a = b := by
  have h1 : ∀ x : ByteArray, x.toList = x.data.toList := fun x => by rw [ByteArray.toList_eq]
  rw [h1, h1] at h
  cases a; cases b
  congr 1
  exact Array.ext' h
theorem bLess_tri {a b : ByteArray} (h : bLess a b = false) (g : bLess b a = false) : a = b := toList_inj (bytes_tri _ _ h g)
end Go.Proofs.YtfehpaekbbmkcaaGreatDoor

namespace Go.Proofs.YtfehpaekbbmkcaaGreatDoor
open Go Go.Proofs.YtfehpaekbbmkcaaGreatDoor.Sx
set_option linter.unusedVariables false
set_option linter.unusedSimpArgs false
theorem sorted_ext {α : Type} {r : α → α → Prop} (irr : ∀ a, ¬ r a a) (tr : ∀ a b c, r a b → r b c → r a c) : ∀ {A B : List α}, A.Pairwise r → B.Pairwise r → (∀ x, x ∈ A ↔ x ∈ B) → A = B
  | [], [], _, _, _ => rfl
  | [], b :: B, _, _, h => by have := (h b).2 (.head _); cases this
  | a :: A, [], _, _, h => by have := (h a).1 (.head _); cases this
  | a :: A, b :: B, hA, hB, h => by
    obtain ⟨a1, a2⟩ := List.pairwise_cons.1 hA
    obtain ⟨b1, b2⟩ := List.pairwise_cons.1 hB
    have hab : a = b := by
      rcases List.mem_cons.1 ((h a).1 (.head _)) with e | e
      · exact e
      rcases List.mem_cons.1 ((h b).2 (.head _)) with e' | e'
      · exact e'.symm
      exact absurd (tr _ _ _ (b1 a e) (a1 b e')) (irr b)
    subst hab
    congr 1
    refine sorted_ext irr tr a2 b2 fun x => ⟨fun hx => ?_, fun hx => ?_⟩
    · rcases List.mem_cons.1 ((h x).1 (.tail _ hx)) with e | e
      · subst e; exact absurd (a1 x hx) (irr x)
      · exact e
    · rcases List.mem_cons.1 ((h x).2 (.tail _ hx)) with e | e
      · subst e; exact absurd (b1 x hx) (irr x)
      · exact e
theorem lt_bytes : ∀ x y : List UInt8, x < y ↔ Op.bytesLess x y = true
  | [], [] => by simp [Op.bytesLess]
  | [], b :: y => by simp [Op.bytesLess]
  | a :: x, [] => by simp [Op.bytesLess]
  | a :: x, b :: y => by
    rw [List.cons_lt_cons_iff, lt_bytes x y]
    simp [Op.bytesLess]
theorem le_bytes (x y : List UInt8) : x ≤ y ↔ Op.bytesLess y x = false := by
  rw [← List.not_lt, lt_bytes]
  simp
/-- sorted texts -/
def sortU (l : List (List UInt8)) : List (List UInt8) := l.mergeSort fun x y => decide (x ≤ y)
theorem sortU_perm (l : List (List UInt8)) : (sortU l).Perm l := List.mergeSort_perm _ _
theorem sortU_sorted (l : List (List UInt8)) : (sortU l).Pairwise fun x y => Op.bytesLess y x = false := by
  have := List.pairwise_mergeSort (le := fun x y : List UInt8 => decide (x ≤ y)) (fun a b c h g => ?_) (fun a b => ?_) l
  · exact this.imp fun {a b} h => (le_bytes _ _).1 (of_decide_eq_true h)
  · have h := (le_bytes _ _).1 (of_decide_eq_true h)
    have g := (le_bytes _ _).1 (of_decide_eq_true g)
    refine decide_eq_true ((le_bytes _ _).2 ?_)
    cases hca : Op.bytesLess c a with
    | false => rfl
    | true =>
      cases hbc : Op.bytesLess b c with
      | true => rw [bytes_trans b c a hbc hca] at h; cases h
      | false =>
        have := bytes_tri c b g hbc
        subst this
        rw [h] at hca; cases hca
  · cases h : Op.bytesLess b a with
    | false => rw [decide_eq_true ((le_bytes _ _).2 h)]; rfl
    | true =>
      have : Op.bytesLess a b = false := by
        cases h2 : Op.bytesLess a b with
        | false => rfl
        | true => have := bytes_trans a b a h2 h; rw [bytes_irrefl] at this; cases this
      rw [decide_eq_true ((le_bytes b a).2 this), Bool.or_true]
def unB (l : List UInt8) : ByteArray := ⟨l.toArray⟩
def toB (s : ByteArray) : List UInt8 := s.data.toList
theorem unB_toB (s : ByteArray) : unB (toB s) = s := by cases s; simp [unB, toB]
theorem toB_unB (l : List UInt8) : toB (unB l) = l := by simp [unB, toB]
theorem toB_eq (s : ByteArray) : s.toList = toB s := by rw [ByteArray.toList_eq]; rfl
theorem bLess_toB (a b : ByteArray) : bLess a b = Op.bytesLess (toB a) (toB b) := by unfold bLess; rw [toB_eq, toB_eq]
def sortB (l : List ByteArray) : List ByteArray := (sortU (l.map toB)).map unB
theorem sortB_len (l : List ByteArray) : (sortB l).length = l.length := by simp [sortB, sortU]
theorem sortB_mem (l : List ByteArray) (x : ByteArray) : x ∈ sortB l ↔ x ∈ l := by
  unfold sortB
  rw [List.mem_map]
  constructor
  · rintro ⟨y, hy, rfl⟩
    obtain ⟨z, hz, rfl⟩ := List.mem_map.1 ((sortU_perm _).mem_iff.1 hy)
    rwa [unB_toB]
  · intro h
    exact ⟨toB x, (sortU_perm _).mem_iff.2 (List.mem_map.2 ⟨x, h, rfl⟩), unB_toB x⟩
theorem sortB_sorted (l : List ByteArray) : (sortB l).Pairwise fun x y => bLess y x = false := by
  unfold sortB
  rw [List.pairwise_map]
  refine (sortU_sorted _).imp fun {a b} h => ?_
  rw [bLess_toB, toB_unB, toB_unB]
  exact h
/-- without twins the order is strict -/
theorem sorted_strict {l : List ByteArray} (h : l.Pairwise fun x y => bLess y x = false) (hn : l.Nodup) : l.Pairwise fun x y => bLess x y = true := by
  refine (h.and hn).imp fun {a b} ⟨h1, h2⟩ => ?_
  cases h3 : bLess a b with
  | true => rfl
  | false => exact absurd (bLess_tri h3 h1) h2
theorem sortB_nodup {l : List ByteArray} (hn : l.Nodup) : (sortB l).Nodup := by
  unfold sortB
  have h1 : (l.map toB).Nodup := by
    refine List.pairwise_map.2 (hn.imp fun {a b} h e => h ?_)
    rw [← unB_toB a, ← unB_toB b, e]
  have h2 := ((sortU_perm _).nodup_iff).2 h1
  refine List.pairwise_map.2 (h2.imp fun {a b} h e => h ?_)
  rw [← toB_unB a, ← toB_unB b, e]
end Go.Proofs.YtfehpaekbbmkcaaGreatDoor
