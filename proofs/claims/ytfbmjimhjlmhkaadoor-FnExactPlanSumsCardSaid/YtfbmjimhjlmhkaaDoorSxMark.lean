/-
  Plain: marks set by the laws; a row of a slice of structs of one's own, turned and put back.
-/
import Derived.Test.YtfbmjimhjlmhkaaDoorSxOwn
import Derived.Laws.BytesArg
namespace Go.Proofs.YtfbmjimhjlmhkaaDoor.Sx
open Go
set_option linter.unusedVariables false
set_option linter.unusedSimpArgs false

/-! ## what the marks are -/

def mkI (n : Nat) (k : Int) : List Int := (List.range n).map fun i => k + (i : Nat)
def mdig (k : Nat) (acc : ByteArray) : ByteArray := if h : k = 0 then acc else mdig (k / 10) (strOfNums [((48 + k % 10 : Nat) : Int)] ++ acc)
termination_by k
decreasing_by omega
theorem mdig_zero (acc : ByteArray) : mdig 0 acc = acc := by rw [mdig]; simp
theorem mdig_pos {k : Nat} (h : k ≠ 0) (acc : ByteArray) : mdig k acc = mdig (k / 10) (strOfNums [((48 + k % 10 : Nat) : Int)] ++ acc) := by rw [mdig]; simp [h]
def mtext (k : Int) : ByteArray := if k ≤ 0 then ⟨#[109, 48]⟩ else (⟨#[109]⟩ : ByteArray) ++ mdig k.toNat ByteArray.empty

def D0.mark (k : Int) : D0 → D0
  | .int _ => .int k
  | .bool _ => .bool (decide (k % 3 = 0))
  | .str _ => .str (mtext k)
  | .ints z => .ints (mkI z.length k)
def D0.cnt : D0 → Int
  | .ints z => (z.length : Nat)
  | _ => 1
def marks : List D0 → Int → List D0
  | [], _ => []
  | d :: r, k => d.mark k :: marks r (k + d.cnt)
def cnts : List D0 → Int
  | [] => 0
  | d :: r => d.cnt + cnts r
def tmarks : List D0 → Int → List D0
  | [], _ => []
  | .ints z :: r, k => .ints (mkI z.length k) :: tmarks r (k + (z.length : Nat))
  | .int n :: r, k => .int n :: tmarks r k
  | .bool n :: r, k => .bool n :: tmarks r k
  | .str n :: r, k => .str n :: tmarks r k
def tcnts : List D0 → Int
  | [] => 0
  | .ints z :: r => (z.length : Nat) + tcnts r
  | _ :: r => tcnts r
def markL : List (List D0) → Int → List (List D0)
  | [], _ => []
  | x :: l, k => marks x k :: markL l (k + cnts x)
def cntL : List (List D0) → Int
  | [] => 0
  | x :: l => cnts x + cntL l

theorem mkI_len (n : Nat) (k : Int) : (mkI n k).length = n := by simp [mkI]
theorem mkI_get (n : Nat) (k : Int) (i : Nat) (h : i < (mkI n k).length) : (mkI n k)[i] = k + (i : Nat) := by simp [mkI]
theorem mkI_succ (n : Nat) (k : Int) : mkI (n + 1) k = mkI n k ++ [k + (n : Nat)] := by simp [mkI, List.range_succ]
theorem marks_code : ∀ (l : List D0) (k : Int), (marks l k).map D0.code = l.map D0.code
  | [], _ => rfl
  | d :: r, k => by simp only [marks, List.map_cons, marks_code r]; cases d <;> rfl
theorem tmarks_code : ∀ (l : List D0) (k : Int), (tmarks l k).map D0.code = l.map D0.code
  | [], _ => rfl
  | .ints _ :: r, k => by simp only [tmarks, List.map_cons, tmarks_code r]; rfl
  | .int _ :: r, k => by simp only [tmarks, List.map_cons, tmarks_code r]
  | .bool _ :: r, k => by simp only [tmarks, List.map_cons, tmarks_code r]
  | .str _ :: r, k => by simp only [tmarks, List.map_cons, tmarks_code r]
theorem cnt_nonneg (d : D0) : 0 ≤ d.cnt := by cases d <;> simp [D0.cnt]
theorem cnts_nonneg : ∀ (l : List D0), 0 ≤ cnts l
  | [] => Int.le_refl _
  | d :: r => by have := cnt_nonneg d; have := cnts_nonneg r; simp only [cnts]; omega
theorem tcnts_nonneg : ∀ (l : List D0), 0 ≤ tcnts l
  | [] => Int.le_refl _
  | d :: r => by have := tcnts_nonneg r; cases d <;> simp only [tcnts] <;> omega
theorem cntL_nonneg : ∀ (l : List (List D0)), 0 ≤ cntL l
  | [] => Int.le_refl _
  | d :: r => by have := cnts_nonneg d; have := cntL_nonneg r; simp only [cntL]; omega
theorem markL_len : ∀ (l : List (List D0)) (k : Int), (markL l k).length = l.length
  | [], _ => rfl
  | x :: l, k => by simp [markL, markL_len l]
theorem markL_snoc : ∀ (l : List (List D0)) (x : List D0) (k : Int), markL (l ++ [x]) k = markL l k ++ [marks x (k + cntL l)]
  | [], x, k => by simp [markL, cntL]
  | y :: l, x, k => by
    simp only [List.cons_append, markL, markL_snoc l x, cntL]
    congr 4; omega
theorem markL_get : ∀ (l : List (List D0)) (k : Int) (i : Nat) (x : List D0), l[i]? = some x → (markL l k)[i]? = some (marks x (k + cntL (l.take i)))
  | [], _, _, _, h => by simp at h
  | y :: l, k, 0, x, h => by simp at h; subst h; simp [markL, cntL]
  | y :: l, k, i + 1, x, h => by
    simp only [List.getElem?_cons_succ] at h
    simp only [markL, List.getElem?_cons_succ, markL_get l _ i x h, List.take_succ_cons, cntL]
    congr 2; omega
theorem cntL_snoc : ∀ (l : List (List D0)) (x : List D0), cntL (l ++ [x]) = cntL l + cnts x
  | [], x => by simp [cntL]
  | y :: l, x => by simp only [List.cons_append, cntL, cntL_snoc l x]; omega
theorem take_snoc {α : Type} {l : List α} {i : Nat} {x : α} (h : l[i]? = some x) : l.take (i + 1) = l.take i ++ [x] := by
  rw [List.take_add_one, h]; rfl
theorem cntL_take_le : ∀ (l : List (List D0)) (i : Nat), cntL (l.take i) ≤ cntL l
  | [], i => by simp
  | x :: l, 0 => by have := cntL_nonneg (x :: l); simpa [cntL] using this
  | x :: l, i + 1 => by
    have := cntL_take_le l i
    simp only [List.take_succ_cons, cntL] at this ⊢
    omega
theorem cntL_row {l : List (List D0)} {i : Nat} {x : List D0} (h : l[i]? = some x) : cntL (l.take (i + 1)) = cntL (l.take i) + cnts x ∧ cntL (l.take i) + cnts x ≤ cntL l := by
  have h1 : cntL (l.take (i + 1)) = cntL (l.take i) + cnts x := by rw [take_snoc h, cntL_snoc]
  have h2 := cntL_take_le l (i + 1)
  exact ⟨h1, by omega⟩
theorem markL_set {l : List (List D0)} {k : Int} {i : Nat} {x : List D0} (h : l[i]? = some x) :
    (markL (l.take i) k ++ l.drop i).set i (marks x (k + cntL (l.take i))) = markL (l.take (i + 1)) k ++ l.drop (i + 1) := by
  have hi : i < l.length := (List.getElem?_eq_some_iff.1 h).1
  have hl : (markL (l.take i) k).length = i := by rw [markL_len]; simp; omega
  rw [List.set_append_right _ _ (by omega), hl, Nat.sub_self, take_snoc h, markL_snoc]
  have hd : l.drop i = x :: l.drop (i + 1) := by
    obtain ⟨h1, h2⟩ := List.getElem?_eq_some_iff.1 h
    rw [← h2]; exact List.drop_eq_getElem_cons h1
  rw [hd]; simp
theorem markL_at {l : List (List D0)} {k : Int} {i : Nat} {x : List D0} (h : l[i]? = some x) : (markL (l.take i) k ++ l.drop i)[i]? = some x := by
  have hi : i < l.length := (List.getElem?_eq_some_iff.1 h).1
  have hl : (markL (l.take i) k).length = i := by rw [markL_len]; simp; omega
  rw [List.getElem?_append_right (by omega), hl, Nat.sub_self, List.getElem?_drop, Nat.add_zero, h]
theorem cnts_le : ∀ (l : List D0), cnts l ≤ ((bulks l + l.length : Nat) : Int)
  | [] => by simp [cnts]
  | d :: r => by
    have h2 := cnts_le r
    have h1 : d.cnt ≤ (d.bulk : Nat) + 1 := by cases d <;> simp [D0.cnt, D0.bulk] <;> omega
    simp only [cnts, bulks, List.map_cons, List.sum_cons, List.length_cons] at h2 ⊢
    omega
theorem tcnts_le : ∀ (l : List D0), tcnts l ≤ ((bulks l : Nat) : Int)
  | [] => by simp [tcnts]
  | d :: r => by
    have h2 := tcnts_le r
    simp only [bulks] at h2
    cases d <;> simp only [tcnts, bulks, D0.bulk, List.map_cons, List.sum_cons] <;> omega
theorem cntL_le {m : Nat} : ∀ (l : List (List D0)), (∀ x ∈ l, x.length ≤ m) → cntL l ≤ (((l.map bulks).sum + l.length * m : Nat) : Int)
  | [], _ => by simp [cntL]
  | x :: l, h => by
    have h1 := cnts_le x; have h2 := cntL_le l fun y hy => h y (.tail _ hy); have h3 := h x (.head _)
    simp only [cntL, List.map_cons, List.sum_cons, List.length_cons, Nat.succ_mul] at h2 ⊢
    omega

theorem code_len {x : List D0} {cs : List C0} (h : x.map D0.code = cs) : x.length = cs.length := by rw [← h]; simp
theorem mem_opt {o : Option Nat} {q : Nat} (h : o = some q) : q ∈ o.toList := by subst h; simp
theorem opt_mem {o : Option Nat} {q : Nat} (h : q ∈ o.toList) : o = some q := by cases o <;> simp_all
theorem code_ints {ds : List D0} {cs : List C0} (h : ds.map D0.code = .ints :: cs) : ∃ z es, ds = .ints z :: es ∧ es.map D0.code = cs := by
  match ds, h with
  | .ints z :: es, h => exact ⟨z, es, rfl, (List.cons.inj h).2⟩
theorem code_str {ds : List D0} {cs : List C0} (h : ds.map D0.code = .str :: cs) : ∃ z es, ds = .str z :: es ∧ es.map D0.code = cs := by
  match ds, h with
  | .str z :: es, h => exact ⟨z, es, rfl, (List.cons.inj h).2⟩
theorem code_bool {ds : List D0} {cs : List C0} (h : ds.map D0.code = .bool :: cs) : ∃ z es, ds = .bool z :: es ∧ es.map D0.code = cs := by
  match ds, h with
  | .bool z :: es, h => exact ⟨z, es, rfl, (List.cons.inj h).2⟩
theorem code_int {ds : List D0} {cs : List C0} (h : ds.map D0.code = .int :: cs) : ∃ z es, ds = .int z :: es ∧ es.map D0.code = cs := by
  match ds, h with
  | .int z :: es, h => exact ⟨z, es, rfl, (List.cons.inj h).2⟩
theorem code_nil {ds : List D0} (h : ds.map D0.code = []) : ds = [] := by simpa using h

/-! ## what is owned, cell by cell -/

theorem Owns.consInts {w : World} {B : Nat} {vs : List Value} {ds : List D0} {f : List Nat} {cs : List C0} (h : Owns w B vs ds f) (hc : ds.map D0.code = .ints :: cs) :
    ∃ p n c z us es f2, vs = .slice p n c :: us ∧ ds = .ints z :: es ∧ f = (p.map (·.block)).toList ++ f2 ∧ Own w B T_int 1 p n c (z.map (Value.int .i64)) ∧ Owns w B us es f2 ∧ es.map D0.code = cs := by
  match vs, ds, h, hc with
  | v :: us, .ints z :: es, h, hc =>
    obtain ⟨f1, f2, hf, ⟨p, n, c, hv, ho, hf1⟩, h2⟩ := h
    exact ⟨p, n, c, z, us, es, f2, by rw [hv], rfl, by rw [hf, hf1], ho, h2, (List.cons.inj hc).2⟩
  | [], .ints z :: es, h, _ => exact h.elim
theorem Owns.consStr {w : World} {B : Nat} {vs : List Value} {ds : List D0} {f : List Nat} {cs : List C0} (h : Owns w B vs ds f) (hc : ds.map D0.code = .str :: cs) :
    ∃ s us es, vs = .string s :: us ∧ ds = .str s :: es ∧ Owns w B us es f ∧ es.map D0.code = cs := by
  match vs, ds, h, hc with
  | v :: us, .str z :: es, h, hc =>
    obtain ⟨f1, f2, hf, ⟨hv, hf1⟩, h2⟩ := h
    exact ⟨z, us, es, by rw [hv], rfl, by rw [hf, hf1]; exact h2, (List.cons.inj hc).2⟩
  | [], .str z :: es, h, _ => exact h.elim
theorem Owns.consBool {w : World} {B : Nat} {vs : List Value} {ds : List D0} {f : List Nat} {cs : List C0} (h : Owns w B vs ds f) (hc : ds.map D0.code = .bool :: cs) :
    ∃ s us es, vs = .bool s :: us ∧ ds = .bool s :: es ∧ Owns w B us es f ∧ es.map D0.code = cs := by
  match vs, ds, h, hc with
  | v :: us, .bool z :: es, h, hc =>
    obtain ⟨f1, f2, hf, ⟨hv, hf1⟩, h2⟩ := h
    exact ⟨z, us, es, by rw [hv], rfl, by rw [hf, hf1]; exact h2, (List.cons.inj hc).2⟩
  | [], .bool z :: es, h, _ => exact h.elim
theorem Owns.consInt {w : World} {B : Nat} {vs : List Value} {ds : List D0} {f : List Nat} {cs : List C0} (h : Owns w B vs ds f) (hc : ds.map D0.code = .int :: cs) :
    ∃ s us es, vs = .int .i64 s :: us ∧ ds = .int s :: es ∧ Owns w B us es f ∧ es.map D0.code = cs := by
  match vs, ds, h, hc with
  | v :: us, .int z :: es, h, hc =>
    obtain ⟨f1, f2, hf, ⟨hv, hf1⟩, h2⟩ := h
    exact ⟨z, us, es, by rw [hv], rfl, by rw [hf, hf1]; exact h2, (List.cons.inj hc).2⟩
  | [], .int z :: es, h, _ => exact h.elim
theorem Owns.done {w : World} {B : Nat} {vs : List Value} {ds : List D0} {f : List Nat} (h : Owns w B vs ds f) (hc : ds.map D0.code = []) : vs = [] ∧ ds = [] ∧ f = [] := by
  match vs, ds, h, hc with
  | [], [], h, _ => exact ⟨rfl, rfl, h⟩
  | v :: us, [], h, _ => exact h.elim

/-! ## cells in the middle of a block -/

theorem Blk.segMid {w : World} {b o : Nat} {e : TypeId} {xs cur zs : List Value} (h : Blk w b e (xs ++ cur ++ zs)) (hA : xs.length = o) : Seg w b o cur := by
  subst hA
  have h1 := h.seg
  have h2 := (h1.drop xs.length).take cur.length
  rw [List.append_assoc, List.drop_left, List.take_left] at h2
  simpa using h2
theorem Blk.storeMid {P : Program} {w : World} {t : TypeId} {b o : Nat} {e : TypeId} {xs cur zs : List Value} {v : Value} (h : Blk w b e (xs ++ cur ++ zs)) (hA : xs.length = o) (j : Nat) (hj : j < cur.length) (ht : cellT P t = true) (hv : v.oneCell' = true) {a : Addr} (ha : a = ⟨b, o + j, none⟩) :
    ∃ w', Stores P t a v w w' ∧ Blk w' b e (xs ++ cur.set j v ++ zs) ∧ Chg [b] w w' ∧ w'.heap.size = w.heap.size := by
  subst ha; subst hA
  obtain ⟨w', h1, h2, h3, h4⟩ := h.store (P := P) (k := xs.length + j) (v := v) ht (by simp; omega) hv
  refine ⟨w', by rw [addr_add, Nat.zero_add] at h1; exact h1, ?_, h3, h4⟩
  rw [List.append_assoc, List.set_append_right _ _ (by omega), Nat.add_sub_cancel_left, List.set_append_left _ _ hj, ← List.append_assoc] at h2
  exact h2

/-! ## one's own slice: its block -/

theorem Own.blk {w : World} {B : Nat} {e : TypeId} {size : Nat} {p : Option Addr} {n c : Nat} {xs : List Value} (h : Own w B e size p n c xs) (hn : 0 < n) :
    ∃ b ys, p = some ⟨b, 0, none⟩ ∧ B ≤ b ∧ Blk w b e ys ∧ ys.length = c * size ∧ n ≤ c ∧ c ≤ maxLen ∧ ys.take (n * size) = xs := by
  rcases h.2 with ⟨h1, h2⟩ | ⟨g, cap, cur, h1, hb, hg, h3, h4, h5, h6⟩
  · omega
  · simp only [Value.slice.injEq] at h1
    obtain ⟨e1, _, e3⟩ := h1
    have e3 : c = cap := by omega
    subst e3
    exact ⟨g, cur.toList, e1, hb, hg, by simpa using h5, h3, h4, h6⟩
theorem Own.of_blk' {w : World} {B : Nat} {e : TypeId} {size : Nat} {b n c : Nat} {ys : List Value} (h : Blk w b e ys) (hb : B ≤ b) (hl : ys.length = c * size) (hn : n ≤ c) (hc : c ≤ maxLen) : Own w B e size (some ⟨b, 0, none⟩) n c (ys.take (n * size)) :=
  ⟨by
    have : n * size ≤ c * size := Nat.mul_le_mul_right _ hn
    simp; omega, .inr ⟨b, c, ⟨ys⟩, rfl, hb, h, hn, hc, by simpa using hl, rfl⟩⟩
/-- a cell of one's own slice is stored -/
theorem Own.set {P : Program} {w : World} {B : Nat} {e : TypeId} {size : Nat} {p : Option Addr} {n c : Nat} {xs : List Value} (h : Own w B e size p n c xs) {t : TypeId} {i : Nat} {v : Value} (hi : i < xs.length) (ht : cellT P t = true) (hv : v.oneCell' = true) :
    ∃ b w', p = some ⟨b, 0, none⟩ ∧ Stores P t ((⟨b, 0, none⟩ : Addr).add i) v w w' ∧ Own w' B e size p n c (xs.set i v) ∧ Chg (p.map (·.block)).toList w w' ∧ w'.heap.size = w.heap.size := by
  have hl := h.len
  have hn : 0 < n := by
    rcases Nat.eq_zero_or_pos n with h0 | h0
    · subst h0; simp at hl; rw [hl] at hi; simp at hi
    · exact h0
  obtain ⟨b, ys, rfl, hb, hblk, hyl, hnc, hc, hx⟩ := h.blk hn
  have hle : n * size ≤ c * size := Nat.mul_le_mul_right _ hnc
  obtain ⟨w', st, hb', ch, sz⟩ := hblk.store (P := P) (t := t) (k := i) (v := v) ht (by omega) hv
  refine ⟨b, w', rfl, st, ?_, by simpa using ch, sz⟩
  have := Own.of_blk' (n := n) hb' hb (by simpa using hyl) hnc hc
  rw [List.take_set, hx] at this
  exact this

/-! ## a row, turned and put back -/

theorem AllO.focus {w : World} {B k : Nat} : ∀ {css : List (List Value)} {l : List (List D0)} {fs : List (List Nat)}, AllO w B k css l fs → ∀ (i : Nat) (x : List D0), l[i]? = some x →
    ∃ cs fi, css[i]? = some cs ∧ fs[i]? = some fi ∧ cs.length = k ∧ Owns w B cs x fi
  | [], [], [], _, i, x, hx => by simp at hx
  | cs :: css, y :: l, f :: fs, h, 0, x, hx => by
    simp only [List.getElem?_cons_zero, Option.some.injEq] at hx
    subst hx
    exact ⟨cs, f, rfl, rfl, h.1, h.2.1⟩
  | cs :: css, y :: l, f :: fs, h, i + 1, x, hx => by
    simp only [List.getElem?_cons_succ] at hx ⊢
    exact AllO.focus h.2.2 i x hx
  | [], [], _ :: _, h, _, _, _ => h.elim
  | [], _ :: _, _, h, _, _, _ => h.elim
  | _ :: _, [], _, h, _, _, _ => h.elim
  | _ :: _, _ :: _, [], h, _, _, _ => h.elim
theorem AllO.set {S : List Nat} {w w' : World} {B k : Nat} {cs' : List Value} {x' : List D0} (hc : Chg S w w') (hk : cs'.length = k) : ∀ {css : List (List Value)} {l : List (List D0)} {fs : List (List Nat)}, AllO w B k css l fs → ∀ (i : Nat) (fi : List Nat), fs[i]? = some fi →
    Owns w' B cs' x' fi → (∀ (j : Nat) (f : List Nat), j ≠ i → fs[j]? = some f → ∀ y ∈ f, y ∉ S) → AllO w' B k (css.set i cs') (l.set i x') fs
  | [], [], [], _, i, fi, hx, _, _ => by simp at hx
  | cs :: css, y :: l, f :: fs, h, 0, fi, hx, ho, hS => by
    simp only [List.getElem?_cons_zero, Option.some.injEq] at hx
    subst hx
    refine ⟨hk, ho, h.2.2.chg hc fun y hy => ?_⟩
    obtain ⟨f', hf, hyf⟩ := List.mem_flatten.1 hy
    obtain ⟨j, hj, e⟩ := List.getElem_of_mem hf
    exact hS (j + 1) f' (by omega) (by simp [List.getElem?_eq_getElem hj, e]) y hyf
  | cs :: css, y :: l, f :: fs, h, i + 1, fi, hx, ho, hS => by
    simp only [List.getElem?_cons_succ] at hx
    refine ⟨h.1, h.2.1.chg hc fun y hy => hS 0 f (by omega) rfl y hy, AllO.set hc hk h.2.2 i fi hx ho fun j f' hj hf => hS (j + 1) f' (by omega) (by simpa using hf)⟩
  | [], [], _ :: _, h, _, _, _, _, _ => h.elim
  | [], _ :: _, _, h, _, _, _, _, _ => h.elim
  | _ :: _, [], _, h, _, _, _, _, _ => h.elim
  | _ :: _, _ :: _, [], h, _, _, _, _, _ => h.elim
theorem flat_len {α : Type} {k : Nat} : ∀ {css : List (List α)}, (∀ c ∈ css, c.length = k) → css.flatten.length = css.length * k
  | [], _ => by simp
  | c :: css, h => by
    rw [List.flatten_cons, List.length_append, flat_len fun c hc => h c (.tail _ hc), h c (.head _), List.length_cons, Nat.succ_mul, Nat.add_comm]
theorem cons_at {α : Type} {l : List α} {i : Nat} {x : α} (h : l[i]? = some x) : l = l.take i ++ x :: l.drop (i + 1) := by
  obtain ⟨h1, h2⟩ := List.getElem?_eq_some_iff.1 h
  conv => lhs; rw [← List.take_append_drop i l]
  rw [List.drop_eq_getElem_cons h1, h2]
theorem set_split {α : Type} {l : List α} {i : Nat} {x y : α} (h : l[i]? = some x) : l.set i y = l.take i ++ y :: l.drop (i + 1) := by
  obtain ⟨h1, h2⟩ := List.getElem?_eq_some_iff.1 h
  rw [List.set_eq_take_append_cons_drop, if_pos h1]
theorem AllO.lens {w : World} {B k : Nat} : ∀ {css : List (List Value)} {l : List (List D0)} {fs : List (List Nat)}, AllO w B k css l fs → (∀ c ∈ css, c.length = k) ∧ css.length = l.length ∧ fs.length = l.length
  | [], [], [], _ => ⟨fun _ h => by simp at h, rfl, rfl⟩
  | cs :: css, y :: l, f :: fs, h => by
    obtain ⟨h1, h2, h3⟩ := AllO.lens h.2.2
    refine ⟨fun c hc => ?_, by simp [h2], by simp [h3]⟩
    rcases List.mem_cons.1 hc with h4 | h4
    · rw [h4]; exact h.1
    · exact h1 c h4
  | [], [], _ :: _, h => h.elim
  | [], _ :: _, _, h => h.elim
  | _ :: _, [], _, h => h.elim
  | _ :: _, _ :: _, [], h => h.elim

theorem OwnRows.focus {w : World} {B : Nat} {e : TypeId} {k : Nat} {p : Option Addr} {n c : Nat} {l : List (List D0)} {f : List Nat} (h : OwnRows w B e k p n c l f) {i : Nat} {x : List D0} (hx : l[i]? = some x) :
    ∃ b xs cs zs fi, p = some ⟨b, 0, none⟩ ∧ B ≤ b ∧ xs.length = i * k ∧ cs.length = k ∧ Blk w b e (xs ++ cs ++ zs) ∧ Owns w B cs x fi ∧ fi.Nodup ∧ b ∉ fi ∧ b ∈ f ∧ (∀ y ∈ fi, y ∈ f) ∧
      ∀ w' cs' x', Chg (b :: fi) w w' → cs'.length = k → Blk w' b e (xs ++ cs' ++ zs) → Owns w' B cs' x' fi → OwnRows w' B e k p n c (l.set i x') f := by
  obtain ⟨hl, css, fs, ha, ho, hf, hnd⟩ := h
  have hi : i < l.length := (List.getElem?_eq_some_iff.1 hx).1
  obtain ⟨cs, fi, hcs, hfi, hk, how⟩ := ha.focus i x hx
  obtain ⟨hlen, hcl, hfl⟩ := ha.lens
  obtain ⟨b, ys, rfl, hb, hblk, hyl, hnc, hc, hy⟩ := ho.blk (by omega)
  have hsp := congrArg List.flatten (cons_at hcs)
  rw [List.flatten_append, List.flatten_cons] at hsp
  have hA : (css.take i).flatten.length = i * k := by
    rw [flat_len fun c hc => hlen c (List.mem_of_mem_take hc), List.length_take, Nat.min_eq_left (by omega)]
  have hys : ys = (css.take i).flatten ++ cs ++ ((css.drop (i + 1)).flatten ++ ys.drop (n * k)) := by
    conv => lhs; rw [← List.take_append_drop (n * k) ys, hy, hsp]
    simp
  have hnd' := hnd
  rw [hf] at hnd'
  simp only [Option.map_some, Option.toList_some, List.singleton_append, List.nodup_cons] at hnd'
  obtain ⟨hbn, hfn⟩ := hnd'
  obtain ⟨hf1, hf2⟩ := List.pairwise_flatten.1 hfn
  have hmem : ∀ y ∈ fi, y ∈ fs.flatten := fun y hy => List.mem_flatten.2 ⟨fi, List.mem_of_getElem? hfi, hy⟩
  rw [hys] at hblk
  refine ⟨b, _, cs, _, fi, rfl, hb, hA, hk, hblk, how, hf1 _ (List.mem_of_getElem? hfi), fun hm => hbn (hmem _ hm), by rw [hf]; simp, fun y hy => by rw [hf]; simp only [List.mem_append]; exact .inr (hmem y hy), ?_⟩
  intro w' cs' x' hch hk' hblk' how'
  refine ⟨by simpa using hl, css.set i cs', fs, ha.set hch hk' i fi hfi how' ?_, ?_, hf, hnd⟩
  · intro j g hj hg y hy hm
    have hyf : y ∈ fs.flatten := List.mem_flatten.2 ⟨g, List.mem_of_getElem? hg, hy⟩
    rcases List.mem_cons.1 hm with rfl | hm
    · exact hbn hyf
    · obtain ⟨j1, e1⟩ := List.getElem?_eq_some_iff.1 hg
      obtain ⟨i1, e2⟩ := List.getElem?_eq_some_iff.1 hfi
      rw [List.pairwise_iff_getElem] at hf2
      rcases Nat.lt_or_ge j i with hlt | hge
      · have := hf2 j i j1 i1 hlt
        rw [e1, e2] at this
        exact this y hy y hm rfl
      · have := hf2 i j i1 j1 (by omega)
        rw [e1, e2] at this
        exact this y hm y hy rfl
  · have hlen2 : ((css.take i).flatten ++ cs' ++ ((css.drop (i + 1)).flatten ++ ys.drop (n * k))).length = c * k := by
      have := congrArg List.length hys
      simp only [List.length_append] at this ⊢
      omega
    have := Own.of_blk' (n := n) hblk' hb hlen2 hnc hc
    have e : ((css.take i).flatten ++ cs' ++ ((css.drop (i + 1)).flatten ++ ys.drop (n * k))).take (n * k) = (css.set i cs').flatten := by
      rw [set_split hcs, List.flatten_append, List.flatten_cons, ← List.append_assoc, ← List.append_assoc, List.take_left']
      have h1 := congrArg List.length hsp
      have h2 := flat_len hlen
      simp only [List.length_append] at h1 ⊢
      rw [hcl, hl] at h2
      omega
    rwa [e] at this

end Go.Proofs.YtfbmjimhjlmhkaaDoor.Sx
