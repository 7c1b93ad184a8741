/-
  Data that is one's own: fresh, its slices in blocks of their own.
-/
import Derived.Test.YtfbmjimhjlmhkaaDoorSxData
namespace Go.Proofs.YtfbmjimhjlmhkaaDoor.Sx
open Go Go.RowKit
set_option linter.unusedVariables false
set_option linter.unusedSimpArgs false

section
variable {P : Program}
theorem Blk.load0 {w : World} {t : TypeId} {b k : Nat} {e : TypeId} {cs : List Value} {v : Value} (h : Blk w b e cs) (ht : cellT P t = true) (hx : cs[k]? = some v) : Loads P t ⟨b, k, none⟩ v w :=
  loads1 ht (by rw [h.cell]; exact hx)
theorem Blk.loadA0 {w : World} {t : TypeId} {b : Nat} {e : TypeId} {cs : List Value} (h : Blk w b e cs) (ht : aggT P t cs.length = true) : Loads P t ⟨b, 0, none⟩ (.agg ⟨cs⟩) w :=
  loadsA ht h.seg
theorem Blk.store0 {w : World} {t : TypeId} {b k : Nat} {e : TypeId} {cs : List Value} {v : Value} (h : Blk w b e cs) (ht : cellT P t = true) (hk : k < cs.length) (hv : v.oneCell' = true) :
    ∃ w', Stores P t ⟨b, k, none⟩ v w w' ∧ Blk w' b e (cs.set k v) ∧ Chg [b] w w' ∧ w'.heap.size = w.heap.size := by
  have := h.store (P := P) ht hk hv
  rw [addr_add, Nat.zero_add] at this
  exact this
theorem Blk.storeA0 {w : World} {t : TypeId} {b : Nat} {e : TypeId} {cs xs : List Value} (h : Blk w b e cs) (ht : aggT P t xs.length = true) (hk : xs.length = cs.length) (hv : ∀ v ∈ xs, v.oneCell' = true) :
    ∃ w', Stores P t ⟨b, 0, none⟩ (.agg ⟨xs⟩) w w' ∧ Blk w' b e xs ∧ Chg [b] w w' ∧ w'.heap.size = w.heap.size := by
  obtain ⟨w', h1, h2, h3, h4⟩ := h.storeA (P := P) (k := 0) ht (by omega) hv
  rw [addr_add, Nat.zero_add] at h1
  refine ⟨w', h1, ?_, h3, h4⟩
  rw [List.take_zero, List.nil_append, Nat.zero_add, hk, List.drop_length, List.append_nil] at h2
  exact h2
end

def Own0 (w : World) (B : Nat) (v : Value) : D0 → List Nat → Prop
  | .int n, f => v = .int .i64 n ∧ f = []
  | .bool b, f => v = .bool b ∧ f = []
  | .str s, f => v = .string s ∧ f = []
  | .ints zs, f => ∃ p n c, v = .slice p n c ∧ Own w B T_int 1 p n c (zs.map (Value.int .i64)) ∧ f = (p.map (·.block)).toList

def Owns (w : World) (B : Nat) : List Value → List D0 → List Nat → Prop
  | [], [], f => f = []
  | v :: vs, d :: ds, f => ∃ f1 f2, f = f1 ++ f2 ∧ Own0 w B v d f1 ∧ Owns w B vs ds f2
  | _, _, _ => False

theorem Own0.rep {w : World} {B : Nat} {v : Value} {d : D0} {f : List Nat} (h : Own0 w B v d f) : Rep0 w v d := by
  cases d <;> simp only [Own0] at h <;> simp only [Rep0]
  case ints zs => obtain ⟨p, n, c, hv, ho, _⟩ := h; exact ⟨p, n, c, hv, ho.ints⟩
  all_goals exact h.1
theorem Owns.reps {w : World} {B : Nat} : ∀ {vs : List Value} {ds : List D0} {f : List Nat}, Owns w B vs ds f → Reps w vs ds
  | [], [], _, _ => trivial
  | [], _ :: _, _, h => h.elim
  | _ :: _, [], _, h => h.elim
  | _ :: _, _ :: _, _, h => by
    obtain ⟨f1, f2, _, h1, h2⟩ := h
    exact ⟨h1.rep, Owns.reps h2⟩
theorem Own0.lt {w : World} {B : Nat} {v : Value} {d : D0} {f : List Nat} (h : Own0 w B v d f) : ∀ k ∈ f, B ≤ k ∧ k < w.heap.size := by
  cases d <;> simp only [Own0] at h
  case ints zs =>
    obtain ⟨p, n, c, hv, ho, hf⟩ := h
    intro k hk
    rw [hf] at hk
    exact World.ownsRow.lt ho k (by cases p <;> simp_all [Value.ownBlock])
  all_goals (intro k hk; rw [h.2] at hk; simp at hk)
theorem Owns.lt {w : World} {B : Nat} : ∀ {vs : List Value} {ds : List D0} {f : List Nat}, Owns w B vs ds f → ∀ k ∈ f, B ≤ k ∧ k < w.heap.size
  | [], [], _, h, k, hk => by rw [h] at hk; simp at hk
  | [], _ :: _, _, h, _, _ => h.elim
  | _ :: _, [], _, h, _, _ => h.elim
  | _ :: _, _ :: _, _, h, k, hk => by
    obtain ⟨f1, f2, rfl, h1, h2⟩ := h
    rcases List.mem_append.1 hk with hk | hk
    · exact h1.lt k hk
    · exact Owns.lt h2 k hk
theorem Own0.ext {w w' : World} {B : Nat} {v : Value} {d : D0} {f : List Nat} (h : Own0 w B v d f) (he : Ext w w') : Own0 w' B v d f := by
  cases d <;> simp only [Own0] at h ⊢ <;> try exact h
  obtain ⟨p, n, c, hv, ho, hf⟩ := h
  exact ⟨p, n, c, hv, ho.ext he, hf⟩
theorem Owns.ext {w w' : World} {B : Nat} : ∀ {vs : List Value} {ds : List D0} {f : List Nat}, Owns w B vs ds f → Ext w w' → Owns w' B vs ds f
  | [], [], _, h, _ => h
  | [], _ :: _, _, h, _ => h.elim
  | _ :: _, [], _, h, _ => h.elim
  | _ :: _, _ :: _, _, h, he => by
    obtain ⟨f1, f2, rfl, h1, h2⟩ := h
    exact ⟨f1, f2, rfl, h1.ext he, Owns.ext h2 he⟩
theorem Own.chg {S : List Nat} {w w' : World} {B : Nat} {e : TypeId} {size : Nat} {p : Option Addr} {n c : Nat} {xs : List Value} (h : Own w B e size p n c xs) (he : Chg S w w') (hS : ∀ k, p.map (·.block) = some k → k ∉ S) : Own w' B e size p n c xs := by
  refine ⟨h.1, ?_⟩
  rcases h.2 with h1 | ⟨g, cap, cur, h1, h2, h3, h4⟩
  · exact .inl h1
  · refine .inr ⟨g, cap, cur, h1, h2, ?_, h4⟩
    simp only [Value.slice.injEq] at h1
    rw [he.block g (Array.getElem?_eq_some_iff.1 h3).1 (hS g (by rw [h1.1]; rfl))]
    exact h3
theorem Own0.chg {S : List Nat} {w w' : World} {B : Nat} {v : Value} {d : D0} {f : List Nat} (h : Own0 w B v d f) (he : Chg S w w') (hS : ∀ k ∈ f, k ∉ S) : Own0 w' B v d f := by
  cases d <;> simp only [Own0] at h ⊢ <;> try exact h
  obtain ⟨p, n, c, hv, ho, hf⟩ := h
  exact ⟨p, n, c, hv, ho.chg he (fun k hk => hS k (by rw [hf, hk]; simp)), hf⟩
theorem Owns.chg {S : List Nat} {w w' : World} {B : Nat} : ∀ {vs : List Value} {ds : List D0} {f : List Nat}, Owns w B vs ds f → Chg S w w' → (∀ k ∈ f, k ∉ S) → Owns w' B vs ds f
  | [], [], _, h, _, _ => h
  | [], _ :: _, _, h, _, _ => h.elim
  | _ :: _, [], _, h, _, _ => h.elim
  | _ :: _, _ :: _, _, h, he, hS => by
    obtain ⟨f1, f2, rfl, h1, h2⟩ := h
    exact ⟨f1, f2, rfl, h1.chg he (fun k hk => hS k (by simp [hk])), Owns.chg h2 he (fun k hk => hS k (by simp [hk]))⟩
/-- blocks from B on are not touched where only older ones turn -/
theorem Owns.chg1 {r : Nat} {w w' : World} {B : Nat} {vs : List Value} {ds : List D0} {f : List Nat} (h : Owns w B vs ds f) (he : Chg [r] w w') (hr : r < B) : Owns w' B vs ds f :=
  h.chg he fun k hk hm => by
    have := (h.lt k hk).1
    simp at hm; omega
theorem Own0.mono {w : World} {B B' : Nat} {v : Value} {d : D0} {f : List Nat} (h : Own0 w B v d f) (hb : B' ≤ B) : Own0 w B' v d f := by
  cases d <;> simp only [Own0] at h ⊢ <;> try exact h
  obtain ⟨p, n, c, hv, ho, hf⟩ := h
  exact ⟨p, n, c, hv, ho.mono hb, hf⟩
theorem Owns.mono {w : World} {B B' : Nat} (hb : B' ≤ B) : ∀ {vs : List Value} {ds : List D0} {f : List Nat}, Owns w B vs ds f → Owns w B' vs ds f
  | [], [], _, h => h
  | [], _ :: _, _, h => h.elim
  | _ :: _, [], _, h => h.elim
  | _ :: _, _ :: _, _, h => by
    obtain ⟨f1, f2, rfl, h1, h2⟩ := h
    exact ⟨f1, f2, rfl, h1.mono hb, Owns.mono hb h2⟩
theorem Owns.append {w : World} {B : Nat} : ∀ {vs us : List Value} {ds es : List D0} {f g : List Nat}, Owns w B vs ds f → Owns w B us es g → Owns w B (vs ++ us) (ds ++ es) (f ++ g)
  | [], _, [], _, f, g, h, k => by rw [show f = [] from h]; exact k
  | [], _, _ :: _, _, _, _, h, _ => h.elim
  | _ :: _, _, [], _, _, _, h, _ => h.elim
  | _ :: _, _, _ :: _, _, _, g, h, k => by
    obtain ⟨f1, f2, rfl, h1, h2⟩ := h
    exact ⟨f1, f2 ++ g, by simp, h1, Owns.append h2 k⟩
theorem Owns.nil (w : World) (B : Nat) : Owns w B [] [] [] := rfl
theorem Owns.bool (w : World) (B : Nat) (b : Bool) : Owns w B [.bool b] [.bool b] [] := ⟨[], [], rfl, ⟨rfl, rfl⟩, rfl⟩
theorem Owns.int (w : World) (B : Nat) (n : Int) : Owns w B [.int .i64 n] [.int n] [] := ⟨[], [], rfl, ⟨rfl, rfl⟩, rfl⟩
theorem Owns.str (w : World) (B : Nat) (s : ByteArray) : Owns w B [.string s] [.str s] [] := ⟨[], [], rfl, ⟨rfl, rfl⟩, rfl⟩
theorem Owns.ints {w : World} {B : Nat} {p : Option Addr} {n c : Nat} {zs : List Int} (h : Own w B T_int 1 p n c (zs.map (Value.int .i64))) : Owns w B [.slice p n c] [.ints zs] (p.map (·.block)).toList :=
  ⟨_, [], by simp, ⟨p, n, c, rfl, h, rfl⟩, rfl⟩
/-- what is older ahead of what is newer: no block twice -/
theorem nodup_append {f g : List Nat} {m : Nat} (hf : f.Nodup) (hg : g.Nodup) (h1 : ∀ k ∈ f, k < m) (h2 : ∀ k ∈ g, m ≤ k) : (f ++ g).Nodup := by
  rw [List.nodup_append]
  exact ⟨hf, hg, fun a ha b hb e => by have := h1 a ha; have := h2 b hb; omega⟩

/-- a load at an address in whatever form -/
theorem Blk.loadAt {P : Program} {w : World} {t : TypeId} {b : Nat} {e : TypeId} {cs : List Value} {v : Value} {a : Addr} (k : Nat) (h : Blk w b e cs) (ha : a = ⟨b, k, none⟩) (ht : cellT P t = true) (hx : cs[k]? = some v) : Loads P t a v w := by
  subst ha; exact h.load0 ht hx
theorem Blk.loadAAt {P : Program} {w : World} {t : TypeId} {b : Nat} {e : TypeId} {cs : List Value} {a : Addr} (k : Nat) (xs : List Value) (h : Blk w b e cs) (ha : a = ⟨b, k, none⟩) (ht : aggT P t xs.length = true) (hx : (cs.drop k).take xs.length = xs) : Loads P t a (.agg ⟨xs⟩) w := by
  subst ha
  have := h.loadA (P := P) (k := k) ht hx
  rwa [addr_add, Nat.zero_add] at this
theorem Seg.loadAt {P : Program} {w : World} {t : TypeId} {b o : Nat} {cs : List Value} {v : Value} {a : Addr} (k : Nat) (h : Seg w b o cs) (ha : a = ⟨b, o + k, none⟩) (ht : cellT P t = true) (hx : cs[k]? = some v) : Loads P t a v w := by
  subst ha; exact loads1 ht (h _ _ hx)
theorem Seg.loadAAt {P : Program} {w : World} {t : TypeId} {b o : Nat} {cs : List Value} {a : Addr} (k : Nat) (xs : List Value) (h : Seg w b o cs) (ha : a = ⟨b, o + k, none⟩) (ht : aggT P t xs.length = true) (hx : (cs.drop k).take xs.length = xs) : Loads P t a (.agg ⟨xs⟩) w := by
  subst ha
  have := h.loadA (P := P) (k := k) ht hx
  rwa [addr_add] at this

/-- a new variable, filled at once -/
theorem New.fill {P : Program} {w w1 : World} {zs : List Value} {e : TypeId} {r : Nat} (hn : New w (.cells ⟨zs⟩ e (0, 0)) r w1) {t : TypeId} {xs : List Value} (hv : ∀ v ∈ xs, v.oneCell' = true) (ht : aggT P t xs.length = true) (hl : xs.length = zs.length) :
    ∃ w2, Stores P t ⟨r, 0, none⟩ (.agg ⟨xs⟩) w1 w2 ∧ Blk w2 r e xs ∧ Ext w w2 := by
  obtain ⟨w2, st, hb, ch, sz⟩ := hn.blk.storeA0 (P := P) (t := t) ht hl hv
  exact ⟨w2, st, hb, hn.ext.chg ch (by have := hn.r_eq; simp; omega)⟩

/-! ## slices of structs that are one's own -/

def AllO (w : World) (B k : Nat) : List (List Value) → List (List D0) → List (List Nat) → Prop
  | [], [], [] => True
  | cs :: css, x :: l, f :: fs => cs.length = k ∧ Owns w B cs x f ∧ AllO w B k css l fs
  | _, _, _ => False

theorem AllO.ext {w w' : World} {B k : Nat} : ∀ {css : List (List Value)} {l : List (List D0)} {fs : List (List Nat)}, AllO w B k css l fs → Ext w w' → AllO w' B k css l fs
  | [], [], [], _, _ => trivial
  | _ :: _, _ :: _, _ :: _, h, he => ⟨h.1, h.2.1.ext he, AllO.ext h.2.2 he⟩
  | [], [], _ :: _, h, _ => h.elim
  | [], _ :: _, _, h, _ => h.elim
  | _ :: _, [], _, h, _ => h.elim
  | _ :: _, _ :: _, [], h, _ => h.elim
theorem AllO.chg {S : List Nat} {w w' : World} {B k : Nat} : ∀ {css : List (List Value)} {l : List (List D0)} {fs : List (List Nat)}, AllO w B k css l fs → Chg S w w' → (∀ x ∈ fs.flatten, x ∉ S) → AllO w' B k css l fs
  | [], [], [], _, _, _ => trivial
  | _ :: _, _ :: _, _ :: _, h, he, hS => ⟨h.1, h.2.1.chg he (fun x hx => hS x (by simp [hx])), AllO.chg h.2.2 he (fun x hx => hS x (by rw [List.flatten_cons]; exact List.mem_append_right _ hx))⟩
  | [], [], _ :: _, h, _, _ => h.elim
  | [], _ :: _, _, h, _, _ => h.elim
  | _ :: _, [], _, h, _, _ => h.elim
  | _ :: _, _ :: _, [], h, _, _ => h.elim
theorem AllO.mono {w : World} {B B' k : Nat} (hb : B' ≤ B) : ∀ {css : List (List Value)} {l : List (List D0)} {fs : List (List Nat)}, AllO w B k css l fs → AllO w B' k css l fs
  | [], [], [], _ => trivial
  | _ :: _, _ :: _, _ :: _, h => ⟨h.1, h.2.1.mono hb, AllO.mono hb h.2.2⟩
  | [], [], _ :: _, h => h.elim
  | [], _ :: _, _, h => h.elim
  | _ :: _, [], _, h => h.elim
  | _ :: _, _ :: _, [], h => h.elim
theorem AllO.lt {w : World} {B k : Nat} : ∀ {css : List (List Value)} {l : List (List D0)} {fs : List (List Nat)}, AllO w B k css l fs → ∀ x ∈ fs.flatten, B ≤ x ∧ x < w.heap.size
  | [], [], [], _, x, hx => by simp at hx
  | _ :: _, _ :: _, _ :: _, h, x, hx => by
    rw [List.flatten_cons, List.mem_append] at hx
    rcases hx with hx | hx
    · exact h.2.1.lt x hx
    · exact AllO.lt h.2.2 x hx
  | [], [], _ :: _, h, _, _ => h.elim
  | [], _ :: _, _, h, _, _ => h.elim
  | _ :: _, [], _, h, _, _ => h.elim
  | _ :: _, _ :: _, [], h, _, _ => h.elim
theorem AllO.snoc {w : World} {B k : Nat} {cs : List Value} {x : List D0} {f : List Nat} (hk : cs.length = k) (ho : Owns w B cs x f) : ∀ {css : List (List Value)} {l : List (List D0)} {fs : List (List Nat)}, AllO w B k css l fs → AllO w B k (css ++ [cs]) (l ++ [x]) (fs ++ [f])
  | [], [], [], _ => ⟨hk, ho, trivial⟩
  | _ :: _, _ :: _, _ :: _, h => ⟨h.1, h.2.1, AllO.snoc hk ho h.2.2⟩
  | [], [], _ :: _, h => h.elim
  | [], _ :: _, _, h => h.elim
  | _ :: _, [], _, h => h.elim
  | _ :: _, _ :: _, [], h => h.elim
theorem AllO.len {w : World} {B k : Nat} : ∀ {css : List (List Value)} {l : List (List D0)} {fs : List (List Nat)}, AllO w B k css l fs → css.length = l.length ∧ css.flatten.length = l.length * k
  | [], [], [], _ => ⟨rfl, by simp⟩
  | cs :: css, x :: l, _ :: _, h => by
    have := AllO.len h.2.2
    refine ⟨by simp [this.1], ?_⟩
    rw [List.flatten_cons, List.length_append, this.2, h.1, List.length_cons, Nat.succ_mul, Nat.add_comm]
  | [], [], _ :: _, h => h.elim
  | [], _ :: _, _, h => h.elim
  | _ :: _, [], _, h => h.elim
  | _ :: _, _ :: _, [], h => h.elim
theorem AllO.cells1 {w : World} {B k : Nat} : ∀ {css : List (List Value)} {l : List (List D0)} {fs : List (List Nat)}, AllO w B k css l fs → ∀ v ∈ css.flatten, v.oneCell' = true
  | [], [], [], _, v, hv => by simp at hv
  | _ :: _, _ :: _, _ :: _, h, v, hv => by
    rw [List.flatten_cons, List.mem_append] at hv
    rcases hv with hv | hv
    · exact h.2.1.reps.cells1 v hv
    · exact AllO.cells1 h.2.2 v hv
  | [], [], _ :: _, h, _, _ => h.elim
  | [], _ :: _, _, h, _, _ => h.elim
  | _ :: _, [], _, h, _, _ => h.elim
  | _ :: _, _ :: _, [], h, _, _ => h.elim
theorem AllO.at {w : World} {B k : Nat} : ∀ {css : List (List Value)} {l : List (List D0)} {fs : List (List Nat)}, AllO w B k css l fs → ∀ i x, l[i]? = some x → ∃ cs, cs.length = k ∧ Reps w cs x ∧ (css.flatten.drop (i * k)).take k = cs
  | [], [], [], _, i, x, hx => by simp at hx
  | cs :: css, y :: l, _ :: _, h, i, x, hx => by
    cases i with
    | zero =>
      simp only [List.getElem?_cons_zero, Option.some.injEq] at hx
      subst hx
      refine ⟨cs, h.1, h.2.1.reps, ?_⟩
      rw [Nat.zero_mul, List.drop_zero, List.flatten_cons, ← h.1, List.take_left]
    | succ i =>
      simp only [List.getElem?_cons_succ] at hx
      obtain ⟨c, h1, h2, h3⟩ := AllO.at h.2.2 i x hx
      refine ⟨c, h1, h2, ?_⟩
      rw [List.flatten_cons, Nat.succ_mul, Nat.add_comm, ← List.drop_drop, ← h.1, List.drop_left, h.1]
      exact h3
  | [], [], _ :: _, h, _, _, _ => h.elim
  | [], _ :: _, _, h, _, _, _ => h.elim
  | _ :: _, [], _, h, _, _, _ => h.elim
  | _ :: _, _ :: _, [], h, _, _, _ => h.elim

/-- a slice of structs that is one's own, and the blocks that it takes -/
def OwnRows (w : World) (B : Nat) (e : TypeId) (k : Nat) (p : Option Addr) (n c : Nat) (l : List (List D0)) (f : List Nat) : Prop :=
  l.length = n ∧ ∃ css fs, AllO w B k css l fs ∧ Own w B e k p n c css.flatten ∧ f = (p.map (·.block)).toList ++ fs.flatten ∧ f.Nodup

theorem OwnRows.rows {w : World} {B : Nat} {e : TypeId} {k : Nat} {p : Option Addr} {n c : Nat} {l : List (List D0)} {f : List Nat} (h : OwnRows w B e k p n c l f) : RowsR w k p n c l := by
  obtain ⟨hl, css, fs, ha, ho, _, _⟩ := h
  refine ⟨hl, ho.le, ho.capLe, fun hn => ?_⟩
  obtain ⟨b, hp, _, hs⟩ := ho.seg hn
  refine ⟨b, 0, hp, fun i x hx => ?_⟩
  obtain ⟨cs, h1, h2, h3⟩ := ha.at i x hx
  exact ⟨cs, h1, h2, by rw [← h3]; exact (hs.drop (i * k)).take k⟩
theorem OwnRows.lt {w : World} {B : Nat} {e : TypeId} {k : Nat} {p : Option Addr} {n c : Nat} {l : List (List D0)} {f : List Nat} (h : OwnRows w B e k p n c l f) : ∀ x ∈ f, B ≤ x ∧ x < w.heap.size := by
  obtain ⟨hl, css, fs, ha, ho, rfl, _⟩ := h
  intro x hx
  rcases List.mem_append.1 hx with hx | hx
  · exact World.ownsRow.lt ho x (by cases p <;> simp_all [Value.ownBlock])
  · exact ha.lt x hx
theorem OwnRows.ext {w w' : World} {B : Nat} {e : TypeId} {k : Nat} {p : Option Addr} {n c : Nat} {l : List (List D0)} {f : List Nat} (h : OwnRows w B e k p n c l f) (he : Ext w w') : OwnRows w' B e k p n c l f := by
  obtain ⟨hl, css, fs, ha, ho, hf, hn⟩ := h
  exact ⟨hl, css, fs, ha.ext he, ho.ext he, hf, hn⟩
theorem OwnRows.mono {w : World} {B B' : Nat} {e : TypeId} {k : Nat} {p : Option Addr} {n c : Nat} {l : List (List D0)} {f : List Nat} (h : OwnRows w B e k p n c l f) (hb : B' ≤ B) : OwnRows w B' e k p n c l f := by
  obtain ⟨hl, css, fs, ha, ho, hf, hn⟩ := h
  exact ⟨hl, css, fs, ha.mono hb, ho.mono hb, hf, hn⟩
theorem OwnRows.chg {S : List Nat} {w w' : World} {B : Nat} {e : TypeId} {k : Nat} {p : Option Addr} {n c : Nat} {l : List (List D0)} {f : List Nat} (h : OwnRows w B e k p n c l f) (he : Chg S w w') (hS : ∀ x ∈ f, x ∉ S) : OwnRows w' B e k p n c l f := by
  obtain ⟨hl, css, fs, ha, ho, rfl, hn⟩ := h
  exact ⟨hl, css, fs, ha.chg he (fun x hx => hS x (List.mem_append_right _ hx)), ho.chg he (fun x hx => hS x (List.mem_append_left _ (by rw [hx]; simp))), rfl, hn⟩

/-- the row of a slice of structs while it is filled -/
theorem fill_row {xs cs : List Value} {css : List (List Value)} {j k n : Nat} (hl : xs.length = n * k) (ht : xs.take (j * k) = css.flatten) (hk : cs.length = k) (hj : j < n) :
    j * k + cs.length ≤ xs.length ∧ (xs.take (j * k) ++ cs ++ xs.drop (j * k + cs.length)).length = n * k ∧ (xs.take (j * k) ++ cs ++ xs.drop (j * k + cs.length)).take ((j + 1) * k) = (css ++ [cs]).flatten := by
  have h1 : (j + 1) * k ≤ n * k := Nat.mul_le_mul_right _ (by omega)
  have h2 : (j + 1) * k = j * k + k := Nat.succ_mul j k
  refine ⟨by omega, by simp; omega, ?_⟩
  have h3 : (xs.take (j * k) ++ cs).length = (j + 1) * k := by simp; omega
  rw [List.take_left' h3, ht]
  simp

theorem dec_no {p : Prop} [Decidable p] (h : ¬ p) : Value.bool false = Value.bool (decide p) := by simp [h]
theorem dec_yes {p : Prop} [Decidable p] (h : p) : Value.bool true = Value.bool (decide p) := by simp [h]

end Go.Proofs.YtfbmjimhjlmhkaaDoor.Sx
