/-
  Parts of the proof of sharesEven_holds: SxOwn, P, G1, G2, G3, G4.
  Conditions: none.
-/
import Derived.Test.YtbgokfhcgcoipaaGreatProg
import Derived.Test.YtbgokfhcgcoipaaGreatSe1
set_option linter.unusedVariables false
set_option linter.unusedSimpArgs false
namespace Go.RowKit
end Go.RowKit

namespace Go.Proofs.YtbgokfhcgcoipaaGreat.Sx
open Go Go.RowKit
section
variable {P : Program}
theorem Blk.load0 {w : World} {t : TypeId} {b k : Nat} {e : TypeId} {cs : List Value} {v : Value} (h : Blk w b e cs) (ht : cellT P t = true) (hx : cs[k]? = some v) : Loads P t ⟨b, k, none⟩ v w :=
  loads1 ht (by rw [h.cell]; exact hx)
theorem Blk.loadA0 {w : World} {t : TypeId} {b : Nat} {e : TypeId} {cs : List Value} (h : Blk w b e cs) (ht : aggT P t cs.length = true) : Loads P t ⟨b, 0, none⟩ (.agg ⟨cs⟩) w :=
  loadsA ht h.seg
theorem Blk.storeA0 {w : World} {t : TypeId} {b : Nat} {e : TypeId} {cs xs : List Value} (h : Blk w b e cs) (ht : aggT P t xs.length = true) (hk : xs.length = cs.length) (hv : ∀ v ∈ xs, v.oneCell' = true) :
    ∃ w', Stores P t ⟨b, 0, none⟩ (.agg ⟨xs⟩) w w' /\ Blk w' b e xs /\ Chg [b] w w' /\ w'.heap.size = w.heap.size := by
  obtain ⟨w', h1, h2, h3, h4⟩ := h.storeA (P := P) (k := 0) ht (by omega) hv
  rw [addr_add, Nat.zero_add] at h1
  refine ⟨w', h1, ?_, h3, h4⟩
  rw [List.take_zero, List.nil_append, Nat.zero_add, hk, List.drop_length, List.append_nil] at h2
  exact h2
end
def Own0 (w : World) (B : Nat) (v : Value) : D0 -> List Nat -> Prop
  | .int n, f => v = .int .i64 n /\ f = []
  | .bool b, f => v = .bool b /\ f = []
  | .str s, f => v = .string s /\ f = []
  | .ints zs, f => ∃ p n c, v = .slice p n c /\ Own w B T_int 1 p n c (zs.map (Value.int .i64)) /\ f = (p.map (·.block)).toList
def Owns (w : World) (B : Nat) : List Value -> List D0 -> List Nat -> Prop
  | [], [], f => f = []
  | v :: vs, d :: ds, f => ∃ f1 f2, f = f1 ++ f2 /\ Own0 w B v d f1 /\ Owns w B vs ds f2
  | _, _, _ => False
theorem Own0.rep {w : World} {B : Nat} {v : Value} {d : D0} {f : List Nat} (h : Own0 w B v d f) : Rep0 w v d := by
  cases d <;> simp only [Own0] at h <;> simp only [Rep0]
  case ints zs => obtain ⟨p, n, c, hv, ho, _⟩ := h; exact ⟨p, n, c, hv, ho.ints⟩
  all_goals exact h.1
theorem Owns.reps {w : World} {B : Nat} : ∀ {vs : List Value} {ds : List D0} {f : List Nat}, Owns w B vs ds f -> Reps w vs ds
  | [], [], _, _ => trivial
  | [], _ :: _, _, h => h.elim
  | _ :: _, [], _, h => h.elim
  | _ :: _, _ :: _, _, h => by
    obtain ⟨f1, f2, _, h1, h2⟩ := h
    exact ⟨h1.rep, Owns.reps h2⟩
theorem Own0.lt {w : World} {B : Nat} {v : Value} {d : D0} {f : List Nat} (h : Own0 w B v d f) : ∀ k ∈ f, B <= k /\ k < w.heap.size := by
  cases d <;> simp only [Own0] at h
  case ints zs =>
    obtain ⟨p, n, c, hv, ho, hf⟩ := h
    intro k hk
    rw [hf] at hk
    exact World.ownsRow.lt ho k (by cases p <;> simp_all [Value.ownBlock])
  all_goals (intro k hk; rw [h.2] at hk; simp at hk)
theorem Owns.lt {w : World} {B : Nat} : ∀ {vs : List Value} {ds : List D0} {f : List Nat}, Owns w B vs ds f -> ∀ k ∈ f, B <= k /\ k < w.heap.size
  | [], [], _, h, k, hk => by rw [h] at hk; simp at hk
  | [], _ :: _, _, h, _, _ => h.elim
  | _ :: _, [], _, h, _, _ => h.elim
  | _ :: _, _ :: _, _, h, k, hk => by
    obtain ⟨f1, f2, rfl, h1, h2⟩ := h
    rcases List.mem_append.1 hk with hk | hk
    · exact h1.lt k hk
    · exact Owns.lt h2 k hk
theorem Own0.ext {w w' : World} {B : Nat} {v : Value} {d : D0} {f : List Nat} (h : Own0 w B v d f) (he : Ext w w') : Own0 w' B v d f := by
  cases d <;> simp only [Own0] at h ⊢ <;> try exact h
  obtain ⟨p, n, c, hv, ho, hf⟩ := h
  exact ⟨p, n, c, hv, ho.ext he, hf⟩
theorem Owns.ext {w w' : World} {B : Nat} : ∀ {vs : List Value} {ds : List D0} {f : List Nat}, Owns w B vs ds f -> Ext w w' -> Owns w' B vs ds f
  | [], [], _, h, _ => h
  | [], _ :: _, _, h, _ => h.elim
  | _ :: _, [], _, h, _ => h.elim
  | _ :: _, _ :: _, _, h, he => by
    obtain ⟨f1, f2, rfl, h1, h2⟩ := h
    exact ⟨f1, f2, rfl, h1.ext he, Owns.ext h2 he⟩
theorem Own.chg {S : List Nat} {w w' : World} {B : Nat} {e : TypeId} {size : Nat} {p : Option Addr} {n c : Nat} {xs : List Value} (h : Own w B e size p n c xs) (he : Chg S w w') (hS : ∀ k, p.map (·.block) = some k -> k ∉ S) : Own w' B e size p n c xs := by
  refine ⟨h.1, ?_⟩
  rcases h.2 with h1 | ⟨g, cap, cur, h1, h2, h3, h4⟩
  · exact .inl h1
  · refine .inr ⟨g, cap, cur, h1, h2, ?_, h4⟩
    simp only [Value.slice.injEq] at h1
    rw [he.block g (Array.getElem?_eq_some_iff.1 h3).1 (hS g (by rw [h1.1]; rfl))]
    exact h3
theorem Own0.chg {S : List Nat} {w w' : World} {B : Nat} {v : Value} {d : D0} {f : List Nat} (h : Own0 w B v d f) (he : Chg S w w') (hS : ∀ k ∈ f, k ∉ S) : Own0 w' B v d f := by
  cases d <;> simp only [Own0] at h ⊢ <;> try exact h
  obtain ⟨p, n, c, hv, ho, hf⟩ := h
  exact ⟨p, n, c, hv, ho.chg he (fun k hk => hS k (by rw [hf, hk]; simp)), hf⟩
theorem Owns.chg {S : List Nat} {w w' : World} {B : Nat} : ∀ {vs : List Value} {ds : List D0} {f : List Nat}, Owns w B vs ds f -> Chg S w w' -> (∀ k ∈ f, k ∉ S) -> Owns w' B vs ds f
  | [], [], _, h, _, _ => h
  | [], _ :: _, _, h, _, _ => h.elim
  | _ :: _, [], _, h, _, _ => h.elim
  | _ :: _, _ :: _, _, h, he, hS => by
    obtain ⟨f1, f2, rfl, h1, h2⟩ := h
    exact ⟨f1, f2, rfl, h1.chg he (fun k hk => hS k (by simp [hk])), Owns.chg h2 he (fun k hk => hS k (by simp [hk]))⟩
theorem Owns.chg1 {r : Nat} {w w' : World} {B : Nat} {vs : List Value} {ds : List D0} {f : List Nat} (h : Owns w B vs ds f) (he : Chg [r] w w') (hr : r < B) : Owns w' B vs ds f :=
  h.chg he fun k hk hm => by
    have := (h.lt k hk).1
    simp at hm; omega
theorem Own0.mono {w : World} {B B' : Nat} {v : Value} {d : D0} {f : List Nat} (h : Own0 w B v d f) (hb : B' <= B) : Own0 w B' v d f := by
  cases d <;> simp only [Own0] at h ⊢ <;> try exact h
  obtain ⟨p, n, c, hv, ho, hf⟩ := h
  exact ⟨p, n, c, hv, ho.mono hb, hf⟩
theorem Owns.mono {w : World} {B B' : Nat} (hb : B' <= B) : ∀ {vs : List Value} {ds : List D0} {f : List Nat}, Owns w B vs ds f -> Owns w B' vs ds f
  | [], [], _, h => h
  | [], _ :: _, _, h => h.elim
  | _ :: _, [], _, h => h.elim
  | _ :: _, _ :: _, _, h => by
    obtain ⟨f1, f2, rfl, h1, h2⟩ := h
    exact ⟨f1, f2, rfl, h1.mono hb, Owns.mono hb h2⟩
theorem Owns.append {w : World} {B : Nat} : ∀ {vs us : List Value} {ds es : List D0} {f g : List Nat}, Owns w B vs ds f -> Owns w B us es g -> Owns w B (vs ++ us) (ds ++ es) (f ++ g)
  | [], _, [], _, f, g, h, k => by rw [show f = [] from h]; exact k
  | [], _, _ :: _, _, _, _, h, _ => h.elim
  | _ :: _, _, [], _, _, _, h, _ => h.elim
  | _ :: _, _, _ :: _, _, _, g, h, k => by
    obtain ⟨f1, f2, rfl, h1, h2⟩ := h
    exact ⟨f1, f2 ++ g, by simp, h1, Owns.append h2 k⟩
theorem Owns.nil (w : World) (B : Nat) : Owns w B [] [] [] := rfl
theorem Owns.bool (w : World) (B : Nat) (b : Bool) : Owns w B [.bool b] [.bool b] [] := ⟨[], [], rfl, ⟨rfl, rfl⟩, rfl⟩
theorem Owns.int (w : World) (B : Nat) (n : Int) : Owns w B [.int .i64 n] [.int n] [] := ⟨[], [], rfl, ⟨rfl, rfl⟩, rfl⟩
theorem Owns.str (w : World) (B : Nat) (s : ByteArray) : Owns w B [.string s] [.str s] [] := ⟨[], [], rfl, ⟨rfl, rfl⟩, rfl⟩
theorem Owns.ints {w : World} {B : Nat} {p : Option Addr} {n c : Nat} {zs : List Int} (h : Own w B T_int 1 p n c (zs.map (Value.int .i64))) : Owns w B [.slice p n c] [.ints zs] (p.map (·.block)).toList :=
  ⟨_, [], by simp, ⟨p, n, c, rfl, h, rfl⟩, rfl⟩
theorem nodup_append {f g : List Nat} {m : Nat} (hf : f.Nodup) (hg : g.Nodup) (h1 : ∀ k ∈ f, k < m) (h2 : ∀ k ∈ g, m <= k) : (f ++ g).Nodup := by
  rw [List.nodup_append]
  exact ⟨hf, hg, fun a ha b hb e => by have := h1 a ha; have := h2 b hb; omega⟩
theorem Blk.loadAt {P : Program} {w : World} {t : TypeId} {b : Nat} {e : TypeId} {cs : List Value} {v : Value} {a : Addr} (k : Nat) (h : Blk w b e cs) (ha : a = ⟨b, k, none⟩) (ht : cellT P t = true) (hx : cs[k]? = some v) : Loads P t a v w := by
  subst ha; exact h.load0 ht hx
theorem Blk.loadAAt {P : Program} {w : World} {t : TypeId} {b : Nat} {e : TypeId} {cs : List Value} {a : Addr} (k : Nat) (xs : List Value) (h : Blk w b e cs) (ha : a = ⟨b, k, none⟩) (ht : aggT P t xs.length = true) (hx : (cs.drop k).take xs.length = xs) : Loads P t a (.agg ⟨xs⟩) w := by
  subst ha
  have := h.loadA (P := P) (k := k) ht hx
  rwa [addr_add, Nat.zero_add] at this
theorem Seg.loadAt {P : Program} {w : World} {t : TypeId} {b o : Nat} {cs : List Value} {v : Value} {a : Addr} (k : Nat) (h : Seg w b o cs) (ha : a = ⟨b, o + k, none⟩) (ht : cellT P t = true) (hx : cs[k]? = some v) : Loads P t a v w := by
  subst ha; exact loads1 ht (h _ _ hx)
theorem Seg.loadAAt {P : Program} {w : World} {t : TypeId} {b o : Nat} {cs : List Value} {a : Addr} (k : Nat) (xs : List Value) (h : Seg w b o cs) (ha : a = ⟨b, o + k, none⟩) (ht : aggT P t xs.length = true) (hx : (cs.drop k).take xs.length = xs) : Loads P t a (.agg ⟨xs⟩) w := by
  subst ha
  have := h.loadA (P := P) (k := k) ht hx
  rwa [addr_add] at this
theorem New.fill {P : Program} {w w1 : World} {zs : List Value} {e : TypeId} {r : Nat} (hn : New w (.cells ⟨zs⟩ e (0, 0)) r w1) {t : TypeId} {xs : List Value} (hv : ∀ v ∈ xs, v.oneCell' = true) (ht : aggT P t xs.length = true) (hl : xs.length = zs.length) :
    ∃ w2, Stores P t ⟨r, 0, none⟩ (.agg ⟨xs⟩) w1 w2 /\ Blk w2 r e xs /\ Ext w w2 := by
  obtain ⟨w2, st, hb, ch, sz⟩ := hn.blk.storeA0 (P := P) (t := t) ht hl hv
  exact ⟨w2, st, hb, hn.ext.chg ch (by have := hn.r_eq; simp; omega)⟩
def AllO (w : World) (B k : Nat) : List (List Value) -> List (List D0) -> List (List Nat) -> Prop
  | [], [], [] => True
  | cs :: css, x :: l, f :: fs => cs.length = k /\ Owns w B cs x f /\ AllO w B k css l fs
  | _, _, _ => False
theorem AllO.ext {w w' : World} {B k : Nat} : ∀ {css : List (List Value)} {l : List (List D0)} {fs : List (List Nat)}, AllO w B k css l fs -> Ext w w' -> AllO w' B k css l fs
  | [], [], [], _, _ => trivial
  | _ :: _, _ :: _, _ :: _, h, he => ⟨h.1, h.2.1.ext he, AllO.ext h.2.2 he⟩
  | [], [], _ :: _, h, _ => h.elim
  | [], _ :: _, _, h, _ => h.elim
  | _ :: _, [], _, h, _ => h.elim
  | _ :: _, _ :: _, [], h, _ => h.elim
theorem AllO.chg {S : List Nat} {w w' : World} {B k : Nat} : ∀ {css : List (List Value)} {l : List (List D0)} {fs : List (List Nat)}, AllO w B k css l fs -> Chg S w w' -> (∀ x ∈ fs.flatten, x ∉ S) -> AllO w' B k css l fs
  | [], [], [], _, _, _ => trivial
  | _ :: _, _ :: _, _ :: _, h, he, hS => ⟨h.1, h.2.1.chg he (fun x hx => hS x (by simp [hx])), AllO.chg h.2.2 he (fun x hx => hS x (by rw [List.flatten_cons]; exact List.mem_append_right _ hx))⟩
  | [], [], _ :: _, h, _, _ => h.elim
  | [], _ :: _, _, h, _, _ => h.elim
  | _ :: _, [], _, h, _, _ => h.elim
  | _ :: _, _ :: _, [], h, _, _ => h.elim
theorem AllO.mono {w : World} {B B' k : Nat} (hb : B' <= B) : ∀ {css : List (List Value)} {l : List (List D0)} {fs : List (List Nat)}, AllO w B k css l fs -> AllO w B' k css l fs
  | [], [], [], _ => trivial
  | _ :: _, _ :: _, _ :: _, h => ⟨h.1, h.2.1.mono hb, AllO.mono hb h.2.2⟩
  | [], [], _ :: _, h => h.elim
  | [], _ :: _, _, h => h.elim
  | _ :: _, [], _, h => h.elim
  | _ :: _, _ :: _, [], h => h.elim
theorem AllO.lt {w : World} {B k : Nat} : ∀ {css : List (List Value)} {l : List (List D0)} {fs : List (List Nat)}, AllO w B k css l fs -> ∀ x ∈ fs.flatten, B <= x /\ x < w.heap.size
  | [], [], [], _, x, hx => by simp at hx
  | _ :: _, _ :: _, _ :: _, h, x, hx => by
    rw [List.flatten_cons, List.mem_append] at hx
    rcases hx with hx | hx
    · exact h.2.1.lt x hx
    · exact AllO.lt h.2.2 x hx
  | [], [], _ :: _, h, _, _ => h.elim
  | [], _ :: _, _, h, _, _ => h.elim
  | _ :: _, [], _, h, _, _ => h.elim
  | _ :: _, _ :: _, [], h, _, _ => h.elim
theorem AllO.snoc {w : World} {B k : Nat} {cs : List Value} {x : List D0} {f : List Nat} (hk : cs.length = k) (ho : Owns w B cs x f) : ∀ {css : List (List Value)} {l : List (List D0)} {fs : List (List Nat)}, AllO w B k css l fs -> AllO w B k (css ++ [cs]) (l ++ [x]) (fs ++ [f])
  | [], [], [], _ => ⟨hk, ho, trivial⟩
  | _ :: _, _ :: _, _ :: _, h => ⟨h.1, h.2.1, AllO.snoc hk ho h.2.2⟩
  | [], [], _ :: _, h => h.elim
  | [], _ :: _, _, h => h.elim
  | _ :: _, [], _, h => h.elim
  | _ :: _, _ :: _, [], h => h.elim
theorem AllO.len {w : World} {B k : Nat} : ∀ {css : List (List Value)} {l : List (List D0)} {fs : List (List Nat)}, AllO w B k css l fs -> css.length = l.length /\ css.flatten.length = l.length * k
  | [], [], [], _ => ⟨rfl, by simp⟩
  | cs :: css, x :: l, _ :: _, h => by
    have := AllO.len h.2.2
    refine ⟨by simp [this.1], ?_⟩
    rw [List.flatten_cons, List.length_append, this.2, h.1, List.length_cons, Nat.succ_mul, Nat.add_comm]
  | [], [], _ :: _, h => h.elim
  | [], _ :: _, _, h => h.elim
  | _ :: _, [], _, h => h.elim
  | _ :: _, _ :: _, [], h => h.elim
theorem AllO.cells1 {w : World} {B k : Nat} : ∀ {css : List (List Value)} {l : List (List D0)} {fs : List (List Nat)}, AllO w B k css l fs -> ∀ v ∈ css.flatten, v.oneCell' = true
  | [], [], [], _, v, hv => by simp at hv
  | _ :: _, _ :: _, _ :: _, h, v, hv => by
    rw [List.flatten_cons, List.mem_append] at hv
    rcases hv with hv | hv
    · exact h.2.1.reps.cells1 v hv
    · exact AllO.cells1 h.2.2 v hv
  | [], [], _ :: _, h, _, _ => h.elim
  | [], _ :: _, _, h, _, _ => h.elim
  | _ :: _, [], _, h, _, _ => h.elim
  | _ :: _, _ :: _, [], h, _, _ => h.elim
theorem AllO.at {w : World} {B k : Nat} : ∀ {css : List (List Value)} {l : List (List D0)} {fs : List (List Nat)}, AllO w B k css l fs -> ∀ i x, l[i]? = some x -> ∃ cs, cs.length = k /\ Reps w cs x /\ (css.flatten.drop (i * k)).take k = cs
  | [], [], [], _, i, x, hx => by simp at hx
  | cs :: css, y :: l, _ :: _, h, i, x, hx => by
    cases i with
    | zero =>
      simp only [List.getElem?_cons_zero, Option.some.injEq] at hx
      subst hx
      refine ⟨cs, h.1, h.2.1.reps, ?_⟩
      rw [Nat.zero_mul, List.drop_zero, List.flatten_cons, <- h.1, List.take_left]
    | succ i =>
      simp only [List.getElem?_cons_succ] at hx
      obtain ⟨c, h1, h2, h3⟩ := AllO.at h.2.2 i x hx
      refine ⟨c, h1, h2, ?_⟩
      rw [List.flatten_cons, Nat.succ_mul, Nat.add_comm, <- List.drop_drop, <- h.1, List.drop_left, h.1]
      exact h3
  | [], [], _ :: _, h, _, _, _ => h.elim
  | [], _ :: _, _, h, _, _, _ => h.elim
  | _ :: _, [], _, h, _, _, _ => h.elim
  | _ :: _, _ :: _, [], h, _, _, _ => h.elim
def OwnRows (w : World) (B : Nat) (e : TypeId) (k : Nat) (p : Option Addr) (n c : Nat) (l : List (List D0)) (f : List Nat) : Prop :=
 l.length = n /\ ∃ css fs, AllO w B k css l fs /\ Own w B e k p n c css.flatten /\ f = (p.map (·.block)).toList ++ fs.flatten /\ f.Nodup
theorem OwnRows.rows {w : World} {B : Nat} {e : TypeId} {k : Nat} {p : Option Addr} {n c : Nat} {l : List (List D0)} {f : List Nat} (h : OwnRows w B e k p n c l f) : RowsR w k p n c l := by
  obtain ⟨hl, css, fs, ha, ho, _, _⟩ := h
  refine ⟨hl, ho.le, ho.capLe, fun hn => ?_⟩
  obtain ⟨b, hp, _, hs⟩ := ho.seg hn
  refine ⟨b, 0, hp, fun i x hx => ?_⟩
  obtain ⟨cs, h1, h2, h3⟩ := ha.at i x hx
  exact ⟨cs, h1, h2, by rw [<- h3]; exact (hs.drop (i * k)).take k⟩
theorem OwnRows.lt {w : World} {B : Nat} {e : TypeId} {k : Nat} {p : Option Addr} {n c : Nat} {l : List (List D0)} {f : List Nat} (h : OwnRows w B e k p n c l f) : ∀ x ∈ f, B <= x /\ x < w.heap.size := by
  obtain ⟨hl, css, fs, ha, ho, rfl, _⟩ := h
  intro x hx
  rcases List.mem_append.1 hx with hx | hx
  · exact World.ownsRow.lt ho x (by cases p <;> simp_all [Value.ownBlock])
  · exact ha.lt x hx
theorem OwnRows.ext {w w' : World} {B : Nat} {e : TypeId} {k : Nat} {p : Option Addr} {n c : Nat} {l : List (List D0)} {f : List Nat} (h : OwnRows w B e k p n c l f) (he : Ext w w') : OwnRows w' B e k p n c l f := by
  obtain ⟨hl, css, fs, ha, ho, hf, hn⟩ := h
  exact ⟨hl, css, fs, ha.ext he, ho.ext he, hf, hn⟩
theorem OwnRows.mono {w : World} {B B' : Nat} {e : TypeId} {k : Nat} {p : Option Addr} {n c : Nat} {l : List (List D0)} {f : List Nat} (h : OwnRows w B e k p n c l f) (hb : B' <= B) : OwnRows w B' e k p n c l f := by
  obtain ⟨hl, css, fs, ha, ho, hf, hn⟩ := h
  exact ⟨hl, css, fs, ha.mono hb, ho.mono hb, hf, hn⟩
theorem OwnRows.chg {S : List Nat} {w w' : World} {B : Nat} {e : TypeId} {k : Nat} {p : Option Addr} {n c : Nat} {l : List (List D0)} {f : List Nat} (h : OwnRows w B e k p n c l f) (he : Chg S w w') (hS : ∀ x ∈ f, x ∉ S) : OwnRows w' B e k p n c l f := by
  obtain ⟨hl, css, fs, ha, ho, rfl, hn⟩ := h
  exact ⟨hl, css, fs, ha.chg he (fun x hx => hS x (List.mem_append_right _ hx)), ho.chg he (fun x hx => hS x (List.mem_append_left _ (by rw [hx]; simp))), rfl, hn⟩
theorem dec_no {p : Prop} [Decidable p] (h : ¬ p) : Value.bool false = Value.bool (decide p) := by simp [h]
theorem dec_yes {p : Prop} [Decidable p] (h : p) : Value.bool true = Value.bool (decide p) := by simp [h]
end Go.Proofs.YtbgokfhcgcoipaaGreat.Sx
namespace Go.Proofs.YtbgokfhcgcoipaaGreat
noncomputable abbrev P : Program := Go.Proofs.Tryz.prog
end Go.Proofs.YtbgokfhcgcoipaaGreat
namespace Go.Proofs.YtbgokfhcgcoipaaGreat
variable {w : World} {R : Value -> World -> Prop}
open Go Go.Proofs.YtbgokfhcgcoipaaGreat.Sx
set_option maxRecDepth 100000
def laws_FnExactSharesEven_j2 (a0 : Option Addr) (a1 a2 : Nat) (a3 : Int) (a4 : World) (R : Value -> World -> Prop) : Prop :=
 Calls P 12 ⟨[.slice a0 a1 a2, .int .i64 1]⟩ a4 fun a5 a6 =>
 ∃ a7, a5 = .returned (.int .i64 a7) /\
 ((decide ((a7 : Int) < 0)) = true ->
 R (.bool false) a6) /\
 ((decide ((a7 : Int) < 0)) = false ->
 ((decide ((a7 : Int) ≠ a3)) = true ->
 R (.bool false) a6) /\
 ((decide ((a7 : Int) ≠ a3)) = false ->
 R (.bool true) a6))
def laws_FnExactSharesEven_j1 (aN : Int) (r : Nat) (a0 : Option Addr) (a1 a2 : Nat) (a3 : Bool) (a4 : Option Addr) (a5 a6 : Nat) (a7 : World) (R : Value -> World -> Prop) : Prop :=
 Calls P 11 ⟨[.slice a4 a5 a6, .int .i64 1]⟩ a7 fun a8 a9 =>
 ∃ aa, a8 = .returned (.int .i64 aa) /\
 Calls P 12 ⟨[.slice a4 a5 a6, .int .i64 1]⟩ a9 fun ab ac =>
 ∃ ae, ab = .returned (.int .i64 ae) /\
 ((decide ((ae : Int) < 0)) = true ->
 R (.bool false) ac) /\
 ((decide ((ae : Int) < 0)) = false ->
 ((decide ((ae : Int) ≠ aa)) = true ->
 R (.bool false) ac) /\
 ((decide ((ae : Int) ≠ aa)) = false ->
 ∃ af ag ah ai, Loads P 24 ⟨r, 0, none⟩ (.agg #[.bool af, .slice ag ah ai]) ac /\ Calls P 6 ⟨[.agg #[.bool af, .slice ag ah ai]]⟩ ac fun aj ak =>
 ∃ al am an ao, aj = .returned (.agg #[.bool al, .slice am an ao]) /\
 Calls P 7 ⟨[.agg #[.bool al, .slice am an ao], .int .i64 aN]⟩ ak fun ap aq =>
 ∃ ar au av aw, ap = .returned (.tuple #[.slice ar au av, .bool aw]) /\
 Calls P 8 ⟨[.slice ar au av, .slice a0 a1 a2]⟩ aq fun ax ay =>
 ∃ az, ax = .returned (.bool az) /\
 ((!az) = true ->
 (true = true ->
 R (.bool false) ay) /\
 (true = false ->
 laws_FnExactSharesEven_j2 a4 a5 a6 aa ay R)) /\
 ((!az) = false ->
 ((!(aw == a3)) = true ->
 R (.bool false) ay) /\
 ((!(aw == a3)) = false ->
 laws_FnExactSharesEven_j2 a4 a5 a6 aa ay R))))
def laws_FnExactSharesEven_j0 (aN : Int) (r : Nat) (a0 : Option Addr) (a1 a2 : Nat) (a3 : Bool) (a4 : Nat) (a5 : Option Addr) (a6 a7 : Nat) (a8 : Bool) (W : World) (R : Value -> World -> Prop) : Prop :=
 ∃ a9 aa ab ac, (∀ wv_9, Ext W.drew wv_9 -> Loads P 29 ⟨a4, 0, none⟩ (.agg #[.bool a9, .slice aa ab ac]) wv_9) /\ ∃ ae af ag ah, (∀ wv_10, Ext W.drew wv_10 -> Loads P 24 ⟨r, 0, none⟩ (.agg #[.bool ae, .slice af ag ah]) wv_10) /\ Calls P 6 ⟨[.agg #[.bool ae, .slice af ag ah]]⟩ W.drew fun ai aj =>
 ∃ ak al am an, ai = .returned (.agg #[.bool ak, .slice al am an]) /\
 Ext W.drew aj /\ Calls P 9 ⟨[.agg #[.bool a9, .slice aa ab ac], .agg #[.bool ak, .slice al am an]]⟩ aj fun ao ap =>
 ∃ aq, ao = .returned (.bool aq) /\
 ((!aq) = true ->
 R (.bool false) ap) /\
 ((!aq) = false ->
 ∃ ar au av aw, Loads P 29 ⟨a4, 0, none⟩ (.agg #[.bool ar, .slice au av aw]) ap /\ Calls P 10 ⟨[.agg #[.bool ar, .slice au av aw], .int .i64 1]⟩ ap fun ax ay =>
 ∃ az, ax = .returned (.int .i64 az) /\
 ((decide ((az : Int) < 0)) = true ->
 (true = true ->
 (true = true ->
 R (.bool false) ay) /\
 (true = false ->
 laws_FnExactSharesEven_j1 aN r a0 a1 a2 a3 a5 a6 a7 ay R)) /\
 (true = false ->
 ((!(a8 == a3)) = true ->
 R (.bool false) ay) /\
 ((!(a8 == a3)) = false ->
 laws_FnExactSharesEven_j1 aN r a0 a1 a2 a3 a5 a6 a7 ay R))) /\
 ((decide ((az : Int) < 0)) = false ->
 Calls P 8 ⟨[.slice a5 a6 a7, .slice a0 a1 a2]⟩ ay fun b0 b1 =>
 ∃ b2, b0 = .returned (.bool b2) /\
 ((!b2) = true ->
 (true = true ->
 R (.bool false) b1) /\
 (true = false ->
 laws_FnExactSharesEven_j1 aN r a0 a1 a2 a3 a5 a6 a7 b1 R)) /\
 ((!b2) = false ->
 ((!(a8 == a3)) = true ->
 R (.bool false) b1) /\
 ((!(a8 == a3)) = false ->
 laws_FnExactSharesEven_j1 aN r a0 a1 a2 a3 a5 a6 a7 b1 R))))
def laws_FnExactSharesEven (aX0 : Bool) (a0 : Option Addr) (a1 a2 : Nat) (aN : Int) (w : World) (R : Value -> World -> Prop) : Prop :=
 ∀ r wv, New w (.cells ⟨[.bool aX0, .slice a0 a1 a2]⟩ 24 (0, 0)) r wv ->
 ∃ a3 a4 a5 a6, Loads P 24 ⟨r, 0, none⟩ (.agg #[.bool a3, .slice a4 a5 a6]) wv /\ Calls P 4 ⟨[.agg #[.bool a3, .slice a4 a5 a6], .int .i64 1048576]⟩ wv fun e a7 =>
 ∃ a8, e = .returned (.int .i64 a8) /\
 ((decide ((a8 : Int) < 0)) = true ->
 R (.bool true) a7) /\
 ((decide ((a8 : Int) < 0)) = false ->
 ∃ a9 aa ab ac, Loads P 24 ⟨r, 0, none⟩ (.agg #[.bool a9, .slice aa ab ac]) a7 /\ Calls P 6 ⟨[.agg #[.bool a9, .slice aa ab ac]]⟩ a7 fun ae af =>
 ∃ ag ah ai aj, ae = .returned (.agg #[.bool ag, .slice ah ai aj]) /\
 Calls P 5 ⟨[.agg #[.bool ag, .slice ah ai aj], .int .i64 aN]⟩ af fun ak al =>
 ∃ am an ao ap, ak = .returned (.tuple #[.slice am an ao, .bool ap]) /\
 ∃ aq ar au av, Loads P 24 ⟨r, 0, none⟩ (.agg #[.bool aq, .slice ar au av]) al /\ Calls P 6 ⟨[.agg #[.bool aq, .slice ar au av]]⟩ al fun aw ax =>
 ∃ ay az b0 b1, aw = .returned (.agg #[.bool ay, .slice az b0 b1]) /\
 ∀ b2 b3, New ax (.cells ⟨[.bool false, .slice none 0 0]⟩ 29 (0, 0)) b2 b3 ->
 ∃ wv_6, Stores P 29 ⟨b2, 0, none⟩ (.agg #[.bool ay, .slice az b0 b1]) b3 wv_6 /\
 ∃ b4 b5 b6 b7, Loads P 29 ⟨b2, 0, none⟩ (.agg #[.bool b4, .slice b5 b6 b7]) wv_6 /\ Calls P 7 ⟨[.agg #[.bool b4, .slice b5 b6 b7], .int .i64 aN]⟩ wv_6 fun b8 b9 =>
 ∃ ba bb bc bd, b8 = .returned (.tuple #[.slice ba bb bc, .bool bd]) /\
 Calls P 8 ⟨[.slice ba bb bc, .slice am an ao]⟩ b9 fun be bf =>
 ∃ bg, be = .returned (.bool bg) /\
 ((!bg) = true ->
 (true = true ->
 R (.bool false) bf) /\
 (true = false ->
 laws_FnExactSharesEven_j0 aN r am an ao ap b2 ba bb bc bd bf R)) /\
 ((!bg) = false ->
 ((!(bd == ap)) = true ->
 R (.bool false) bf) /\
 ((!(bd == ap)) = false ->
 laws_FnExactSharesEven_j0 aN r am an ao ap b2 ba bb bc bd bf R)))
theorem laws_FnExactSharesEven_ret {a : Bool} {a0 : Option Addr} {a1 a2 : Nat} {aN : Int} (h : laws_FnExactSharesEven a a0 a1 a2 aN w R) : Ret P 3 [.agg #[.bool a, .slice a0 a1 a2], .int .i64 aN] w R := Ret.of_fsem Tryz.func3 rfl (Eq.mp (show _ = fsem P Tryz.f3 (fun k => []) _ R w from by kernel_rfl) h)
def spec_SharesEven (x0 : Bool) (a0 : Option Addr) (a1 a2 : Nat) (n : Int) (w : World) (R : Value -> World -> Prop) : Prop :=
 ∀ r wv, New w (.cells ⟨[.bool x0, .slice a0 a1 a2]⟩ 29 (0, 0)) r wv ->
 Calls P 14 ⟨[.int .i64 n, .int .i64 1, .int .i64 30]⟩ wv fun e a3 =>
 ∃ t8, e = .returned (.bool t8) /\
 ((!t8) = true ->
 R (.tuple #[.slice none 0 0, .bool false]) a3) /\
 ((!t8) = false ->
 ∀ a4 a5, New a3 (.cells ⟨[]⟩ 3 (0, 0)) a4 a5 ->
 ∃ (a6 : Option Addr -> Nat -> Nat -> World -> Prop) (mu : Option Addr -> Nat -> Nat -> World -> Nat), a6 (some ⟨a4, 0, none⟩) 0 0 a5 /\
 ∀ (a7 : Fr) (a8 : World) (a9 : Option Addr) (aa ab : Nat), a6 a9 aa ab a8 ->
 ((decide ((((aa : Nat) : Int) : Int) < n)) = true ->
 ∀ ac ae, New a8 (.cells ⟨[.int .i64 1]⟩ 3 (0, 0)) ac ae ->
 ∃ af ag ah ai, Appends P [22, 22] [.slice a9 aa ab, (.slice (some ⟨ac, 0, none⟩) 1 1)] (.slice af ag ah) ae ai /\
 a6 af ag ah ai /\ mu af ag ah ai < mu a9 aa ab a8) /\
 ((decide ((((aa : Nat) : Int) : Int) < n)) = false ->
 ∃ aj ak al am, Loads P 29 ⟨r, 0, none⟩ (.agg #[.bool aj, .slice ak al am]) a8 /\ Calls P 15 ⟨[.agg #[.bool aj, .slice ak al am], .slice a9 aa ab]⟩ a8 fun an ao =>
 ∃ ap aq ar au, an = .returned (.tuple #[.slice ap aq ar, .bool au]) /\
 R (.tuple #[.slice ap aq ar, .bool au]) ao))
theorem spec_SharesEven_ret {x0 : Bool} {a : Option Addr} {a0 a1 : Nat} {n : Int} (h : spec_SharesEven x0 a a0 a1 n w R) : Ret P 5 [.agg #[.bool x0, .slice a a0 a1], .int .i64 n] w R := Ret.of_fsem Tryz.func5 rfl (Eq.mp (show _ = fsem P Tryz.f5 (fun k => cond (Nat.beq k 5) [(6, .one .slice)] ([])) _ R w from by kernel_rfl) h)
def impl_SharesEven (x0 : Bool) (a0 : Option Addr) (a1 a2 : Nat) (n : Int) (w : World) (R : Value -> World -> Prop) : Prop :=
 ∀ r wv, New w (.cells ⟨[.bool x0, .slice a0 a1 a2]⟩ 29 (0, 0)) r wv ->
 ((decide ((n : Int) < 1)) = true ->
 (true = true ->
 R (.tuple #[.slice none 0 0, .bool false]) wv) /\
 (true = false ->
 ∃ a3 a4 a5 a6, (∀ wv_1, Ext wv.drew wv_1 -> Loads P 29 ⟨r, 0, none⟩ (.agg #[.bool a3, .slice a4 a5 a6]) wv_1) /\ ∀ a7 a8, New wv.drew (.cells ⟨[.int .i64 1]⟩ 3 (0, 0)) a7 a8 ->
 Ext wv.drew a8 /\ Calls P 18 ⟨[(.slice (some ⟨a7, 0, none⟩) 1 1), .int .i64 n]⟩ a8 fun e a9 =>
 ∃ aa ab ac, e = .returned (.slice aa ab ac) /\
 Ext a8 a9 /\ Calls P 17 ⟨[.agg #[.bool a3, .slice a4 a5 a6], .slice aa ab ac]⟩ a9 fun ae af =>
 ∃ ag ah ai aj, ae = .returned (.tuple #[.slice ag ah ai, .bool aj]) /\
 R (.tuple #[.slice ag ah ai, .bool aj]) af)) /\
 ((decide ((n : Int) < 1)) = false ->
 ((decide ((30 : Int) < n)) = true ->
 R (.tuple #[.slice none 0 0, .bool false]) wv) /\
 ((decide ((30 : Int) < n)) = false ->
 ∃ ak al am an, (∀ wv_5, Ext wv.drew wv_5 -> Loads P 29 ⟨r, 0, none⟩ (.agg #[.bool ak, .slice al am an]) wv_5) /\ ∀ ao ap, New wv.drew (.cells ⟨[.int .i64 1]⟩ 3 (0, 0)) ao ap ->
 Ext wv.drew ap /\ Calls P 18 ⟨[(.slice (some ⟨ao, 0, none⟩) 1 1), .int .i64 n]⟩ ap fun aq ar =>
 ∃ au av aw, aq = .returned (.slice au av aw) /\
 Ext ap ar /\ Calls P 17 ⟨[.agg #[.bool ak, .slice al am an], .slice au av aw]⟩ ar fun ax ay =>
 ∃ az b0 b1 b2, ax = .returned (.tuple #[.slice az b0 b1, .bool b2]) /\
 R (.tuple #[.slice az b0 b1, .bool b2]) ay))
theorem impl_SharesEven_ret {x0 : Bool} {a : Option Addr} {a0 a1 : Nat} {n : Int} (h : impl_SharesEven x0 a a0 a1 n w R) : Ret P 7 [.agg #[.bool x0, .slice a a0 a1], .int .i64 n] w R := Ret.of_fsem Tryz.func7 rfl (Eq.mp (show _ = fsem P Tryz.f7 (fun k => []) _ R w from by kernel_rfl) h)
def spec_l01In (n lo hi : Int) (w : World) (R : Value -> World -> Prop) : Prop :=
 ((decide ((lo : Int) <= n)) = true ->
 R (.bool (decide ((n : Int) <= hi))) w) /\
 ((decide ((lo : Int) <= n)) = false ->
 R (.bool false) w)
theorem spec_l01In_ret {n lo hi : Int} (h : spec_l01In n lo hi w R) : Ret P 14 [.int .i64 n, .int .i64 lo, .int .i64 hi] w R := Ret.of_fsem Tryz.func14 rfl (Eq.mp (show _ = fsem P Tryz.f14 (fun k => []) _ R w from by kernel_rfl) h)
def spec_Shares_j2 (a0 : World) (a1 : Int -> Int -> World -> Prop) (a2 : Int -> Int -> World -> Nat) (best a3 best_1 : Int) (a4 : World) (R : Value -> World -> Prop) : Prop :=
 ∃ a5 : Int, a5 = IntKind.wrap .i64 (a3 + 1) /\ a1 best_1 a5 a4 /\ a2 best_1 a5 a4 < a2 best a3 a0
def spec_Shares_j3 (a0 : Option Addr) (a1 a2 : Nat) (a3 : World) (R : Value -> World -> Prop) : Prop :=
 R (.tuple #[.slice a0 a1 a2, .bool true]) a3
def spec_Shares_j1 (a0 : Option Addr) (a1 a2 : Nat) (a3 : Option Addr) (a4 : Nat) (a5 : Int) (a6 : Nat) (a7 : World) (R : Value -> World -> Prop) : Prop :=
 ∃ (a8 : Int -> World -> Prop) (a9 : Int -> World -> Nat), a8 a5 a7 /\
 ∀ (aa : Fr) (ab : World) (left : Int), a8 left ab ->
 ((decide ((0 : Int) < left)) = true ->
 ∃ (ac : Int -> Int -> World -> Prop) (ae : Int -> Int -> World -> Nat), ac (-1) 0 ab /\
 ∀ (af : Fr) (ag : World) (best ah : Int), ac best ah ag ->
 ((decide ((ah : Int) < ((a4 : Nat) : Int))) = true ->
 (0 <= (ah : Int) /\ (ah : Int) < (a4 : Nat)) /\ ptrS a3 fun ad => ∃ ai aj ak al am an ao, Loads P 44 (ad.add (ah.toNat * 3)) (.agg #[.bool ai, .slice aj ak al, .slice am an ao]) ag /\ ∀ ap aq, New ag (.cells ⟨[.bool false, .slice none 0 0, .slice none 0 0]⟩ 44 (0, 0)) ap aq ->
 ∃ wv_29, Stores P 44 ⟨ap, 0, none⟩ (.agg #[.bool ai, .slice aj ak al, .slice am an ao]) aq wv_29 /\
 ∃ ar au av aw ax ay az, (∀ wv_30, Ext wv_29.drew wv_30 -> Loads P 44 ⟨ap, 0, none⟩ (.agg #[.bool ar, .slice au av aw, .slice ax ay az]) wv_30) /\ Calls P 32 ⟨[.agg #[.bool ar, .slice au av aw, .slice ax ay az]]⟩ wv_29.drew fun b0 b1 =>
 ∃ b2, b0 = .returned (.int .i64 b2) /\
 ((decide ((0 : Int) < b2)) = true ->
 ((decide ((best : Int) < 0)) = true ->
 (true = true ->
 spec_Shares_j2 ag ac ae best ah ah b1 R) /\
 (true = false ->
 spec_Shares_j2 ag ac ae best ah best b1 R)) /\
 ((decide ((best : Int) < 0)) = false ->
 ∃ b3 b4 b5 b6 b7 b8 b9, (∀ wv_32, Ext b1 wv_32 -> Loads P 44 ⟨ap, 0, none⟩ (.agg #[.bool b3, .slice b4 b5 b6, .slice b7 b8 b9]) wv_32) /\ (0 <= (best : Int) /\ (best : Int) < (a4 : Nat)) /\ ptrS a3 fun ba => ∃ bb bc bd be bf bg bh, (∀ wv_33, Ext b1 wv_33 -> Loads P 44 (ba.add (best.toNat * 3)) (.agg #[.bool bb, .slice bc bd be, .slice bf bg bh]) wv_33) /\ Calls P 33 ⟨[.agg #[.bool b3, .slice b4 b5 b6, .slice b7 b8 b9], .agg #[.bool bb, .slice bc bd be, .slice bf bg bh]]⟩ b1 fun bi bj =>
 ∃ bk, bi = .returned (.int .i64 bk) /\
 ((decide ((0 : Int) < bk)) = true ->
 spec_Shares_j2 ag ac ae best ah ah bj R) /\
 ((decide ((0 : Int) < bk)) = false ->
 spec_Shares_j2 ag ac ae best ah best bj R))) /\
 ((decide ((0 : Int) < b2)) = false ->
 (false = true ->
 spec_Shares_j2 ag ac ae best ah ah b1 R) /\
 (false = false ->
 spec_Shares_j2 ag ac ae best ah best b1 R))) /\
 ((decide ((ah : Int) < ((a4 : Nat) : Int))) = false ->
 ((decide ((best : Int) < 0)) = true ->
 spec_Shares_j3 a0 a1 a2 ag R) /\
 ((decide ((best : Int) < 0)) = false ->
 (0 <= (best : Int) /\ (best : Int) < (a1 : Nat)) /\ ptrS a0 fun bl => ∃ bm bn bo bp, (∀ wv_35, Ext ag.drew wv_35 -> Loads P 29 (bl.add (best.toNat * 2)) (.agg #[.bool bm, .slice bn bo bp]) wv_35) /\ ∃ bq br bs bt, (∀ wv_36, Ext ag.drew wv_36 -> Loads P 29 ⟨a6, 0, none⟩ (.agg #[.bool bq, .slice br bs bt]) wv_36) /\ Calls P 34 ⟨[.agg #[.bool bm, .slice bn bo bp], .agg #[.bool bq, .slice br bs bt]]⟩ ag.drew fun bu bv =>
 ∃ bw bx bz c0, bu = .returned (.agg #[.bool bw, .slice bx bz c0]) /\
 (0 <= (best : Int) /\ (best : Int) < (a1 : Nat)) /\ ptrS a0 fun c1 => ∃ wv_38, Stores P 29 (c1.add (best.toNat * 2)) (.agg #[.bool bw, .slice bx bz c0]) bv wv_38 /\
 Calls P 35 ⟨[]⟩ wv_38 fun c2 c3 =>
 ∃ c4 c5 c6 c7 c8 c9 ca, c2 = .returned (.agg #[.bool c4, .slice c5 c6 c7, .slice c8 c9 ca]) /\
 (0 <= (best : Int) /\ (best : Int) < (a4 : Nat)) /\ ptrS a3 fun cb => ∃ wv_40, Stores P 44 (cb.add (best.toNat * 3)) (.agg #[.bool c4, .slice c5 c6 c7, .slice c8 c9 ca]) c3 wv_40 /\
 ∃ cc : Int, cc = IntKind.wrap .i64 (left - 1) /\ a8 cc wv_40 /\ a9 cc wv_40 < a9 left ab))) /\
 ((decide ((0 : Int) < left)) = false ->
 spec_Shares_j3 a0 a1 a2 ab R)
def spec_Shares_j0 (r : Nat) (a0 : Option Addr) (a1 a2 : Nat) (a3 : Option Addr) (a4 : Nat) (W : World) (R : Value -> World -> Prop) : Prop :=
 ∃ a5 a6 a7 a8, (∀ wv_16, Ext W.drew wv_16 -> Loads P 29 ⟨r, 0, none⟩ (.agg #[.bool a5, .slice a6 a7 a8]) wv_16) /\ Calls P 30 ⟨[.slice a0 a1 a2]⟩ W.drew fun a9 aa =>
 ∃ ab ac ae af, a9 = .returned (.agg #[.bool ab, .slice ac ae af]) /\
 Ext W.drew aa /\ Calls P 29 ⟨[.agg #[.bool a5, .slice a6 a7 a8], .agg #[.bool ab, .slice ac ae af]]⟩ aa fun ag ah =>
 ∃ ai aj ak al, ag = .returned (.agg #[.bool ai, .slice aj ak al]) /\
 Calls P 28 ⟨[.agg #[.bool ai, .slice aj ak al]]⟩ ah fun am an =>
 ∃ ao ap aq ar, am = .returned (.agg #[.bool ao, .slice ap aq ar]) /\
 Calls P 27 ⟨[.agg #[.bool ao, .slice ap aq ar]]⟩ an fun au av =>
 ∃ aw ax, au = .returned (.tuple #[.int .i64 aw, .bool ax]) /\
 Calls P 31 ⟨[.int .i64 1]⟩ av fun ay az =>
 ∃ b0 b1 b2 b3, ay = .returned (.agg #[.bool b0, .slice b1 b2 b3]) /\
 ∀ b4 b5, New az (.cells ⟨[.bool false, .slice none 0 0]⟩ 29 (0, 0)) b4 b5 ->
 ∃ wv_23, Stores P 29 ⟨b4, 0, none⟩ (.agg #[.bool b0, .slice b1 b2 b3]) b5 wv_23 /\
 ∃ b6, Loads P 4 ((⟨r, 0, none⟩ : Addr).add 0) (.bool b6) wv_23 /\ (b6 = true ->
 Calls P 31 ⟨[(.int .i64 (-1))]⟩ wv_23 fun b7 b8 =>
 ∃ b9 ba bb bc, b7 = .returned (.agg #[.bool b9, .slice ba bb bc]) /\
 ∃ wv_25, Stores P 29 ⟨b4, 0, none⟩ (.agg #[.bool b9, .slice ba bb bc]) b8 wv_25 /\
 spec_Shares_j1 a0 a1 a2 a3 a4 aw b4 wv_25 R) /\
 (b6 = false ->
 spec_Shares_j1 a0 a1 a2 a3 a4 aw b4 wv_23 R)
def spec_Shares (x0 : Bool) (a0 : Option Addr) (a1 a2 : Nat) (a3 : Option Addr) (a4 a5 : Nat) (w : World) (R : Value -> World -> Prop) : Prop :=
 ∀ r wv, New w (.cells ⟨[.bool x0, .slice a0 a1 a2]⟩ 29 (0, 0)) r wv ->
 ∀ a6 a7, New wv (.cells ⟨[]⟩ 29 (0, 0)) a6 a7 ->
 ∀ a8 a9, New a7 (.cells ⟨[]⟩ 44 (0, 0)) a8 a9 ->
 ∃ (aa : Option Addr -> Nat -> Nat -> Option Addr -> Nat -> Nat -> Int -> World -> Prop) (mu : Option Addr -> Nat -> Nat -> Option Addr -> Nat -> Nat -> Int -> World -> Nat), aa (some ⟨a6, 0, none⟩) 0 0 (some ⟨a8, 0, none⟩) 0 0 0 a9 /\
 ∀ (ab : Fr) (ac : World) (ae : Option Addr) (af ag : Nat) (ah : Option Addr) (ai aj : Nat) (ak : Int), aa ae af ag ah ai aj ak ac ->
 ((decide ((ak : Int) < ((a4 : Nat) : Int))) = true ->
 ∃ al am an ao, Loads P 29 ⟨r, 0, none⟩ (.agg #[.bool al, .slice am an ao]) ac /\ Calls P 22 ⟨[.agg #[.bool al, .slice am an ao], .slice a3 a4 a5, .int .i64 ak]⟩ ac fun e ap =>
 ∃ aq ar au av aw ax ay az, e = .returned (.tuple #[.agg #[.bool aq, .slice ar au av, .slice aw ax ay], .bool az]) /\
 ∀ b0 b1, New ap (.cells ⟨[.bool false, .slice none 0 0, .slice none 0 0]⟩ 44 (0, 0)) b0 b1 ->
 ∃ wv_6, Stores P 44 ⟨b0, 0, none⟩ (.agg #[.bool aq, .slice ar au av, .slice aw ax ay]) b1 wv_6 /\
 ((!az) = true ->
 R (.tuple #[.slice none 0 0, .bool false]) wv_6) /\
 ((!az) = false ->
 ∃ b2 b3 b4 b5 b6 b7 b8, Loads P 44 ⟨b0, 0, none⟩ (.agg #[.bool b2, .slice b3 b4 b5, .slice b6 b7 b8]) wv_6 /\ Calls P 23 ⟨[.agg #[.bool b2, .slice b3 b4 b5, .slice b6 b7 b8], .int .i64 0]⟩ wv_6 fun b9 ba =>
 ∃ bb bc bd be bf, b9 = .returned (.tuple #[.agg #[.bool bb, .slice bc bd be], .bool bf]) /\
 ∀ bg bh, New ba (.cells ⟨[.bool false, .slice none 0 0]⟩ 29 (0, 0)) bg bh ->
 ∃ wv_9, Stores P 29 ⟨bg, 0, none⟩ (.agg #[.bool bb, .slice bc bd be]) bh wv_9 /\
 ∃ bi bj bk bl, Loads P 29 ⟨bg, 0, none⟩ (.agg #[.bool bi, .slice bj bk bl]) wv_9 /\ ∀ bm bn, New wv_9 (.cells ⟨[.bool bi, .slice bj bk bl]⟩ 29 (0, 0)) bm bn ->
 ∃ bo bp bq br, Appends P [26, 26] [.slice ae af ag, (.slice (some ⟨bm, 0, none⟩) 1 1)] (.slice bo bp bq) bn br /\
 ∃ bs bt bu bv bw bx bz, Loads P 44 ⟨b0, 0, none⟩ (.agg #[.bool bs, .slice bt bu bv, .slice bw bx bz]) br /\ Calls P 24 ⟨[.agg #[.bool bs, .slice bt bu bv, .slice bw bx bz]]⟩ br fun c0 c1 =>
 ∃ c2 c3 c4 c5 c6 c7 c8, c0 = .returned (.agg #[.bool c2, .slice c3 c4 c5, .slice c6 c7 c8]) /\
 ∀ c9 ca, New c1 (.cells ⟨[.bool c2, .slice c3 c4 c5, .slice c6 c7 c8]⟩ 44 (0, 0)) c9 ca ->
 ∃ cb cc cd ce, Appends P [42, 42] [.slice ah ai aj, (.slice (some ⟨c9, 0, none⟩) 1 1)] (.slice cb cc cd) ca ce /\
 ∃ cf : Int, cf = IntKind.wrap .i64 (ak + 1) /\ aa bo bp bq cb cc cd cf ce /\ mu bo bp bq cb cc cd cf ce < mu ae af ag ah ai aj ak ac)) /\
 ((decide ((ak : Int) < ((a4 : Nat) : Int))) = false ->
 Calls P 25 ⟨[.slice a3 a4 a5]⟩ ac fun cg ch =>
 ∃ ci, cg = .returned (.bool ci) /\
 ((!ci) = true ->
 (true = true ->
 R (.tuple #[.slice none 0 0, .bool false]) ch) /\
 (true = false ->
 spec_Shares_j0 r ae af ag ah ai ch R)) /\
 ((!ci) = false ->
 ∃ cj ck cl cm, Loads P 29 ⟨r, 0, none⟩ (.agg #[.bool cj, .slice ck cl cm]) ch /\ Calls P 26 ⟨[.agg #[.bool cj, .slice ck cl cm]]⟩ ch fun cn co =>
 ∃ cp, cn = .returned (.bool cp) /\
 ((!cp) = true ->
 R (.tuple #[.slice none 0 0, .bool false]) co) /\
 ((!cp) = false ->
 spec_Shares_j0 r ae af ag ah ai co R)))
theorem spec_Shares_ret {x0 : Bool} {a : Option Addr} {a0 a1 : Nat} {a2 : Option Addr} {a3 a4 : Nat} (h : spec_Shares x0 a a0 a1 a2 a3 a4 w R) : Ret P 15 [.agg #[.bool x0, .slice a a0 a1], .slice a2 a3 a4] w R := Ret.of_fsem Tryz.func15 rfl (Eq.mp (show _ = fsem P Tryz.f15 (fun k => cond (Nat.beq k 5) [(6, .one .slice), (7, .one .slice), (23, .one (.int .i64))] (cond (Nat.beq k 20) [(13, .one (.int .i64))] (cond (Nat.beq k 24) [(16, .one (.int .i64)), (77, .one (.int .i64))] ([])))) _ R w from by kernel_rfl) h)
def impl_Shares_j0 (a0 : Option Addr) (a1 a2 r : Nat) (W : World) (R : Value -> World -> Prop) : Prop :=
 Calls P 39 ⟨[.slice a0 a1 a2]⟩ W fun a3 a4 =>
 ∃ a5, a3 = .returned (.int .i64 a5) /\
 Calls P 38 ⟨[.int .i64 a5]⟩ a4 fun a6 a7 =>
 ∃ a8 a9 aa, a6 = .returned (.slice a8 a9 aa) /\
 ∃ ab ac ae, Loads P 22 ((⟨r, 0, none⟩ : Addr).add 1) (.slice ab ac ae) a7 /\ Calls P 40 ⟨[.slice ab ac ae]⟩ a7 fun af ag =>
 ∃ ah ai aj, af = .returned (.slice ah ai aj) /\
 (0 <= (((a1 : Nat) : Int) : Int) /\ (((a1 : Nat) : Int) : Int) <= ((a1 : Nat) : Int) /\ ((24 : Nat) : Int) * ((a1 : Nat) : Int) <= 281474976710656) /\
 ∀ ak al, New ag (.cells ⟨zeroRow (.slice none 0 0) (a1 * 1)⟩ 22 (0, 0)) ak al ->
 ∀ am an, New al (.cells ⟨[]⟩ 69 (0, 0)) am an ->
 ∃ (ao : Option Addr -> Nat -> Nat -> Option Addr -> Nat -> Nat -> Int -> World -> Prop) (mu : Option Addr -> Nat -> Nat -> Option Addr -> Nat -> Nat -> Int -> World -> Nat), ao ah ai aj (some ⟨am, 0, none⟩) 0 0 0 an /\
 ∀ (ap : Fr) (aq : World) (ar : Option Addr) (au av : Nat) (aw : Option Addr) (ax ay : Nat) (az : Int), ao ar au av aw ax ay az aq ->
 ((decide ((az : Int) < ((a1 : Nat) : Int))) = true ->
 ∃ b0 b1 b2 b3, Loads P 29 ⟨r, 0, none⟩ (.agg #[.bool b0, .slice b1 b2 b3]) aq /\ Calls P 41 ⟨[.agg #[.bool b0, .slice b1 b2 b3], .slice a0 a1 a2, .int .i64 az]⟩ aq fun b4 b5 =>
 ∃ b6 b7 b8 b9 ba bb bc bd, b4 = .returned (.tuple #[.agg #[.bool b6, .slice b7 b8 b9, .slice ba bb bc], .bool bd]) /\
 ∀ be bf, New b5 (.cells ⟨[.bool false, .slice none 0 0, .slice none 0 0]⟩ 44 (0, 0)) be bf ->
 ∃ wv_10, Stores P 44 ⟨be, 0, none⟩ (.agg #[.bool b6, .slice b7 b8 b9, .slice ba bb bc]) bf wv_10 /\
 ((!bd) = true ->
 R (.tuple #[.slice none 0 0, .bool false]) wv_10) /\
 ((!bd) = false ->
 ∃ bg bh bi, (∀ wv_11, Ext wv_10.drew wv_11 -> Loads P 22 ((⟨r, 0, none⟩ : Addr).add 1) (.slice bg bh bi) wv_11) /\ (0 <= (az : Int) /\ (az : Int) < (a1 : Nat)) /\ ptrS a0 fun ad => ∃ bj, (∀ wv_12, Ext wv_10.drew wv_12 -> Loads P 3 (ad.add (az.toNat * 1)) (.int .i64 bj) wv_12) /\ Calls P 38 ⟨[.int .i64 bj]⟩ wv_10.drew fun bk bl =>
 ∃ bm bn bo, bk = .returned (.slice bm bn bo) /\
 Ext wv_10.drew bl /\ Calls P 43 ⟨[.slice bg bh bi, .slice bm bn bo]⟩ bl fun bp bq =>
 ∃ br bs bt, bp = .returned (.slice br bs bt) /\
 Calls P 42 ⟨[.slice br bs bt, .slice a8 a9 aa]⟩ bq fun bu bv =>
 ∃ bw bx bz c0 c1 c2, bu = .returned (.tuple #[.slice bw bx bz, .slice c0 c1 c2]) /\
 (0 <= (az : Int) /\ (az : Int) < (a1 : Nat)) /\ ∃ wv_16, Stores P 22 ((⟨ak, 0, none⟩ : Addr).add (az.toNat * 1)) (.slice bw bx bz) bv wv_16 /\
 Calls P 44 ⟨[.slice ar au av, .slice bw bx bz]⟩ wv_16 fun c3 c4 =>
 ∃ c5 c6 c7, c3 = .returned (.slice c5 c6 c7) /\
 ∀ c8 c9, New c4 (.cells ⟨[.int .i64 az, .slice c0 c1 c2]⟩ 69 (0, 0)) c8 c9 ->
 ∃ ca cb cc cd, Appends P [64, 64] [.slice aw ax ay, (.slice (some ⟨c8, 0, none⟩) 1 1)] (.slice ca cb cc) c9 cd /\
 ∃ ce : Int, ce = IntKind.wrap .i64 (az + 1) /\ ao c5 c6 c7 ca cb cc ce cd /\ mu c5 c6 c7 ca cb cc ce cd < mu ar au av aw ax ay az aq)) /\
 ((decide ((az : Int) < ((a1 : Nat) : Int))) = false ->
 Calls P 45 ⟨[.slice aw ax ay, (.func (.func 46) #[] #[])]⟩ aq fun cf cg =>
 ∃ ch ci cj, cf = .returned (.slice ch ci cj) /\
 Calls P 50 ⟨[.slice ar au av]⟩ cg fun ck cl =>
 ∃ cm cn, ck = .returned (.tuple #[.int .i64 cm, .bool cn]) /\
 (0 <= (cm : Int) /\ (cm : Int) <= (cj : Nat)) /\ ∃ (co : Int -> World -> Prop) (cp : Int -> World -> Nat), co 0 cl /\
 ∀ (cq : Fr) (cr : World) (cs : Int), co cs cr ->
 ((decide ((cs : Int) < (((cm.toNat - 0) : Nat) : Int))) = true ->
 (0 <= (cs : Int) /\ (cs : Int) < ((cm.toNat - 0) : Nat)) /\ ptrS (sub ch 0 cj 2) fun ct => ∃ cu cv cw cx, Loads P 69 (ct.add (cs.toNat * 2)) (.agg #[.int .i64 cu, .slice cv cw cx]) cr /\ ∀ cy cz, New cr (.cells ⟨[.int .i64 0, .slice none 0 0]⟩ 69 (0, 0)) cy cz ->
 ∃ wv_24, Stores P 69 ⟨cy, 0, none⟩ (.agg #[.int .i64 cu, .slice cv cw cx]) cz wv_24 /\
 ∃ d0, (∀ wv_25, Ext wv_24.drew wv_25 -> Loads P 3 ((⟨cy, 0, none⟩ : Addr).add 0) (.int .i64 d0) wv_25) /\ ∃ d1, (∀ wv_26, Ext wv_24.drew wv_26 -> Loads P 3 ((⟨cy, 0, none⟩ : Addr).add 0) (.int .i64 d1) wv_26) /\ (0 <= (d1 : Int) /\ (d1 : Int) < (a1 : Nat)) /\ ∃ d2 d3 d4, (∀ wv_27, Ext wv_24.drew wv_27 -> Loads P 22 ((⟨ak, 0, none⟩ : Addr).add (d1.toNat * 1)) (.slice d2 d3 d4) wv_27) /\ ∀ d5 d6, New wv_24.drew (.cells ⟨[.int .i64 1]⟩ 3 (0, 0)) d5 d6 ->
 Ext wv_24.drew d6 /\ Calls P 51 ⟨[.slice d2 d3 d4, (.slice (some ⟨d5, 0, none⟩) 1 1)]⟩ d6 fun d7 d8 =>
 ∃ d9 da db, d7 = .returned (.slice d9 da db) /\
 Ext d6 d8 /\ (0 <= (d0 : Int) /\ (d0 : Int) < (a1 : Nat)) /\ ∃ wv_30, Stores P 22 ((⟨ak, 0, none⟩ : Addr).add (d0.toNat * 1)) (.slice d9 da db) d8 wv_30 /\
 ∃ dc : Int, dc = IntKind.wrap .i64 (cs + 1) /\ co dc wv_30 /\ cp dc wv_30 < cp cs cr) /\
 ((decide ((cs : Int) < (((cm.toNat - 0) : Nat) : Int))) = false ->
 ∀ dd de, New cr (.cells ⟨[]⟩ 29 (0, 0)) dd de ->
 ∃ (df : Option Addr -> Nat -> Nat -> Int -> World -> Prop) (dg : Option Addr -> Nat -> Nat -> Int -> World -> Nat), df (some ⟨dd, 0, none⟩) 0 0 0 de /\
 ∀ (dh : Fr) (di : World) (dj : Option Addr) (dk dl : Nat) (dm : Int), df dj dk dl dm di ->
 ((decide ((dm : Int) < ((a1 : Nat) : Int))) = true ->
 (0 <= (dm : Int) /\ (dm : Int) < (a1 : Nat)) /\ ∃ dn dp dq, Loads P 22 ((⟨ak, 0, none⟩ : Addr).add (dm.toNat * 1)) (.slice dn dp dq) di /\ ∃ dr, Loads P 4 ((⟨r, 0, none⟩ : Addr).add 0) (.bool dr) di /\ Calls P 52 ⟨[.bool dr, .slice dn dp dq]⟩ di fun ds dt =>
 ∃ du dv dw dx, ds = .returned (.agg #[.bool du, .slice dv dw dx]) /\
 ∀ dy dz, New dt (.cells ⟨[.bool du, .slice dv dw dx]⟩ 29 (0, 0)) dy dz ->
 ∃ e0 e1 e2 e3, Appends P [26, 26] [.slice dj dk dl, (.slice (some ⟨dy, 0, none⟩) 1 1)] (.slice e0 e1 e2) dz e3 /\
 ∃ e4 : Int, e4 = IntKind.wrap .i64 (dm + 1) /\ df e0 e1 e2 e4 e3 /\ dg e0 e1 e2 e4 e3 < dg dj dk dl dm di) /\
 ((decide ((dm : Int) < ((a1 : Nat) : Int))) = false ->
 R (.tuple #[.slice dj dk dl, .bool true]) di)))
def impl_Shares (x0 : Bool) (a0 : Option Addr) (a1 a2 : Nat) (a3 : Option Addr) (a4 a5 : Nat) (w : World) (R : Value -> World -> Prop) : Prop :=
 ∀ r wv, New w (.cells ⟨[.bool x0, .slice a0 a1 a2]⟩ 29 (0, 0)) r wv ->
 Calls P 36 ⟨[.slice a3 a4 a5]⟩ wv fun e a6 =>
 ∃ a7, e = .returned (.bool a7) /\
 ((!a7) = true ->
 (true = true ->
 R (.tuple #[.slice none 0 0, .bool false]) a6) /\
 (true = false ->
 impl_Shares_j0 a3 a4 a5 r a6 R)) /\
 ((!a7) = false ->
 ∃ a8 a9 aa ab, Loads P 29 ⟨r, 0, none⟩ (.agg #[.bool a8, .slice a9 aa ab]) a6 /\ Calls P 37 ⟨[.agg #[.bool a8, .slice a9 aa ab]]⟩ a6 fun ac ae =>
 ∃ af, ac = .returned (.bool af) /\
 ((!af) = true ->
 R (.tuple #[.slice none 0 0, .bool false]) ae) /\
 ((!af) = false ->
 impl_Shares_j0 a3 a4 a5 r ae R))
theorem impl_Shares_ret {x0 : Bool} {a : Option Addr} {a0 a1 : Nat} {a2 : Option Addr} {a3 a4 : Nat} (h : impl_Shares x0 a a0 a1 a2 a3 a4 w R) : Ret P 17 [.agg #[.bool x0, .slice a a0 a1], .slice a2 a3 a4] w R := Ret.of_fsem Tryz.func17 rfl (Eq.mp (show _ = fsem P Tryz.f17 (fun k => cond (Nat.beq k 9) [(7, .one .slice), (9, .one .slice), (42, .one (.int .i64))] (cond (Nat.beq k 22) [(92, .one (.int .i64))] (cond (Nat.beq k 28) [(19, .one .slice), (111, .one (.int .i64))] ([])))) _ R w from by kernel_rfl) h)
def slices_Repeat_int_int_j0 (a0 : Option Addr) (a1 a2 : Nat) (a3 : Int) (W : World) (R : Value -> World -> Prop) : Prop :=
 ∃ a4 : Int, a4 = IntKind.wrap .i64 a3 /\ (0 <= (a4 : Int) /\ (a4 : Int) <= a4 /\ ((8 : Nat) : Int) * a4 <= 281474976710656) /\
 ∀ r a5, New W (.cells ⟨zeroRow (.int .i64 0) (a4.toNat * 1)⟩ 3 (0, 0)) r a5 ->
 ∃ a6 a7, Copies P [22, 22] [(.slice (some ⟨r, 0, none⟩) a4.toNat a4.toNat), .slice a0 a1 a2] (.int .i64 a6) a5 a7 /\
 ∃ (a8 : Int -> World -> Prop) (mu : Int -> World -> Nat), a8 a6 a7 /\
 ∀ (a9 : Fr) (aa : World) (n : Int), a8 n aa ->
 ((decide ((n : Int) < ((a4.toNat : Nat) : Int))) = true ->
 (0 <= (n : Int) /\ (n : Int) <= (a4.toNat : Nat)) /\ (0 <= (n : Int) /\ (n : Int) <= (a4.toNat : Nat)) /\ ∃ ab ac, Copies P [22, 22] [(.slice (sub (some ⟨r, 0, none⟩) n.toNat a4.toNat 1) (a4.toNat - n.toNat) (a4.toNat - n.toNat)), (.slice (sub (some ⟨r, 0, none⟩) 0 a4.toNat 1) (n.toNat - 0) (a4.toNat - 0))] (.int .i64 ab) aa.drew ac /\
 ∃ ae : Int, ae = IntKind.wrap .i64 (n + ab) /\ a8 ae ac /\ mu ae ac < mu n aa) /\
 ((decide ((n : Int) < ((a4.toNat : Nat) : Int))) = false ->
 R (.slice (some ⟨r, 0, none⟩) a4.toNat a4.toNat) aa)
def slices_Repeat_int_int (a0 : Option Addr) (a1 a2 : Nat) (count : Int) (w : World) (R : Value -> World -> Prop) : Prop :=
 ((decide ((count : Int) < 0)) = true ->
 False) /\
 ((decide ((count : Int) < 0)) = false ->
 ∃ a3 : Int, a3 = IntKind.wrap .u64 ((a1 : Nat) : Int) /\ ∃ a4 : Int, a4 = IntKind.wrap .u64 count /\ Calls P 53 ⟨[.int .u64 a3, .int .u64 a4]⟩ w fun e wv =>
 ∃ a5 a6, e = .returned (.tuple #[.int .u64 a5, .int .u64 a6]) /\
 ((decide ((0 : Int) < a5)) = true ->
 (true = true ->
 False) /\
 (true = false ->
 slices_Repeat_int_int_j0 a0 a1 a2 a6 wv R)) /\
 ((decide ((0 : Int) < a5)) = false ->
 ((decide ((9223372036854775807 : Int) < a6)) = true ->
 False) /\
 ((decide ((9223372036854775807 : Int) < a6)) = false ->
 slices_Repeat_int_int_j0 a0 a1 a2 a6 wv R)))
theorem slices_Repeat_int_int_ret {a : Option Addr} {a0 a1 : Nat} {a2 : Int} (h : slices_Repeat_int_int a a0 a1 a2 w R) : Ret P 18 [.slice a a0 a1, .int .i64 a2] w R := Ret.of_fsem Tryz.func18 rfl (Eq.mp (show _ = fsem P Tryz.f18 (fun k => cond (Nat.beq k 9) [(8, .one (.int .i64))] ([])) _ R w from by kernel_rfl) h)
def spec_FairShare_j0 (a0 : Option Addr) (a1 a2 : Nat) (i : Int) (r a3 : Nat) (W : World) (R : Value -> World -> Prop) : Prop :=
 ∃ a4, (∀ wv_4, Ext W.drew wv_4 -> Loads P 4 ((⟨r, 0, none⟩ : Addr).add 0) (.bool a4) wv_4) /\ ∃ a5 a6 a7, (∀ wv_5, Ext W.drew wv_5 -> Loads P 22 ((⟨r, 0, none⟩ : Addr).add 1) (.slice a5 a6 a7) wv_5) /\ (0 <= (i : Int) /\ (i : Int) < (a1 : Nat)) /\ ptrS a0 fun ad => ∃ a8, (∀ wv_6, Ext W.drew wv_6 -> Loads P 3 (ad.add (i.toNat * 1)) (.int .i64 a8) wv_6) /\ Calls P 56 ⟨[.int .i64 a8]⟩ W.drew fun a9 aa =>
 ∃ ab ac ae, a9 = .returned (.slice ab ac ae) /\
 Ext W.drew aa /\ Calls P 55 ⟨[.slice a5 a6 a7, .slice ab ac ae]⟩ aa fun af ag =>
 ∃ ah ai aj, af = .returned (.slice ah ai aj) /\
 Ext aa ag /\ Calls P 57 ⟨[.slice a0 a1 a2]⟩ ag fun ak al =>
 ∃ am, ak = .returned (.int .i64 am) /\
 Ext ag al /\ Calls P 56 ⟨[.int .i64 am]⟩ al fun an ao =>
 ∃ ap aq ar, an = .returned (.slice ap aq ar) /\
 Ext al ao /\ Calls P 54 ⟨[.bool a4, .slice ah ai aj, .slice ap aq ar]⟩ ao fun au av =>
 ∃ aw ax ay az b0 b1 b2 b3, au = .returned (.tuple #[.agg #[.bool aw, .slice ax ay az, .slice b0 b1 b2], .bool b3]) /\
 ∃ wv_12, Stores P 44 ⟨a3, 0, none⟩ (.agg #[.bool aw, .slice ax ay az, .slice b0 b1 b2]) av wv_12 /\
 ∃ r0_1 b4 b5 b6 b7 b8 b9, Loads P 44 ⟨a3, 0, none⟩ (.agg #[.bool r0_1, .slice b4 b5 b6, .slice b7 b8 b9]) wv_12 /\ R (.tuple #[.agg #[.bool r0_1, .slice b4 b5 b6, .slice b7 b8 b9], .bool b3]) wv_12
abbrev spec_FairShare_z0 (q : Nat) (x : World) (R : Value -> World -> Prop) : Prop :=
 ∃ y, Stores P 44 ⟨q, 0, none⟩ (.agg #[.bool false, .slice none 0 0, .slice none 0 0]) x y /\ ∃ r0 a9 aa ab ac ae af, Loads P 44 ⟨q, 0, none⟩ (.agg #[.bool r0, .slice a9 aa ab, .slice ac ae af]) y /\ R (.tuple #[.agg #[.bool r0, .slice a9 aa ab, .slice ac ae af], .bool false]) y
def spec_FairShare (x0 : Bool) (a0 : Option Addr) (a1 a2 : Nat) (a3 : Option Addr) (a4 a5 : Nat) (i : Int) (w : World) (R : Value -> World -> Prop) : Prop :=
 ∀ r wv, New w (.cells ⟨[.bool x0, .slice a0 a1 a2]⟩ 29 (0, 0)) r wv ->
 ∀ a6 a7, New wv (.cells ⟨[.bool false, .slice none 0 0, .slice none 0 0]⟩ 44 (0, 0)) a6 a7 ->
 Calls P 25 ⟨[.slice a3 a4 a5]⟩ a7 fun e a8 =>
 ∃ t9, e = .returned (.bool t9) /\
 ((!t9) = true ->
 (true = true ->
 (true = true ->
 spec_FairShare_z0 a6 a8 R) /\
 (true = false ->
 spec_FairShare_j0 a3 a4 a5 i r a6 a8 R)) /\
 (true = false ->
 ∃ ag ah ai aj, Loads P 29 ⟨r, 0, none⟩ (.agg #[.bool ag, .slice ah ai aj]) a8 /\ Calls P 26 ⟨[.agg #[.bool ag, .slice ah ai aj]]⟩ a8 fun ak al =>
 ∃ am, ak = .returned (.bool am) /\
 ((!am) = true ->
 spec_FairShare_z0 a6 al R) /\
 ((!am) = false ->
 spec_FairShare_j0 a3 a4 a5 i r a6 al R))) /\
 ((!t9) = false ->
 ∃ av : Int, av = IntKind.wrap .i64 (((a4 : Nat) : Int) - 1) /\ Calls P 14 ⟨[.int .i64 i, .int .i64 0, .int .i64 av]⟩ a8 fun aw ax =>
 ∃ ay, aw = .returned (.bool ay) /\
 ((!ay) = true ->
 (true = true ->
 spec_FairShare_z0 a6 ax R) /\
 (true = false ->
 spec_FairShare_j0 a3 a4 a5 i r a6 ax R)) /\
 ((!ay) = false ->
 ∃ b5 b6 b7 b8, Loads P 29 ⟨r, 0, none⟩ (.agg #[.bool b5, .slice b6 b7 b8]) ax /\ Calls P 26 ⟨[.agg #[.bool b5, .slice b6 b7 b8]]⟩ ax fun b9 ba =>
 ∃ bb, b9 = .returned (.bool bb) /\
 ((!bb) = true ->
 spec_FairShare_z0 a6 ba R) /\
 ((!bb) = false ->
 spec_FairShare_j0 a3 a4 a5 i r a6 ba R)))
theorem spec_FairShare_ret {x0 : Bool} {a : Option Addr} {a0 a1 : Nat} {a2 : Option Addr} {a3 a4 : Nat} {i : Int} (h : spec_FairShare x0 a a0 a1 a2 a3 a4 i w R) : Ret P 22 [.agg #[.bool x0, .slice a a0 a1], .slice a2 a3 a4, .int .i64 i] w R := Ret.of_fsem Tryz.func22 rfl (Eq.mp (show _ = fsem P Tryz.f22 (fun k => []) _ R w from by kernel_rfl) h)
def spec_RatRound (r0 : Bool) (a0 : Option Addr) (a1 a2 : Nat) (a3 : Option Addr) (a4 a5 : Nat) (m : Int) (w : World) (R : Value -> World -> Prop) : Prop :=
 ∀ r wv, New w (.cells ⟨[.bool r0, .slice a0 a1 a2, .slice a3 a4 a5]⟩ 44 (0, 0)) r wv ->
 ∀ a6 a7, New wv (.cells ⟨[.bool false, .slice none 0 0]⟩ 29 (0, 0)) a6 a7 ->
 ∃ a8 a9 aa ab ac ae af, Loads P 44 ⟨r, 0, none⟩ (.agg #[.bool a8, .slice a9 aa ab, .slice ac ae af]) a7 /\ Calls P 58 ⟨[.agg #[.bool a8, .slice a9 aa ab, .slice ac ae af]]⟩ a7 fun e ag =>
 ∃ t7, e = .returned (.bool t7) /\
 ((!t7) = true ->
 (true = true ->
 ∃ wv_3, Stores P 29 ⟨a6, 0, none⟩ (.agg #[.bool false, .slice none 0 0]) ag wv_3 /\
 ∃ r0_1 ah ai aj, Loads P 29 ⟨a6, 0, none⟩ (.agg #[.bool r0_1, .slice ah ai aj]) wv_3 /\ R (.tuple #[.agg #[.bool r0_1, .slice ah ai aj], .bool false]) wv_3) /\
 (true = false ->
 ∃ ak al am an ao ap aq, Loads P 44 ⟨r, 0, none⟩ (.agg #[.bool ak, .slice al am an, .slice ao ap aq]) ag /\ Calls P 60 ⟨[.agg #[.bool ak, .slice al am an, .slice ao ap aq], .int .i64 m]⟩ ag fun ar au =>
 ∃ av aw ax ay, ar = .returned (.agg #[.bool av, .slice aw ax ay]) /\
 ∃ wv_5, Stores P 29 ⟨a6, 0, none⟩ (.agg #[.bool av, .slice aw ax ay]) au wv_5 /\
 ∃ r0_2 az b0 b1, Loads P 29 ⟨a6, 0, none⟩ (.agg #[.bool r0_2, .slice az b0 b1]) wv_5 /\ R (.tuple #[.agg #[.bool r0_2, .slice az b0 b1], .bool true]) wv_5)) /\
 ((!t7) = false ->
 Calls P 59 ⟨[.int .i64 m]⟩ ag fun b2 b3 =>
 ∃ b4, b2 = .returned (.bool b4) /\
 ((!b4) = true ->
 ∃ wv_7, Stores P 29 ⟨a6, 0, none⟩ (.agg #[.bool false, .slice none 0 0]) b3 wv_7 /\
 ∃ r0_3 b5 b6 b7, Loads P 29 ⟨a6, 0, none⟩ (.agg #[.bool r0_3, .slice b5 b6 b7]) wv_7 /\ R (.tuple #[.agg #[.bool r0_3, .slice b5 b6 b7], .bool false]) wv_7) /\
 ((!b4) = false ->
 ∃ b8 b9 ba bb bc bd be, Loads P 44 ⟨r, 0, none⟩ (.agg #[.bool b8, .slice b9 ba bb, .slice bc bd be]) b3 /\ Calls P 60 ⟨[.agg #[.bool b8, .slice b9 ba bb, .slice bc bd be], .int .i64 m]⟩ b3 fun bf bg =>
 ∃ bh bi bj bk, bf = .returned (.agg #[.bool bh, .slice bi bj bk]) /\
 ∃ wv_9, Stores P 29 ⟨a6, 0, none⟩ (.agg #[.bool bh, .slice bi bj bk]) bg wv_9 /\
 ∃ r0_4 bl bm bn, Loads P 29 ⟨a6, 0, none⟩ (.agg #[.bool r0_4, .slice bl bm bn]) wv_9 /\ R (.tuple #[.agg #[.bool r0_4, .slice bl bm bn], .bool true]) wv_9))
theorem spec_RatRound_ret {r0 : Bool} {a : Option Addr} {a0 a1 : Nat} {a2 : Option Addr} {a3 a4 : Nat} {m : Int} (h : spec_RatRound r0 a a0 a1 a2 a3 a4 m w R) : Ret P 23 [.agg #[.bool r0, .slice a a0 a1, .slice a2 a3 a4], .int .i64 m] w R := Ret.of_fsem Tryz.func23 rfl (Eq.mp (show _ = fsem P Tryz.f23 (fun k => []) _ R w from by kernel_rfl) h)
def spec_l12Size_j0 (a0 a1 : Nat) (W : World) (R : Value -> World -> Prop) : Prop :=
 ∃ a2 a3 a4 a5 a6 a7 a8, Loads P 44 ⟨a1, 0, none⟩ (.agg #[.bool a2, .slice a3 a4 a5, .slice a6 a7 a8]) W /\ ∃ wv_10, Stores P 44 ⟨a0, 0, none⟩ (.agg #[.bool a2, .slice a3 a4 a5, .slice a6 a7 a8]) W wv_10 /\
 ∃ r0_1 a9 aa ab ac ae af, Loads P 44 ⟨a0, 0, none⟩ (.agg #[.bool r0_1, .slice a9 aa ab, .slice ac ae af]) wv_10 /\ R (.agg #[.bool r0_1, .slice a9 aa ab, .slice ac ae af]) wv_10
def spec_l12Size (r0 : Bool) (a0 : Option Addr) (a1 a2 : Nat) (a3 : Option Addr) (a4 a5 : Nat) (w : World) (R : Value -> World -> Prop) : Prop :=
 ∀ r wv, New w (.cells ⟨[.bool r0, .slice a0 a1 a2, .slice a3 a4 a5]⟩ 44 (0, 0)) r wv ->
 ∀ a6 a7, New wv (.cells ⟨[.bool false, .slice none 0 0, .slice none 0 0]⟩ 44 (0, 0)) a6 a7 ->
 ∃ a8 a9 aa ab ac ae af, Loads P 44 ⟨r, 0, none⟩ (.agg #[.bool a8, .slice a9 aa ab, .slice ac ae af]) a7 /\ Calls P 61 ⟨[.agg #[.bool a8, .slice a9 aa ab, .slice ac ae af], .int .i64 0]⟩ a7 fun e ag =>
 ∃ ah ai aj ak al am an ao ap aq ar t8, e = .returned (.tuple #[.agg #[.bool ah, .slice ai aj ak], .agg #[.bool al, .slice am an ao, .slice ap aq ar], .bool t8]) /\
 ∀ au av, New ag (.cells ⟨[.bool false, .slice none 0 0]⟩ 29 (0, 0)) au av ->
 ∀ aw ax, New av (.cells ⟨[.bool false, .slice none 0 0, .slice none 0 0]⟩ 44 (0, 0)) aw ax ->
 ∃ wv_5, Stores P 29 ⟨au, 0, none⟩ (.agg #[.bool ah, .slice ai aj ak]) ax wv_5 /\
 ∃ wv_6, Stores P 44 ⟨aw, 0, none⟩ (.agg #[.bool al, .slice am an ao, .slice ap aq ar]) wv_5 wv_6 /\
 ∃ ay az b0 b1 b2 b3 b4, Loads P 44 ⟨aw, 0, none⟩ (.agg #[.bool ay, .slice az b0 b1, .slice b2 b3 b4]) wv_6 /\ Calls P 32 ⟨[.agg #[.bool ay, .slice az b0 b1, .slice b2 b3 b4]]⟩ wv_6 fun b5 b6 =>
 ∃ b7, b5 = .returned (.int .i64 b7) /\
 ((decide ((b7 : Int) < 0)) = true ->
 ∃ b8 b9 ba bb bc bd be, Loads P 44 ⟨aw, 0, none⟩ (.agg #[.bool b8, .slice b9 ba bb, .slice bc bd be]) b6 /\ Calls P 62 ⟨[.agg #[.bool b8, .slice b9 ba bb, .slice bc bd be]]⟩ b6 fun bf bg =>
 ∃ bh bi bj bk bl bm bn bo, bf = .returned (.tuple #[.agg #[.bool bh, .slice bi bj bk, .slice bl bm bn], .bool bo]) /\
 ∃ wv_9, Stores P 44 ⟨aw, 0, none⟩ (.agg #[.bool bh, .slice bi bj bk, .slice bl bm bn]) bg wv_9 /\
 spec_l12Size_j0 a6 aw wv_9 R) /\
 ((decide ((b7 : Int) < 0)) = false ->
 spec_l12Size_j0 a6 aw b6 R)
theorem spec_l12Size_ret {r0 : Bool} {a : Option Addr} {a0 a1 : Nat} {a2 : Option Addr} {a3 a4 : Nat} (h : spec_l12Size r0 a a0 a1 a2 a3 a4 w R) : Ret P 24 [.agg #[.bool r0, .slice a a0 a1, .slice a2 a3 a4]] w R := Ret.of_fsem Tryz.func24 rfl (Eq.mp (show _ = fsem P Tryz.f24 (fun k => []) _ R w from by kernel_rfl) h)
def spec_WeightsOk (a0 : Option Addr) (a1 a2 : Nat) (w : World) (R : Value -> World -> Prop) : Prop :=
 Calls P 14 ⟨[(.int .i64 ((a1 : Nat) : Int)), .int .i64 1, .int .i64 30]⟩ w fun e wv =>
 ∃ t7, e = .returned (.bool t7) /\
 ((!t7) = true ->
 R (.bool false) wv) /\
 ((!t7) = false ->
 ∃ (a3 : Int -> World -> Prop) (mu : Int -> World -> Nat), a3 0 wv /\
 ∀ (a4 : Fr) (a5 : World) (a6 : Int), a3 a6 a5 ->
 ((decide ((a6 : Int) < ((a1 : Nat) : Int))) = true ->
 (0 <= (a6 : Int) /\ (a6 : Int) < (a1 : Nat)) /\ ptrS a0 fun ad => ∃ a7, Loads P 3 (ad.add (a6.toNat * 1)) (.int .i64 a7) a5 /\ Calls P 14 ⟨[.int .i64 a7, .int .i64 0, .int .i64 1000000000]⟩ a5 fun a8 a9 =>
 ∃ aa, a8 = .returned (.bool aa) /\
 ((!aa) = true ->
 R (.bool false) a9) /\
 ((!aa) = false ->
 ∃ ab : Int, ab = IntKind.wrap .i64 (a6 + 1) /\ a3 ab a9 /\ mu ab a9 < mu a6 a5)) /\
 ((decide ((a6 : Int) < ((a1 : Nat) : Int))) = false ->
 Calls P 57 ⟨[.slice a0 a1 a2]⟩ a5 fun ac ae =>
 ∃ af, ac = .returned (.int .i64 af) /\
 R (.bool (decide ((0 : Int) < af))) ae))
theorem spec_WeightsOk_ret {a : Option Addr} {a0 a1 : Nat} (h : spec_WeightsOk a a0 a1 w R) : Ret P 25 [.slice a a0 a1] w R := Ret.of_fsem Tryz.func25 rfl (Eq.mp (show _ = fsem P Tryz.f25 (fun k => cond (Nat.beq k 5) [(11, .one (.int .i64))] ([])) _ R w from by kernel_rfl) h)
def spec_IntOk (x0 : Bool) (a0 : Option Addr) (a1 a2 : Nat) (w : World) (R : Value -> World -> Prop) : Prop :=
 ∀ r wv, New w (.cells ⟨[.bool x0, .slice a0 a1 a2]⟩ 29 (0, 0)) r wv ->
 ∃ a3 a4 a5, Loads P 22 ((⟨r, 0, none⟩ : Addr).add 1) (.slice a3 a4 a5) wv /\ Calls P 63 ⟨[.slice a3 a4 a5]⟩ wv fun e a6 =>
 ∃ t5, e = .returned (.bool t5) /\
 (t5 = true ->
 ∃ t8, Loads P 4 ((⟨r, 0, none⟩ : Addr).add 0) (.bool t8) a6 /\ ((!t8) = true ->
 R (.bool true) a6) /\
 ((!t8) = false ->
 ∃ a7 a8 a9, Loads P 22 ((⟨r, 0, none⟩ : Addr).add 1) (.slice a7 a8 a9) a6 /\ R (.bool (decide ((0 : Int) < ((a8 : Nat) : Int)))) a6)) /\
 (t5 = false ->
 R (.bool false) a6)
theorem spec_IntOk_ret {x0 : Bool} {a : Option Addr} {a0 a1 : Nat} (h : spec_IntOk x0 a a0 a1 w R) : Ret P 26 [.agg #[.bool x0, .slice a a0 a1]] w R := Ret.of_fsem Tryz.func26 rfl (Eq.mp (show _ = fsem P Tryz.f26 (fun k => []) _ R w from by kernel_rfl) h)
def spec_IntNum (x0 : Bool) (a0 : Option Addr) (a1 a2 : Nat) (w : World) (R : Value -> World -> Prop) : Prop :=
 ∀ r wv, New w (.cells ⟨[.bool x0, .slice a0 a1 a2]⟩ 29 (0, 0)) r wv ->
 ∃ a3 a4 a5, Loads P 22 ((⟨r, 0, none⟩ : Addr).add 1) (.slice a3 a4 a5) wv /\ Calls P 64 ⟨[.slice a3 a4 a5]⟩ wv fun e a6 =>
 ∃ t9 a7, e = .returned (.tuple #[.int .i64 t9, .bool a7]) /\
 ((!a7) = true ->
 (true = true ->
 R (.tuple #[.int .i64 0, .bool false]) a6) /\
 (true = false ->
 ∃ a8, Loads P 4 ((⟨r, 0, none⟩ : Addr).add 0) (.bool a8) a6 /\ (a8 = true ->
 ∃ a9 : Int, a9 = IntKind.wrap .i64 (0 - t9) /\ R (.tuple #[.int .i64 a9, .bool true]) a6) /\
 (a8 = false ->
 R (.tuple #[.int .i64 t9, .bool true]) a6))) /\
 ((!a7) = false ->
 ∃ aa ab ac ae, Loads P 29 ⟨r, 0, none⟩ (.agg #[.bool aa, .slice ab ac ae]) a6 /\ Calls P 26 ⟨[.agg #[.bool aa, .slice ab ac ae]]⟩ a6 fun af ag =>
 ∃ ah, af = .returned (.bool ah) /\
 ((!ah) = true ->
 R (.tuple #[.int .i64 0, .bool false]) ag) /\
 ((!ah) = false ->
 ∃ ai, Loads P 4 ((⟨r, 0, none⟩ : Addr).add 0) (.bool ai) ag /\ (ai = true ->
 ∃ aj : Int, aj = IntKind.wrap .i64 (0 - t9) /\ R (.tuple #[.int .i64 aj, .bool true]) ag) /\
 (ai = false ->
 R (.tuple #[.int .i64 t9, .bool true]) ag)))
theorem spec_IntNum_ret {x0 : Bool} {a : Option Addr} {a0 a1 : Nat} (h : spec_IntNum x0 a a0 a1 w R) : Ret P 27 [.agg #[.bool x0, .slice a a0 a1]] w R := Ret.of_fsem Tryz.func27 rfl (Eq.mp (show _ = fsem P Tryz.f27 (fun k => []) _ R w from by kernel_rfl) h)
def spec_IntAbs (x0 : Bool) (a0 : Option Addr) (a1 a2 : Nat) (w : World) (R : Value -> World -> Prop) : Prop :=
 ∀ r wv, New w (.cells ⟨[.bool x0, .slice a0 a1 a2]⟩ 29 (0, 0)) r wv ->
 ∀ a3 a4, New wv (.cells ⟨[.bool false, .slice none 0 0]⟩ 29 (0, 0)) a3 a4 ->
 ∃ a5 a6 a7 a8, Loads P 29 ⟨r, 0, none⟩ (.agg #[.bool a5, .slice a6 a7 a8]) a4 /\ Calls P 26 ⟨[.agg #[.bool a5, .slice a6 a7 a8]]⟩ a4 fun e a9 =>
 ∃ t4, e = .returned (.bool t4) /\
 ((!t4) = true ->
 ∃ wv_3, Stores P 29 ⟨a3, 0, none⟩ (.agg #[.bool false, .slice none 0 0]) a9 wv_3 /\
 ∃ r0 aa ab ac, Loads P 29 ⟨a3, 0, none⟩ (.agg #[.bool r0, .slice aa ab ac]) wv_3 /\ R (.agg #[.bool r0, .slice aa ab ac]) wv_3) /\
 ((!t4) = false ->
 ∃ ae af ag, Loads P 22 ((⟨r, 0, none⟩ : Addr).add 1) (.slice ae af ag) a9 /\ Calls P 65 ⟨[.bool false, .slice ae af ag]⟩ a9 fun ah ai =>
 ∃ aj ak al am, ah = .returned (.agg #[.bool aj, .slice ak al am]) /\
 ∃ wv_5, Stores P 29 ⟨a3, 0, none⟩ (.agg #[.bool aj, .slice ak al am]) ai wv_5 /\
 ∃ r0_1 an ao ap, Loads P 29 ⟨a3, 0, none⟩ (.agg #[.bool r0_1, .slice an ao ap]) wv_5 /\ R (.agg #[.bool r0_1, .slice an ao ap]) wv_5)
theorem spec_IntAbs_ret {x0 : Bool} {a : Option Addr} {a0 a1 : Nat} (h : spec_IntAbs x0 a a0 a1 w R) : Ret P 28 [.agg #[.bool x0, .slice a a0 a1]] w R := Ret.of_fsem Tryz.func28 rfl (Eq.mp (show _ = fsem P Tryz.f28 (fun k => []) _ R w from by kernel_rfl) h)
def spec_IntSub (x0 : Bool) (a0 : Option Addr) (a1 a2 : Nat) (y0 : Bool) (a3 : Option Addr) (a4 a5 : Nat) (w : World) (R : Value -> World -> Prop) : Prop :=
 ∀ r wv, New w (.cells ⟨[.bool x0, .slice a0 a1 a2]⟩ 29 (0, 0)) r wv ->
 ∀ a6 a7, New wv (.cells ⟨[.bool y0, .slice a3 a4 a5]⟩ 29 (0, 0)) a6 a7 ->
 ∀ a8 a9, New a7 (.cells ⟨[.bool false, .slice none 0 0]⟩ 29 (0, 0)) a8 a9 ->
 ∃ aa ab ac ae, Loads P 29 ⟨r, 0, none⟩ (.agg #[.bool aa, .slice ab ac ae]) a9 /\ Calls P 26 ⟨[.agg #[.bool aa, .slice ab ac ae]]⟩ a9 fun e af =>
 ∃ t6, e = .returned (.bool t6) /\
 ((!t6) = true ->
 (true = true ->
 ∃ wv_4, Stores P 29 ⟨a8, 0, none⟩ (.agg #[.bool false, .slice none 0 0]) af wv_4 /\
 ∃ r0 ag ah ai, Loads P 29 ⟨a8, 0, none⟩ (.agg #[.bool r0, .slice ag ah ai]) wv_4 /\ R (.agg #[.bool r0, .slice ag ah ai]) wv_4) /\
 (true = false ->
 ∃ aj ak al am, (∀ wv_5, Ext af.drew wv_5 -> Loads P 29 ⟨r, 0, none⟩ (.agg #[.bool aj, .slice ak al am]) wv_5) /\ ∃ an ao ap aq, (∀ wv_6, Ext af.drew wv_6 -> Loads P 29 ⟨a6, 0, none⟩ (.agg #[.bool an, .slice ao ap aq]) wv_6) /\ Calls P 67 ⟨[.agg #[.bool an, .slice ao ap aq]]⟩ af.drew fun ar au =>
 ∃ av aw ax ay, ar = .returned (.agg #[.bool av, .slice aw ax ay]) /\
 Ext af.drew au /\ Calls P 66 ⟨[.agg #[.bool aj, .slice ak al am], .agg #[.bool av, .slice aw ax ay]]⟩ au fun az b0 =>
 ∃ b1 b2 b3 b4, az = .returned (.agg #[.bool b1, .slice b2 b3 b4]) /\
 ∃ wv_9, Stores P 29 ⟨a8, 0, none⟩ (.agg #[.bool b1, .slice b2 b3 b4]) b0 wv_9 /\
 ∃ r0_1 b5 b6 b7, Loads P 29 ⟨a8, 0, none⟩ (.agg #[.bool r0_1, .slice b5 b6 b7]) wv_9 /\ R (.agg #[.bool r0_1, .slice b5 b6 b7]) wv_9)) /\
 ((!t6) = false ->
 ∃ b8 b9 ba bb, Loads P 29 ⟨a6, 0, none⟩ (.agg #[.bool b8, .slice b9 ba bb]) af /\ Calls P 26 ⟨[.agg #[.bool b8, .slice b9 ba bb]]⟩ af fun bc bd =>
 ∃ be, bc = .returned (.bool be) /\
 ((!be) = true ->
 ∃ wv_11, Stores P 29 ⟨a8, 0, none⟩ (.agg #[.bool false, .slice none 0 0]) bd wv_11 /\
 ∃ r0_2 bf bg bh, Loads P 29 ⟨a8, 0, none⟩ (.agg #[.bool r0_2, .slice bf bg bh]) wv_11 /\ R (.agg #[.bool r0_2, .slice bf bg bh]) wv_11) /\
 ((!be) = false ->
 ∃ bi bj bk bl, (∀ wv_12, Ext bd.drew wv_12 -> Loads P 29 ⟨r, 0, none⟩ (.agg #[.bool bi, .slice bj bk bl]) wv_12) /\ ∃ bm bn bo bp, (∀ wv_13, Ext bd.drew wv_13 -> Loads P 29 ⟨a6, 0, none⟩ (.agg #[.bool bm, .slice bn bo bp]) wv_13) /\ Calls P 67 ⟨[.agg #[.bool bm, .slice bn bo bp]]⟩ bd.drew fun bq br =>
 ∃ bs bt bu bv, bq = .returned (.agg #[.bool bs, .slice bt bu bv]) /\
 Ext bd.drew br /\ Calls P 66 ⟨[.agg #[.bool bi, .slice bj bk bl], .agg #[.bool bs, .slice bt bu bv]]⟩ br fun bw bx =>
 ∃ bz c0 c1 c2, bw = .returned (.agg #[.bool bz, .slice c0 c1 c2]) /\
 ∃ wv_16, Stores P 29 ⟨a8, 0, none⟩ (.agg #[.bool bz, .slice c0 c1 c2]) bx wv_16 /\
 ∃ r0_3 c3 c4 c5, Loads P 29 ⟨a8, 0, none⟩ (.agg #[.bool r0_3, .slice c3 c4 c5]) wv_16 /\ R (.agg #[.bool r0_3, .slice c3 c4 c5]) wv_16))
theorem spec_IntSub_ret {x0 : Bool} {a : Option Addr} {a0 a1 : Nat} {y0 : Bool} {a2 : Option Addr} {a3 a4 : Nat} (h : spec_IntSub x0 a a0 a1 y0 a2 a3 a4 w R) : Ret P 29 [.agg #[.bool x0, .slice a a0 a1], .agg #[.bool y0, .slice a2 a3 a4]] w R := Ret.of_fsem Tryz.func29 rfl (Eq.mp (show _ = fsem P Tryz.f29 (fun k => []) _ R w from by kernel_rfl) h)
def spec_IntSum (a0 : Option Addr) (a1 a2 : Nat) (w : World) (R : Value -> World -> Prop) : Prop :=
 ∀ r wv, New w (.cells ⟨[.bool false, .slice none 0 0]⟩ 29 (0, 0)) r wv ->
 ∀ a3 a4, New wv (.cells ⟨[.bool false, .slice none 0 0]⟩ 29 (0, 0)) a3 a4 ->
 ∃ wv_2, Stores P 29 ⟨a3, 0, none⟩ (.agg #[.bool false, .slice none 0 0]) a4 wv_2 /\
 ∃ (a5 : Int -> World -> Prop) (mu : Int -> World -> Nat), a5 0 wv_2 /\
 ∀ (a6 : Fr) (a7 : World) (t9 : Int), a5 t9 a7 ->
 ((decide ((t9 : Int) < ((a1 : Nat) : Int))) = true ->
 (0 <= (t9 : Int) /\ (t9 : Int) < (a1 : Nat)) /\ ptrS a0 fun ad => ∃ a8 a9 aa ab, Loads P 29 (ad.add (t9.toNat * 2)) (.agg #[.bool a8, .slice a9 aa ab]) a7 /\ ∀ ac ae, New a7 (.cells ⟨[.bool false, .slice none 0 0]⟩ 29 (0, 0)) ac ae ->
 ∃ wv_5, Stores P 29 ⟨ac, 0, none⟩ (.agg #[.bool a8, .slice a9 aa ab]) ae wv_5 /\
 ∃ af ag ah ai, Loads P 29 ⟨ac, 0, none⟩ (.agg #[.bool af, .slice ag ah ai]) wv_5 /\ Calls P 26 ⟨[.agg #[.bool af, .slice ag ah ai]]⟩ wv_5 fun e aj =>
 ∃ ak, e = .returned (.bool ak) /\
 ((!ak) = true ->
 ∃ wv_7, Stores P 29 ⟨r, 0, none⟩ (.agg #[.bool false, .slice none 0 0]) aj wv_7 /\
 ∃ r0 al am an, Loads P 29 ⟨r, 0, none⟩ (.agg #[.bool r0, .slice al am an]) wv_7 /\ R (.agg #[.bool r0, .slice al am an]) wv_7) /\
 ((!ak) = false ->
 ∃ ao ap aq ar, Loads P 29 ⟨a3, 0, none⟩ (.agg #[.bool ao, .slice ap aq ar]) aj /\ ∃ au av aw ax, Loads P 29 ⟨ac, 0, none⟩ (.agg #[.bool au, .slice av aw ax]) aj /\ Calls P 34 ⟨[.agg #[.bool ao, .slice ap aq ar], .agg #[.bool au, .slice av aw ax]]⟩ aj fun ay az =>
 ∃ b0 b1 b2 b3, ay = .returned (.agg #[.bool b0, .slice b1 b2 b3]) /\
 ∃ wv_9, Stores P 29 ⟨a3, 0, none⟩ (.agg #[.bool b0, .slice b1 b2 b3]) az wv_9 /\
 ∃ b4 : Int, b4 = IntKind.wrap .i64 (t9 + 1) /\ a5 b4 wv_9 /\ mu b4 wv_9 < mu t9 a7)) /\
 ((decide ((t9 : Int) < ((a1 : Nat) : Int))) = false ->
 ∃ b5 b6 b7 b8, Loads P 29 ⟨a3, 0, none⟩ (.agg #[.bool b5, .slice b6 b7 b8]) a7 /\ ∃ wv_10, Stores P 29 ⟨r, 0, none⟩ (.agg #[.bool b5, .slice b6 b7 b8]) a7 wv_10 /\
 ∃ r0_1 b9 ba bb, Loads P 29 ⟨r, 0, none⟩ (.agg #[.bool r0_1, .slice b9 ba bb]) wv_10 /\ R (.agg #[.bool r0_1, .slice b9 ba bb]) wv_10)
theorem spec_IntSum_ret {a : Option Addr} {a0 a1 : Nat} (h : spec_IntSum a a0 a1 w R) : Ret P 30 [.slice a a0 a1] w R := Ret.of_fsem Tryz.func30 rfl (Eq.mp (show _ = fsem P Tryz.f30 (fun k => cond (Nat.beq k 4) [(9, .one (.int .i64))] ([])) _ R w from by kernel_rfl) h)
def spec_IntOf (n : Int) (w : World) (R : Value -> World -> Prop) : Prop :=
 ∀ r wv, New w (.cells ⟨[.bool false, .slice none 0 0]⟩ 29 (0, 0)) r wv ->
 ((decide ((n : Int) = (-9223372036854775808))) = true ->
 ∀ a0 a1, New wv (.cells ⟨[.int .i64 854775808, .int .i64 223372036, .int .i64 9]⟩ 3 (0, 0)) a0 a1 ->
 Calls P 65 ⟨[.bool true, (.slice (some ⟨a0, 0, none⟩) 3 3)]⟩ a1 fun e a2 =>
 ∃ a3 a4 a5 a6, e = .returned (.agg #[.bool a3, .slice a4 a5 a6]) /\
 ∃ wv_3, Stores P 29 ⟨r, 0, none⟩ (.agg #[.bool a3, .slice a4 a5 a6]) a2 wv_3 /\
 ∃ r0 a7 a8 a9, Loads P 29 ⟨r, 0, none⟩ (.agg #[.bool r0, .slice a7 a8 a9]) wv_3 /\ R (.agg #[.bool r0, .slice a7 a8 a9]) wv_3) /\
 ((decide ((n : Int) = (-9223372036854775808))) = false ->
 ((decide ((n : Int) < 0)) = true ->
 ∃ aa : Int, aa = IntKind.wrap .i64 (0 - n) /\ Calls P 56 ⟨[.int .i64 aa]⟩ wv fun ab ac =>
 ∃ ae af ag, ab = .returned (.slice ae af ag) /\
 Calls P 65 ⟨[.bool true, .slice ae af ag]⟩ ac fun ah ai =>
 ∃ aj ak al am, ah = .returned (.agg #[.bool aj, .slice ak al am]) /\
 ∃ wv_6, Stores P 29 ⟨r, 0, none⟩ (.agg #[.bool aj, .slice ak al am]) ai wv_6 /\
 ∃ r0_1 an ao ap, Loads P 29 ⟨r, 0, none⟩ (.agg #[.bool r0_1, .slice an ao ap]) wv_6 /\ R (.agg #[.bool r0_1, .slice an ao ap]) wv_6) /\
 ((decide ((n : Int) < 0)) = false ->
 Calls P 56 ⟨[.int .i64 n]⟩ wv fun aq ar =>
 ∃ au av aw, aq = .returned (.slice au av aw) /\
 Calls P 65 ⟨[.bool false, .slice au av aw]⟩ ar fun ax ay =>
 ∃ az b0 b1 b2, ax = .returned (.agg #[.bool az, .slice b0 b1 b2]) /\
 ∃ wv_9, Stores P 29 ⟨r, 0, none⟩ (.agg #[.bool az, .slice b0 b1 b2]) ay wv_9 /\
 ∃ r0_2 b3 b4 b5, Loads P 29 ⟨r, 0, none⟩ (.agg #[.bool r0_2, .slice b3 b4 b5]) wv_9 /\ R (.agg #[.bool r0_2, .slice b3 b4 b5]) wv_9))
theorem spec_IntOf_ret {n : Int} (h : spec_IntOf n w R) : Ret P 31 [.int .i64 n] w R := Ret.of_fsem Tryz.func31 rfl (Eq.mp (show _ = fsem P Tryz.f31 (fun k => []) _ R w from by kernel_rfl) h)
def spec_RatSign (r0 : Bool) (a0 : Option Addr) (a1 a2 : Nat) (a3 : Option Addr) (a4 a5 : Nat) (w : World) (R : Value -> World -> Prop) : Prop :=
 ∀ r wv, New w (.cells ⟨[.bool r0, .slice a0 a1 a2, .slice a3 a4 a5]⟩ 44 (0, 0)) r wv ->
 ∃ a6 a7 a8 a9 aa ab ac, (∀ wv_1, Ext wv.drew wv_1 -> Loads P 44 ⟨r, 0, none⟩ (.agg #[.bool a6, .slice a7 a8 a9, .slice aa ab ac]) wv_1) /\ Calls P 35 ⟨[]⟩ wv.drew fun e ae =>
 ∃ af ag ah ai aj ak al, e = .returned (.agg #[.bool af, .slice ag ah ai, .slice aj ak al]) /\
 Ext wv.drew ae /\ Calls P 33 ⟨[.agg #[.bool a6, .slice a7 a8 a9, .slice aa ab ac], .agg #[.bool af, .slice ag ah ai, .slice aj ak al]]⟩ ae fun am an =>
 ∃ t5, am = .returned (.int .i64 t5) /\
 R (.int .i64 t5) an
theorem spec_RatSign_ret {r0 : Bool} {a : Option Addr} {a0 a1 : Nat} {a2 : Option Addr} {a3 a4 : Nat} (h : spec_RatSign r0 a a0 a1 a2 a3 a4 w R) : Ret P 32 [.agg #[.bool r0, .slice a a0 a1, .slice a2 a3 a4]] w R := Ret.of_fsem Tryz.func32 rfl (Eq.mp (show _ = fsem P Tryz.f32 (fun k => []) _ R w from by kernel_rfl) h)
def spec_RatCmp_j0 (r a0 : Nat) (W : World) (R : Value -> World -> Prop) : Prop :=
 ∃ a1, (∀ wv_3, Ext W.drew wv_3 -> Loads P 4 (((⟨r, 0, none⟩ : Addr).add 0).add 0) (.bool a1) wv_3) /\ ∃ a2 a3 a4, (∀ wv_4, Ext W.drew wv_4 -> Loads P 22 (((⟨r, 0, none⟩ : Addr).add 0).add 1) (.slice a2 a3 a4) wv_4) /\ ∃ a5 a6 a7, (∀ wv_5, Ext W.drew wv_5 -> Loads P 22 ((⟨a0, 0, none⟩ : Addr).add 2) (.slice a5 a6 a7) wv_5) /\ Calls P 55 ⟨[.slice a2 a3 a4, .slice a5 a6 a7]⟩ W.drew fun a8 a9 =>
 ∃ aa ab ac, a8 = .returned (.slice aa ab ac) /\
 Ext W.drew a9 /\ Calls P 65 ⟨[.bool a1, .slice aa ab ac]⟩ a9 fun ae af =>
 ∃ ag ah ai aj, ae = .returned (.agg #[.bool ag, .slice ah ai aj]) /\
 Ext a9 af /\ ∃ ak, (∀ wv_8, Ext W.drew wv_8 -> Loads P 4 (((⟨a0, 0, none⟩ : Addr).add 0).add 0) (.bool ak) wv_8) /\ ∃ al am an, (∀ wv_9, Ext W.drew wv_9 -> Loads P 22 (((⟨a0, 0, none⟩ : Addr).add 0).add 1) (.slice al am an) wv_9) /\ ∃ ao ap aq, (∀ wv_10, Ext W.drew wv_10 -> Loads P 22 ((⟨r, 0, none⟩ : Addr).add 2) (.slice ao ap aq) wv_10) /\ Calls P 55 ⟨[.slice al am an, .slice ao ap aq]⟩ af fun ar au =>
 ∃ av aw ax, ar = .returned (.slice av aw ax) /\
 Ext af au /\ Calls P 65 ⟨[.bool ak, .slice av aw ax]⟩ au fun ay az =>
 ∃ b0 b1 b2 b3, ay = .returned (.agg #[.bool b0, .slice b1 b2 b3]) /\
 Calls P 68 ⟨[.agg #[.bool ag, .slice ah ai aj], .agg #[.bool b0, .slice b1 b2 b3]]⟩ az fun b4 b5 =>
 ∃ b6, b4 = .returned (.int .i64 b6) /\
 R (.int .i64 b6) b5
def spec_RatCmp (r0 : Bool) (a0 : Option Addr) (a1 a2 : Nat) (a3 : Option Addr) (a4 a5 : Nat) (s0 : Bool) (a6 : Option Addr) (a7 a8 : Nat) (a9 : Option Addr) (aa ab : Nat) (w : World) (R : Value -> World -> Prop) : Prop :=
 ∀ r wv, New w (.cells ⟨[.bool r0, .slice a0 a1 a2, .slice a3 a4 a5]⟩ 44 (0, 0)) r wv ->
 ∀ ac ae, New wv (.cells ⟨[.bool s0, .slice a6 a7 a8, .slice a9 aa ab]⟩ 44 (0, 0)) ac ae ->
 ∃ af ag ah ai aj ak al, Loads P 44 ⟨r, 0, none⟩ (.agg #[.bool af, .slice ag ah ai, .slice aj ak al]) ae /\ Calls P 58 ⟨[.agg #[.bool af, .slice ag ah ai, .slice aj ak al]]⟩ ae fun e am =>
 ∃ t6, e = .returned (.bool t6) /\
 ((!t6) = true ->
 (true = true ->
 R (.int .i64 0) am) /\
 (true = false ->
 spec_RatCmp_j0 r ac am R)) /\
 ((!t6) = false ->
 ∃ an ao ap aq ar au av, Loads P 44 ⟨ac, 0, none⟩ (.agg #[.bool an, .slice ao ap aq, .slice ar au av]) am /\ Calls P 58 ⟨[.agg #[.bool an, .slice ao ap aq, .slice ar au av]]⟩ am fun aw ax =>
 ∃ ay, aw = .returned (.bool ay) /\
 ((!ay) = true ->
 R (.int .i64 0) ax) /\
 ((!ay) = false ->
 spec_RatCmp_j0 r ac ax R))
theorem spec_RatCmp_ret {r0 : Bool} {a : Option Addr} {a0 a1 : Nat} {a2 : Option Addr} {a3 a4 : Nat} {s0 : Bool} {a5 : Option Addr} {a6 a7 : Nat} {a8 : Option Addr} {a9 b : Nat} (h : spec_RatCmp r0 a a0 a1 a2 a3 a4 s0 a5 a6 a7 a8 a9 b w R) : Ret P 33 [.agg #[.bool r0, .slice a a0 a1, .slice a2 a3 a4], .agg #[.bool s0, .slice a5 a6 a7, .slice a8 a9 b]] w R := Ret.of_fsem Tryz.func33 rfl (Eq.mp (show _ = fsem P Tryz.f33 (fun k => []) _ R w from by kernel_rfl) h)
def spec_IntAdd (x0 : Bool) (a0 : Option Addr) (a1 a2 : Nat) (y0 : Bool) (a3 : Option Addr) (a4 a5 : Nat) (w : World) (R : Value -> World -> Prop) : Prop :=
 ∀ r wv, New w (.cells ⟨[.bool x0, .slice a0 a1 a2]⟩ 29 (0, 0)) r wv ->
 ∀ a6 a7, New wv (.cells ⟨[.bool y0, .slice a3 a4 a5]⟩ 29 (0, 0)) a6 a7 ->
 ∀ a8 a9, New a7 (.cells ⟨[.bool false, .slice none 0 0]⟩ 29 (0, 0)) a8 a9 ->
 ∃ aa ab ac ae, Loads P 29 ⟨r, 0, none⟩ (.agg #[.bool aa, .slice ab ac ae]) a9 /\ Calls P 26 ⟨[.agg #[.bool aa, .slice ab ac ae]]⟩ a9 fun e af =>
 ∃ t6, e = .returned (.bool t6) /\
 ((!t6) = true ->
 (true = true ->
 ∃ wv_4, Stores P 29 ⟨a8, 0, none⟩ (.agg #[.bool false, .slice none 0 0]) af wv_4 /\
 ∃ r0 ag ah ai, Loads P 29 ⟨a8, 0, none⟩ (.agg #[.bool r0, .slice ag ah ai]) wv_4 /\ R (.agg #[.bool r0, .slice ag ah ai]) wv_4) /\
 (true = false ->
 ∃ aj ak al am, Loads P 29 ⟨r, 0, none⟩ (.agg #[.bool aj, .slice ak al am]) af /\ ∃ an ao ap aq, Loads P 29 ⟨a6, 0, none⟩ (.agg #[.bool an, .slice ao ap aq]) af /\ Calls P 66 ⟨[.agg #[.bool aj, .slice ak al am], .agg #[.bool an, .slice ao ap aq]]⟩ af fun ar au =>
 ∃ av aw ax ay, ar = .returned (.agg #[.bool av, .slice aw ax ay]) /\
 ∃ wv_6, Stores P 29 ⟨a8, 0, none⟩ (.agg #[.bool av, .slice aw ax ay]) au wv_6 /\
 ∃ r0_1 az b0 b1, Loads P 29 ⟨a8, 0, none⟩ (.agg #[.bool r0_1, .slice az b0 b1]) wv_6 /\ R (.agg #[.bool r0_1, .slice az b0 b1]) wv_6)) /\
 ((!t6) = false ->
 ∃ b2 b3 b4 b5, Loads P 29 ⟨a6, 0, none⟩ (.agg #[.bool b2, .slice b3 b4 b5]) af /\ Calls P 26 ⟨[.agg #[.bool b2, .slice b3 b4 b5]]⟩ af fun b6 b7 =>
 ∃ b8, b6 = .returned (.bool b8) /\
 ((!b8) = true ->
 ∃ wv_8, Stores P 29 ⟨a8, 0, none⟩ (.agg #[.bool false, .slice none 0 0]) b7 wv_8 /\
 ∃ r0_2 b9 ba bb, Loads P 29 ⟨a8, 0, none⟩ (.agg #[.bool r0_2, .slice b9 ba bb]) wv_8 /\ R (.agg #[.bool r0_2, .slice b9 ba bb]) wv_8) /\
 ((!b8) = false ->
 ∃ bc bd be bf, Loads P 29 ⟨r, 0, none⟩ (.agg #[.bool bc, .slice bd be bf]) b7 /\ ∃ bg bh bi bj, Loads P 29 ⟨a6, 0, none⟩ (.agg #[.bool bg, .slice bh bi bj]) b7 /\ Calls P 66 ⟨[.agg #[.bool bc, .slice bd be bf], .agg #[.bool bg, .slice bh bi bj]]⟩ b7 fun bk bl =>
 ∃ bm bn bo bp, bk = .returned (.agg #[.bool bm, .slice bn bo bp]) /\
 ∃ wv_10, Stores P 29 ⟨a8, 0, none⟩ (.agg #[.bool bm, .slice bn bo bp]) bl wv_10 /\
 ∃ r0_3 bq br bs, Loads P 29 ⟨a8, 0, none⟩ (.agg #[.bool r0_3, .slice bq br bs]) wv_10 /\ R (.agg #[.bool r0_3, .slice bq br bs]) wv_10))
theorem spec_IntAdd_ret {x0 : Bool} {a : Option Addr} {a0 a1 : Nat} {y0 : Bool} {a2 : Option Addr} {a3 a4 : Nat} (h : spec_IntAdd x0 a a0 a1 y0 a2 a3 a4 w R) : Ret P 34 [.agg #[.bool x0, .slice a a0 a1], .agg #[.bool y0, .slice a2 a3 a4]] w R := Ret.of_fsem Tryz.func34 rfl (Eq.mp (show _ = fsem P Tryz.f34 (fun k => []) _ R w from by kernel_rfl) h)
def spec_RatZero (w : World) (R : Value -> World -> Prop) : Prop :=
 ∀ r wv, New w (.cells ⟨[.bool false, .slice none 0 0, .slice none 0 0]⟩ 44 (0, 0)) r wv ->
 ∀ a0 a1, New wv (.cells ⟨[.int .i64 1]⟩ 3 (0, 0)) a0 a1 ->
 ∃ wv_2, Stores P 44 ⟨r, 0, none⟩ (.agg #[.bool false, .slice none 0 0, (.slice (some ⟨a0, 0, none⟩) 1 1)]) a1 wv_2 /\
 ∃ r0 a2 a3 a4 a5 a6 a7, Loads P 44 ⟨r, 0, none⟩ (.agg #[.bool r0, .slice a2 a3 a4, .slice a5 a6 a7]) wv_2 /\ R (.agg #[.bool r0, .slice a2 a3 a4, .slice a5 a6 a7]) wv_2
theorem spec_RatZero_ret (h : spec_RatZero w R) : Ret P 35 [] w R := Ret.of_fsem Tryz.func35 rfl (Eq.mp (show _ = fsem P Tryz.f35 (fun k => []) _ R w from by kernel_rfl) h)
def impl_WeightsOk_j0 (a0 : Option Addr) (a1 : Nat) (W : World) (R : Value -> World -> Prop) : Prop :=
 ∃ (a2 : Int -> Int -> World -> Prop) (mu : Int -> Int -> World -> Nat), a2 0 0 W /\
 ∀ (a3 : Fr) (wv : World) (total a4 : Int), a2 total a4 wv ->
 ((decide ((a4 : Int) < ((a1 : Nat) : Int))) = true ->
 (0 <= (a4 : Int) /\ (a4 : Int) < (a1 : Nat)) /\ ptrS a0 fun ad => ∃ a5, Loads P 3 (ad.add (a4.toNat * 1)) (.int .i64 a5) wv /\ ((decide ((a5 : Int) < 0)) = true ->
 (true = true ->
 R (.bool false) wv) /\
 (true = false ->
 ∃ a6 : Int, a6 = IntKind.wrap .i64 (total + a5) /\ ∃ a7 : Int, a7 = IntKind.wrap .i64 (a4 + 1) /\ a2 a6 a7 wv /\ mu a6 a7 wv < mu total a4 wv)) /\
 ((decide ((a5 : Int) < 0)) = false ->
 ((decide ((1000000000 : Int) < a5)) = true ->
 R (.bool false) wv) /\
 ((decide ((1000000000 : Int) < a5)) = false ->
 ∃ a8 : Int, a8 = IntKind.wrap .i64 (total + a5) /\ ∃ a9 : Int, a9 = IntKind.wrap .i64 (a4 + 1) /\ a2 a8 a9 wv /\ mu a8 a9 wv < mu total a4 wv))) /\
 ((decide ((a4 : Int) < ((a1 : Nat) : Int))) = false ->
 R (.bool (decide ((0 : Int) < total))) wv)
def impl_WeightsOk (a0 : Option Addr) (a1 a2 : Nat) (w : World) (R : Value -> World -> Prop) : Prop :=
 ((decide ((((a1 : Nat) : Int) : Int) < 1)) = true ->
 (true = true ->
 R (.bool false) w) /\
 (true = false ->
 impl_WeightsOk_j0 a0 a1 w R)) /\
 ((decide ((((a1 : Nat) : Int) : Int) < 1)) = false ->
 ((decide ((30 : Int) < ((a1 : Nat) : Int))) = true ->
 R (.bool false) w) /\
 ((decide ((30 : Int) < ((a1 : Nat) : Int))) = false ->
 impl_WeightsOk_j0 a0 a1 w R))
theorem impl_WeightsOk_ret {a : Option Addr} {a0 a1 : Nat} (h : impl_WeightsOk a a0 a1 w R) : Ret P 36 [.slice a a0 a1] w R := Ret.of_fsem Tryz.func36 rfl (Eq.mp (show _ = fsem P Tryz.f36 (fun k => cond (Nat.beq k 6) [(3, .one (.int .i64)), (16, .one (.int .i64))] ([])) _ R w from by kernel_rfl) h)
def impl_IntOk (x0 : Bool) (a0 : Option Addr) (a1 a2 : Nat) (w : World) (R : Value -> World -> Prop) : Prop :=
 ∀ r wv, New w (.cells ⟨[.bool x0, .slice a0 a1 a2]⟩ 29 (0, 0)) r wv ->
 ∃ a3 a4 a5, Loads P 22 ((⟨r, 0, none⟩ : Addr).add 1) (.slice a3 a4 a5) wv /\ Calls P 69 ⟨[.slice a3 a4 a5]⟩ wv fun e a6 =>
 ∃ t5, e = .returned (.bool t5) /\
 (t5 = true ->
 ∃ t8, Loads P 4 ((⟨r, 0, none⟩ : Addr).add 0) (.bool t8) a6 /\ ((!t8) = true ->
 R (.bool true) a6) /\
 ((!t8) = false ->
 ∃ a7 a8 a9, Loads P 22 ((⟨r, 0, none⟩ : Addr).add 1) (.slice a7 a8 a9) a6 /\ R (.bool (decide ((0 : Int) < ((a8 : Nat) : Int)))) a6)) /\
 (t5 = false ->
 R (.bool false) a6)
theorem impl_IntOk_ret {x0 : Bool} {a : Option Addr} {a0 a1 : Nat} (h : impl_IntOk x0 a a0 a1 w R) : Ret P 37 [.agg #[.bool x0, .slice a a0 a1]] w R := Ret.of_fsem Tryz.func37 rfl (Eq.mp (show _ = fsem P Tryz.f37 (fun k => []) _ R w from by kernel_rfl) h)
def impl_NatOf (n : Int) (w : World) (R : Value -> World -> Prop) : Prop :=
 ((decide ((n : Int) < 0)) = true ->
 R (.slice none 0 0) w) /\
 ((decide ((n : Int) < 0)) = false ->
 ∃ t6 : Int, t6 = IntKind.wrap .u64 n /\ Calls P 70 ⟨[.int .u64 t6]⟩ w fun e wv =>
 ∃ a0 a1 a2, e = .returned (.slice a0 a1 a2) /\
 R (.slice a0 a1 a2) wv)
theorem impl_NatOf_ret {n : Int} (h : impl_NatOf n w R) : Ret P 38 [.int .i64 n] w R := Ret.of_fsem Tryz.func38 rfl (Eq.mp (show _ = fsem P Tryz.f38 (fun k => []) _ R w from by kernel_rfl) h)
def impl_sumInts (a0 : Option Addr) (a1 a2 : Nat) (w : World) (R : Value -> World -> Prop) : Prop :=
 ∃ (a3 : Int -> Int -> World -> Prop) (mu : Int -> Int -> World -> Nat), a3 0 0 w /\
 ∀ (a4 : Fr) (wv : World) (total t8 : Int), a3 total t8 wv ->
 ((decide ((t8 : Int) < ((a1 : Nat) : Int))) = true ->
 (0 <= (t8 : Int) /\ (t8 : Int) < (a1 : Nat)) /\ ptrS a0 fun ad => ∃ a5, Loads P 3 (ad.add (t8.toNat * 1)) (.int .i64 a5) wv /\ ∃ a6 : Int, a6 = IntKind.wrap .i64 (total + a5) /\ ∃ a7 : Int, a7 = IntKind.wrap .i64 (t8 + 1) /\ a3 a6 a7 wv /\ mu a6 a7 wv < mu total t8 wv) /\
 ((decide ((t8 : Int) < ((a1 : Nat) : Int))) = false ->
 R (.int .i64 total) wv)
theorem impl_sumInts_ret {a : Option Addr} {a0 a1 : Nat} (h : impl_sumInts a a0 a1 w R) : Ret P 39 [.slice a a0 a1] w R := Ret.of_fsem Tryz.func39 rfl (Eq.mp (show _ = fsem P Tryz.f39 (fun k => cond (Nat.beq k 4) [(3, .one (.int .i64)), (8, .one (.int .i64))] ([])) _ R w from by kernel_rfl) h)
def impl_natCopy (a0 : Option Addr) (a1 a2 : Nat) (w : World) (R : Value -> World -> Prop) : Prop :=
 ∀ r wv, New w (.cells ⟨[]⟩ 3 (0, 0)) r wv ->
 ∃ a3 a4 a5 a6, Appends P [22, 22] [(.slice (some ⟨r, 0, none⟩) 0 0), .slice a0 a1 a2] (.slice a3 a4 a5) wv a6 /\
 R (.slice a3 a4 a5) a6
theorem impl_natCopy_ret {a : Option Addr} {a0 a1 : Nat} (h : impl_natCopy a a0 a1 w R) : Ret P 40 [.slice a a0 a1] w R := Ret.of_fsem Tryz.func40 rfl (Eq.mp (show _ = fsem P Tryz.f40 (fun k => []) _ R w from by kernel_rfl) h)
end Go.Proofs.YtbgokfhcgcoipaaGreat
namespace Go.Proofs.YtbgokfhcgcoipaaGreat
variable {w : World} {R : Value -> World -> Prop}
open Go Go.Proofs.YtbgokfhcgcoipaaGreat.Sx
set_option maxRecDepth 100000
def impl_FairShare_j0 (a0 : Option Addr) (a1 a2 : Nat) (i : Int) (r a3 : Nat) (W : World) (R : Value -> World -> Prop) : Prop :=
 ∃ a4, (∀ wv_4, Ext W.drew wv_4 -> Loads P 4 ((⟨r, 0, none⟩ : Addr).add 0) (.bool a4) wv_4) /\ ∃ a5 a6 a7, (∀ wv_5, Ext W.drew wv_5 -> Loads P 22 ((⟨r, 0, none⟩ : Addr).add 1) (.slice a5 a6 a7) wv_5) /\ (0 <= (i : Int) /\ (i : Int) < (a1 : Nat)) /\ ptrS a0 fun ad => ∃ a8, (∀ wv_6, Ext W.drew wv_6 -> Loads P 3 (ad.add (i.toNat * 1)) (.int .i64 a8) wv_6) /\ Calls P 38 ⟨[.int .i64 a8]⟩ W.drew fun a9 aa =>
 ∃ ab ac ae, a9 = .returned (.slice ab ac ae) /\
 Ext W.drew aa /\ Calls P 43 ⟨[.slice a5 a6 a7, .slice ab ac ae]⟩ aa fun af ag =>
 ∃ ah ai aj, af = .returned (.slice ah ai aj) /\
 Ext aa ag /\ Calls P 52 ⟨[.bool a4, .slice ah ai aj]⟩ ag fun ak al =>
 ∃ am an ao ap, ak = .returned (.agg #[.bool am, .slice an ao ap]) /\
 Calls P 39 ⟨[.slice a0 a1 a2]⟩ al fun aq ar =>
 ∃ au, aq = .returned (.int .i64 au) /\
 Calls P 38 ⟨[.int .i64 au]⟩ ar fun av aw =>
 ∃ ax ay az, av = .returned (.slice ax ay az) /\
 Calls P 71 ⟨[.agg #[.bool am, .slice an ao ap], .slice ax ay az]⟩ aw fun b0 b1 =>
 ∃ b2 b3 b4 b5 b6 b7 b8 b9, b0 = .returned (.tuple #[.agg #[.bool b2, .slice b3 b4 b5, .slice b6 b7 b8], .bool b9]) /\
 ∃ wv_13, Stores P 44 ⟨a3, 0, none⟩ (.agg #[.bool b2, .slice b3 b4 b5, .slice b6 b7 b8]) b1 wv_13 /\
 ∃ r0_1 ba bb bc bd be bf, Loads P 44 ⟨a3, 0, none⟩ (.agg #[.bool r0_1, .slice ba bb bc, .slice bd be bf]) wv_13 /\ R (.tuple #[.agg #[.bool r0_1, .slice ba bb bc, .slice bd be bf], .bool b9]) wv_13
abbrev impl_FairShare_z0 (q : Nat) (x : World) (R : Value -> World -> Prop) : Prop :=
 ∃ y, Stores P 44 ⟨q, 0, none⟩ (.agg #[.bool false, .slice none 0 0, .slice none 0 0]) x y /\ ∃ r0 a9 aa ab ac ae af, Loads P 44 ⟨q, 0, none⟩ (.agg #[.bool r0, .slice a9 aa ab, .slice ac ae af]) y /\ R (.tuple #[.agg #[.bool r0, .slice a9 aa ab, .slice ac ae af], .bool false]) y
def impl_FairShare (x0 : Bool) (a0 : Option Addr) (a1 a2 : Nat) (a3 : Option Addr) (a4 a5 : Nat) (i : Int) (w : World) (R : Value -> World -> Prop) : Prop :=
 ∀ r wv, New w (.cells ⟨[.bool x0, .slice a0 a1 a2]⟩ 29 (0, 0)) r wv ->
 ∀ a6 a7, New wv (.cells ⟨[.bool false, .slice none 0 0, .slice none 0 0]⟩ 44 (0, 0)) a6 a7 ->
 Calls P 36 ⟨[.slice a3 a4 a5]⟩ a7 fun e a8 =>
 ∃ t9, e = .returned (.bool t9) /\
 ((!t9) = true ->
 (true = true ->
 (true = true ->
 (true = true ->
 impl_FairShare_z0 a6 a8 R) /\
 (true = false ->
 impl_FairShare_j0 a3 a4 a5 i r a6 a8 R)) /\
 (true = false ->
 ∃ ag ah ai aj, Loads P 29 ⟨r, 0, none⟩ (.agg #[.bool ag, .slice ah ai aj]) a8 /\ Calls P 37 ⟨[.agg #[.bool ag, .slice ah ai aj]]⟩ a8 fun ak al =>
 ∃ am, ak = .returned (.bool am) /\
 ((!am) = true ->
 impl_FairShare_z0 a6 al R) /\
 ((!am) = false ->
 impl_FairShare_j0 a3 a4 a5 i r a6 al R))) /\
 (true = false ->
 ((decide ((((a4 : Nat) : Int) : Int) <= i)) = true ->
 (true = true ->
 impl_FairShare_z0 a6 a8 R) /\
 (true = false ->
 impl_FairShare_j0 a3 a4 a5 i r a6 a8 R)) /\
 ((decide ((((a4 : Nat) : Int) : Int) <= i)) = false ->
 ∃ b1 b2 b3 b4, Loads P 29 ⟨r, 0, none⟩ (.agg #[.bool b1, .slice b2 b3 b4]) a8 /\ Calls P 37 ⟨[.agg #[.bool b1, .slice b2 b3 b4]]⟩ a8 fun b5 b6 =>
 ∃ b7, b5 = .returned (.bool b7) /\
 ((!b7) = true ->
 impl_FairShare_z0 a6 b6 R) /\
 ((!b7) = false ->
 impl_FairShare_j0 a3 a4 a5 i r a6 b6 R)))) /\
 ((!t9) = false ->
 ((decide ((i : Int) < 0)) = true ->
 (true = true ->
 (true = true ->
 impl_FairShare_z0 a6 a8 R) /\
 (true = false ->
 impl_FairShare_j0 a3 a4 a5 i r a6 a8 R)) /\
 (true = false ->
 ∃ bk bl bm bn, Loads P 29 ⟨r, 0, none⟩ (.agg #[.bool bk, .slice bl bm bn]) a8 /\ Calls P 37 ⟨[.agg #[.bool bk, .slice bl bm bn]]⟩ a8 fun bo bp =>
 ∃ bq, bo = .returned (.bool bq) /\
 ((!bq) = true ->
 impl_FairShare_z0 a6 bp R) /\
 ((!bq) = false ->
 impl_FairShare_j0 a3 a4 a5 i r a6 bp R))) /\
 ((decide ((i : Int) < 0)) = false ->
 ((decide ((((a4 : Nat) : Int) : Int) <= i)) = true ->
 (true = true ->
 impl_FairShare_z0 a6 a8 R) /\
 (true = false ->
 impl_FairShare_j0 a3 a4 a5 i r a6 a8 R)) /\
 ((decide ((((a4 : Nat) : Int) : Int) <= i)) = false ->
 ∃ c4 c5 c6 c7, Loads P 29 ⟨r, 0, none⟩ (.agg #[.bool c4, .slice c5 c6 c7]) a8 /\ Calls P 37 ⟨[.agg #[.bool c4, .slice c5 c6 c7]]⟩ a8 fun c8 c9 =>
 ∃ ca, c8 = .returned (.bool ca) /\
 ((!ca) = true ->
 impl_FairShare_z0 a6 c9 R) /\
 ((!ca) = false ->
 impl_FairShare_j0 a3 a4 a5 i r a6 c9 R))))
theorem impl_FairShare_ret {x0 : Bool} {a : Option Addr} {a0 a1 : Nat} {a2 : Option Addr} {a3 a4 : Nat} {i : Int} (h : impl_FairShare x0 a a0 a1 a2 a3 a4 i w R) : Ret P 41 [.agg #[.bool x0, .slice a a0 a1], .slice a2 a3 a4, .int .i64 i] w R := Ret.of_fsem Tryz.func41 rfl (Eq.mp (show _ = fsem P Tryz.f41 (fun k => []) _ R w from by kernel_rfl) h)
def impl_natDiv (a0 : Option Addr) (a1 a2 : Nat) (a3 : Option Addr) (a4 a5 : Nat) (w : World) (R : Value -> World -> Prop) : Prop :=
 Calls P 48 ⟨[.slice a0 a1 a2, .slice a3 a4 a5]⟩ w fun e wv =>
 ∃ a6, e = .returned (.int .i64 a6) /\
 ((decide ((a6 : Int) < 0)) = true ->
 ∀ r a7, New wv (.cells ⟨[]⟩ 3 (0, 0)) r a7 ->
 Calls P 40 ⟨[.slice a0 a1 a2]⟩ a7 fun a8 a9 =>
 ∃ aa ab ac, a8 = .returned (.slice aa ab ac) /\
 R (.tuple #[(.slice (some ⟨r, 0, none⟩) 0 0), .slice aa ab ac]) a9) /\
 ((decide ((a6 : Int) < 0)) = false ->
 ((decide ((((a4 : Nat) : Int) : Int) = 1)) = true ->
 (0 <= (0 : Int) /\ (0 : Int) < (a4 : Nat)) /\ ptrS a3 fun ad => ∃ ae, Loads P 3 (ad.add (0 * 1)) (.int .i64 ae) wv /\ Calls P 72 ⟨[.slice a0 a1 a2, .int .i64 ae]⟩ wv fun af ag =>
 ∃ ah ai aj ak, af = .returned (.tuple #[.slice ah ai aj, .int .i64 ak]) /\
 Calls P 38 ⟨[.int .i64 ak]⟩ ag fun al am =>
 ∃ an ao ap, al = .returned (.slice an ao ap) /\
 R (.tuple #[.slice ah ai aj, .slice an ao ap]) am) /\
 ((decide ((((a4 : Nat) : Int) : Int) = 1)) = false ->
 ∃ aq : Int, aq = IntKind.wrap .i64 (((a4 : Nat) : Int) - 1) /\ (0 <= (aq : Int) /\ (aq : Int) < (a4 : Nat)) /\ ptrS a3 fun ar => ∃ au, Loads P 3 (ar.add (aq.toNat * 1)) (.int .i64 au) wv /\ ∃ av : Int, av = IntKind.wrap .i64 (au + 1) /\ (av : Int) ≠ 0 /\ ∃ aw : Int, aw = IntKind.wrap .i64 (Int.tdiv 1000000000 av) /\ ∀ ax ay, New wv (.cells ⟨[.int .i64 aw]⟩ 3 (0, 0)) ax ay ->
 Calls P 43 ⟨[.slice a0 a1 a2, (.slice (some ⟨ax, 0, none⟩) 1 1)]⟩ ay fun az b0 =>
 ∃ b1 b2 b3, az = .returned (.slice b1 b2 b3) /\
 ∀ b4 b5, New b0 (.cells ⟨[.int .i64 aw]⟩ 3 (0, 0)) b4 b5 ->
 Calls P 43 ⟨[.slice a3 a4 a5, (.slice (some ⟨b4, 0, none⟩) 1 1)]⟩ b5 fun b6 b7 =>
 ∃ b8 b9 ba, b6 = .returned (.slice b8 b9 ba) /\
 ∃ (bb : Option Addr -> Nat -> Nat -> World -> Prop) (mu : Option Addr -> Nat -> Nat -> World -> Nat), bb b1 b2 b3 b7 /\
 ∀ (bc : Fr) (bd : World) (be : Option Addr) (bf bg : Nat), bb be bf bg bd ->
 ((decide ((((bf : Nat) : Int) : Int) <= ((a1 : Nat) : Int))) = true ->
 ∀ bh bi, New bd (.cells ⟨[.int .i64 0]⟩ 3 (0, 0)) bh bi ->
 ∃ bj bk bl bm, Appends P [22, 22] [.slice be bf bg, (.slice (some ⟨bh, 0, none⟩) 1 1)] (.slice bj bk bl) bi bm /\
 bb bj bk bl bm /\ mu bj bk bl bm < mu be bf bg bd) /\
 ((decide ((((bf : Nat) : Int) : Int) <= ((a1 : Nat) : Int))) = false ->
 ∃ bn : Int, bn = IntKind.wrap .i64 (((bf : Nat) : Int) - ((b9 : Nat) : Int)) /\ (0 <= (bn : Int) /\ (bn : Int) <= bn /\ ((8 : Nat) : Int) * bn <= 281474976710656) /\
 ∀ bo bp, New bd (.cells ⟨zeroRow (.int .i64 0) (bn.toNat * 1)⟩ 3 (0, 0)) bo bp ->
 ∃ bq : Int, bq = IntKind.wrap .i64 (((bn.toNat : Nat) : Int) - 1) /\ ∃ (br : Int -> World -> Prop) (bs : Int -> World -> Nat), br bq bp /\
 ∀ (bt : Fr) (bu : World) (j : Int), br j bu ->
 ((decide ((0 : Int) <= j)) = true ->
 ∃ bv : Int, bv = IntKind.wrap .i64 (j + ((b9 : Nat) : Int)) /\ ∃ bw : Int, bw = IntKind.wrap .i64 (bv + 1) /\ (0 <= (bw : Int) /\ (bw : Int) <= (bg : Nat)) /\ (0 <= (j : Int) /\ (j : Int) <= (bw.toNat : Nat)) /\ Calls P 73 ⟨[(.slice (sub be j.toNat bg 1) (bw.toNat - j.toNat) (bg - j.toNat)), .slice b8 b9 ba]⟩ bu fun bx bz =>
 ∃ c0, bx = .returned (.int .i64 c0) /\
 (0 <= (j : Int) /\ (j : Int) < (bn.toNat : Nat)) /\ ∃ wv_15, Stores P 3 ((⟨bo, 0, none⟩ : Addr).add (j.toNat * 1)) (.int .i64 c0) bz wv_15 /\
 ∃ c1 : Int, c1 = IntKind.wrap .i64 (j - 1) /\ br c1 wv_15 /\ bs c1 wv_15 < bs j bu) /\
 ((decide ((0 : Int) <= j)) = false ->
 Calls P 74 ⟨[.slice be bf bg]⟩ bu fun c2 c3 =>
 ∃ c4 c5 c6, c2 = .returned (.slice c4 c5 c6) /\
 Calls P 72 ⟨[.slice c4 c5 c6, .int .i64 aw]⟩ c3 fun c7 c8 =>
 ∃ c9 ca cb cc, c7 = .returned (.tuple #[.slice c9 ca cb, .int .i64 cc]) /\
 Calls P 74 ⟨[(.slice (some ⟨bo, 0, none⟩) bn.toNat bn.toNat)]⟩ c8 fun cd ce =>
 ∃ cf cg ch, cd = .returned (.slice cf cg ch) /\
 R (.tuple #[.slice cf cg ch, .slice c9 ca cb]) ce))))
theorem impl_natDiv_ret {a : Option Addr} {a0 a1 : Nat} {a2 : Option Addr} {a3 a4 : Nat} (h : impl_natDiv a a0 a1 a2 a3 a4 w R) : Ret P 42 [.slice a a0 a1, .slice a2 a3 a4] w R := Ret.of_fsem Tryz.func42 rfl (Eq.mp (show _ = fsem P Tryz.f42 (fun k => cond (Nat.beq k 10) [(9, .one .slice)] (cond (Nat.beq k 15) [(13, .one (.int .i64))] ([]))) _ R w from by kernel_rfl) h)
def impl_natMul (a0 : Option Addr) (a1 a2 : Nat) (a3 : Option Addr) (a4 a5 : Nat) (w : World) (R : Value -> World -> Prop) : Prop :=
 ∃ a6 : Int, a6 = IntKind.wrap .i64 (((a1 : Nat) : Int) + ((a4 : Nat) : Int)) /\ ∃ a7 : Int, a7 = IntKind.wrap .i64 (a6 + 1) /\ (0 <= (a7 : Int) /\ (a7 : Int) <= a7 /\ ((8 : Nat) : Int) * a7 <= 281474976710656) /\
 ∀ r wv, New w (.cells ⟨zeroRow (.int .i64 0) (a7.toNat * 1)⟩ 3 (0, 0)) r wv ->
 ∃ (a8 : Int -> World -> Prop) (mu : Int -> World -> Nat), a8 0 wv /\
 ∀ (a9 : Fr) (aa : World) (ab : Int), a8 ab aa ->
 ((decide ((ab : Int) < ((a1 : Nat) : Int))) = true ->
 (0 <= (ab : Int) /\ (ab : Int) < (a1 : Nat)) /\ ptrS a0 fun ad => ∃ ac, Loads P 3 (ad.add (ab.toNat * 1)) (.int .i64 ac) aa /\ ∃ (ae : Int -> Int -> World -> Prop) (af : Int -> Int -> World -> Nat), ae 0 0 aa /\
 ∀ (ag : Fr) (ah : World) (carry ai : Int), ae carry ai ah ->
 ((decide ((ai : Int) < ((a4 : Nat) : Int))) = true ->
 (0 <= (ai : Int) /\ (ai : Int) < (a4 : Nat)) /\ ptrS a3 fun aj => ∃ ak, Loads P 3 (aj.add (ai.toNat * 1)) (.int .i64 ak) ah /\ ∃ al : Int, al = IntKind.wrap .i64 (ab + ai) /\ (0 <= (al : Int) /\ (al : Int) < (a7.toNat : Nat)) /\ ∃ am, Loads P 3 ((⟨r, 0, none⟩ : Addr).add (al.toNat * 1)) (.int .i64 am) ah /\ ∃ an : Int, an = IntKind.wrap .i64 (ac * ak) /\ ∃ ao : Int, ao = IntKind.wrap .i64 (am + an) /\ ∃ ap : Int, ap = IntKind.wrap .i64 (carry + ao) /\ ∃ aq : Int, aq = IntKind.wrap .i64 (ab + ai) /\ (1000000000 : Int) ≠ 0 /\ ∃ ar : Int, ar = Int.tmod ap 1000000000 /\ (0 <= (aq : Int) /\ (aq : Int) < (a7.toNat : Nat)) /\ ∃ wv_3, Stores P 3 ((⟨r, 0, none⟩ : Addr).add (aq.toNat * 1)) (.int .i64 ar) ah wv_3 /\
 (1000000000 : Int) ≠ 0 /\ ∃ au : Int, au = IntKind.wrap .i64 (Int.tdiv ap 1000000000) /\ ∃ av : Int, av = IntKind.wrap .i64 (ai + 1) /\ ae au av wv_3 /\ af au av wv_3 < af carry ai ah) /\
 ((decide ((ai : Int) < ((a4 : Nat) : Int))) = false ->
 ∃ aw : Int, aw = IntKind.wrap .i64 (ab + ((a4 : Nat) : Int)) /\ ∃ (ax : Int -> Int -> World -> Prop) (ay : Int -> Int -> World -> Nat), ax carry aw ah /\
 ∀ (az : Fr) (b0 : World) (carry_1 k : Int), ax carry_1 k b0 ->
 ((decide ((0 : Int) < carry_1)) = true ->
 (0 <= (k : Int) /\ (k : Int) < (a7.toNat : Nat)) /\ ∃ b1, Loads P 3 ((⟨r, 0, none⟩ : Addr).add (k.toNat * 1)) (.int .i64 b1) b0 /\ ∃ b2 : Int, b2 = IntKind.wrap .i64 (carry_1 + b1) /\ (1000000000 : Int) ≠ 0 /\ ∃ b3 : Int, b3 = Int.tmod b2 1000000000 /\ (0 <= (k : Int) /\ (k : Int) < (a7.toNat : Nat)) /\ ∃ wv_5, Stores P 3 ((⟨r, 0, none⟩ : Addr).add (k.toNat * 1)) (.int .i64 b3) b0 wv_5 /\
 (1000000000 : Int) ≠ 0 /\ ∃ b4 : Int, b4 = IntKind.wrap .i64 (Int.tdiv b2 1000000000) /\ ∃ b5 : Int, b5 = IntKind.wrap .i64 (k + 1) /\ ax b4 b5 wv_5 /\ ay b4 b5 wv_5 < ay carry_1 k b0) /\
 ((decide ((0 : Int) < carry_1)) = false ->
 ∃ b6 : Int, b6 = IntKind.wrap .i64 (ab + 1) /\ a8 b6 b0 /\ mu b6 b0 < mu ab aa))) /\
 ((decide ((ab : Int) < ((a1 : Nat) : Int))) = false ->
 Calls P 74 ⟨[(.slice (some ⟨r, 0, none⟩) a7.toNat a7.toNat)]⟩ aa fun e b7 =>
 ∃ b8 b9 ba, e = .returned (.slice b8 b9 ba) /\
 R (.slice b8 b9 ba) b7)
theorem impl_natMul_ret {a : Option Addr} {a0 a1 : Nat} {a2 : Option Addr} {a3 a4 : Nat} (h : impl_natMul a a0 a1 a2 a3 a4 w R) : Ret P 43 [.slice a a0 a1, .slice a2 a3 a4] w R := Ret.of_fsem Tryz.func43 rfl (Eq.mp (show _ = fsem P Tryz.f43 (fun k => cond (Nat.beq k 4) [(21, .one (.int .i64))] (cond (Nat.beq k 8) [(8, .one (.int .i64)), (28, .one (.int .i64))] (cond (Nat.beq k 15) [(8, .one (.int .i64)), (11, .one (.int .i64))] ([])))) _ R w from by kernel_rfl) h)
def impl_natSub_j1 (a0 r : Nat) (a1 : World) (a2 : Int -> Int -> World -> Prop) (mu : Int -> Int -> World -> Nat) (borrow a3 : Int) (borrow_1 n_1 : Int) (a4 : World) (R : Value -> World -> Prop) : Prop :=
 (0 <= (a3 : Int) /\ (a3 : Int) < (a0 : Nat)) /\ ∃ wv_2, Stores P 3 ((⟨r, 0, none⟩ : Addr).add (a3.toNat * 1)) (.int .i64 n_1) a4 wv_2 /\
 ∃ a5 : Int, a5 = IntKind.wrap .i64 (a3 + 1) /\ a2 borrow_1 a5 wv_2 /\ mu borrow_1 a5 wv_2 < mu borrow a3 a1
def impl_natSub_j0 (a0 r : Nat) (a1 : World) (a2 : Int -> Int -> World -> Prop) (mu : Int -> Int -> World -> Nat) (borrow a3 n : Int) (W : World) (R : Value -> World -> Prop) : Prop :=
 ((decide ((n : Int) < 0)) = true ->
 ∃ a4 : Int, a4 = IntKind.wrap .i64 (n + 1000000000) /\ impl_natSub_j1 a0 r a1 a2 mu borrow a3 1 a4 W R) /\
 ((decide ((n : Int) < 0)) = false ->
 impl_natSub_j1 a0 r a1 a2 mu borrow a3 0 n W R)
def impl_natSub (a0 : Option Addr) (a1 a2 : Nat) (a3 : Option Addr) (a4 a5 : Nat) (w : World) (R : Value -> World -> Prop) : Prop :=
 (0 <= (((a1 : Nat) : Int) : Int) /\ (((a1 : Nat) : Int) : Int) <= ((a1 : Nat) : Int) /\ ((8 : Nat) : Int) * ((a1 : Nat) : Int) <= 281474976710656) /\
 ∀ r wv, New w (.cells ⟨zeroRow (.int .i64 0) (a1 * 1)⟩ 3 (0, 0)) r wv ->
 ∃ (a6 : Int -> Int -> World -> Prop) (mu : Int -> Int -> World -> Nat), a6 0 0 wv /\
 ∀ (a7 : Fr) (a8 : World) (borrow a9 : Int), a6 borrow a9 a8 ->
 ((decide ((a9 : Int) < ((a1 : Nat) : Int))) = true ->
 (0 <= (a9 : Int) /\ (a9 : Int) < (a1 : Nat)) /\ ptrS a0 fun ad => ∃ aa, Loads P 3 (ad.add (a9.toNat * 1)) (.int .i64 aa) a8 /\ ∃ ab : Int, ab = IntKind.wrap .i64 (aa - borrow) /\ ((decide ((a9 : Int) < ((a4 : Nat) : Int))) = true ->
 (0 <= (a9 : Int) /\ (a9 : Int) < (a4 : Nat)) /\ ptrS a3 fun ac => ∃ ae, Loads P 3 (ac.add (a9.toNat * 1)) (.int .i64 ae) a8 /\ ∃ af : Int, af = IntKind.wrap .i64 (ab - ae) /\ impl_natSub_j0 a1 r a8 a6 mu borrow a9 af a8 R) /\
 ((decide ((a9 : Int) < ((a4 : Nat) : Int))) = false ->
 impl_natSub_j0 a1 r a8 a6 mu borrow a9 ab a8 R)) /\
 ((decide ((a9 : Int) < ((a1 : Nat) : Int))) = false ->
 Calls P 74 ⟨[(.slice (some ⟨r, 0, none⟩) a1 a1)]⟩ a8 fun e ag =>
 ∃ ah ai aj, e = .returned (.slice ah ai aj) /\
 R (.slice ah ai aj) ag)
theorem impl_natSub_ret {a : Option Addr} {a0 a1 : Nat} {a2 : Option Addr} {a3 a4 : Nat} (h : impl_natSub a a0 a1 a2 a3 a4 w R) : Ret P 44 [.slice a a0 a1, .slice a2 a3 a4] w R := Ret.of_fsem Tryz.func44 rfl (Eq.mp (show _ = fsem P Tryz.f44 (fun k => cond (Nat.beq k 5) [(6, .one (.int .i64)), (14, .one (.int .i64))] ([])) _ R w from by kernel_rfl) h)
def impl_sortBy_impl_part (a0 : Option Addr) (a1 a2 : Nat) (compare : Value) (w : World) (R : Value -> World -> Prop) : Prop :=
 Calls P 75 ⟨[.slice a0 a1 a2]⟩ w fun e wv =>
 ∃ a3 a4 a5, e = .returned (.slice a3 a4 a5) /\
 Calls P 76 ⟨[.slice a3 a4 a5, compare]⟩ wv fun a6 a7 =>
 a6 = .returned (.tuple #[]) /\
 R (.slice a3 a4 a5) a7
theorem impl_sortBy_impl_part_ret {a : Option Addr} {a0 a1 : Nat} {a2 : Value} (h : impl_sortBy_impl_part a a0 a1 a2 w R) : Ret P 45 [.slice a a0 a1, a2] w R := Ret.of_fsem Tryz.func45 rfl (Eq.mp (show _ = fsem P Tryz.f45 (fun k => []) _ R w from by kernel_rfl) h)
def impl_Shares_1 (a0 : Int) (a1 : Option Addr) (a2 a3 : Nat) (b0 : Int) (a4 : Option Addr) (a5 a6 : Nat) (w : World) (R : Value -> World -> Prop) : Prop :=
 ∀ r wv, New w (.cells ⟨[.int .i64 a0, .slice a1 a2 a3]⟩ 69 (0, 0)) r wv ->
 ∀ a7 a8, New wv (.cells ⟨[.int .i64 b0, .slice a4 a5 a6]⟩ 69 (0, 0)) a7 a8 ->
 ∃ a9 aa ab, (∀ wv_2, Ext a8.drew wv_2 -> Loads P 22 ((⟨a7, 0, none⟩ : Addr).add 1) (.slice a9 aa ab) wv_2) /\ ∃ ac ae af, (∀ wv_3, Ext a8.drew wv_3 -> Loads P 22 ((⟨r, 0, none⟩ : Addr).add 1) (.slice ac ae af) wv_3) /\ Calls P 48 ⟨[.slice a9 aa ab, .slice ac ae af]⟩ a8.drew fun e ag =>
 ∃ t9, e = .returned (.int .i64 t9) /\
 Ext a8.drew ag /\ ∃ ah, (∀ wv_5, Ext a8.drew wv_5 -> Loads P 3 ((⟨r, 0, none⟩ : Addr).add 0) (.int .i64 ah) wv_5) /\ ∃ ai, (∀ wv_6, Ext a8.drew wv_6 -> Loads P 3 ((⟨a7, 0, none⟩ : Addr).add 0) (.int .i64 ai) wv_6) /\ Calls P 49 ⟨[.int .i64 ah, .int .i64 ai]⟩ ag fun aj ak =>
 ∃ al, aj = .returned (.int .i64 al) /\
 ∀ am an, New ak (.cells ⟨[.int .i64 t9, .int .i64 al]⟩ 3 (0, 0)) am an ->
 Calls P 47 ⟨[(.slice (some ⟨am, 0, none⟩) 2 2)]⟩ an fun ao ap =>
 ∃ aq, ao = .returned (.int .i64 aq) /\
 R (.int .i64 aq) ap
theorem impl_Shares_1_ret {a0 : Int} {a : Option Addr} {a1 a2 : Nat} {b0 : Int} {a3 : Option Addr} {a4 a5 : Nat} (h : impl_Shares_1 a0 a a1 a2 b0 a3 a4 a5 w R) : Ret P 46 [.agg #[.int .i64 a0, .slice a a1 a2], .agg #[.int .i64 b0, .slice a3 a4 a5]] w R := Ret.of_fsem Tryz.func46 rfl (Eq.mp (show _ = fsem P Tryz.f46 (fun k => []) _ R w from by kernel_rfl) h)
def cmp_Or_int (a0 : Option Addr) (a1 a2 : Nat) (w : World) (R : Value -> World -> Prop) : Prop :=
 ∃ (a3 : Int -> World -> Prop) (mu : Int -> World -> Nat), a3 0 w /\
 ∀ (a4 : Fr) (wv : World) (t8 : Int), a3 t8 wv ->
 ((decide ((t8 : Int) < ((a1 : Nat) : Int))) = true ->
 (0 <= (t8 : Int) /\ (t8 : Int) < (a1 : Nat)) /\ ptrS a0 fun ad => ∃ a5, Loads P 3 (ad.add (t8.toNat * 1)) (.int .i64 a5) wv /\ ((decide ((a5 : Int) ≠ 0)) = true ->
 R (.int .i64 a5) wv) /\
 ((decide ((a5 : Int) ≠ 0)) = false ->
 ∃ a6 : Int, a6 = IntKind.wrap .i64 (t8 + 1) /\ a3 a6 wv /\ mu a6 wv < mu t8 wv)) /\
 ((decide ((t8 : Int) < ((a1 : Nat) : Int))) = false ->
 R (.int .i64 0) wv)
theorem cmp_Or_int_ret {a : Option Addr} {a0 a1 : Nat} (h : cmp_Or_int a a0 a1 w R) : Ret P 47 [.slice a a0 a1] w R := Ret.of_fsem Tryz.func47 rfl (Eq.mp (show _ = fsem P Tryz.f47 (fun k => cond (Nat.beq k 4) [(8, .one (.int .i64))] ([])) _ R w from by kernel_rfl) h)
def impl_natCmp (a0 : Option Addr) (a1 a2 : Nat) (a3 : Option Addr) (a4 a5 : Nat) (w : World) (R : Value -> World -> Prop) : Prop :=
 ((decide ((((a1 : Nat) : Int) : Int) ≠ ((a4 : Nat) : Int))) = true ->
 ((decide ((((a1 : Nat) : Int) : Int) < ((a4 : Nat) : Int))) = true ->
 R (.int .i64 (-1)) w) /\
 ((decide ((((a1 : Nat) : Int) : Int) < ((a4 : Nat) : Int))) = false ->
 R (.int .i64 1) w)) /\
 ((decide ((((a1 : Nat) : Int) : Int) ≠ ((a4 : Nat) : Int))) = false ->
 ∃ a6 : Int, a6 = IntKind.wrap .i64 (((a1 : Nat) : Int) - 1) /\ ∃ (a7 : Int -> World -> Prop) (mu : Int -> World -> Nat), a7 a6 w /\
 ∀ (a8 : Fr) (wv : World) (i : Int), a7 i wv ->
 ((decide ((0 : Int) <= i)) = true ->
 (0 <= (i : Int) /\ (i : Int) < (a1 : Nat)) /\ ptrS a0 fun ad => ∃ a9, (∀ wv_1, Ext wv.drew wv_1 -> Loads P 3 (ad.add (i.toNat * 1)) (.int .i64 a9) wv_1) /\ (0 <= (i : Int) /\ (i : Int) < (a4 : Nat)) /\ ptrS a3 fun aa => ∃ ab, (∀ wv_2, Ext wv.drew wv_2 -> Loads P 3 (aa.add (i.toNat * 1)) (.int .i64 ab) wv_2) /\ ((decide ((a9 : Int) ≠ ab)) = true ->
 (0 <= (i : Int) /\ (i : Int) < (a1 : Nat)) /\ ptrS a0 fun ac => ∃ ae, (∀ wv_3, Ext wv.drew.drew wv_3 -> Loads P 3 (ac.add (i.toNat * 1)) (.int .i64 ae) wv_3) /\ (0 <= (i : Int) /\ (i : Int) < (a4 : Nat)) /\ ptrS a3 fun af => ∃ ag, (∀ wv_4, Ext wv.drew.drew wv_4 -> Loads P 3 (af.add (i.toNat * 1)) (.int .i64 ag) wv_4) /\ ((decide ((ae : Int) < ag)) = true ->
 R (.int .i64 (-1)) wv.drew.drew) /\
 ((decide ((ae : Int) < ag)) = false ->
 R (.int .i64 1) wv.drew.drew)) /\
 ((decide ((a9 : Int) ≠ ab)) = false ->
 ∃ ah : Int, ah = IntKind.wrap .i64 (i - 1) /\ a7 ah wv.drew /\ mu ah wv.drew < mu i wv)) /\
 ((decide ((0 : Int) <= i)) = false ->
 R (.int .i64 0) wv))
theorem impl_natCmp_ret {a : Option Addr} {a0 a1 : Nat} {a2 : Option Addr} {a3 a4 : Nat} (h : impl_natCmp a a0 a1 a2 a3 a4 w R) : Ret P 48 [.slice a a0 a1, .slice a2 a3 a4] w R := Ret.of_fsem Tryz.func48 rfl (Eq.mp (show _ = fsem P Tryz.f48 (fun k => cond (Nat.beq k 7) [(5, .one (.int .i64))] ([])) _ R w from by kernel_rfl) h)
def cmp_Compare_int (x y : Int) (w : World) (R : Value -> World -> Prop) : Prop :=
 Calls P 77 ⟨[.int .i64 x]⟩ w fun e wv =>
 ∃ t8, e = .returned (.bool t8) /\
 Calls P 77 ⟨[.int .i64 y]⟩ wv fun a0 a1 =>
 ∃ a2, a0 = .returned (.bool a2) /\
 (t8 = true ->
 (a2 = true ->
 R (.int .i64 0) a1) /\
 (a2 = false ->
 R (.int .i64 (-1)) a1)) /\
 (t8 = false ->
 (a2 = true ->
 R (.int .i64 1) a1) /\
 (a2 = false ->
 ((decide ((x : Int) < y)) = true ->
 R (.int .i64 (-1)) a1) /\
 ((decide ((x : Int) < y)) = false ->
 ((decide ((y : Int) < x)) = true ->
 R (.int .i64 1) a1) /\
 ((decide ((y : Int) < x)) = false ->
 R (.int .i64 0) a1))))
theorem cmp_Compare_int_ret {x y : Int} (h : cmp_Compare_int x y w R) : Ret P 49 [.int .i64 x, .int .i64 y] w R := Ret.of_fsem Tryz.func49 rfl (Eq.mp (show _ = fsem P Tryz.f49 (fun k => []) _ R w from by kernel_rfl) h)
def impl_NatInt_j0 (a0 : Option Addr) (a1 : Nat) (W : World) (R : Value -> World -> Prop) : Prop :=
 ∃ a2 : Int, a2 = IntKind.wrap .i64 (((a1 : Nat) : Int) - 1) /\ ∃ (a3 : Int -> Int -> World -> Prop) (mu : Int -> Int -> World -> Nat), a3 0 a2 W /\
 ∀ (a4 : Fr) (a5 : World) (n i : Int), a3 n i a5 ->
 ((decide ((0 : Int) <= i)) = true ->
 ∃ a6 : Int, a6 = IntKind.wrap .i64 (n * 1000000000) /\ (0 <= (i : Int) /\ (i : Int) < (a1 : Nat)) /\ ptrS a0 fun ad => ∃ a7, Loads P 3 (ad.add (i.toNat * 1)) (.int .i64 a7) a5 /\ ∃ a8 : Int, a8 = IntKind.wrap .i64 (a6 + a7) /\ ∃ a9 : Int, a9 = IntKind.wrap .i64 (i - 1) /\ a3 a8 a9 a5 /\ mu a8 a9 a5 < mu n i a5) /\
 ((decide ((0 : Int) <= i)) = false ->
 R (.tuple #[.int .i64 n, .bool true]) a5)
def impl_NatInt (a0 : Option Addr) (a1 a2 : Nat) (w : World) (R : Value -> World -> Prop) : Prop :=
 Calls P 69 ⟨[.slice a0 a1 a2]⟩ w fun e wv =>
 ∃ t7, e = .returned (.bool t7) /\
 ((!t7) = true ->
 (true = true ->
 R (.tuple #[.int .i64 0, .bool false]) wv) /\
 (true = false ->
 impl_NatInt_j0 a0 a1 wv R)) /\
 ((!t7) = false ->
 Calls P 38 ⟨[.int .i64 9223372036854775807]⟩ wv fun a3 a4 =>
 ∃ a5 a6 a7, a3 = .returned (.slice a5 a6 a7) /\
 Calls P 48 ⟨[.slice a0 a1 a2, .slice a5 a6 a7]⟩ a4 fun a8 a9 =>
 ∃ aa, a8 = .returned (.int .i64 aa) /\
 ((decide ((0 : Int) < aa)) = true ->
 R (.tuple #[.int .i64 0, .bool false]) a9) /\
 ((decide ((0 : Int) < aa)) = false ->
 impl_NatInt_j0 a0 a1 a9 R))
theorem impl_NatInt_ret {a : Option Addr} {a0 a1 : Nat} (h : impl_NatInt a a0 a1 w R) : Ret P 50 [.slice a a0 a1] w R := Ret.of_fsem Tryz.func50 rfl (Eq.mp (show _ = fsem P Tryz.f50 (fun k => cond (Nat.beq k 6) [(4, .one (.int .i64)), (5, .one (.int .i64))] ([])) _ R w from by kernel_rfl) h)
def impl_natAdd_j1 (a0 : World) (a1 : Option Addr -> Nat -> Nat -> Int -> Int -> World -> Prop) (mu : Option Addr -> Nat -> Nat -> Int -> Int -> World -> Nat) (a2 : Option Addr) (a3 a4 : Nat) (carry i carry_2 : Int) (a5 : World) (R : Value -> World -> Prop) : Prop :=
 (1000000000 : Int) ≠ 0 /\ ∃ a6 : Int, a6 = Int.tmod carry_2 1000000000 /\ ∀ a7 a8, New a5 (.cells ⟨[.int .i64 a6]⟩ 3 (0, 0)) a7 a8 ->
 ∃ a9 aa ab ac, Appends P [22, 22] [.slice a2 a3 a4, (.slice (some ⟨a7, 0, none⟩) 1 1)] (.slice a9 aa ab) a8 ac /\
 (1000000000 : Int) ≠ 0 /\ ∃ ae : Int, ae = IntKind.wrap .i64 (Int.tdiv carry_2 1000000000) /\ ∃ af : Int, af = IntKind.wrap .i64 (i + 1) /\ a1 a9 aa ab ae af ac /\ mu a9 aa ab ae af ac < mu a2 a3 a4 carry i a0
def impl_natAdd_j0 (a0 : Option Addr) (a1 : Nat) (a2 : World) (a3 : Option Addr -> Nat -> Nat -> Int -> Int -> World -> Prop) (mu : Option Addr -> Nat -> Nat -> Int -> Int -> World -> Nat) (a4 : Option Addr) (a5 a6 : Nat) (carry i carry_1 : Int) (W : World) (R : Value -> World -> Prop) : Prop :=
 ((decide ((i : Int) < ((a1 : Nat) : Int))) = true ->
 (0 <= (i : Int) /\ (i : Int) < (a1 : Nat)) /\ ptrS a0 fun a7 => ∃ a8, Loads P 3 (a7.add (i.toNat * 1)) (.int .i64 a8) W /\ ∃ a9 : Int, a9 = IntKind.wrap .i64 (carry_1 + a8) /\ impl_natAdd_j1 a2 a3 mu a4 a5 a6 carry i a9 W R) /\
 ((decide ((i : Int) < ((a1 : Nat) : Int))) = false ->
 impl_natAdd_j1 a2 a3 mu a4 a5 a6 carry i carry_1 W R)
def impl_natAdd (a0 : Option Addr) (a1 a2 : Nat) (a3 : Option Addr) (a4 a5 : Nat) (w : World) (R : Value -> World -> Prop) : Prop :=
 ∃ a6 : Int, a6 = (if ((a4 : Nat) : Int) > ((a1 : Nat) : Int) then ((a4 : Nat) : Int) else ((a1 : Nat) : Int)) /\ ∃ a7 : Int, a7 = IntKind.wrap .i64 (a6 + 1) /\ (0 <= (0 : Int) /\ (0 : Int) <= a7 /\ ((8 : Nat) : Int) * a7 <= 281474976710656) /\
 ∀ r wv, New w (.cells ⟨zeroRow (.int .i64 0) (a7.toNat * 1)⟩ 3 (0, 0)) r wv ->
 ∃ (a8 : Option Addr -> Nat -> Nat -> Int -> Int -> World -> Prop) (mu : Option Addr -> Nat -> Nat -> Int -> Int -> World -> Nat), a8 (some ⟨r, 0, none⟩) 0 a7.toNat 0 0 wv /\
 ∀ (a9 : Fr) (aa : World) (ab : Option Addr) (ac ae : Nat) (carry i : Int), a8 ab ac ae carry i aa ->
 ∃ af : Int, af = (if ((a4 : Nat) : Int) > ((a1 : Nat) : Int) then ((a4 : Nat) : Int) else ((a1 : Nat) : Int)) /\ ((decide ((i : Int) < af)) = true ->
 ((decide ((i : Int) < ((a1 : Nat) : Int))) = true ->
 (0 <= (i : Int) /\ (i : Int) < (a1 : Nat)) /\ ptrS a0 fun ad => ∃ ag, Loads P 3 (ad.add (i.toNat * 1)) (.int .i64 ag) aa /\ ∃ ah : Int, ah = IntKind.wrap .i64 (carry + ag) /\ impl_natAdd_j0 a3 a4 aa a8 mu ab ac ae carry i ah aa R) /\
 ((decide ((i : Int) < ((a1 : Nat) : Int))) = false ->
 impl_natAdd_j0 a3 a4 aa a8 mu ab ac ae carry i carry aa R)) /\
 ((decide ((i : Int) < af)) = false ->
 ∀ ai aj, New aa (.cells ⟨[.int .i64 carry]⟩ 3 (0, 0)) ai aj ->
 ∃ ak al am an, Appends P [22, 22] [.slice ab ac ae, (.slice (some ⟨ai, 0, none⟩) 1 1)] (.slice ak al am) aj an /\
 Calls P 74 ⟨[.slice ak al am]⟩ an fun e ao =>
 ∃ ap aq ar, e = .returned (.slice ap aq ar) /\
 R (.slice ap aq ar) ao)
theorem impl_natAdd_ret {a : Option Addr} {a0 a1 : Nat} {a2 : Option Addr} {a3 a4 : Nat} (h : impl_natAdd a a0 a1 a2 a3 a4 w R) : Ret P 51 [.slice a a0 a1, .slice a2 a3 a4] w R := Ret.of_fsem Tryz.func51 rfl (Eq.mp (show _ = fsem P Tryz.f51 (fun k => cond (Nat.beq k 5) [(5, .one .slice), (6, .one (.int .i64)), (7, .one (.int .i64))] ([])) _ R w from by kernel_rfl) h)
def impl_signed (neg : Bool) (a0 : Option Addr) (a1 a2 : Nat) (w : World) (R : Value -> World -> Prop) : Prop :=
 ∀ r wv, New w (.cells ⟨[.bool false, .slice none 0 0]⟩ 29 (0, 0)) r wv ->
 (neg = true ->
 ∃ wv_1, Stores P 29 ⟨r, 0, none⟩ (.agg #[(.bool (decide ((0 : Int) < ((a1 : Nat) : Int)))), .slice a0 a1 a2]) wv wv_1 /\
 ∃ r0 a3 a4 a5, Loads P 29 ⟨r, 0, none⟩ (.agg #[.bool r0, .slice a3 a4 a5]) wv_1 /\ R (.agg #[.bool r0, .slice a3 a4 a5]) wv_1) /\
 (neg = false ->
 ∃ wv_2, Stores P 29 ⟨r, 0, none⟩ (.agg #[.bool false, .slice a0 a1 a2]) wv wv_2 /\
 ∃ r0_1 a6 a7 a8, Loads P 29 ⟨r, 0, none⟩ (.agg #[.bool r0_1, .slice a6 a7 a8]) wv_2 /\ R (.agg #[.bool r0_1, .slice a6 a7 a8]) wv_2)
theorem impl_signed_ret {a : Bool} {a0 : Option Addr} {a1 a2 : Nat} (h : impl_signed a a0 a1 a2 w R) : Ret P 52 [.bool a, .slice a0 a1 a2] w R := Ret.of_fsem Tryz.func52 rfl (Eq.mp (show _ = fsem P Tryz.f52 (fun k => []) _ R w from by kernel_rfl) h)
abbrev spec_l05Low_z0 (q : Nat) (x : World) (R : Value -> World -> Prop) : Prop :=
 ∃ y, Stores P 44 ⟨q, 0, none⟩ (.agg #[.bool false, .slice none 0 0, .slice none 0 0]) x y /\ ∃ r0 ag ah ai aj ak al, Loads P 44 ⟨q, 0, none⟩ (.agg #[.bool r0, .slice ag ah ai, .slice aj ak al]) y /\ R (.tuple #[.agg #[.bool r0, .slice ag ah ai, .slice aj ak al], .bool false]) y
def spec_l05Low (neg : Bool) (a0 : Option Addr) (a1 a2 : Nat) (a3 : Option Addr) (a4 a5 : Nat) (w : World) (R : Value -> World -> Prop) : Prop :=
 ∀ r wv, New w (.cells ⟨[.bool false, .slice none 0 0, .slice none 0 0]⟩ 44 (0, 0)) r wv ->
 Calls P 80 ⟨[.slice a0 a1 a2]⟩ wv fun e a6 =>
 ∃ a7 a8 a9, e = .returned (.slice a7 a8 a9) /\
 Calls P 80 ⟨[.slice a3 a4 a5]⟩ a6 fun aa ab =>
 ∃ ac ae af, aa = .returned (.slice ac ae af) /\
 ((decide ((((ae : Nat) : Int) : Int) = 0)) = true ->
 spec_l05Low_z0 r ab R) /\
 ((decide ((((ae : Nat) : Int) : Int) = 0)) = false ->
 Calls P 81 ⟨[.slice a7 a8 a9, .slice ac ae af]⟩ ab fun am an =>
 ∃ ao ap aq, am = .returned (.slice ao ap aq) /\
 Calls P 82 ⟨[.slice a7 a8 a9, .slice ao ap aq]⟩ an fun ar au =>
 ∃ av aw ax ay az b0, ar = .returned (.tuple #[.slice av aw ax, .slice ay az b0]) /\
 Calls P 82 ⟨[.slice ac ae af, .slice ao ap aq]⟩ au fun b1 b2 =>
 ∃ b3 b4 b5 b6 b7 b8, b1 = .returned (.tuple #[.slice b3 b4 b5, .slice b6 b7 b8]) /\
 ((decide ((18 : Int) < ((aw : Nat) : Int))) = true ->
 (true = true ->
 spec_l05Low_z0 r b2 R) /\
 (true = false ->
 Calls P 65 ⟨[.bool neg, .slice av aw ax]⟩ b2 fun bf bg =>
 ∃ bh bi bj bk, bf = .returned (.agg #[.bool bh, .slice bi bj bk]) /\
 ∀ bl bm, New bg (.cells ⟨[]⟩ 3 (0, 0)) bl bm ->
 ∃ bn bo bp bq, Appends P [22, 22] [(.slice (some ⟨bl, 0, none⟩) 0 0), .slice b3 b4 b5] (.slice bn bo bp) bm bq /\
 ∃ wv_11, Stores P 44 ⟨r, 0, none⟩ (.agg #[.bool bh, .slice bi bj bk, .slice bn bo bp]) bq wv_11 /\
 ∃ r0_2 br bs bt bu bv bw, Loads P 44 ⟨r, 0, none⟩ (.agg #[.bool r0_2, .slice br bs bt, .slice bu bv bw]) wv_11 /\ R (.tuple #[.agg #[.bool r0_2, .slice br bs bt, .slice bu bv bw], .bool true]) wv_11)) /\
 ((decide ((18 : Int) < ((aw : Nat) : Int))) = false ->
 ((decide ((18 : Int) < ((b4 : Nat) : Int))) = true ->
 spec_l05Low_z0 r b2 R) /\
 ((decide ((18 : Int) < ((b4 : Nat) : Int))) = false ->
 Calls P 65 ⟨[.bool neg, .slice av aw ax]⟩ b2 fun c4 c5 =>
 ∃ c6 c7 c8 c9, c4 = .returned (.agg #[.bool c6, .slice c7 c8 c9]) /\
 ∀ ca cb, New c5 (.cells ⟨[]⟩ 3 (0, 0)) ca cb ->
 ∃ cc cd ce cf, Appends P [22, 22] [(.slice (some ⟨ca, 0, none⟩) 0 0), .slice b3 b4 b5] (.slice cc cd ce) cb cf /\
 ∃ wv_16, Stores P 44 ⟨r, 0, none⟩ (.agg #[.bool c6, .slice c7 c8 c9, .slice cc cd ce]) cf wv_16 /\
 ∃ r0_4 cg ch ci cj ck cl, Loads P 44 ⟨r, 0, none⟩ (.agg #[.bool r0_4, .slice cg ch ci, .slice cj ck cl]) wv_16 /\ R (.tuple #[.agg #[.bool r0_4, .slice cg ch ci, .slice cj ck cl], .bool true]) wv_16)))
theorem spec_l05Low_ret {a : Bool} {a0 : Option Addr} {a1 a2 : Nat} {a3 : Option Addr} {a4 a5 : Nat} (h : spec_l05Low a a0 a1 a2 a3 a4 a5 w R) : Ret P 54 [.bool a, .slice a0 a1 a2, .slice a3 a4 a5] w R := Ret.of_fsem Tryz.func54 rfl (Eq.mp (show _ = fsem P Tryz.f54 (fun k => []) _ R w from by kernel_rfl) h)
def spec_l02Mul_j0 (a0 : Option Addr) (a1 : Nat) (a2 : Option Addr) (a3 : Nat) (W : World) (R : Value -> World -> Prop) : Prop :=
 ∃ a4 : Int, a4 = IntKind.wrap .i64 (((a1 : Nat) : Int) + ((a3 : Nat) : Int)) /\ (0 <= (a4 : Int) /\ (a4 : Int) <= a4 /\ ((8 : Nat) : Int) * a4 <= 281474976710656) /\
 ∀ r wv, New W (.cells ⟨zeroRow (.int .i64 0) (a4.toNat * 1)⟩ 3 (0, 0)) r wv ->
 ∃ (a5 : Int -> World -> Prop) (mu : Int -> World -> Nat), a5 0 wv /\
 ∀ (a6 : Fr) (a7 : World) (a8 : Int), a5 a8 a7 ->
 ((decide ((a8 : Int) < ((a1 : Nat) : Int))) = true ->
 (0 <= (a8 : Int) /\ (a8 : Int) < (a1 : Nat)) /\ ptrS a0 fun ad => ∃ a9, Loads P 3 (ad.add (a8.toNat * 1)) (.int .i64 a9) a7 /\ ∃ (aa : Int -> Int -> World -> Prop) (ab : Int -> Int -> World -> Nat), aa 0 0 a7 /\
 ∀ (ac : Fr) (ae : World) (carry af : Int), aa carry af ae ->
 ((decide ((af : Int) < ((a3 : Nat) : Int))) = true ->
 (0 <= (af : Int) /\ (af : Int) < (a3 : Nat)) /\ ptrS a2 fun ag => ∃ ah, Loads P 3 (ag.add (af.toNat * 1)) (.int .i64 ah) ae /\ ∃ ai : Int, ai = IntKind.wrap .i64 (a8 + af) /\ (0 <= (ai : Int) /\ (ai : Int) < (a4.toNat : Nat)) /\ ∃ aj, Loads P 3 ((⟨r, 0, none⟩ : Addr).add (ai.toNat * 1)) (.int .i64 aj) ae /\ ∃ ak : Int, ak = IntKind.wrap .i64 (a9 * ah) /\ ∃ al : Int, al = IntKind.wrap .i64 (aj + ak) /\ ∃ am : Int, am = IntKind.wrap .i64 (al + carry) /\ ∃ an : Int, an = IntKind.wrap .i64 (a8 + af) /\ (1000000000 : Int) ≠ 0 /\ ∃ ao : Int, ao = Int.tmod am 1000000000 /\ (0 <= (an : Int) /\ (an : Int) < (a4.toNat : Nat)) /\ ∃ wv_3, Stores P 3 ((⟨r, 0, none⟩ : Addr).add (an.toNat * 1)) (.int .i64 ao) ae wv_3 /\
 (1000000000 : Int) ≠ 0 /\ ∃ ap : Int, ap = IntKind.wrap .i64 (Int.tdiv am 1000000000) /\ ∃ aq : Int, aq = IntKind.wrap .i64 (af + 1) /\ aa ap aq wv_3 /\ ab ap aq wv_3 < ab carry af ae) /\
 ((decide ((af : Int) < ((a3 : Nat) : Int))) = false ->
 ∃ ar : Int, ar = IntKind.wrap .i64 (a8 + ((a3 : Nat) : Int)) /\ (0 <= (ar : Int) /\ (ar : Int) < (a4.toNat : Nat)) /\ ∃ wv_4, Stores P 3 ((⟨r, 0, none⟩ : Addr).add (ar.toNat * 1)) (.int .i64 carry) ae wv_4 /\
 ∃ au : Int, au = IntKind.wrap .i64 (a8 + 1) /\ a5 au wv_4 /\ mu au wv_4 < mu a8 a7)) /\
 ((decide ((a8 : Int) < ((a1 : Nat) : Int))) = false ->
 Calls P 80 ⟨[(.slice (some ⟨r, 0, none⟩) a4.toNat a4.toNat)]⟩ a7 fun e av =>
 ∃ aw ax ay, e = .returned (.slice aw ax ay) /\
 R (.slice aw ax ay) av)
def spec_l02Mul (a0 : Option Addr) (a1 a2 : Nat) (a3 : Option Addr) (a4 a5 : Nat) (w : World) (R : Value -> World -> Prop) : Prop :=
 ((decide ((((a1 : Nat) : Int) : Int) = 0)) = true ->
 (true = true ->
 R (.slice none 0 0) w) /\
 (true = false ->
 spec_l02Mul_j0 a0 a1 a3 a4 w R)) /\
 ((decide ((((a1 : Nat) : Int) : Int) = 0)) = false ->
 ((decide ((((a4 : Nat) : Int) : Int) = 0)) = true ->
 R (.slice none 0 0) w) /\
 ((decide ((((a4 : Nat) : Int) : Int) = 0)) = false ->
 spec_l02Mul_j0 a0 a1 a3 a4 w R))
theorem spec_l02Mul_ret {a : Option Addr} {a0 a1 : Nat} {a2 : Option Addr} {a3 a4 : Nat} (h : spec_l02Mul a a0 a1 a2 a3 a4 w R) : Ret P 55 [.slice a a0 a1, .slice a2 a3 a4] w R := Ret.of_fsem Tryz.func55 rfl (Eq.mp (show _ = fsem P Tryz.f55 (fun k => cond (Nat.beq k 6) [(28, .one (.int .i64))] (cond (Nat.beq k 10) [(8, .one (.int .i64)), (35, .one (.int .i64))] ([]))) _ R w from by kernel_rfl) h)
def spec_NatOf (n : Int) (w : World) (R : Value -> World -> Prop) : Prop :=
 ∀ r wv, New w (.cells ⟨[]⟩ 3 (0, 0)) r wv ->
 ∃ (a0 : Int -> Option Addr -> Nat -> Nat -> World -> Prop) (mu : Int -> Option Addr -> Nat -> Nat -> World -> Nat), a0 n (some ⟨r, 0, none⟩) 0 0 wv /\
 ∀ (a1 : Fr) (a2 : World) (n_1 : Int) (a3 : Option Addr) (a4 a5 : Nat), a0 n_1 a3 a4 a5 a2 ->
 ((decide ((0 : Int) < n_1)) = true ->
 (1000000000 : Int) ≠ 0 /\ ∃ t9 : Int, t9 = Int.tmod n_1 1000000000 /\ ∀ a6 a7, New a2 (.cells ⟨[.int .i64 t9]⟩ 3 (0, 0)) a6 a7 ->
 ∃ a8 a9 aa ab, Appends P [22, 22] [.slice a3 a4 a5, (.slice (some ⟨a6, 0, none⟩) 1 1)] (.slice a8 a9 aa) a7 ab /\
 (1000000000 : Int) ≠ 0 /\ ∃ ac : Int, ac = IntKind.wrap .i64 (Int.tdiv n_1 1000000000) /\ a0 ac a8 a9 aa ab /\ mu ac a8 a9 aa ab < mu n_1 a3 a4 a5 a2) /\
 ((decide ((0 : Int) < n_1)) = false ->
 R (.slice a3 a4 a5) a2)
theorem spec_NatOf_ret {n : Int} (h : spec_NatOf n w R) : Ret P 56 [.int .i64 n] w R := Ret.of_fsem Tryz.func56 rfl (Eq.mp (show _ = fsem P Tryz.f56 (fun k => cond (Nat.beq k 3) [(0, .one (.int .i64)), (3, .one .slice)] ([])) _ R w from by kernel_rfl) h)
def spec_l12Sum (a0 : Option Addr) (a1 a2 : Nat) (w : World) (R : Value -> World -> Prop) : Prop :=
 ∃ (a3 : Int -> Int -> World -> Prop) (mu : Int -> Int -> World -> Nat), a3 0 0 w /\
 ∀ (a4 : Fr) (wv : World) (n t8 : Int), a3 n t8 wv ->
 ((decide ((t8 : Int) < ((a1 : Nat) : Int))) = true ->
 (0 <= (t8 : Int) /\ (t8 : Int) < (a1 : Nat)) /\ ptrS a0 fun ad => ∃ a5, Loads P 3 (ad.add (t8.toNat * 1)) (.int .i64 a5) wv /\ ∃ a6 : Int, a6 = IntKind.wrap .i64 (n + a5) /\ ∃ a7 : Int, a7 = IntKind.wrap .i64 (t8 + 1) /\ a3 a6 a7 wv /\ mu a6 a7 wv < mu n t8 wv) /\
 ((decide ((t8 : Int) < ((a1 : Nat) : Int))) = false ->
 R (.int .i64 n) wv)
theorem spec_l12Sum_ret {a : Option Addr} {a0 a1 : Nat} (h : spec_l12Sum a a0 a1 w R) : Ret P 57 [.slice a a0 a1] w R := Ret.of_fsem Tryz.func57 rfl (Eq.mp (show _ = fsem P Tryz.f57 (fun k => cond (Nat.beq k 4) [(3, .one (.int .i64)), (8, .one (.int .i64))] ([])) _ R w from by kernel_rfl) h)
def spec_RatOk (r0 : Bool) (a0 : Option Addr) (a1 a2 : Nat) (a3 : Option Addr) (a4 a5 : Nat) (w : World) (R : Value -> World -> Prop) : Prop :=
 ∀ r wv, New w (.cells ⟨[.bool r0, .slice a0 a1 a2, .slice a3 a4 a5]⟩ 44 (0, 0)) r wv ->
 ∃ a6 a7 a8 a9, Loads P 29 ((⟨r, 0, none⟩ : Addr).add 0) (.agg #[.bool a6, .slice a7 a8 a9]) wv /\ Calls P 26 ⟨[.agg #[.bool a6, .slice a7 a8 a9]]⟩ wv fun e aa =>
 ∃ t5, e = .returned (.bool t5) /\
 ((!t5) = true ->
 (true = true ->
 (true = true ->
 (true = true ->
 (true = true ->
 R (.bool false) aa) /\
 (true = false ->
 ∃ ab ac ae, Loads P 22 (((⟨r, 0, none⟩ : Addr).add 0).add 1) (.slice ab ac ae) aa /\ ∃ af ag ah, Loads P 22 ((⟨r, 0, none⟩ : Addr).add 2) (.slice af ag ah) aa /\ Calls P 84 ⟨[.slice ab ac ae, .slice af ag ah]⟩ aa fun ai aj =>
 ∃ ak al am, ai = .returned (.slice ak al am) /\
 ∀ an ao, New aj (.cells ⟨[.int .i64 1]⟩ 3 (0, 0)) an ao ->
 Calls P 83 ⟨[.slice ak al am, (.slice (some ⟨an, 0, none⟩) 1 1)]⟩ ao fun ap aq =>
 ∃ ar, ap = .returned (.int .i64 ar) /\
 R (.bool (decide ((ar : Int) = 0))) aq)) /\
 (true = false ->
 ∃ au av aw, Loads P 22 (((⟨r, 0, none⟩ : Addr).add 0).add 1) (.slice au av aw) aa /\ ((decide ((18 : Int) < ((av : Nat) : Int))) = true ->
 R (.bool false) aa) /\
 ((decide ((18 : Int) < ((av : Nat) : Int))) = false ->
 ∃ ax ay az, Loads P 22 (((⟨r, 0, none⟩ : Addr).add 0).add 1) (.slice ax ay az) aa /\ ∃ b0 b1 b2, Loads P 22 ((⟨r, 0, none⟩ : Addr).add 2) (.slice b0 b1 b2) aa /\ Calls P 84 ⟨[.slice ax ay az, .slice b0 b1 b2]⟩ aa fun b3 b4 =>
 ∃ b5 b6 b7, b3 = .returned (.slice b5 b6 b7) /\
 ∀ b8 b9, New b4 (.cells ⟨[.int .i64 1]⟩ 3 (0, 0)) b8 b9 ->
 Calls P 83 ⟨[.slice b5 b6 b7, (.slice (some ⟨b8, 0, none⟩) 1 1)]⟩ b9 fun ba bb =>
 ∃ bc, ba = .returned (.int .i64 bc) /\
 R (.bool (decide ((bc : Int) = 0))) bb))) /\
 (true = false ->
 ∃ bd be bf, Loads P 22 ((⟨r, 0, none⟩ : Addr).add 2) (.slice bd be bf) aa /\ ((decide ((18 : Int) < ((be : Nat) : Int))) = true ->
 (true = true ->
 R (.bool false) aa) /\
 (true = false ->
 ∃ bg bh bi, Loads P 22 (((⟨r, 0, none⟩ : Addr).add 0).add 1) (.slice bg bh bi) aa /\ ∃ bj bk bl, Loads P 22 ((⟨r, 0, none⟩ : Addr).add 2) (.slice bj bk bl) aa /\ Calls P 84 ⟨[.slice bg bh bi, .slice bj bk bl]⟩ aa fun bm bn =>
 ∃ bo bp bq, bm = .returned (.slice bo bp bq) /\
 ∀ br bs, New bn (.cells ⟨[.int .i64 1]⟩ 3 (0, 0)) br bs ->
 Calls P 83 ⟨[.slice bo bp bq, (.slice (some ⟨br, 0, none⟩) 1 1)]⟩ bs fun bt bu =>
 ∃ bv, bt = .returned (.int .i64 bv) /\
 R (.bool (decide ((bv : Int) = 0))) bu)) /\
 ((decide ((18 : Int) < ((be : Nat) : Int))) = false ->
 ∃ bw bx bz, Loads P 22 (((⟨r, 0, none⟩ : Addr).add 0).add 1) (.slice bw bx bz) aa /\ ((decide ((18 : Int) < ((bx : Nat) : Int))) = true ->
 R (.bool false) aa) /\
 ((decide ((18 : Int) < ((bx : Nat) : Int))) = false ->
 ∃ c0 c1 c2, Loads P 22 (((⟨r, 0, none⟩ : Addr).add 0).add 1) (.slice c0 c1 c2) aa /\ ∃ c3 c4 c5, Loads P 22 ((⟨r, 0, none⟩ : Addr).add 2) (.slice c3 c4 c5) aa /\ Calls P 84 ⟨[.slice c0 c1 c2, .slice c3 c4 c5]⟩ aa fun c6 c7 =>
 ∃ c8 c9 ca, c6 = .returned (.slice c8 c9 ca) /\
 ∀ cb cc, New c7 (.cells ⟨[.int .i64 1]⟩ 3 (0, 0)) cb cc ->
 Calls P 83 ⟨[.slice c8 c9 ca, (.slice (some ⟨cb, 0, none⟩) 1 1)]⟩ cc fun cd ce =>
 ∃ cf, cd = .returned (.int .i64 cf) /\
 R (.bool (decide ((cf : Int) = 0))) ce)))) /\
 (true = false ->
 ∃ cg ch ci, Loads P 22 ((⟨r, 0, none⟩ : Addr).add 2) (.slice cg ch ci) aa /\ ((decide ((((ch : Nat) : Int) : Int) = 0)) = true ->
 (true = true ->
 (true = true ->
 R (.bool false) aa) /\
 (true = false ->
 ∃ cj ck cl, Loads P 22 (((⟨r, 0, none⟩ : Addr).add 0).add 1) (.slice cj ck cl) aa /\ ∃ cm cn co, Loads P 22 ((⟨r, 0, none⟩ : Addr).add 2) (.slice cm cn co) aa /\ Calls P 84 ⟨[.slice cj ck cl, .slice cm cn co]⟩ aa fun cp cq =>
 ∃ cr cs ct, cp = .returned (.slice cr cs ct) /\
 ∀ cu cv, New cq (.cells ⟨[.int .i64 1]⟩ 3 (0, 0)) cu cv ->
 Calls P 83 ⟨[.slice cr cs ct, (.slice (some ⟨cu, 0, none⟩) 1 1)]⟩ cv fun cw cx =>
 ∃ cy, cw = .returned (.int .i64 cy) /\
 R (.bool (decide ((cy : Int) = 0))) cx)) /\
 (true = false ->
 ∃ cz d0 d1, Loads P 22 (((⟨r, 0, none⟩ : Addr).add 0).add 1) (.slice cz d0 d1) aa /\ ((decide ((18 : Int) < ((d0 : Nat) : Int))) = true ->
 R (.bool false) aa) /\
 ((decide ((18 : Int) < ((d0 : Nat) : Int))) = false ->
 ∃ d2 d3 d4, Loads P 22 (((⟨r, 0, none⟩ : Addr).add 0).add 1) (.slice d2 d3 d4) aa /\ ∃ d5 d6 d7, Loads P 22 ((⟨r, 0, none⟩ : Addr).add 2) (.slice d5 d6 d7) aa /\ Calls P 84 ⟨[.slice d2 d3 d4, .slice d5 d6 d7]⟩ aa fun d8 d9 =>
 ∃ da db dc, d8 = .returned (.slice da db dc) /\
 ∀ dd de, New d9 (.cells ⟨[.int .i64 1]⟩ 3 (0, 0)) dd de ->
 Calls P 83 ⟨[.slice da db dc, (.slice (some ⟨dd, 0, none⟩) 1 1)]⟩ de fun df dg =>
 ∃ dh, df = .returned (.int .i64 dh) /\
 R (.bool (decide ((dh : Int) = 0))) dg))) /\
 ((decide ((((ch : Nat) : Int) : Int) = 0)) = false ->
 ∃ di dj dk, Loads P 22 ((⟨r, 0, none⟩ : Addr).add 2) (.slice di dj dk) aa /\ ((decide ((18 : Int) < ((dj : Nat) : Int))) = true ->
 (true = true ->
 R (.bool false) aa) /\
 (true = false ->
 ∃ dl dm dn, Loads P 22 (((⟨r, 0, none⟩ : Addr).add 0).add 1) (.slice dl dm dn) aa /\ ∃ dp dq dr, Loads P 22 ((⟨r, 0, none⟩ : Addr).add 2) (.slice dp dq dr) aa /\ Calls P 84 ⟨[.slice dl dm dn, .slice dp dq dr]⟩ aa fun ds dt =>
 ∃ du dv dw, ds = .returned (.slice du dv dw) /\
 ∀ dx dy, New dt (.cells ⟨[.int .i64 1]⟩ 3 (0, 0)) dx dy ->
 Calls P 83 ⟨[.slice du dv dw, (.slice (some ⟨dx, 0, none⟩) 1 1)]⟩ dy fun dz e0 =>
 ∃ e1, dz = .returned (.int .i64 e1) /\
 R (.bool (decide ((e1 : Int) = 0))) e0)) /\
 ((decide ((18 : Int) < ((dj : Nat) : Int))) = false ->
 ∃ e2 e3 e4, Loads P 22 (((⟨r, 0, none⟩ : Addr).add 0).add 1) (.slice e2 e3 e4) aa /\ ((decide ((18 : Int) < ((e3 : Nat) : Int))) = true ->
 R (.bool false) aa) /\
 ((decide ((18 : Int) < ((e3 : Nat) : Int))) = false ->
 ∃ e5 e6 e7, Loads P 22 (((⟨r, 0, none⟩ : Addr).add 0).add 1) (.slice e5 e6 e7) aa /\ ∃ e8 e9 ea, Loads P 22 ((⟨r, 0, none⟩ : Addr).add 2) (.slice e8 e9 ea) aa /\ Calls P 84 ⟨[.slice e5 e6 e7, .slice e8 e9 ea]⟩ aa fun eb ec =>
 ∃ ed ee ef, eb = .returned (.slice ed ee ef) /\
 ∀ eg eh, New ec (.cells ⟨[.int .i64 1]⟩ 3 (0, 0)) eg eh ->
 Calls P 83 ⟨[.slice ed ee ef, (.slice (some ⟨eg, 0, none⟩) 1 1)]⟩ eh fun ei ej =>
 ∃ ek, ei = .returned (.int .i64 ek) /\
 R (.bool (decide ((ek : Int) = 0))) ej))))) /\
 ((!t5) = false ->
 ∃ el em en, Loads P 22 ((⟨r, 0, none⟩ : Addr).add 2) (.slice el em en) aa /\ Calls P 63 ⟨[.slice el em en]⟩ aa fun eo ep =>
 ∃ eq, eo = .returned (.bool eq) /\
 ((!eq) = true ->
 (true = true ->
 (true = true ->
 (true = true ->
 R (.bool false) ep) /\
 (true = false ->
 ∃ er es et, Loads P 22 (((⟨r, 0, none⟩ : Addr).add 0).add 1) (.slice er es et) ep /\ ∃ eu ev ew, Loads P 22 ((⟨r, 0, none⟩ : Addr).add 2) (.slice eu ev ew) ep /\ Calls P 84 ⟨[.slice er es et, .slice eu ev ew]⟩ ep fun ex ey =>
 ∃ ez f0 f1, ex = .returned (.slice ez f0 f1) /\
 ∀ f2 f3, New ey (.cells ⟨[.int .i64 1]⟩ 3 (0, 0)) f2 f3 ->
 Calls P 83 ⟨[.slice ez f0 f1, (.slice (some ⟨f2, 0, none⟩) 1 1)]⟩ f3 fun f4 f5 =>
 ∃ f6, f4 = .returned (.int .i64 f6) /\
 R (.bool (decide ((f6 : Int) = 0))) f5)) /\
 (true = false ->
 ∃ f7 f8 f9, Loads P 22 (((⟨r, 0, none⟩ : Addr).add 0).add 1) (.slice f7 f8 f9) ep /\ ((decide ((18 : Int) < ((f8 : Nat) : Int))) = true ->
 R (.bool false) ep) /\
 ((decide ((18 : Int) < ((f8 : Nat) : Int))) = false ->
 ∃ fa fb fc, Loads P 22 (((⟨r, 0, none⟩ : Addr).add 0).add 1) (.slice fa fb fc) ep /\ ∃ fd fe ff, Loads P 22 ((⟨r, 0, none⟩ : Addr).add 2) (.slice fd fe ff) ep /\ Calls P 84 ⟨[.slice fa fb fc, .slice fd fe ff]⟩ ep fun fg fh =>
 ∃ fi fj fk, fg = .returned (.slice fi fj fk) /\
 ∀ fl fm, New fh (.cells ⟨[.int .i64 1]⟩ 3 (0, 0)) fl fm ->
 Calls P 83 ⟨[.slice fi fj fk, (.slice (some ⟨fl, 0, none⟩) 1 1)]⟩ fm fun fn fo =>
 ∃ fp, fn = .returned (.int .i64 fp) /\
 R (.bool (decide ((fp : Int) = 0))) fo))) /\
 (true = false ->
 ∃ fq fr fs, Loads P 22 ((⟨r, 0, none⟩ : Addr).add 2) (.slice fq fr fs) ep /\ ((decide ((18 : Int) < ((fr : Nat) : Int))) = true ->
 (true = true ->
 R (.bool false) ep) /\
 (true = false ->
 ∃ ft fu fv, Loads P 22 (((⟨r, 0, none⟩ : Addr).add 0).add 1) (.slice ft fu fv) ep /\ ∃ fw fx fy, Loads P 22 ((⟨r, 0, none⟩ : Addr).add 2) (.slice fw fx fy) ep /\ Calls P 84 ⟨[.slice ft fu fv, .slice fw fx fy]⟩ ep fun fz g0 =>
 ∃ g1 g2 g3, fz = .returned (.slice g1 g2 g3) /\
 ∀ g4 g5, New g0 (.cells ⟨[.int .i64 1]⟩ 3 (0, 0)) g4 g5 ->
 Calls P 83 ⟨[.slice g1 g2 g3, (.slice (some ⟨g4, 0, none⟩) 1 1)]⟩ g5 fun g6 g7 =>
 ∃ g8, g6 = .returned (.int .i64 g8) /\
 R (.bool (decide ((g8 : Int) = 0))) g7)) /\
 ((decide ((18 : Int) < ((fr : Nat) : Int))) = false ->
 ∃ g9 ga gb, Loads P 22 (((⟨r, 0, none⟩ : Addr).add 0).add 1) (.slice g9 ga gb) ep /\ ((decide ((18 : Int) < ((ga : Nat) : Int))) = true ->
 R (.bool false) ep) /\
 ((decide ((18 : Int) < ((ga : Nat) : Int))) = false ->
 ∃ gc gd ge, Loads P 22 (((⟨r, 0, none⟩ : Addr).add 0).add 1) (.slice gc gd ge) ep /\ ∃ gf gg gh, Loads P 22 ((⟨r, 0, none⟩ : Addr).add 2) (.slice gf gg gh) ep /\ Calls P 84 ⟨[.slice gc gd ge, .slice gf gg gh]⟩ ep fun gi gj =>
 ∃ gk gl gm, gi = .returned (.slice gk gl gm) /\
 ∀ gn go, New gj (.cells ⟨[.int .i64 1]⟩ 3 (0, 0)) gn go ->
 Calls P 83 ⟨[.slice gk gl gm, (.slice (some ⟨gn, 0, none⟩) 1 1)]⟩ go fun gp gq =>
 ∃ gr, gp = .returned (.int .i64 gr) /\
 R (.bool (decide ((gr : Int) = 0))) gq)))) /\
 ((!eq) = false ->
 ∃ gs gt gu, Loads P 22 ((⟨r, 0, none⟩ : Addr).add 2) (.slice gs gt gu) ep /\ ((decide ((((gt : Nat) : Int) : Int) = 0)) = true ->
 (true = true ->
 (true = true ->
 R (.bool false) ep) /\
 (true = false ->
 ∃ gv gw gx, Loads P 22 (((⟨r, 0, none⟩ : Addr).add 0).add 1) (.slice gv gw gx) ep /\ ∃ gy gz h0, Loads P 22 ((⟨r, 0, none⟩ : Addr).add 2) (.slice gy gz h0) ep /\ Calls P 84 ⟨[.slice gv gw gx, .slice gy gz h0]⟩ ep fun h1 h2 =>
 ∃ h3 h4 h5, h1 = .returned (.slice h3 h4 h5) /\
 ∀ h6 h7, New h2 (.cells ⟨[.int .i64 1]⟩ 3 (0, 0)) h6 h7 ->
 Calls P 83 ⟨[.slice h3 h4 h5, (.slice (some ⟨h6, 0, none⟩) 1 1)]⟩ h7 fun h8 h9 =>
 ∃ ha, h8 = .returned (.int .i64 ha) /\
 R (.bool (decide ((ha : Int) = 0))) h9)) /\
 (true = false ->
 ∃ hb hc hd, Loads P 22 (((⟨r, 0, none⟩ : Addr).add 0).add 1) (.slice hb hc hd) ep /\ ((decide ((18 : Int) < ((hc : Nat) : Int))) = true ->
 R (.bool false) ep) /\
 ((decide ((18 : Int) < ((hc : Nat) : Int))) = false ->
 ∃ he hf hg, Loads P 22 (((⟨r, 0, none⟩ : Addr).add 0).add 1) (.slice he hf hg) ep /\ ∃ hh hi hj, Loads P 22 ((⟨r, 0, none⟩ : Addr).add 2) (.slice hh hi hj) ep /\ Calls P 84 ⟨[.slice he hf hg, .slice hh hi hj]⟩ ep fun hk hl =>
 ∃ hm hn ho, hk = .returned (.slice hm hn ho) /\
 ∀ hp hq, New hl (.cells ⟨[.int .i64 1]⟩ 3 (0, 0)) hp hq ->
 Calls P 83 ⟨[.slice hm hn ho, (.slice (some ⟨hp, 0, none⟩) 1 1)]⟩ hq fun hr hs =>
 ∃ ht, hr = .returned (.int .i64 ht) /\
 R (.bool (decide ((ht : Int) = 0))) hs))) /\
 ((decide ((((gt : Nat) : Int) : Int) = 0)) = false ->
 ∃ hu hv hw, Loads P 22 ((⟨r, 0, none⟩ : Addr).add 2) (.slice hu hv hw) ep /\ ((decide ((18 : Int) < ((hv : Nat) : Int))) = true ->
 (true = true ->
 R (.bool false) ep) /\
 (true = false ->
 ∃ hx hy hz, Loads P 22 (((⟨r, 0, none⟩ : Addr).add 0).add 1) (.slice hx hy hz) ep /\ ∃ i0 i1 i2, Loads P 22 ((⟨r, 0, none⟩ : Addr).add 2) (.slice i0 i1 i2) ep /\ Calls P 84 ⟨[.slice hx hy hz, .slice i0 i1 i2]⟩ ep fun i3 i4 =>
 ∃ i5 i6 i7, i3 = .returned (.slice i5 i6 i7) /\
 ∀ i8 i9, New i4 (.cells ⟨[.int .i64 1]⟩ 3 (0, 0)) i8 i9 ->
 Calls P 83 ⟨[.slice i5 i6 i7, (.slice (some ⟨i8, 0, none⟩) 1 1)]⟩ i9 fun ia ib =>
 ∃ ic, ia = .returned (.int .i64 ic) /\
 R (.bool (decide ((ic : Int) = 0))) ib)) /\
 ((decide ((18 : Int) < ((hv : Nat) : Int))) = false ->
 ∃ id ie ig, Loads P 22 (((⟨r, 0, none⟩ : Addr).add 0).add 1) (.slice id ie ig) ep /\ ((decide ((18 : Int) < ((ie : Nat) : Int))) = true ->
 R (.bool false) ep) /\
 ((decide ((18 : Int) < ((ie : Nat) : Int))) = false ->
 ∃ ih ii ij, Loads P 22 (((⟨r, 0, none⟩ : Addr).add 0).add 1) (.slice ih ii ij) ep /\ ∃ ik il im, Loads P 22 ((⟨r, 0, none⟩ : Addr).add 2) (.slice ik il im) ep /\ Calls P 84 ⟨[.slice ih ii ij, .slice ik il im]⟩ ep fun io ip =>
 ∃ iq ir it, io = .returned (.slice iq ir it) /\
 ∀ iu iv, New ip (.cells ⟨[.int .i64 1]⟩ 3 (0, 0)) iu iv ->
 Calls P 83 ⟨[.slice iq ir it, (.slice (some ⟨iu, 0, none⟩) 1 1)]⟩ iv fun iw ix =>
 ∃ iy, iw = .returned (.int .i64 iy) /\
 R (.bool (decide ((iy : Int) = 0))) ix)))))
theorem spec_RatOk_ret {r0 : Bool} {a : Option Addr} {a0 a1 : Nat} {a2 : Option Addr} {a3 a4 : Nat} (h : spec_RatOk r0 a a0 a1 a2 a3 a4 w R) : Ret P 58 [.agg #[.bool r0, .slice a a0 a1, .slice a2 a3 a4]] w R := Ret.of_fsem Tryz.func58 rfl (Eq.mp (show _ = fsem P Tryz.f58 (fun k => []) _ R w from by kernel_rfl) h)
def spec_l06Mode (m : Int) (w : World) (R : Value -> World -> Prop) : Prop :=
 Calls P 14 ⟨[.int .i64 m, .int .i64 0, .int .i64 6]⟩ w fun e wv =>
 ∃ t4, e = .returned (.bool t4) /\
 R (.bool t4) wv
theorem spec_l06Mode_ret {m : Int} (h : spec_l06Mode m w R) : Ret P 59 [.int .i64 m] w R := Ret.of_fsem Tryz.func59 rfl (Eq.mp (show _ = fsem P Tryz.f59 (fun k => []) _ R w from by kernel_rfl) h)
def spec_l06Round_j0 (r a0 : Nat) (a1 : Option Addr) (a2 a3 : Nat) (W : World) (R : Value -> World -> Prop) : Prop :=
 ∃ a4, Loads P 4 (((⟨r, 0, none⟩ : Addr).add 0).add 0) (.bool a4) W /\ Calls P 65 ⟨[.bool a4, .slice a1 a2 a3]⟩ W fun a5 a6 =>
 ∃ a7 a8 a9 aa, a5 = .returned (.agg #[.bool a7, .slice a8 a9 aa]) /\
 ∃ wv_7, Stores P 29 ⟨a0, 0, none⟩ (.agg #[.bool a7, .slice a8 a9 aa]) a6 wv_7 /\
 ∃ r0_1 ab ac ae, Loads P 29 ⟨a0, 0, none⟩ (.agg #[.bool r0_1, .slice ab ac ae]) wv_7 /\ R (.agg #[.bool r0_1, .slice ab ac ae]) wv_7
def spec_l06Round (r0 : Bool) (a0 : Option Addr) (a1 a2 : Nat) (a3 : Option Addr) (a4 a5 : Nat) (m : Int) (w : World) (R : Value -> World -> Prop) : Prop :=
 ∀ r wv, New w (.cells ⟨[.bool r0, .slice a0 a1 a2, .slice a3 a4 a5]⟩ 44 (0, 0)) r wv ->
 ∀ a6 a7, New wv (.cells ⟨[.bool false, .slice none 0 0]⟩ 29 (0, 0)) a6 a7 ->
 ∃ a8 a9 aa, Loads P 22 (((⟨r, 0, none⟩ : Addr).add 0).add 1) (.slice a8 a9 aa) a7 /\ ∃ ab ac ae, Loads P 22 ((⟨r, 0, none⟩ : Addr).add 2) (.slice ab ac ae) a7 /\ Calls P 82 ⟨[.slice a8 a9 aa, .slice ab ac ae]⟩ a7 fun e af =>
 ∃ ag ah ai aj ak al, e = .returned (.tuple #[.slice ag ah ai, .slice aj ak al]) /\
 ((decide ((0 : Int) < ((ak : Nat) : Int))) = true ->
 ∃ am, Loads P 4 (((⟨r, 0, none⟩ : Addr).add 0).add 0) (.bool am) af /\ ∃ an ao ap, Loads P 22 ((⟨r, 0, none⟩ : Addr).add 2) (.slice an ao ap) af /\ Calls P 85 ⟨[.bool am, .slice ag ah ai, .slice aj ak al, .slice an ao ap, .int .i64 m]⟩ af fun aq ar =>
 ∃ au, aq = .returned (.bool au) /\
 (au = true ->
 ∀ av aw, New ar (.cells ⟨[.int .i64 1]⟩ 3 (0, 0)) av aw ->
 Calls P 86 ⟨[.slice ag ah ai, (.slice (some ⟨av, 0, none⟩) 1 1)]⟩ aw fun ax ay =>
 ∃ az b0 b1, ax = .returned (.slice az b0 b1) /\
 spec_l06Round_j0 r a6 az b0 b1 ay R) /\
 (au = false ->
 spec_l06Round_j0 r a6 ag ah ai ar R)) /\
 ((decide ((0 : Int) < ((ak : Nat) : Int))) = false ->
 (false = true ->
 ∀ b2 b3, New af (.cells ⟨[.int .i64 1]⟩ 3 (0, 0)) b2 b3 ->
 Calls P 86 ⟨[.slice ag ah ai, (.slice (some ⟨b2, 0, none⟩) 1 1)]⟩ b3 fun b4 b5 =>
 ∃ b6 b7 b8, b4 = .returned (.slice b6 b7 b8) /\
 spec_l06Round_j0 r a6 b6 b7 b8 b5 R) /\
 (false = false ->
 spec_l06Round_j0 r a6 ag ah ai af R))
theorem spec_l06Round_ret {r0 : Bool} {a : Option Addr} {a0 a1 : Nat} {a2 : Option Addr} {a3 a4 : Nat} {m : Int} (h : spec_l06Round r0 a a0 a1 a2 a3 a4 m w R) : Ret P 60 [.agg #[.bool r0, .slice a a0 a1, .slice a2 a3 a4], .int .i64 m] w R := Ret.of_fsem Tryz.func60 rfl (Eq.mp (show _ = fsem P Tryz.f60 (fun k => []) _ R w from by kernel_rfl) h)
def spec_RatRest (r0 : Bool) (a0 : Option Addr) (a1 a2 : Nat) (a3 : Option Addr) (a4 a5 : Nat) (m : Int) (w : World) (R : Value -> World -> Prop) : Prop :=
 ∀ r wv, New w (.cells ⟨[.bool r0, .slice a0 a1 a2, .slice a3 a4 a5]⟩ 44 (0, 0)) r wv ->
 ∀ a6 a7, New wv (.cells ⟨[.bool false, .slice none 0 0]⟩ 29 (0, 0)) a6 a7 ->
 ∀ a8 a9, New a7 (.cells ⟨[.bool false, .slice none 0 0, .slice none 0 0]⟩ 44 (0, 0)) a8 a9 ->
 ∃ aa ab ac ae af ag ah, Loads P 44 ⟨r, 0, none⟩ (.agg #[.bool aa, .slice ab ac ae, .slice af ag ah]) a9 /\ Calls P 23 ⟨[.agg #[.bool aa, .slice ab ac ae, .slice af ag ah], .int .i64 m]⟩ a9 fun e ai =>
 ∃ aj ak al am an, e = .returned (.tuple #[.agg #[.bool aj, .slice ak al am], .bool an]) /\
 ∀ ao ap, New ai (.cells ⟨[.bool false, .slice none 0 0]⟩ 29 (0, 0)) ao ap ->
 ∃ wv_5, Stores P 29 ⟨ao, 0, none⟩ (.agg #[.bool aj, .slice ak al am]) ap wv_5 /\
 ∃ aq ar au av, Loads P 29 ⟨ao, 0, none⟩ (.agg #[.bool aq, .slice ar au av]) wv_5 /\ Calls P 87 ⟨[.agg #[.bool aq, .slice ar au av]]⟩ wv_5 fun aw ax =>
 ∃ ay az b0 b1 b2 b3 b4 b5, aw = .returned (.tuple #[.agg #[.bool ay, .slice az b0 b1, .slice b2 b3 b4], .bool b5]) /\
 ∀ b6 b7, New ax (.cells ⟨[.bool false, .slice none 0 0, .slice none 0 0]⟩ 44 (0, 0)) b6 b7 ->
 ∃ wv_8, Stores P 44 ⟨b6, 0, none⟩ (.agg #[.bool ay, .slice az b0 b1, .slice b2 b3 b4]) b7 wv_8 /\
 ∃ b8 b9 ba bb bc bd be, Loads P 44 ⟨r, 0, none⟩ (.agg #[.bool b8, .slice b9 ba bb, .slice bc bd be]) wv_8 /\ ∃ bf bg bh bi bj bk bl, Loads P 44 ⟨b6, 0, none⟩ (.agg #[.bool bf, .slice bg bh bi, .slice bj bk bl]) wv_8 /\ Calls P 88 ⟨[.agg #[.bool b8, .slice b9 ba bb, .slice bc bd be], .agg #[.bool bf, .slice bg bh bi, .slice bj bk bl]]⟩ wv_8 fun bm bn =>
 ∃ bo bp bq br bs bt bu bv, bm = .returned (.tuple #[.agg #[.bool bo, .slice bp bq br, .slice bs bt bu], .bool bv]) /\
 ∀ bw bx, New bn (.cells ⟨[.bool false, .slice none 0 0, .slice none 0 0]⟩ 44 (0, 0)) bw bx ->
 ∃ wv_11, Stores P 44 ⟨bw, 0, none⟩ (.agg #[.bool bo, .slice bp bq br, .slice bs bt bu]) bx wv_11 /\
 ((!an) = true ->
 (true = true ->
 (true = true ->
 ∃ wv_12, Stores P 29 ⟨a6, 0, none⟩ (.agg #[.bool false, .slice none 0 0]) wv_11 wv_12 /\
 ∃ wv_13, Stores P 44 ⟨a8, 0, none⟩ (.agg #[.bool false, .slice none 0 0, .slice none 0 0]) wv_12 wv_13 /\
 ∃ r0_1 bz c0 c1, Loads P 29 ⟨a6, 0, none⟩ (.agg #[.bool r0_1, .slice bz c0 c1]) wv_13 /\ ∃ r0_2 c2 c3 c4 c5 c6 c7, Loads P 44 ⟨a8, 0, none⟩ (.agg #[.bool r0_2, .slice c2 c3 c4, .slice c5 c6 c7]) wv_13 /\ R (.tuple #[.agg #[.bool r0_1, .slice bz c0 c1], .agg #[.bool r0_2, .slice c2 c3 c4, .slice c5 c6 c7], .bool false]) wv_13) /\
 (true = false ->
 ∃ blks : List Nat, ∃ c8 c9 ca cb, (∀ wv_14, EX blks wv_11.drew wv_14 -> Loads P 29 ⟨ao, 0, none⟩ (.agg #[.bool c8, .slice c9 ca cb]) wv_14) /\ ∃ cc cd ce cf cg ch ci, (∀ wv_15, EX blks wv_11.drew wv_15 -> Loads P 44 ⟨bw, 0, none⟩ (.agg #[.bool cc, .slice cd ce cf, .slice cg ch ci]) wv_15) /\ ∃ wv_16, Stores P 29 ⟨a6, 0, none⟩ (.agg #[.bool c8, .slice c9 ca cb]) wv_11.drew wv_16 /\
 EX blks wv_11.drew wv_16 /\ ∃ wv_17, Stores P 44 ⟨a8, 0, none⟩ (.agg #[.bool cc, .slice cd ce cf, .slice cg ch ci]) wv_16 wv_17 /\
 ∃ r0_3 cj ck cl, Loads P 29 ⟨a6, 0, none⟩ (.agg #[.bool r0_3, .slice cj ck cl]) wv_17 /\ ∃ r0_4 cm cn co cp cq cr, Loads P 44 ⟨a8, 0, none⟩ (.agg #[.bool r0_4, .slice cm cn co, .slice cp cq cr]) wv_17 /\ R (.tuple #[.agg #[.bool r0_3, .slice cj ck cl], .agg #[.bool r0_4, .slice cm cn co, .slice cp cq cr], .bool true]) wv_17)) /\
 (true = false ->
 ((!bv) = true ->
 ∃ wv_18, Stores P 29 ⟨a6, 0, none⟩ (.agg #[.bool false, .slice none 0 0]) wv_11 wv_18 /\
 ∃ wv_19, Stores P 44 ⟨a8, 0, none⟩ (.agg #[.bool false, .slice none 0 0, .slice none 0 0]) wv_18 wv_19 /\
 ∃ r0_5 cs ct cu, Loads P 29 ⟨a6, 0, none⟩ (.agg #[.bool r0_5, .slice cs ct cu]) wv_19 /\ ∃ r0_6 cv cw cx cy cz d0, Loads P 44 ⟨a8, 0, none⟩ (.agg #[.bool r0_6, .slice cv cw cx, .slice cy cz d0]) wv_19 /\ R (.tuple #[.agg #[.bool r0_5, .slice cs ct cu], .agg #[.bool r0_6, .slice cv cw cx, .slice cy cz d0], .bool false]) wv_19) /\
 ((!bv) = false ->
 ∃ blks_1 : List Nat, ∃ d1 d2 d3 d4, (∀ wv_20, EX blks_1 wv_11.drew wv_20 -> Loads P 29 ⟨ao, 0, none⟩ (.agg #[.bool d1, .slice d2 d3 d4]) wv_20) /\ ∃ d5 d6 d7 d8 d9 da db, (∀ wv_21, EX blks_1 wv_11.drew wv_21 -> Loads P 44 ⟨bw, 0, none⟩ (.agg #[.bool d5, .slice d6 d7 d8, .slice d9 da db]) wv_21) /\ ∃ wv_22, Stores P 29 ⟨a6, 0, none⟩ (.agg #[.bool d1, .slice d2 d3 d4]) wv_11.drew wv_22 /\
 EX blks_1 wv_11.drew wv_22 /\ ∃ wv_23, Stores P 44 ⟨a8, 0, none⟩ (.agg #[.bool d5, .slice d6 d7 d8, .slice d9 da db]) wv_22 wv_23 /\
 ∃ r0_7 dc dd de, Loads P 29 ⟨a6, 0, none⟩ (.agg #[.bool r0_7, .slice dc dd de]) wv_23 /\ ∃ r0_8 df dg dh di dj dk, Loads P 44 ⟨a8, 0, none⟩ (.agg #[.bool r0_8, .slice df dg dh, .slice di dj dk]) wv_23 /\ R (.tuple #[.agg #[.bool r0_7, .slice dc dd de], .agg #[.bool r0_8, .slice df dg dh, .slice di dj dk], .bool true]) wv_23))) /\
 ((!an) = false ->
 ((!b5) = true ->
 (true = true ->
 ∃ wv_24, Stores P 29 ⟨a6, 0, none⟩ (.agg #[.bool false, .slice none 0 0]) wv_11 wv_24 /\
 ∃ wv_25, Stores P 44 ⟨a8, 0, none⟩ (.agg #[.bool false, .slice none 0 0, .slice none 0 0]) wv_24 wv_25 /\
 ∃ r0_9 dl dm dn, Loads P 29 ⟨a6, 0, none⟩ (.agg #[.bool r0_9, .slice dl dm dn]) wv_25 /\ ∃ r0_10 dp dq dr ds dt du, Loads P 44 ⟨a8, 0, none⟩ (.agg #[.bool r0_10, .slice dp dq dr, .slice ds dt du]) wv_25 /\ R (.tuple #[.agg #[.bool r0_9, .slice dl dm dn], .agg #[.bool r0_10, .slice dp dq dr, .slice ds dt du], .bool false]) wv_25) /\
 (true = false ->
 ∃ blks_2 : List Nat, ∃ dv dw dx dy, (∀ wv_26, EX blks_2 wv_11.drew wv_26 -> Loads P 29 ⟨ao, 0, none⟩ (.agg #[.bool dv, .slice dw dx dy]) wv_26) /\ ∃ dz e0 e1 e2 e3 e4 e5, (∀ wv_27, EX blks_2 wv_11.drew wv_27 -> Loads P 44 ⟨bw, 0, none⟩ (.agg #[.bool dz, .slice e0 e1 e2, .slice e3 e4 e5]) wv_27) /\ ∃ wv_28, Stores P 29 ⟨a6, 0, none⟩ (.agg #[.bool dv, .slice dw dx dy]) wv_11.drew wv_28 /\
 EX blks_2 wv_11.drew wv_28 /\ ∃ wv_29, Stores P 44 ⟨a8, 0, none⟩ (.agg #[.bool dz, .slice e0 e1 e2, .slice e3 e4 e5]) wv_28 wv_29 /\
 ∃ r0_11 e6 e7 e8, Loads P 29 ⟨a6, 0, none⟩ (.agg #[.bool r0_11, .slice e6 e7 e8]) wv_29 /\ ∃ r0_12 e9 ea eb ec ed ee, Loads P 44 ⟨a8, 0, none⟩ (.agg #[.bool r0_12, .slice e9 ea eb, .slice ec ed ee]) wv_29 /\ R (.tuple #[.agg #[.bool r0_11, .slice e6 e7 e8], .agg #[.bool r0_12, .slice e9 ea eb, .slice ec ed ee], .bool true]) wv_29)) /\
 ((!b5) = false ->
 ((!bv) = true ->
 ∃ wv_30, Stores P 29 ⟨a6, 0, none⟩ (.agg #[.bool false, .slice none 0 0]) wv_11 wv_30 /\
 ∃ wv_31, Stores P 44 ⟨a8, 0, none⟩ (.agg #[.bool false, .slice none 0 0, .slice none 0 0]) wv_30 wv_31 /\
 ∃ r0_13 ef eg eh, Loads P 29 ⟨a6, 0, none⟩ (.agg #[.bool r0_13, .slice ef eg eh]) wv_31 /\ ∃ r0_14 ei ej ek el em en, Loads P 44 ⟨a8, 0, none⟩ (.agg #[.bool r0_14, .slice ei ej ek, .slice el em en]) wv_31 /\ R (.tuple #[.agg #[.bool r0_13, .slice ef eg eh], .agg #[.bool r0_14, .slice ei ej ek, .slice el em en], .bool false]) wv_31) /\
 ((!bv) = false ->
 ∃ blks_3 : List Nat, ∃ eo ep eq er, (∀ wv_32, EX blks_3 wv_11.drew wv_32 -> Loads P 29 ⟨ao, 0, none⟩ (.agg #[.bool eo, .slice ep eq er]) wv_32) /\ ∃ es et eu ev ew ex ey, (∀ wv_33, EX blks_3 wv_11.drew wv_33 -> Loads P 44 ⟨bw, 0, none⟩ (.agg #[.bool es, .slice et eu ev, .slice ew ex ey]) wv_33) /\ ∃ wv_34, Stores P 29 ⟨a6, 0, none⟩ (.agg #[.bool eo, .slice ep eq er]) wv_11.drew wv_34 /\
 EX blks_3 wv_11.drew wv_34 /\ ∃ wv_35, Stores P 44 ⟨a8, 0, none⟩ (.agg #[.bool es, .slice et eu ev, .slice ew ex ey]) wv_34 wv_35 /\
 ∃ r0_15 ez f0 f1, Loads P 29 ⟨a6, 0, none⟩ (.agg #[.bool r0_15, .slice ez f0 f1]) wv_35 /\ ∃ r0_16 f2 f3 f4 f5 f6 f7, Loads P 44 ⟨a8, 0, none⟩ (.agg #[.bool r0_16, .slice f2 f3 f4, .slice f5 f6 f7]) wv_35 /\ R (.tuple #[.agg #[.bool r0_15, .slice ez f0 f1], .agg #[.bool r0_16, .slice f2 f3 f4, .slice f5 f6 f7], .bool true]) wv_35)))
theorem spec_RatRest_ret {r0 : Bool} {a : Option Addr} {a0 a1 : Nat} {a2 : Option Addr} {a3 a4 : Nat} {m : Int} (h : spec_RatRest r0 a a0 a1 a2 a3 a4 m w R) : Ret P 61 [.agg #[.bool r0, .slice a a0 a1, .slice a2 a3 a4], .int .i64 m] w R := Ret.of_fsem Tryz.func61 rfl (Eq.mp (show _ = fsem P Tryz.f61 (fun k => []) _ R w from by kernel_rfl) h)
def spec_RatNeg (r0 : Bool) (a0 : Option Addr) (a1 a2 : Nat) (a3 : Option Addr) (a4 a5 : Nat) (w : World) (R : Value -> World -> Prop) : Prop :=
 ∀ r wv, New w (.cells ⟨[.bool r0, .slice a0 a1 a2, .slice a3 a4 a5]⟩ 44 (0, 0)) r wv ->
 ∀ a6 a7, New wv (.cells ⟨[.bool false, .slice none 0 0, .slice none 0 0]⟩ 44 (0, 0)) a6 a7 ->
 ∃ a8 a9 aa ab ac ae af, Loads P 44 ⟨r, 0, none⟩ (.agg #[.bool a8, .slice a9 aa ab, .slice ac ae af]) a7 /\ Calls P 58 ⟨[.agg #[.bool a8, .slice a9 aa ab, .slice ac ae af]]⟩ a7 fun e ag =>
 ∃ t5, e = .returned (.bool t5) /\
 ((!t5) = true ->
 ∃ wv_3, Stores P 44 ⟨a6, 0, none⟩ (.agg #[.bool false, .slice none 0 0, .slice none 0 0]) ag wv_3 /\
 ∃ r0_1 ah ai aj ak al am, Loads P 44 ⟨a6, 0, none⟩ (.agg #[.bool r0_1, .slice ah ai aj, .slice ak al am]) wv_3 /\ R (.tuple #[.agg #[.bool r0_1, .slice ah ai aj, .slice ak al am], .bool false]) wv_3) /\
 ((!t5) = false ->
 ∃ an ao ap aq, (∀ wv_4, Ext ag.drew wv_4 -> Loads P 29 ((⟨r, 0, none⟩ : Addr).add 0) (.agg #[.bool an, .slice ao ap aq]) wv_4) /\ ∀ (ss : List (Option Nat)) (ar : World), Fl [.cells ⟨[]⟩ 3 (0, 0)] [none] ag.drew ss ar ->
 Calls P 67 ⟨[.agg #[.bool an, .slice ao ap aq]]⟩ ar fun au av =>
 ∃ aw ax ay az, au = .returned (.agg #[.bool aw, .slice ax ay az]) /\
 Ext ar av /\ ∃ b0 b1 b2, (∀ wv_7, Ext ag.drew wv_7 -> Loads P 22 ((⟨r, 0, none⟩ : Addr).add 2) (.slice b0 b1 b2) wv_7) /\ ∀ (ss_1 : List (Option Nat)) (b3 : World) (b4 : Nat), Fl [.cells ⟨[]⟩ 3 (0, 0)] ss av ss_1 b3 -> ss_1[0]? = some (some b4) ->
 ∃ b5 b6 b7 b8, Appends P [22, 22] [(.slice (some ⟨b4, 0, none⟩) 0 0), .slice b0 b1 b2] (.slice b5 b6 b7) b3 b8 /\
 ∃ wv_10, Stores P 44 ⟨a6, 0, none⟩ (.agg #[.bool aw, .slice ax ay az, .slice b5 b6 b7]) b8 wv_10 /\
 ∃ r0_2 b9 ba bb bc bd be, Loads P 44 ⟨a6, 0, none⟩ (.agg #[.bool r0_2, .slice b9 ba bb, .slice bc bd be]) wv_10 /\ R (.tuple #[.agg #[.bool r0_2, .slice b9 ba bb, .slice bc bd be], .bool true]) wv_10)
theorem spec_RatNeg_ret {r0 : Bool} {a : Option Addr} {a0 a1 : Nat} {a2 : Option Addr} {a3 a4 : Nat} (h : spec_RatNeg r0 a a0 a1 a2 a3 a4 w R) : Ret P 62 [.agg #[.bool r0, .slice a a0 a1, .slice a2 a3 a4]] w R := Ret.of_fsem Tryz.func62 rfl (Eq.mp (show _ = fsem P Tryz.f62 (fun k => []) _ R w from by kernel_rfl) h)
def spec_NatOk (a0 : Option Addr) (a1 a2 : Nat) (w : World) (R : Value -> World -> Prop) : Prop :=
 ∃ (a3 : Int -> World -> Prop) (mu : Int -> World -> Nat), a3 0 w /\
 ∀ (a4 : Fr) (wv : World) (t7 : Int), a3 t7 wv ->
 ((decide ((t7 : Int) < ((a1 : Nat) : Int))) = true ->
 (0 <= (t7 : Int) /\ (t7 : Int) < (a1 : Nat)) /\ ptrS a0 fun ad => ∃ a5, Loads P 3 (ad.add (t7.toNat * 1)) (.int .i64 a5) wv /\ Calls P 14 ⟨[.int .i64 a5, .int .i64 0, .int .i64 999999999]⟩ wv fun e a6 =>
 ∃ a7, e = .returned (.bool a7) /\
 ((!a7) = true ->
 R (.bool false) a6) /\
 ((!a7) = false ->
 ∃ a8 : Int, a8 = IntKind.wrap .i64 (t7 + 1) /\ a3 a8 a6 /\ mu a8 a6 < mu t7 wv)) /\
 ((decide ((t7 : Int) < ((a1 : Nat) : Int))) = false ->
 ((decide ((((a1 : Nat) : Int) : Int) <= 50)) = true ->
 ((decide ((((a1 : Nat) : Int) : Int) = 0)) = true ->
 R (.bool true) wv) /\
 ((decide ((((a1 : Nat) : Int) : Int) = 0)) = false ->
 ∃ a9 : Int, a9 = IntKind.wrap .i64 (((a1 : Nat) : Int) - 1) /\ (0 <= (a9 : Int) /\ (a9 : Int) < (a1 : Nat)) /\ ptrS a0 fun aa => ∃ ab, Loads P 3 (aa.add (a9.toNat * 1)) (.int .i64 ab) wv /\ R (.bool (decide ((ab : Int) ≠ 0))) wv)) /\
 ((decide ((((a1 : Nat) : Int) : Int) <= 50)) = false ->
 R (.bool false) wv))
theorem spec_NatOk_ret {a : Option Addr} {a0 a1 : Nat} (h : spec_NatOk a a0 a1 w R) : Ret P 63 [.slice a a0 a1] w R := Ret.of_fsem Tryz.func63 rfl (Eq.mp (show _ = fsem P Tryz.f63 (fun k => cond (Nat.beq k 3) [(7, .one (.int .i64))] ([])) _ R w from by kernel_rfl) h)
def spec_NatInt_j0 (a0 : Option Addr) (a1 : Nat) (W : World) (R : Value -> World -> Prop) : Prop :=
 ∃ a2 : Int, a2 = IntKind.wrap .i64 (((a1 : Nat) : Int) - 1) /\ ∃ (a3 : Int -> Int -> World -> Prop) (mu : Int -> Int -> World -> Nat), a3 0 a2 W /\
 ∀ (a4 : Fr) (a5 : World) (n i : Int), a3 n i a5 ->
 ((decide ((0 : Int) <= i)) = true ->
 ∃ a6 : Int, a6 = IntKind.wrap .i64 (n * 1000000000) /\ (0 <= (i : Int) /\ (i : Int) < (a1 : Nat)) /\ ptrS a0 fun ad => ∃ a7, Loads P 3 (ad.add (i.toNat * 1)) (.int .i64 a7) a5 /\ ∃ a8 : Int, a8 = IntKind.wrap .i64 (a6 + a7) /\ ∃ a9 : Int, a9 = IntKind.wrap .i64 (i - 1) /\ a3 a8 a9 a5 /\ mu a8 a9 a5 < mu n i a5) /\
 ((decide ((0 : Int) <= i)) = false ->
 R (.tuple #[.int .i64 n, .bool true]) a5)
def spec_NatInt (a0 : Option Addr) (a1 a2 : Nat) (w : World) (R : Value -> World -> Prop) : Prop :=
 Calls P 63 ⟨[.slice a0 a1 a2]⟩ w fun e wv =>
 ∃ t7, e = .returned (.bool t7) /\
 ((!t7) = true ->
 (true = true ->
 R (.tuple #[.int .i64 0, .bool false]) wv) /\
 (true = false ->
 spec_NatInt_j0 a0 a1 wv R)) /\
 ((!t7) = false ->
 ∀ r a3, New wv (.cells ⟨[.int .i64 854775807, .int .i64 223372036, .int .i64 9]⟩ 3 (0, 0)) r a3 ->
 Calls P 83 ⟨[.slice a0 a1 a2, (.slice (some ⟨r, 0, none⟩) 3 3)]⟩ a3 fun a4 a5 =>
 ∃ a6, a4 = .returned (.int .i64 a6) /\
 ((decide ((0 : Int) < a6)) = true ->
 R (.tuple #[.int .i64 0, .bool false]) a5) /\
 ((decide ((0 : Int) < a6)) = false ->
 spec_NatInt_j0 a0 a1 a5 R))
theorem spec_NatInt_ret {a : Option Addr} {a0 a1 : Nat} (h : spec_NatInt a a0 a1 w R) : Ret P 64 [.slice a a0 a1] w R := Ret.of_fsem Tryz.func64 rfl (Eq.mp (show _ = fsem P Tryz.f64 (fun k => cond (Nat.beq k 6) [(4, .one (.int .i64)), (5, .one (.int .i64))] ([])) _ R w from by kernel_rfl) h)
def spec_l04Make (neg : Bool) (a0 : Option Addr) (a1 a2 : Nat) (w : World) (R : Value -> World -> Prop) : Prop :=
 ∀ r wv, New w (.cells ⟨[.bool false, .slice none 0 0]⟩ 29 (0, 0)) r wv ->
 Calls P 89 ⟨[.slice a0 a1 a2]⟩ wv fun e a3 =>
 ∃ a4 a5 a6, e = .returned (.slice a4 a5 a6) /\
 (neg = true ->
 ∀ a7 a8, New a3 (.cells ⟨[]⟩ 3 (0, 0)) a7 a8 ->
 ∃ a9 aa ab ac, Appends P [22, 22] [(.slice (some ⟨a7, 0, none⟩) 0 0), .slice a4 a5 a6] (.slice a9 aa ab) a8 ac /\
 ∃ wv_4, Stores P 29 ⟨r, 0, none⟩ (.agg #[(.bool (decide ((0 : Int) < ((a5 : Nat) : Int)))), .slice a9 aa ab]) ac wv_4 /\
 ∃ r0 ae af ag, Loads P 29 ⟨r, 0, none⟩ (.agg #[.bool r0, .slice ae af ag]) wv_4 /\ R (.agg #[.bool r0, .slice ae af ag]) wv_4) /\
 (neg = false ->
 ∀ ah ai, New a3 (.cells ⟨[]⟩ 3 (0, 0)) ah ai ->
 ∃ aj ak al am, Appends P [22, 22] [(.slice (some ⟨ah, 0, none⟩) 0 0), .slice a4 a5 a6] (.slice aj ak al) ai am /\
 ∃ wv_7, Stores P 29 ⟨r, 0, none⟩ (.agg #[.bool false, .slice aj ak al]) am wv_7 /\
 ∃ r0_1 an ao ap, Loads P 29 ⟨r, 0, none⟩ (.agg #[.bool r0_1, .slice an ao ap]) wv_7 /\ R (.agg #[.bool r0_1, .slice an ao ap]) wv_7)
theorem spec_l04Make_ret {a : Bool} {a0 : Option Addr} {a1 a2 : Nat} (h : spec_l04Make a a0 a1 a2 w R) : Ret P 65 [.bool a, .slice a0 a1 a2] w R := Ret.of_fsem Tryz.func65 rfl (Eq.mp (show _ = fsem P Tryz.f65 (fun k => []) _ R w from by kernel_rfl) h)
end Go.Proofs.YtbgokfhcgcoipaaGreat
namespace Go.Proofs.YtbgokfhcgcoipaaGreat
variable {w : World} {R : Value -> World -> Prop}
open Go Go.Proofs.YtbgokfhcgcoipaaGreat.Sx
set_option maxRecDepth 100000
def spec_l04Add (x0 : Bool) (a0 : Option Addr) (a1 a2 : Nat) (y0 : Bool) (a3 : Option Addr) (a4 a5 : Nat) (w : World) (R : Value -> World -> Prop) : Prop :=
 ∀ r wv, New w (.cells ⟨[.bool x0, .slice a0 a1 a2]⟩ 29 (0, 0)) r wv ->
 ∀ a6 a7, New wv (.cells ⟨[.bool y0, .slice a3 a4 a5]⟩ 29 (0, 0)) a6 a7 ->
 ∀ a8 a9, New a7 (.cells ⟨[.bool false, .slice none 0 0]⟩ 29 (0, 0)) a8 a9 ->
 ∃ t6, Loads P 4 ((⟨r, 0, none⟩ : Addr).add 0) (.bool t6) a9 /\ ∃ t8, Loads P 4 ((⟨a6, 0, none⟩ : Addr).add 0) (.bool t8) a9 /\ ((t6 == t8) = true ->
 ∃ aa, (∀ wv_3, Ext a9.drew wv_3 -> Loads P 4 ((⟨r, 0, none⟩ : Addr).add 0) (.bool aa) wv_3) /\ ∃ ab ac ae, (∀ wv_4, Ext a9.drew wv_4 -> Loads P 22 ((⟨r, 0, none⟩ : Addr).add 1) (.slice ab ac ae) wv_4) /\ ∃ af ag ah, (∀ wv_5, Ext a9.drew wv_5 -> Loads P 22 ((⟨a6, 0, none⟩ : Addr).add 1) (.slice af ag ah) wv_5) /\ Calls P 86 ⟨[.slice ab ac ae, .slice af ag ah]⟩ a9.drew fun e ai =>
 ∃ aj ak al, e = .returned (.slice aj ak al) /\
 Ext a9.drew ai /\ Calls P 65 ⟨[.bool aa, .slice aj ak al]⟩ ai fun am an =>
 ∃ ao ap aq ar, am = .returned (.agg #[.bool ao, .slice ap aq ar]) /\
 ∃ wv_8, Stores P 29 ⟨a8, 0, none⟩ (.agg #[.bool ao, .slice ap aq ar]) an wv_8 /\
 ∃ r0 au av aw, Loads P 29 ⟨a8, 0, none⟩ (.agg #[.bool r0, .slice au av aw]) wv_8 /\ R (.agg #[.bool r0, .slice au av aw]) wv_8) /\
 ((t6 == t8) = false ->
 ∃ ax ay az, Loads P 22 ((⟨r, 0, none⟩ : Addr).add 1) (.slice ax ay az) a9 /\ ∃ b0 b1 b2, Loads P 22 ((⟨a6, 0, none⟩ : Addr).add 1) (.slice b0 b1 b2) a9 /\ Calls P 83 ⟨[.slice ax ay az, .slice b0 b1 b2]⟩ a9 fun b3 b4 =>
 ∃ b5, b3 = .returned (.int .i64 b5) /\
 ((decide ((0 : Int) <= b5)) = true ->
 ∃ b6, (∀ wv_10, Ext b4.drew wv_10 -> Loads P 4 ((⟨r, 0, none⟩ : Addr).add 0) (.bool b6) wv_10) /\ ∃ b7 b8 b9, (∀ wv_11, Ext b4.drew wv_11 -> Loads P 22 ((⟨r, 0, none⟩ : Addr).add 1) (.slice b7 b8 b9) wv_11) /\ ∃ ba bb bc, (∀ wv_12, Ext b4.drew wv_12 -> Loads P 22 ((⟨a6, 0, none⟩ : Addr).add 1) (.slice ba bb bc) wv_12) /\ Calls P 90 ⟨[.slice b7 b8 b9, .slice ba bb bc]⟩ b4.drew fun bd be =>
 ∃ bf bg bh, bd = .returned (.slice bf bg bh) /\
 Ext b4.drew be /\ Calls P 65 ⟨[.bool b6, .slice bf bg bh]⟩ be fun bi bj =>
 ∃ bk bl bm bn, bi = .returned (.agg #[.bool bk, .slice bl bm bn]) /\
 ∃ wv_15, Stores P 29 ⟨a8, 0, none⟩ (.agg #[.bool bk, .slice bl bm bn]) bj wv_15 /\
 ∃ r0_1 bo bp bq, Loads P 29 ⟨a8, 0, none⟩ (.agg #[.bool r0_1, .slice bo bp bq]) wv_15 /\ R (.agg #[.bool r0_1, .slice bo bp bq]) wv_15) /\
 ((decide ((0 : Int) <= b5)) = false ->
 ∃ br, (∀ wv_16, Ext b4.drew wv_16 -> Loads P 4 ((⟨a6, 0, none⟩ : Addr).add 0) (.bool br) wv_16) /\ ∃ bs bt bu, (∀ wv_17, Ext b4.drew wv_17 -> Loads P 22 ((⟨a6, 0, none⟩ : Addr).add 1) (.slice bs bt bu) wv_17) /\ ∃ bv bw bx, (∀ wv_18, Ext b4.drew wv_18 -> Loads P 22 ((⟨r, 0, none⟩ : Addr).add 1) (.slice bv bw bx) wv_18) /\ Calls P 90 ⟨[.slice bs bt bu, .slice bv bw bx]⟩ b4.drew fun bz c0 =>
 ∃ c1 c2 c3, bz = .returned (.slice c1 c2 c3) /\
 Ext b4.drew c0 /\ Calls P 65 ⟨[.bool br, .slice c1 c2 c3]⟩ c0 fun c4 c5 =>
 ∃ c6 c7 c8 c9, c4 = .returned (.agg #[.bool c6, .slice c7 c8 c9]) /\
 ∃ wv_21, Stores P 29 ⟨a8, 0, none⟩ (.agg #[.bool c6, .slice c7 c8 c9]) c5 wv_21 /\
 ∃ r0_2 ca cb cc, Loads P 29 ⟨a8, 0, none⟩ (.agg #[.bool r0_2, .slice ca cb cc]) wv_21 /\ R (.agg #[.bool r0_2, .slice ca cb cc]) wv_21))
theorem spec_l04Add_ret {x0 : Bool} {a : Option Addr} {a0 a1 : Nat} {y0 : Bool} {a2 : Option Addr} {a3 a4 : Nat} (h : spec_l04Add x0 a a0 a1 y0 a2 a3 a4 w R) : Ret P 66 [.agg #[.bool x0, .slice a a0 a1], .agg #[.bool y0, .slice a2 a3 a4]] w R := Ret.of_fsem Tryz.func66 rfl (Eq.mp (show _ = fsem P Tryz.f66 (fun k => []) _ R w from by kernel_rfl) h)
def spec_IntNeg (x0 : Bool) (a0 : Option Addr) (a1 a2 : Nat) (w : World) (R : Value -> World -> Prop) : Prop :=
 ∀ r wv, New w (.cells ⟨[.bool x0, .slice a0 a1 a2]⟩ 29 (0, 0)) r wv ->
 ∀ a3 a4, New wv (.cells ⟨[.bool false, .slice none 0 0]⟩ 29 (0, 0)) a3 a4 ->
 ∃ a5 a6 a7 a8, Loads P 29 ⟨r, 0, none⟩ (.agg #[.bool a5, .slice a6 a7 a8]) a4 /\ Calls P 26 ⟨[.agg #[.bool a5, .slice a6 a7 a8]]⟩ a4 fun e a9 =>
 ∃ t4, e = .returned (.bool t4) /\
 ((!t4) = true ->
 ∃ wv_3, Stores P 29 ⟨a3, 0, none⟩ (.agg #[.bool false, .slice none 0 0]) a9 wv_3 /\
 ∃ r0 aa ab ac, Loads P 29 ⟨a3, 0, none⟩ (.agg #[.bool r0, .slice aa ab ac]) wv_3 /\ R (.agg #[.bool r0, .slice aa ab ac]) wv_3) /\
 ((!t4) = false ->
 ∃ t8, Loads P 4 ((⟨r, 0, none⟩ : Addr).add 0) (.bool t8) a9 /\ ∃ ae af ag, Loads P 22 ((⟨r, 0, none⟩ : Addr).add 1) (.slice ae af ag) a9 /\ Calls P 65 ⟨[(.bool (!t8)), .slice ae af ag]⟩ a9 fun ah ai =>
 ∃ aj ak al am, ah = .returned (.agg #[.bool aj, .slice ak al am]) /\
 ∃ wv_5, Stores P 29 ⟨a3, 0, none⟩ (.agg #[.bool aj, .slice ak al am]) ai wv_5 /\
 ∃ r0_1 an ao ap, Loads P 29 ⟨a3, 0, none⟩ (.agg #[.bool r0_1, .slice an ao ap]) wv_5 /\ R (.agg #[.bool r0_1, .slice an ao ap]) wv_5)
theorem spec_IntNeg_ret {x0 : Bool} {a : Option Addr} {a0 a1 : Nat} (h : spec_IntNeg x0 a a0 a1 w R) : Ret P 67 [.agg #[.bool x0, .slice a a0 a1]] w R := Ret.of_fsem Tryz.func67 rfl (Eq.mp (show _ = fsem P Tryz.f67 (fun k => []) _ R w from by kernel_rfl) h)
def spec_IntCmp_j1 (r a0 : Nat) (a1 : Bool) (a2 : World) (R : Value -> World -> Prop) : Prop :=
 (a1 = true ->
 R (.int .i64 (-1)) a2) /\
 (a1 = false ->
 ∃ a3, Loads P 4 ((⟨r, 0, none⟩ : Addr).add 0) (.bool a3) a2 /\ ((!a3) = true ->
 ∃ a4, Loads P 4 ((⟨a0, 0, none⟩ : Addr).add 0) (.bool a4) a2 /\ (a4 = true ->
 R (.int .i64 1) a2) /\
 (a4 = false ->
 ∃ a5, Loads P 4 ((⟨r, 0, none⟩ : Addr).add 0) (.bool a5) a2 /\ (a5 = true ->
 ∃ a6 a7 a8, Loads P 22 ((⟨a0, 0, none⟩ : Addr).add 1) (.slice a6 a7 a8) a2 /\ ∃ a9 aa ab, Loads P 22 ((⟨r, 0, none⟩ : Addr).add 1) (.slice a9 aa ab) a2 /\ Calls P 83 ⟨[.slice a6 a7 a8, .slice a9 aa ab]⟩ a2 fun ac ae =>
 ∃ af, ac = .returned (.int .i64 af) /\
 R (.int .i64 af) ae) /\
 (a5 = false ->
 ∃ ag ah ai, Loads P 22 ((⟨r, 0, none⟩ : Addr).add 1) (.slice ag ah ai) a2 /\ ∃ aj ak al, Loads P 22 ((⟨a0, 0, none⟩ : Addr).add 1) (.slice aj ak al) a2 /\ Calls P 83 ⟨[.slice ag ah ai, .slice aj ak al]⟩ a2 fun am an =>
 ∃ ao, am = .returned (.int .i64 ao) /\
 R (.int .i64 ao) an))) /\
 ((!a3) = false ->
 (false = true ->
 R (.int .i64 1) a2) /\
 (false = false ->
 ∃ ap, Loads P 4 ((⟨r, 0, none⟩ : Addr).add 0) (.bool ap) a2 /\ (ap = true ->
 ∃ aq ar au, Loads P 22 ((⟨a0, 0, none⟩ : Addr).add 1) (.slice aq ar au) a2 /\ ∃ av aw ax, Loads P 22 ((⟨r, 0, none⟩ : Addr).add 1) (.slice av aw ax) a2 /\ Calls P 83 ⟨[.slice aq ar au, .slice av aw ax]⟩ a2 fun ay az =>
 ∃ b0, ay = .returned (.int .i64 b0) /\
 R (.int .i64 b0) az) /\
 (ap = false ->
 ∃ b1 b2 b3, Loads P 22 ((⟨r, 0, none⟩ : Addr).add 1) (.slice b1 b2 b3) a2 /\ ∃ b4 b5 b6, Loads P 22 ((⟨a0, 0, none⟩ : Addr).add 1) (.slice b4 b5 b6) a2 /\ Calls P 83 ⟨[.slice b1 b2 b3, .slice b4 b5 b6]⟩ a2 fun b7 b8 =>
 ∃ b9, b7 = .returned (.int .i64 b9) /\
 R (.int .i64 b9) b8))))
def spec_IntCmp_j0 (r a0 : Nat) (t5 : Bool) (W : World) (R : Value -> World -> Prop) : Prop :=
 (t5 = true ->
 R (.int .i64 0) W) /\
 (t5 = false ->
 ∃ a1, Loads P 4 ((⟨r, 0, none⟩ : Addr).add 0) (.bool a1) W /\ (a1 = true ->
 ∃ a2, Loads P 4 ((⟨a0, 0, none⟩ : Addr).add 0) (.bool a2) W /\ spec_IntCmp_j1 r a0 (!a2) W R) /\
 (a1 = false ->
 spec_IntCmp_j1 r a0 false W R))
def spec_IntCmp (x0 : Bool) (a0 : Option Addr) (a1 a2 : Nat) (y0 : Bool) (a3 : Option Addr) (a4 a5 : Nat) (w : World) (R : Value -> World -> Prop) : Prop :=
 ∀ r wv, New w (.cells ⟨[.bool x0, .slice a0 a1 a2]⟩ 29 (0, 0)) r wv ->
 ∀ a6 a7, New wv (.cells ⟨[.bool y0, .slice a3 a4 a5]⟩ 29 (0, 0)) a6 a7 ->
 ∃ a8 a9 aa ab, Loads P 29 ⟨r, 0, none⟩ (.agg #[.bool a8, .slice a9 aa ab]) a7 /\ Calls P 26 ⟨[.agg #[.bool a8, .slice a9 aa ab]]⟩ a7 fun e ac =>
 ∃ t7, e = .returned (.bool t7) /\
 ((!t7) = true ->
 spec_IntCmp_j0 r a6 true ac R) /\
 ((!t7) = false ->
 ∃ ae af ag ah, Loads P 29 ⟨a6, 0, none⟩ (.agg #[.bool ae, .slice af ag ah]) ac /\ Calls P 26 ⟨[.agg #[.bool ae, .slice af ag ah]]⟩ ac fun ai aj =>
 ∃ ak, ai = .returned (.bool ak) /\
 spec_IntCmp_j0 r a6 (!ak) aj R)
theorem spec_IntCmp_ret {x0 : Bool} {a : Option Addr} {a0 a1 : Nat} {y0 : Bool} {a2 : Option Addr} {a3 a4 : Nat} (h : spec_IntCmp x0 a a0 a1 y0 a2 a3 a4 w R) : Ret P 68 [.agg #[.bool x0, .slice a a0 a1], .agg #[.bool y0, .slice a2 a3 a4]] w R := Ret.of_fsem Tryz.func68 rfl (Eq.mp (show _ = fsem P Tryz.f68 (fun k => []) _ R w from by kernel_rfl) h)
def impl_NatOk_j0 (a0 : Option Addr) (a1 : Nat) (W : World) (R : Value -> World -> Prop) : Prop :=
 ∃ (a2 : Int -> World -> Prop) (mu : Int -> World -> Nat), a2 0 W /\
 ∀ (a3 : Fr) (wv : World) (a4 : Int), a2 a4 wv ->
 ((decide ((a4 : Int) < ((a1 : Nat) : Int))) = true ->
 (0 <= (a4 : Int) /\ (a4 : Int) < (a1 : Nat)) /\ ptrS a0 fun ad => ∃ a5, Loads P 3 (ad.add (a4.toNat * 1)) (.int .i64 a5) wv /\ ((decide ((a5 : Int) < 0)) = true ->
 (true = true ->
 R (.bool false) wv) /\
 (true = false ->
 ∃ a6 : Int, a6 = IntKind.wrap .i64 (a4 + 1) /\ a2 a6 wv /\ mu a6 wv < mu a4 wv)) /\
 ((decide ((a5 : Int) < 0)) = false ->
 ((decide ((1000000000 : Int) <= a5)) = true ->
 R (.bool false) wv) /\
 ((decide ((1000000000 : Int) <= a5)) = false ->
 ∃ a7 : Int, a7 = IntKind.wrap .i64 (a4 + 1) /\ a2 a7 wv /\ mu a7 wv < mu a4 wv))) /\
 ((decide ((a4 : Int) < ((a1 : Nat) : Int))) = false ->
 R (.bool true) wv)
def impl_NatOk (a0 : Option Addr) (a1 a2 : Nat) (w : World) (R : Value -> World -> Prop) : Prop :=
 ((decide ((50 : Int) < ((a1 : Nat) : Int))) = true ->
 (true = true ->
 R (.bool false) w) /\
 (true = false ->
 impl_NatOk_j0 a0 a1 w R)) /\
 ((decide ((50 : Int) < ((a1 : Nat) : Int))) = false ->
 ((decide ((0 : Int) < ((a1 : Nat) : Int))) = true ->
 ∃ a3 : Int, a3 = IntKind.wrap .i64 (((a1 : Nat) : Int) - 1) /\ (0 <= (a3 : Int) /\ (a3 : Int) < (a1 : Nat)) /\ ptrS a0 fun a4 => ∃ a5, Loads P 3 (a4.add (a3.toNat * 1)) (.int .i64 a5) w /\ ((decide ((a5 : Int) = 0)) = true ->
 R (.bool false) w) /\
 ((decide ((a5 : Int) = 0)) = false ->
 impl_NatOk_j0 a0 a1 w R)) /\
 ((decide ((0 : Int) < ((a1 : Nat) : Int))) = false ->
 (false = true ->
 R (.bool false) w) /\
 (false = false ->
 impl_NatOk_j0 a0 a1 w R)))
theorem impl_NatOk_ret {a : Option Addr} {a0 a1 : Nat} (h : impl_NatOk a a0 a1 w R) : Ret P 69 [.slice a a0 a1] w R := Ret.of_fsem Tryz.func69 rfl (Eq.mp (show _ = fsem P Tryz.f69 (fun k => cond (Nat.beq k 5) [(24, .one (.int .i64))] ([])) _ R w from by kernel_rfl) h)
def impl_natOf (n : Int) (w : World) (R : Value -> World -> Prop) : Prop :=
 ∀ r wv, New w (.cells ⟨[]⟩ 3 (0, 0)) r wv ->
 ∃ (a0 : Int -> Option Addr -> Nat -> Nat -> World -> Prop) (mu : Int -> Option Addr -> Nat -> Nat -> World -> Nat), a0 n (some ⟨r, 0, none⟩) 0 0 wv /\
 ∀ (a1 : Fr) (a2 : World) (n_1 : Int) (a3 : Option Addr) (a4 a5 : Nat), a0 n_1 a3 a4 a5 a2 ->
 ((decide ((0 : Int) < n_1)) = true ->
 (1000000000 : Int) ≠ 0 /\ ∃ t9 : Int, t9 = Int.tmod n_1 1000000000 /\ ∃ a6 : Int, a6 = IntKind.wrap .i64 t9 /\ ∀ a7 a8, New a2 (.cells ⟨[.int .i64 a6]⟩ 3 (0, 0)) a7 a8 ->
 ∃ a9 aa ab ac, Appends P [22, 22] [.slice a3 a4 a5, (.slice (some ⟨a7, 0, none⟩) 1 1)] (.slice a9 aa ab) a8 ac /\
 (1000000000 : Int) ≠ 0 /\ ∃ ae : Int, ae = IntKind.wrap .u64 (Int.tdiv n_1 1000000000) /\ a0 ae a9 aa ab ac /\ mu ae a9 aa ab ac < mu n_1 a3 a4 a5 a2) /\
 ((decide ((0 : Int) < n_1)) = false ->
 R (.slice a3 a4 a5) a2)
theorem impl_natOf_ret {n : Int} (h : impl_natOf n w R) : Ret P 70 [.int .u64 n] w R := Ret.of_fsem Tryz.func70 rfl (Eq.mp (show _ = fsem P Tryz.f70 (fun k => cond (Nat.beq k 3) [(0, .one (.int .u64)), (3, .one .slice)] ([])) _ R w from by kernel_rfl) h)
def impl_reduce (num0 : Bool) (a0 : Option Addr) (a1 a2 : Nat) (a3 : Option Addr) (a4 a5 : Nat) (w : World) (R : Value -> World -> Prop) : Prop :=
 ∀ r wv, New w (.cells ⟨[.bool num0, .slice a0 a1 a2]⟩ 29 (0, 0)) r wv ->
 ∀ a6 a7, New wv (.cells ⟨[.bool false, .slice none 0 0, .slice none 0 0]⟩ 44 (0, 0)) a6 a7 ->
 ∃ a8 a9 aa, Loads P 22 ((⟨r, 0, none⟩ : Addr).add 1) (.slice a8 a9 aa) a7 /\ Calls P 91 ⟨[.slice a8 a9 aa, .slice a3 a4 a5]⟩ a7 fun e ab =>
 ∃ ac ae af, e = .returned (.slice ac ae af) /\
 ∃ ag ah ai, Loads P 22 ((⟨r, 0, none⟩ : Addr).add 1) (.slice ag ah ai) ab /\ Calls P 42 ⟨[.slice ag ah ai, .slice ac ae af]⟩ ab fun aj ak =>
 ∃ al am an ao ap aq, aj = .returned (.tuple #[.slice al am an, .slice ao ap aq]) /\
 Calls P 42 ⟨[.slice a3 a4 a5, .slice ac ae af]⟩ ak fun ar au =>
 ∃ av aw ax ay az b0, ar = .returned (.tuple #[.slice av aw ax, .slice ay az b0]) /\
 ((decide ((18 : Int) < ((am : Nat) : Int))) = true ->
 (true = true ->
 ∃ wv_5, Stores P 44 ⟨a6, 0, none⟩ (.agg #[.bool false, .slice none 0 0, .slice none 0 0]) au wv_5 /\
 ∃ r0 b1 b2 b3 b4 b5 b6, Loads P 44 ⟨a6, 0, none⟩ (.agg #[.bool r0, .slice b1 b2 b3, .slice b4 b5 b6]) wv_5 /\ R (.tuple #[.agg #[.bool r0, .slice b1 b2 b3, .slice b4 b5 b6], .bool false]) wv_5) /\
 (true = false ->
 ∃ b7, Loads P 4 ((⟨r, 0, none⟩ : Addr).add 0) (.bool b7) au /\ Calls P 52 ⟨[.bool b7, .slice al am an]⟩ au fun b8 b9 =>
 ∃ ba bb bc bd, b8 = .returned (.agg #[.bool ba, .slice bb bc bd]) /\
 ∃ wv_7, Stores P 44 ⟨a6, 0, none⟩ (.agg #[.bool ba, .slice bb bc bd, .slice av aw ax]) b9 wv_7 /\
 ∃ r0_1 be bf bg bh bi bj, Loads P 44 ⟨a6, 0, none⟩ (.agg #[.bool r0_1, .slice be bf bg, .slice bh bi bj]) wv_7 /\ R (.tuple #[.agg #[.bool r0_1, .slice be bf bg, .slice bh bi bj], .bool true]) wv_7)) /\
 ((decide ((18 : Int) < ((am : Nat) : Int))) = false ->
 ((decide ((18 : Int) < ((aw : Nat) : Int))) = true ->
 ∃ wv_8, Stores P 44 ⟨a6, 0, none⟩ (.agg #[.bool false, .slice none 0 0, .slice none 0 0]) au wv_8 /\
 ∃ r0_2 bk bl bm bn bo bp, Loads P 44 ⟨a6, 0, none⟩ (.agg #[.bool r0_2, .slice bk bl bm, .slice bn bo bp]) wv_8 /\ R (.tuple #[.agg #[.bool r0_2, .slice bk bl bm, .slice bn bo bp], .bool false]) wv_8) /\
 ((decide ((18 : Int) < ((aw : Nat) : Int))) = false ->
 ∃ bq, Loads P 4 ((⟨r, 0, none⟩ : Addr).add 0) (.bool bq) au /\ Calls P 52 ⟨[.bool bq, .slice al am an]⟩ au fun br bs =>
 ∃ bt bu bv bw, br = .returned (.agg #[.bool bt, .slice bu bv bw]) /\
 ∃ wv_10, Stores P 44 ⟨a6, 0, none⟩ (.agg #[.bool bt, .slice bu bv bw, .slice av aw ax]) bs wv_10 /\
 ∃ r0_3 bx bz c0 c1 c2 c3, Loads P 44 ⟨a6, 0, none⟩ (.agg #[.bool r0_3, .slice bx bz c0, .slice c1 c2 c3]) wv_10 /\ R (.tuple #[.agg #[.bool r0_3, .slice bx bz c0, .slice c1 c2 c3], .bool true]) wv_10))
theorem impl_reduce_ret {a : Bool} {a0 : Option Addr} {a1 a2 : Nat} {a3 : Option Addr} {a4 a5 : Nat} (h : impl_reduce a a0 a1 a2 a3 a4 a5 w R) : Ret P 71 [.agg #[.bool a, .slice a0 a1 a2], .slice a3 a4 a5] w R := Ret.of_fsem Tryz.func71 rfl (Eq.mp (show _ = fsem P Tryz.f71 (fun k => []) _ R w from by kernel_rfl) h)
def impl_natSmall (a0 : Option Addr) (a1 a2 : Nat) (d : Int) (w : World) (R : Value -> World -> Prop) : Prop :=
 (0 <= (((a1 : Nat) : Int) : Int) /\ (((a1 : Nat) : Int) : Int) <= ((a1 : Nat) : Int) /\ ((8 : Nat) : Int) * ((a1 : Nat) : Int) <= 281474976710656) /\
 ∀ r wv, New w (.cells ⟨zeroRow (.int .i64 0) (a1 * 1)⟩ 3 (0, 0)) r wv ->
 ∃ a3 : Int, a3 = IntKind.wrap .i64 (((a1 : Nat) : Int) - 1) /\ ∃ (a4 : Int -> Int -> World -> Prop) (mu : Int -> Int -> World -> Nat), a4 0 a3 wv /\
 ∀ (a5 : Fr) (a6 : World) (rest i : Int), a4 rest i a6 ->
 ((decide ((0 : Int) <= i)) = true ->
 ∃ a7 : Int, a7 = IntKind.wrap .i64 (rest * 1000000000) /\ (0 <= (i : Int) /\ (i : Int) < (a1 : Nat)) /\ ptrS a0 fun ad => ∃ a8, Loads P 3 (ad.add (i.toNat * 1)) (.int .i64 a8) a6 /\ ∃ a9 : Int, a9 = IntKind.wrap .i64 (a7 + a8) /\ (d : Int) ≠ 0 /\ ∃ aa : Int, aa = IntKind.wrap .i64 (Int.tdiv a9 d) /\ (0 <= (i : Int) /\ (i : Int) < (a1 : Nat)) /\ ∃ wv_2, Stores P 3 ((⟨r, 0, none⟩ : Addr).add (i.toNat * 1)) (.int .i64 aa) a6 wv_2 /\
 (d : Int) ≠ 0 /\ ∃ ab : Int, ab = Int.tmod a9 d /\ ∃ ac : Int, ac = IntKind.wrap .i64 (i - 1) /\ a4 ab ac wv_2 /\ mu ab ac wv_2 < mu rest i a6) /\
 ((decide ((0 : Int) <= i)) = false ->
 Calls P 74 ⟨[(.slice (some ⟨r, 0, none⟩) a1 a1)]⟩ a6 fun e ae =>
 ∃ af ag ah, e = .returned (.slice af ag ah) /\
 R (.tuple #[.slice af ag ah, .int .i64 rest]) ae)
theorem impl_natSmall_ret {a : Option Addr} {a0 a1 : Nat} {d : Int} (h : impl_natSmall a a0 a1 d w R) : Ret P 72 [.slice a a0 a1, .int .i64 d] w R := Ret.of_fsem Tryz.func72 rfl (Eq.mp (show _ = fsem P Tryz.f72 (fun k => cond (Nat.beq k 5) [(7, .one (.int .i64)), (8, .one (.int .i64))] ([])) _ R w from by kernel_rfl) h)
def impl_divStep_j0 (q_1 : Int) (W : World) (R : Value -> World -> Prop) : Prop :=
 R (.int .i64 q_1) W
def impl_divStep_j1 (q_2 : Int) (a0 : World) (R : Value -> World -> Prop) : Prop :=
 R (.int .i64 q_2) a0
def impl_divStep_j2 (q_3 : Int) (a0 : World) (R : Value -> World -> Prop) : Prop :=
 R (.int .i64 q_3) a0
def impl_divStep_j3 (q_4 : Int) (a0 : World) (R : Value -> World -> Prop) : Prop :=
 R (.int .i64 q_4) a0
def impl_divStep (a0 : Option Addr) (a1 a2 : Nat) (a3 : Option Addr) (a4 a5 : Nat) (w : World) (R : Value -> World -> Prop) : Prop :=
 (0 <= (((a4 : Nat) : Int) : Int) /\ (((a4 : Nat) : Int) : Int) < (a1 : Nat)) /\ ptrS a0 fun ad => ∃ a6, (∀ wv, Ext w.drew wv -> Loads P 3 (ad.add (a4 * 1)) (.int .i64 a6) wv) /\ ∃ a7 : Int, a7 = IntKind.wrap .i64 (a6 * 1000000000) /\ ∃ a8 : Int, a8 = IntKind.wrap .i64 (((a4 : Nat) : Int) - 1) /\ (0 <= (a8 : Int) /\ (a8 : Int) < (a1 : Nat)) /\ ptrS a0 fun a9 => ∃ aa, (∀ wv_1, Ext w.drew wv_1 -> Loads P 3 (a9.add (a8.toNat * 1)) (.int .i64 aa) wv_1) /\ ∃ ab : Int, ab = IntKind.wrap .i64 (a7 + aa) /\ ∃ ac : Int, ac = IntKind.wrap .i64 (((a4 : Nat) : Int) - 1) /\ (0 <= (ac : Int) /\ (ac : Int) < (a4 : Nat)) /\ ptrS a3 fun ae => ∃ af, Loads P 3 (ae.add (ac.toNat * 1)) (.int .i64 af) w.drew /\ (af : Int) ≠ 0 /\ ∃ ag : Int, ag = IntKind.wrap .i64 (Int.tdiv ab af) /\ ∃ ah : Int, ah = (if 999999999 < ag then 999999999 else ag) /\ ∃ (ai : Int -> World -> Prop) (mu : Int -> World -> Nat), ai ah w.drew /\
 ∀ (aj : Fr) (ak : World) (q : Int), ai q ak ->
 ((decide ((0 : Int) < q)) = true ->
 ∃ al : Int, al = IntKind.wrap .i64 (((a4 : Nat) : Int) - 1) /\ (0 <= (al : Int) /\ (al : Int) < (a4 : Nat)) /\ ptrS a3 fun am => ∃ an, (∀ wv_3, Ext ak.drew wv_3 -> Loads P 3 (am.add (al.toNat * 1)) (.int .i64 an) wv_3) /\ ∃ ao : Int, ao = IntKind.wrap .i64 (q * an) /\ ∃ ap : Int, ap = IntKind.wrap .i64 (ab - ao) /\ ((decide ((ap : Int) < 1000000000)) = true ->
 ∃ aq : Int, aq = IntKind.wrap .i64 (((a4 : Nat) : Int) - 2) /\ (0 <= (aq : Int) /\ (aq : Int) < (a4 : Nat)) /\ ptrS a3 fun ar => ∃ au, (∀ wv_4, Ext ak.drew wv_4 -> Loads P 3 (ar.add (aq.toNat * 1)) (.int .i64 au) wv_4) /\ ∃ av : Int, av = IntKind.wrap .i64 (q * au) /\ ∃ aw : Int, aw = IntKind.wrap .i64 (((a4 : Nat) : Int) - 1) /\ (0 <= (aw : Int) /\ (aw : Int) < (a4 : Nat)) /\ ptrS a3 fun ax => ∃ ay, (∀ wv_5, Ext ak.drew wv_5 -> Loads P 3 (ax.add (aw.toNat * 1)) (.int .i64 ay) wv_5) /\ ∃ az : Int, az = IntKind.wrap .i64 (q * ay) /\ ∃ b0 : Int, b0 = IntKind.wrap .i64 (ab - az) /\ ∃ b1 : Int, b1 = IntKind.wrap .i64 (b0 * 1000000000) /\ ∃ b2 : Int, b2 = IntKind.wrap .i64 (((a4 : Nat) : Int) - 2) /\ (0 <= (b2 : Int) /\ (b2 : Int) < (a1 : Nat)) /\ ptrS a0 fun b3 => ∃ b4, (∀ wv_6, Ext ak.drew wv_6 -> Loads P 3 (b3.add (b2.toNat * 1)) (.int .i64 b4) wv_6) /\ ∃ b5 : Int, b5 = IntKind.wrap .i64 (b1 + b4) /\ ((decide ((b5 : Int) < av)) = true ->
 ∃ b6 : Int, b6 = IntKind.wrap .i64 (q - 1) /\ ai b6 ak.drew /\ mu b6 ak.drew < mu q ak) /\
 ((decide ((b5 : Int) < av)) = false ->
 Calls P 92 ⟨[.slice a0 a1 a2, .slice a3 a4 a5, .int .i64 q]⟩ ak.drew fun e b7 =>
 ∃ b8, e = .returned (.bool b8) /\
 (b8 = true ->
 ∃ b9 : Int, b9 = IntKind.wrap .i64 (q - 1) /\ Calls P 93 ⟨[.slice a0 a1 a2, .slice a3 a4 a5]⟩ b7 fun ba bb =>
 ba = .returned (.tuple #[]) /\
 impl_divStep_j0 b9 bb R) /\
 (b8 = false ->
 impl_divStep_j0 q b7 R))) /\
 ((decide ((ap : Int) < 1000000000)) = false ->
 (false = true ->
 ∃ bc : Int, bc = IntKind.wrap .i64 (q - 1) /\ ai bc ak.drew /\ mu bc ak.drew < mu q ak) /\
 (false = false ->
 Calls P 92 ⟨[.slice a0 a1 a2, .slice a3 a4 a5, .int .i64 q]⟩ ak.drew fun bd be =>
 ∃ bf, bd = .returned (.bool bf) /\
 (bf = true ->
 ∃ bg : Int, bg = IntKind.wrap .i64 (q - 1) /\ Calls P 93 ⟨[.slice a0 a1 a2, .slice a3 a4 a5]⟩ be fun bh bi =>
 bh = .returned (.tuple #[]) /\
 impl_divStep_j1 bg bi R) /\
 (bf = false ->
 impl_divStep_j1 q be R)))) /\
 ((decide ((0 : Int) < q)) = false ->
 (false = true ->
 ∃ bj : Int, bj = IntKind.wrap .i64 (((a4 : Nat) : Int) - 2) /\ (0 <= (bj : Int) /\ (bj : Int) < (a4 : Nat)) /\ ptrS a3 fun bk => ∃ bl, (∀ wv_11, Ext ak.drew wv_11 -> Loads P 3 (bk.add (bj.toNat * 1)) (.int .i64 bl) wv_11) /\ ∃ bm : Int, bm = IntKind.wrap .i64 (q * bl) /\ ∃ bn : Int, bn = IntKind.wrap .i64 (((a4 : Nat) : Int) - 1) /\ (0 <= (bn : Int) /\ (bn : Int) < (a4 : Nat)) /\ ptrS a3 fun bo => ∃ bp, (∀ wv_12, Ext ak.drew wv_12 -> Loads P 3 (bo.add (bn.toNat * 1)) (.int .i64 bp) wv_12) /\ ∃ bq : Int, bq = IntKind.wrap .i64 (q * bp) /\ ∃ br : Int, br = IntKind.wrap .i64 (ab - bq) /\ ∃ bs : Int, bs = IntKind.wrap .i64 (br * 1000000000) /\ ∃ bt : Int, bt = IntKind.wrap .i64 (((a4 : Nat) : Int) - 2) /\ (0 <= (bt : Int) /\ (bt : Int) < (a1 : Nat)) /\ ptrS a0 fun bu => ∃ bv, (∀ wv_13, Ext ak.drew wv_13 -> Loads P 3 (bu.add (bt.toNat * 1)) (.int .i64 bv) wv_13) /\ ∃ bw : Int, bw = IntKind.wrap .i64 (bs + bv) /\ ((decide ((bw : Int) < bm)) = true ->
 ∃ bx : Int, bx = IntKind.wrap .i64 (q - 1) /\ ai bx ak.drew /\ mu bx ak.drew < mu q ak) /\
 ((decide ((bw : Int) < bm)) = false ->
 Calls P 92 ⟨[.slice a0 a1 a2, .slice a3 a4 a5, .int .i64 q]⟩ ak.drew fun bz c0 =>
 ∃ c1, bz = .returned (.bool c1) /\
 (c1 = true ->
 ∃ c2 : Int, c2 = IntKind.wrap .i64 (q - 1) /\ Calls P 93 ⟨[.slice a0 a1 a2, .slice a3 a4 a5]⟩ c0 fun c3 c4 =>
 c3 = .returned (.tuple #[]) /\
 impl_divStep_j2 c2 c4 R) /\
 (c1 = false ->
 impl_divStep_j2 q c0 R))) /\
 (false = false ->
 (false = true ->
 ∃ c5 : Int, c5 = IntKind.wrap .i64 (q - 1) /\ ai c5 ak.drew /\ mu c5 ak.drew < mu q ak) /\
 (false = false ->
 Calls P 92 ⟨[.slice a0 a1 a2, .slice a3 a4 a5, .int .i64 q]⟩ ak.drew fun c6 c7 =>
 ∃ c8, c6 = .returned (.bool c8) /\
 (c8 = true ->
 ∃ c9 : Int, c9 = IntKind.wrap .i64 (q - 1) /\ Calls P 93 ⟨[.slice a0 a1 a2, .slice a3 a4 a5]⟩ c7 fun ca cb =>
 ca = .returned (.tuple #[]) /\
 impl_divStep_j3 c9 cb R) /\
 (c8 = false ->
 impl_divStep_j3 q c7 R))))
theorem impl_divStep_ret {a : Option Addr} {a0 a1 : Nat} {a2 : Option Addr} {a3 a4 : Nat} (h : impl_divStep a a0 a1 a2 a3 a4 w R) : Ret P 73 [.slice a a0 a1, .slice a2 a3 a4] w R := Ret.of_fsem Tryz.func73 rfl (Eq.mp (show _ = fsem P Tryz.f73 (fun k => cond (Nat.beq k 5) [(7, .one (.int .i64))] ([])) _ R w from by kernel_rfl) h)
def impl_trim (a0 : Option Addr) (a1 a2 : Nat) (w : World) (R : Value -> World -> Prop) : Prop :=
 ∃ (a3 : Option Addr -> Nat -> Nat -> World -> Prop) (mu : Option Addr -> Nat -> Nat -> World -> Nat), a3 a0 a1 a2 w /\
 ∀ (a4 : Fr) (wv : World) (a5 : Option Addr) (a6 a7 : Nat), a3 a5 a6 a7 wv ->
 ((decide ((0 : Int) < ((a6 : Nat) : Int))) = true ->
 ∃ a8 : Int, a8 = IntKind.wrap .i64 (((a6 : Nat) : Int) - 1) /\ (0 <= (a8 : Int) /\ (a8 : Int) < (a6 : Nat)) /\ ptrS a5 fun ad => ∃ a9, Loads P 3 (ad.add (a8.toNat * 1)) (.int .i64 a9) wv /\ ((decide ((a9 : Int) = 0)) = true ->
 ∃ aa : Int, aa = IntKind.wrap .i64 (((a6 : Nat) : Int) - 1) /\ (0 <= (aa : Int) /\ (aa : Int) <= (a7 : Nat)) /\ a3 (sub a5 0 a7 1) (aa.toNat - 0) (a7 - 0) wv /\ mu (sub a5 0 a7 1) (aa.toNat - 0) (a7 - 0) wv < mu a5 a6 a7 wv) /\
 ((decide ((a9 : Int) = 0)) = false ->
 R (.slice a5 a6 a7) wv)) /\
 ((decide ((0 : Int) < ((a6 : Nat) : Int))) = false ->
 (false = true ->
 ∃ ab : Int, ab = IntKind.wrap .i64 (((a6 : Nat) : Int) - 1) /\ (0 <= (ab : Int) /\ (ab : Int) <= (a7 : Nat)) /\ a3 (sub a5 0 a7 1) (ab.toNat - 0) (a7 - 0) wv /\ mu (sub a5 0 a7 1) (ab.toNat - 0) (a7 - 0) wv < mu a5 a6 a7 wv) /\
 (false = false ->
 R (.slice a5 a6 a7) wv))
theorem impl_trim_ret {a : Option Addr} {a0 a1 : Nat} (h : impl_trim a a0 a1 w R) : Ret P 74 [.slice a a0 a1] w R := Ret.of_fsem Tryz.func74 rfl (Eq.mp (show _ = fsem P Tryz.f74 (fun k => cond (Nat.beq k 2) [(0, .one .slice)] ([])) _ R w from by kernel_rfl) h)
def slices_Clone_impl_part_impl_part (a0 : Option Addr) (a1 a2 : Nat) (w : World) (R : Value -> World -> Prop) : Prop :=
 ((Option.isNone (α := Addr) a0) = true ->
 R (.slice none 0 0) w) /\
 ((Option.isNone (α := Addr) a0) = false ->
 ∀ r wv, New w (.cells ⟨[]⟩ 69 (0, 0)) r wv ->
 ∃ a3 a4 a5 a6, Appends P [64, 64] [(.slice (some ⟨r, 0, none⟩) 0 0), .slice a0 a1 a2] (.slice a3 a4 a5) wv a6 /\
 R (.slice a3 a4 a5) a6)
theorem slices_Clone_impl_part_impl_part_ret {a : Option Addr} {a0 a1 : Nat} (h : slices_Clone_impl_part_impl_part a a0 a1 w R) : Ret P 75 [.slice a a0 a1] w R := Ret.of_fsem Tryz.func75 rfl (Eq.mp (show _ = fsem P Tryz.f75 (fun k => []) _ R w from by kernel_rfl) h)
def slices_SortStableFunc_impl_part_impl_part (a0 : Option Addr) (a1 a2 : Nat) (cmp : Value) (w : World) (R : Value -> World -> Prop) : Prop :=
 Calls P 94 ⟨[.slice a0 a1 a2, (.int .i64 ((a1 : Nat) : Int)), cmp]⟩ w fun e wv =>
 e = .returned (.tuple #[]) /\
 R (.tuple #[]) wv
theorem slices_SortStableFunc_impl_part_impl_part_ret {a : Option Addr} {a0 a1 : Nat} {a2 : Value} (h : slices_SortStableFunc_impl_part_impl_part a a0 a1 a2 w R) : Ret P 76 [.slice a a0 a1, a2] w R := Ret.of_fsem Tryz.func76 rfl (Eq.mp (show _ = fsem P Tryz.f76 (fun k => []) _ R w from by kernel_rfl) h)
def cmp_isNaN_int (x : Int) (w : World) (R : Value -> World -> Prop) : Prop :=
 R (.bool (decide ((x : Int) ≠ x))) w
theorem cmp_isNaN_int_ret {x : Int} (h : cmp_isNaN_int x w R) : Ret P 77 [.int .i64 x] w R := Ret.of_fsem Tryz.func77 rfl (Eq.mp (show _ = fsem P Tryz.f77 (fun k => []) _ R w from by kernel_rfl) h)
def spec_l02Trim (a0 : Option Addr) (a1 a2 : Nat) (w : World) (R : Value -> World -> Prop) : Prop :=
 ∃ (a3 : Int -> World -> Prop) (mu : Int -> World -> Nat), a3 ((a1 : Nat) : Int) w /\
 ∀ (a4 : Fr) (wv : World) (n : Int), a3 n wv ->
 ((decide ((0 : Int) < n)) = true ->
 ∃ a5 : Int, a5 = IntKind.wrap .i64 (n - 1) /\ (0 <= (a5 : Int) /\ (a5 : Int) < (a1 : Nat)) /\ ptrS a0 fun ad => ∃ a6, Loads P 3 (ad.add (a5.toNat * 1)) (.int .i64 a6) wv /\ ((decide ((a6 : Int) = 0)) = true ->
 ∃ a7 : Int, a7 = IntKind.wrap .i64 (n - 1) /\ a3 a7 wv /\ mu a7 wv < mu n wv) /\
 ((decide ((a6 : Int) = 0)) = false ->
 (0 <= (n : Int) /\ (n : Int) <= (a2 : Nat)) /\ R (.slice (sub a0 0 a2 1) (n.toNat - 0) (a2 - 0)) wv)) /\
 ((decide ((0 : Int) < n)) = false ->
 (false = true ->
 ∃ a8 : Int, a8 = IntKind.wrap .i64 (n - 1) /\ a3 a8 wv /\ mu a8 wv < mu n wv) /\
 (false = false ->
 (0 <= (n : Int) /\ (n : Int) <= (a2 : Nat)) /\ R (.slice (sub a0 0 a2 1) (n.toNat - 0) (a2 - 0)) wv))
theorem spec_l02Trim_ret {a : Option Addr} {a0 a1 : Nat} (h : spec_l02Trim a a0 a1 w R) : Ret P 80 [.slice a a0 a1] w R := Ret.of_fsem Tryz.func80 rfl (Eq.mp (show _ = fsem P Tryz.f80 (fun k => cond (Nat.beq k 3) [(3, .one (.int .i64))] ([])) _ R w from by kernel_rfl) h)
def spec_l05Gcd (a0 : Option Addr) (a1 a2 : Nat) (a3 : Option Addr) (a4 a5 : Nat) (w : World) (R : Value -> World -> Prop) : Prop :=
 ∃ (a6 : Option Addr -> Nat -> Nat -> Option Addr -> Nat -> Nat -> World -> Prop) (mu : Option Addr -> Nat -> Nat -> Option Addr -> Nat -> Nat -> World -> Nat), a6 a0 a1 a2 a3 a4 a5 w /\
 ∀ (a7 : Fr) (wv : World) (a8 : Option Addr) (a9 aa : Nat) (ab : Option Addr) (ac ae : Nat), a6 a8 a9 aa ab ac ae wv ->
 ((decide ((0 : Int) < ((ac : Nat) : Int))) = true ->
 Calls P 82 ⟨[.slice a8 a9 aa, .slice ab ac ae]⟩ wv fun e af =>
 ∃ ag ah ai aj ak al, e = .returned (.tuple #[.slice ag ah ai, .slice aj ak al]) /\
 a6 ab ac ae aj ak al af /\ mu ab ac ae aj ak al af < mu a8 a9 aa ab ac ae wv) /\
 ((decide ((0 : Int) < ((ac : Nat) : Int))) = false ->
 R (.slice a8 a9 aa) wv)
theorem spec_l05Gcd_ret {a : Option Addr} {a0 a1 : Nat} {a2 : Option Addr} {a3 a4 : Nat} (h : spec_l05Gcd a a0 a1 a2 a3 a4 w R) : Ret P 81 [.slice a a0 a1, .slice a2 a3 a4] w R := Ret.of_fsem Tryz.func81 rfl (Eq.mp (show _ = fsem P Tryz.f81 (fun k => cond (Nat.beq k 4) [(5, .one .slice), (6, .one .slice)] ([])) _ R w from by kernel_rfl) h)
def spec_l03Div_j0 (a0 : World) (a1 : Option Addr -> Nat -> Nat -> Int -> World -> Prop) (mu : Option Addr -> Nat -> Nat -> Int -> World -> Nat) (a2 : Option Addr) (a3 a4 : Nat) (i : Int) (a5 : Option Addr) (a6 a7 : Nat) (W : World) (R : Value -> World -> Prop) : Prop :=
 ∃ a8 : Int, a8 = IntKind.wrap .i64 (i - 1) /\ a1 a5 a6 a7 a8 W /\ mu a5 a6 a7 a8 W < mu a2 a3 a4 i a0
def spec_l03Div (a0 : Option Addr) (a1 a2 : Nat) (a3 : Option Addr) (a4 a5 : Nat) (w : World) (R : Value -> World -> Prop) : Prop :=
 ((decide ((((a4 : Nat) : Int) : Int) = 1)) = true ->
 (0 <= (0 : Int) /\ (0 : Int) < (a4 : Nat)) /\ ptrS a3 fun ad => ∃ a6, Loads P 3 (ad.add (0 * 1)) (.int .i64 a6) w /\ Calls P 95 ⟨[.slice a0 a1 a2, .int .i64 a6]⟩ w fun e wv =>
 ∃ a7 a8 a9 aa, e = .returned (.tuple #[.slice a7 a8 a9, .int .i64 aa]) /\
 Calls P 56 ⟨[.int .i64 aa]⟩ wv fun ab ac =>
 ∃ ae af ag, ab = .returned (.slice ae af ag) /\
 R (.tuple #[.slice a7 a8 a9, .slice ae af ag]) ac) /\
 ((decide ((((a4 : Nat) : Int) : Int) = 1)) = false ->
 (0 <= (((a1 : Nat) : Int) : Int) /\ (((a1 : Nat) : Int) : Int) <= ((a1 : Nat) : Int) /\ ((8 : Nat) : Int) * ((a1 : Nat) : Int) <= 281474976710656) /\
 ∀ r ah, New w (.cells ⟨zeroRow (.int .i64 0) (a1 * 1)⟩ 3 (0, 0)) r ah ->
 ∀ ai aj, New ah (.cells ⟨[]⟩ 3 (0, 0)) ai aj ->
 ∃ ak : Int, ak = IntKind.wrap .i64 (((a1 : Nat) : Int) - 1) /\ ∃ (al : Option Addr -> Nat -> Nat -> Int -> World -> Prop) (mu : Option Addr -> Nat -> Nat -> Int -> World -> Nat), al (some ⟨ai, 0, none⟩) 0 0 ak aj /\
 ∀ (am : Fr) (an : World) (ao : Option Addr) (ap aq : Nat) (i : Int), al ao ap aq i an ->
 ((decide ((0 : Int) <= i)) = true ->
 (0 <= (i : Int) /\ (i : Int) < (a1 : Nat)) /\ ptrS a0 fun ar => ∃ au, Loads P 3 (ar.add (i.toNat * 1)) (.int .i64 au) an /\ ∀ av aw, New an (.cells ⟨[.int .i64 au]⟩ 3 (0, 0)) av aw ->
 ∃ ax ay az b0, Appends P [22, 22] [(.slice (some ⟨av, 0, none⟩) 1 1), .slice ao ap aq] (.slice ax ay az) aw b0 /\
 Calls P 80 ⟨[.slice ax ay az]⟩ b0 fun b1 b2 =>
 ∃ b3 b4 b5, b1 = .returned (.slice b3 b4 b5) /\
 Calls P 83 ⟨[.slice b3 b4 b5, .slice a3 a4 a5]⟩ b2 fun b6 b7 =>
 ∃ b8, b6 = .returned (.int .i64 b8) /\
 ((decide ((b8 : Int) < 0)) = true ->
 spec_l03Div_j0 an al mu ao ap aq i b3 b4 b5 b7 R) /\
 ((decide ((b8 : Int) < 0)) = false ->
 Calls P 96 ⟨[.slice b3 b4 b5, .slice a3 a4 a5]⟩ b7 fun b9 ba =>
 ∃ bb, b9 = .returned (.int .i64 bb) /\
 (0 <= (i : Int) /\ (i : Int) < (a1 : Nat)) /\ ∃ wv_10, Stores P 3 ((⟨r, 0, none⟩ : Addr).add (i.toNat * 1)) (.int .i64 bb) ba wv_10 /\
 Calls P 56 ⟨[.int .i64 bb]⟩ wv_10 fun bc bd =>
 ∃ be bf bg, bc = .returned (.slice be bf bg) /\
 Calls P 55 ⟨[.slice a3 a4 a5, .slice be bf bg]⟩ bd fun bh bi =>
 ∃ bj bk bl, bh = .returned (.slice bj bk bl) /\
 Calls P 90 ⟨[.slice b3 b4 b5, .slice bj bk bl]⟩ bi fun bm bn =>
 ∃ bo bp bq, bm = .returned (.slice bo bp bq) /\
 spec_l03Div_j0 an al mu ao ap aq i bo bp bq bn R)) /\
 ((decide ((0 : Int) <= i)) = false ->
 Calls P 80 ⟨[(.slice (some ⟨r, 0, none⟩) a1 a1)]⟩ an fun br bs =>
 ∃ bt bu bv, br = .returned (.slice bt bu bv) /\
 R (.tuple #[.slice bt bu bv, .slice ao ap aq]) bs))
theorem spec_l03Div_ret {a : Option Addr} {a0 a1 : Nat} {a2 : Option Addr} {a3 a4 : Nat} (h : spec_l03Div a a0 a1 a2 a3 a4 w R) : Ret P 82 [.slice a a0 a1, .slice a2 a3 a4] w R := Ret.of_fsem Tryz.func82 rfl (Eq.mp (show _ = fsem P Tryz.f82 (fun k => cond (Nat.beq k 8) [(9, .one .slice), (10, .one (.int .i64))] ([])) _ R w from by kernel_rfl) h)
def spec_l02Cmp (a0 : Option Addr) (a1 a2 : Nat) (a3 : Option Addr) (a4 a5 : Nat) (w : World) (R : Value -> World -> Prop) : Prop :=
 ((decide ((((a1 : Nat) : Int) : Int) ≠ ((a4 : Nat) : Int))) = true ->
 ((decide ((((a1 : Nat) : Int) : Int) < ((a4 : Nat) : Int))) = true ->
 R (.int .i64 (-1)) w) /\
 ((decide ((((a1 : Nat) : Int) : Int) < ((a4 : Nat) : Int))) = false ->
 R (.int .i64 1) w)) /\
 ((decide ((((a1 : Nat) : Int) : Int) ≠ ((a4 : Nat) : Int))) = false ->
 ∃ a6 : Int, a6 = IntKind.wrap .i64 (((a1 : Nat) : Int) - 1) /\ ∃ (a7 : Int -> World -> Prop) (mu : Int -> World -> Nat), a7 a6 w /\
 ∀ (a8 : Fr) (wv : World) (i : Int), a7 i wv ->
 ((decide ((0 : Int) <= i)) = true ->
 (0 <= (i : Int) /\ (i : Int) < (a1 : Nat)) /\ ptrS a0 fun ad => ∃ a9, (∀ wv_1, Ext wv.drew wv_1 -> Loads P 3 (ad.add (i.toNat * 1)) (.int .i64 a9) wv_1) /\ (0 <= (i : Int) /\ (i : Int) < (a4 : Nat)) /\ ptrS a3 fun aa => ∃ ab, (∀ wv_2, Ext wv.drew wv_2 -> Loads P 3 (aa.add (i.toNat * 1)) (.int .i64 ab) wv_2) /\ ((decide ((a9 : Int) < ab)) = true ->
 R (.int .i64 (-1)) wv.drew) /\
 ((decide ((a9 : Int) < ab)) = false ->
 (0 <= (i : Int) /\ (i : Int) < (a1 : Nat)) /\ ptrS a0 fun ac => ∃ ae, (∀ wv_3, Ext wv.drew.drew wv_3 -> Loads P 3 (ac.add (i.toNat * 1)) (.int .i64 ae) wv_3) /\ (0 <= (i : Int) /\ (i : Int) < (a4 : Nat)) /\ ptrS a3 fun af => ∃ ag, (∀ wv_4, Ext wv.drew.drew wv_4 -> Loads P 3 (af.add (i.toNat * 1)) (.int .i64 ag) wv_4) /\ ((decide ((ag : Int) < ae)) = true ->
 R (.int .i64 1) wv.drew.drew) /\
 ((decide ((ag : Int) < ae)) = false ->
 ∃ ah : Int, ah = IntKind.wrap .i64 (i - 1) /\ a7 ah wv.drew.drew /\ mu ah wv.drew.drew < mu i wv))) /\
 ((decide ((0 : Int) <= i)) = false ->
 R (.int .i64 0) wv))
theorem spec_l02Cmp_ret {a : Option Addr} {a0 a1 : Nat} {a2 : Option Addr} {a3 a4 : Nat} (h : spec_l02Cmp a a0 a1 a2 a3 a4 w R) : Ret P 83 [.slice a a0 a1, .slice a2 a3 a4] w R := Ret.of_fsem Tryz.func83 rfl (Eq.mp (show _ = fsem P Tryz.f83 (fun k => cond (Nat.beq k 7) [(5, .one (.int .i64))] ([])) _ R w from by kernel_rfl) h)
def spec_NatGcd_j0 (a0 : Option Addr) (a1 a2 : Nat) (a3 : Option Addr) (a4 a5 : Nat) (W : World) (R : Value -> World -> Prop) : Prop :=
 ∀ r a6, New W (.cells ⟨[]⟩ 3 (0, 0)) r a6 ->
 ∃ a7 a8 a9 aa, Appends P [22, 22] [(.slice (some ⟨r, 0, none⟩) 0 0), .slice a0 a1 a2] (.slice a7 a8 a9) a6 aa /\
 ∀ ab ac, New aa (.cells ⟨[]⟩ 3 (0, 0)) ab ac ->
 ∃ ae af ag ah, Appends P [22, 22] [(.slice (some ⟨ab, 0, none⟩) 0 0), .slice a3 a4 a5] (.slice ae af ag) ac ah /\
 ∃ (ai : Option Addr -> Nat -> Nat -> Option Addr -> Nat -> Nat -> World -> Prop) (mu : Option Addr -> Nat -> Nat -> Option Addr -> Nat -> Nat -> World -> Nat), ai a7 a8 a9 ae af ag ah /\
 ∀ (aj : Fr) (ak : World) (al : Option Addr) (am an : Nat) (ao : Option Addr) (ap aq : Nat), ai al am an ao ap aq ak ->
 ((decide ((0 : Int) < ((ap : Nat) : Int))) = true ->
 Calls P 82 ⟨[.slice al am an, .slice ao ap aq]⟩ ak fun ar au =>
 ∃ av aw ax ay az b0, ar = .returned (.tuple #[.slice av aw ax, .slice ay az b0]) /\
 ai ao ap aq ay az b0 au /\ mu ao ap aq ay az b0 au < mu al am an ao ap aq ak) /\
 ((decide ((0 : Int) < ((ap : Nat) : Int))) = false ->
 R (.slice al am an) ak)
def spec_NatGcd (a0 : Option Addr) (a1 a2 : Nat) (a3 : Option Addr) (a4 a5 : Nat) (w : World) (R : Value -> World -> Prop) : Prop :=
 Calls P 63 ⟨[.slice a0 a1 a2]⟩ w fun e wv =>
 ∃ a6, e = .returned (.bool a6) /\
 ((!a6) = true ->
 (true = true ->
 R (.slice none 0 0) wv) /\
 (true = false ->
 spec_NatGcd_j0 a0 a1 a2 a3 a4 a5 wv R)) /\
 ((!a6) = false ->
 Calls P 63 ⟨[.slice a3 a4 a5]⟩ wv fun a7 a8 =>
 ∃ a9, a7 = .returned (.bool a9) /\
 ((!a9) = true ->
 R (.slice none 0 0) a8) /\
 ((!a9) = false ->
 spec_NatGcd_j0 a0 a1 a2 a3 a4 a5 a8 R))
theorem spec_NatGcd_ret {a : Option Addr} {a0 a1 : Nat} {a2 : Option Addr} {a3 a4 : Nat} (h : spec_NatGcd a a0 a1 a2 a3 a4 w R) : Ret P 84 [.slice a a0 a1, .slice a2 a3 a4] w R := Ret.of_fsem Tryz.func84 rfl (Eq.mp (show _ = fsem P Tryz.f84 (fun k => cond (Nat.beq k 6) [(5, .one .slice), (6, .one .slice)] ([])) _ R w from by kernel_rfl) h)
def spec_l06Away (neg : Bool) (a0 : Option Addr) (a1 a2 : Nat) (a3 : Option Addr) (a4 a5 : Nat) (a6 : Option Addr) (a7 a8 : Nat) (m : Int) (w : World) (R : Value -> World -> Prop) : Prop :=
 Calls P 86 ⟨[.slice a3 a4 a5, .slice a3 a4 a5]⟩ w fun e wv =>
 ∃ a9 aa ab, e = .returned (.slice a9 aa ab) /\
 Calls P 83 ⟨[.slice a9 aa ab, .slice a6 a7 a8]⟩ wv fun ac ae =>
 ∃ af, ac = .returned (.int .i64 af) /\
 ((decide ((m : Int) = 0)) = true ->
 R (.bool false) ae) /\
 ((decide ((m : Int) = 0)) = false ->
 ((decide ((m : Int) = 1)) = true ->
 R (.bool true) ae) /\
 ((decide ((m : Int) = 1)) = false ->
 ((decide ((m : Int) = 2)) = true ->
 R (.bool neg) ae) /\
 ((decide ((m : Int) = 2)) = false ->
 ((decide ((m : Int) = 3)) = true ->
 R (.bool (!neg)) ae) /\
 ((decide ((m : Int) = 3)) = false ->
 ((decide ((m : Int) = 4)) = true ->
 R (.bool (decide ((0 : Int) < af))) ae) /\
 ((decide ((m : Int) = 4)) = false ->
 ((decide ((m : Int) = 5)) = true ->
 R (.bool (decide ((0 : Int) <= af))) ae) /\
 ((decide ((m : Int) = 5)) = false ->
 ((decide ((0 : Int) < af)) = true ->
 R (.bool true) ae) /\
 ((decide ((0 : Int) < af)) = false ->
 ((decide ((af : Int) = 0)) = true ->
 Calls P 97 ⟨[.slice a0 a1 a2]⟩ ae fun ag ah =>
 ∃ ai, ag = .returned (.bool ai) /\
 R (.bool (!ai)) ah) /\
 ((decide ((af : Int) = 0)) = false ->
 R (.bool false) ae))))))))
theorem spec_l06Away_ret {a : Bool} {a0 : Option Addr} {a1 a2 : Nat} {a3 : Option Addr} {a4 a5 : Nat} {a6 : Option Addr} {a7 a8 : Nat} {m : Int} (h : spec_l06Away a a0 a1 a2 a3 a4 a5 a6 a7 a8 m w R) : Ret P 85 [.bool a, .slice a0 a1 a2, .slice a3 a4 a5, .slice a6 a7 a8, .int .i64 m] w R := Ret.of_fsem Tryz.func85 rfl (Eq.mp (show _ = fsem P Tryz.f85 (fun k => []) _ R w from by kernel_rfl) h)
def spec_l02Add_j2 (a0 : World) (a1 : Option Addr -> Nat -> Nat -> Int -> Int -> World -> Prop) (mu : Option Addr -> Nat -> Nat -> Int -> Int -> World -> Nat) (a2 : Option Addr) (a3 a4 : Nat) (carry i n_1 : Int) (a5 : World) (R : Value -> World -> Prop) : Prop :=
 (1000000000 : Int) ≠ 0 /\ ∃ a6 : Int, a6 = Int.tmod n_1 1000000000 /\ ∀ a7 a8, New a5 (.cells ⟨[.int .i64 a6]⟩ 3 (0, 0)) a7 a8 ->
 ∃ a9 aa ab ac, Appends P [22, 22] [.slice a2 a3 a4, (.slice (some ⟨a7, 0, none⟩) 1 1)] (.slice a9 aa ab) a8 ac /\
 (1000000000 : Int) ≠ 0 /\ ∃ ae : Int, ae = IntKind.wrap .i64 (Int.tdiv n_1 1000000000) /\ ∃ af : Int, af = IntKind.wrap .i64 (i + 1) /\ a1 a9 aa ab ae af ac /\ mu a9 aa ab ae af ac < mu a2 a3 a4 carry i a0
def spec_l02Add_j1 (a0 : Option Addr) (a1 : Nat) (a2 : World) (a3 : Option Addr -> Nat -> Nat -> Int -> Int -> World -> Prop) (mu : Option Addr -> Nat -> Nat -> Int -> Int -> World -> Nat) (a4 : Option Addr) (a5 a6 : Nat) (carry i n : Int) (a7 : World) (R : Value -> World -> Prop) : Prop :=
 ((decide ((i : Int) < ((a1 : Nat) : Int))) = true ->
 (0 <= (i : Int) /\ (i : Int) < (a1 : Nat)) /\ ptrS a0 fun a8 => ∃ a9, Loads P 3 (a8.add (i.toNat * 1)) (.int .i64 a9) a7 /\ ∃ aa : Int, aa = IntKind.wrap .i64 (n + a9) /\ spec_l02Add_j2 a2 a3 mu a4 a5 a6 carry i aa a7 R) /\
 ((decide ((i : Int) < ((a1 : Nat) : Int))) = false ->
 spec_l02Add_j2 a2 a3 mu a4 a5 a6 carry i n a7 R)
def spec_l02Add_j0 (a0 : Option Addr) (a1 : Nat) (a2 : Option Addr) (a3 : Nat) (a4 : World) (a5 : Option Addr -> Nat -> Nat -> Int -> Int -> World -> Prop) (mu : Option Addr -> Nat -> Nat -> Int -> Int -> World -> Nat) (a6 : Option Addr) (a7 a8 : Nat) (carry i : Int) (W : World) (R : Value -> World -> Prop) : Prop :=
 ((decide ((i : Int) < ((a1 : Nat) : Int))) = true ->
 (0 <= (i : Int) /\ (i : Int) < (a1 : Nat)) /\ ptrS a0 fun ad => ∃ a9, Loads P 3 (ad.add (i.toNat * 1)) (.int .i64 a9) W /\ ∃ aa : Int, aa = IntKind.wrap .i64 (carry + a9) /\ spec_l02Add_j1 a2 a3 a4 a5 mu a6 a7 a8 carry i aa W R) /\
 ((decide ((i : Int) < ((a1 : Nat) : Int))) = false ->
 spec_l02Add_j1 a2 a3 a4 a5 mu a6 a7 a8 carry i carry W R)
def spec_l02Add (a0 : Option Addr) (a1 a2 : Nat) (a3 : Option Addr) (a4 a5 : Nat) (w : World) (R : Value -> World -> Prop) : Prop :=
 ∀ r wv, New w (.cells ⟨[]⟩ 3 (0, 0)) r wv ->
 ∃ (a6 : Option Addr -> Nat -> Nat -> Int -> Int -> World -> Prop) (mu : Option Addr -> Nat -> Nat -> Int -> Int -> World -> Nat), a6 (some ⟨r, 0, none⟩) 0 0 0 0 wv /\
 ∀ (a7 : Fr) (a8 : World) (a9 : Option Addr) (aa ab : Nat) (carry i : Int), a6 a9 aa ab carry i a8 ->
 ((decide ((i : Int) < ((a1 : Nat) : Int))) = true ->
 (true = true ->
 (true = true ->
 spec_l02Add_j0 a0 a1 a3 a4 a8 a6 mu a9 aa ab carry i a8 R) /\
 (true = false ->
 R (.slice a9 aa ab) a8)) /\
 (true = false ->
 ((decide ((0 : Int) < carry)) = true ->
 spec_l02Add_j0 a0 a1 a3 a4 a8 a6 mu a9 aa ab carry i a8 R) /\
 ((decide ((0 : Int) < carry)) = false ->
 R (.slice a9 aa ab) a8))) /\
 ((decide ((i : Int) < ((a1 : Nat) : Int))) = false ->
 ((decide ((i : Int) < ((a4 : Nat) : Int))) = true ->
 (true = true ->
 spec_l02Add_j0 a0 a1 a3 a4 a8 a6 mu a9 aa ab carry i a8 R) /\
 (true = false ->
 R (.slice a9 aa ab) a8)) /\
 ((decide ((i : Int) < ((a4 : Nat) : Int))) = false ->
 ((decide ((0 : Int) < carry)) = true ->
 spec_l02Add_j0 a0 a1 a3 a4 a8 a6 mu a9 aa ab carry i a8 R) /\
 ((decide ((0 : Int) < carry)) = false ->
 R (.slice a9 aa ab) a8)))
theorem spec_l02Add_ret {a : Option Addr} {a0 a1 : Nat} {a2 : Option Addr} {a3 a4 : Nat} (h : spec_l02Add a a0 a1 a2 a3 a4 w R) : Ret P 86 [.slice a a0 a1, .slice a2 a3 a4] w R := Ret.of_fsem Tryz.func86 rfl (Eq.mp (show _ = fsem P Tryz.f86 (fun k => cond (Nat.beq k 5) [(5, .one .slice), (6, .one (.int .i64)), (7, .one (.int .i64))] ([])) _ R w from by kernel_rfl) h)
def spec_RatInt (x0 : Bool) (a0 : Option Addr) (a1 a2 : Nat) (w : World) (R : Value -> World -> Prop) : Prop :=
 ∀ r wv, New w (.cells ⟨[.bool x0, .slice a0 a1 a2]⟩ 29 (0, 0)) r wv ->
 ∀ a3 a4, New wv (.cells ⟨[.bool false, .slice none 0 0, .slice none 0 0]⟩ 44 (0, 0)) a3 a4 ->
 ∃ a5 a6 a7 a8, (∀ wv_2, Ext a4.drew wv_2 -> Loads P 29 ⟨r, 0, none⟩ (.agg #[.bool a5, .slice a6 a7 a8]) wv_2) /\ Calls P 31 ⟨[.int .i64 1]⟩ a4.drew fun e a9 =>
 ∃ aa ab ac ae, e = .returned (.agg #[.bool aa, .slice ab ac ae]) /\
 Ext a4.drew a9 /\ Calls P 98 ⟨[.agg #[.bool a5, .slice a6 a7 a8], .agg #[.bool aa, .slice ab ac ae]]⟩ a9 fun af ag =>
 ∃ ah ai aj ak al am an t6, af = .returned (.tuple #[.agg #[.bool ah, .slice ai aj ak, .slice al am an], .bool t6]) /\
 ∃ wv_5, Stores P 44 ⟨a3, 0, none⟩ (.agg #[.bool ah, .slice ai aj ak, .slice al am an]) ag wv_5 /\
 ∃ r0 ao ap aq ar au av, Loads P 44 ⟨a3, 0, none⟩ (.agg #[.bool r0, .slice ao ap aq, .slice ar au av]) wv_5 /\ R (.tuple #[.agg #[.bool r0, .slice ao ap aq, .slice ar au av], .bool t6]) wv_5
theorem spec_RatInt_ret {x0 : Bool} {a : Option Addr} {a0 a1 : Nat} (h : spec_RatInt x0 a a0 a1 w R) : Ret P 87 [.agg #[.bool x0, .slice a a0 a1]] w R := Ret.of_fsem Tryz.func87 rfl (Eq.mp (show _ = fsem P Tryz.f87 (fun k => []) _ R w from by kernel_rfl) h)
def spec_RatSub (r0 : Bool) (a0 : Option Addr) (a1 a2 : Nat) (a3 : Option Addr) (a4 a5 : Nat) (s0 : Bool) (a6 : Option Addr) (a7 a8 : Nat) (a9 : Option Addr) (aa ab : Nat) (w : World) (R : Value -> World -> Prop) : Prop :=
 ∀ r wv, New w (.cells ⟨[.bool r0, .slice a0 a1 a2, .slice a3 a4 a5]⟩ 44 (0, 0)) r wv ->
 ∀ ac ae, New wv (.cells ⟨[.bool s0, .slice a6 a7 a8, .slice a9 aa ab]⟩ 44 (0, 0)) ac ae ->
 ∀ af ag, New ae (.cells ⟨[.bool false, .slice none 0 0, .slice none 0 0]⟩ 44 (0, 0)) af ag ->
 ∃ ah ai aj ak al am an, Loads P 44 ⟨ac, 0, none⟩ (.agg #[.bool ah, .slice ai aj ak, .slice al am an]) ag /\ Calls P 62 ⟨[.agg #[.bool ah, .slice ai aj ak, .slice al am an]]⟩ ag fun e ao =>
 ∃ ap aq ar au av aw ax ay, e = .returned (.tuple #[.agg #[.bool ap, .slice aq ar au, .slice av aw ax], .bool ay]) /\
 ∀ az b0, New ao (.cells ⟨[.bool false, .slice none 0 0, .slice none 0 0]⟩ 44 (0, 0)) az b0 ->
 ∃ wv_5, Stores P 44 ⟨az, 0, none⟩ (.agg #[.bool ap, .slice aq ar au, .slice av aw ax]) b0 wv_5 /\
 ((!ay) = true ->
 ∃ wv_6, Stores P 44 ⟨af, 0, none⟩ (.agg #[.bool false, .slice none 0 0, .slice none 0 0]) wv_5 wv_6 /\
 ∃ r0_1 b1 b2 b3 b4 b5 b6, Loads P 44 ⟨af, 0, none⟩ (.agg #[.bool r0_1, .slice b1 b2 b3, .slice b4 b5 b6]) wv_6 /\ R (.tuple #[.agg #[.bool r0_1, .slice b1 b2 b3, .slice b4 b5 b6], .bool false]) wv_6) /\
 ((!ay) = false ->
 ∃ b7 b8 b9 ba bb bc bd, Loads P 44 ⟨r, 0, none⟩ (.agg #[.bool b7, .slice b8 b9 ba, .slice bb bc bd]) wv_5 /\ ∃ be bf bg bh bi bj bk, Loads P 44 ⟨az, 0, none⟩ (.agg #[.bool be, .slice bf bg bh, .slice bi bj bk]) wv_5 /\ Calls P 99 ⟨[.agg #[.bool b7, .slice b8 b9 ba, .slice bb bc bd], .agg #[.bool be, .slice bf bg bh, .slice bi bj bk]]⟩ wv_5 fun bl bm =>
 ∃ bn bo bp bq br bs bt bu, bl = .returned (.tuple #[.agg #[.bool bn, .slice bo bp bq, .slice br bs bt], .bool bu]) /\
 ∃ wv_8, Stores P 44 ⟨af, 0, none⟩ (.agg #[.bool bn, .slice bo bp bq, .slice br bs bt]) bm wv_8 /\
 ∃ r0_2 bv bw bx bz c0 c1, Loads P 44 ⟨af, 0, none⟩ (.agg #[.bool r0_2, .slice bv bw bx, .slice bz c0 c1]) wv_8 /\ R (.tuple #[.agg #[.bool r0_2, .slice bv bw bx, .slice bz c0 c1], .bool bu]) wv_8)
theorem spec_RatSub_ret {r0 : Bool} {a : Option Addr} {a0 a1 : Nat} {a2 : Option Addr} {a3 a4 : Nat} {s0 : Bool} {a5 : Option Addr} {a6 a7 : Nat} {a8 : Option Addr} {a9 b : Nat} (h : spec_RatSub r0 a a0 a1 a2 a3 a4 s0 a5 a6 a7 a8 a9 b w R) : Ret P 88 [.agg #[.bool r0, .slice a a0 a1, .slice a2 a3 a4], .agg #[.bool s0, .slice a5 a6 a7, .slice a8 a9 b]] w R := Ret.of_fsem Tryz.func88 rfl (Eq.mp (show _ = fsem P Tryz.f88 (fun k => []) _ R w from by kernel_rfl) h)
def spec_l02Cap (a0 : Option Addr) (a1 a2 : Nat) (w : World) (R : Value -> World -> Prop) : Prop :=
 Calls P 80 ⟨[.slice a0 a1 a2]⟩ w fun e wv =>
 ∃ a3 a4 a5, e = .returned (.slice a3 a4 a5) /\
 ((decide ((50 : Int) < ((a4 : Nat) : Int))) = true ->
 R (.slice none 0 0) wv) /\
 ((decide ((50 : Int) < ((a4 : Nat) : Int))) = false ->
 R (.slice a3 a4 a5) wv)
theorem spec_l02Cap_ret {a : Option Addr} {a0 a1 : Nat} (h : spec_l02Cap a a0 a1 w R) : Ret P 89 [.slice a a0 a1] w R := Ret.of_fsem Tryz.func89 rfl (Eq.mp (show _ = fsem P Tryz.f89 (fun k => []) _ R w from by kernel_rfl) h)
def spec_l02Sub_j1 (a0 : World) (a1 : Option Addr -> Nat -> Nat -> Int -> Int -> World -> Prop) (mu : Option Addr -> Nat -> Nat -> Int -> Int -> World -> Nat) (a2 : Option Addr) (a3 a4 : Nat) (less a5 : Int) (less_1 n_1 : Int) (a6 : World) (R : Value -> World -> Prop) : Prop :=
 ∀ a7 a8, New a6 (.cells ⟨[.int .i64 n_1]⟩ 3 (0, 0)) a7 a8 ->
 ∃ a9 aa ab ac, Appends P [22, 22] [.slice a2 a3 a4, (.slice (some ⟨a7, 0, none⟩) 1 1)] (.slice a9 aa ab) a8 ac /\
 ∃ ae : Int, ae = IntKind.wrap .i64 (a5 + 1) /\ a1 a9 aa ab less_1 ae ac /\ mu a9 aa ab less_1 ae ac < mu a2 a3 a4 less a5 a0
def spec_l02Sub_j0 (a0 : World) (a1 : Option Addr -> Nat -> Nat -> Int -> Int -> World -> Prop) (mu : Option Addr -> Nat -> Nat -> Int -> Int -> World -> Nat) (a2 : Option Addr) (a3 a4 : Nat) (less a5 n : Int) (W : World) (R : Value -> World -> Prop) : Prop :=
 ((decide ((n : Int) < 0)) = true ->
 ∃ a6 : Int, a6 = IntKind.wrap .i64 (n + 1000000000) /\ spec_l02Sub_j1 a0 a1 mu a2 a3 a4 less a5 1 a6 W R) /\
 ((decide ((n : Int) < 0)) = false ->
 spec_l02Sub_j1 a0 a1 mu a2 a3 a4 less a5 0 n W R)
def spec_l02Sub (a0 : Option Addr) (a1 a2 : Nat) (a3 : Option Addr) (a4 a5 : Nat) (w : World) (R : Value -> World -> Prop) : Prop :=
 ∀ r wv, New w (.cells ⟨[]⟩ 3 (0, 0)) r wv ->
 ∃ (a6 : Option Addr -> Nat -> Nat -> Int -> Int -> World -> Prop) (mu : Option Addr -> Nat -> Nat -> Int -> Int -> World -> Nat), a6 (some ⟨r, 0, none⟩) 0 0 0 0 wv /\
 ∀ (a7 : Fr) (a8 : World) (a9 : Option Addr) (aa ab : Nat) (less ac : Int), a6 a9 aa ab less ac a8 ->
 ((decide ((ac : Int) < ((a1 : Nat) : Int))) = true ->
 (0 <= (ac : Int) /\ (ac : Int) < (a1 : Nat)) /\ ptrS a0 fun ad => ∃ ae, Loads P 3 (ad.add (ac.toNat * 1)) (.int .i64 ae) a8 /\ ∃ af : Int, af = IntKind.wrap .i64 (ae - less) /\ ((decide ((ac : Int) < ((a4 : Nat) : Int))) = true ->
 (0 <= (ac : Int) /\ (ac : Int) < (a4 : Nat)) /\ ptrS a3 fun ag => ∃ ah, Loads P 3 (ag.add (ac.toNat * 1)) (.int .i64 ah) a8 /\ ∃ ai : Int, ai = IntKind.wrap .i64 (af - ah) /\ spec_l02Sub_j0 a8 a6 mu a9 aa ab less ac ai a8 R) /\
 ((decide ((ac : Int) < ((a4 : Nat) : Int))) = false ->
 spec_l02Sub_j0 a8 a6 mu a9 aa ab less ac af a8 R)) /\
 ((decide ((ac : Int) < ((a1 : Nat) : Int))) = false ->
 Calls P 80 ⟨[.slice a9 aa ab]⟩ a8 fun e aj =>
 ∃ ak al am, e = .returned (.slice ak al am) /\
 R (.slice ak al am) aj)
theorem spec_l02Sub_ret {a : Option Addr} {a0 a1 : Nat} {a2 : Option Addr} {a3 a4 : Nat} (h : spec_l02Sub a a0 a1 a2 a3 a4 w R) : Ret P 90 [.slice a a0 a1, .slice a2 a3 a4] w R := Ret.of_fsem Tryz.func90 rfl (Eq.mp (show _ = fsem P Tryz.f90 (fun k => cond (Nat.beq k 5) [(5, .one .slice), (6, .one (.int .i64)), (12, .one (.int .i64))] ([])) _ R w from by kernel_rfl) h)
def impl_natGcd (a0 : Option Addr) (a1 a2 : Nat) (a3 : Option Addr) (a4 a5 : Nat) (w : World) (R : Value -> World -> Prop) : Prop :=
 ∃ (a6 : Option Addr -> Nat -> Nat -> Option Addr -> Nat -> Nat -> World -> Prop) (mu : Option Addr -> Nat -> Nat -> Option Addr -> Nat -> Nat -> World -> Nat), a6 a0 a1 a2 a3 a4 a5 w /\
 ∀ (a7 : Fr) (wv : World) (a8 : Option Addr) (a9 aa : Nat) (ab : Option Addr) (ac ae : Nat), a6 a8 a9 aa ab ac ae wv ->
 ((decide ((0 : Int) < ((ac : Nat) : Int))) = true ->
 Calls P 42 ⟨[.slice a8 a9 aa, .slice ab ac ae]⟩ wv fun e af =>
 ∃ ag ah ai aj ak al, e = .returned (.tuple #[.slice ag ah ai, .slice aj ak al]) /\
 a6 ab ac ae aj ak al af /\ mu ab ac ae aj ak al af < mu a8 a9 aa ab ac ae wv) /\
 ((decide ((0 : Int) < ((ac : Nat) : Int))) = false ->
 Calls P 40 ⟨[.slice a8 a9 aa]⟩ wv fun am an =>
 ∃ ao ap aq, am = .returned (.slice ao ap aq) /\
 R (.slice ao ap aq) an)
theorem impl_natGcd_ret {a : Option Addr} {a0 a1 : Nat} {a2 : Option Addr} {a3 a4 : Nat} (h : impl_natGcd a a0 a1 a2 a3 a4 w R) : Ret P 91 [.slice a a0 a1, .slice a2 a3 a4] w R := Ret.of_fsem Tryz.func91 rfl (Eq.mp (show _ = fsem P Tryz.f91 (fun k => cond (Nat.beq k 2) [(0, .one .slice), (1, .one .slice)] ([])) _ R w from by kernel_rfl) h)
def impl_subTimes_j0 (a0 : Option Addr) (a1 : Nat) (wv : World) (a2 : Int -> Int -> World -> Prop) (mu : Int -> Int -> World -> Nat) (borrow a3 : Int) (borrow_1 n : Int) (W : World) (R : Value -> World -> Prop) : Prop :=
 (0 <= (a3 : Int) /\ (a3 : Int) < (a1 : Nat)) /\ ptrS a0 fun a4 => ∃ wv_1, Stores P 3 (a4.add (a3.toNat * 1)) (.int .i64 n) W wv_1 /\
 ∃ a5 : Int, a5 = IntKind.wrap .i64 (a3 + 1) /\ a2 borrow_1 a5 wv_1 /\ mu borrow_1 a5 wv_1 < mu borrow a3 wv
def impl_subTimes (a0 : Option Addr) (a1 a2 : Nat) (a3 : Option Addr) (a4 a5 : Nat) (q : Int) (w : World) (R : Value -> World -> Prop) : Prop :=
 ∃ (a6 : Int -> Int -> World -> Prop) (mu : Int -> Int -> World -> Nat), a6 0 0 w /\
 ∀ (a7 : Fr) (wv : World) (borrow a8 : Int), a6 borrow a8 wv ->
 ((decide ((a8 : Int) < ((a4 : Nat) : Int))) = true ->
 (0 <= (a8 : Int) /\ (a8 : Int) < (a4 : Nat)) /\ ptrS a3 fun ad => ∃ a9, Loads P 3 (ad.add (a8.toNat * 1)) (.int .i64 a9) wv /\ (0 <= (a8 : Int) /\ (a8 : Int) < (a1 : Nat)) /\ ptrS a0 fun aa => ∃ ab, Loads P 3 (aa.add (a8.toNat * 1)) (.int .i64 ab) wv /\ ∃ ac : Int, ac = IntKind.wrap .i64 (a9 * q) /\ ∃ ae : Int, ae = IntKind.wrap .i64 (ab - ac) /\ ∃ af : Int, af = IntKind.wrap .i64 (ae - borrow) /\ ((decide ((af : Int) < 0)) = true ->
 ∃ ag : Int, ag = IntKind.wrap .i64 (0 - af) /\ ∃ ah : Int, ah = IntKind.wrap .i64 (ag + 1000000000) /\ ∃ ai : Int, ai = IntKind.wrap .i64 (ah - 1) /\ (1000000000 : Int) ≠ 0 /\ ∃ aj : Int, aj = IntKind.wrap .i64 (Int.tdiv ai 1000000000) /\ ∃ ak : Int, ak = IntKind.wrap .i64 (aj * 1000000000) /\ ∃ al : Int, al = IntKind.wrap .i64 (af + ak) /\ impl_subTimes_j0 a0 a1 wv a6 mu borrow a8 aj al wv R) /\
 ((decide ((af : Int) < 0)) = false ->
 impl_subTimes_j0 a0 a1 wv a6 mu borrow a8 0 af wv R)) /\
 ((decide ((a8 : Int) < ((a4 : Nat) : Int))) = false ->
 (0 <= (((a4 : Nat) : Int) : Int) /\ (((a4 : Nat) : Int) : Int) < (a1 : Nat)) /\ ptrS a0 fun am => ∃ an, Loads P 3 (am.add (a4 * 1)) (.int .i64 an) wv /\ ∃ ao : Int, ao = IntKind.wrap .i64 (an - borrow) /\ (0 <= (((a4 : Nat) : Int) : Int) /\ (((a4 : Nat) : Int) : Int) < (a1 : Nat)) /\ ptrS a0 fun ap => ∃ wv_2, Stores P 3 (ap.add (a4 * 1)) (.int .i64 ao) wv wv_2 /\
 (0 <= (((a4 : Nat) : Int) : Int) /\ (((a4 : Nat) : Int) : Int) < (a1 : Nat)) /\ ptrS a0 fun aq => ∃ ar, Loads P 3 (aq.add (a4 * 1)) (.int .i64 ar) wv_2 /\ R (.bool (decide ((ar : Int) < 0))) wv_2)
theorem impl_subTimes_ret {a : Option Addr} {a0 a1 : Nat} {a2 : Option Addr} {a3 a4 : Nat} {q : Int} (h : impl_subTimes a a0 a1 a2 a3 a4 q w R) : Ret P 92 [.slice a a0 a1, .slice a2 a3 a4, .int .i64 q] w R := Ret.of_fsem Tryz.func92 rfl (Eq.mp (show _ = fsem P Tryz.f92 (fun k => cond (Nat.beq k 4) [(7, .one (.int .i64)), (13, .one (.int .i64))] ([])) _ R w from by kernel_rfl) h)
def impl_addBack (a0 : Option Addr) (a1 a2 : Nat) (a3 : Option Addr) (a4 a5 : Nat) (w : World) (R : Value -> World -> Prop) : Prop :=
 ∃ (a6 : Int -> Int -> World -> Prop) (mu : Int -> Int -> World -> Nat), a6 0 0 w /\
 ∀ (a7 : Fr) (wv : World) (carry t9 : Int), a6 carry t9 wv ->
 ((decide ((t9 : Int) < ((a4 : Nat) : Int))) = true ->
 (0 <= (t9 : Int) /\ (t9 : Int) < (a4 : Nat)) /\ ptrS a3 fun ad => ∃ a8, Loads P 3 (ad.add (t9.toNat * 1)) (.int .i64 a8) wv /\ (0 <= (t9 : Int) /\ (t9 : Int) < (a1 : Nat)) /\ ptrS a0 fun a9 => ∃ aa, Loads P 3 (a9.add (t9.toNat * 1)) (.int .i64 aa) wv /\ ∃ ab : Int, ab = IntKind.wrap .i64 (aa + a8) /\ ∃ ac : Int, ac = IntKind.wrap .i64 (carry + ab) /\ (1000000000 : Int) ≠ 0 /\ ∃ ae : Int, ae = Int.tmod ac 1000000000 /\ (0 <= (t9 : Int) /\ (t9 : Int) < (a1 : Nat)) /\ ptrS a0 fun af => ∃ wv_1, Stores P 3 (af.add (t9.toNat * 1)) (.int .i64 ae) wv wv_1 /\
 (1000000000 : Int) ≠ 0 /\ ∃ ag : Int, ag = IntKind.wrap .i64 (Int.tdiv ac 1000000000) /\ ∃ ah : Int, ah = IntKind.wrap .i64 (t9 + 1) /\ a6 ag ah wv_1 /\ mu ag ah wv_1 < mu carry t9 wv) /\
 ((decide ((t9 : Int) < ((a4 : Nat) : Int))) = false ->
 (0 <= (((a4 : Nat) : Int) : Int) /\ (((a4 : Nat) : Int) : Int) < (a1 : Nat)) /\ ptrS a0 fun ai => ∃ aj, Loads P 3 (ai.add (a4 * 1)) (.int .i64 aj) wv /\ ∃ ak : Int, ak = IntKind.wrap .i64 (aj + carry) /\ (0 <= (((a4 : Nat) : Int) : Int) /\ (((a4 : Nat) : Int) : Int) < (a1 : Nat)) /\ ptrS a0 fun al => ∃ wv_2, Stores P 3 (al.add (a4 * 1)) (.int .i64 ak) wv wv_2 /\
 R (.tuple #[]) wv_2)
theorem impl_addBack_ret {a : Option Addr} {a0 a1 : Nat} {a2 : Option Addr} {a3 a4 : Nat} (h : impl_addBack a a0 a1 a2 a3 a4 w R) : Ret P 93 [.slice a a0 a1, .slice a2 a3 a4] w R := Ret.of_fsem Tryz.func93 rfl (Eq.mp (show _ = fsem P Tryz.f93 (fun k => cond (Nat.beq k 3) [(4, .one (.int .i64)), (9, .one (.int .i64))] ([])) _ R w from by kernel_rfl) h)
def slices_stableCmpFunc_impl_part_j0 (a0 : World) (a1 : Int -> World -> Prop) (a2 : Int -> World -> Nat) (blockSize : Int) (W : World) (R : Value -> World -> Prop) : Prop :=
 ∃ a3 : Int, a3 = IntKind.wrap .i64 (blockSize * 2) /\ a1 a3 W /\ a2 a3 W < a2 blockSize a0
def slices_stableCmpFunc_impl_part (a0 : Option Addr) (a1 a2 : Nat) (n : Int) (cmp : Value) (w : World) (R : Value -> World -> Prop) : Prop :=
 ∃ (a3 : Int -> Int -> World -> Prop) (mu : Int -> Int -> World -> Nat), a3 0 20 w /\
 ∀ (a4 : Fr) (wv : World) (a b : Int), a3 a b wv ->
 ((decide ((b : Int) <= n)) = true ->
 Calls P 100 ⟨[.slice a0 a1 a2, .int .i64 a, .int .i64 b, cmp]⟩ wv fun e a5 =>
 e = .returned (.tuple #[]) /\
 ∃ a6 : Int, a6 = IntKind.wrap .i64 (b + 20) /\ a3 b a6 a5 /\ mu b a6 a5 < mu a b wv) /\
 ((decide ((b : Int) <= n)) = false ->
 Calls P 100 ⟨[.slice a0 a1 a2, .int .i64 a, .int .i64 n, cmp]⟩ wv fun a7 a8 =>
 a7 = .returned (.tuple #[]) /\
 ∃ (a9 : Int -> World -> Prop) (aa : Int -> World -> Nat), a9 20 a8 /\
 ∀ (ab : Fr) (ac : World) (blockSize : Int), a9 blockSize ac ->
 ((decide ((blockSize : Int) < n)) = true ->
 ∃ ae : Int, ae = IntKind.wrap .i64 (2 * blockSize) /\ ∃ (af : Int -> Int -> World -> Prop) (ag : Int -> Int -> World -> Nat), af 0 ae ac /\
 ∀ (ah : Fr) (ai : World) (a_1 aj : Int), af a_1 aj ai ->
 ((decide ((aj : Int) <= n)) = true ->
 ∃ ak : Int, ak = IntKind.wrap .i64 (a_1 + blockSize) /\ Calls P 101 ⟨[.slice a0 a1 a2, .int .i64 a_1, .int .i64 ak, .int .i64 aj, cmp]⟩ ai fun al am =>
 al = .returned (.tuple #[]) /\
 ∃ an : Int, an = IntKind.wrap .i64 (2 * blockSize) /\ ∃ ao : Int, ao = IntKind.wrap .i64 (aj + an) /\ af aj ao am /\ ag aj ao am < ag a_1 aj ai) /\
 ((decide ((aj : Int) <= n)) = false ->
 ∃ ap : Int, ap = IntKind.wrap .i64 (a_1 + blockSize) /\ ((decide ((ap : Int) < n)) = true ->
 Calls P 101 ⟨[.slice a0 a1 a2, .int .i64 a_1, .int .i64 ap, .int .i64 n, cmp]⟩ ai fun aq ar =>
 aq = .returned (.tuple #[]) /\
 slices_stableCmpFunc_impl_part_j0 ac a9 aa blockSize ar R) /\
 ((decide ((ap : Int) < n)) = false ->
 slices_stableCmpFunc_impl_part_j0 ac a9 aa blockSize ai R))) /\
 ((decide ((blockSize : Int) < n)) = false ->
 R (.tuple #[]) ac))
theorem slices_stableCmpFunc_impl_part_ret {a : Option Addr} {a0 a1 : Nat} {n : Int} {a2 : Value} (h : slices_stableCmpFunc_impl_part a a0 a1 n a2 w R) : Ret P 94 [.slice a a0 a1, .int .i64 n, a2] w R := Ret.of_fsem Tryz.func94 rfl (Eq.mp (show _ = fsem P Tryz.f94 (fun k => cond (Nat.beq k 3) [(7, .one (.int .i64)), (8, .one (.int .i64))] (cond (Nat.beq k 8) [(6, .one (.int .i64))] (cond (Nat.beq k 10) [(7, .one (.int .i64)), (8, .one (.int .i64))] ([])))) _ R w from by kernel_rfl) h)
def spec_l03Small (a0 : Option Addr) (a1 a2 : Nat) (d : Int) (w : World) (R : Value -> World -> Prop) : Prop :=
 (0 <= (((a1 : Nat) : Int) : Int) /\ (((a1 : Nat) : Int) : Int) <= ((a1 : Nat) : Int) /\ ((8 : Nat) : Int) * ((a1 : Nat) : Int) <= 281474976710656) /\
 ∀ r wv, New w (.cells ⟨zeroRow (.int .i64 0) (a1 * 1)⟩ 3 (0, 0)) r wv ->
 ∃ a3 : Int, a3 = IntKind.wrap .i64 (((a1 : Nat) : Int) - 1) /\ ∃ (a4 : Int -> Int -> World -> Prop) (mu : Int -> Int -> World -> Nat), a4 0 a3 wv /\
 ∀ (a5 : Fr) (a6 : World) (rest i : Int), a4 rest i a6 ->
 ((decide ((0 : Int) <= i)) = true ->
 ∃ a7 : Int, a7 = IntKind.wrap .i64 (rest * 1000000000) /\ (0 <= (i : Int) /\ (i : Int) < (a1 : Nat)) /\ ptrS a0 fun ad => ∃ a8, Loads P 3 (ad.add (i.toNat * 1)) (.int .i64 a8) a6 /\ ∃ a9 : Int, a9 = IntKind.wrap .i64 (a7 + a8) /\ (d : Int) ≠ 0 /\ ∃ aa : Int, aa = IntKind.wrap .i64 (Int.tdiv a9 d) /\ (0 <= (i : Int) /\ (i : Int) < (a1 : Nat)) /\ ∃ wv_2, Stores P 3 ((⟨r, 0, none⟩ : Addr).add (i.toNat * 1)) (.int .i64 aa) a6 wv_2 /\
 (d : Int) ≠ 0 /\ ∃ ab : Int, ab = Int.tmod a9 d /\ ∃ ac : Int, ac = IntKind.wrap .i64 (i - 1) /\ a4 ab ac wv_2 /\ mu ab ac wv_2 < mu rest i a6) /\
 ((decide ((0 : Int) <= i)) = false ->
 Calls P 80 ⟨[(.slice (some ⟨r, 0, none⟩) a1 a1)]⟩ a6 fun e ae =>
 ∃ af ag ah, e = .returned (.slice af ag ah) /\
 R (.tuple #[.slice af ag ah, .int .i64 rest]) ae)
theorem spec_l03Small_ret {a : Option Addr} {a0 a1 : Nat} {d : Int} (h : spec_l03Small a a0 a1 d w R) : Ret P 95 [.slice a a0 a1, .int .i64 d] w R := Ret.of_fsem Tryz.func95 rfl (Eq.mp (show _ = fsem P Tryz.f95 (fun k => cond (Nat.beq k 5) [(7, .one (.int .i64)), (8, .one (.int .i64))] ([])) _ R w from by kernel_rfl) h)
def spec_l03Digit (a0 : Option Addr) (a1 a2 : Nat) (a3 : Option Addr) (a4 a5 : Nat) (w : World) (R : Value -> World -> Prop) : Prop :=
 ∃ (a6 : Int -> Int -> World -> Prop) (mu : Int -> Int -> World -> Nat), a6 0 999999999 w /\
 ∀ (a7 : Fr) (wv : World) (lo hi : Int), a6 lo hi wv ->
 ((decide ((lo : Int) < hi)) = true ->
 ∃ a8 : Int, a8 = IntKind.wrap .i64 (lo + hi) /\ ∃ a9 : Int, a9 = IntKind.wrap .i64 (a8 + 1) /\ (2 : Int) ≠ 0 /\ ∃ aa : Int, aa = IntKind.wrap .i64 (Int.tdiv a9 2) /\ Calls P 56 ⟨[.int .i64 aa]⟩ wv fun e ab =>
 ∃ ac ae af, e = .returned (.slice ac ae af) /\
 Calls P 55 ⟨[.slice a3 a4 a5, .slice ac ae af]⟩ ab fun ag ah =>
 ∃ ai aj ak, ag = .returned (.slice ai aj ak) /\
 Calls P 83 ⟨[.slice ai aj ak, .slice a0 a1 a2]⟩ ah fun al am =>
 ∃ an, al = .returned (.int .i64 an) /\
 ((decide ((an : Int) <= 0)) = true ->
 a6 aa hi am /\ mu aa hi am < mu lo hi wv) /\
 ((decide ((an : Int) <= 0)) = false ->
 ∃ ao : Int, ao = IntKind.wrap .i64 (aa - 1) /\ a6 lo ao am /\ mu lo ao am < mu lo hi wv)) /\
 ((decide ((lo : Int) < hi)) = false ->
 R (.int .i64 lo) wv)
theorem spec_l03Digit_ret {a : Option Addr} {a0 a1 : Nat} {a2 : Option Addr} {a3 a4 : Nat} (h : spec_l03Digit a a0 a1 a2 a3 a4 w R) : Ret P 96 [.slice a a0 a1, .slice a2 a3 a4] w R := Ret.of_fsem Tryz.func96 rfl (Eq.mp (show _ = fsem P Tryz.f96 (fun k => cond (Nat.beq k 4) [(5, .one (.int .i64)), (6, .one (.int .i64))] ([])) _ R w from by kernel_rfl) h)
def spec_NatEven (a0 : Option Addr) (a1 a2 : Nat) (w : World) (R : Value -> World -> Prop) : Prop :=
 Calls P 63 ⟨[.slice a0 a1 a2]⟩ w fun e wv =>
 ∃ t4, e = .returned (.bool t4) /\
 (t4 = true ->
 ((decide ((((a1 : Nat) : Int) : Int) = 0)) = true ->
 R (.bool true) wv) /\
 ((decide ((((a1 : Nat) : Int) : Int) = 0)) = false ->
 (0 <= (0 : Int) /\ (0 : Int) < (a1 : Nat)) /\ ptrS a0 fun ad => ∃ a3, Loads P 3 (ad.add (0 * 1)) (.int .i64 a3) wv /\ (2 : Int) ≠ 0 /\ ∃ a4 : Int, a4 = Int.tmod a3 2 /\ R (.bool (decide ((a4 : Int) = 0))) wv)) /\
 (t4 = false ->
 R (.bool false) wv)
theorem spec_NatEven_ret {a : Option Addr} {a0 a1 : Nat} (h : spec_NatEven a a0 a1 w R) : Ret P 97 [.slice a a0 a1] w R := Ret.of_fsem Tryz.func97 rfl (Eq.mp (show _ = fsem P Tryz.f97 (fun k => []) _ R w from by kernel_rfl) h)
def spec_RatMake_j0 (r a0 a1 : Nat) (W : World) (R : Value -> World -> Prop) : Prop :=
 ∃ a2, Loads P 4 ((⟨r, 0, none⟩ : Addr).add 0) (.bool a2) W /\ ∃ a3, Loads P 4 ((⟨a0, 0, none⟩ : Addr).add 0) (.bool a3) W /\ ∃ a4 a5 a6, Loads P 22 ((⟨r, 0, none⟩ : Addr).add 1) (.slice a4 a5 a6) W /\ ∃ a7 a8 a9, Loads P 22 ((⟨a0, 0, none⟩ : Addr).add 1) (.slice a7 a8 a9) W /\ Calls P 54 ⟨[(.bool (!(a2 == a3))), .slice a4 a5 a6, .slice a7 a8 a9]⟩ W fun aa ab =>
 ∃ ac ae af ag ah ai aj ak, aa = .returned (.tuple #[.agg #[.bool ac, .slice ae af ag, .slice ah ai aj], .bool ak]) /\
 ∃ wv_6, Stores P 44 ⟨a1, 0, none⟩ (.agg #[.bool ac, .slice ae af ag, .slice ah ai aj]) ab wv_6 /\
 ∃ r0_1 al am an ao ap aq, Loads P 44 ⟨a1, 0, none⟩ (.agg #[.bool r0_1, .slice al am an, .slice ao ap aq]) wv_6 /\ R (.tuple #[.agg #[.bool r0_1, .slice al am an, .slice ao ap aq], .bool ak]) wv_6
def spec_RatMake (num0 : Bool) (a0 : Option Addr) (a1 a2 : Nat) (den0 : Bool) (a3 : Option Addr) (a4 a5 : Nat) (w : World) (R : Value -> World -> Prop) : Prop :=
 ∀ r wv, New w (.cells ⟨[.bool num0, .slice a0 a1 a2]⟩ 29 (0, 0)) r wv ->
 ∀ a6 a7, New wv (.cells ⟨[.bool den0, .slice a3 a4 a5]⟩ 29 (0, 0)) a6 a7 ->
 ∀ a8 a9, New a7 (.cells ⟨[.bool false, .slice none 0 0, .slice none 0 0]⟩ 44 (0, 0)) a8 a9 ->
 ∃ aa ab ac ae, Loads P 29 ⟨r, 0, none⟩ (.agg #[.bool aa, .slice ab ac ae]) a9 /\ Calls P 26 ⟨[.agg #[.bool aa, .slice ab ac ae]]⟩ a9 fun e af =>
 ∃ t7, e = .returned (.bool t7) /\
 ((!t7) = true ->
 (true = true ->
 ∃ wv_4, Stores P 44 ⟨a8, 0, none⟩ (.agg #[.bool false, .slice none 0 0, .slice none 0 0]) af wv_4 /\
 ∃ r0 ag ah ai aj ak al, Loads P 44 ⟨a8, 0, none⟩ (.agg #[.bool r0, .slice ag ah ai, .slice aj ak al]) wv_4 /\ R (.tuple #[.agg #[.bool r0, .slice ag ah ai, .slice aj ak al], .bool false]) wv_4) /\
 (true = false ->
 spec_RatMake_j0 r a6 a8 af R)) /\
 ((!t7) = false ->
 ∃ am an ao ap, Loads P 29 ⟨a6, 0, none⟩ (.agg #[.bool am, .slice an ao ap]) af /\ Calls P 26 ⟨[.agg #[.bool am, .slice an ao ap]]⟩ af fun aq ar =>
 ∃ au, aq = .returned (.bool au) /\
 ((!au) = true ->
 ∃ wv_8, Stores P 44 ⟨a8, 0, none⟩ (.agg #[.bool false, .slice none 0 0, .slice none 0 0]) ar wv_8 /\
 ∃ r0_2 av aw ax ay az b0, Loads P 44 ⟨a8, 0, none⟩ (.agg #[.bool r0_2, .slice av aw ax, .slice ay az b0]) wv_8 /\ R (.tuple #[.agg #[.bool r0_2, .slice av aw ax, .slice ay az b0], .bool false]) wv_8) /\
 ((!au) = false ->
 spec_RatMake_j0 r a6 a8 ar R))
theorem spec_RatMake_ret {a : Bool} {a0 : Option Addr} {a1 a2 : Nat} {a3 : Bool} {a4 : Option Addr} {a5 a6 : Nat} (h : spec_RatMake a a0 a1 a2 a3 a4 a5 a6 w R) : Ret P 98 [.agg #[.bool a, .slice a0 a1 a2], .agg #[.bool a3, .slice a4 a5 a6]] w R := Ret.of_fsem Tryz.func98 rfl (Eq.mp (show _ = fsem P Tryz.f98 (fun k => []) _ R w from by kernel_rfl) h)
def spec_RatAdd_j0 (r a0 a1 : Nat) (W : World) (R : Value -> World -> Prop) : Prop :=
 ∃ a2, (∀ wv_5, Ext W.drew wv_5 -> Loads P 4 (((⟨r, 0, none⟩ : Addr).add 0).add 0) (.bool a2) wv_5) /\ ∃ a3 a4 a5, (∀ wv_6, Ext W.drew wv_6 -> Loads P 22 (((⟨r, 0, none⟩ : Addr).add 0).add 1) (.slice a3 a4 a5) wv_6) /\ ∃ a6 a7 a8, (∀ wv_7, Ext W.drew wv_7 -> Loads P 22 ((⟨a0, 0, none⟩ : Addr).add 2) (.slice a6 a7 a8) wv_7) /\ ∀ (ss : List (Option Nat)) (a9 : World), Fl [.cells ⟨[.bool false, .slice none 0 0]⟩ 29 (0, 0)] [none] W.drew ss a9 ->
 Calls P 55 ⟨[.slice a3 a4 a5, .slice a6 a7 a8]⟩ a9 fun aa ab =>
 ∃ ac ae af, aa = .returned (.slice ac ae af) /\
 Ext a9 ab /\ ∀ (ss_1 : List (Option Nat)) (ag : World), Fl [.cells ⟨[.bool false, .slice none 0 0]⟩ 29 (0, 0)] ss ab ss_1 ag ->
 Calls P 65 ⟨[.bool a2, .slice ac ae af]⟩ ag fun ah ai =>
 ∃ aj ak al am, ah = .returned (.agg #[.bool aj, .slice ak al am]) /\
 ∀ (ss_2 : List (Option Nat)) (an : World) (ao : Nat), Fl [.cells ⟨[.bool false, .slice none 0 0]⟩ 29 (0, 0)] ss_1 ai ss_2 an -> ss_2[0]? = some (some ao) ->
 ∃ wv_13, Stores P 29 ⟨ao, 0, none⟩ (.agg #[.bool aj, .slice ak al am]) an wv_13 /\
 ∃ ap, (∀ wv_14, Ext wv_13.drew wv_14 -> Loads P 4 (((⟨a0, 0, none⟩ : Addr).add 0).add 0) (.bool ap) wv_14) /\ ∃ aq ar au, (∀ wv_15, Ext wv_13.drew wv_15 -> Loads P 22 (((⟨a0, 0, none⟩ : Addr).add 0).add 1) (.slice aq ar au) wv_15) /\ ∃ av aw ax, (∀ wv_16, Ext wv_13.drew wv_16 -> Loads P 22 ((⟨r, 0, none⟩ : Addr).add 2) (.slice av aw ax) wv_16) /\ ∀ (ss_3 : List (Option Nat)) (ay : World), Fl [.cells ⟨[.bool false, .slice none 0 0]⟩ 29 (0, 0)] [none] wv_13.drew ss_3 ay ->
 Calls P 55 ⟨[.slice aq ar au, .slice av aw ax]⟩ ay fun az b0 =>
 ∃ b1 b2 b3, az = .returned (.slice b1 b2 b3) /\
 Ext ay b0 /\ ∀ (ss_4 : List (Option Nat)) (b4 : World), Fl [.cells ⟨[.bool false, .slice none 0 0]⟩ 29 (0, 0)] ss_3 b0 ss_4 b4 ->
 Calls P 65 ⟨[.bool ap, .slice b1 b2 b3]⟩ b4 fun b5 b6 =>
 ∃ b7 b8 b9 ba, b5 = .returned (.agg #[.bool b7, .slice b8 b9 ba]) /\
 ∀ (ss_5 : List (Option Nat)) (bb : World) (bc : Nat), Fl [.cells ⟨[.bool false, .slice none 0 0]⟩ 29 (0, 0)] ss_4 b6 ss_5 bb -> ss_5[0]? = some (some bc) ->
 ∃ wv_22, Stores P 29 ⟨bc, 0, none⟩ (.agg #[.bool b7, .slice b8 b9 ba]) bb wv_22 /\
 ∃ bd be bf bg, Loads P 29 ⟨ao, 0, none⟩ (.agg #[.bool bd, .slice be bf bg]) wv_22 /\ ∃ bh bi bj bk, Loads P 29 ⟨bc, 0, none⟩ (.agg #[.bool bh, .slice bi bj bk]) wv_22 /\ Calls P 66 ⟨[.agg #[.bool bd, .slice be bf bg], .agg #[.bool bh, .slice bi bj bk]]⟩ wv_22 fun bl bm =>
 ∃ bn bo bp bq, bl = .returned (.agg #[.bool bn, .slice bo bp bq]) /\
 ∀ br bs, New bm (.cells ⟨[.bool false, .slice none 0 0]⟩ 29 (0, 0)) br bs ->
 ∃ wv_25, Stores P 29 ⟨br, 0, none⟩ (.agg #[.bool bn, .slice bo bp bq]) bs wv_25 /\
 ∃ bt, (∀ wv_26, Ext wv_25.drew wv_26 -> Loads P 4 ((⟨br, 0, none⟩ : Addr).add 0) (.bool bt) wv_26) /\ ∃ bu bv bw, (∀ wv_27, Ext wv_25.drew wv_27 -> Loads P 22 ((⟨br, 0, none⟩ : Addr).add 1) (.slice bu bv bw) wv_27) /\ ∃ bx bz c0, (∀ wv_28, Ext wv_25.drew wv_28 -> Loads P 22 ((⟨r, 0, none⟩ : Addr).add 2) (.slice bx bz c0) wv_28) /\ ∃ c1 c2 c3, (∀ wv_29, Ext wv_25.drew wv_29 -> Loads P 22 ((⟨a0, 0, none⟩ : Addr).add 2) (.slice c1 c2 c3) wv_29) /\ Calls P 55 ⟨[.slice bx bz c0, .slice c1 c2 c3]⟩ wv_25.drew fun c4 c5 =>
 ∃ c6 c7 c8, c4 = .returned (.slice c6 c7 c8) /\
 Ext wv_25.drew c5 /\ Calls P 54 ⟨[.bool bt, .slice bu bv bw, .slice c6 c7 c8]⟩ c5 fun c9 ca =>
 ∃ cb cc cd ce cf cg ch ci, c9 = .returned (.tuple #[.agg #[.bool cb, .slice cc cd ce, .slice cf cg ch], .bool ci]) /\
 ∃ wv_32, Stores P 44 ⟨a1, 0, none⟩ (.agg #[.bool cb, .slice cc cd ce, .slice cf cg ch]) ca wv_32 /\
 ∃ r0_2 cj ck cl cm cn co, Loads P 44 ⟨a1, 0, none⟩ (.agg #[.bool r0_2, .slice cj ck cl, .slice cm cn co]) wv_32 /\ R (.tuple #[.agg #[.bool r0_2, .slice cj ck cl, .slice cm cn co], .bool ci]) wv_32
def spec_RatAdd (r0 : Bool) (a0 : Option Addr) (a1 a2 : Nat) (a3 : Option Addr) (a4 a5 : Nat) (s0 : Bool) (a6 : Option Addr) (a7 a8 : Nat) (a9 : Option Addr) (aa ab : Nat) (w : World) (R : Value -> World -> Prop) : Prop :=
 ∀ r wv, New w (.cells ⟨[.bool r0, .slice a0 a1 a2, .slice a3 a4 a5]⟩ 44 (0, 0)) r wv ->
 ∀ ac ae, New wv (.cells ⟨[.bool s0, .slice a6 a7 a8, .slice a9 aa ab]⟩ 44 (0, 0)) ac ae ->
 ∀ af ag, New ae (.cells ⟨[.bool false, .slice none 0 0, .slice none 0 0]⟩ 44 (0, 0)) af ag ->
 ∃ ah ai aj ak al am an, Loads P 44 ⟨r, 0, none⟩ (.agg #[.bool ah, .slice ai aj ak, .slice al am an]) ag /\ Calls P 58 ⟨[.agg #[.bool ah, .slice ai aj ak, .slice al am an]]⟩ ag fun e ao =>
 ∃ ap, e = .returned (.bool ap) /\
 ((!ap) = true ->
 (true = true ->
 ∃ wv_4, Stores P 44 ⟨af, 0, none⟩ (.agg #[.bool false, .slice none 0 0, .slice none 0 0]) ao wv_4 /\
 ∃ r0_1 aq ar au av aw ax, Loads P 44 ⟨af, 0, none⟩ (.agg #[.bool r0_1, .slice aq ar au, .slice av aw ax]) wv_4 /\ R (.tuple #[.agg #[.bool r0_1, .slice aq ar au, .slice av aw ax], .bool false]) wv_4) /\
 (true = false ->
 spec_RatAdd_j0 r ac af ao R)) /\
 ((!ap) = false ->
 ∃ ay az b0 b1 b2 b3 b4, Loads P 44 ⟨ac, 0, none⟩ (.agg #[.bool ay, .slice az b0 b1, .slice b2 b3 b4]) ao /\ Calls P 58 ⟨[.agg #[.bool ay, .slice az b0 b1, .slice b2 b3 b4]]⟩ ao fun b5 b6 =>
 ∃ b7, b5 = .returned (.bool b7) /\
 ((!b7) = true ->
 ∃ wv_34, Stores P 44 ⟨af, 0, none⟩ (.agg #[.bool false, .slice none 0 0, .slice none 0 0]) b6 wv_34 /\
 ∃ r0_3 b8 b9 ba bb bc bd, Loads P 44 ⟨af, 0, none⟩ (.agg #[.bool r0_3, .slice b8 b9 ba, .slice bb bc bd]) wv_34 /\ R (.tuple #[.agg #[.bool r0_3, .slice b8 b9 ba, .slice bb bc bd], .bool false]) wv_34) /\
 ((!b7) = false ->
 spec_RatAdd_j0 r ac af b6 R))
theorem spec_RatAdd_ret {r0 : Bool} {a : Option Addr} {a0 a1 : Nat} {a2 : Option Addr} {a3 a4 : Nat} {s0 : Bool} {a5 : Option Addr} {a6 a7 : Nat} {a8 : Option Addr} {a9 b : Nat} (h : spec_RatAdd r0 a a0 a1 a2 a3 a4 s0 a5 a6 a7 a8 a9 b w R) : Ret P 99 [.agg #[.bool r0, .slice a a0 a1, .slice a2 a3 a4], .agg #[.bool s0, .slice a5 a6 a7, .slice a8 a9 b]] w R := Ret.of_fsem Tryz.func99 rfl (Eq.mp (show _ = fsem P Tryz.f99 (fun k => []) _ R w from by kernel_rfl) h)
end Go.Proofs.YtbgokfhcgcoipaaGreat
namespace Go.Proofs.YtbgokfhcgcoipaaGreat
variable {w : World} {R : Value -> World -> Prop}
open Go Go.Proofs.YtbgokfhcgcoipaaGreat.Sx
set_option maxRecDepth 100000
def slices_insertionSortCmpFunc_impl_part_j0 (a0 : Option Addr) (a1 : Nat) (a2 : World) (a3 : Int -> World -> Prop) (a4 : Int -> World -> Nat) (j : Int) (W : World) (R : Value -> World -> Prop) : Prop :=
 ∃ a5 : Int, a5 = IntKind.wrap .i64 (j - 1) /\ ∃ a6 : Int, a6 = IntKind.wrap .i64 (j - 1) /\ (0 <= (a6 : Int) /\ (a6 : Int) < (a1 : Nat)) /\ ptrS a0 fun a7 => ∃ a8 a9 aa ab, (∀ wv_5, Ext W.drew wv_5 -> Loads P 69 (a7.add (a6.toNat * 2)) (.agg #[.int .i64 a8, .slice a9 aa ab]) wv_5) /\ (0 <= (j : Int) /\ (j : Int) < (a1 : Nat)) /\ ptrS a0 fun ac => ∃ ae af ag ah, (∀ wv_6, Ext W.drew wv_6 -> Loads P 69 (ac.add (j.toNat * 2)) (.agg #[.int .i64 ae, .slice af ag ah]) wv_6) /\ (0 <= (j : Int) /\ (j : Int) < (a1 : Nat)) /\ ptrS a0 fun ai => ∃ wv_7, Stores P 69 (ai.add (j.toNat * 2)) (.agg #[.int .i64 a8, .slice a9 aa ab]) W.drew wv_7 /\
 (0 <= (a5 : Int) /\ (a5 : Int) < (a1 : Nat)) /\ ptrS a0 fun aj => ∃ wv_8, Stores P 69 (aj.add (a5.toNat * 2)) (.agg #[.int .i64 ae, .slice af ag ah]) wv_7 wv_8 /\
 ∃ ak : Int, ak = IntKind.wrap .i64 (j - 1) /\ a3 ak wv_8 /\ a4 ak wv_8 < a4 j a2
def slices_insertionSortCmpFunc_impl_part (a0 : Option Addr) (a1 a2 : Nat) (a b : Int) (cmp : Value) (w : World) (R : Value -> World -> Prop) : Prop :=
 ∃ a3 : Int, a3 = IntKind.wrap .i64 (a + 1) /\ ∃ (a4 : Int -> World -> Prop) (mu : Int -> World -> Nat), a4 a3 w /\
 ∀ (a5 : Fr) (wv : World) (i : Int), a4 i wv ->
 ((decide ((i : Int) < b)) = true ->
 ∃ (a6 : Int -> World -> Prop) (a7 : Int -> World -> Nat), a6 i wv /\
 ∀ (a8 : Fr) (a9 : World) (j : Int), a6 j a9 ->
 ((decide ((a : Int) < j)) = true ->
 (0 <= (j : Int) /\ (j : Int) < (a1 : Nat)) /\ ptrS a0 fun ad => ∃ aa ab ac ae, (∀ wv_2, Ext a9.drew wv_2 -> Loads P 69 (ad.add (j.toNat * 2)) (.agg #[.int .i64 aa, .slice ab ac ae]) wv_2) /\ ∃ af : Int, af = IntKind.wrap .i64 (j - 1) /\ (0 <= (af : Int) /\ (af : Int) < (a1 : Nat)) /\ ptrS a0 fun ag => ∃ ah ai aj ak, (∀ wv_3, Ext a9.drew wv_3 -> Loads P 69 (ag.add (af.toNat * 2)) (.agg #[.int .i64 ah, .slice ai aj ak]) wv_3) /\ CallW P cmp [.agg #[.int .i64 aa, .slice ab ac ae], .agg #[.int .i64 ah, .slice ai aj ak]] a9.drew fun e al =>
 ∃ am, e = .returned (.int .i64 am) /\
 ((decide ((am : Int) < 0)) = true ->
 slices_insertionSortCmpFunc_impl_part_j0 a0 a1 a9 a6 a7 j al R) /\
 ((decide ((am : Int) < 0)) = false ->
 ∃ an : Int, an = IntKind.wrap .i64 (i + 1) /\ a4 an al /\ mu an al < mu i wv)) /\
 ((decide ((a : Int) < j)) = false ->
 (false = true ->
 slices_insertionSortCmpFunc_impl_part_j0 a0 a1 a9 a6 a7 j a9.drew R) /\
 (false = false ->
 ∃ ao : Int, ao = IntKind.wrap .i64 (i + 1) /\ a4 ao a9.drew /\ mu ao a9.drew < mu i wv))) /\
 ((decide ((i : Int) < b)) = false ->
 R (.tuple #[]) wv)
theorem slices_insertionSortCmpFunc_impl_part_ret {a0 : Option Addr} {a1 a2 : Nat} {a b : Int} {a3 : Value} (h : slices_insertionSortCmpFunc_impl_part a0 a1 a2 a b a3 w R) : Ret P 100 [.slice a0 a1 a2, .int .i64 a, .int .i64 b, a3] w R := Ret.of_fsem Tryz.func100 rfl (Eq.mp (show _ = fsem P Tryz.f100 (fun k => cond (Nat.beq k 2) [(8, .one (.int .i64))] (cond (Nat.beq k 5) [(9, .one (.int .i64))] ([]))) _ R w from by kernel_rfl) h)
def slices_symMergeCmpFunc_impl_part_j2 (a0 : Option Addr) (a1 a2 : Nat) (b : Int) (cmp : Value) (a3 a4 : Int) (a5 : World) (R : Value -> World -> Prop) : Prop :=
 ((decide ((a3 : Int) < a4)) = true ->
 ((decide ((a4 : Int) < b)) = true ->
 Calls P 101 ⟨[.slice a0 a1 a2, .int .i64 a3, .int .i64 a4, .int .i64 b, cmp]⟩ a5 fun a6 a7 =>
 a6 = .returned (.tuple #[]) /\
 R (.tuple #[]) a7) /\
 ((decide ((a4 : Int) < b)) = false ->
 R (.tuple #[]) a5)) /\
 ((decide ((a3 : Int) < a4)) = false ->
 (false = true ->
 Calls P 101 ⟨[.slice a0 a1 a2, .int .i64 a3, .int .i64 a4, .int .i64 b, cmp]⟩ a5 fun a8 a9 =>
 a8 = .returned (.tuple #[]) /\
 R (.tuple #[]) a9) /\
 (false = false ->
 R (.tuple #[]) a5))
def slices_symMergeCmpFunc_impl_part_j1 (a0 : Option Addr) (a1 a2 : Nat) (a b : Int) (cmp : Value) (a3 start_1 a4 : Int) (a5 : World) (R : Value -> World -> Prop) : Prop :=
 ((decide ((a : Int) < start_1)) = true ->
 ((decide ((start_1 : Int) < a3)) = true ->
 Calls P 101 ⟨[.slice a0 a1 a2, .int .i64 a, .int .i64 start_1, .int .i64 a3, cmp]⟩ a5 fun a6 a7 =>
 a6 = .returned (.tuple #[]) /\
 slices_symMergeCmpFunc_impl_part_j2 a0 a1 a2 b cmp a3 a4 a7 R) /\
 ((decide ((start_1 : Int) < a3)) = false ->
 slices_symMergeCmpFunc_impl_part_j2 a0 a1 a2 b cmp a3 a4 a5 R)) /\
 ((decide ((a : Int) < start_1)) = false ->
 (false = true ->
 Calls P 101 ⟨[.slice a0 a1 a2, .int .i64 a, .int .i64 start_1, .int .i64 a3, cmp]⟩ a5 fun a8 a9 =>
 a8 = .returned (.tuple #[]) /\
 slices_symMergeCmpFunc_impl_part_j2 a0 a1 a2 b cmp a3 a4 a9 R) /\
 (false = false ->
 slices_symMergeCmpFunc_impl_part_j2 a0 a1 a2 b cmp a3 a4 a5 R))
def slices_symMergeCmpFunc_impl_part_j0 (a0 : Option Addr) (a1 a2 : Nat) (a m b : Int) (cmp : Value) (a3 a4 : Int) (start r : Int) (W : World) (R : Value -> World -> Prop) : Prop :=
 ∃ a5 : Int, a5 = IntKind.wrap .i64 (a4 - 1) /\ ∃ (a6 : Int -> Int -> World -> Prop) (a7 : Int -> Int -> World -> Nat), a6 start r W /\
 ∀ (a8 : Fr) (a9 : World) (start_1 aa : Int), a6 start_1 aa a9 ->
 ((decide ((start_1 : Int) < aa)) = true ->
 ∃ ab : Int, ab = IntKind.wrap .i64 (start_1 + aa) /\ ∃ ac : Int, ac = IntKind.wrap .u64 ab /\ 0 <= (1 : Int) /\ ∃ ae : Int, ae = Int.fdiv ac (2 ^ (min (1 : Int).toNat (IntKind.bits .u64))) /\ ∃ af : Int, af = IntKind.wrap .i64 ae /\ ∃ ag : Int, ag = IntKind.wrap .i64 (a5 - af) /\ (0 <= (ag : Int) /\ (ag : Int) < (a1 : Nat)) /\ ptrS a0 fun ah => ∃ ai aj ak al, (∀ wv_19, Ext a9.drew wv_19 -> Loads P 69 (ah.add (ag.toNat * 2)) (.agg #[.int .i64 ai, .slice aj ak al]) wv_19) /\ (0 <= (af : Int) /\ (af : Int) < (a1 : Nat)) /\ ptrS a0 fun am => ∃ an ao ap aq, (∀ wv_20, Ext a9.drew wv_20 -> Loads P 69 (am.add (af.toNat * 2)) (.agg #[.int .i64 an, .slice ao ap aq]) wv_20) /\ CallW P cmp [.agg #[.int .i64 ai, .slice aj ak al], .agg #[.int .i64 an, .slice ao ap aq]] a9.drew fun ar au =>
 ∃ av, ar = .returned (.int .i64 av) /\
 ((!(decide ((av : Int) < 0))) = true ->
 ∃ aw : Int, aw = IntKind.wrap .i64 (af + 1) /\ a6 aw aa au /\ a7 aw aa au < a7 start_1 aa a9) /\
 ((!(decide ((av : Int) < 0))) = false ->
 a6 start_1 af au /\ a7 start_1 af au < a7 start_1 aa a9)) /\
 ((decide ((start_1 : Int) < aa)) = false ->
 ∃ ax : Int, ax = IntKind.wrap .i64 (a4 - start_1) /\ ((decide ((start_1 : Int) < m)) = true ->
 ((decide ((m : Int) < ax)) = true ->
 Calls P 102 ⟨[.slice a0 a1 a2, .int .i64 start_1, .int .i64 m, .int .i64 ax, cmp]⟩ a9 fun ay az =>
 ay = .returned (.tuple #[]) /\
 slices_symMergeCmpFunc_impl_part_j1 a0 a1 a2 a b cmp a3 start_1 ax az R) /\
 ((decide ((m : Int) < ax)) = false ->
 slices_symMergeCmpFunc_impl_part_j1 a0 a1 a2 a b cmp a3 start_1 ax a9 R)) /\
 ((decide ((start_1 : Int) < m)) = false ->
 (false = true ->
 Calls P 102 ⟨[.slice a0 a1 a2, .int .i64 start_1, .int .i64 m, .int .i64 ax, cmp]⟩ a9 fun b0 b1 =>
 b0 = .returned (.tuple #[]) /\
 slices_symMergeCmpFunc_impl_part_j1 a0 a1 a2 a b cmp a3 start_1 ax b1 R) /\
 (false = false ->
 slices_symMergeCmpFunc_impl_part_j1 a0 a1 a2 a b cmp a3 start_1 ax a9 R)))
def slices_symMergeCmpFunc_impl_part (a0 : Option Addr) (a1 a2 : Nat) (a m b : Int) (cmp : Value) (w : World) (R : Value -> World -> Prop) : Prop :=
 ∃ a3 : Int, a3 = IntKind.wrap .i64 (m - a) /\ ((decide ((a3 : Int) = 1)) = true ->
 ∃ (a4 : Int -> Int -> World -> Prop) (mu : Int -> Int -> World -> Nat), a4 m b w /\
 ∀ (a5 : Fr) (wv : World) (i j : Int), a4 i j wv ->
 ((decide ((i : Int) < j)) = true ->
 ∃ a6 : Int, a6 = IntKind.wrap .i64 (i + j) /\ ∃ a7 : Int, a7 = IntKind.wrap .u64 a6 /\ 0 <= (1 : Int) /\ ∃ a8 : Int, a8 = Int.fdiv a7 (2 ^ (min (1 : Int).toNat (IntKind.bits .u64))) /\ ∃ a9 : Int, a9 = IntKind.wrap .i64 a8 /\ (0 <= (a9 : Int) /\ (a9 : Int) < (a1 : Nat)) /\ ptrS a0 fun ad => ∃ aa ab ac ae, (∀ wv_1, Ext wv.drew wv_1 -> Loads P 69 (ad.add (a9.toNat * 2)) (.agg #[.int .i64 aa, .slice ab ac ae]) wv_1) /\ (0 <= (a : Int) /\ (a : Int) < (a1 : Nat)) /\ ptrS a0 fun af => ∃ ag ah ai aj, (∀ wv_2, Ext wv.drew wv_2 -> Loads P 69 (af.add (a.toNat * 2)) (.agg #[.int .i64 ag, .slice ah ai aj]) wv_2) /\ CallW P cmp [.agg #[.int .i64 aa, .slice ab ac ae], .agg #[.int .i64 ag, .slice ah ai aj]] wv.drew fun e ak =>
 ∃ al, e = .returned (.int .i64 al) /\
 ((decide ((al : Int) < 0)) = true ->
 ∃ am : Int, am = IntKind.wrap .i64 (a9 + 1) /\ a4 am j ak /\ mu am j ak < mu i j wv) /\
 ((decide ((al : Int) < 0)) = false ->
 a4 i a9 ak /\ mu i a9 ak < mu i j wv)) /\
 ((decide ((i : Int) < j)) = false ->
 ∃ (an : Int -> World -> Prop) (ao : Int -> World -> Nat), an a wv /\
 ∀ (ap : Fr) (aq : World) (k : Int), an k aq ->
 ∃ ar : Int, ar = IntKind.wrap .i64 (i - 1) /\ ((decide ((k : Int) < ar)) = true ->
 ∃ au : Int, au = IntKind.wrap .i64 (k + 1) /\ ∃ av : Int, av = IntKind.wrap .i64 (k + 1) /\ (0 <= (av : Int) /\ (av : Int) < (a1 : Nat)) /\ ptrS a0 fun aw => ∃ ax ay az b0, (∀ wv_5, Ext aq.drew wv_5 -> Loads P 69 (aw.add (av.toNat * 2)) (.agg #[.int .i64 ax, .slice ay az b0]) wv_5) /\ (0 <= (k : Int) /\ (k : Int) < (a1 : Nat)) /\ ptrS a0 fun b1 => ∃ b2 b3 b4 b5, (∀ wv_6, Ext aq.drew wv_6 -> Loads P 69 (b1.add (k.toNat * 2)) (.agg #[.int .i64 b2, .slice b3 b4 b5]) wv_6) /\ (0 <= (k : Int) /\ (k : Int) < (a1 : Nat)) /\ ptrS a0 fun b6 => ∃ wv_7, Stores P 69 (b6.add (k.toNat * 2)) (.agg #[.int .i64 ax, .slice ay az b0]) aq.drew wv_7 /\
 (0 <= (au : Int) /\ (au : Int) < (a1 : Nat)) /\ ptrS a0 fun b7 => ∃ wv_8, Stores P 69 (b7.add (au.toNat * 2)) (.agg #[.int .i64 b2, .slice b3 b4 b5]) wv_7 wv_8 /\
 ∃ b8 : Int, b8 = IntKind.wrap .i64 (k + 1) /\ an b8 wv_8 /\ ao b8 wv_8 < ao k aq) /\
 ((decide ((k : Int) < ar)) = false ->
 R (.tuple #[]) aq))) /\
 ((decide ((a3 : Int) = 1)) = false ->
 ∃ b9 : Int, b9 = IntKind.wrap .i64 (b - m) /\ ((decide ((b9 : Int) = 1)) = true ->
 ∃ (ba : Int -> Int -> World -> Prop) (bb : Int -> Int -> World -> Nat), ba a m w /\
 ∀ (bc : Fr) (bd : World) (i_1 j_1 : Int), ba i_1 j_1 bd ->
 ((decide ((i_1 : Int) < j_1)) = true ->
 ∃ be : Int, be = IntKind.wrap .i64 (i_1 + j_1) /\ ∃ bf : Int, bf = IntKind.wrap .u64 be /\ 0 <= (1 : Int) /\ ∃ bg : Int, bg = Int.fdiv bf (2 ^ (min (1 : Int).toNat (IntKind.bits .u64))) /\ ∃ bh : Int, bh = IntKind.wrap .i64 bg /\ (0 <= (m : Int) /\ (m : Int) < (a1 : Nat)) /\ ptrS a0 fun bi => ∃ bj bk bl bm, (∀ wv_10, Ext bd.drew wv_10 -> Loads P 69 (bi.add (m.toNat * 2)) (.agg #[.int .i64 bj, .slice bk bl bm]) wv_10) /\ (0 <= (bh : Int) /\ (bh : Int) < (a1 : Nat)) /\ ptrS a0 fun bn => ∃ bo bp bq br, (∀ wv_11, Ext bd.drew wv_11 -> Loads P 69 (bn.add (bh.toNat * 2)) (.agg #[.int .i64 bo, .slice bp bq br]) wv_11) /\ CallW P cmp [.agg #[.int .i64 bj, .slice bk bl bm], .agg #[.int .i64 bo, .slice bp bq br]] bd.drew fun bs bt =>
 ∃ bu, bs = .returned (.int .i64 bu) /\
 ((!(decide ((bu : Int) < 0))) = true ->
 ∃ bv : Int, bv = IntKind.wrap .i64 (bh + 1) /\ ba bv j_1 bt /\ bb bv j_1 bt < bb i_1 j_1 bd) /\
 ((!(decide ((bu : Int) < 0))) = false ->
 ba i_1 bh bt /\ bb i_1 bh bt < bb i_1 j_1 bd)) /\
 ((decide ((i_1 : Int) < j_1)) = false ->
 ∃ (bw : Int -> World -> Prop) (bx : Int -> World -> Nat), bw m bd /\
 ∀ (bz : Fr) (c0 : World) (k_1 : Int), bw k_1 c0 ->
 ((decide ((i_1 : Int) < k_1)) = true ->
 ∃ c1 : Int, c1 = IntKind.wrap .i64 (k_1 - 1) /\ ∃ c2 : Int, c2 = IntKind.wrap .i64 (k_1 - 1) /\ (0 <= (c2 : Int) /\ (c2 : Int) < (a1 : Nat)) /\ ptrS a0 fun c3 => ∃ c4 c5 c6 c7, (∀ wv_14, Ext c0.drew wv_14 -> Loads P 69 (c3.add (c2.toNat * 2)) (.agg #[.int .i64 c4, .slice c5 c6 c7]) wv_14) /\ (0 <= (k_1 : Int) /\ (k_1 : Int) < (a1 : Nat)) /\ ptrS a0 fun c8 => ∃ c9 ca cb cc, (∀ wv_15, Ext c0.drew wv_15 -> Loads P 69 (c8.add (k_1.toNat * 2)) (.agg #[.int .i64 c9, .slice ca cb cc]) wv_15) /\ (0 <= (k_1 : Int) /\ (k_1 : Int) < (a1 : Nat)) /\ ptrS a0 fun cd => ∃ wv_16, Stores P 69 (cd.add (k_1.toNat * 2)) (.agg #[.int .i64 c4, .slice c5 c6 c7]) c0.drew wv_16 /\
 (0 <= (c1 : Int) /\ (c1 : Int) < (a1 : Nat)) /\ ptrS a0 fun ce => ∃ wv_17, Stores P 69 (ce.add (c1.toNat * 2)) (.agg #[.int .i64 c9, .slice ca cb cc]) wv_16 wv_17 /\
 ∃ cf : Int, cf = IntKind.wrap .i64 (k_1 - 1) /\ bw cf wv_17 /\ bx cf wv_17 < bx k_1 c0) /\
 ((decide ((i_1 : Int) < k_1)) = false ->
 R (.tuple #[]) c0))) /\
 ((decide ((b9 : Int) = 1)) = false ->
 ∃ cg : Int, cg = IntKind.wrap .i64 (a + b) /\ ∃ ch : Int, ch = IntKind.wrap .u64 cg /\ 0 <= (1 : Int) /\ ∃ ci : Int, ci = Int.fdiv ch (2 ^ (min (1 : Int).toNat (IntKind.bits .u64))) /\ ∃ cj : Int, cj = IntKind.wrap .i64 ci /\ ∃ ck : Int, ck = IntKind.wrap .i64 (cj + m) /\ ((decide ((cj : Int) < m)) = true ->
 ∃ cl : Int, cl = IntKind.wrap .i64 (ck - b) /\ slices_symMergeCmpFunc_impl_part_j0 a0 a1 a2 a m b cmp cj ck cl cj w R) /\
 ((decide ((cj : Int) < m)) = false ->
 slices_symMergeCmpFunc_impl_part_j0 a0 a1 a2 a m b cmp cj ck a m w R)))
theorem slices_symMergeCmpFunc_impl_part_ret {a0 : Option Addr} {a1 a2 : Nat} {a m b : Int} {a3 : Value} (h : slices_symMergeCmpFunc_impl_part a0 a1 a2 a m b a3 w R) : Ret P 101 [.slice a0 a1 a2, .int .i64 a, .int .i64 m, .int .i64 b, a3] w R := Ret.of_fsem Tryz.func101 rfl (Eq.mp (show _ = fsem P Tryz.f101 (fun k => cond (Nat.beq k 4) [(10, .one (.int .i64)), (11, .one (.int .i64))] (cond (Nat.beq k 10) [(13, .one (.int .i64))] (cond (Nat.beq k 16) [(14, .one (.int .i64)), (15, .one (.int .i64))] (cond (Nat.beq k 22) [(17, .one (.int .i64))] (cond (Nat.beq k 34) [(20, .one (.int .i64)), (21, .one (.int .i64))] ([])))))) _ R w from by kernel_rfl) h)
def slices_rotateCmpFunc_impl_part (a0 : Option Addr) (a1 a2 : Nat) (a m b : Int) (cmp : Value) (w : World) (R : Value -> World -> Prop) : Prop :=
 ∃ a3 : Int, a3 = IntKind.wrap .i64 (m - a) /\ ∃ a4 : Int, a4 = IntKind.wrap .i64 (b - m) /\ ∃ (a5 : Int -> Int -> World -> Prop) (mu : Int -> Int -> World -> Nat), a5 a3 a4 w /\
 ∀ (a6 : Fr) (wv : World) (i j : Int), a5 i j wv ->
 ((decide ((i : Int) ≠ j)) = true ->
 ((decide ((j : Int) < i)) = true ->
 ∃ a7 : Int, a7 = IntKind.wrap .i64 (m - i) /\ Calls P 103 ⟨[.slice a0 a1 a2, .int .i64 a7, .int .i64 m, .int .i64 j, cmp]⟩ wv fun e a8 =>
 e = .returned (.tuple #[]) /\
 ∃ a9 : Int, a9 = IntKind.wrap .i64 (i - j) /\ a5 a9 j a8 /\ mu a9 j a8 < mu i j wv) /\
 ((decide ((j : Int) < i)) = false ->
 ∃ aa : Int, aa = IntKind.wrap .i64 (m - i) /\ ∃ ab : Int, ab = IntKind.wrap .i64 (m + j) /\ ∃ ac : Int, ac = IntKind.wrap .i64 (ab - i) /\ Calls P 103 ⟨[.slice a0 a1 a2, .int .i64 aa, .int .i64 ac, .int .i64 i, cmp]⟩ wv fun ae af =>
 ae = .returned (.tuple #[]) /\
 ∃ ag : Int, ag = IntKind.wrap .i64 (j - i) /\ a5 i ag af /\ mu i ag af < mu i j wv)) /\
 ((decide ((i : Int) ≠ j)) = false ->
 ∃ ah : Int, ah = IntKind.wrap .i64 (m - i) /\ Calls P 103 ⟨[.slice a0 a1 a2, .int .i64 ah, .int .i64 m, .int .i64 i, cmp]⟩ wv fun ai aj =>
 ai = .returned (.tuple #[]) /\
 R (.tuple #[]) aj)
theorem slices_rotateCmpFunc_impl_part_ret {a0 : Option Addr} {a1 a2 : Nat} {a m b : Int} {a3 : Value} (h : slices_rotateCmpFunc_impl_part a0 a1 a2 a m b a3 w R) : Ret P 102 [.slice a0 a1 a2, .int .i64 a, .int .i64 m, .int .i64 b, a3] w R := Ret.of_fsem Tryz.func102 rfl (Eq.mp (show _ = fsem P Tryz.f102 (fun k => cond (Nat.beq k 3) [(10, .one (.int .i64)), (11, .one (.int .i64))] ([])) _ R w from by kernel_rfl) h)
def slices_swapRangeCmpFunc_impl_part (a0 : Option Addr) (a1 a2 : Nat) (a b n : Int) (cmp : Value) (w : World) (R : Value -> World -> Prop) : Prop :=
 ∃ (a3 : Int -> World -> Prop) (mu : Int -> World -> Nat), a3 0 w /\
 ∀ (a4 : Fr) (wv : World) (i : Int), a3 i wv ->
 ((decide ((i : Int) < n)) = true ->
 ∃ a5 : Int, a5 = IntKind.wrap .i64 (a + i) /\ ∃ a6 : Int, a6 = IntKind.wrap .i64 (b + i) /\ ∃ a7 : Int, a7 = IntKind.wrap .i64 (b + i) /\ (0 <= (a7 : Int) /\ (a7 : Int) < (a1 : Nat)) /\ ptrS a0 fun ad => ∃ a8 a9 aa ab, (∀ wv_1, Ext wv.drew wv_1 -> Loads P 69 (ad.add (a7.toNat * 2)) (.agg #[.int .i64 a8, .slice a9 aa ab]) wv_1) /\ ∃ ac : Int, ac = IntKind.wrap .i64 (a + i) /\ (0 <= (ac : Int) /\ (ac : Int) < (a1 : Nat)) /\ ptrS a0 fun ae => ∃ af ag ah ai, (∀ wv_2, Ext wv.drew wv_2 -> Loads P 69 (ae.add (ac.toNat * 2)) (.agg #[.int .i64 af, .slice ag ah ai]) wv_2) /\ (0 <= (a5 : Int) /\ (a5 : Int) < (a1 : Nat)) /\ ptrS a0 fun aj => ∃ wv_3, Stores P 69 (aj.add (a5.toNat * 2)) (.agg #[.int .i64 a8, .slice a9 aa ab]) wv.drew wv_3 /\
 (0 <= (a6 : Int) /\ (a6 : Int) < (a1 : Nat)) /\ ptrS a0 fun ak => ∃ wv_4, Stores P 69 (ak.add (a6.toNat * 2)) (.agg #[.int .i64 af, .slice ag ah ai]) wv_3 wv_4 /\
 ∃ al : Int, al = IntKind.wrap .i64 (i + 1) /\ a3 al wv_4 /\ mu al wv_4 < mu i wv) /\
 ((decide ((i : Int) < n)) = false ->
 R (.tuple #[]) wv)
theorem slices_swapRangeCmpFunc_impl_part_ret {a0 : Option Addr} {a1 a2 : Nat} {a b n : Int} {a3 : Value} (h : slices_swapRangeCmpFunc_impl_part a0 a1 a2 a b n a3 w R) : Ret P 103 [.slice a0 a1 a2, .int .i64 a, .int .i64 b, .int .i64 n, a3] w R := Ret.of_fsem Tryz.func103 rfl (Eq.mp (show _ = fsem P Tryz.f103 (fun k => cond (Nat.beq k 2) [(10, .one (.int .i64))] ([])) _ R w from by kernel_rfl) h)
end Go.Proofs.YtbgokfhcgcoipaaGreat
