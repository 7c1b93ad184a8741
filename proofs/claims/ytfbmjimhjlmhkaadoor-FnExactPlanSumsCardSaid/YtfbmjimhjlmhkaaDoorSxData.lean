/-
  Data in memory: the cells of a struct, slices of structs; what is one's own.
-/
import Derived.Test.YtfbmjimhjlmhkaaDoorSxMem
import Derived.Test.YtfbmjimhjlmhkaaDoorNm
namespace Go.Proofs.YtfbmjimhjlmhkaaDoor.Sx
open Go Go.RowKit
set_option linter.unusedVariables false
set_option linter.unusedSimpArgs false

/-- what one cell reads as -/
inductive D0 where
  | int (n : Int) | bool (b : Bool) | str (s : ByteArray) | ints (l : List Int)
  deriving DecidableEq

inductive C0 where
  | int | bool | str | ints
  deriving DecidableEq

def D0.code : D0 → C0
  | .int _ => .int
  | .bool _ => .bool
  | .str _ => .str
  | .ints _ => .ints

def Rep0 (w : World) (v : Value) : D0 → Prop
  | .int n => v = .int .i64 n
  | .bool b => v = .bool b
  | .str s => v = .string s
  | .ints zs => ∃ p n c, v = .slice p n c ∧ IntsR w p n c zs

def Reps (w : World) : List Value → List D0 → Prop
  | [], [] => True
  | v :: vs, d :: ds => Rep0 w v d ∧ Reps w vs ds
  | _, _ => False

theorem Rep0.ext {w w' : World} {v : Value} {d : D0} (h : Rep0 w v d) (he : Ext w w') : Rep0 w' v d := by
  cases d <;> simp only [Rep0] at h ⊢ <;> try exact h
  obtain ⟨p, n, c, hv, hi⟩ := h
  exact ⟨p, n, c, hv, hi.ext he⟩
theorem Reps.ext {w w' : World} : ∀ {vs : List Value} {ds : List D0}, Reps w vs ds → Ext w w' → Reps w' vs ds
  | [], [], _, _ => trivial
  | [], _ :: _, h, _ => h.elim
  | _ :: _, [], h, _ => h.elim
  | _ :: _, _ :: _, h, he => ⟨h.1.ext he, Reps.ext h.2 he⟩
theorem Reps.len {w : World} : ∀ {vs : List Value} {ds : List D0}, Reps w vs ds → vs.length = ds.length
  | [], [], _ => rfl
  | [], _ :: _, h => h.elim
  | _ :: _, [], h => h.elim
  | _ :: _, _ :: _, h => by simp [Reps.len h.2]
theorem Reps.append {w : World} : ∀ {vs us : List Value} {ds es : List D0}, Reps w vs ds → Reps w us es → Reps w (vs ++ us) (ds ++ es)
  | [], _, [], _, _, k => k
  | [], _, _ :: _, _, h, _ => h.elim
  | _ :: _, _, [], _, h, _ => h.elim
  | _ :: _, _, _ :: _, _, h, k => ⟨h.1, Reps.append h.2 k⟩
theorem Reps.one {w : World} {vs : List Value} {ds : List D0} (h : Reps w vs ds) (h1 : ∀ v ∈ vs, v.oneCell' = true → True) : True := trivial

/-- every such cell is one cell -/
theorem Rep0.cell1 {w : World} {v : Value} {d : D0} (h : Rep0 w v d) : v.oneCell' = true := by
  cases d <;> simp only [Rep0] at h
  case ints l => obtain ⟨p, n, c, hv, _⟩ := h; rw [hv]; rfl
  all_goals (rw [h]; rfl)
theorem Reps.cells1 {w : World} : ∀ {vs : List Value} {ds : List D0}, Reps w vs ds → ∀ v ∈ vs, v.oneCell' = true
  | [], [], _, v, hv => by simp at hv
  | [], _ :: _, h, _, _ => h.elim
  | _ :: _, [], h, _, _ => h.elim
  | x :: xs, d :: ds, h, v, hv => by
    rcases List.mem_cons.1 hv with e | e
    · rw [e]; exact h.1.cell1
    · exact Reps.cells1 h.2 v e

/-- by its code, a list of cells comes written out -/
theorem Reps.int {w : World} {vs : List Value} {ds : List D0} {cs : List C0} (h : Reps w vs ds) (hc : ds.map D0.code = .int :: cs) : ∃ n us es, vs = .int .i64 n :: us ∧ ds = .int n :: es ∧ Reps w us es ∧ es.map D0.code = cs := by
  cases ds with
  | nil => simp at hc
  | cons d es =>
    cases vs with
    | nil => exact h.elim
    | cons v us =>
      simp only [List.map_cons, List.cons.injEq] at hc
      cases d <;> simp [D0.code] at hc
      rename_i n
      exact ⟨n, us, es, by rw [show v = _ from h.1], rfl, h.2, hc⟩
theorem Reps.bool {w : World} {vs : List Value} {ds : List D0} {cs : List C0} (h : Reps w vs ds) (hc : ds.map D0.code = .bool :: cs) : ∃ b us es, vs = .bool b :: us ∧ ds = .bool b :: es ∧ Reps w us es ∧ es.map D0.code = cs := by
  cases ds with
  | nil => simp at hc
  | cons d es =>
    cases vs with
    | nil => exact h.elim
    | cons v us =>
      simp only [List.map_cons, List.cons.injEq] at hc
      cases d <;> simp [D0.code] at hc
      rename_i n
      exact ⟨n, us, es, by rw [show v = _ from h.1], rfl, h.2, hc⟩
theorem Reps.str {w : World} {vs : List Value} {ds : List D0} {cs : List C0} (h : Reps w vs ds) (hc : ds.map D0.code = .str :: cs) : ∃ s us es, vs = .string s :: us ∧ ds = .str s :: es ∧ Reps w us es ∧ es.map D0.code = cs := by
  cases ds with
  | nil => simp at hc
  | cons d es =>
    cases vs with
    | nil => exact h.elim
    | cons v us =>
      simp only [List.map_cons, List.cons.injEq] at hc
      cases d <;> simp [D0.code] at hc
      rename_i n
      exact ⟨n, us, es, by rw [show v = _ from h.1], rfl, h.2, hc⟩
theorem Reps.ints {w : World} {vs : List Value} {ds : List D0} {cs : List C0} (h : Reps w vs ds) (hc : ds.map D0.code = .ints :: cs) :
    ∃ p n c zs us es, vs = .slice p n c :: us ∧ ds = .ints zs :: es ∧ IntsR w p n c zs ∧ Reps w us es ∧ es.map D0.code = cs := by
  cases ds with
  | nil => simp at hc
  | cons d es =>
    cases vs with
    | nil => exact h.elim
    | cons v us =>
      simp only [List.map_cons, List.cons.injEq] at hc
      cases d <;> simp [D0.code] at hc
      rename_i zs
      obtain ⟨p, n, c, hv, hi⟩ := h.1
      exact ⟨p, n, c, zs, us, es, by rw [hv], rfl, hi, h.2, hc⟩
theorem Reps.done {w : World} {vs : List Value} {ds : List D0} (h : Reps w vs ds) (hc : ds.map D0.code = []) : vs = [] ∧ ds = [] := by
  have : ds = [] := by simpa using hc
  subst this
  cases vs with
  | nil => exact ⟨rfl, rfl⟩
  | cons _ _ => exact h.elim

/-- a slice of structs of k cells -/
def RowsR (w : World) (k : Nat) (p : Option Addr) (n c : Nat) (l : List (List D0)) : Prop :=
  l.length = n ∧ n ≤ c ∧ c ≤ 9223372036854775807 ∧ (0 < n → ∃ b off, p = some ⟨b, off, none⟩ ∧ ∀ i x, l[i]? = some x → ∃ cs, cs.length = k ∧ Reps w cs x ∧ Seg w b (off + i * k) cs)

theorem RowsR.ext {w w' : World} {k : Nat} {p : Option Addr} {n c : Nat} {l : List (List D0)} (h : RowsR w k p n c l) (he : Ext w w') : RowsR w' k p n c l :=
  ⟨h.1, h.2.1, h.2.2.1, fun hn => let ⟨b, off, hp, hs⟩ := h.2.2.2 hn; ⟨b, off, hp, fun i x hx => let ⟨cs, h1, h2, h3⟩ := hs i x hx; ⟨cs, h1, h2.ext he, h3.ext he⟩⟩⟩
theorem RowsR.nil (w : World) (k : Nat) (p : Option Addr) {c : Nat} (hc : c ≤ 9223372036854775807) : RowsR w k p 0 c [] := ⟨rfl, Nat.zero_le _, hc, fun h => absurd h (by omega)⟩
/-- element i -/
theorem RowsR.at {P : Program} {w : World} {k : Nat} {p : Option Addr} {n c i : Nat} {l : List (List D0)} (h : RowsR w k p n c l) {t : TypeId} (ht : aggT P t k = true) (hi : i < n) :
    ∃ a cs, p = some a ∧ cs.length = k ∧ Reps w cs (l[i]'(by rw [h.1]; exact hi)) ∧ Loads P t (a.add (i * k)) (.agg ⟨cs⟩) w := by
  obtain ⟨b, off, hp, hs⟩ := h.2.2.2 (by omega)
  obtain ⟨cs, h1, h2, h3⟩ := hs i _ (List.getElem?_eq_getElem (by rw [h.1]; exact hi))
  refine ⟨_, cs, hp, h1, h2, ?_⟩
  rw [addr_add]
  exact loadsA (by rw [h1]; exact ht) h3

/-- how much there is of it -/
def D0.bulk : D0 → Nat
  | .str s => s.size
  | .ints l => l.length
  | _ => 0
def bulks (ds : List D0) : Nat := (ds.map D0.bulk).sum
theorem bulks_le {l : List (List D0)} {y : List D0} (h : y ∈ l) : bulks y ≤ (l.map bulks).sum := by
  induction l with
  | nil => simp at h
  | cons a r ih =>
    simp only [List.map_cons, List.sum_cons]
    rcases List.mem_cons.1 h with e | e
    · rw [e]; omega
    · have := ih e; omega
/-- what a reading says of sizes -/
def D0.ok : D0 → Prop
  | .int n => -9223372036854775808 ≤ n ∧ n ≤ 9223372036854775807
  | .str s => s.size ≤ 9223372036854775807
  | .ints l => l.length ≤ 9223372036854775807
  | .bool _ => True

end Go.Proofs.YtfbmjimhjlmhkaaDoor.Sx
