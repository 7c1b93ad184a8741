/-
  Plain: natural numbers as lists of limbs.
-/
import Derived.Test.YtfbmjimhjlmhkaaDoorCInt
namespace Go.Proofs.YtfbmjimhjlmhkaaDoor
open Go Go.Proofs.YtfbmjimhjlmhkaaDoor.Sx
set_option linter.unusedVariables false
set_option linter.unusedSimpArgs false

def val : List Int → Int
  | [] => 0
  | x :: r => x + 1000000000 * val r
def Limbs (l : List Int) : Prop := ∀ x ∈ l, 0 ≤ x ∧ x < 1000000000
/-- no zero on top -/
def Canon (l : List Int) : Prop := Limbs l ∧ l.getLast? ≠ some 0
def digs (n : Nat) : List Int := if h : n = 0 then [] else ((n % 1000000000 : Nat) : Int) :: digs (n / 1000000000)
termination_by n
decreasing_by omega

theorem natOk_spec {l : List Int} : natOk l = true ↔ Canon l ∧ l.length ≤ 50 := by
  unfold natOk Canon Limbs
  simp only [Bool.and_eq_true, List.all_eq_true, isLimb, decide_eq_true_eq, Bool.not_eq_true', decide_eq_false_iff_not]
  constructor
  · rintro ⟨⟨h1, h2⟩, h3⟩
    exact ⟨⟨fun x hx => by have := h1 x hx; omega, h3⟩, h2⟩
  · rintro ⟨⟨h1, h3⟩, h2⟩
    exact ⟨⟨fun x hx => by have := h1 x hx; omega, h2⟩, h3⟩

theorem Limbs.nil : Limbs [] := fun x hx => by simp at hx
theorem Limbs.cons {x : Int} {r : List Int} : Limbs (x :: r) ↔ (0 ≤ x ∧ x < 1000000000) ∧ Limbs r := by simp [Limbs]
theorem Limbs.append {a b : List Int} : Limbs (a ++ b) ↔ Limbs a ∧ Limbs b := by
  simp only [Limbs, List.mem_append]
  exact ⟨fun h => ⟨fun x hx => h x (.inl hx), fun x hx => h x (.inr hx)⟩, fun h x hx => hx.elim (h.1 x) (h.2 x)⟩
theorem Limbs.take {a : List Int} (h : Limbs a) (k : Nat) : Limbs (a.take k) := fun x hx => h x (List.mem_of_mem_take hx)
theorem Limbs.getD {a : List Int} (h : Limbs a) (k : Nat) : 0 ≤ a.getD k 0 ∧ a.getD k 0 < 1000000000 := by
  by_cases hk : k < a.length
  · rw [List.getD_eq_getElem?_getD, List.getElem?_eq_getElem hk]
    exact h _ (List.getElem_mem hk)
  · rw [getD_beyond (by omega)]; omega
theorem val_nonneg : ∀ {l : List Int}, Limbs l → 0 ≤ val l
  | [], _ => Int.le_refl _
  | x :: r, h => by
    have h := Limbs.cons.1 h
    have := val_nonneg h.2
    simp only [val]; omega
theorem val_append : ∀ (a b : List Int), val (a ++ b) = val a + 1000000000 ^ a.length * val b
  | [], b => by simp [val]
  | x :: r, b => by
    simp only [List.cons_append, val, val_append r b, List.length_cons, Int.pow_succ]
    rw [Int.mul_add, ← Int.add_assoc, ← Int.mul_assoc, Int.mul_comm 1000000000 (1000000000 ^ r.length)]
theorem val_lt : ∀ {l : List Int}, Limbs l → val l < 1000000000 ^ l.length
  | [], _ => by simp [val]
  | x :: r, h => by
    have h := Limbs.cons.1 h
    have := val_lt h.2
    simp only [val, List.length_cons, Int.pow_succ]
    omega
theorem val_take_succ (l : List Int) (k : Nat) : val (l.take (k + 1)) = val (l.take k) + 1000000000 ^ k * l.getD k 0 := by
  by_cases hk : k < l.length
  · rw [List.take_add_one, List.getElem?_eq_getElem hk, Option.toList_some, val_append, List.getD_eq_getElem?_getD, List.getElem?_eq_getElem hk]
    have : (l.take k).length = k := by simp; omega
    rw [this]; simp [val]
  · rw [List.take_of_length_le (by omega), List.take_of_length_le (by omega), getD_beyond (by omega)]; simp
theorem val_snoc (a : List Int) (x : Int) : val (a ++ [x]) = val a + 1000000000 ^ a.length * x := by
  rw [val_append]; simp [val]

theorem digs_zero : digs 0 = [] := by rw [digs]; simp
theorem digs_pos {n : Nat} (h : n ≠ 0) : digs n = ((n % 1000000000 : Nat) : Int) :: digs (n / 1000000000) := by rw [digs]; simp [h]
theorem digs_limbs : ∀ (n : Nat), Limbs (digs n) := by
  intro n
  induction n using Nat.strongRecOn with
  | ind n ih =>
    by_cases h : n = 0
    · subst h; rw [digs_zero]; exact Limbs.nil
    · rw [digs_pos h, Limbs.cons]
      exact ⟨by omega, ih _ (by omega)⟩
theorem val_digs : ∀ (n : Nat), val (digs n) = n := by
  intro n
  induction n using Nat.strongRecOn with
  | ind n ih =>
    by_cases h : n = 0
    · subst h; rw [digs_zero]; rfl
    · rw [digs_pos h, val, ih _ (by omega)]
      omega
theorem digs_last : ∀ (n : Nat), (digs n).getLast? ≠ some 0 := by
  intro n
  induction n using Nat.strongRecOn with
  | ind n ih =>
    by_cases h : n = 0
    · subst h; rw [digs_zero]; simp
    · rw [digs_pos h]
      by_cases h2 : n / 1000000000 = 0
      · rw [h2, digs_zero]
        simp; omega
      · have := ih (n / 1000000000) (by omega)
        rw [digs_pos h2, List.getLast?_cons_cons, ← digs_pos h2]
        exact this
theorem digs_canon (n : Nat) : Canon (digs n) := ⟨digs_limbs n, digs_last n⟩
theorem digs_nil {n : Nat} : digs n = [] ↔ n = 0 := by
  constructor
  · intro h
    by_cases h0 : n = 0
    · exact h0
    · rw [digs_pos h0] at h; cases h
  · rintro rfl; exact digs_zero

theorem Canon.cons {x : Int} {r : List Int} (h : Canon (x :: r)) : (0 ≤ x ∧ x < 1000000000) ∧ Canon r ∧ (r = [] → x ≠ 0) := by
  obtain ⟨h1, h2⟩ := h
  have h1 := Limbs.cons.1 h1
  refine ⟨h1.1, ⟨h1.2, ?_⟩, fun e => ?_⟩
  · intro e
    rw [List.getLast?_cons, e] at h2
    simp at h2
  · subst e; simpa using h2
theorem canon_pos : ∀ {l : List Int}, Canon l → l ≠ [] → 0 < val l
  | [], _, h => absurd rfl h
  | x :: r, h, _ => by
    obtain ⟨h1, h2, h3⟩ := h.cons
    simp only [val]
    have := val_nonneg h2.1
    by_cases hr : r = []
    · have := h3 hr; subst hr; simp [val]; omega
    · have := canon_pos h2 hr; omega
theorem digs_val : ∀ {l : List Int}, Canon l → digs (val l).toNat = l
  | [], _ => by simp [val, digs_zero]
  | x :: r, h => by
    obtain ⟨h1, h2, h3⟩ := h.cons
    have hp := canon_pos h (by simp)
    have hv := val_nonneg h2.1
    have e := digs_val h2
    rw [digs_pos (by omega)]
    simp only [val] at hp ⊢
    have e1 : (x + 1000000000 * val r).toNat % 1000000000 = x.toNat := by omega
    have e2 : (x + 1000000000 * val r).toNat / 1000000000 = (val r).toNat := by omega
    rw [e1, e2, e]
    congr 1; omega
theorem canon_inj {a b : List Int} (ha : Canon a) (hb : Canon b) (h : val a = val b) : a = b := by
  rw [← digs_val ha, ← digs_val hb, h]

/-! ## without the zeros on top -/

def trimL (l : List Int) : List Int := (l.reverse.dropWhile (fun x => decide (x = 0))).reverse
theorem trimL_snoc (l : List Int) (x : Int) : trimL (l ++ [x]) = if x = 0 then trimL l else l ++ [x] := by
  unfold trimL
  by_cases h : x = 0 <;> simp [h]
theorem trimL_nil : trimL [] = [] := rfl
theorem trimL_take {l : List Int} {k : Nat} (hk : k < l.length) : trimL (l.take (k + 1)) = if l.getD k 0 = 0 then trimL (l.take k) else l.take (k + 1) := by
  have e : l.take (k + 1) = l.take k ++ [l.getD k 0] := by
    rw [List.take_add_one, List.getD_eq_getElem?_getD, List.getElem?_eq_getElem hk]; rfl
  rw [e, trimL_snoc]
theorem trimL_digs : ∀ (n : Nat) {l : List Int}, l.length = n → Limbs l → trimL l = digs (val l).toNat
  | 0, l, hn, h => by
    have : l = [] := List.eq_nil_of_length_eq_zero hn
    subst this; simp [val, digs_zero, trimL]
  | n + 1, l, hn, h => by
    have e : l = l.take n ++ [l.getD n 0] := by
      have : l.take (n + 1) = l := List.take_of_length_le (by omega)
      conv => lhs; rw [← this]
      rw [List.take_add_one, List.getD_eq_getElem?_getD, List.getElem?_eq_getElem (by omega)]; rfl
    rw [e, trimL_snoc]
    have ht := h.take n
    by_cases hx : l.getD n 0 = 0
    · rw [if_pos hx, trimL_digs n (by simp; omega) ht, val_snoc, hx]
      simp
    · rw [if_neg hx, ← e]
      refine (digs_val ⟨h, ?_⟩).symm
      rw [e]; simpa using hx
theorem trimL_eq {l : List Int} (h : Limbs l) : trimL l = digs (val l).toNat := trimL_digs _ rfl h
theorem trimL_len (l : List Int) : (trimL l).length ≤ l.length := by
  unfold trimL
  rw [List.length_reverse]
  calc (l.reverse.dropWhile _).length ≤ l.reverse.length := (List.dropWhile_sublist _).length_le
    _ = l.length := by simp
theorem trimL_prefix (l : List Int) : trimL l = l.take (trimL l).length := by
  unfold trimL
  obtain ⟨t, ht⟩ := List.dropWhile_suffix (fun x : Int => decide (x = 0)) (l := l.reverse)
  generalize l.reverse.dropWhile (fun x => decide (x = 0)) = d at ht ⊢
  have : l = d.reverse ++ t.reverse := by
    have := congrArg List.reverse ht
    simpa using this.symm
  rw [this, List.take_left']
  rfl

/-! ## comparison is comparison of values -/

theorem lex_val : ∀ (a b : List Int), a.length = b.length → Limbs a → Limbs b →
    (lexR a.reverse b.reverse = -1 ∧ val a < val b) ∨ (lexR a.reverse b.reverse = 0 ∧ val a = val b) ∨ (lexR a.reverse b.reverse = 1 ∧ val b < val a) := by
  have key : ∀ (n : Nat) (a b : List Int), a.length = n → b.length = n → Limbs a → Limbs b →
    (lexR a.reverse b.reverse = -1 ∧ val a < val b) ∨ (lexR a.reverse b.reverse = 0 ∧ val a = val b) ∨ (lexR a.reverse b.reverse = 1 ∧ val b < val a) := by
    intro n
    induction n with
    | zero =>
      intro a b ha hb _ _
      rw [List.eq_nil_of_length_eq_zero ha, List.eq_nil_of_length_eq_zero hb]
      exact .inr (.inl ⟨rfl, rfl⟩)
    | succ n ih =>
      intro a b ha hb la lb
      have split : ∀ {l : List Int}, l.length = n + 1 → l = l.take n ++ [l.getD n 0] := by
        intro l hl
        have : l.take (n + 1) = l := List.take_of_length_le (by omega)
        conv => lhs; rw [← this]
        rw [List.take_add_one, List.getD_eq_getElem?_getD, List.getElem?_eq_getElem (by omega)]; rfl
      have ea := split ha; have eb := split hb
      have lta : (a.take n).length = n := by simp; omega
      have ltb : (b.take n).length = n := by simp; omega
      have i := ih (a.take n) (b.take n) lta ltb (la.take n) (lb.take n)
      have va := val_nonneg (la.take n); have vb := val_nonneg (lb.take n)
      have wa := val_lt (la.take n); have wb := val_lt (lb.take n)
      rw [lta] at wa; rw [ltb] at wb
      have e1 : val a = val (a.take n) + 1000000000 ^ n * a.getD n 0 := by conv => lhs; rw [ea, val_snoc, lta]
      have e2 : val b = val (b.take n) + 1000000000 ^ n * b.getD n 0 := by conv => lhs; rw [eb, val_snoc, ltb]
      have r1 : a.reverse = a.getD n 0 :: (a.take n).reverse := (congrArg List.reverse ea).trans (by simp)
      have r2 : b.reverse = b.getD n 0 :: (b.take n).reverse := (congrArg List.reverse eb).trans (by simp)
      rw [r1, r2, lexR]
      have pow : (0 : Int) < 1000000000 ^ n := Int.pow_pos (by decide)
      by_cases h1 : a.getD n 0 < b.getD n 0
      · rw [if_pos h1]
        refine .inl ⟨rfl, ?_⟩
        have : (1000000000 : Int) ^ n * (a.getD n 0 + 1) ≤ 1000000000 ^ n * b.getD n 0 := Int.mul_le_mul_of_nonneg_left (by omega) (by omega)
        rw [Int.mul_add, Int.mul_one] at this
        omega
      · rw [if_neg h1]
        by_cases h2 : b.getD n 0 < a.getD n 0
        · rw [if_pos h2]
          refine .inr (.inr ⟨rfl, ?_⟩)
          have : (1000000000 : Int) ^ n * (b.getD n 0 + 1) ≤ 1000000000 ^ n * a.getD n 0 := Int.mul_le_mul_of_nonneg_left (by omega) (by omega)
          rw [Int.mul_add, Int.mul_one] at this
          omega
        · rw [if_neg h2]
          have he : a.getD n 0 = b.getD n 0 := by omega
          rw [e1, e2, he]
          rcases i with ⟨h, h'⟩ | ⟨h, h'⟩ | ⟨h, h'⟩
          · exact .inl ⟨h, by omega⟩
          · exact .inr (.inl ⟨h, by omega⟩)
          · exact .inr (.inr ⟨h, by omega⟩)
  intro a b hl la lb
  exact key _ a b rfl hl.symm la lb

/-- a number with more limbs is greater -/
theorem canon_len {a b : List Int} (ha : Canon a) (hb : Canon b) (h : a.length < b.length) : val a < val b := by
  have h1 := val_lt ha.1
  have hb0 : b ≠ [] := by intro e; subst e; simp at h
  obtain ⟨n, hn⟩ : ∃ n, b.length = n + 1 := ⟨b.length - 1, by omega⟩
  have eb : b = b.take n ++ [b.getD n 0] := by
    have : b.take (n + 1) = b := List.take_of_length_le (by omega)
    conv => lhs; rw [← this]
    rw [List.take_add_one, List.getD_eq_getElem?_getD, List.getElem?_eq_getElem (by omega)]; rfl
  have hlast : b.getD n 0 ≠ 0 := by
    have := hb.2
    rw [eb] at this
    simpa using this
  have hp := hb.1.getD n
  have ltb : (b.take n).length = n := by simp; omega
  have e2 : val b = val (b.take n) + 1000000000 ^ n * b.getD n 0 := by conv => lhs; rw [eb, val_snoc, ltb]
  have v0 := val_nonneg (hb.1.take n)
  have p1 : (1000000000 : Int) ^ n * 1 ≤ 1000000000 ^ n * b.getD n 0 := Int.mul_le_mul_of_nonneg_left (by omega) (Int.le_of_lt (Int.pow_pos (by decide)))
  have p2 : (1000000000 : Int) ^ a.length ≤ 1000000000 ^ n := by
    have : (1000000000 : Nat) ^ a.length ≤ 1000000000 ^ n := Nat.pow_le_pow_right (by decide) (by omega)
    have := Int.ofNat_le.2 this
    simpa using this
  omega

theorem cmpL_val {a b : List Int} (ha : Canon a) (hb : Canon b) : (cmpL a b = -1 ∧ val a < val b) ∨ (cmpL a b = 0 ∧ val a = val b) ∨ (cmpL a b = 1 ∧ val b < val a) := by
  unfold cmpL
  by_cases h1 : a.length < b.length
  · rw [if_pos h1]; exact .inl ⟨rfl, canon_len ha hb h1⟩
  · rw [if_neg h1]
    by_cases h2 : b.length < a.length
    · rw [if_pos h2]; exact .inr (.inr ⟨rfl, canon_len hb ha h2⟩)
    · rw [if_neg h2]
      exact lex_val a b (by omega) ha.1 hb.1

end Go.Proofs.YtfbmjimhjlmhkaaDoor
