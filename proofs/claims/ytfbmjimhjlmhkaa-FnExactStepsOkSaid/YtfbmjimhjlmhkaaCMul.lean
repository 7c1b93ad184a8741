/-
  Contracts: natural numbers multiplied.
-/
import Derived.Test.YtfbmjimhjlmhkaaCAdd
namespace Go.Proofs.Ytfbmjimhjlmhkaa
open Go Go.Proofs.Ytfbmjimhjlmhkaa.Sx
set_option linter.unusedVariables false
set_option linter.unusedSimpArgs false

theorem val_set : ∀ (l : List Int) {k : Nat} (x : Int), k < l.length → val (l.set k x) = val l + 1000000000 ^ k * (x - l.getD k 0)
  | [], k, x, h => by simp at h
  | y :: r, 0, x, _ => by simp [val]; omega
  | y :: r, k + 1, x, h => by
    have := val_set r (k := k) x (by simpa using h)
    simp only [List.set_cons_succ, val, this, List.getD_cons_succ, Int.pow_succ]
    rw [Int.mul_add, ← Int.mul_assoc, Int.mul_comm 1000000000 (1000000000 ^ k)]
    omega
theorem Limbs.set {l : List Int} {k : Nat} {x : Int} (h : Limbs l) (hx : 0 ≤ x ∧ x < 1000000000) : Limbs (l.set k x) := fun y hy => by
  rcases List.mem_or_eq_of_mem_set hy with h1 | h1
  · exact h y h1
  · rw [h1]; exact hx
theorem mul_limb {x y : Int} (hx : 0 ≤ x ∧ x < 1000000000) (hy : 0 ≤ y ∧ y < 1000000000) : 0 ≤ x * y ∧ x * y ≤ 999999998000000001 := by
  refine ⟨Int.mul_nonneg hx.1 hy.1, ?_⟩
  have h1 : x * y ≤ 999999999 * y := Int.mul_le_mul_of_nonneg_right (by omega) hy.1
  omega
/-- one place of a product -/
theorem mul_step {b o : List Int} {i k : Nat} {carry t x V : Int} (hl : i + k < o.length) (hv : val o + 1000000000 ^ (i + k) * carry = V + x * 1000000000 ^ i * val (b.take k)) (ht : t = carry + (o.getD (i + k) 0 + x * b.getD k 0)) :
    val (o.set (i + k) (t % 1000000000)) + 1000000000 ^ (i + (k + 1)) * (t / 1000000000) = V + x * 1000000000 ^ i * val (b.take (k + 1)) := by
  rw [val_set o _ hl, val_take_succ, show i + (k + 1) = (i + k) + 1 by omega, Int.pow_succ, Int.mul_assoc]
  have e : (1000000000 : Int) ^ (i + k) * (t % 1000000000 - o.getD (i + k) 0) + 1000000000 ^ (i + k) * (1000000000 * (t / 1000000000)) = 1000000000 ^ (i + k) * (carry + x * b.getD k 0) := by
    rw [← Int.mul_add]; congr 1; omega
  have e2 : x * (1000000000 : Int) ^ i * (val (b.take k) + 1000000000 ^ k * b.getD k 0) = x * 1000000000 ^ i * val (b.take k) + 1000000000 ^ (i + k) * (x * b.getD k 0) := by
    rw [Int.mul_add, Int.pow_add]
    congr 1
    simp only [Int.mul_assoc, Int.mul_comm, Int.mul_left_comm]
  rw [e2]
  rw [Int.mul_add] at e
  omega
/-- a carry goes on -/
theorem carry_step {o : List Int} {k : Nat} {carry t V : Int} (hl : k < o.length) (hv : val o + 1000000000 ^ k * carry = V) (ht : t = carry + o.getD k 0) :
    val (o.set k (t % 1000000000)) + 1000000000 ^ (k + 1) * (t / 1000000000) = V := by
  rw [val_set o _ hl, Int.pow_succ, Int.mul_assoc]
  have e : (1000000000 : Int) ^ k * (t % 1000000000 - o.getD k 0) + 1000000000 ^ k * (1000000000 * (t / 1000000000)) = 1000000000 ^ k * carry := by
    rw [← Int.mul_add]; congr 1; omega
  omega
theorem mul_row {a b : List Int} {i : Nat} : val (a.take i) * val b + a.getD i 0 * 1000000000 ^ i * val b = val (a.take (i + 1)) * val b := by
  rw [val_take_succ, Int.add_mul]
  congr 2
  rw [Int.mul_comm]

/-- the numbers of a block, as stores turn them -/
theorem blk_get {w : World} {r : Nat} {o : List Int} (h : Blk w r T_int (o.map (Value.int .i64))) {i : Int} (h0 : 0 ≤ i) (h1 : i < o.length) : Loads P T_int ((⟨r, 0, none⟩ : Addr).add (i.toNat * 1)) (.int .i64 (o.getD i.toNat 0)) w := by
  rw [Nat.mul_one]
  refine h.load (by kernel_rfl) ?_
  rw [List.getElem?_map, List.getD_eq_getElem?_getD, List.getElem?_eq_getElem (by omega)]; rfl
theorem blk_set {w : World} {r : Nat} {o : List Int} (h : Blk w r T_int (o.map (Value.int .i64))) {i : Int} (h0 : 0 ≤ i) (h1 : i < o.length) (x : Int) :
    ∃ w', Stores P T_int ((⟨r, 0, none⟩ : Addr).add (i.toNat * 1)) (.int .i64 x) w w' ∧ Blk w' r T_int ((o.set i.toNat x).map (Value.int .i64)) ∧ Chg [r] w w' ∧ w'.heap.size = w.heap.size := by
  obtain ⟨w', h1, h2, h3, h4⟩ := h.store (P := P) (t := T_int) (k := i.toNat) (v := .int .i64 x) (by kernel_rfl) (by simp; omega) rfl
  exact ⟨w', by rw [Nat.mul_one]; exact h1, by rw [List.map_set]; exact h2, h3, h4⟩

theorem impl_natMul_c {w : World} {p q : Option Addr} {n c m d : Nat} {a b : List Int} (h : IntsR w p n c a) (k : IntsR w q m d b) (ha : Limbs a) (hb : Limbs b) (hn : n ≤ 1000000) (hm : m ≤ 1000000) :
    Ret P n_impl_natMul [.slice p n c, .slice q m d] w fun v w' => ∃ p' n' c', v = .slice p' n' c' ∧ Own w' w.heap.size T_int 1 p' n' c' ((digs (val a * val b).toNat).map (Value.int .i64)) ∧ Ext w w' := by
  refine impl_natMul_ret ?_
  unfold impl_natMul
  have hla := h.1; have hlb := k.1
  have vb0 := val_nonneg hb
  have vbl := val_lt hb
  rw [hlb] at vbl
  refine exW ⟨by omega, by omega⟩ (exW ⟨by omega, by omega⟩ ⟨⟨by omega, by omega, by omega⟩, fun r w1 hn1 => ?_⟩)
  have hN : ((n : Int) + (m : Int) + 1).toNat = n + m + 1 := by omega
  rw [hN] at hn1 ⊢
  have hre := hn1.r_eq
  refine ⟨fun i wr => ∃ (j : Nat) (o : List Int), i = j ∧ j ≤ n ∧ o.length = n + m + 1 ∧ Blk wr r T_int (o.map (Value.int .i64)) ∧ Ext w wr ∧ Limbs o ∧ val o = val (a.take j) * val b, fun i _ => n - i.toNat,
    ⟨0, List.replicate (n + m + 1) 0, rfl, by omega, by simp, ?_, hn1.ext, fun x hx => by simp at hx; omega, ?_⟩, ?_⟩
  · have := hn1.blk
    rw [zeroRow_int, Nat.mul_one] at this
    simpa using this
  · have z : ∀ s : Nat, val (List.replicate s 0) = 0 := fun s => by
      induction s with
      | zero => rfl
      | succ s ih => simp [List.replicate_succ, val, ih]
    rw [z]; simp [val]
  intro junk wr i ⟨j, o, hi, hjn, hol, hblk, hx, hlo, hv⟩
  subst hi
  refine ifD (fun hlt => ?_) (fun hge => ?_)
  · have A := ha.getD j
    obtain ⟨ad, rfl, hl⟩ := ints_at (h.ext hx) (i := (j : Int)) (by omega) hlt
    simp only [Int.toNat_natCast] at hl
    refine ⟨⟨by omega, by omega⟩, _, by simpa only [Int.toNat_natCast] using hl, fun carry t wr2 => ∃ (s : Nat) (o : List Int), t = s ∧ s ≤ m ∧ o.length = n + m + 1 ∧ Blk wr2 r T_int (o.map (Value.int .i64)) ∧ Ext w wr2 ∧ Limbs o ∧ 0 ≤ carry ∧ carry < 1000000000 ∧ val o + 1000000000 ^ (j + s) * carry = val (a.take j) * val b + a.getD j 0 * 1000000000 ^ j * val (b.take s), fun _ t _ => m - t.toNat,
      ⟨0, o, rfl, by omega, hol, hblk, hx, hlo, by omega, by omega, by simp [val, hv]⟩, ?_⟩
    intro junk1 wr2 carry t ⟨s, o2, hs, hsm, hol2, hblk2, hx2, hlo2, hc0, hc1, hv2⟩
    subst hs
    refine ifD (fun hlt2 => ?_) (fun hge2 => ?_)
    · have B := hb.getD s
      have M := mul_limb A B
      obtain ⟨ad2, rfl, hl2⟩ := ints_at (k.ext hx2) (i := (s : Int)) (by omega) hlt2
      have O := hlo2.getD (j + s)
      have es : ((j : Int) + (s : Int)).toNat = j + s := by omega
      refine ⟨⟨by omega, by omega⟩, _, hl2, exW ⟨by omega, by omega⟩ ⟨⟨by omega, by omega⟩, _, blk_get hblk2 (by omega) (by omega), ?_⟩⟩
      rw [es]
      simp only [Int.toNat_natCast]
      refine exW ⟨by omega, by omega⟩ (exW ⟨by omega, by omega⟩ (exW ⟨by omega, by omega⟩ (exW ⟨by omega, by omega⟩ ⟨by decide, _, rfl, ⟨by omega, by omega⟩, ?_⟩)))
      rw [tmod_limb (by omega)]
      obtain ⟨w3, hst, hb3, hch, hsz⟩ := blk_set hblk2 (i := (j : Int) + (s : Int)) (by omega) (by omega) ((carry + (o2.getD (j + s) 0 + a.getD j 0 * b.getD s 0)) % 1000000000)
      rw [es] at hb3
      refine ⟨w3, hst, by decide, ?_⟩
      rw [tdiv_limb (by omega)]
      refine exW ⟨by omega, by omega⟩ (exW ⟨by omega, by omega⟩ ⟨⟨s + 1, _, by omega, by omega, by simpa using hol2, hb3, hx2.chg hch (by simp; omega), hlo2.set (limb_mod _), by omega, by omega, mul_step (by omega) hv2 rfl⟩, ?_⟩)
      show m - ((s : Int) + 1).toNat < m - (s : Int).toNat
      omega
    · have hsm' : s = m := by omega
      subst hsm'
      rw [List.take_of_length_le (show b.length ≤ s by omega), mul_row] at hv2
      have V0 : 0 ≤ val (a.take (j + 1)) := val_nonneg (ha.take _)
      have VL : val (a.take (j + 1)) * val b < 1000000000 ^ (j + 1 + s) := by
        have h1 := val_lt (ha.take (j + 1))
        have h2 : (a.take (j + 1)).length = j + 1 := by simp; omega
        rw [h2] at h1
        rw [Int.pow_add]
        exact Int.lt_of_le_of_lt (Int.mul_le_mul_of_nonneg_left (Int.le_of_lt vbl) V0) (Int.mul_lt_mul_of_pos_right h1 (Int.pow_pos (by decide)))
      refine exW ⟨by omega, by omega⟩ ⟨fun carry t wr3 => ∃ (u : Nat) (o : List Int), t = u ∧ u ≤ n + s + 1 ∧ o.length = n + s + 1 ∧ Blk wr3 r T_int (o.map (Value.int .i64)) ∧ Ext w wr3 ∧ Limbs o ∧ 0 ≤ carry ∧ carry < 1000000000 ∧ val o + 1000000000 ^ u * carry = val (a.take (j + 1)) * val b, fun _ t _ => n + s + 2 - t.toNat,
        ⟨j + s, o2, by omega, by omega, hol2, hblk2, hx2, hlo2, hc0, hc1, hv2⟩, ?_⟩
      intro junk2 wr3 carry2 t2 ⟨u, o3, hu, hun, hol3, hblk3, hx3, hlo3, hd0, hd1, hv3⟩
      subst hu
      refine ifD (fun hpos => ?_) (fun hno => ?_)
      · have hu2 : u < j + 1 + s := by
          rcases Nat.lt_or_ge u (j + 1 + s) with h | h
          · exact h
          · exfalso
            have p1 : (1000000000 : Int) ^ (j + 1 + s) ≤ 1000000000 ^ u := by
              have : (1000000000 : Nat) ^ (j + 1 + s) ≤ 1000000000 ^ u := Nat.pow_le_pow_right (by decide) h
              have := Int.ofNat_le.2 this
              simpa using this
            have p2 : (1000000000 : Int) ^ u * 1 ≤ 1000000000 ^ u * carry2 := Int.mul_le_mul_of_nonneg_left (by omega) (Int.le_of_lt (Int.pow_pos (by decide)))
            have := val_nonneg hlo3
            omega
        have O := hlo3.getD u
        refine ⟨⟨by omega, by omega⟩, _, blk_get hblk3 (by omega) (by omega), ?_⟩
        simp only [Int.toNat_natCast]
        refine exW ⟨by omega, by omega⟩ ⟨by decide, _, rfl, ⟨by omega, by omega⟩, ?_⟩
        rw [tmod_limb (by omega)]
        obtain ⟨w4, hst, hb4, hch, hsz⟩ := blk_set hblk3 (i := (u : Int)) (by omega) (by omega) ((carry2 + o3.getD u 0) % 1000000000)
        simp only [Int.toNat_natCast] at hst hb4
        refine ⟨w4, hst, by decide, ?_⟩
        rw [tdiv_limb (by omega)]
        refine exW ⟨by omega, by omega⟩ (exW ⟨by omega, by omega⟩ ⟨⟨u + 1, _, by omega, by omega, by simpa using hol3, hb4, hx3.chg hch (by simp; omega), hlo3.set (limb_mod _), by omega, by omega, carry_step (by omega) hv3 rfl⟩, ?_⟩)
        show n + s + 2 - ((u : Int) + 1).toNat < n + s + 2 - (u : Int).toNat
        omega
      · have hc : carry2 = 0 := by omega
        subst hc
        refine exW ⟨by omega, by omega⟩ ⟨⟨j + 1, o3, by omega, by omega, hol3, hblk3, hx3, hlo3, by omega⟩, ?_⟩
        show n - ((j : Int) + 1).toNat < n - (j : Int).toNat
        omega
  · have hjn' : j = n := by omega
    subst hjn'
    rw [List.take_of_length_le (by omega)] at hv
    have hown : Own wr w.heap.size T_int 1 (some ⟨r, 0, none⟩) (j + m + 1) (j + m + 1) (o.map (Value.int .i64)) := Own.of_blk hblk (by omega) (by simp [hol]) (by simp only [maxLen]; omega)
    refine Ret.at (impl_trim_c hown.ints) ?_
    rintro v w4 ⟨hv4, hw4, hr4⟩
    subst hv4; subst hw4
    refine ⟨_, _, _, rfl, _, _, _, rfl, ?_, hx⟩
    have e := trimL_eq hlo
    rw [hv] at e
    rw [← e]
    have hle := trimL_len o
    have := hown.sub (m := (trimL o).length) (by omega)
    rwa [← trimL_prefix] at this

theorem spec_l02Mul_c {w : World} {p q : Option Addr} {n c m d : Nat} {a b : List Int} (h : IntsR w p n c a) (k : IntsR w q m d b) (ha : Limbs a) (hb : Limbs b) (hn : n ≤ 1000000) (hm : m ≤ 1000000) :
    Ret P n_spec_l02Mul [.slice p n c, .slice q m d] w fun v w' => ∃ p' n' c', v = .slice p' n' c' ∧ Own w' w.heap.size T_int 1 p' n' c' ((digs (val a * val b).toNat).map (Value.int .i64)) ∧ Ext w w' := by
  refine spec_l02Mul_ret ?_
  unfold spec_l02Mul
  have hla := h.1; have hlb := k.1
  have none0 : val a * val b = 0 → ∃ p' n' c', Value.slice none 0 0 = .slice p' n' c' ∧ Own w w.heap.size T_int 1 p' n' c' ((digs (val a * val b).toNat).map (Value.int .i64)) ∧ Ext w w := fun e => by
    refine ⟨_, _, _, rfl, ?_, Ext.refl _⟩
    rw [e]
    simp only [Int.toNat_zero, digs_zero, List.map_nil]
    exact Own.nil _ _ _ _
  refine ifD (fun hz => ifT (none0 ?_)) (fun hna => ifD (fun hz => none0 ?_) (fun hnb => ?_))
  · rw [List.eq_nil_of_length_eq_zero (show a.length = 0 by omega)]; simp [val]
  · rw [List.eq_nil_of_length_eq_zero (show b.length = 0 by omega)]; simp [val]
  unfold spec_l02Mul_j0
  refine exW ⟨by omega, by omega⟩ ⟨⟨by omega, by omega, by omega⟩, fun r w1 hn1 => ?_⟩
  have hN : ((n : Int) + (m : Int)).toNat = n + m := by omega
  rw [hN] at hn1 ⊢
  have hre := hn1.r_eq
  refine ⟨fun i wr => ∃ (j : Nat) (o : List Int), i = j ∧ j ≤ n ∧ o.length = n + m ∧ Blk wr r T_int (o.map (Value.int .i64)) ∧ Ext w wr ∧ Limbs o ∧ (∀ z, j + m ≤ z → o.getD z 0 = 0) ∧ val o = val (a.take j) * val b, fun i _ => n - i.toNat,
    ⟨0, List.replicate (n + m) 0, rfl, by omega, by simp, ?_, hn1.ext, fun x hx => by simp at hx; omega, ?_, ?_⟩, ?_⟩
  · have := hn1.blk
    rw [zeroRow_int, Nat.mul_one] at this
    simpa using this
  · intro z hz
    by_cases hzl : z < n + m
    · simp [List.getD_eq_getElem?_getD, hzl]
    · exact getD_beyond (by simp; omega)
  · have z : ∀ s : Nat, val (List.replicate s 0) = 0 := fun s => by
      induction s with
      | zero => rfl
      | succ s ih => simp [List.replicate_succ, val, ih]
    rw [z]; simp [val]
  intro junk wr i ⟨j, o, hi, hjn, hol, hblk, hx, hlo, hzt, hv⟩
  subst hi
  refine ifD (fun hlt => ?_) (fun hge => ?_)
  · have A := ha.getD j
    obtain ⟨ad, rfl, hl⟩ := ints_at (h.ext hx) (i := (j : Int)) (by omega) hlt
    simp only [Int.toNat_natCast] at hl
    refine ⟨⟨by omega, by omega⟩, _, by simpa only [Int.toNat_natCast] using hl, fun carry t wr2 => ∃ (s : Nat) (o : List Int), t = s ∧ s ≤ m ∧ o.length = n + m ∧ Blk wr2 r T_int (o.map (Value.int .i64)) ∧ Ext w wr2 ∧ Limbs o ∧ (∀ z, j + m ≤ z → o.getD z 0 = 0) ∧ 0 ≤ carry ∧ carry < 1000000000 ∧ val o + 1000000000 ^ (j + s) * carry = val (a.take j) * val b + a.getD j 0 * 1000000000 ^ j * val (b.take s), fun _ t _ => m - t.toNat,
      ⟨0, o, rfl, by omega, hol, hblk, hx, hlo, hzt, by omega, by omega, by simp [val, hv]⟩, ?_⟩
    intro junk1 wr2 carry t ⟨s, o2, hs, hsm, hol2, hblk2, hx2, hlo2, hzt2, hc0, hc1, hv2⟩
    subst hs
    refine ifD (fun hlt2 => ?_) (fun hge2 => ?_)
    · have B := hb.getD s
      have M := mul_limb A B
      obtain ⟨ad2, rfl, hl2⟩ := ints_at (k.ext hx2) (i := (s : Int)) (by omega) hlt2
      have O := hlo2.getD (j + s)
      have es : ((j : Int) + (s : Int)).toNat = j + s := by omega
      refine ⟨⟨by omega, by omega⟩, _, hl2, exW ⟨by omega, by omega⟩ ⟨⟨by omega, by omega⟩, _, blk_get hblk2 (by omega) (by omega), ?_⟩⟩
      rw [es]
      simp only [Int.toNat_natCast]
      refine exW ⟨by omega, by omega⟩ (exW ⟨by omega, by omega⟩ (exW ⟨by omega, by omega⟩ (exW ⟨by omega, by omega⟩ ⟨by decide, _, rfl, ⟨by omega, by omega⟩, ?_⟩)))
      rw [tmod_limb (by omega)]
      obtain ⟨w3, hst, hb3, hch, hsz⟩ := blk_set hblk2 (i := (j : Int) + (s : Int)) (by omega) (by omega) ((o2.getD (j + s) 0 + a.getD j 0 * b.getD s 0 + carry) % 1000000000)
      rw [es] at hb3
      refine ⟨w3, hst, by decide, ?_⟩
      rw [tdiv_limb (by omega)]
      refine exW ⟨by omega, by omega⟩ (exW ⟨by omega, by omega⟩ ⟨⟨s + 1, _, by omega, by omega, by simpa using hol2, hb3, hx2.chg hch (by simp; omega), hlo2.set (limb_mod _), fun z hz => ?_, by omega, by omega, mul_step (by omega) hv2 (by omega)⟩, ?_⟩)
      · rw [List.getD_eq_getElem?_getD, List.getElem?_set_ne (by omega), ← List.getD_eq_getElem?_getD]
        exact hzt2 z hz
      · show m - ((s : Int) + 1).toNat < m - (s : Int).toNat
        omega
    · have hsm' : s = m := by omega
      subst hsm'
      rw [List.take_of_length_le (show b.length ≤ s by omega), mul_row] at hv2
      have es : ((j : Int) + (s : Int)).toNat = j + s := by omega
      refine exW ⟨by omega, by omega⟩ ⟨⟨by omega, by omega⟩, ?_⟩
      obtain ⟨w3, hst, hb3, hch, hsz⟩ := blk_set hblk2 (i := (j : Int) + (s : Int)) (by omega) (by omega) carry
      rw [es] at hb3
      refine ⟨w3, hst, exW ⟨by omega, by omega⟩ ⟨⟨j + 1, _, by omega, by omega, by simpa using hol2, hb3, hx2.chg hch (by simp; omega), hlo2.set ⟨hc0, hc1⟩, fun z hz => ?_, ?_⟩, ?_⟩⟩
      · rw [List.getD_eq_getElem?_getD, List.getElem?_set_ne (by omega), ← List.getD_eq_getElem?_getD]
        exact hzt2 z (by omega)
      · rw [val_set _ _ (by omega), hzt2 (j + s) (Nat.le_refl _), Int.sub_zero]
        exact hv2
      · show n - ((j : Int) + 1).toNat < n - (j : Int).toNat
        omega
  · have hjn' : j = n := by omega
    subst hjn'
    rw [List.take_of_length_le (by omega)] at hv
    have hown : Own wr w.heap.size T_int 1 (some ⟨r, 0, none⟩) (j + m) (j + m) (o.map (Value.int .i64)) := Own.of_blk hblk (by omega) (by simp [hol]) (by simp only [maxLen]; omega)
    refine Ret.at (spec_l02Trim_c hown.ints) ?_
    rintro v w4 ⟨hv4, hw4, hr4⟩
    subst hv4; subst hw4
    refine ⟨_, _, _, rfl, _, _, _, rfl, ?_, hx⟩
    have e := trimL_eq hlo
    rw [hv] at e
    rw [← e]
    have hle := trimL_len o
    have := hown.sub (m := (trimL o).length) (by omega)
    rwa [← trimL_prefix] at this

end Go.Proofs.Ytfbmjimhjlmhkaa
