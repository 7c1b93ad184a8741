/-
  Contracts: natural numbers: trimmed, copied, added, subtracted.
-/
import Derived.Test.YtfbmjimhjlmhkaaDoorCNum
import Derived.Laws.OwnMore
namespace Go.Proofs.YtfbmjimhjlmhkaaDoor
open Go Go.Proofs.YtfbmjimhjlmhkaaDoor.Sx
set_option linter.unusedVariables false
set_option linter.unusedSimpArgs false

theorem sliceT_int : sliceT P T_s_int T_int (.int .i64 0) 1 8 := ⟨by kernel_rfl, by kernel_rfl, rfl, by decide⟩

theorem run_append_none {P : Program} (w : World) (base : Nat) (t ty e : TypeId) (i : TypeInfo) (size : Nat) (ht : P.underlying t = some (.slice e)) (hi : P.info? e = some i)
    (v : Value) (n c : Nat) (xs : List Value) (hown : w.ownsRow base e size v n xs) :
    (Builtin.append_ #[t, t] ty #[v, .slice none 0 c]).run P w = .ok v w := by
  rcases hown.2 with ⟨rfl, rfl⟩ | ⟨g, cap, cur, rfl, _, _, hnc, _⟩
  · simp [Builtin.append_, run_underlying ht, sizeOf, typeInfo, hi, Builtin.lenOf, Builtin.firstCells]
  · simp [Builtin.append_, run_underlying ht, sizeOf, typeInfo, hi, Builtin.lenOf, Builtin.firstCells, hnc, storeCells]

/-- append a list of numbers onto numbers of one's own -/
theorem Sx.Own.appendI {w : World} {base : Nat} {p q : Option Addr} {n c m d : Nat} {zs ys : List Int} (h : Own w base T_int 1 p n c (zs.map (Value.int .i64))) (hb : base ≤ w.heap.size) (k : IntsR w q m d ys) (hn : n + m ≤ 100000000) :
    ∃ p' c' w', Appends P [T_s_int, T_s_int] [.slice p n c, .slice q m d] (.slice p' (n + m) c') w w' ∧ Own w' base T_int 1 p' (n + m) c' ((zs ++ ys).map (Value.int .i64)) ∧
      (∀ w0, Ext w0 w → w0.heap.size ≤ base → Ext w0 w') := by
  obtain ⟨hu, hi, hz, hs⟩ := sliceT_int
  cases hinf : P.info? T_int with
  | none => rw [hinf] at hi; cases hi
  | some i =>
    rw [hinf] at hi
    simp only [Option.map_some, Option.some.injEq, Prod.mk.injEq] at hi
    cases q with
    | none =>
      have hm : m = 0 := by
        rcases Nat.eq_zero_or_pos m with h0 | h0
        · exact h0
        · obtain ⟨b, off, hp, _⟩ := k.2.2.2 h0; cases hp
      subst hm
      have : ys = [] := List.eq_nil_of_length_eq_zero k.1
      subst this
      exact ⟨p, c, w, run_append_none w base T_s_int 0 T_int i 1 hu hinf _ n d _ h, by simpa using h, fun w0 h _ => h⟩
    | some a =>
      have hcells : ∀ j u, (ys.map (Value.int .i64))[j]? = some u → w.cell? (a.add j) = some u := by
        intro j u hj
        have hl : j < m := by
          have := (List.getElem?_eq_some_iff.1 hj).1
          rw [List.length_map, k.1] at this; exact this
        obtain ⟨b, off, hp, hseg⟩ := k.2.2.2 (by omega)
        cases hp
        rw [addr_add]
        exact hseg j u hj
      have hmax : n + m ≤ maxLen := by simp only [maxLen]; omega
      obtain ⟨v', w', hrun, hown, hgr, _⟩ := run_append_own (P := P) w base T_s_int 0 T_int i (.int .i64 0) 1 8 hu hinf hi.1 hi.2.1 hi.2.2 hz hs (.slice p n c) n (zs.map (Value.int .i64)) h a m d (ys.map (Value.int .i64)) (by simp [k.1])
        hcells (by simp [Value.oneCell']) hmax (by omega) hb
      have hlt := World.ownsRow.lt h
      have hv : ∃ p' c', v' = .slice p' (n + m) c' := by
        rcases hown.2 with ⟨e1, e2⟩ | ⟨g, cap, cur, e1, _⟩
        · exact ⟨none, 0, by rw [e1, e2]⟩
        · exact ⟨_, _, e1⟩
      obtain ⟨p', c', rfl⟩ := hv
      have hob : (Value.slice p n c).ownBlock = p.map (·.block) := by cases p <;> rfl
      refine ⟨p', c', w', hrun, by rw [List.map_append]; exact hown, fun w0 hx hb0 => ?_⟩
      refine hx.chg (S := (p.map (·.block)).toList) ⟨hgr.os, hgr.tape, hgr.output, hgr.size, fun k hk hn => hgr.block k hk ?_⟩ ?_
      · rw [hob]; intro e; rw [← e] at hn; simp at hn
      · intro x hx'
        have := (hlt x (by rw [hob]; cases p <;> simp_all)).1
        omega

/-- a number behind numbers of one's own -/
theorem Sx.Own.push {w w1 : World} {base : Nat} {p : Option Addr} {n c r : Nat} {zs : List Int} {x : Int} (h : Own w base T_int 1 p n c (zs.map (Value.int .i64))) (hb : base ≤ w.heap.size) (hn : New w (.cells ⟨[.int .i64 x]⟩ T_int (0, 0)) r w1) (hlen : n ≤ 99999999) :
    ∃ p' c' w', Appends P [T_s_int, T_s_int] [.slice p n c, .slice (some ⟨r, 0, none⟩) 1 1] (.slice p' (n + 1) c') w1 w' ∧ Own w' base T_int 1 p' (n + 1) c' ((zs ++ [x]).map (Value.int .i64)) ∧
      (∀ w0, Ext w0 w → w0.heap.size ≤ base → Ext w0 w') := by
  obtain ⟨p', c', w', h1, h2, h3⟩ := Own.appendI (h.ext hn.ext) (by have := hn.ext.le; omega) (q := some ⟨r, 0, none⟩) (m := 1) (d := 1) (ys := [x]) ⟨rfl, Nat.le_refl _, by omega, fun _ => ⟨r, 0, rfl, hn.blk.seg⟩⟩ (by omega)
  exact ⟨p', c', w', h1, h2, fun w0 hx hb0 => h3 w0 (hx.trans hn.ext) hb0⟩

/-- an empty slice that is new -/
theorem Sx.Own.fresh {w w1 : World} {r : Nat} (hn : New w (.cells ⟨[]⟩ T_int (0, 0)) r w1) : Own w1 w.heap.size T_int 1 (some ⟨r, 0, none⟩) 0 0 (([] : List Int).map (Value.int .i64)) :=
  Own.of_blk (n := 0) hn.blk (by rw [hn.r_eq]; exact Nat.le_refl _) rfl (by simp [maxLen])

/-- the first elements -/
theorem Sx.Own.sub {w : World} {base : Nat} {p : Option Addr} {n c m : Nat} {zs : List Int} (h : Own w base T_int 1 p n c (zs.map (Value.int .i64))) (hm : m ≤ n) : Own w base T_int 1 p m c ((zs.take m).map (Value.int .i64)) := by
  have hl := h.1
  simp only [List.length_map, Nat.mul_one] at hl
  refine ⟨by simp; omega, ?_⟩
  rcases h.2 with ⟨h1, h2⟩ | ⟨g, cap, cur, h1, h2, h3, h4, h5, h6, h7⟩
  · simp only [Value.slice.injEq] at h1
    left
    exact ⟨by rw [h1.1, h1.2.2, show m = 0 by omega], by omega⟩
  · simp only [Value.slice.injEq] at h1
    right
    refine ⟨g, cap, cur, by rw [h1.1, h1.2.2], h2, h3, by omega, h5, h6, ?_⟩
    rw [List.map_take, ← h7, List.take_take]
    congr 1
    omega
theorem Sx.IntsR.sub {w : World} {p : Option Addr} {n c m : Nat} {zs : List Int} (h : IntsR w p n c zs) (hm : m ≤ n) : IntsR w p m c (zs.take m) :=
  ⟨by simp [h.1]; omega, by have := h.2.1; omega, h.2.2.1, fun h0 => let ⟨b, off, hp, hs⟩ := h.2.2.2 (by omega); ⟨b, off, hp, by rw [List.map_take]; exact hs.take m⟩⟩

theorem sub0 (p : Option Addr) (c : Nat) : Sx.sub p 0 c 1 = p := by
  unfold Sx.sub
  split
  · rfl
  · cases p <;> simp [Addr.add]

theorem spec_l02Trim_c {w : World} {p : Option Addr} {n c : Nat} {zs : List Int} (h : IntsR w p n c zs) : Ret P n_spec_l02Trim [.slice p n c] w fun v w' => v = .slice p (trimL zs).length c ∧ w' = w ∧ IntsR w p (trimL zs).length c (trimL zs) := by
  refine spec_l02Trim_ret ?_
  unfold spec_l02Trim
  have hlen := h.1; have hcap := h.2.1; have hcm := h.2.2.1
  have fin : ∀ k : Nat, k ≤ n → trimL zs = zs.take k → (trimL zs).length = k ∧ IntsR w p (trimL zs).length c (trimL zs) := fun k hk e => by
    have : (trimL zs).length = k := by rw [e]; simp; omega
    exact ⟨this, by rw [this, e]; exact h.sub hk⟩
  refine ⟨fun i wr => ∃ k : Nat, i = k ∧ k ≤ n ∧ wr = w ∧ trimL zs = trimL (zs.take k), fun i _ => i.toNat, ⟨n, rfl, Nat.le_refl _, rfl, by rw [List.take_of_length_le (by omega)]⟩, ?_⟩
  intro junk wr i ⟨k, hik, hk, hw, ht⟩
  subst hik; subst hw
  refine ifD (fun hpos => ?_) (fun h0 => ifF ?_)
  · obtain ⟨a, rfl, hl⟩ := ints_at h (i := (k : Int) - 1) (by omega) (by omega)
    have e : ((k : Int) - 1).toNat = k - 1 := by omega
    have ek : k = (k - 1) + 1 := by omega
    have htk := trimL_take (l := zs) (k := k - 1) (by omega)
    rw [← ek] at htk
    refine exW ⟨by omega, by omega⟩ ⟨⟨by omega, by omega⟩, _, hl, ifD (fun hz => ?_) (fun hz => ?_)⟩
    · rw [e] at hz
      rw [if_pos hz] at htk
      exact exW ⟨by omega, by omega⟩ ⟨⟨k - 1, by omega, by omega, rfl, ht.trans htk⟩, by show ((k : Int) - 1).toNat < (k : Int).toNat; omega⟩
    · rw [e] at hz
      rw [if_neg hz] at htk
      obtain ⟨f1, f2⟩ := fin k hk (ht.trans htk)
      refine ⟨⟨by omega, by omega⟩, ?_, rfl, f2⟩
      rw [sub0, f1]; rfl
  · obtain ⟨f1, f2⟩ := fin 0 (by omega) (by rw [ht, show k = 0 by omega]; rfl)
    refine ⟨⟨by omega, by omega⟩, ?_, rfl, f2⟩
    rw [sub0, f1, show k = 0 by omega]; rfl

theorem impl_trim_c {w : World} {p : Option Addr} {n c : Nat} {zs : List Int} (h : IntsR w p n c zs) : Ret P n_impl_trim [.slice p n c] w fun v w' => v = .slice p (trimL zs).length c ∧ w' = w ∧ IntsR w p (trimL zs).length c (trimL zs) := by
  refine impl_trim_ret ?_
  unfold impl_trim
  have hlen := h.1; have hcap := h.2.1; have hcm := h.2.2.1
  have fin : ∀ k : Nat, k ≤ n → trimL zs = zs.take k → (trimL zs).length = k ∧ IntsR w p (trimL zs).length c (trimL zs) := fun k hk e => by
    have : (trimL zs).length = k := by rw [e]; simp; omega
    exact ⟨this, by rw [this, e]; exact h.sub hk⟩
  refine ⟨fun q k d wr => q = p ∧ d = c ∧ k ≤ n ∧ wr = w ∧ trimL zs = trimL (zs.take k), fun _ k _ _ => k, ⟨rfl, rfl, Nat.le_refl _, rfl, by rw [List.take_of_length_le (by omega)]⟩, ?_⟩
  intro junk wr q k d ⟨hq, hd, hk, hw, ht⟩
  subst hq; subst hd; subst hw
  refine ifD (fun hpos => ?_) (fun h0 => ifF ?_)
  · obtain ⟨a, rfl, hl⟩ := ints_at h (i := (k : Int) - 1) (by omega) (by omega)
    have e : ((k : Int) - 1).toNat = k - 1 := by omega
    have ek : k = (k - 1) + 1 := by omega
    have htk := trimL_take (l := zs) (k := k - 1) (by omega)
    rw [← ek] at htk
    refine exW ⟨by omega, by omega⟩ ⟨⟨by omega, by omega⟩, _, hl, ifD (fun hz => ?_) (fun hz => ?_)⟩
    · rw [e] at hz
      rw [if_pos hz] at htk
      refine exW ⟨by omega, by omega⟩ ⟨⟨by omega, by omega⟩, ⟨sub0 _ _, rfl, by omega, rfl, ?_⟩, by show ((k : Int) - 1).toNat - 0 < k; omega⟩
      rw [e]; exact ht.trans htk
    · rw [e] at hz
      rw [if_neg hz] at htk
      obtain ⟨f1, f2⟩ := fin k hk (ht.trans htk)
      exact ⟨by rw [f1], rfl, f2⟩
  · obtain ⟨f1, f2⟩ := fin 0 (by omega) (by rw [ht, show k = 0 by omega]; rfl)
    exact ⟨by rw [f1, show k = 0 by omega], rfl, f2⟩

/-- at most fifty limbs -/
def capL (l : List Int) : List Int := if l.length ≤ 50 then l else []

theorem spec_l02Cap_c {w : World} {p : Option Addr} {n c : Nat} {zs : List Int} (h : IntsR w p n c zs) : Ret P n_spec_l02Cap [.slice p n c] w fun v w' => ∃ p' n' c', v = .slice p' n' c' ∧ w' = w ∧ IntsR w p' n' c' (capL (trimL zs)) := by
  refine spec_l02Cap_ret ?_
  unfold spec_l02Cap
  refine Ret.at (spec_l02Trim_c h) ?_
  rintro v w1 ⟨hv, hw, hr⟩
  subst hv; subst hw
  refine ⟨_, _, _, rfl, ifD (fun hgt => ?_) (fun hle => ?_)⟩
  · exact ⟨none, 0, 0, rfl, rfl, by rw [capL, if_neg (by omega)]; exact IntsR.nil _ _ (by omega)⟩
  · exact ⟨_, _, _, rfl, rfl, by rw [capL, if_pos (by omega)]; exact hr⟩

theorem impl_natCopy_c {w : World} {p : Option Addr} {n c : Nat} {zs : List Int} (h : IntsR w p n c zs) (hn : n ≤ 100000000) : Ret P n_impl_natCopy [.slice p n c] w fun v w' => ∃ p' c', v = .slice p' n c' ∧ Own w' w.heap.size T_int 1 p' n c' (zs.map (Value.int .i64)) ∧ Ext w w' := by
  refine impl_natCopy_ret ?_
  unfold impl_natCopy
  intro r w1 hn1
  obtain ⟨p', c', w', h1, h2, h3⟩ := Own.appendI (Own.fresh hn1) hn1.ext.le (h.ext hn1.ext) (by omega)
  rw [Nat.zero_add] at h1 h2
  exact ⟨_, _, _, _, h1, _, _, rfl, by simpa using h2, h3 w hn1.ext (Nat.le_refl _)⟩

end Go.Proofs.YtfbmjimhjlmhkaaDoor
