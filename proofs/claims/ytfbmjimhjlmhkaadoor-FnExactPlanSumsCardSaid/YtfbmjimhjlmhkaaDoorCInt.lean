/-
  Contracts: integers with a sign: valid, compared.
-/
import Derived.Test.YtfbmjimhjlmhkaaDoorCBase
namespace Go.Proofs.YtfbmjimhjlmhkaaDoor
open Go Go.Proofs.YtfbmjimhjlmhkaaDoor.Sx
set_option linter.unusedVariables false
set_option linter.unusedSimpArgs false

/-- an integer: its sign, its limbs -/
def intOk : List D0 → Bool
  | [.bool b, .ints z] => natOk z && (!b || !z.isEmpty)
  | _ => false
theorem intOk_len {b : Bool} {z : List Int} {n : Nat} (h : z.length = n) : (decide ((0 : Int) < (n : Nat))) = !z.isEmpty := by
  cases z with
  | nil => simp at h; simp [← h]
  | cons a r => simp at h; simp [← h]

theorem spec_IntOk_c {w : World} {xs : List Value} {dx : List D0} (h : Reps w xs dx) (hc : dx.map D0.code = [.bool, .ints]) :
    Ret P n_spec_IntOk [.agg ⟨xs⟩] w fun v w' => v = .bool (intOk dx) ∧ Ext w w' := by
  obtain ⟨a0, a1p, a1n, a1c, a1z, rfl, rfl, ha⟩ := open_Signed h hc
  refine spec_IntOk_ret ?_
  unfold spec_IntOk
  intro r w1 hn
  have x := hn.ext
  refine ⟨_, _, _, hn.blk.load (by kernel_rfl) rfl, ?_⟩
  refine Ret.at (spec_NatOk_c (ha.ext x)) ?_
  rintro v w2 ⟨hv, y⟩
  subst hv
  have b := hn.blk.ext y; have x := x.trans y
  refine ⟨_, rfl, fun e => ⟨_, b.load (by kernel_rfl) rfl, ifN (fun hb => ⟨?_, x⟩) (fun hb => ?_)⟩, fun e => ⟨by simp [intOk, e], x⟩⟩
  · simp [intOk, e, hb]
  · exact ⟨_, _, _, b.load (by kernel_rfl) rfl, by rw [intOk_len (b := a0) ha.1]; simp [intOk, e, hb], x⟩

theorem impl_IntOk_c {w : World} {xs : List Value} {dx : List D0} (h : Reps w xs dx) (hc : dx.map D0.code = [.bool, .ints]) :
    Ret P n_impl_IntOk [.agg ⟨xs⟩] w fun v w' => v = .bool (intOk dx) ∧ Ext w w' := by
  obtain ⟨a0, a1p, a1n, a1c, a1z, rfl, rfl, ha⟩ := open_Signed h hc
  refine impl_IntOk_ret ?_
  unfold impl_IntOk
  intro r w1 hn
  have x := hn.ext
  refine ⟨_, _, _, hn.blk.load (by kernel_rfl) rfl, ?_⟩
  refine Ret.at (impl_NatOk_c (ha.ext x)) ?_
  rintro v w2 ⟨hv, y⟩
  subst hv
  have b := hn.blk.ext y; have x := x.trans y
  refine ⟨_, rfl, fun e => ⟨_, b.load (by kernel_rfl) rfl, ifN (fun hb => ⟨?_, x⟩) (fun hb => ?_)⟩, fun e => ⟨by simp [intOk, e], x⟩⟩
  · simp [intOk, e, hb]
  · exact ⟨_, _, _, b.load (by kernel_rfl) rfl, by rw [intOk_len (b := a0) ha.1]; simp [intOk, e, hb], x⟩

/-- how two integers compare -/
def icmp : List D0 → List D0 → Int
  | [.bool a, .ints x], [.bool b, .ints y] => if !(intOk [.bool a, .ints x]) || !(intOk [.bool b, .ints y]) then 0 else if a && !b then -1 else if !a && b then 1 else if a then cmpL y x else cmpL x y
  | _, _ => 0
def isign : List D0 → Int
  | [.bool a, .ints x] => if !(intOk [.bool a, .ints x]) then 0 else if x.isEmpty then 0 else if a then -1 else 1
  | _ => 0
theorem cmpL_nil {x : List Int} : cmpL x [] = if x.isEmpty then 0 else 1 := by
  cases x <;> simp [cmpL, lexR]
theorem cmpL_nil' {x : List Int} : cmpL [] x = if x.isEmpty then 0 else -1 := by
  cases x <;> simp [cmpL, lexR]
theorem icmp_zero {a : Bool} {x : List Int} : icmp [.bool a, .ints x] [.bool false, .ints []] = isign [.bool a, .ints x] := by
  have : intOk [.bool false, .ints []] = true := rfl
  simp only [icmp, isign, this]
  cases h : intOk [.bool a, .ints x] <;> cases a <;> simp [cmpL_nil, cmpL_nil']
  · simp [intOk] at h
    have := h.2
    cases x <;> simp at this ⊢

theorem spec_IntCmp_c {w : World} {xs ys : List Value} {dx dy : List D0} (h : Reps w xs dx) (k : Reps w ys dy) (hc : dx.map D0.code = [.bool, .ints]) (kc : dy.map D0.code = [.bool, .ints]) :
    Ret P n_spec_IntCmp [.agg ⟨xs⟩, .agg ⟨ys⟩] w fun v w' => v = .int .i64 (icmp dx dy) ∧ Ext w w' := by
  have hr := h; have kr := k
  obtain ⟨a0, a1p, a1n, a1c, a1z, rfl, rfl, ha⟩ := open_Signed h hc
  obtain ⟨b0, b1p, b1n, b1c, b1z, rfl, rfl, hb⟩ := open_Signed k kc
  refine spec_IntCmp_ret ?_
  unfold spec_IntCmp
  intro r w1 hn1 r1 w2 hn2
  have x := hn1.ext.trans hn2.ext
  have k0 := hn1.blk.ext hn2.ext; have k1 := hn2.blk
  have L : ∀ W, Ext w2 W → Ext w W := fun W hW => x.trans hW
  -- the tail: both right
  have J1 : ∀ W t, Ext w2 W → intOk [.bool a0, .ints a1z] = true → intOk [.bool b0, .ints b1z] = true → t = (a0 && !b0) → spec_IntCmp_j1 r r1 t W fun v w' => v = .int .i64 (icmp [.bool a0, .ints a1z] [.bool b0, .ints b1z]) ∧ Ext w w' := by
    intro W t hW h1 h2 ht
    have q0 := k0.ext hW; have q1 := k1.ext hW; have x := x.trans hW
    unfold spec_IntCmp_j1
    have fin : ∀ t32, t32 = a0 → (a0 && !b0) = false → (!a0 && b0) = false →
        ((t32 = true → ∃ (t34_p : Option Addr) (t34_n : Nat) (t34_c : Nat), Loads P T_s_int ((⟨r1, 0, none⟩ : Addr).add 1) (.slice t34_p t34_n t34_c) W ∧ ∃ (t36_p : Option Addr) (t36_n : Nat) (t36_c : Nat), Loads P T_s_int ((⟨r, 0, none⟩ : Addr).add 1) (.slice t36_p t36_n t36_c) W ∧ Calls P n_spec_l02Cmp ⟨[(.slice t34_p t34_n t34_c), (.slice t36_p t36_n t36_c)]⟩ W fun e wv_3 =>
          ∃ (t37 : Int), e = .returned (.int .i64 t37) ∧ (Value.int .i64 t37 = .int .i64 (icmp [.bool a0, .ints a1z] [.bool b0, .ints b1z]) ∧ Ext w wv_3)) ∧
        (t32 = false → ∃ (t39_p : Option Addr) (t39_n : Nat) (t39_c : Nat), Loads P T_s_int ((⟨r, 0, none⟩ : Addr).add 1) (.slice t39_p t39_n t39_c) W ∧ ∃ (t41_p : Option Addr) (t41_n : Nat) (t41_c : Nat), Loads P T_s_int ((⟨r1, 0, none⟩ : Addr).add 1) (.slice t41_p t41_n t41_c) W ∧ Calls P n_spec_l02Cmp ⟨[(.slice t39_p t39_n t39_c), (.slice t41_p t41_n t41_c)]⟩ W fun e wv_4 =>
          ∃ (t42 : Int), e = .returned (.int .i64 t42) ∧ (Value.int .i64 t42 = .int .i64 (icmp [.bool a0, .ints a1z] [.bool b0, .ints b1z]) ∧ Ext w wv_4))) := by
      intro t32 ht32 e1 e2
      subst ht32
      refine ⟨fun e => ⟨_, _, _, q1.load (by kernel_rfl) rfl, _, _, _, q0.load (by kernel_rfl) rfl, ?_⟩, fun e => ⟨_, _, _, q0.load (by kernel_rfl) rfl, _, _, _, q1.load (by kernel_rfl) rfl, ?_⟩⟩
      · refine Ret.at (spec_l02Cmp_c (hb.ext x) (ha.ext x)) ?_
        rintro v w3 ⟨hv, y⟩
        subst hv
        exact ⟨_, rfl, by simp only [icmp, h1, h2, e1, e2]; simp [e], x.trans y⟩
      · refine Ret.at (spec_l02Cmp_c (ha.ext x) (hb.ext x)) ?_
        rintro v w3 ⟨hv, y⟩
        subst hv
        exact ⟨_, rfl, by simp only [icmp, h1, h2, e1, e2]; simp [e], x.trans y⟩
    refine ⟨fun e => ⟨?_, x⟩, fun e => ?_⟩
    · rw [ht] at e; simp only [icmp, h1, h2, e]; rfl
    · rw [ht] at e
      refine ⟨_, q0.load (by kernel_rfl) rfl, ifN (fun ha0 => ?_) (fun ha0 => ?_)⟩
      · refine ⟨_, q1.load (by kernel_rfl) rfl, fun hb0 => ⟨?_, x⟩, fun hb0 => ⟨_, q0.load (by kernel_rfl) rfl, fin _ rfl e (by simp [ha0, hb0])⟩⟩
        subst ha0; subst hb0; simp only [icmp, h1, h2]; rfl
      · exact ifF ⟨_, q0.load (by kernel_rfl) rfl, fin _ rfl e (by simp [ha0])⟩
  have J0 : ∀ W t, Ext w2 W → t = (!(intOk [.bool a0, .ints a1z]) || !(intOk [.bool b0, .ints b1z])) → spec_IntCmp_j0 r r1 t W fun v w' => v = .int .i64 (icmp [.bool a0, .ints a1z] [.bool b0, .ints b1z]) ∧ Ext w w' := by
    intro W t hW ht
    have q0 := k0.ext hW; have q1 := k1.ext hW
    unfold spec_IntCmp_j0
    refine ⟨fun e => ⟨?_, L W hW⟩, fun e => ?_⟩
    · rw [ht] at e; simp only [icmp, e]; rfl
    · rw [ht] at e
      simp only [Bool.or_eq_false_iff, Bool.not_eq_false'] at e
      refine ⟨_, q0.load (by kernel_rfl) rfl, fun h0 => ⟨_, q1.load (by kernel_rfl) rfl, J1 W _ hW e.1 e.2 (by simp [h0])⟩, fun h0 => J1 W _ hW e.1 e.2 (by simp [h0])⟩
  refine ⟨_, _, _, _, k0.loadA0 (by kernel_rfl), ?_⟩
  refine Ret.at (spec_IntOk_c (hr.ext x) rfl) ?_
  rintro v w3 ⟨hv, y⟩
  subst hv
  refine ⟨_, rfl, ifN (fun e => J0 w3 _ y (by simp [e])) (fun e => ?_)⟩
  refine ⟨_, _, _, _, (k1.ext y).loadA0 (by kernel_rfl), ?_⟩
  refine Ret.at (spec_IntOk_c (kr.ext (x.trans y)) rfl) ?_
  rintro v w4 ⟨hv, y2⟩
  subst hv
  exact ⟨_, rfl, J0 w4 _ (y.trans y2) (by simp [e])⟩

theorem spec_IntSign_c {w : World} {xs : List Value} {dx : List D0} (h : Reps w xs dx) (hc : dx.map D0.code = [.bool, .ints]) :
    Ret P n_spec_IntSign [.agg ⟨xs⟩] w fun v w' => v = .int .i64 (isign dx) ∧ Ext w w' := by
  have hr := h
  obtain ⟨a0, a1p, a1n, a1c, a1z, rfl, rfl, ha⟩ := open_Signed h hc
  refine spec_IntSign_ret ?_
  unfold spec_IntSign
  intro r w1 hn
  refine ⟨_, _, _, _, hn.blk.loadA0 (by kernel_rfl), ?_⟩
  refine Ret.at (spec_IntCmp_c (dy := [.bool false, .ints []]) (hr.ext hn.ext) ⟨rfl, ⟨none, 0, 0, rfl, ⟨rfl, Nat.le_refl _, by omega, fun h => absurd h (by omega)⟩⟩, trivial⟩ rfl rfl) ?_
  rintro v w2 ⟨hv, y⟩
  subst hv
  exact ⟨_, rfl, by rw [icmp_zero], hn.ext.trans y⟩

end Go.Proofs.YtfbmjimhjlmhkaaDoor
