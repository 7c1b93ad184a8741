/-
  The frame-free form of a Go function: pure, reading and writing operations are sound.
-/
import Derived.Test.YtfbmjimhjlmhkaaDoorSxOps
namespace Go.Proofs.YtfbmjimhjlmhkaaDoor.Sx
open Go Go.RowKit
set_option linter.unusedVariables false
set_option linter.unusedSimpArgs false

section
variable {P : Program} {φ : Fr}

theorem exec_v {s : Sem Value} {v : Value} {w w' : World} (h : s.run P w = .ok v w') :
    ((do pure (.value (← s)) : Sem Next).run P w) = .ok (.value v) w' := by
  rw [Sem.run_bind, h]; rfl

theorem lenS_sound {t : TypeId} {x : Value} {K : Value → Prop} {ty : TypeId} (h : cond (lenOk (P.underlying t) x) (lenS x K) False) :
    ∃ v, (∀ w, (Builtin.len_ #[t] ty #[x]).run P w = .ok v w) ∧ K v := by
  cases hl : lenOk (P.underlying t) x with
  | false => rw [hl] at h; exact h.elim
  | true =>
    rw [hl] at h
    simp only [cond_true] at h
    unfold lenOk at hl
    split at hl
    · rename_i s hu
      exact ⟨_, fun w => by simp [Builtin.len_, underlying_run hu, goInt], h⟩
    · rename_i e p n c hu
      exact ⟨_, fun w => by simp [Builtin.len_, underlying_run hu, goInt], h⟩
    · cases hl

theorem minMaxS_sound {b : Builtin} {xs : List Value} {K : Value → Prop} {ts cs : Array TypeId} {ty : TypeId} {cb : Array Bool} (h : minMaxS b xs K) :
    ∃ v, (∀ w, (builtin b ts ty cb ⟨xs⟩).run P w = .ok (.value v) w) ∧ K v := by
  unfold minMaxS at h
  split at h
  · rename_i k x k' y
    obtain ⟨z, rfl, h⟩ := h
    exact ⟨_, fun w => by simp [builtin, Builtin.min_, Builtin.min2], h⟩
  · rename_i k x k' y
    obtain ⟨z, rfl, h⟩ := h
    exact ⟨_, fun w => by simp [builtin, Builtin.max_, Builtin.max2], h⟩
  · exact h.elim

theorem indexAddrS_sound {t : TypeId} {x i : Value} {K : Value → Prop} (h : indexAddrS P t x i K) :
    ∃ v, (∀ w, (Instr.indexAt t x i).run P w = .ok v w) ∧ K v := by
  unfold indexAddrS at h
  split at h
  · rename_i e p n c k i hu
    split at h
    · rename_i inf hi
      obtain ⟨⟨h1, h2⟩, h⟩ := h
      obtain ⟨a, rfl, h⟩ := ptrS_elim h
      exact ⟨_, fun w => by simp [Instr.indexAt, asIntOf, underlying_run hu, h1, h2, sizeOf_run hi], h⟩
    · exact h.elim
  · rename_i n e p k i hu
    split at h
    · rename_i inf hi
      obtain ⟨⟨h1, h2⟩, h⟩ := h
      obtain ⟨a, rfl, h⟩ := ptrS_elim h
      exact ⟨_, fun w => by simp [Instr.indexAt, asIntOf, underlying_run hu, h1, h2, sizeOf_run hi, Instr.sureAddr], h⟩
    · exact h.elim
  · exact h.elim

theorem fieldAddrS_sound {t : TypeId} {x : Value} {i : Nat} {K : Value → Prop} (h : fieldAddrS P t x i K) :
    ∃ v, (∀ w, (Instr.fieldAt t x i).run P w = .ok v w) ∧ K v := by
  unfold fieldAddrS at h
  split at h
  · rename_i fs p hu
    split at h
    · rename_i f hf
      split at h
      · rename_i inf hi
        cases hb : Nat.beq inf.size 0 with
        | true => rw [hb] at h; exact h.elim
        | false =>
          rw [hb] at h
          simp only [cond_false] at h
          obtain ⟨a, rfl, h⟩ := ptrS_elim h
          have hf' : fs[i]? = some f := by simpa using hf
          have hne : inf.size ≠ 0 := fun e => by rw [e] at hb; cases hb
          exact ⟨_, fun w => by simp [Instr.fieldAt, underlying_run hu, hf', Instr.sureAddr, fieldPlace, sizeOf_run hi, hne], h⟩
      · exact h.elim
    · exact h.elim
  · exact h.elim

theorem fieldS_sound {t : TypeId} {x : Value} {i : Nat} {K : Value → Prop} (h : fieldS P t x i K) :
    ∃ v, (∀ w, (Instr.field t x i).run P w = .ok v w) ∧ K v := by
  unfold fieldS at h
  split at h
  · rename_i fs cs hu
    split at h
    · rename_i f hf
      have hf' : fs[i]? = some f := by simpa using hf
      split at h
      · rename_i inf hi
        obtain ⟨v, hv, hk⟩ := partS_sound hi h
        exact ⟨v, fun w => by simp [Instr.field, underlying_run hu, hf', asAgg, hv], hk⟩
      · exact h.elim
    · exact h.elim
  · exact h.elim

theorem indexS_sound {t : TypeId} {x i : Value} {K : Value → Prop} (h : indexS P t x i K) :
    ∃ v, (∀ w, (Instr.index t x i).run P w = .ok v w) ∧ K v := by
  unfold indexS at h
  split at h
  · rename_i s k i hu
    obtain ⟨h1, b, hb, h⟩ := h
    exact ⟨_, fun w => by simp [Instr.index, asIntOf, underlying_run hu, h1, hb], h⟩
  · rename_i n e cs k i hu
    obtain ⟨⟨h1, h2⟩, v, hp, h⟩ := h
    cases hi : P.info? e with
    | none => simp [partS, Program.underlying, hi] at hp
    | some inf =>
      obtain ⟨u, hu', he⟩ := partS_sound hi hp
      subst he
      have hc : P.cellsOf e = inf.size := by simp [Program.cellsOf, hi]
      exact ⟨_, fun w => by simp only [Instr.index, asIntOf, Sem.run_bind, Sem.run_pure, Result.andThen_ok, underlying_run hu, h1, h2, and_self, if_true, sizeOf_run hi, ← hc, hu'], h⟩
  · exact h.elim

theorem sliceBounds_run {isS : Bool} {n c : Nat} {lo hi : Option Value} {w : World} {K : Nat → Nat → Prop}
    (h : boundS hi n c fun h => boundS lo 0 h fun l => K l h) :
    ∃ l h, K l h ∧ ∀ w, (Instr.sliceBounds isS n c lo hi none).run P w = .ok (l, h, c) w := by
  obtain ⟨hh, hk, hrun⟩ := boundS_sound (P := P) (code := if isS then .sliceAcap else .sliceAlen) h
  obtain ⟨ll, hk2, hrun2⟩ := boundS_sound (P := P) (code := .sliceB) hk
  refine ⟨ll, hh, hk2, fun w => ?_⟩
  have e1 := hrun w
  have e2 := hrun2 w
  cases hi <;> cases lo <;> simp [Instr.sliceBounds] at e1 e2 ⊢ <;> simp [e1, e2, Instr.sliceBounds]

theorem sliceS_sound {t : TypeId} {x : Value} {lo hi mx : Option Value} {K : Value → Prop} (h : sliceS P t x lo hi mx K) :
    ∃ v, (∀ w, (Instr.sliceAt t x lo hi mx).run P w = .ok v w) ∧ K v := by
  unfold sliceS at h
  split at h
  · rename_i s hu
    cases mx with
    | some _ => exact h.elim
    | none =>
      obtain ⟨l, hh, hk, hrun⟩ := sliceBounds_run (P := P) (isS := false) (w := default) (K := fun l h => K (.string (s.extract l h))) h
      exact ⟨_, fun w => by simp [Instr.sliceAt, underlying_run hu, Instr.slice, hrun], hk⟩
  · rename_i e p n c hu
    split at h
    · rename_i inf hi'
      cases mx with
      | none =>
        obtain ⟨l, hh, hk, hrun⟩ := sliceBounds_run (P := P) (isS := true) (w := default) (K := fun l h => K (.slice (sub p l c inf.size) (h - l) (c - l))) h
        exact ⟨_, fun w => by simp [Instr.sliceAt, underlying_run hu, Instr.slice, hrun, sizeOf_run hi', sub], hk⟩
      | some m =>
        cases hi with
        | none => exact h.elim
        | some hv =>
          obtain ⟨mm, hk0, hrun0⟩ := boundS_sound (P := P) (code := .slice3Acap) h
          obtain ⟨hh, hk1, hrun1⟩ := boundS_sound (P := P) (code := .slice3B) hk0
          obtain ⟨ll, hk2, hrun2⟩ := boundS_sound (P := P) (code := .slice3C) hk1
          refine ⟨_, fun w => ?_, hk2⟩
          have e0 := hrun0 w
          have e1 := hrun1 w
          have e2 := hrun2 w
          cases lo <;> simp at e0 e1 e2 <;> simp [Instr.sliceAt, underlying_run hu, Instr.slice, Instr.sliceBounds, e0, e1, e2, sizeOf_run hi', sub]
    · exact h.elim
  · exact h.elim

theorem extractS_sound {x : Value} {i : Nat} {K : Value → Prop} (h : extractS x i K) :
    ∃ v, (∀ w, (Instr.extract x i).run P w = .ok v w) ∧ K v := by
  unfold extractS at h
  split at h
  · rename_i vs
    split at h
    · rename_i v hv
      have hv' : vs[i]? = some v := by simpa using hv
      exact ⟨v, fun w => by simp [Instr.extract, hv'], h⟩
    · exact h.elim
  · exact h.elim

theorem mapM_places {fs : List Field} (h : (fs.all fun f => (P.info? f.type).isSome) = true) (w : World) :
    (fs.mapM (m := Sem) fun f => do pure (f.offset, ← Go.sizeOf f.type)).run P w = .ok (fs.map fun f => (f.offset, P.cellsOf f.type)) w := by
  induction fs with
  | nil => rfl
  | cons f fs ih =>
    simp only [List.all_cons, Bool.and_eq_true] at h
    obtain ⟨inf, hi⟩ := Option.isSome_iff_exists.1 h.1
    have ih2 := ih h.2
    simp only [bind_pure_comp] at ih2
    simp [List.mapM_cons, sizeOf_run hi, ih2, Program.cellsOf, hi]

theorem buildS_sound {t : TypeId} {parts : List (Nat × Value)} {K : Value → Prop} (h : buildS P t parts K) :
    ∃ v, (∀ w, (Instr.build t ⟨parts⟩).run P w = .ok v w) ∧ K v := by
  unfold buildS at h
  split at h
  · rename_i inf fs hi hu
    split at h
    · rename_i z hz
      cases ha : (fs.toList.all fun f => (P.info? f.type).isSome) with
      | false => rw [ha] at h; exact h.elim
      | true =>
        rw [ha] at h
        simp only [cond_true] at h
        split at h
        · rename_i cs hf
          refine ⟨_, fun w => ?_, h⟩
          have hfill := fillL_eq _ _ _ _ hf
          have hpl : (fun x : Nat => ((fs.toList.map fun f => (f.offset, P.cellsOf f.type)).toArray[x]? : Option (Nat × Nat))) = placesOf P fs := by
            funext n
            simp only [placesOf, List.getElem?_toArray, List.getElem?_map]
            cases fs.toList[n]? <;> rfl
          simp only [Instr.build, Sem.run_bind, zeroValue, typeInfo_run hi, hz, Result.andThen_ok, Sem.run_pure, underlying_run hu]
          rw [show (fs.mapM (m := Sem) fun f => do pure (f.offset, ← Go.sizeOf f.type)) = (List.toArray <$> fs.toList.mapM fun f => do pure (f.offset, ← Go.sizeOf f.type)) from by simp [Array.mapM_eq_mapM_toList]]
          simp only [Sem.run_map, mapM_places ha, Result.andThen_ok, hpl]
          have e : (⟨z.cells.toList⟩ : Array Value) = z.cells := by simp
          rw [e] at hfill
          simp only [hfill]
          rfl
        · exact h.elim
    · exact h.elim
  · exact h.elim

end
end Go.Proofs.YtfbmjimhjlmhkaaDoor.Sx
