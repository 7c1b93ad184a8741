/-
  The frame-free form of a Go function: what one operation asks is what its run gives.
-/
import Derived.Test.YtfbmjimhjlmhkaaDoorSxOps2
namespace Go.Proofs.YtfbmjimhjlmhkaaDoor.Sx
open Go Go.RowKit
set_option linter.unusedVariables false
set_option linter.unusedSimpArgs false

section
variable {P : Program} {φ : Fr}

def Yes (P : Program) (φ : Fr) (o : Oper) (v : Value) (w : World) : Prop := (execOp (ev φ) o).run P w = .ok (.value v) w

theorem semPure_sound {o : Oper} {K : Value → Prop} (h : semPure P φ o K) : ∃ v, (∀ w, Yes P φ o v w) ∧ K v := by
  unfold Yes
  obtain ⟨dst, op, ty, pos, after, guard⟩ := o
  unfold semPure at h
  cases op <;> simp only [] at h <;> try (exact h.elim)
  case move x => exact ⟨_, fun w => by simp [execOp], h⟩
  case assign x => exact ⟨_, fun w => by simp [execOp], h⟩
  case pick c a b =>
    unfold pickS at h
    split at h
    · rename_i t ht
      exact ⟨_, fun w => by cases t <;> simp [execOp, ht, asBool], h⟩
    · exact h.elim
  case build t parts =>
    obtain ⟨v, hv, hk⟩ := buildS_sound h
    refine ⟨v, fun w => ?_, hk⟩
    have e : (parts.map fun (x : Nat × Operand) => (x.1, ev φ x.2)) = ⟨parts.toList.map fun (x : Nat × Operand) => (x.1, ev φ x.2)⟩ := by apply Array.ext'; simp
    simp only [execOp]
    exact exec_v (by rw [e]; exact hv w)
  case nilCheck x =>
    unfold nilS at h
    split at h
    · rename_i p hp
      obtain ⟨a, rfl, h⟩ := ptrS_elim h
      exact ⟨_, fun w => by simp [execOp, hp], h⟩
    · rename_i f a c hp
      exact ⟨_, fun w => by simp [execOp, hp], h⟩
    · exact h.elim
  case binOp op t x y yt =>
    obtain ⟨v, hv, hk⟩ := binS_sound (xo := x) (yo := y) h
    exact ⟨v, fun w => by simp only [execOp]; exact exec_v (hv w), hk⟩
  case unOp op t x =>
    unfold unS at h
    split at h
    · rename_i b hb
      exact ⟨_, fun w => by simp [execOp, hb, Op.unary], h⟩
    · rename_i k n hb
      obtain ⟨z, rfl, h⟩ := h
      exact ⟨_, fun w => by simp [execOp, hb, Op.unary, Op.intArith], h⟩
    · exact h.elim
  case convert s d x =>
    split at h
    · rename_i ds hs
      unfold convS at h
      split at h
      · rename_i k k' n hd hx
        obtain ⟨z, rfl, h⟩ := h
        exact ⟨_, fun w => by simp [execOp, hx, convert, underlying_run hs, underlying_run hd, Conv.intToInt], h⟩
      · rename_i sv hd hx
        exact ⟨_, fun w => by simp [execOp, hx, convert, underlying_run hs, underlying_run hd], h⟩
      · exact h.elim
    · exact h.elim
  case makeInterface t x =>
    unfold ifaceS at h
    split at h
    · exact h.elim
    · rename_i d hu hd
      exact ⟨_, fun w => by
        simp only [execOp]
        refine exec_v ?_
        simp only [Instr.makeInterface, Sem.run_bind, underlying_run ‹P.underlying t = some _›, Result.andThen_ok]
        rfl, h⟩
    · exact h.elim
  case makeFunc fn first captured =>
    exact ⟨_, fun w => by simp only [execOp, Instr.makeFunc, mapL]; rfl, h⟩
  case slice t x lo hi mx =>
    obtain ⟨v, hv, hk⟩ := sliceS_sound h
    exact ⟨v, fun w => by simp only [execOp]; exact exec_v (hv w), hk⟩
  case fieldAddr t x i =>
    obtain ⟨v, hv, hk⟩ := fieldAddrS_sound h
    exact ⟨v, fun w => by simp only [execOp]; exact exec_v (hv w), hk⟩
  case field t x i =>
    obtain ⟨v, hv, hk⟩ := fieldS_sound h
    exact ⟨v, fun w => by simp only [execOp]; exact exec_v (hv w), hk⟩
  case indexAddr t x i =>
    obtain ⟨v, hv, hk⟩ := indexAddrS_sound h
    exact ⟨v, fun w => by simp only [execOp]; exact exec_v (hv w), hk⟩
  case index t x i =>
    obtain ⟨v, hv, hk⟩ := indexS_sound h
    exact ⟨v, fun w => by simp only [execOp]; exact exec_v (hv w), hk⟩
  case extract x i =>
    obtain ⟨v, hv, hk⟩ := extractS_sound h
    exact ⟨v, fun w => by simp only [execOp]; exact exec_v (hv w), hk⟩
  case call c =>
    obtain ⟨callee, args, ats⟩ := c
    simp only [] at h
    split at h
    · rename_i x t hargs hts
      obtain ⟨v, hv, hk⟩ := lenS_sound (ty := ty) h
      refine ⟨v, fun w => ?_, hk⟩
      simp only [execOp, resolve, Sem.run_bind, Sem.run_pure, Result.andThen_ok, invoke, builtin, mapL]
      have e1 : ats = #[t] := by apply Array.ext'; simpa using hts
      rw [hargs, e1, hv w]
      rfl
    · rename_i b hnot
      obtain ⟨v, hv, hk⟩ := minMaxS_sound (P := P) (ts := ats) (ty := ty) (cb := args.map fun | .const _ => true | _ => false) (cs := ats) h
      refine ⟨v, fun w => ?_, hk⟩
      simp only [execOp, resolve, Sem.run_bind, Sem.run_pure, Result.andThen_ok, invoke, mapL]
      exact hv w
    · exact h.elim

theorem loads_run {t : TypeId} {a : Addr} {v : Value} {w : World} {x : Operand} {o : Oper} (ho : o.op = .load t x) (hx : ev φ x = .pointer (some a)) (h : Loads P t a v w) : Yes P φ o v w := by
  obtain ⟨dst, op, ty, pos, after, guard⟩ := o
  simp only at ho
  subst ho
  unfold Yes
  simp only [execOp]
  refine exec_v ?_
  rw [hx]
  simp only [Instr.loadAt, Instr.sureAddr, Sem.run_bind, Sem.run_pure, Result.andThen_ok]
  exact h

theorem semRead_sound {C : World → Prop} {rd : (World → Prop) → Prop} (hrd : ∀ p, rd p → ∀ w, C w → p w) {o : Oper} {K : Value → Prop} (h : semRead P rd φ o K) :
    ∃ v, (∀ w, C w → Yes P φ o v w) ∧ K v := by
  unfold semRead at h
  obtain ⟨dst, op, ty, pos, after, guard⟩ := o
  cases op <;> simp only [] at h <;> try (exact h.elim)
  case load t x =>
    split at h
    · rename_i p hp
      obtain ⟨ad, rfl, h⟩ := ptrS_elim h
      obtain ⟨v, h1, h2⟩ := exV_elim h
      exact ⟨v, fun w hw => loads_run rfl hp (hrd _ h1 w hw), h2⟩
    · exact h.elim
  case convert s d x =>
    obtain ⟨v, h1, h2⟩ := exV_elim h
    exact ⟨v, fun w hw => by unfold Yes; simp only [execOp]; exact exec_v (hrd _ h1 w hw), h2⟩
  case lookup t m k ok =>
    obtain ⟨v, h1, h2⟩ := exR_elim h
    exact ⟨v, fun w hw => by unfold Yes; simp only [execOp]; exact exec_v (hrd _ h1 w hw), h2⟩
  case call c =>
    obtain ⟨callee, args, ats⟩ := c
    simp only [] at h
    split at h
    · rename_i x hargs
      obtain ⟨v, h1, h2⟩ := exS_elim h
      refine ⟨v, fun w hw => ?_, h2⟩
      have h3 := hrd _ h1 w hw
      unfold Yes
      simp only [execOp, resolve, Sem.run_bind, Sem.run_pure, Result.andThen_ok, invoke, builtin, mapL]
      rw [hargs]
      have h4 : (Builtin.len_ ats ty ⟨[x]⟩).run P w = .ok v w := h3
      rw [h4]; rfl
    · exact h.elim

/-- how an operation that changes the world goes -/
inductive Goes (P : Program) (φ : Fr) (o : Oper) (w : World) (K : Value → World → Prop) : Prop where
  | value (v : Value) (w' : World) (h : (execOp (ev φ) o).run P w = .ok (.value v) w') (k : K v w')
  | skip (w' : World) (h : (execOp (ev φ) o).run P w = .ok .skip w') (k : K undef w')
  | enter (g : FuncId) (args : Array Value) (h : (execOp (ev φ) o).run P w = .ok (.enter g args) w) (k : Calls P g args w fun e w' => ∃ v, e = .returned v ∧ K v w')

theorem Goes.mono {o : Oper} {w : World} {K K' : Value → World → Prop} (hk : ∀ v w', K v w' → K' v w') (h : Goes P φ o w K) : Goes P φ o w K' := by
  cases h with
  | value v w' h k => exact .value v w' h (hk _ _ k)
  | skip w' h k => exact .skip w' h (hk _ _ k)
  | enter g args h k => exact .enter g args h (k.mono fun e w' ⟨v, he, hv⟩ => ⟨v, he, hk _ _ hv⟩)

theorem Goes.some {o : Oper} {w : World} {K : Value → World → Prop} (h : Goes P φ o w K) : ∃ v w', K v w' := by
  cases h with
  | value v w' h k => exact ⟨v, w', k⟩
  | skip w' h k => exact ⟨_, w', k⟩
  | enter g args h k =>
    obtain ⟨e, w', fr, ⟨v, _, hv⟩, _⟩ := k []
    exact ⟨v, w', hv⟩

theorem goFunc_call {g : FuncId} (h : goFunc P g = true) (args : Array Value) (w : World) : (callFunc g args).run P w = .ok (.enter g args) w := by
  unfold goFunc at h
  split at h
  · rename_i fn hf
    simp only [Bool.and_eq_true, Bool.not_eq_true'] at h
    have h1 : fn.body.isNone = false := by cases hb : fn.body with
      | none => rw [hb] at h; simp at h
      | some _ => rfl
    simp only [callFunc, Sem.run_bind, run_program, Result.andThen_ok, hf, h.2, h1, Bool.false_eq_true, if_false, Sem.run_pure]
  · cases h

theorem callS_goes {g : FuncId} {args : List Value} {rs : List VS} {w : World} {K : Value → World → Prop} {o : Oper}
    (hrun : (execOp (ev φ) o).run P w = .ok (.enter g ⟨args⟩) w) (h : CallS P g args rs w K) : Goes P φ o w K :=
  .enter g _ hrun (h.mono fun e w' he => by
    obtain ⟨v, h1, h2⟩ := exR_elim he
    exact ⟨v, h1, h2⟩)

theorem boxS_goes {t : TypeId} {cs : List Value} {w : World} {K : Value → World → Prop} {o : Oper}
    (hrun : (execOp (ev φ) o).run P w = .ok (.value (.pointer (some ⟨w.heap.size, 0, none⟩))) (w.alloc (.cells ⟨cs⟩ t))) (h : boxS t cs w K) : Goes P φ o w K :=
  .value _ _ hrun (h _ _ ⟨rfl, rfl⟩)

theorem makeS_goes {t : TypeId} {n m : Value} {w : World} {K : Value → World → Prop} (h : makeS P t n m w K) :
    ∃ v w', (Instr.makeSlice t n m).run P w = .ok v w' ∧ K v w' := by
  unfold makeS at h
  split at h
  · rename_i e kn n km m hu
    split at h
    · rename_i inf hi
      split at h
      · rename_i z hz
        cases hb : (Nat.ble 1 inf.bytes && Nat.ble 1 inf.size) with
        | false => rw [hb] at h; exact h.elim
        | true =>
          rw [hb] at h
          simp only [cond_true] at h
          obtain ⟨⟨h0, h1, h2⟩, h⟩ := h
          simp only [Bool.and_eq_true] at hb
          have hby : 1 ≤ inf.bytes := Nat.le_of_ble_eq_true hb.1
          have hsz : 1 ≤ inf.size := Nat.le_of_ble_eq_true hb.2
          have hm : m ≤ 281474976710656 := by
            have : (1 : Int) * m ≤ inf.bytes * m := Int.mul_le_mul_of_nonneg_right (by omega) (by omega)
            omega
          have wrapId : ∀ z : Int, 0 ≤ z → z ≤ 281474976710656 → IntKind.i64.wrap z = z := by
            intro z hz0 hz1
            simp only [IntKind.wrap, IntKind.bits, IntKind.signed]
            have : z % (2 ^ 64 : Int) = z := Int.emod_eq_of_lt hz0 (by omega)
            simp [this]; omega
          have wn := wrapId n h0 (by omega)
          have wm := wrapId m (by omega) hm
          refine ⟨_, _, ?_, h _ _ ⟨rfl, rfl⟩⟩
          have c1 : ¬ (n < 0) := by omega
          have c2 : ¬ (m < 0) := by omega
          have c3 : ¬ (inf.bytes * m > (2 : Int) ^ 48) := by omega
          have c4 : ¬ (n > m) := by omega
          simp only [Instr.makeSlice, Sem.run_bind, underlying_run hu, Result.andThen_ok, asInt, asIntOf, Sem.run_pure, typeInfo_run hi, wn, wm]
          have hcond : (decide (m < 0) || decide (inf.bytes * m > (2 : Int) ^ 48)) = false := by simp [c2]; omega
          rw [if_neg (by simp [c3, c1, c4, c2]; exact h2)]
          simp only [Sem.run_bind, run_askRoom, Result.andThen_ok, sizeOf_run hi]
          by_cases hz0 : m.toNat * inf.size = 0
          · have e3 : zeroRow z (m.toNat * inf.size) = [] := by rw [hz0]; rfl
            rw [if_pos hz0, e3]
            have e4 : ((Array.range 0).map fun x => (#[] : Array Value)[x % (#[] : Array Value).size]!) = #[] := by simp
            simp only [hz0, Sem.run_bind, Sem.run_pure, Result.andThen_ok, e4, newRow, run_newObj, World.alloc_eq]
          · have e3 : ((Array.range (m.toNat * inf.size)).map fun x => z.cells[x % z.cells.size]!) = ⟨zeroRow z (m.toNat * inf.size)⟩ := by
              apply Array.ext'; simp [zeroRow]
            rw [if_neg hz0]
            simp only [Sem.run_bind, zeroValue, typeInfo_run hi, hz, Result.andThen_ok, Sem.run_pure, e3, newRow, run_newObj, World.alloc_eq]
      · exact h.elim
    · exact h.elim
  · exact h.elim

theorem buildSliceS_goes {t : TypeId} {len : Nat} {parts : List (Nat × Value)} {w : World} {K : Value → World → Prop} (h : buildSliceS P t len parts w K) :
    ∃ v w', (Instr.buildSlice t len ⟨parts⟩).run P w = .ok v w' ∧ K v w' := by
  unfold buildSliceS at h
  split at h
  · rename_i e hu
    split at h
    · rename_i inf hi
      split at h
      · rename_i z hz
        cases hb : (Nat.ble (len * inf.size) 16777216 && Nat.ble 1 inf.size) with
        | false => rw [hb] at h; exact h.elim
        | true =>
          rw [hb] at h
          simp only [cond_true] at h
          split at h
          · rename_i cs hf
            simp only [Bool.and_eq_true] at hb
            have h1 : len * inf.size ≤ 16777216 := Nat.le_of_ble_eq_true hb.1
            refine ⟨_, _, ?_, h _ _ ⟨rfl, rfl⟩⟩
            have hfill := fillL_eq _ _ _ _ hf
            simp only [Instr.buildSlice, Sem.run_bind, underlying_run hu, Result.andThen_ok, sizeOf_run hi]
            rw [if_neg (by omega)]
            by_cases hz0 : len * inf.size = 0
            · have e3 : zeroRow z (len * inf.size) = [] := by rw [hz0]; rfl
              rw [e3] at hfill
              have e4 : ((Array.range 0).map fun x => (#[] : Array Value)[x % (#[] : Array Value).size]!) = #[] := by simp
              simp only [hz0, if_true, Sem.run_bind, Sem.run_pure, Result.andThen_ok, e4, hfill, newRow, run_newObj, World.alloc_eq]
            · have e2 : ((Array.range (len * inf.size)).map fun x => z.cells[x % z.cells.size]!) = ⟨zeroRow z (len * inf.size)⟩ := by
                apply Array.ext'; simp [zeroRow]
              simp [hz0, zeroValue, typeInfo_run hi, hz, newRow, e2, hfill]
          · exact h.elim
      · exact h.elim
    · exact h.elim
  · exact h.elim

theorem exec_vv {s : Sem Value} {v : Value} {w w' : World} (h : s.run P w = .ok v w') :
    ((do pure (.value (← s)) : Sem Next).run P w) = .ok (.value v) w' := by
  rw [Sem.run_bind, h]; rfl
theorem exec_u {s : Sem Unit} {w w' : World} (h : s.run P w = .ok () w') :
    ((do s; pure .skip : Sem Next).run P w) = .ok .skip w' := by
  rw [Sem.run_bind, h]; rfl

theorem semEff_sound {o : Oper} {w : World} {K : Value → World → Prop} (h : semEff P φ o w K) : Goes P φ o w K := by
  unfold semEff at h
  obtain ⟨dst, op, ty, pos, after, guard⟩ := o
  cases op <;> simp only [] at h <;> try (exact h.elim)
  case alloc t =>
    unfold allocS at h
    split at h
    · rename_i inf hi
      split at h
      · rename_i z hz
        refine boxS_goes ?_ h
        simp [execOp, Instr.alloc, zeroValue, typeInfo_run hi, hz, newVar, newRow]
      · exact h.elim
    · exact h.elim
  case box t x =>
    refine boxS_goes ?_ h
    simp [execOp, Instr.box, newVar, newRow]
  case buildSlice t len parts =>
    obtain ⟨v, w', hv, hk⟩ := buildSliceS_goes h
    refine .value v w' ?_ hk
    have e : (parts.map fun (x : Nat × Operand) => (x.1, ev φ x.2)) = ⟨parts.toList.map fun (x : Nat × Operand) => (x.1, ev φ x.2)⟩ := by apply Array.ext'; simp
    simp only [execOp]
    exact exec_vv (by rw [e]; exact hv)
  case insert t m k x =>
    obtain ⟨w', h1, h2⟩ := h
    exact .skip w' (by simp only [execOp]; exact exec_u h1) h2
  case store t a x =>
    split at h
    · rename_i p hp
      obtain ⟨ad, rfl, w', h1, h2⟩ := ptrS_elim h
      refine .skip w' ?_ h2
      simp only [execOp]
      refine exec_u ?_
      rw [hp]
      simp only [Instr.storeAt, Instr.sureAddr, Sem.run_bind, Sem.run_pure, Result.andThen_ok]
      exact h1
    · exact h.elim
  case convert s d x =>
    obtain ⟨v, w', h1, h2⟩ := exV_elim h
    exact .value v w' (by simp only [execOp]; exact exec_vv h1) h2
  case makeMap t r =>
    cases r with
    | some _ => exact h.elim
    | none => exact .value _ _ (by simp [execOp, Instr.makeMap]) (h _ _ ⟨rfl, rfl⟩)
  case makeSlice t n m =>
    obtain ⟨v, w', hv, hk⟩ := makeS_goes h
    exact .value v w' (by simp only [execOp]; exact exec_vv hv) hk
  case mapUpdate t m k x =>
    obtain ⟨w', h1, h2⟩ := h
    exact .skip w' (by simp only [execOp]; exact exec_u h1) h2
  case call c =>
    obtain ⟨callee, args, ats⟩ := c
    simp only [] at h
    split at h
    · rename_i g
      cases hg : goFunc P g with
      | false => rw [hg] at h; exact h.elim
      | true =>
        rw [hg] at h
        refine callS_goes ?_ h
        simp [execOp, resolve, Deferred.ofValue, ev, invoke, goFunc_call hg, mapL]
    · rename_i f hnf
      obtain ⟨g, first, captured, hf, hg, h⟩ := h
      refine callS_goes ?_ h
      simp [execOp, resolve, Deferred.ofValue, hf, invoke, goFunc_call hg, mapL]
    · obtain ⟨v, w', h1, h2⟩ := exS_elim h
      refine .value v w' ?_ h2
      have h3 : (Builtin.append_ ats ty ⟨args.toList.map (ev φ)⟩).run P w = .ok v w' := h1
      simp only [execOp, resolve, Sem.run_bind, Sem.run_pure, Result.andThen_ok, invoke, builtin, mapL, h3]
    · obtain ⟨v, w', h1, h2⟩ := exS_elim h
      refine .value v w' ?_ h2
      have h3 : (Builtin.copy_ ats ty ⟨args.toList.map (ev φ)⟩).run P w = .ok v w' := h1
      simp only [execOp, resolve, Sem.run_bind, Sem.run_pure, Result.andThen_ok, invoke, builtin, mapL, h3]
    · obtain ⟨v, w', h1, h2⟩ := h
      refine .value v w' ?_ h2
      have h3 : (Builtin.delete_ ats ty ⟨args.toList.map (ev φ)⟩).run P w = .ok v w' := h1
      simp only [execOp, resolve, Sem.run_bind, Sem.run_pure, Result.andThen_ok, invoke, builtin, mapL, h3]
    · exact h.elim

end
end Go.Proofs.YtfbmjimhjlmhkaaDoor.Sx
