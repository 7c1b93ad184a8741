/-
  The frame-free form of a Go function: each operation's form is sound.
-/
import Derived.Test.YtfbmjimhjlmhkaaDoorSxSem
namespace Go.Proofs.YtfbmjimhjlmhkaaDoor.Sx
open Go Go.RowKit
set_option linter.unusedVariables false
set_option linter.unusedSimpArgs false

theorem mapL {f : Operand → Value} (a : Array Operand) : a.map f = ⟨a.toList.map f⟩ := by
  apply Array.ext'; simp

theorem bytes_eq (a b : ByteArray) : (a.toList == b.toList) = decide (a = b) := by
  by_cases h : a = b
  · subst h; simp
  · have : a.toList ≠ b.toList := fun e => h (by
      have h1 : a.data.toList = b.data.toList := by rw [← ByteArray.toList_eq, ← ByteArray.toList_eq]; exact e
      cases a; cases b; simp only [ByteArray.mk.injEq]; exact Array.ext' h1)
    simp [h, this]

section
variable {P : Program} {K : Value → Prop}

theorem binInt_sound {op : BinOp} {k : IntKind} {x y : Int} (h : binInt op k x y K) : ∃ v, (∀ w, ((match op with
    | .add | .sub | .mul => Op.intArith op k x y
    | .quo | .rem => Op.intDiv op k x y
    | .and | .or | .xor | .andNot => Op.intBits op k x y
    | _ => Op.intCmp op x y).run P w) = .ok v w) ∧ K v := by
  cases op <;> simp only [binInt] at h
  case add => obtain ⟨z, rfl, h⟩ := h; exact ⟨_, fun w => rfl, h⟩
  case sub => obtain ⟨z, rfl, h⟩ := h; exact ⟨_, fun w => rfl, h⟩
  case mul => obtain ⟨z, rfl, h⟩ := h; exact ⟨_, fun w => rfl, h⟩
  case quo => obtain ⟨hy, z, rfl, h⟩ := h; exact ⟨_, fun w => by simp [Op.intDiv, hy], h⟩
  case rem => obtain ⟨hy, z, rfl, h⟩ := h; exact ⟨_, fun w => by simp [Op.intDiv, hy], h⟩
  case and => obtain ⟨z, rfl, h⟩ := h; exact ⟨_, fun w => rfl, h⟩
  case or => obtain ⟨z, rfl, h⟩ := h; exact ⟨_, fun w => rfl, h⟩
  case xor => obtain ⟨z, rfl, h⟩ := h; exact ⟨_, fun w => rfl, h⟩
  case eql => exact ⟨_, fun w => by simp only [Op.intCmp, Sem.run_pure]; congr 2, h⟩
  case neq => exact ⟨_, fun w => by simp only [Op.intCmp, Sem.run_pure]; congr 2; simp [bne, BEq.beq], h⟩
  case lss => exact ⟨_, fun w => rfl, h⟩
  case leq => exact ⟨_, fun w => rfl, h⟩
  case gtr => exact ⟨_, fun w => rfl, h⟩
  case geq => exact ⟨_, fun w => rfl, h⟩

theorem binShift_sound {op : BinOp} {k yk : IntKind} {x y : Int} (h : binShift op k x y K) : ∃ v, (∀ w, (Op.shift op k x yk y).run P w = .ok v w) ∧ K v := by
  cases op <;> simp only [binShift] at h
  case shl => obtain ⟨hy, z, rfl, h⟩ := h; exact ⟨_, fun w => by simp [Op.shift, Int.not_lt.2 hy], h⟩
  case shr => obtain ⟨hy, z, rfl, h⟩ := h; exact ⟨_, fun w => by simp [Op.shift, Int.not_lt.2 hy], h⟩

theorem binStr_sound {op : BinOp} {x y : ByteArray} (h : binStr op x y K) : ∃ v, (∀ w, (Op.stringOp op x y).run P w = .ok v w) ∧ K v := by
  cases op <;> simp only [binStr] at h
  case add =>
    obtain ⟨hs, z, rfl, h⟩ := h
    refine ⟨_, fun w => ?_, h⟩
    have : ¬ (((x.size + y.size : Nat) : Int) > IntKind.i64.max) := by
      simp only [IntKind.max, IntKind.signed, IntKind.bits]; omega
    simp only [Op.stringOp, this, if_false, Sem.run_pure]
  case eql => exact ⟨_, fun w => by simp only [Op.stringOp, Sem.run_pure, bytes_eq], h⟩
  case neq => exact ⟨_, fun w => by simp only [Op.stringOp, Sem.run_pure, bytes_eq]; simp, h⟩
  case lss => exact ⟨_, fun w => by simp only [Op.stringOp, Sem.run_pure], h⟩
  case leq => exact ⟨_, fun w => by simp only [Op.stringOp, Sem.run_pure, bytes_eq], h⟩
  case gtr => exact ⟨_, fun w => by simp only [Op.stringOp, Sem.run_pure, bytes_eq], h⟩
  case geq => exact ⟨_, fun w => by simp only [Op.stringOp, Sem.run_pure], h⟩

theorem eqGuard_run {op : BinOp} {t : TypeId} {x y : Operand} {a b : Value} (ha : a ≠ .nilIface) (hag : ∀ c, a ≠ .agg c) (w : World) :
    (eqGuard op t x y a b).run P w = .ok () w := by
  unfold eqGuard
  cases op <;> simp <;> (cases a <;> first | (exact absurd rfl ha) | (exact absurd rfl (hag _)) | simp)

theorem underlying_run {t : TypeId} {d : TypeDesc} (h : P.underlying t = some d) (w : World) : (underlying t).run P w = .ok d w := by
  simp [underlying, h]
theorem typeInfo_run {t : TypeId} {i : TypeInfo} (h : P.info? t = some i) (w : World) : (typeInfo t).run P w = .ok i w := by
  simp [typeInfo, h]
theorem sizeOf_run {t : TypeId} {i : TypeInfo} (h : P.info? t = some i) (w : World) : (Go.sizeOf t).run P w = .ok i.size w := by
  simp [Go.sizeOf, typeInfo, h]

theorem binOther_sound {op : BinOp} {t : TypeId} {x y : Value} {xo yo : Operand} (h : binOther P op t x y K) :
    ∃ v, (∀ w, ((do eqGuard op t xo yo x y; binOp op t x y : Sem Value).run P w) = .ok v w) ∧ K v := by
  unfold binOther at h
  split at h
  · rename_i a b hu
    exact ⟨_, fun w => by
      rw [Sem.run_bind, eqGuard_run (a := .bool a) (by simp) (by simp), Result.andThen_ok, run_eql_bool w t a b hu], h⟩
  · rename_i a b hu
    exact ⟨_, fun w => by
      rw [Sem.run_bind, eqGuard_run (a := .bool a) (by simp) (by simp), Result.andThen_ok, run_neq_bool w t a b hu], h⟩
  · exact h.elim

theorem binS_sound {op : BinOp} {t : TypeId} {x y : Value} {xo yo : Operand} (h : binS P op t x y K) :
    ∃ v, (∀ w, ((do eqGuard op t xo yo x y; binOp op t x y : Sem Value).run P w) = .ok v w) ∧ K v := by
  unfold binS at h
  split at h
  · rename_i k a k' b
    have hg : ∀ w, (eqGuard op t xo yo (.int k a) (.int k' b)).run P w = .ok () w := fun w => eqGuard_run (by simp) (by simp) w
    suffices hs : ∃ v, (∀ w, (binOp op t (.int k a) (.int k' b)).run P w = .ok v w) ∧ K v by
      obtain ⟨v, hv, hk⟩ := hs
      exact ⟨v, fun w => by rw [Sem.run_bind, hg, Result.andThen_ok, hv], hk⟩
    cases op
    case shl => simp only [binII] at h; exact binShift_sound (P := P) (yk := k') h
    case shr => simp only [binII] at h; exact binShift_sound (P := P) (yk := k') h
    all_goals
      simp only [binII] at h
      split at h
      · subst_vars
        obtain ⟨v, hv, hk⟩ := binInt_sound (P := P) h
        refine ⟨v, fun w => ?_, hk⟩
        rw [← hv w]
        simp [binOp]
      · exact h.elim
  · rename_i a b
    obtain ⟨v, hv, hk⟩ := binStr_sound (P := P) h
    refine ⟨v, fun w => ?_, hk⟩
    rw [Sem.run_bind, eqGuard_run (a := .string a) (by simp) (by simp), Result.andThen_ok]
    rw [← hv w]
    cases op <;> rfl
  · exact binOther_sound h

theorem partS_sound {t : TypeId} {i : TypeInfo} {cs : Array Value} {off : Nat} (hi : P.info? t = some i) (h : partS P t cs.toList off K) :
    ∃ v, (∀ w, (part t cs off).run P w = .ok v w) ∧ K v := by
  unfold partS at h
  have hcells : P.cellsOf t = i.size := by simp [Program.cellsOf, hi]
  split at h
  · rename_i fs hu
    refine ⟨_, fun w => ?_, h⟩
    simp only [part, isAgg, Sem.run_bind, underlying_run hu, Result.andThen_ok, Sem.run_pure, if_true, sizeOf_run hi, hcells]
    congr 2
    apply Array.ext'
    simp [List.take_drop, List.extract_eq_take_drop, Nat.add_sub_cancel_left]
  · rename_i n e hu
    refine ⟨_, fun w => ?_, h⟩
    simp only [part, isAgg, Sem.run_bind, underlying_run hu, Result.andThen_ok, Sem.run_pure, if_true, sizeOf_run hi, hcells]
    congr 2
    apply Array.ext'
    simp [List.take_drop, List.extract_eq_take_drop, Nat.add_sub_cancel_left]
  · rename_i d hns hna hu
    split at h
    · rename_i v hv
      refine ⟨v, fun w => ?_, h⟩
      have hv' : cs[off]? = some v := by simpa using hv
      cases d <;> first | (exact absurd rfl (hns _)) | (exact absurd rfl (hna _ _)) | (simp [part, isAgg, Sem.run_bind, underlying_run hu, hv'])
    · exact h.elim
  · exact h.elim

theorem boundS_sound {x : Option Value} {dflt y : Nat} {code : BoundsCode} {K : Nat → Prop} (h : boundS x dflt y K) :
    ∃ m, K m ∧ ∀ w, ((match x with | some v => Instr.sliceBound v y code | none => pure dflt : Sem Nat).run P w) = .ok m w := by
  unfold boundS at h
  split at h
  · exact ⟨_, h, fun w => rfl⟩
  · obtain ⟨⟨h1, h2⟩, h⟩ := h
    exact ⟨_, h, fun w => by simp [Instr.sliceBound, asIntOf, h1, h2]⟩
  · exact h.elim

theorem fillL_eq (place : Nat → Option (Nat × Nat)) : ∀ (parts : List (Nat × Value)) (cells out : List Value), fillL place cells parts = some out →
    Instr.fill place ⟨cells⟩ parts = some ⟨out⟩
  | [], cells, out, h => by simp only [fillL, Option.some.injEq] at h; simp [Instr.fill, h]
  | (i, v) :: rest, cells, out, h => by
    simp only [fillL] at h
    split at h
    · cases h
    · rename_i off size hp
      cases hc : (Nat.beq v.cells.toList.length size && Nat.ble (off + size) cells.length) with
      | false => rw [hc] at h; simp at h
      | true =>
        rw [hc] at h
        simp only [cond_true] at h
        simp only [Bool.and_eq_true] at hc
        have h1 : v.cells.toList.length = size := Nat.eq_of_beq_eq_true hc.1
        have h2 : off + size ≤ cells.length := Nat.le_of_ble_eq_true hc.2
        have ih := fillL_eq place rest _ _ h
        have hlen : v.cells.size = size := by simpa using h1
        have key : v.cells.zipIdx.foldl (fun cs (c, j) => cs.setIfInBounds (off + j) c) (⟨cells⟩ : Array Value) = ⟨cells.take off ++ v.cells.toList ++ cells.drop (off + size)⟩ := by
          have gen : ∀ (l : List Value) (k : Nat) (cs : List Value), off + k + l.length ≤ cs.length →
              (l.zipIdx k).foldl (fun (cs : Array Value) (p : Value × Nat) => cs.setIfInBounds (off + p.2) p.1) ⟨cs⟩ = ⟨cs.take (off + k) ++ l ++ cs.drop (off + k + l.length)⟩ := by
            intro l
            induction l with
            | nil => intro k cs _; simp
            | cons c l ih2 =>
              intro k cs hk
              simp only [List.length_cons] at hk
              simp only [List.zipIdx_cons, List.foldl_cons]
              have hset : ((⟨cs⟩ : Array Value).setIfInBounds (off + k) c) = ⟨cs.set (off + k) c⟩ := by simp
              rw [hset, ih2 (k + 1) (cs.set (off + k) c) (by simp; omega)]
              congr 1
              apply List.ext_getElem?
              intro n
              simp only [List.getElem?_append, List.length_take, List.length_set, List.length_append, List.length_cons, List.getElem?_take, List.getElem?_drop, List.getElem?_set]
              grind
          have g := gen v.cells.toList 0 cells (by omega)
          simp only [Nat.add_zero] at g
          rw [← Array.foldl_toList, Array.toList_zipIdx, ← h1]
          exact g
        simp only [Instr.fill, hp]
        have hnot : ¬ (v.cells.size ≠ size ∨ off + v.cells.size > cells.length) := by omega
        simp only [ne_eq, gt_iff_lt, List.size_toArray]
        rw [if_neg (by simp; omega)]
        rw [key]
        exact ih

end
end Go.Proofs.YtfbmjimhjlmhkaaDoor.Sx
