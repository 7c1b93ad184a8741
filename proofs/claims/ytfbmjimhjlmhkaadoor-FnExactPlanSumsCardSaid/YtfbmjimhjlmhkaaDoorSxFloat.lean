/-
  The frame-free form of a Go function: a region whose allocations have no place of their own among its other effects.
-/
import Derived.Test.YtfbmjimhjlmhkaaDoorSxDraw
namespace Go.Proofs.YtfbmjimhjlmhkaaDoor.Sx
open Go Go.RowKit
set_option linter.unusedVariables false
set_option linter.unusedSimpArgs false

/-- what a floating operation lays down, and what it hands back -/
def fobj (P : Program) (o : Oper) : Option (Obj × (Nat → Value)) :=
  match o.guard, o.op with
  | none, .alloc t => match P.info? t with
    | some inf => match inf.zero with
      | some z => some (.cells ⟨z.cells.toList⟩ t, fun r => .pointer (some ⟨r, 0, none⟩))
      | none => none
    | none => none
  | none, .buildSlice t 0 parts => match parts.toList, P.underlying t with
    | [], some (.slice e) => match P.info? e with
      | some inf => match inf.zero with
        | some z => cond (Nat.ble 1 inf.size) (some (.cells ⟨[]⟩ e, fun r => .slice (some ⟨r, 0, none⟩) 0 0)) none
        | none => none
      | none => none
    | _, _ => none
  | _, _ => none

theorem fobj_guard {P : Program} {o : Oper} {x : Obj × (Nat → Value)} (h : fobj P o = some x) : o.guard = none := by
  unfold fobj at h
  split at h
  · assumption
  · assumption
  · cases h

theorem fobj_run {P : Program} {o : Oper} {x : Obj × (Nat → Value)} (h : fobj P o = some x) (φ : Fr) (w : World) :
    (execOp (ev φ) o).run P w = .ok (.value (x.2 w.heap.size)) (w.alloc x.1) := by
  obtain ⟨dst, op, ty, pos, after, guard⟩ := o
  unfold fobj at h
  split at h
  · rename_i t hg hop
    simp only at hg hop
    subst hop
    split at h
    · rename_i inf hi
      split at h
      · rename_i z hz
        cases h
        simp [execOp, Instr.alloc, zeroValue, typeInfo_run hi, hz, newVar, newRow]
      · cases h
    · cases h
  · rename_i t parts hg hop
    simp only at hg hop
    subst hop
    split at h
    · rename_i e hp hu
      split at h
      · rename_i inf hi
        split at h
        · rename_i z hz
          cases hb : Nat.ble 1 inf.size with
          | false => rw [hb] at h; cases h
          | true =>
            rw [hb] at h
            cases h
            have hS : buildSliceS P t 0 [] w (fun v w' => v = .slice (some ⟨w.heap.size, 0, none⟩) 0 0 ∧ w' = w.alloc (.cells ⟨[]⟩ e)) := by
              unfold buildSliceS
              simp only [hu, hi, hz, Nat.zero_mul, hb, Bool.and_true]
              show cond (Nat.ble 0 16777216) _ _
              simp only [show Nat.ble 0 16777216 = true from rfl, cond_true]
              intro r w' hn
              exact ⟨by rw [hn.r_eq], hn.w_eq⟩
            obtain ⟨v, w', hv, h1, h2⟩ := buildSliceS_goes hS
            have e1 : (parts.map fun (x : Nat × Operand) => (x.1, ev φ x.2)) = ⟨[]⟩ := by apply Array.ext'; simp [hp]
            simp only [execOp]
            rw [← h1, ← h2]
            exact exec_vv (by rw [e1]; exact hv)
        · cases h
      · cases h
    · cases h
  · cases h

/-- some of the floating operations run, in whatever order -/
inductive Fl (os : List Obj) : List (Option Nat) → World → List (Option Nat) → World → Prop
  | refl {ss : List (Option Nat)} {w : World} : Fl os ss w ss w
  | step {ss : List (Option Nat)} {w : World} {k : Nat} {o : Obj} {ss' : List (Option Nat)} {w' : World} :
      ss[k]? = some none → os[k]? = some o → Fl os (ss.set k (some w.heap.size)) (w.alloc o) ss' w' → Fl os ss w ss' w'

theorem Fl.ext {os : List Obj} {ss : List (Option Nat)} {w : World} {ss' : List (Option Nat)} {w' : World} (h : Fl os ss w ss' w') : Ext w w' := by
  induction h with
  | refl => exact Ext.refl _
  | step _ _ _ ih => exact Ext.trans ((Below.refl _ _).alloc (Nat.le_refl _) _) ih
theorem Fl.len {os : List Obj} {ss : List (Option Nat)} {w : World} {ss' : List (Option Nat)} {w' : World} (h : Fl os ss w ss' w') : ss'.length = ss.length := by
  induction h with
  | refl => rfl
  | step _ _ _ ih => rw [ih]; simp
theorem Fl.keeps {os : List Obj} {ss : List (Option Nat)} {w : World} {ss' : List (Option Nat)} {w' : World} (h : Fl os ss w ss' w') {k r : Nat} (hk : ss[k]? = some (some r)) : ss'[k]? = some (some r) := by
  induction h with
  | refl => exact hk
  | step h1 h2 h3 ih =>
    rename_i ss w k' o ss' w'
    refine ih ?_
    have hne : k' ≠ k := fun e => by subst e; rw [hk] at h1; cases h1
    rw [List.getElem?_set_ne hne]
    exact hk

/-! ## the floating operations of a region -/

def isEff (P : Program) (o : Oper) : Bool := match kindOf P o with | .eff => true | _ => false
def isEffAt (P : Program) (ops : Array Oper) (i : Nat) : Bool := match ops[i]? with | some o => isEff P o | none => false
/-- allocations that some other effect is neither ahead of nor behind -/
def flo (P : Program) (ops : Array Oper) : List Nat :=
  (List.range ops.size).filter fun i => match (ops[i]?).bind (fobj P) with
    | some _ => (List.range ops.size).any fun j => isEffAt P ops j && !(Nat.beq i j) && !(anc (msOf ops) i j) && !(anc (msOf ops) j i)
    | none => false
def fidx : List Nat → Nat → Option Nat
  | [], _ => none
  | x :: r, i => cond (Nat.beq x i) (some 0) (match fidx r i with | some k => some (k + 1) | none => none)
def objAt (P : Program) (ops : Array Oper) (i : Nat) : Obj := match (ops[i]?).bind (fobj P) with | some x => x.1 | none => .cells #[] 0
def valAt (P : Program) (ops : Array Oper) (i : Nat) (r : Nat) : Value := match (ops[i]?).bind (fobj P) with | some x => x.2 r | none => undef
def objs (P : Program) (ops : Array Oper) (os : List Nat) : List Obj := os.map (objAt P ops)

theorem fidx_spec : ∀ {os : List Nat} {i k : Nat}, fidx os i = some k → os[k]? = some i
  | x :: r, i, k, h => by
    simp only [fidx] at h
    cases hb : Nat.beq x i with
    | true => rw [hb] at h; cases h; simp [Nat.eq_of_beq_eq_true hb]
    | false =>
      rw [hb] at h
      simp only [cond_false] at h
      split at h
      · rename_i k' hk
        cases h
        simpa using fidx_spec hk
      · cases h
theorem fidx_some : ∀ {os : List Nat} {i : Nat}, i ∈ os → ∃ k, fidx os i = some k
  | x :: r, i, h => by
    simp only [fidx]
    cases hb : Nat.beq x i with
    | true => exact ⟨0, rfl⟩
    | false =>
      have : i ∈ r := by
        rcases List.mem_cons.1 h with e | e
        · subst e; simp at hb
        · exact e
      obtain ⟨k, hk⟩ := fidx_some this
      exact ⟨k + 1, by rw [hk]; rfl⟩
theorem fidx_mem {os : List Nat} {i k : Nat} (h : fidx os i = some k) : i ∈ os := List.mem_of_getElem? (fidx_spec h)

section
variable (P : Program) (N : Nat) (ops : Array Oper) (os : List Nat)

def anyF (R : List Nat) : Bool := R.any fun i => match fidx os i with | some _ => true | none => false

def dF : List Nat → (Fr → World → Prop) → (Nat → World) → List (Option Nat) → Fr → World → Prop
  | [], K => fun wds ss φ w => K φ w
  | i :: R, K => fun wds ss φ w => match ops[i]? with
    | none => False
    | some o => match fidx os i with
      | some k => ∀ ss' w' r, Fl (objs P ops os) ss w ss' w' → ss'[k]? = some (some r) → dF R K wds ss' (φ.put N o.dst (valAt P ops i r)) w'
      | none => cond (isEff P o && anyF os R)
        (∀ ss' w1, Fl (objs P ops os) ss w ss' w1 → St P N ops [] i o wds φ w1 fun wds' φ' w' => dF R K wds' ss' φ' w')
        (St P N ops [] i o wds φ w fun wds' φ' w' => dF R K wds' ss φ' w')
end

section
variable {P : Program} {N : Nat} {ops : Array Oper} {os : List Nat}

theorem anyF_mem {R : List Nat} {j k : Nat} (hj : fidx os j = some k) (hm : j ∈ R) : anyF os R = true := by
  simp only [anyF, List.any_eq_true]
  exact ⟨j, hm, by rw [hj]⟩

theorem isEff_false {o : Oper} (h : isEff P o = false) : kindOf P o ≠ .eff := by
  intro e; simp [isEff, e] at h
theorem isEff_true {o : Oper} (h : isEff P o = true) : kindOf P o = .eff := by
  unfold isEff at h
  split at h
  · assumption
  · cases h

/-- a floating operation runs -/
theorem dF_float {K : Fr → World → Prop} {j k : Nat} (hj : fidx os j = some k) : ∀ (R : List Nat) (wds : Nat → World) (ss : List (Option Nat)) (φ : Fr) (w : World), j ∈ R → ss[k]? = some none → dF P N ops os R K wds ss φ w →
    dF P N ops os R K wds (ss.set k (some w.heap.size)) φ (w.alloc (objAt P ops j))
  | [], _, _, _, _, hm, _, _ => by simp at hm
  | i :: R, wds, ss, φ, w, hm, hk, h => by
    have hok : (objs P ops os)[k]? = some (objAt P ops j) := by simp [objs, fidx_spec hj]
    simp only [dF] at h ⊢
    cases ho : ops[i]? with
    | none => rw [ho] at h; exact h
    | some o =>
      rw [ho] at h
      simp only at h ⊢
      cases hi : fidx os i with
      | some k' =>
        rw [hi] at h
        exact fun ss' w' r hfl hr => h ss' w' r (.step hk hok hfl) hr
      | none =>
        rw [hi] at h
        simp only at h ⊢
        have hmR : j ∈ R := by
          rcases List.mem_cons.1 hm with e | e
          · subst e; rw [hj] at hi; cases hi
          · exact e
        cases hef : isEff P o with
        | true =>
          rw [hef, anyF_mem hj hmR] at h
          rw [anyF_mem hj hmR]
          exact fun ss' w1 hfl => h ss' w1 (.step hk hok hfl)
        | false =>
          rw [hef] at h
          simp only [Bool.false_and, cond_false] at h ⊢
          rcases h.cases with ⟨v, hq, h1⟩ | ⟨_, hke, _⟩
          · exact St.quiet (v := v) hq (dF_float hj R _ _ _ _ hmR hk h1)
          · exact absurd hke (isEff_false hef)

theorem St.putF {i : Nat} {o : Oper} {wds : Nat → World} {φ : Fr} {w : World} {G G' : (Nat → World) → Fr → World → Prop} {jd : Option Tmp} {x : Value} (hs : notSel o = true) (ha : ∀ d, jd = some d → d ∉ o.looksAt ops)
    (hG : ∀ wds' v w', G wds' (φ.put N o.dst v) w' → G' wds' ((φ.put N jd x).put N o.dst v) w') (h : St P N ops [] i o wds φ w G) : St P N ops [] i o wds (φ.put N jd x) w G' := by
  rcases h.cases with ⟨v, hq, h1⟩ | ⟨hw, hk, h1⟩
  · refine St.quiet (v := v) ?_ (hG _ _ _ h1)
    rcases hq with ⟨hw, hk, hy⟩ | ⟨hw, rfl⟩
    · exact .inl ⟨by rw [want_put o φ jd x ha]; exact hw, hk, fun w' hc => (hy w' hc).congr (exec_put o hs φ jd x ha)⟩
    · exact .inr ⟨by rw [want_put o φ jd x ha]; exact hw, rfl⟩
  · refine St.loud (by rw [want_put o φ jd x ha]; exact hw) hk ?_
    exact (h1.congr (exec_put o hs φ jd x ha)).mono fun v w' ⟨he, hg⟩ => ⟨he, hG _ _ _ hg⟩

/-- what stands ahead of j in the order, and j need not be behind it -/
structure PairOk (P : Program) (ops : Array Oper) (os : List Nat) (r j : Nat) : Prop where
  ne : r ≠ j
  back : anc (msOf ops) r j = false
  edge : ∀ o, ops[r]? = some o → ∀ e ∈ o.after.toList, Region.binds .any e = true → e.on ≠ j
  free : anc (msOf ops) j r = false → ∀ or oj, ops[r]? = some or → ops[j]? = some oj → or.apart ops oj = true ∧ (fidx os j = none → kindOf P oj = .eff → kindOf P or ≠ .eff ∧ fidx os r = none)

/-- a floating operation that has run is taken first -/
theorem dF_front {K : Fr → World → Prop} (hsel : ∀ (i : Nat) (o : Oper), ops[i]? = some o → notSel o = true) {j k r : Nat} {oj : Oper} (hjo : ops[j]? = some oj) (hj : fidx os j = some k) {R2 : List Nat} :
    ∀ (R1 : List Nat) (wds : Nat → World) (ss : List (Option Nat)) (φ : Fr) (w : World), (∀ i ∈ R1, ∀ o, ops[i]? = some o → o.apart ops oj = true) → ss[k]? = some (some r) →
      dF P N ops os (R1 ++ j :: R2) K wds ss φ w → dF P N ops os (R1 ++ R2) K wds ss (φ.put N oj.dst (valAt P ops j r)) w
  | [], wds, ss, φ, w, _, hk, h => by
    simp only [List.nil_append, dF, hjo, hj] at h
    exact h ss w r .refl hk
  | i :: R1, wds, ss, φ, w, hp, hk, h => by
    simp only [List.cons_append, dF] at h ⊢
    cases ho : ops[i]? with
    | none => rw [ho] at h; exact h
    | some o =>
      rw [ho] at h
      simp only at h ⊢
      obtain ⟨a1, a2, a3⟩ := Oper.apart_spec (hp i (by simp) o ho)
      have hp' : ∀ i ∈ R1, ∀ o, ops[i]? = some o → o.apart ops oj = true := fun i' hi' => hp i' (by simp [hi'])
      have hany : anyF os (R1 ++ j :: R2) = true := anyF_mem hj (by simp)
      have pc : ∀ v u, (φ.put N oj.dst u).put N o.dst v = (φ.put N o.dst v).put N oj.dst u := fun v u => (put_comm φ v u a2).symm
      cases hi : fidx os i with
      | some k' =>
        rw [hi] at h
        intro ss' w' r' hfl hr
        rw [pc]
        exact dF_front hsel hjo hj R1 _ _ _ _ hp' (hfl.keeps hk) (h ss' w' r' hfl hr)
      | none =>
        rw [hi] at h
        simp only at h ⊢
        have one : ∀ ss' w1, ss'[k]? = some (some r) → St P N ops [] i o wds φ w1 (fun wds' φ' w' => dF P N ops os (R1 ++ j :: R2) K wds' ss' φ' w') →
            St P N ops [] i o wds (φ.put N oj.dst (valAt P ops j r)) w1 (fun wds' φ' w' => dF P N ops os (R1 ++ R2) K wds' ss' φ' w') := fun ss' w1 hk' hst =>
          St.putF (hsel i o ho) a3 (fun wds' v w' hg => by rw [pc]; exact dF_front hsel hjo hj R1 _ _ _ _ hp' hk' hg) hst
        cases hef : isEff P o with
        | true =>
          rw [hef, hany] at h
          cases hf2 : anyF os (R1 ++ R2) with
          | true => exact fun ss' w1 hfl => one ss' w1 (hfl.keeps hk) (h ss' w1 hfl)
          | false => exact one ss w hk (h ss w .refl)
        | false =>
          rw [hef] at h
          exact one ss w hk h

/-- a quiet step in many worlds at once gives one value -/
theorem quiet_all {ι : Type} {p : ι → Prop} {wa : ι → World} {φa : ι → Fr} {G : ι → (Nat → World) → Fr → World → Prop} {j : Nat} {oj : Oper} {wds : Nat → World} {φ : Fr} {w : World}
    (hk : kindOf P oj ≠ .eff) (hC : kindOf P oj = .read → Ext (wds j) w) (hφ : ∀ a, p a → execOp (ev (φa a)) oj = execOp (ev φ) oj ∧ wantS ops (φa a) oj = wantS ops φ oj) (ne : ∃ a, p a)
    (h : ∀ a, p a → St P N ops [] j oj wds (φa a) (wa a) (G a)) :
    ∃ v, ((wantS ops φ oj = true ∧ kindOf P oj ≠ .eff ∧ ∀ w', Cls P [] oj (wds j) w' → Yes P φ oj v w') ∨ (wantS ops φ oj = false ∧ v = undef)) ∧ ∀ a, p a → G a wds ((φa a).put N oj.dst v) (wa a) := by
  have each : ∀ a, p a → ∃ v, ((wantS ops φ oj = true ∧ kindOf P oj ≠ .eff ∧ ∀ w', Cls P [] oj (wds j) w' → Yes P φ oj v w') ∨ (wantS ops φ oj = false ∧ v = undef)) ∧ G a wds ((φa a).put N oj.dst v) (wa a) := by
    intro a ha
    rcases (h a ha).cases with ⟨v, hq, h1⟩ | ⟨_, hke, _⟩
    · refine ⟨v, ?_, h1⟩
      rw [(hφ a ha).2] at hq
      rcases hq with ⟨hw, hk, hy⟩ | hq
      · exact .inl ⟨hw, hk, fun w' hc => (hy w' hc).congr (hφ a ha).1.symm⟩
      · exact .inr hq
    · exact absurd hke hk
  obtain ⟨a0, ha0⟩ := ne
  obtain ⟨v0, hq0, _⟩ := each a0 ha0
  refine ⟨v0, hq0, fun a ha => ?_⟩
  obtain ⟨v, hq, hg⟩ := each a ha
  have : v = v0 := by
    rcases hq with ⟨hw, _, hy⟩ | ⟨hw, rfl⟩ <;> rcases hq0 with ⟨hw0, _, hy0⟩ | ⟨hw0, rfl⟩
    · have hc : Cls P [] oj (wds j) w := by
        unfold Cls
        cases hk3 : kindOf P oj with
        | eff => exact absurd hk3 hk
        | pure => trivial
        | read => exact hC hk3
      have e1 := hy w hc
      have e2 := hy0 w hc
      unfold Yes at e1 e2
      rw [e1] at e2
      simp only [Result.ok.injEq, Next.value.injEq] at e2
      exact e2.1
    · rw [hw] at hw0; cases hw0
    · rw [hw] at hw0; cases hw0
    · rfl
  subst this
  exact hg

/-- an operation that is ready and does not float may be taken first -/
theorem peelF {K : Fr → World → Prop} (hsel : ∀ (i : Nat) (o : Oper), ops[i]? = some o → notSel o = true) (hfo : ∀ i ∈ os, ∃ o x, ops[i]? = some o ∧ fobj P o = some x) {j : Nat} {oj : Oper} (hjo : ops[j]? = some oj) (hj : fidx os j = none) {R2 : List Nat} :
    ∀ (R1 : List Nat) (wds : Nat → World) (ss : List (Option Nat)) (φ : Fr) (w : World), (R1 ++ j :: R2).Pairwise (PairOk P ops os) → (∀ r ∈ R1, anc (msOf ops) j r = false) → ss.length = os.length → Reads P ops [] (R1 ++ j :: R2) wds w →
      dF P N ops os (R1 ++ j :: R2) K wds ss φ w → St P N ops [] j oj wds φ w fun wds' φ' w' => dF P N ops os (R1 ++ R2) K wds' ss φ' w'
  | [], wds, ss, φ, w, _, _, _, _, h => by
    simp only [List.nil_append, dF, hjo, hj] at h ⊢
    cases hb : (isEff P oj && anyF os R2) with
    | true => rw [hb] at h; exact h ss w .refl
    | false => rw [hb] at h; exact h
  | r :: R1, wds, ss, φ, w, hs, hn, hlen, hrd, h => by
    simp only [List.cons_append] at h hs hrd
    have hs2 := List.pairwise_cons.1 hs
    have hpk := hs2.1 j (by simp)
    cases ho : ops[r]? with
    | none => simp only [dF, ho] at h
    | some or =>
      obtain ⟨hap, hcl⟩ := hpk.free (hn r (by simp)) or oj ho hjo
      have hcl := hcl hj
      obtain ⟨a1, a2, a3⟩ := Oper.apart_spec hap
      have hn' : ∀ r ∈ R1, anc (msOf ops) j r = false := fun x hx => hn x (by simp [hx])
      have hrd' : Reads P ops [] (R1 ++ j :: R2) wds w := fun i hi => hrd i (by simp only [List.mem_cons]; exact .inr hi)
      have hC : kindOf P oj = .read → Ext (wds j) w := fun hk => hrd j (by simp) oj hjo hk
      have hlt : ∀ i ∈ R1 ++ j :: R2, i ≠ r ∧ anc (msOf ops) r i = false := fun i hi => ⟨(hs2.1 i hi).ne.symm, (hs2.1 i hi).back⟩
      simp only [dF, ho] at h
      cases hi : fidx os r with
      | some k =>
        rw [hi] at h
        have hke : kindOf P oj ≠ .eff := fun e => by have := (hcl e).2; rw [hi] at this; cases this
        have ne : ∃ a : List (Option Nat) × World × Nat, Fl (objs P ops os) ss w a.1 a.2.1 ∧ a.1[k]? = some (some a.2.2) := by
          have hkl : k < ss.length := by rw [hlen]; exact (List.getElem?_eq_some_iff.1 (fidx_spec hi)).1
          cases hk : ss[k] with
          | some x => exact ⟨(ss, w, x), .refl, by rw [List.getElem?_eq_getElem hkl, hk]⟩
          | none =>
            refine ⟨(ss.set k (some w.heap.size), w.alloc (objAt P ops r), w.heap.size), .step (by rw [List.getElem?_eq_getElem hkl, hk]) (o := objAt P ops r) (by simp [objs, fidx_spec hi]) .refl, by simp [hkl]⟩
        obtain ⟨v, hq, hall⟩ := quiet_all (P := P) (N := N) (ops := ops) (p := fun a : List (Option Nat) × World × Nat => Fl (objs P ops os) ss w a.1 a.2.1 ∧ a.1[k]? = some (some a.2.2)) (wa := fun a => a.2.1) (φa := fun a => φ.put N or.dst (valAt P ops r a.2.2))
          (G := fun a wds' φ' w' => dF P N ops os (R1 ++ R2) K wds' a.1 φ' w') (oj := oj) (j := j) (wds := wds) (φ := φ) (w := w) hke hC
          (fun a _ => ⟨exec_put oj (hsel j oj hjo) φ or.dst _ a1, want_put oj φ or.dst _ a1⟩) ne
          (fun a ha => peelF hsel hfo hjo hj R1 wds a.1 _ a.2.1 hs2.2 hn' (by rw [ha.1.len]; exact hlen) (fun i hi o ho hk => (hrd' i hi o ho hk).trans ha.1.ext) (h a.1 a.2.1 a.2.2 ha.1 ha.2))
        refine St.quiet hq ?_
        simp only [List.cons_append, dF, ho, hi]
        intro ss' w' x hfl hx
        rw [← put_comm φ _ _ a2]
        exact hall (ss', w', x) ⟨hfl, hx⟩
      | none =>
        rw [hi] at h
        simp only at h
        have hone : ¬ (kindOf P or = .eff ∧ kindOf P oj = .eff) := fun ⟨h1, h2⟩ => (hcl h2).1 h1
        have swap : ∀ ss' w1, Ext w w1 → ss'.length = os.length → St P N ops [] r or wds φ w1 (fun wds' φ' w' => dF P N ops os (R1 ++ j :: R2) K wds' ss' φ' w') →
            St P N ops [] j oj wds φ w1 fun wds2 φ2 w2 => St P N ops [] r or wds2 φ2 w2 fun wds' φ' w' => dF P N ops os (R1 ++ R2) K wds' ss' φ' w' := by
          intro ss' w1 hx hl hst
          refine St.swap ⟨hap, hone, hn r (by simp), hpk.back, hsel r or ho, hsel j oj hjo⟩ (fun hk => (hC hk).trans hx) ?_
          refine St.mono (fun wds1 φ1 w2 hnx hd => ?_) hst
          refine peelF hsel hfo hjo hj R1 wds1 ss' φ1 w2 hs2.2 hn' hl ?_ hd
          exact Reads.next (R := R1 ++ j :: R2) (fun i hi o ho hk => (hrd' i hi o ho hk).trans hx) hnx hlt
        have hanyeq : anyF os (R1 ++ j :: R2) = anyF os (R1 ++ R2) := by
          simp only [anyF, List.any_append, List.any_cons, hj, Bool.false_or]
        cases hb : (isEff P or && anyF os (R1 ++ j :: R2)) with
        | true =>
          rw [hb] at h
          simp only [cond_true] at h
          have hke : kindOf P oj ≠ .eff := fun e => hone ⟨isEff_true (by simp only [Bool.and_eq_true] at hb; exact hb.1), e⟩
          obtain ⟨v, hq, hall⟩ := quiet_all (P := P) (N := N) (ops := ops) (p := fun a : List (Option Nat) × World => Fl (objs P ops os) ss w a.1 a.2) (wa := fun a => a.2) (φa := fun _ => φ)
            (G := fun a wds2 φ2 w2 => St P N ops [] r or wds2 φ2 w2 fun wds' φ' w' => dF P N ops os (R1 ++ R2) K wds' a.1 φ' w') (oj := oj) (j := j) (wds := wds) (φ := φ) (w := w) hke hC
            (fun a _ => ⟨rfl, rfl⟩) ⟨(ss, w), .refl⟩
            (fun a ha => swap a.1 a.2 ha.ext (by rw [ha.len]; exact hlen) (h a.1 a.2 ha))
          refine St.quiet hq ?_
          simp only [List.cons_append, dF, ho, hi]
          rw [← hanyeq, hb]
          exact fun ss' w1 hfl => hall (ss', w1) hfl
        | false =>
          rw [hb] at h
          simp only [cond_false] at h
          refine St.mono (fun wds1 φ1 w1 _ hd => ?_) (swap ss w (Ext.refl _) hlen h)
          simp only [List.cons_append, dF, ho, hi]
          rw [← hanyeq, hb]
          exact hd

/-! ## the order in which the form takes a region's operations: what hangs on a floating one stands as late as may be -/

def lateQ (ops : Array Oper) (os : List Nat) (x : Nat) : Bool := os.any fun k => Nat.beq k x || anc (msOf ops) x k
def piGo (P : Program) (ops : Array Oper) (os : List Nat) : List Nat → List Nat → List Nat
  | [], late => late
  | x :: r, late => cond (isEffAt P ops x && (match fidx os x with | some _ => false | none => true))
      (late.filter (fun y => anc (msOf ops) x y) ++ x :: piGo P ops os r (late.filter fun y => !(anc (msOf ops) x y)))
      (cond (lateQ ops os x) (piGo P ops os r (late ++ [x])) (x :: piGo P ops os r late))
def piF (P : Program) (ops : Array Oper) : List Nat := piGo P ops (flo P ops) (List.range ops.size) []

/-! ## the check -/

def pairOkB (P : Program) (ops : Array Oper) (os : List Nat) (r j : Nat) : Bool :=
  match ops[r]?, ops[j]? with
  | some or, some oj => !(Nat.beq r j) && !(anc (msOf ops) r j) && (or.after.toList.all fun e => !(Region.binds .any e) || !(Nat.beq e.on j)) &&
      (anc (msOf ops) j r || (or.apart ops oj && (match fidx os j with | some _ => true | none => !(isEff P oj) || (!(isEff P or) && (match fidx os r with | some _ => false | none => true)))))
  | _, _ => false
def pairsB (P : Program) (ops : Array Oper) (os : List Nat) : List Nat → Bool
  | [] => true
  | r :: R => (R.all fun j => pairOkB P ops os r j) && pairsB P ops os R
def goodF (P : Program) (ops : Array Oper) (os : List Nat) (π : List Nat) : Bool :=
  ((List.range ops.size).all fun j => match ops[j]? with
    | some o => notSel o && (o.after.toList.all fun e => !(Region.binds .any e) || Nat.blt e.on j)
    | none => true) &&
  (os.all fun i => match (ops[i]?).bind (fobj P) with | some _ => true | none => false) && Nat.beq π.length ops.size && ((List.range ops.size).all fun i => π.any (Nat.beq i ·)) && (π.all fun i => Nat.blt i ops.size) && pairsB P ops os π

theorem pairOkB_spec {r j : Nat} (h : pairOkB P ops os r j = true) : PairOk P ops os r j := by
  unfold pairOkB at h
  split at h
  · rename_i or oj h1 h2
    simp only [Bool.and_eq_true, Bool.not_eq_true', Bool.or_eq_true, List.all_eq_true] at h
    obtain ⟨⟨⟨k1, k2⟩, k3⟩, k4⟩ := h
    refine ⟨fun e => by subst e; simp at k1, k2, fun o ho e he hb heq => ?_, fun hn or' oj' h1' h2' => ?_⟩
    · rw [h1] at ho; cases ho
      rcases k3 e he with h | h
      · rw [hb] at h; cases h
      · rw [heq] at h; simp at h
    · rw [h1] at h1'; cases h1'
      rw [h2] at h2'; cases h2'
      rw [hn] at k4
      simp only [Bool.false_eq_true, false_or] at k4
      refine ⟨k4.1, fun hf hk => ?_⟩
      have := k4.2
      rw [hf] at this
      simp only [isEff, hk, Bool.not_true, Bool.false_or, Bool.and_eq_true, Bool.not_eq_true'] at this
      refine ⟨fun e => by rw [e] at this; simp at this, ?_⟩
      have h3 := this.2
      split at h3
      · cases h3
      · assumption
  · cases h
theorem pairsB_spec : ∀ {R : List Nat}, pairsB P ops os R = true → R.Pairwise (PairOk P ops os)
  | [], _ => .nil
  | r :: R, h => by
    simp only [pairsB, Bool.and_eq_true, List.all_eq_true] at h
    exact .cons (fun j hj => pairOkB_spec (h.1 j hj)) (pairsB_spec h.2)

theorem any_of_dF {K : Fr → World → Prop} (hsel : ∀ (i : Nat) (o : Oper), ops[i]? = some o → notSel o = true) (hlt : ∀ (j : Nat) (o : Oper), ops[j]? = some o → ∀ e ∈ o.after.toList, Region.binds .any e = true → e.on < j)
    (hfo : ∀ i ∈ os, ∃ o x, ops[i]? = some o ∧ fobj P o = some x) {Q : Exit → Act → World → Prop} (hK : ∀ φ a w, Fits N φ a → K φ w → Q .normal a w) :
    ∀ (fuel : Nat) (R : List Nat) (listed : Array Bool) (wds : Nat → World) (ss : List (Option Nat)) (φ : Fr) (a : Act) (w : World), R.length = fuel → listed.size = ops.size → R.Pairwise (PairOk P ops os) →
      (∀ i, i ∈ R ↔ i < ops.size ∧ listed.getD i true = false) → ss.length = os.length → (∀ i k, i ∈ R → fidx os i = some k → ss[k]? = some none) →
      (∀ (k : Nat) (o : Oper), ops[k]? = some o → listed.getD k false = true → ∀ e ∈ o.after.toList, Region.binds .any e = true → listed.getD e.on false = true) →
      Fits N φ a → Reads P ops [] R wds w → dF P N ops os R K wds ss φ w → wpAny P .any ops Q fuel listed a w := by
  intro fuel
  induction fuel with
  | zero =>
    intro R listed wds ss φ a w hlen hsz hs hR hsl hss hcl hf hrd h
    have : R = [] := List.length_eq_zero_iff.1 hlen
    subst this
    refine ⟨?_, hK _ _ _ hf h⟩
    apply List.eq_nil_iff_forall_not_mem.2
    intro i hi
    rw [mem_ready] at hi
    obtain ⟨h0, o, ho, _⟩ := hi
    have := (hR i).2 ⟨(Array.getElem?_eq_some_iff.1 ho).1, h0⟩
    cases this
  | succ fuel ih =>
    intro R listed wds ss φ a w hlen hsz hs hR hsl hss hcl hf hrd h
    refine ⟨fun hnil => ?_, fun j hj => ?_⟩
    · cases R with
      | nil => simp at hlen
      | cons r R =>
        have hr := (hR r).1 (by simp)
        exfalso
        have : r ∈ Region.ready .any ops listed := by
          rw [mem_ready]
          refine ⟨hr.2, _, Array.getElem?_eq_getElem hr.1, fun e he hb => ?_⟩
          have hlt1 := hlt r _ (Array.getElem?_eq_getElem hr.1) e (by simpa using he) hb
          cases hl : listed.getD e.on false with
          | true => rfl
          | false =>
            have hlt2 : e.on < listed.size := by omega
            have hl2 : listed.getD e.on true = false := by
              simp only [Array.getD, hlt2, dif_pos] at hl ⊢
              exact hl
            have hm := (hR e.on).2 ⟨by omega, hl2⟩
            have hs1 := List.pairwise_cons.1 hs
            rcases List.mem_cons.1 hm with hm | hm
            · omega
            · exact absurd rfl ((hs1.1 _ hm).edge _ (Array.getElem?_eq_getElem hr.1) e (by simpa using he) hb)
        rw [hnil] at this
        cases this
    · obtain ⟨h0, o, ho, hall⟩ := mem_ready.1 hj
      have hjsz : j < ops.size := (Array.getElem?_eq_some_iff.1 ho).1
      have hjR := (hR j).2 ⟨hjsz, h0⟩
      obtain ⟨R1, R2, rfl⟩ := split_at hjR
      have hn : ∀ r ∈ R1, anc (msOf ops) j r = false := by
        intro r hr
        cases ha : anc (msOf ops) j r with
        | false => rfl
        | true =>
          exfalso
          have hrl := (hR r).1 (by simp [hr])
          obtain ⟨e, he, hb, hx⟩ := anc_spec ho ha
          have hel := hall e (by simpa using he) hb
          have hrl2 : listed.getD r false = false := by
            have : r < listed.size := by omega
            have h3 := hrl.2
            simp only [Array.getD, this, dif_pos] at h3 ⊢
            exact h3
          rcases hx with hx | ⟨_, hx⟩
          · rw [hx] at hel; rw [hel] at hrl2; cases hrl2
          · have := anc_listed listed hcl _ _ _ (Nat.le_refl _) hel hx
            rw [this] at hrl2; cases hrl2
      have hsub : (R1 ++ R2).Sublist (R1 ++ j :: R2) := List.Sublist.append_left (List.sublist_cons_self j R2) R1
      have hpa := List.pairwise_append.1 hs
      have hpc := List.pairwise_cons.1 hpa.2.1
      have hnj : j ∉ R1 ++ R2 := by
        intro hm
        rcases List.mem_append.1 hm with hm | hm
        · exact (hpa.2.2 j hm j (by simp)).ne rfl
        · exact (hpc.1 j hm).ne rfl
      have hR' : ∀ i, i ∈ R1 ++ R2 ↔ i < ops.size ∧ (listed.setIfInBounds j true).getD i true = false := by
        intro i
        rw [getD_set (by omega)]
        by_cases hij : j = i
        · subst hij; simp [hnj]
        · rw [if_neg hij, ← hR i]
          constructor
          · exact fun hm => hsub.subset hm
          · intro hm
            rcases List.mem_append.1 hm with hm | hm
            · exact List.mem_append_left _ hm
            · rcases List.mem_cons.1 hm with hm | hm
              · exact absurd hm.symm hij
              · exact List.mem_append_right _ hm
      have hcl' : ∀ (k : Nat) (o : Oper), ops[k]? = some o → (listed.setIfInBounds j true).getD k false = true → ∀ e ∈ o.after.toList, Region.binds .any e = true → (listed.setIfInBounds j true).getD e.on false = true := by
        intro k o' ho' hl e he hb
        rw [getD_set (by omega)] at hl ⊢
        by_cases hje : j = e.on
        · rw [if_pos hje]
        · rw [if_neg hje]
          by_cases hjk : j = k
          · subst hjk
            rw [ho] at ho'
            cases ho'
            exact hall e (by simpa using he) hb
          · rw [if_neg hjk] at hl
            exact hcl k o' ho' hl e he hb
      have hlen' : (R1 ++ R2).length = fuel := by simp at hlen ⊢; omega
      have hrdj : ∀ i ∈ R1 ++ R2, ∀ o, ops[i]? = some o → kindOf P o = .read → Ext (wds i) w := fun i hi => hrd i (hsub.subset hi)
      cases hfi : fidx os j with
      | some k =>
        obtain ⟨o', x, ho', hx⟩ := hfo j (fidx_mem hfi)
        rw [ho] at ho'; cases ho'
        have hg := fobj_guard hx
        have hsk := hss j k hjR hfi
        have hoe : objAt P ops j = x.1 := by simp [objAt, ho, hx]
        have hve : valAt P ops j w.heap.size = x.2 w.heap.size := by simp [valAt, ho, hx]
        have d1 := dF_float hfi _ wds ss φ w hjR hsk h
        have hkl : k < ss.length := (List.getElem?_eq_some_iff.1 hsk).1
        have d2 := dF_front hsel ho hfi R1 wds (ss.set k (some w.heap.size)) φ _ (r := w.heap.size) (fun i hi o2 ho2 => ((hpa.2.2 i hi j (by simp)).free (hn i hi) o2 o ho2 ho).1) (by simp [hkl]) d1
        rw [hoe, hve] at d2
        unfold Go.wpOp
        simp only [ho]
        rw [wantS_eq hf]
        have hw : wantS ops φ o = true := by simp [wantS, hg]
        rw [if_pos hw]
        refine .inl ?_
        unfold Oper.wp
        rw [hf.eval, fobj_run hx φ w]
        refine ih (R1 ++ R2) _ wds (ss.set k (some w.heap.size)) (φ.put N o.dst (x.2 w.heap.size)) _ _ hlen' (by simp [hsz]) (hs.sublist hsub) hR' (by simpa using hsl) ?_ hcl' (hf.put _ _) ?_ d2
        · intro i k' hi hk'
          have hne : k ≠ k' := fun e => by
            subst e
            have e1 := fidx_spec hfi
            have e2 := fidx_spec hk'
            rw [e1] at e2
            cases e2
            exact hnj hi
          rw [List.getElem?_set_ne hne]
          exact hss i k' (hsub.subset hi) hk'
        · intro i hi o2 ho2 hk2
          exact (hrdj i hi o2 ho2 hk2).trans ((Below.refl _ _).alloc (Nat.le_refl _) _)
      | none =>
        have hst := peelF hsel hfo ho hfi R1 wds ss φ w hs hn hsl hrd h
        refine St.wpOp ho hf (fun hk => hrd j (by simp) o ho hk) (fun wds' φ' a' w' hnx hf' hd => ?_) hst
        refine ih (R1 ++ R2) _ wds' ss φ' a' w' hlen' (by simp [hsz]) (hs.sublist hsub) hR' hsl (fun i k hi hk => hss i k (hsub.subset hi) hk) hcl' hf' ?_ hd
        refine Reads.next hrdj hnx fun i hi => ⟨fun e => hnj (e ▸ hi), ?_⟩
        cases ha : anc (msOf ops) j i with
        | false => rfl
        | true =>
          exfalso
          obtain ⟨e, he, hb, hx⟩ := anc_spec ho ha
          have hel := hall e (by simpa using he) hb
          have hil := (hR i).1 (hsub.subset hi)
          have hil2 : listed.getD i false = false := by
            have : i < listed.size := by omega
            have h3 := hil.2
            simp only [Array.getD, this, dif_pos] at h3 ⊢
            exact h3
          rcases hx with hx | ⟨_, hx⟩
          · rw [hx] at hel; rw [hel] at hil2; cases hil2
          · have := anc_listed listed hcl _ _ _ (Nat.le_refl _) hel hx
            rw [this] at hil2; cases hil2

end
end Go.Proofs.YtfbmjimhjlmhkaaDoor.Sx
