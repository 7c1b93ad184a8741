/-
  The frame-free form of a Go function: the form itself, as a proposition without frames once it is reckoned out.
-/
import Derived.Test.YtfbmjimhjlmhkaaDoorSxCode
namespace Go.Proofs.YtfbmjimhjlmhkaaDoor.Sx
open Go Go.RowKit
set_option linter.unusedVariables false
set_option linter.unusedSimpArgs false

def splitG : Bool → (Value → Prop) → Value → Prop
  | false, k, v => k v
  | true, k, v => match v with
    | .bool b => (b = true → k (.bool true)) ∧ (b = false → k (.bool false))
    | v => k v

theorem splitG_imp {g : Bool} {k : Value → Prop} {v : Value} (h : splitG g k v) : k v := by
  cases g with
  | false => exact h
  | true =>
    cases v <;> try exact h
    rename_i b
    cases b
    · exact h.2 rfl
    · exact h.1 rfl

def wantT (ops : Array Oper) (φ : Fr) (o : Oper) (A B : Prop) : Prop :=
  match o.guard with
  | none => A
  | some (j, want) => match (ops[j]?).bind (·.dst) with
    | some t => match φ t with
      | .bool b => cond (b == want) A B
      | _ => B
    | none => B

theorem wantT_imp {ops : Array Oper} {φ : Fr} {o : Oper} {A B : Prop} (h : wantT ops φ o A B) : (wantS ops φ o = true ∧ A) ∨ (wantS ops φ o = false ∧ B) := by
  unfold wantT at h
  unfold wantS
  cases hg : o.guard with
  | none => rw [hg] at h; exact .inl ⟨rfl, h⟩
  | some gw =>
    obtain ⟨j, want⟩ := gw
    rw [hg] at h
    simp only at h ⊢
    cases ht : (ops[j]?).bind (·.dst) with
    | none => rw [ht] at h; exact .inr ⟨rfl, h⟩
    | some t =>
      rw [ht] at h
      simp only at h ⊢
      cases hv : φ t <;> rw [hv] at h <;> simp only at h ⊢ <;> try exact .inr ⟨trivial, h⟩
      rename_i b
      cases hw : b == want with
      | true => rw [hw] at h; exact .inl ⟨rfl, h⟩
      | false => rw [hw] at h; exact .inr ⟨rfl, h⟩

def isG (ops : Array Oper) (i : Nat) : Bool := ops.toList.any fun o => match o.guard with | some (j, _) => Nat.beq j i | none => false

section
variable (P : Program) (N : Nat)

def dsem (S : List Nat) (ops : Array Oper) (draw : Bool) (K : Fr → World → Prop) : List Nat → (Nat → World) → Fr → World → Prop
  | [], wds, φ, w => K φ w
  | i :: R, wds, φ, w => match ops[i]? with
    | none => False
    | some o => wantT ops φ o
      (match kindOf P o with
        | .pure => semPure P φ o (splitG (isG ops i) fun v => dsem S ops draw K R wds (φ.put N o.dst v) w)
        | .read => semRead P (cond draw (fun p => ∀ w', EX S (wds i) w' → p w') (fun p => p w)) φ o (splitG (isG ops i) fun v => dsem S ops draw K R wds (φ.put N o.dst v) w)
        | .eff => semEff P φ o w fun v w' => cond (draw && needExt P ops (msOf ops) i)
            (EX S w w' ∧ splitG (isG ops i) (fun v => dsem S ops draw K R (cond draw (upd (msOf ops) wds i w') wds) (φ.put N o.dst v) w') v)
            (splitG (isG ops i) (fun v => dsem S ops draw K R (cond draw (upd (msOf ops) wds i w') wds) (φ.put N o.dst v) w') v))
      (dsem S ops draw K R wds (φ.put N o.dst undef) w)

theorem dsem_drP {S : List Nat} {ops : Array Oper} {K : Fr → World → Prop} : ∀ (R : List Nat) (wds : Nat → World) (φ : Fr) (w : World),
    dsem P N S ops true K R wds φ w → drP P N ops S R (fun _ => K) wds φ w
  | [], wds, φ, w, h => h
  | i :: R, wds, φ, w, h => by
    simp only [dsem] at h
    simp only [drP]
    cases ho : ops[i]? with
    | none => rw [ho] at h; exact h
    | some o =>
      rw [ho] at h
      simp only at h ⊢
      rcases wantT_imp h with ⟨hw, h⟩ | ⟨hw, h⟩
      · cases hk : kindOf P o with
        | pure =>
          rw [hk] at h
          obtain ⟨v, hy, h⟩ := semPure_sound h
          exact St.quiet (.inl ⟨hw, by simp [hk], fun w' _ => hy w'⟩) (dsem_drP R _ _ _ (splitG_imp h))
        | read =>
          rw [hk] at h
          obtain ⟨v, hy, h⟩ := semRead_sound (C := EX S (wds i)) (fun p hp w hw => hp w hw) h
          exact St.quiet (.inl ⟨hw, by simp [hk], fun w' hc => hy w' (by simpa [Cls, hk] using hc)⟩) (dsem_drP R _ _ _ (splitG_imp h))
        | eff =>
          rw [hk] at h
          refine St.loud hw hk ((semEff_sound h).mono fun v w' h => ?_)
          cases hn : needExt P ops (msOf ops) i with
          | true =>
            rw [hn] at h
            exact ⟨fun _ => h.1, dsem_drP R _ _ _ (splitG_imp h.2)⟩
          | false =>
            rw [hn] at h
            exact ⟨fun e => by simp at e, dsem_drP R _ _ _ (splitG_imp h)⟩
      · exact St.quiet (.inr ⟨hw, rfl⟩) (dsem_drP R _ _ _ h)

def dsemF (ops : Array Oper) (os : List Nat) (K : Fr → World → Prop) : List Nat → (Nat → World) → List (Option Nat) → Fr → World → Prop
  | [], wds, ss, φ, w => K φ w
  | i :: R, wds, ss, φ, w => match ops[i]? with
    | none => False
    | some o => match fidx os i with
      | some k => ∀ ss' w' r, Fl (objs P ops os) ss w ss' w' → ss'[k]? = some (some r) → dsemF ops os K R wds ss' (φ.put N o.dst (valAt P ops i r)) w'
      | none => wantT ops φ o
        (match kindOf P o with
          | .pure => semPure P φ o (splitG (isG ops i) fun v => dsemF ops os K R wds ss (φ.put N o.dst v) w)
          | .read => semRead P (fun p => ∀ w', Ext (wds i) w' → p w') φ o (splitG (isG ops i) fun v => dsemF ops os K R wds ss (φ.put N o.dst v) w)
          | .eff => cond (anyF os R)
            (∀ ss' w1, Fl (objs P ops os) ss w ss' w1 → semEff P φ o w1 fun v w' => cond (needExt P ops (msOf ops) i)
              (Ext w1 w' ∧ splitG (isG ops i) (fun v => dsemF ops os K R (upd (msOf ops) wds i w') ss' (φ.put N o.dst v) w') v)
              (splitG (isG ops i) (fun v => dsemF ops os K R (upd (msOf ops) wds i w') ss' (φ.put N o.dst v) w') v))
            (semEff P φ o w fun v w' => cond (needExt P ops (msOf ops) i)
              (Ext w w' ∧ splitG (isG ops i) (fun v => dsemF ops os K R (upd (msOf ops) wds i w') ss (φ.put N o.dst v) w') v)
              (splitG (isG ops i) (fun v => dsemF ops os K R (upd (msOf ops) wds i w') ss (φ.put N o.dst v) w') v)))
        (cond (isEff P o && anyF os R) (∀ ss' w1, Fl (objs P ops os) ss w ss' w1 → dsemF ops os K R wds ss' (φ.put N o.dst undef) w1) (dsemF ops os K R wds ss (φ.put N o.dst undef) w))

theorem dsemF_dF {ops : Array Oper} {os : List Nat} {K : Fr → World → Prop} : ∀ (R : List Nat) (wds : Nat → World) (ss : List (Option Nat)) (φ : Fr) (w : World),
    dsemF P N ops os K R wds ss φ w → dF P N ops os R K wds ss φ w
  | [], wds, ss, φ, w, h => h
  | i :: R, wds, ss, φ, w, h => by
    simp only [dsemF] at h
    simp only [dF]
    cases ho : ops[i]? with
    | none => rw [ho] at h; exact h
    | some o =>
      rw [ho] at h
      simp only at h ⊢
      cases hi : fidx os i with
      | some k => rw [hi] at h; exact fun ss' w' r hfl hr => dsemF_dF R _ _ _ _ (h ss' w' r hfl hr)
      | none =>
        rw [hi] at h
        simp only at h ⊢
        rcases wantT_imp h with ⟨hw, h⟩ | ⟨hw, h⟩
        · cases hk : kindOf P o with
          | pure =>
            rw [hk] at h
            have hb : isEff P o = false := by simp [isEff, hk]
            rw [hb]
            simp only [Bool.false_and, cond_false]
            obtain ⟨v, hy, h⟩ := semPure_sound h
            exact St.quiet (S := []) (G := fun wds' φ' w' => dF P N ops os R K wds' ss φ' w') (.inl ⟨hw, by simp [hk], fun w' _ => hy w'⟩) (dsemF_dF R _ _ _ _ (splitG_imp h))
          | read =>
            rw [hk] at h
            have hb : isEff P o = false := by simp [isEff, hk]
            rw [hb]
            simp only [Bool.false_and, cond_false]
            obtain ⟨v, hy, h⟩ := semRead_sound (C := Ext (wds i)) (fun p hp w hw => hp w hw) h
            exact St.quiet (S := []) (G := fun wds' φ' w' => dF P N ops os R K wds' ss φ' w') (.inl ⟨hw, by simp [hk], fun w' hc => hy w' (by simpa [Cls, hk, EX] using hc)⟩) (dsemF_dF R _ _ _ _ (splitG_imp h))
          | eff =>
            rw [hk] at h
            have hb : isEff P o = true := by simp [isEff, hk]
            rw [hb]
            simp only [Bool.true_and]
            have step : ∀ ss' w1, semEff P φ o w1 (fun v w' => cond (needExt P ops (msOf ops) i)
              (Ext w1 w' ∧ splitG (isG ops i) (fun v => dsemF P N ops os K R (upd (msOf ops) wds i w') ss' (φ.put N o.dst v) w') v)
              (splitG (isG ops i) (fun v => dsemF P N ops os K R (upd (msOf ops) wds i w') ss' (φ.put N o.dst v) w') v)) →
                St P N ops [] i o wds φ w1 (fun wds' φ' w' => dF P N ops os R K wds' ss' φ' w') := by
              intro ss' w1 h
              refine St.loud hw hk ((semEff_sound h).mono fun v w' h => ?_)
              cases hn : needExt P ops (msOf ops) i with
              | true =>
                rw [hn] at h
                exact ⟨fun _ => h.1, dsemF_dF R _ _ _ _ (splitG_imp h.2)⟩
              | false =>
                rw [hn] at h
                exact ⟨fun e => by simp at e, dsemF_dF R _ _ _ _ (splitG_imp h)⟩
            cases hf : anyF os R with
            | true => rw [hf] at h; exact fun ss' w1 hfl => step ss' w1 (h ss' w1 hfl)
            | false => rw [hf] at h; exact step ss w h
        · cases hb : (isEff P o && anyF os R) with
          | false => rw [hb] at h; exact St.quiet (S := []) (G := fun wds' φ' w' => dF P N ops os R K wds' ss φ' w') (.inr ⟨hw, rfl⟩) (dsemF_dF R _ _ _ _ h)
          | true =>
            rw [hb] at h
            exact fun ss' w1 hfl => St.quiet (S := []) (G := fun wds' φ' w' => dF P N ops os R K wds' ss' φ' w') (.inr ⟨hw, rfl⟩) (dsemF_dF R _ _ _ _ (h ss' w1 hfl))

theorem dsem_sqP {ops : Array Oper} {K : Fr → World → Prop} : ∀ (R : List Nat) (wds : Nat → World) (φ : Fr) (w : World),
    dsem P N [] ops false K R wds φ w → sqP P N ops R K φ w
  | [], wds, φ, w, h => h
  | i :: R, wds, φ, w, h => by
    simp only [dsem] at h
    simp only [sqP]
    cases ho : ops[i]? with
    | none => rw [ho] at h; exact h
    | some o =>
      rw [ho] at h
      simp only at h ⊢
      unfold Sq
      rcases wantT_imp h with ⟨hw, h⟩ | ⟨hw, h⟩
      · rw [if_pos hw]
        cases hk : kindOf P o with
        | pure =>
          rw [hk] at h
          obtain ⟨v, hy, h⟩ := semPure_sound h
          exact ⟨v, hy w, dsem_sqP R _ _ _ (splitG_imp h)⟩
        | read =>
          rw [hk] at h
          obtain ⟨v, hy, h⟩ := semRead_sound (C := fun w' => w' = w) (fun p hp w' hw => by subst hw; exact hp) h
          exact ⟨v, hy w rfl, dsem_sqP R _ _ _ (splitG_imp h)⟩
        | eff =>
          rw [hk] at h
          refine (semEff_sound h).mono fun v w' h => ?_
          simp only [Bool.false_and, cond_false] at h
          exact dsem_sqP R _ _ _ (splitG_imp h)
      · rw [if_neg (by simp [hw])]
        exact dsem_sqP R _ _ _ h

def keyOf : Code → Nat
  | .region id _ _ => id + 1
  | .seq a b => match keyOf a with
    | 0 => keyOf b
    | k => k
  | .cond _ a b => match keyOf a with
    | 0 => keyOf b
    | k => k
  | .block _ c => keyOf c
  | .loop c => keyOf c
  | .scope c => keyOf c
  | _ => 0

def memN : List Nat → Nat → Bool
  | [], _ => false
  | x :: r, n => cond (Nat.beq x n) true (memN r n)

def lookN : List (Nat × VS) → List Value → Nat → Option Value
  | (d, _) :: r, v :: vs, n => cond (Nat.beq d n) (some v) (lookN r vs n)
  | _, _, _ => none

/-- a loop's head: what is carried, as named; what else the round writes, unknown; the rest as it was -/
def havoc (ds : List Nat) (cs : List (Nat × VS)) (vs : List Value) (ζ φ : Fr) : Fr := fun n =>
  match lookN cs vs n with
  | some v => v
  | none => cond (memN ds n) (ζ n) (φ n)

theorem memN_spec : ∀ {l : List Nat} {n : Nat}, memN l n = false → n ∉ l
  | [], _, _ => by simp
  | x :: r, n, h => by
    simp only [memN] at h
    cases hb : Nat.beq x n with
    | true => rw [hb] at h; cases h
    | false =>
      rw [hb] at h
      simp only [List.mem_cons, not_or]
      exact ⟨fun e => by subst e; simp at hb, memN_spec h⟩

theorem lookN_map {φ : Fr} : ∀ {cs : List (Nat × VS)} {n : Nat} {v : Value}, lookN cs (cs.map fun c => φ c.1) n = some v → v = φ n
  | [], _, _, h => by simp [lookN] at h
  | (d, s) :: r, n, v, h => by
    simp only [List.map_cons, lookN] at h
    cases hb : Nat.beq d n with
    | true =>
      rw [hb] at h
      simp only [cond_true, Option.some.injEq] at h
      rw [← h, Nat.eq_of_beq_eq_true hb]
    | false =>
      rw [hb] at h
      exact lookN_map h

theorem havoc_eq {ds : List Nat} {cs : List (Nat × VS)} {φ ψ : Fr} (h : ∀ n, n ∉ ds → ψ n = φ n) : havoc ds cs (cs.map fun c => ψ c.1) ψ φ = ψ := by
  funext n
  unfold havoc
  split
  · rename_i v hv; exact lookN_map hv
  · cases hm : memN ds n with
    | true => rfl
    | false => exact (h n (memN_spec hm)).symm

variable (car : Nat → List (Nat × VS))

def sem : Code → QF → Fr → World → Prop
  | .skip, Q, φ, w => Q .normal φ w
  | .region id ops draw, Q, φ, w =>
    match draw with
    | true => cond (P.follows .mixedOrders) (cond (good P ops) (cond (needS P ops) (∃ S, dsem P N S ops true (Q .normal) (List.range ops.size) (fun _ => w.drew) φ w.drew) (dsem P N [] ops true (Q .normal) (List.range ops.size) (fun _ => w.drew) φ w.drew))
        (cond (goodF P ops (flo P ops) (piF P ops)) (dsemF P N ops (flo P ops) (Q .normal) (piF P ops) (fun _ => w.drew) (List.replicate (flo P ops).length none) φ w.drew) False)) False
    | false => dsem P N [] ops false (Q .normal) (List.range ops.size) (fun _ => w) φ w
  | .seq x y, Q, φ, w => sem x (thenQ (sem y Q) Q) φ w
  | .cond c x y, Q, φ, w => match ev φ c with
    | .bool b => (b = true → sem x Q φ w) ∧ (b = false → sem y Q φ w)
    | _ => False
  | .block id c, Q, φ, w => sem c (blockQ id Q) φ w
  | .loop c, Q, φ, w =>
    ∃ (I : TyT ((car (keyOf c)).map (·.2)) (World → Prop)) (μ : TyT ((car (keyOf c)).map (·.2)) (World → Nat)),
      holds ((car (keyOf c)).map (·.2)) I ((car (keyOf c)).map fun x => φ x.1) w ∧
      ∀ (ζ : Fr) (w : World), allT ((car (keyOf c)).map (·.2)) fun vs => holds ((car (keyOf c)).map (·.2)) I vs w →
        sem c (thenQ (fun φ' w' => holds ((car (keyOf c)).map (·.2)) I ((car (keyOf c)).map fun x => φ' x.1) w' ∧
          meas ((car (keyOf c)).map (·.2)) μ ((car (keyOf c)).map fun x => φ' x.1) w' < meas ((car (keyOf c)).map (·.2)) μ vs w) Q)
          (havoc (dstsOf c) (car (keyOf c)) vs ζ φ) w
  | .exit id, Q, φ, w => Q (.exit id) φ w
  | .ret, Q, φ, w => Q .ret φ w
  | .label _, Q, φ, w => Q .normal φ w
  | _, _, _, _ => False

variable {P N car}

theorem semA_of_sem : ∀ (c : Code) (Q : QF) (φ : Fr) (w : World), sem P N car c Q φ w → semA P N c Q φ w
  | .skip, Q, φ, w, h => h
  | .region id ops draw, Q, φ, w, h => by
    cases draw with
    | false => exact dsem_sqP P N _ _ _ _ h
    | true =>
      simp only [sem] at h
      cases hm : P.follows .mixedOrders with
      | false => rw [hm] at h; exact h.elim
      | true =>
        rw [hm] at h
        refine ⟨hm, ?_⟩
        cases hc : good P ops with
        | true =>
          rw [hc] at h
          cases hn : needS P ops with
          | true => rw [hn] at h; exact .inl ⟨rfl, h.elim fun S h => ⟨S, dsem_drP P N _ _ _ _ h⟩⟩
          | false => rw [hn] at h; exact .inl ⟨rfl, [], dsem_drP P N _ _ _ _ h⟩
        | false =>
          rw [hc] at h
          cases hd : goodF P ops (flo P ops) (piF P ops) with
          | true => rw [hd] at h; exact .inr ⟨rfl, dsemF_dF P N _ _ _ _ _ h⟩
          | false => rw [hd] at h; exact h.elim
  | .seq x y, Q, φ, w, h => by
    have h1 := semA_of_sem x (thenQ (sem P N car y Q) Q) φ w h
    show semA P N x (thenQ (semA P N y Q) Q) φ w
    refine semA_mono (fun e φ' w' hq => ?_) h1
    cases e with
    | normal => exact semA_of_sem y _ _ _ hq
    | _ => exact hq
  | .cond c x y, Q, φ, w, h => by
    simp only [sem] at h
    split at h
    · rename_i b hb
      exact ⟨b, hb, fun e => semA_of_sem x _ _ _ (h.1 e), fun e => semA_of_sem y _ _ _ (h.2 e)⟩
    · exact h.elim
  | .block id c, Q, φ, w, h => semA_of_sem c _ φ w h
  | .loop c, Q, φ, w, h => by
    obtain ⟨I, μ, h0, hr⟩ := h
    refine ⟨fun φ w => holds _ I ((car (keyOf c)).map fun x => φ x.1) w, fun φ w => meas _ μ ((car (keyOf c)).map fun x => φ x.1) w, h0, ?_⟩
    intro ψ w1 hJ hψ
    have h1 := hr ψ w1
    have h2 : ∃ g, appT ((car (keyOf c)).map (·.2)) I ((car (keyOf c)).map fun x => ψ x.1) = some g := by
      unfold holds at hJ
      split at hJ
      · rename_i g hg; exact ⟨g, hg⟩
      · exact hJ.elim
    obtain ⟨g, hg⟩ := h2
    have h3 := allT_app hg h1 hJ
    rw [havoc_eq hψ] at h3
    exact semA_of_sem c _ ψ w1 h3
  | .exit id, Q, φ, w, h => h
  | .ret, Q, φ, w, h => h
  | .label _, Q, φ, w, h => h
  | .goto _, _, _, _, hs => hs.elim
  | .scope _, _, _, _, hs => hs.elim
  | .rangeFunc _ _ _ _, _, _, _, hs => hs.elim
  | .refuse _, _, _, _, hs => hs.elim

/-! ## a function -/

/-- a constant text -/
abbrev S (l : List UInt8) : ByteArray := ⟨⟨l⟩⟩

/-- a call of a function value -/
def CallW (P : Program) (f : Value) (args : List Value) (w : World) (Q : Ending → World → Prop) : Prop :=
  ∃ g first captured, f = .func (.func g) ⟨first⟩ ⟨captured⟩ ∧ goFunc P g = true ∧ Calls P g ⟨first ++ args ++ captured⟩ w Q

/-- at a call: the contract, then what the caller's text asks of what it gives -/
theorem Ret.at {P : Program} {f : FuncId} {args : List Value} {w : World} {R : Value → World → Prop} {Q : Ending → World → Prop} (h : Calls P f ⟨args⟩ w fun e w' => ∃ v, e = .returned v ∧ R v w')
    (hr : ∀ v w', R v w' → Q (.returned v) w') : Calls P f ⟨args⟩ w Q :=
  Calls.mono h fun e w' ⟨v, he, hv⟩ => he ▸ hr _ _ hv

def resT (P : Program) (φ : Fr) (w : World) : List ResultVar → (List Value → Prop) → Prop
  | [], K => K []
  | .tmp t :: r, K => resT P φ w r fun vs => K (φ t :: vs)
  | .cell a t :: r, K => match φ a with
    | .pointer p => ptrS p fun ad => exV (vsOf P t) fun v => Loads P t ad v w ∧ resT P φ w r fun vs => K (v :: vs)
    | _ => False

def retV : List Value → Value
  | [v] => v
  | vs => .tuple ⟨vs⟩

def bodyQ (P : Program) (fn : Func) (R : Value → World → Prop) : QF
  | .normal, φ, w => resT P φ w fn.results.toList fun vs => R (retV vs) w
  | .ret, φ, w => resT P φ w fn.results.toList fun vs => R (retV vs) w
  | _, _, _ => False

def initF (args : List Value) : Fr := fun n => args.getD n undef

def fsem (P : Program) (fn : Func) (car : Nat → List (Nat × VS)) (args : List Value) (R : Value → World → Prop) (w : World) : Prop :=
  match fn.body with
  | some c => sem P fn.ntmps car c (bodyQ P fn R) (initF args) w
  | none => False

/-- the function hands back a value and leaves a world -/
def Ret (P : Program) (f : FuncId) (args : List Value) (w : World) (R : Value → World → Prop) : Prop :=
  Calls P f ⟨args⟩ w fun e w' => ∃ v, e = .returned v ∧ R v w'

theorem Ret.mono {P : Program} {f : FuncId} {args : List Value} {w : World} {R R' : Value → World → Prop} (h : Ret P f args w R) (hr : ∀ v w', R v w' → R' v w') : Ret P f args w R' :=
  Calls.mono h fun e w' ⟨v, he, hv⟩ => ⟨v, he, hr _ _ hv⟩

/-- at a call: what the contract gives, in the form that the caller's text asks -/
theorem Ret.call {P : Program} {f : FuncId} {args : List Value} {rs : List VS} {w : World} {R K : Value → World → Prop} (h : Ret P f args w R)
    (hr : ∀ v w', R v w' → exR rs fun u => v = u ∧ K u w') : CallS P f args rs w K := by
  refine Calls.mono h fun e w' ⟨v, he, hv⟩ => ?_
  have := hr v w' hv
  have gen : ∀ {rs : List VS} {A B : Value → Prop}, (∀ u, A u → B u) → exR rs A → exR rs B := by
    have gS : ∀ {s : Sh} {A B : Value → Prop}, (∀ u, A u → B u) → exS s A → exS s B := by
      intro s A B hab h
      cases s <;> simp only [exS] at h ⊢
      case slice => obtain ⟨p, n, c, h⟩ := h; exact ⟨p, n, c, hab _ h⟩
      all_goals (obtain ⟨x, h⟩ := h; exact ⟨x, hab _ h⟩)
    have gL : ∀ {l : List Sh} {A B : List Value → Prop}, (∀ u, A u → B u) → exL l A → exL l B := by
      intro l
      induction l with
      | nil => intro A B hab h; exact hab _ h
      | cons s r ih => intro A B hab h; exact gS (fun v hv => ih (fun vs hvs => hab _ hvs) hv) h
    have gV : ∀ {s : VS} {A B : Value → Prop}, (∀ u, A u → B u) → exV s A → exV s B := by
      intro s A B hab h
      cases s with
      | one s => exact gS hab h
      | agg l => exact gL (fun vs hvs => hab _ hvs) h
    have gT : ∀ {l : List VS} {A B : List Value → Prop}, (∀ u, A u → B u) → exT l A → exT l B := by
      intro l
      induction l with
      | nil => intro A B hab h; exact hab _ h
      | cons s r ih => intro A B hab h; exact gV (fun v hv => ih (fun vs hvs => hab _ hvs) hv) h
    intro rs A B hab h
    match rs, h with
    | [s], h => exact gV hab h
    | [], h => exact gT (fun vs hvs => hab _ hvs) h
    | _ :: _ :: _, h => exact gT (fun vs hvs => hab _ hvs) h
  exact gen (fun u ⟨h1, h2⟩ => ⟨by rw [he, h1], h2⟩) this

def resF (tmps : Array Value) : ResultVar → Sem Value
  | .tmp t => pure (tmps.getD t undef)
  | .cell a t => do loadVar t (← asAddr (tmps.getD a undef))

theorem results_eq (fn : Func) (tmps : Array Value) : results fn tmps = (do let vs ← fn.results.mapM (resF tmps); pure (if h : vs.size = 1 then vs[0] else .tuple vs)) := by
  unfold results
  congr 1

theorem resT_sound {P : Program} {φ : Fr} {w : World} {a : Act} {N : Nat} (hf : Fits N φ a) : ∀ (l : List ResultVar) (K : List Value → Prop), resT P φ w l K →
    ∃ vs, K vs ∧ (l.mapM (m := Sem) (resF a.tmps)).run P w = .ok vs w
  | [], K, h => ⟨[], h, rfl⟩
  | .tmp t :: r, K, h => by
    obtain ⟨vs, hk, hr⟩ := resT_sound hf r _ h
    refine ⟨_, hk, ?_⟩
    rw [List.mapM_cons]
    simp only [Sem.run_bind, Sem.run_pure, Result.andThen_ok, hr, resF]
    rw [hf.get]
  | .cell x t :: r, K, h => by
    simp only [resT] at h
    split at h
    · rename_i p hp
      obtain ⟨ad, rfl, h⟩ := ptrS_elim h
      obtain ⟨v, hl, h⟩ := exV_elim h
      obtain ⟨vs, hk, hr⟩ := resT_sound hf r _ h
      refine ⟨_, hk, ?_⟩
      rw [List.mapM_cons]
      have hl' : (loadVar t ad).run P w = .ok v w := hl
      have hp' : a.tmps.getD x undef = .pointer (some ad) := by rw [hf.get]; exact hp
      simp only [Sem.run_bind, resF, hp', asAddr, Sem.run_pure, Result.andThen_ok, hl', hr]
    · exact h.elim

theorem initF_fits {fn : Func} {args : List Value} (h : args.length ≤ fn.ntmps) :
    Fits fn.ntmps (initF args) { tmps := (⟨args⟩ : Array Value) ++ Array.replicate (fn.ntmps - (⟨args⟩ : Array Value).size) undef, defers := [] } := by
  refine ⟨by simp; omega, fun n => ?_, rfl⟩
  simp only [initF, Array.getD_eq_getD_getElem?, List.getD_eq_getElem?_getD, Array.getElem?_append, Array.getElem?_replicate, List.size_toArray]
  by_cases hn : n < args.length
  · simp [hn]
  · rw [if_neg hn]
    rw [List.getElem?_eq_none (by omega)]
    split <;> rfl

theorem Ret.of_fsem {P : Program} {f : FuncId} {fn : Func} {car : Nat → List (Nat × VS)} {args : List Value} {w : World} {R : Value → World → Prop}
    (hf : P.funcs[f]? = some fn) (hlen : Nat.ble args.length fn.ntmps = true) (h : fsem P fn car args R w) : Ret P f args w R := by
  unfold fsem at h
  split at h
  · rename_i c hb
    refine calls_of_wp hf hb ?_
    have hlen' : args.length ≤ fn.ntmps := Nat.le_of_ble_eq_true hlen
    refine wp_of_semA c (bodyQ P fn R) _ (initF args) _ w (initF_fits hlen') (fun e φ a w' hfit hq => ?_) (semA_of_sem c _ _ _ h)
    have key : resT P φ w' fn.results.toList (fun vs => R (retV vs) w') → a.defers = [] ∧ ∃ v, (results fn a.tmps).run P w' = .ok v w' ∧ ∃ u, Ending.returned v = .returned u ∧ R u w' := by
      intro hq
      obtain ⟨vs, hk, hr⟩ := resT_sound hfit _ _ hq
      refine ⟨hfit.defers, retV vs, ?_, _, rfl, hk⟩
      rw [results_eq, Array.mapM_eq_mapM_toList]
      simp only [Sem.run_bind, Sem.run_map, hr, Result.andThen_ok, Sem.run_pure]
      match vs with
      | [] => simp [retV]
      | [v] => simp [retV]
      | _ :: _ :: _ => simp [retV]
    cases e with
    | normal => exact key hq
    | ret => exact key hq
    | _ => exact hq.elim
  · exact h.elim

end
end Go.Proofs.YtfbmjimhjlmhkaaDoor.Sx
