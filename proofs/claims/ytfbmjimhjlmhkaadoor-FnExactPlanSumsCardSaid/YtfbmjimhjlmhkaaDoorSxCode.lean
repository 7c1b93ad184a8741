/-
  The frame-free form of a Go function: a body's code.
-/
import Derived.Test.YtfbmjimhjlmhkaaDoorSxFloat
namespace Go.Proofs.YtfbmjimhjlmhkaaDoor.Sx
open Go Go.RowKit
set_option linter.unusedVariables false
set_option linter.unusedSimpArgs false

/-! ## the abstract form: regions by their steps -/

section
variable (P : Program) (N : Nat)

def Sq (ops : Array Oper) (o : Oper) (φ : Fr) (w : World) (G : Fr → World → Prop) : Prop :=
  if wantS ops φ o then
    match kindOf P o with
    | .eff => Goes P φ o w fun v w' => G (φ.put N o.dst v) w'
    | _ => ∃ v, Yes P φ o v w ∧ G (φ.put N o.dst v) w
  else G (φ.put N o.dst undef) w

def sqP (ops : Array Oper) : List Nat → (Fr → World → Prop) → Fr → World → Prop
  | [], K => K
  | i :: R, K => fun φ w => match ops[i]? with
    | none => False
    | some o => Sq P N ops o φ w (sqP ops R K)

def dstsOf : Code → List Nat
  | .region _ ops _ => ops.toList.filterMap (·.dst)
  | .seq a b => dstsOf a ++ dstsOf b
  | .cond _ a b => dstsOf a ++ dstsOf b
  | .block _ c => dstsOf c
  | .loop c => dstsOf c
  | .scope c => dstsOf c
  | .rangeFunc _ ps a b => ps.toList ++ (dstsOf a ++ dstsOf b)
  | _ => []

abbrev QF := Exit → Fr → World → Prop

def thenQ (K : Fr → World → Prop) (Q : QF) : QF
  | .normal, φ, w => K φ w
  | e, φ, w => Q e φ w

def blockQ (id : Nat) (Q : QF) : QF
  | .exit id', φ, w => cond (Nat.beq id' id) (Q .normal φ w) (Q (.exit id') φ w)
  | e, φ, w => Q e φ w

def semA : Code → QF → Fr → World → Prop
  | .skip, Q, φ, w => Q .normal φ w
  | .region id ops draw, Q, φ, w =>
    match draw with
    | true => P.follows .mixedOrders = true ∧ ((good P ops = true ∧ ∃ S, drP P N ops S (List.range ops.size) (fun _ => Q .normal) (fun _ => w.drew) φ w.drew) ∨
        (goodF P ops (flo P ops) (piF P ops) = true ∧ dF P N ops (flo P ops) (piF P ops) (Q .normal) (fun _ => w.drew) (List.replicate (flo P ops).length none) φ w.drew))
    | false => sqP P N ops (List.range ops.size) (Q .normal) φ w
  | .seq x y, Q, φ, w => semA x (thenQ (semA y Q) Q) φ w
  | .cond c x y, Q, φ, w => ∃ b, ev φ c = .bool b ∧ (b = true → semA x Q φ w) ∧ (b = false → semA y Q φ w)
  | .block id c, Q, φ, w => semA c (blockQ id Q) φ w
  | .loop c, Q, φ, w => ∃ (J : Fr → World → Prop) (μ : Fr → World → Nat), J φ w ∧ ∀ ψ w, J ψ w → (∀ n, n ∉ dstsOf c → ψ n = φ n) →
      semA c (thenQ (fun φ' w' => J φ' w' ∧ μ φ' w' < μ ψ w) Q) ψ w
  | .exit id, Q, φ, w => Q (.exit id) φ w
  | .ret, Q, φ, w => Q .ret φ w
  | .label _, Q, φ, w => Q .normal φ w
  | _, _, _, _ => False
end

section
variable {P : Program} {N : Nat}

theorem St.monoF {ops : Array Oper} {S : List Nat} {i : Nat} {o : Oper} {wds : Nat → World} {φ : Fr} {w : World} {G G' : (Nat → World) → Fr → World → Prop}
    (hG : ∀ wds' v w', G wds' (φ.put N o.dst v) w' → G' wds' (φ.put N o.dst v) w') (h : St P N ops S i o wds φ w G) : St P N ops S i o wds φ w G' := by
  unfold St at *
  split
  · rename_i hw
    rw [if_pos hw] at h
    cases hk : kindOf P o with
    | eff => rw [hk] at h; exact h.mono fun v w' ⟨h1, h2⟩ => ⟨h1, hG _ _ _ h2⟩
    | pure => rw [hk] at h; obtain ⟨v, h1, h2⟩ := h; exact ⟨v, h1, hG _ _ _ h2⟩
    | read => rw [hk] at h; obtain ⟨v, h1, h2⟩ := h; exact ⟨v, h1, hG _ _ _ h2⟩
  · rename_i hw
    rw [if_neg hw] at h
    exact hG _ _ _ h

theorem Sq.monoF {ops : Array Oper} {o : Oper} {φ : Fr} {w : World} {G G' : Fr → World → Prop}
    (hG : ∀ v w', G (φ.put N o.dst v) w' → G' (φ.put N o.dst v) w') (h : Sq P N ops o φ w G) : Sq P N ops o φ w G' := by
  unfold Sq at *
  split
  · rename_i hw
    rw [if_pos hw] at h
    cases hk : kindOf P o with
    | eff => rw [hk] at h; exact h.mono fun v w' h2 => hG _ _ h2
    | pure => rw [hk] at h; obtain ⟨v, h1, h2⟩ := h; exact ⟨v, h1, hG _ _ h2⟩
    | read => rw [hk] at h; obtain ⟨v, h1, h2⟩ := h; exact ⟨v, h1, hG _ _ h2⟩
  · rename_i hw
    rw [if_neg hw] at h
    exact hG _ _ h

/-- what follows may be strengthened by what the code leaves alone -/
theorem drP_frame {ops : Array Oper} {S : List Nat} : ∀ (R : List Nat) (K K' : (Nat → World) → Fr → World → Prop) (wds : Nat → World) (φ : Fr) (w : World),
    (∀ wds' φ' w', (∀ n, n ∉ ops.toList.filterMap (·.dst) → φ' n = φ n) → K wds' φ' w' → K' wds' φ' w') → drP P N ops S R K wds φ w → drP P N ops S R K' wds φ w
  | [], K, K', wds, φ, w, h, hd => h wds φ w (fun _ _ => rfl) hd
  | i :: R, K, K', wds, φ, w, h, hd => by
    simp only [drP] at hd ⊢
    cases ho : ops[i]? with
    | none => rw [ho] at hd; exact hd
    | some o =>
      rw [ho] at hd
      refine St.monoF (fun wds' v w' hd' => ?_) hd
      refine drP_frame R K K' _ _ _ (fun wds2 φ2 w2 hfr hk => h wds2 φ2 w2 (fun n hn => ?_) hk) hd'
      rw [hfr n hn]
      exact put_other fun d hdst e => hn (by
        subst e
        exact List.mem_filterMap.2 ⟨o, by simpa using Array.mem_of_getElem? ho, hdst⟩)

theorem dF_frame {ops : Array Oper} {os : List Nat} : ∀ (R : List Nat) (K K' : Fr → World → Prop) (wds : Nat → World) (ss : List (Option Nat)) (φ : Fr) (w : World),
    (∀ φ' w', (∀ n, n ∉ ops.toList.filterMap (·.dst) → φ' n = φ n) → K φ' w' → K' φ' w') → dF P N ops os R K wds ss φ w → dF P N ops os R K' wds ss φ w
  | [], K, K', wds, ss, φ, w, h, hd => h φ w (fun _ _ => rfl) hd
  | i :: R, K, K', wds, ss, φ, w, h, hd => by
    simp only [dF] at hd ⊢
    cases ho : ops[i]? with
    | none => rw [ho] at hd; exact hd
    | some o =>
      rw [ho] at hd
      have next : ∀ wds' ss' v w', dF P N ops os R K wds' ss' (φ.put N o.dst v) w' → dF P N ops os R K' wds' ss' (φ.put N o.dst v) w' := fun wds' ss' v w' hd' => by
        refine dF_frame R K K' _ _ _ _ (fun φ2 w2 hfr hk => h φ2 w2 (fun n hn => ?_) hk) hd'
        rw [hfr n hn]
        exact put_other fun d hdst e => hn (by
          subst e
          exact List.mem_filterMap.2 ⟨o, by simpa using Array.mem_of_getElem? ho, hdst⟩)
      simp only at hd ⊢
      cases hi : fidx os i with
      | some k => rw [hi] at hd; exact fun ss' w' r hfl hr => next _ _ _ _ (hd ss' w' r hfl hr)
      | none =>
        rw [hi] at hd
        simp only at hd ⊢
        cases hb : (isEff P o && anyF os R) with
        | true => rw [hb] at hd; exact fun ss' w1 hfl => St.monoF (G := fun wds' φ' w' => dF P N ops os R K wds' ss' φ' w') (fun wds' v w' hg => next _ _ _ _ hg) (hd ss' w1 hfl)
        | false =>
          rw [hb] at hd
          simp only [cond_false] at hd ⊢
          exact St.monoF (G := fun wds' φ' w' => dF P N ops os R K wds' ss φ' w') (fun wds' v w' hg => next _ _ _ _ hg) hd

theorem sqP_frame {ops : Array Oper} : ∀ (R : List Nat) (K K' : Fr → World → Prop) (φ : Fr) (w : World),
    (∀ φ' w', (∀ n, n ∉ ops.toList.filterMap (·.dst) → φ' n = φ n) → K φ' w' → K' φ' w') → sqP P N ops R K φ w → sqP P N ops R K' φ w
  | [], K, K', φ, w, h, hd => h φ w (fun _ _ => rfl) hd
  | i :: R, K, K', φ, w, h, hd => by
    simp only [sqP] at hd ⊢
    cases ho : ops[i]? with
    | none => rw [ho] at hd; exact hd
    | some o =>
      rw [ho] at hd
      refine Sq.monoF (fun v w' hd' => ?_) hd
      refine sqP_frame R K K' _ _ (fun φ2 w2 hfr hk => h φ2 w2 (fun n hn => ?_) hk) hd'
      rw [hfr n hn]
      exact put_other fun d hdst e => hn (by
        subst e
        exact List.mem_filterMap.2 ⟨o, by simpa using Array.mem_of_getElem? ho, hdst⟩)

theorem semA_frame : ∀ (c : Code) (Q Q' : QF) (φ : Fr) (w : World),
    (∀ e φ' w', (∀ n, n ∉ dstsOf c → φ' n = φ n) → Q e φ' w' → Q' e φ' w') → semA P N c Q φ w → semA P N c Q' φ w
  | .skip, Q, Q', φ, w, h, hs => h _ _ _ (fun _ _ => rfl) hs
  | .region id ops draw, Q, Q', φ, w, h, hs => by
    cases draw with
    | true =>
      refine ⟨hs.1, ?_⟩
      rcases hs.2 with hs | hs
      · exact .inl ⟨hs.1, hs.2.elim fun S hs2 => ⟨S, drP_frame _ _ _ _ _ _ (fun _ φ' w' hfr hk => h _ _ _ hfr hk) hs2⟩⟩
      · exact .inr ⟨hs.1, dF_frame _ _ _ _ _ _ _ (fun φ' w' hfr hk => h _ _ _ hfr hk) hs.2⟩
    | false => exact sqP_frame _ _ _ _ _ (fun φ' w' hfr hk => h _ _ _ hfr hk) hs
  | .seq x y, Q, Q', φ, w, h, hs => by
    simp only [semA] at hs ⊢
    refine semA_frame x _ _ φ w (fun e φ' w' hfr hq => ?_) hs
    have hx : ∀ n, n ∉ dstsOf (.seq x y) → φ' n = φ n := fun n hn => hfr n fun hm => hn (by simp [dstsOf, hm])
    cases e with
    | normal =>
      refine semA_frame y _ _ φ' w' (fun e φ2 w2 hfr2 hq2 => h e φ2 w2 (fun n hn => ?_) hq2) hq
      rw [hfr2 n fun hm => hn (by simp [dstsOf, hm])]
      exact hx n hn
    | _ => exact h _ _ _ hx hq
  | .cond c x y, Q, Q', φ, w, h, hs => by
    obtain ⟨b, hb, h1, h2⟩ := hs
    refine ⟨b, hb, fun e => semA_frame x _ _ φ w (fun e φ' w' hfr hq => h e φ' w' (fun n hn => hfr n fun hm => hn (by simp [dstsOf, hm])) hq) (h1 e),
      fun e => semA_frame y _ _ φ w (fun e φ' w' hfr hq => h e φ' w' (fun n hn => hfr n fun hm => hn (by simp [dstsOf, hm])) hq) (h2 e)⟩
  | .block id c, Q, Q', φ, w, h, hs => by
    simp only [semA] at hs ⊢
    refine semA_frame c _ _ φ w (fun e φ' w' hfr hq => ?_) hs
    cases e with
    | exit id' =>
      simp only [blockQ] at hq ⊢
      cases hb : Nat.beq id' id with
      | true => rw [hb] at hq; exact h _ _ _ hfr hq
      | false => rw [hb] at hq; exact h _ _ _ hfr hq
    | _ => exact h _ _ _ hfr hq
  | .loop c, Q, Q', φ, w, h, hs => by
    obtain ⟨J, μ, h0, hr⟩ := hs
    refine ⟨J, μ, h0, fun ψ w1 hJ hψ => semA_frame c _ _ ψ w1 (fun e φ' w' hfr hq => ?_) (hr ψ w1 hJ hψ)⟩
    cases e with
    | normal => exact hq
    | _ => exact h _ _ _ (fun n hn => by rw [hfr n hn, hψ n hn]) hq
  | .exit id, Q, Q', φ, w, h, hs => h _ _ _ (fun _ _ => rfl) hs
  | .ret, Q, Q', φ, w, h, hs => h _ _ _ (fun _ _ => rfl) hs
  | .label _, Q, Q', φ, w, h, hs => h _ _ _ (fun _ _ => rfl) hs
  | .goto _, _, _, _, _, _, hs => hs.elim
  | .scope _, _, _, _, _, _, hs => hs.elim
  | .rangeFunc _ _ _ _, _, _, _, _, _, hs => hs.elim
  | .refuse _, _, _, _, _, _, hs => hs.elim

theorem semA_mono {c : Code} {Q Q' : QF} {φ : Fr} {w : World} (h : ∀ e φ' w', Q e φ' w' → Q' e φ' w') (hs : semA P N c Q φ w) : semA P N c Q' φ w :=
  semA_frame c Q Q' φ w (fun e φ' w' _ hq => h e φ' w' hq) hs

theorem ops_of_sqP {ops : Array Oper} {K : Fr → World → Prop} {Q : Exit → Act → World → Prop} (hK : ∀ φ a w, Fits N φ a → K φ w → Q .normal a w) :
    ∀ (R : List Nat) (φ : Fr) (a : Act) (w : World), Fits N φ a → sqP P N ops R K φ w → wpOps P ops Q R a w
  | [], φ, a, w, hf, h => hK _ _ _ hf h
  | i :: R, φ, a, w, hf, h => by
    simp only [sqP] at h
    rw [wpOps_cons]
    unfold wpOp
    cases ho : ops[i]? with
    | none => rw [ho] at h; exact h.elim
    | some o =>
      rw [ho] at h
      simp only at h ⊢
      rw [wantS_eq hf]
      unfold Sq at h
      split at h
      · rename_i hw
        rw [if_pos hw]
        refine .inl ?_
        unfold Oper.wp
        rw [hf.eval]
        cases hk : kindOf P o with
        | eff =>
          rw [hk] at h
          cases h with
          | value v w' hr hk' => rw [hr]; exact ops_of_sqP hK R _ _ _ (hf.put _ _) hk'
          | skip w' hr hk' => rw [hr]; exact ops_of_sqP hK R _ _ _ (hf.put _ _) hk'
          | enter g args hr hk' =>
            rw [hr]
            refine hk'.mono fun e w' he => ?_
            obtain ⟨v, rfl, h3⟩ := he
            exact ops_of_sqP hK R _ _ _ (hf.put _ _) h3
        | pure => rw [hk] at h; obtain ⟨v, hy, h⟩ := h; unfold Yes at hy; rw [hy]; exact ops_of_sqP hK R _ _ _ (hf.put _ _) h
        | read => rw [hk] at h; obtain ⟨v, hy, h⟩ := h; unfold Yes at hy; rw [hy]; exact ops_of_sqP hK R _ _ _ (hf.put _ _) h
      · rename_i hw
        rw [if_neg hw]
        exact ops_of_sqP hK R _ _ _ (hf.put _ _) h

theorem wp_of_semA : ∀ (c : Code) (Q : QF) (Q' : Exit → Act → World → Prop) (φ : Fr) (a : Act) (w : World), Fits N φ a → (∀ e φ' a' w', Fits N φ' a' → Q e φ' w' → Q' e a' w') →
    semA P N c Q φ w → c.wp P Q' a w
  | .skip, Q, Q', φ, a, w, hf, hQ, h => wp_skip (hQ _ _ _ _ hf h)
  | .region id ops draw, Q, Q', φ, a, w, hf, hQ, h => by
    cases draw with
    | false => exact wp_region (ops_of_sqP (fun φ a w hf hk => hQ _ _ _ _ hf hk) _ φ a w hf h)
    | true =>
      obtain ⟨hm, h⟩ := h
      refine wp_region_any hm ?_
      rcases h with ⟨hg, h⟩ | ⟨hg, h⟩
      case inr =>
        simp only [goodF, Bool.and_eq_true, List.all_eq_true, List.mem_range, List.any_eq_true] at hg
        obtain ⟨⟨⟨⟨⟨g1, g2⟩, g3⟩, g4⟩, g5⟩, g6⟩ := hg
        have hsel : ∀ (j : Nat) (o : Oper), ops[j]? = some o → notSel o = true ∧ ∀ e ∈ o.after.toList, Region.binds .any e = true → e.on < j := by
          intro j o ho
          have := g1 j (Array.getElem?_eq_some_iff.1 ho).1
          rw [ho] at this
          simp only [Bool.and_eq_true, List.all_eq_true, Bool.or_eq_true, Bool.not_eq_true'] at this
          refine ⟨this.1, fun e he hb => ?_⟩
          rcases this.2 e he with h | h
          · rw [hb] at h; cases h
          · simpa [Nat.blt_eq] using h
        have hfo : ∀ i ∈ flo P ops, ∃ o x, ops[i]? = some o ∧ fobj P o = some x := by
          intro i hi
          have := g2 i hi
          split at this
          · rename_i x hx
            obtain ⟨o, ho, hx⟩ := Option.bind_eq_some_iff.1 hx
            exact ⟨o, x, ho, hx⟩
          · cases this
        refine any_of_dF (fun j o ho => (hsel j o ho).1) (fun j o ho => (hsel j o ho).2) hfo (K := Q .normal) (fun φ a w hf hk => hQ _ _ _ _ hf hk) _ (piF P ops) _ (fun _ => w.drew) _ φ a w.drew (Nat.eq_of_beq_eq_true g3) (by simp) (pairsB_spec g6) ?_ (by simp) ?_ ?_ hf ?_ h
        · intro i
          constructor
          · intro hi
            have hlt : i < ops.size := by have := g5 i hi; simpa [Nat.blt_eq] using this
            exact ⟨hlt, by simp [hlt]⟩
          · intro hi
            obtain ⟨x, hx, hb⟩ := g4 i hi.1
            rw [Nat.eq_of_beq_eq_true hb]; exact hx
        · intro i k _ hk
          have := (List.getElem?_eq_some_iff.1 (fidx_spec hk)).1
          simp [this]
        · intro k o ho hl
          have hk : k < ops.size := (Array.getElem?_eq_some_iff.1 ho).1
          simp [hk] at hl
        · intro i _ o _ _; exact Ext.refl _
      obtain ⟨S, h⟩ := h
      refine any_of_drP hg (S := S) (K := fun _ => Q .normal) (fun _ φ a w hf hk => hQ _ _ _ _ hf hk) _ (List.range ops.size) _ (fun _ => w.drew) φ a w.drew (by simp) (by simp) List.pairwise_lt_range ?_ ?_ hf ?_ h
      · intro i
        simp only [List.mem_range]
        constructor
        · intro hi; exact ⟨hi, by simp [hi]⟩
        · exact fun h => h.1
      · intro k o ho hl
        have hk : k < ops.size := (Array.getElem?_eq_some_iff.1 ho).1
        simp [hk] at hl
      · intro i _ o _ _; exact EX.refl _ _
  | .seq x y, Q, Q', φ, a, w, hf, hQ, h => by
    refine wp_seq (wp_of_semA x _ _ φ a w hf (fun e φ' a' w' hf' hq => ?_) h)
    cases e with
    | normal => exact wp_of_semA y Q Q' φ' a' w' hf' hQ hq
    | _ => exact hQ _ _ _ _ hf' hq
  | .cond c x y, Q, Q', φ, a, w, hf, hQ, h => by
    obtain ⟨b, hb, h1, h2⟩ := h
    refine wp_cond_split (t := b) (by rw [hf.eval]; exact hb) (fun e => wp_of_semA x Q Q' φ a w hf hQ (h1 e)) (fun e => wp_of_semA y Q Q' φ a w hf hQ (h2 e))
  | .block id c, Q, Q', φ, a, w, hf, hQ, h => by
    refine wp_block (wp_of_semA c _ _ φ a w hf (fun e φ' a' w' hf' hq => ?_) h)
    cases e with
    | exit id' =>
      simp only [blockQ] at hq
      simp only [Exit.inBlock]
      by_cases hid : id' = id
      · subst hid
        rw [if_pos rfl]
        have : Nat.beq id' id' = true := by simp
        rw [this] at hq
        exact hQ _ _ _ _ hf' hq
      · rw [if_neg hid]
        have : Nat.beq id' id = false := by
          cases hb : Nat.beq id' id with
          | false => rfl
          | true => exact absurd (Nat.eq_of_beq_eq_true hb) hid
        rw [this] at hq
        exact hQ _ _ _ _ hf' hq
    | _ => exact hQ _ _ _ _ hf' hq
  | .loop c, Q, Q', φ, a, w, hf, hQ, h => by
    obtain ⟨J, μ, h0, hr⟩ := h
    refine wp_loop (fun a w => ∃ ψ, Fits N ψ a ∧ J ψ w ∧ ∀ n, n ∉ dstsOf c → ψ n = φ n) (fun a w => μ (fun n => a.tmps.getD n undef) w) ⟨φ, hf, h0, fun _ _ => rfl⟩ ?_
    intro a1 w1 ⟨ψ, hf1, hJ, hψ⟩
    have eqf : ∀ {ψ : Fr} {a : Act}, Fits N ψ a → (fun n => a.tmps.getD n undef) = ψ := fun hf => funext hf.get
    have hb := hr ψ w1 hJ hψ
    have hb2 : semA P N c (fun e φ' w' => (∀ n, n ∉ dstsOf c → φ' n = ψ n) ∧ thenQ (fun φ' w' => J φ' w' ∧ μ φ' w' < μ ψ w1) Q e φ' w') ψ w1 :=
      semA_frame c _ _ ψ w1 (fun e φ' w' hfr hq => ⟨hfr, hq⟩) hb
    refine wp_of_semA c _ _ ψ a1 w1 hf1 (fun e φ' a' w' hf' hq => ?_) hb2
    obtain ⟨hfr, hq⟩ := hq
    cases e with
    | normal =>
      refine ⟨⟨φ', hf', hq.1, fun n hn => by rw [hfr n hn, hψ n hn]⟩, ?_⟩
      rw [eqf hf', eqf hf1]
      exact hq.2
    | _ => exact hQ _ _ _ _ hf' hq
  | .exit id, Q, Q', φ, a, w, hf, hQ, h => wp_exit (hQ _ _ _ _ hf h)
  | .ret, Q, Q', φ, a, w, hf, hQ, h => wp_ret (hQ _ _ _ _ hf h)
  | .label _, Q, Q', φ, a, w, hf, hQ, h => wp_label (hQ _ _ _ _ hf h)
  | .goto _, _, _, _, _, _, _, _, hs => hs.elim
  | .scope _, _, _, _, _, _, _, _, hs => hs.elim
  | .rangeFunc _ _ _ _, _, _, _, _, _, _, _, hs => hs.elim
  | .refuse _, _, _, _, _, _, _, _, hs => hs.elim

end
end Go.Proofs.YtfbmjimhjlmhkaaDoor.Sx
