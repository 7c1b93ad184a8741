/-
  The frame-free form of a Go function: a region's operations, in order, and in whatever order its edges let.
-/
import Derived.Test.YtfbmjimhjlmhkaaDoorSxOps3
namespace Go.Proofs.YtfbmjimhjlmhkaaDoor.Sx
open Go Go.RowKit
set_option linter.unusedVariables false
set_option linter.unusedSimpArgs false

/-- the world w' is w with more behind it -/
def Ext (w w' : World) : Prop := Below w.heap.size w w'
theorem Ext.refl (w : World) : Ext w w := Below.refl _ _
theorem Ext.trans {a b c : World} (h : Ext a b) (k : Ext b c) : Ext a c := Below.trans h (Below.mono k h.size)
theorem Ext.drew (w : World) : Ext w w.drew := (Below.refl _ _).drew

/-- as Ext, but that some blocks may turn -/
structure Chg (S : List Nat) (w w' : World) : Prop where
  os : w'.os = w.os
  tape : w'.tape = w.tape
  output : w'.output = w.output
  size : w.heap.size ≤ w'.heap.size
  block : ∀ k, k < w.heap.size → k ∉ S → w'.heap[k]? = w.heap[k]?

theorem Chg.refl (S : List Nat) (w : World) : Chg S w w := ⟨rfl, rfl, rfl, Nat.le_refl _, fun _ _ _ => rfl⟩
theorem Chg.trans {S : List Nat} {a b c : World} (h : Chg S a b) (k : Chg S b c) : Chg S a c :=
  ⟨k.os.trans h.os, k.tape.trans h.tape, k.output.trans h.output, Nat.le_trans h.size k.size, fun i hi hn => (k.block i (Nat.lt_of_lt_of_le hi h.size) hn).trans (h.block i hi hn)⟩
theorem Chg.mono {S T : List Nat} {a b : World} (h : Chg S a b) (hs : ∀ k ∈ S, k ∈ T) : Chg T a b :=
  ⟨h.os, h.tape, h.output, h.size, fun i hi hn => h.block i hi fun hm => hn (hs i hm)⟩
theorem Ext.toChg {S : List Nat} {a b : World} (h : Ext a b) : Chg S a b := ⟨h.os, h.tape, h.output, h.size, fun i hi _ => h.block i hi⟩
theorem Ext.chg {S : List Nat} {a b c : World} (h : Ext a b) (k : Chg S b c) (hS : ∀ x ∈ S, a.heap.size ≤ x) : Ext a c :=
  ⟨k.os.trans h.os, k.tape.trans h.tape, k.output.trans h.output, Nat.le_trans h.size k.size,
    fun i hi => (k.block i (Nat.lt_of_lt_of_le hi h.size) fun hm => by have := hS i hm; omega).trans (h.block i hi)⟩
/-- what a reading that floats bears: nothing that is there turns, or only these blocks -/
def EX (S : List Nat) (a b : World) : Prop := match S with
  | [] => Ext a b
  | s :: r => Chg (s :: r) a b
theorem EX.refl (S : List Nat) (w : World) : EX S w w := by cases S <;> first | exact Ext.refl w | exact Chg.refl _ w
theorem EX.trans {S : List Nat} {a b c : World} (h : EX S a b) (k : EX S b c) : EX S a c := by cases S <;> first | exact Ext.trans h k | exact Chg.trans h k
theorem EX.of_ext {S : List Nat} {a b : World} (h : Ext a b) : EX S a b := by cases S <;> first | exact h | exact Ext.toChg h

def wantS (ops : Array Oper) (φ : Fr) (o : Oper) : Bool :=
  match o.guard with
  | none => true
  | some (j, want) => match (ops[j]?).bind (·.dst) with
    | some t => match φ t with
      | .bool b => b == want
      | _ => false
    | none => false

theorem wantS_eq {N : Nat} {ops : Array Oper} {φ : Fr} {a : Act} (h : Fits N φ a) (o : Oper) : Region.wanted o (yielded ops a.tmps) = wantS ops φ o := by
  unfold Region.wanted wantS yielded
  cases hg : o.guard with
  | none => rfl
  | some gw =>
    obtain ⟨j, want⟩ := gw
    simp only
    cases ht : (ops[j]?).bind (·.dst) with
    | none => rfl
    | some t =>
      simp only [Option.bind_some]
      have hgt := h.get t
      rw [← hgt]
      by_cases hlt : t < a.tmps.size
      · rw [Array.getElem?_eq_getElem hlt]
        simp only [Array.getD, hlt, dif_pos]
        change _ = match a.tmps[t] with | .bool b => b == want | _ => false
        cases a.tmps[t] <;> rfl
      · rw [Array.getElem?_eq_none (Nat.le_of_not_lt hlt)]
        simp only [Array.getD, hlt, dif_neg, not_false_iff]
        rfl

def notSel (o : Oper) : Bool := match o.op with | .select .. => false | _ => true
theorem notSel_spec {o : Oper} (h : notSel o = true) (cs : Array SelectCase) (b : Bool) : o.op ≠ .select cs b := by
  intro e; simp [notSel, e] at h

theorem ev_put {N : Nat} {φ : Fr} {dst : Option Tmp} {v : Value} {x : Operand} (h : ∀ d, dst = some d → x ≠ .tmp d) : ev (φ.put N dst v) x = ev φ x := by
  cases dst with
  | none => rfl
  | some d =>
    cases x with
    | tmp t =>
      have hne : t ≠ d := fun e => h d rfl (e ▸ rfl)
      have hb : Nat.beq t d = false := by
        cases hb : Nat.beq t d with
        | false => rfl
        | true => exact absurd (Nat.eq_of_beq_eq_true hb) hne
      simp [ev, Fr.put, hb]
    | _ => rfl

theorem put_other {N : Nat} {φ : Fr} {dst : Option Tmp} {v : Value} {t : Tmp} (h : ∀ d, dst = some d → t ≠ d) : φ.put N dst v t = φ t := by
  have := ev_put (N := N) (φ := φ) (dst := dst) (v := v) (x := .tmp t) (fun d hd e => h d hd (by cases e; rfl))
  simpa [ev] using this

theorem put_comm {N : Nat} (φ : Fr) {x y : Option Tmp} (v u : Value) (h : ∀ d, x = some d → y ≠ some d) :
    (φ.put N x v).put N y u = (φ.put N y u).put N x v := by
  cases x with
  | none => rfl
  | some d =>
    cases y with
    | none => rfl
    | some e =>
      have hne : d ≠ e := fun he => h d rfl (he ▸ rfl)
      funext n
      simp only [Fr.put]
      cases h1 : Nat.beq n e <;> cases h2 : Nat.beq n d <;> simp
      exact absurd ((Nat.eq_of_beq_eq_true h2).symm.trans (Nat.eq_of_beq_eq_true h1)) hne

theorem exec_put {N : Nat} {ops : Array Oper} (o : Oper) (hs : notSel o = true) (φ : Fr) (dst : Option Tmp) (v : Value) (h : ∀ d, dst = some d → d ∉ o.looksAt ops) :
    execOp (ev (φ.put N dst v)) o = execOp (ev φ) o :=
  execOp_congr o (notSel_spec hs) fun x hx => ev_put fun d hd hxd => h d hd (by
    subst hxd
    exact List.mem_append_left _ (List.mem_filterMap.2 ⟨.tmp d, by simpa using hx, rfl⟩))

theorem want_put {N : Nat} {ops : Array Oper} (o : Oper) (φ : Fr) (dst : Option Tmp) (v : Value) (h : ∀ d, dst = some d → d ∉ o.looksAt ops) :
    wantS ops (φ.put N dst v) o = wantS ops φ o := by
  unfold wantS
  cases hg : o.guard with
  | none => rfl
  | some gw =>
    obtain ⟨j, want⟩ := gw
    simp only
    cases ht : (ops[j]?).bind (·.dst) with
    | none => rfl
    | some t =>
      simp only
      rw [put_other fun d hd e => h d hd (by subst e; simp [Oper.looksAt, hg, ht])]

theorem Yes.congr {P : Program} {φ φ' : Fr} {o : Oper} {v : Value} {w : World} (he : execOp (ev φ') o = execOp (ev φ) o) (h : Yes P φ o v w) : Yes P φ' o v w := by
  unfold Yes at *; rw [he]; exact h
theorem Goes.congr {P : Program} {φ φ' : Fr} {o : Oper} {w : World} {K : Value → World → Prop} (he : execOp (ev φ') o = execOp (ev φ) o) (h : Goes P φ o w K) : Goes P φ' o w K := by
  cases h with
  | value v w' h k => exact .value v w' (by rw [he]; exact h) k
  | skip w' h k => exact .skip w' (by rw [he]; exact h) k
  | enter g args h k => exact .enter g args (by rw [he]; exact h) k

/-! ## who is ahead of whom -/

def maskOf (acc : List Nat) (o : Oper) : Nat :=
  o.after.toList.foldl (fun s e => cond (Region.binds .any e) (s ||| 2 ^ e.on ||| acc.getD e.on 0) s) 0
def masks : List Oper → List Nat → List Nat
  | [], acc => acc
  | o :: r, acc => masks r (acc ++ [maskOf acc o])
def anc (ms : List Nat) (j i : Nat) : Bool := (ms.getD j 0).testBit i

theorem masks_len (l : List Oper) : ∀ acc, (masks l acc).length = acc.length + l.length := by
  induction l with
  | nil => intro acc; simp [masks]
  | cons o r ih => intro acc; simp only [masks, ih, List.length_append, List.length_cons, List.length_nil]; omega
theorem masks_old (l : List Oper) : ∀ (acc : List Nat) (i : Nat), i < acc.length → (masks l acc).getD i 0 = acc.getD i 0 := by
  induction l with
  | nil => intro acc i _; rfl
  | cons o r ih =>
    intro acc i h
    simp only [masks]
    rw [ih _ i (by simp; omega)]
    simp [List.getD, List.getElem?_append_left h]
theorem fold_mask (acc : List Nat) (i : Nat) : ∀ (l : List Edge) (s : Nat), (l.foldl (fun s e => cond (Region.binds .any e) (s ||| 2 ^ e.on ||| acc.getD e.on 0) s) s).testBit i = true →
    s.testBit i = true ∨ ∃ e ∈ l, Region.binds .any e = true ∧ (e.on = i ∨ (acc.getD e.on 0).testBit i = true)
  | [], s, h => .inl h
  | e :: l, s, h => by
    simp only [List.foldl_cons] at h
    rcases fold_mask acc i l _ h with h | ⟨e', he', h⟩
    · cases hb : Region.binds .any e with
      | false => rw [hb] at h; exact .inl h
      | true =>
        rw [hb] at h
        simp only [cond_true, Nat.testBit_or, Bool.or_eq_true] at h
        rcases h with (h | h) | h
        · exact .inl h
        · refine .inr ⟨e, by simp, hb, .inl ?_⟩
          rw [Nat.testBit_two_pow] at h
          simpa using h
        · exact .inr ⟨e, by simp, hb, .inr h⟩
    · exact .inr ⟨e', by simp [he'], h⟩
theorem masks_spec (l : List Oper) : ∀ (acc : List Nat) (j i : Nat) (o : Oper), l[j]? = some o → anc (masks l acc) (acc.length + j) i = true →
    ∃ e ∈ o.after.toList, Region.binds .any e = true ∧ (e.on = i ∨ (e.on < acc.length + j ∧ anc (masks l acc) e.on i = true)) := by
  induction l with
  | nil => intro acc j i o h; simp at h
  | cons x r ih =>
    intro acc j i o hj h
    cases j with
    | zero =>
      simp only [List.getElem?_cons_zero, Option.some.injEq] at hj
      subst hj
      simp only [anc, Nat.add_zero, masks] at h
      rw [masks_old r _ acc.length (by simp)] at h
      have : (acc ++ [maskOf acc x]).getD acc.length 0 = maskOf acc x := by simp [List.getD]
      rw [this] at h
      rcases fold_mask acc i _ _ h with h | ⟨e, he, hb, h⟩
      · simp at h
      · refine ⟨e, he, hb, ?_⟩
        rcases h with h | h
        · exact .inl h
        · have hlt : e.on < acc.length := by
            rcases Nat.lt_or_ge e.on acc.length with h' | h'
            · exact h'
            · simp [List.getD, List.getElem?_eq_none h'] at h
          refine .inr ⟨by omega, ?_⟩
          simp only [anc, masks]
          rw [masks_old r _ e.on (by simp; omega)]
          simpa [List.getD, List.getElem?_append_left hlt] using h
    | succ j =>
      simp only [List.getElem?_cons_succ] at hj
      have := ih (acc ++ [maskOf acc x]) j i o hj
      simp only [List.length_append, List.length_cons, List.length_nil, Nat.zero_add] at this
      simp only [masks] at h ⊢
      rw [show acc.length + (j + 1) = acc.length + 1 + j by omega] at h ⊢
      exact this h

def msOf (ops : Array Oper) : List Nat := masks ops.toList []

theorem anc_spec {ops : Array Oper} {j i : Nat} {o : Oper} (ho : ops[j]? = some o) (h : anc (msOf ops) j i = true) :
    ∃ e ∈ o.after.toList, Region.binds .any e = true ∧ (e.on = i ∨ (e.on < j ∧ anc (msOf ops) e.on i = true)) := by
  have := masks_spec ops.toList [] j i o (by simpa using ho)
  simp only [List.length_nil, Nat.zero_add] at this
  exact this h

theorem anc_some {ops : Array Oper} {j i : Nat} (h : anc (msOf ops) j i = true) : ∃ o, ops[j]? = some o := by
  have hlen := masks_len ops.toList []
  simp only [List.length_nil, Nat.zero_add, Array.length_toList] at hlen
  rcases Nat.lt_or_ge j ops.size with h' | h'
  · exact ⟨_, Array.getElem?_eq_getElem h'⟩
  · unfold anc msOf at h
    rw [List.getD, List.getElem?_eq_none (by omega)] at h
    simp at h

/-! ## one step -/

def needExt (P : Program) (ops : Array Oper) (ms : List Nat) (i : Nat) : Bool :=
  (List.range ops.size).any fun k => match ops[k]? with
    | some o => (match kindOf P o with | .read => true | _ => false) && !(Nat.beq k i) && !(anc ms k i) && !(anc ms i k)
    | none => false

/-- a store among readings that float -/
def needS (P : Program) (ops : Array Oper) : Bool :=
  (List.range ops.size).any fun i => (match ops[i]? with | some o => (match o.op with | .store .. => true | _ => false) | none => false) && needExt P ops (msOf ops) i

def upd (ms : List Nat) (wds : Nat → World) (i : Nat) (w' : World) : Nat → World := fun j => cond (anc ms j i) w' (wds j)

def Cls (P : Program) (S : List Nat) (o : Oper) (W : World) (w' : World) : Prop :=
  match kindOf P o with
  | .pure => True
  | .read => EX S W w'
  | .eff => False

section
variable (P : Program) (N : Nat) (ops : Array Oper) (S : List Nat)

def St (i : Nat) (o : Oper) (wds : Nat → World) (φ : Fr) (w : World) (G : (Nat → World) → Fr → World → Prop) : Prop :=
  if wantS ops φ o then
    match kindOf P o with
    | .eff => Goes P φ o w fun v w' => (needExt P ops (msOf ops) i = true → EX S w w') ∧ G (upd (msOf ops) wds i w') (φ.put N o.dst v) w'
    | _ => ∃ v, (∀ w', Cls P S o (wds i) w' → Yes P φ o v w') ∧ G wds (φ.put N o.dst v) w
  else G wds (φ.put N o.dst undef) w

def drP : List Nat → ((Nat → World) → Fr → World → Prop) → (Nat → World) → Fr → World → Prop
  | [], K => K
  | i :: R, K => fun wds φ w => match ops[i]? with
    | none => False
    | some o => St P N ops S i o wds φ w (drP R K)
end

section
variable {P : Program} {N : Nat} {ops : Array Oper} {S : List Nat}

/-- how a step moves the world -/
def Nx (P : Program) (ops : Array Oper) (S : List Nat) (i : Nat) (o : Oper) (wds : Nat → World) (w : World) (wds' : Nat → World) (w' : World) : Prop :=
  (wds' = wds ∧ w' = w) ∨ (kindOf P o = .eff ∧ (needExt P ops (msOf ops) i = true → EX S w w') ∧ wds' = upd (msOf ops) wds i w')

theorem St.mono {i : Nat} {o : Oper} {wds : Nat → World} {φ : Fr} {w : World} {G G' : (Nat → World) → Fr → World → Prop}
    (hG : ∀ wds' φ' w', Nx P ops S i o wds w wds' w' → G wds' φ' w' → G' wds' φ' w') (h : St P N ops S i o wds φ w G) : St P N ops S i o wds φ w G' := by
  unfold St at *
  split
  · rename_i hw
    rw [if_pos hw] at h
    cases hk : kindOf P o with
    | eff => rw [hk] at h; exact h.mono fun v w' ⟨h1, h2⟩ => ⟨h1, hG _ _ _ (.inr ⟨hk, h1, rfl⟩) h2⟩
    | pure => rw [hk] at h; obtain ⟨v, h1, h2⟩ := h; exact ⟨v, h1, hG _ _ _ (.inl ⟨rfl, rfl⟩) h2⟩
    | read => rw [hk] at h; obtain ⟨v, h1, h2⟩ := h; exact ⟨v, h1, hG _ _ _ (.inl ⟨rfl, rfl⟩) h2⟩
  · rename_i hw
    rw [if_neg hw] at h
    exact hG _ _ _ (.inl ⟨rfl, rfl⟩) h

/-- a step in the form: skipped, quiet, or one that changes the world -/
theorem St.cases {i : Nat} {o : Oper} {wds : Nat → World} {φ : Fr} {w : World} {G : (Nat → World) → Fr → World → Prop} (h : St P N ops S i o wds φ w G) :
    (∃ v, ((wantS ops φ o = true ∧ kindOf P o ≠ .eff ∧ ∀ w', Cls P S o (wds i) w' → Yes P φ o v w') ∨ (wantS ops φ o = false ∧ v = undef)) ∧ G wds (φ.put N o.dst v) w) ∨
    (wantS ops φ o = true ∧ kindOf P o = .eff ∧ Goes P φ o w fun v w' => (needExt P ops (msOf ops) i = true → EX S w w') ∧ G (upd (msOf ops) wds i w') (φ.put N o.dst v) w') := by
  unfold St at h
  split at h
  · rename_i hw
    cases hk : kindOf P o with
    | eff => rw [hk] at h; exact .inr ⟨hw, rfl, h⟩
    | pure => rw [hk] at h; obtain ⟨v, h1, h2⟩ := h; exact .inl ⟨v, .inl ⟨hw, by simp, h1⟩, h2⟩
    | read => rw [hk] at h; obtain ⟨v, h1, h2⟩ := h; exact .inl ⟨v, .inl ⟨hw, by simp, h1⟩, h2⟩
  · rename_i hw
    exact .inl ⟨undef, .inr ⟨by simpa using hw, rfl⟩, h⟩

theorem St.quiet {i : Nat} {o : Oper} {wds : Nat → World} {φ : Fr} {w : World} {G : (Nat → World) → Fr → World → Prop} {v : Value}
    (h : (wantS ops φ o = true ∧ kindOf P o ≠ .eff ∧ ∀ w', Cls P S o (wds i) w' → Yes P φ o v w') ∨ (wantS ops φ o = false ∧ v = undef)) (hG : G wds (φ.put N o.dst v) w) : St P N ops S i o wds φ w G := by
  unfold St
  rcases h with ⟨hw, hk, h⟩ | ⟨hw, rfl⟩
  · rw [if_pos hw]
    cases hk' : kindOf P o with
    | eff => exact absurd hk' hk
    | pure => exact ⟨v, h, hG⟩
    | read => exact ⟨v, h, hG⟩
  · rw [if_neg (by simp [hw])]; exact hG

theorem St.loud {i : Nat} {o : Oper} {wds : Nat → World} {φ : Fr} {w : World} {G : (Nat → World) → Fr → World → Prop} (hw : wantS ops φ o = true) (hk : kindOf P o = .eff)
    (h : Goes P φ o w fun v w' => (needExt P ops (msOf ops) i = true → EX S w w') ∧ G (upd (msOf ops) wds i w') (φ.put N o.dst v) w') : St P N ops S i o wds φ w G := by
  unfold St
  rw [if_pos hw, hk]
  exact h

/-- two operations of which neither is ahead of the other -/
structure Indep (P : Program) (ops : Array Oper) (r j : Nat) (or oj : Oper) : Prop where
  apart : or.apart ops oj = true
  one : ¬ (kindOf P or = .eff ∧ kindOf P oj = .eff)
  n1 : anc (msOf ops) j r = false
  n2 : anc (msOf ops) r j = false
  s1 : notSel or = true
  s2 : notSel oj = true

theorem St.swap {r j : Nat} {or oj : Oper} {wds : Nat → World} {φ : Fr} {w : World} {G : (Nat → World) → Fr → World → Prop} (hi : Indep P ops r j or oj)
    (hC : kindOf P oj = .read → EX S (wds j) w)
    (h : St P N ops S r or wds φ w fun wds1 φ1 w1 => St P N ops S j oj wds1 φ1 w1 G) :
    St P N ops S j oj wds φ w fun wds2 φ2 w2 => St P N ops S r or wds2 φ2 w2 G := by
  obtain ⟨hap, hone, hn1, hn2, hs1, hs2⟩ := hi
  obtain ⟨a1, a2, a3⟩ := Oper.apart_spec hap
  have updj : ∀ w', upd (msOf ops) wds r w' j = wds j := fun w' => by simp [upd, hn1]
  have updr : ∀ w', upd (msOf ops) wds j w' r = wds r := fun w' => by simp [upd, hn2]
  rcases h.cases with ⟨vr, hr, h1⟩ | ⟨hwr, hkr, h1⟩
  · -- r is quiet
    rcases h1.cases with ⟨vj, hj, h2⟩ | ⟨hwj, hkj, h2⟩
    · -- so is j
      refine St.quiet (v := vj) ?_ ?_
      · rcases hj with ⟨hw, hk, hy⟩ | ⟨hw, rfl⟩
        · refine .inl ⟨by rw [← want_put oj φ or.dst vr a1]; exact hw, hk, fun w' hc => (hy w' hc).congr (exec_put oj hs2 φ or.dst vr a1).symm⟩
        · exact .inr ⟨by rw [← want_put oj φ or.dst vr a1]; exact hw, rfl⟩
      · refine St.quiet (v := vr) ?_ (by rw [← put_comm φ vr vj a2]; exact h2)
        rcases hr with ⟨hw, hk, hy⟩ | ⟨hw, rfl⟩
        · exact .inl ⟨by rw [want_put or φ oj.dst vj a3]; exact hw, hk, fun w' hc => (hy w' hc).congr (exec_put or hs1 φ oj.dst vj a3)⟩
        · exact .inr ⟨by rw [want_put or φ oj.dst vj a3]; exact hw, rfl⟩
    · refine St.loud (by rw [← want_put oj φ or.dst vr a1]; exact hwj) hkj ?_
      refine (h2.congr (exec_put oj hs2 φ or.dst vr a1).symm).mono fun vj w' ⟨he, hg⟩ => ⟨he, ?_⟩
      refine St.quiet (v := vr) ?_ (by rw [← put_comm φ vr vj a2]; exact hg)
      rcases hr with ⟨hw, hk, hy⟩ | ⟨hw, rfl⟩
      · exact .inl ⟨by rw [want_put or φ oj.dst vj a3]; exact hw, hk, fun w'' hc => (hy w'' (by rw [updr] at hc; exact hc)).congr (exec_put or hs1 φ oj.dst vj a3)⟩
      · exact .inr ⟨by rw [want_put or φ oj.dst vj a3]; exact hw, rfl⟩
  · -- r changes the world: j is quiet
    have quiet : ∀ v w1, St P N ops S j oj (upd (msOf ops) wds r w1) (φ.put N or.dst v) w1 G →
        ∃ vj, ((wantS ops φ oj = true ∧ kindOf P oj ≠ .eff ∧ ∀ w', Cls P S oj (wds j) w' → Yes P φ oj vj w') ∨ (wantS ops φ oj = false ∧ vj = undef)) ∧
          G (upd (msOf ops) wds r w1) ((φ.put N or.dst v).put N oj.dst vj) w1 := by
      intro v w1 hst
      rcases hst.cases with ⟨vj, hj, h2⟩ | ⟨_, hkj, _⟩
      · refine ⟨vj, ?_, h2⟩
        rcases hj with ⟨hw, hk, hy⟩ | ⟨hw, rfl⟩
        · exact .inl ⟨by rw [← want_put oj φ or.dst v a1]; exact hw, hk, fun w' hc => (hy w' (by rw [updj]; exact hc)).congr (exec_put oj hs2 φ or.dst v a1).symm⟩
        · exact .inr ⟨by rw [← want_put oj φ or.dst v a1]; exact hw, rfl⟩
      · exact absurd ⟨hkr, hkj⟩ hone
    obtain ⟨v0, w0, _, hst0⟩ := h1.some
    obtain ⟨vj, hj, _⟩ := quiet v0 w0 hst0
    refine St.quiet (v := vj) hj ?_
    refine St.loud (by rw [want_put or φ oj.dst vj a3]; exact hwr) hkr ?_
    refine (h1.congr (exec_put or hs1 φ oj.dst vj a3)).mono fun v w1 ⟨he, hst⟩ => ⟨he, ?_⟩
    obtain ⟨vj', hj', hg⟩ := quiet v w1 hst
    have : vj' = vj := by
      rcases hj with ⟨hw, hk, hy⟩ | ⟨hw, rfl⟩ <;> rcases hj' with ⟨hw', hk', hy'⟩ | ⟨hw', rfl⟩
      · have hc : Cls P S oj (wds j) w := by
          unfold Cls
          cases hk3 : kindOf P oj with
          | eff => exact absurd hk3 hk
          | pure => trivial
          | read => exact hC hk3
        have e1 := hy w hc
        have e2 := hy' w hc
        unfold Yes at e1 e2
        rw [e1] at e2
        simp only [Result.ok.injEq, Next.value.injEq] at e2
        exact e2.1.symm
      · rw [hw] at hw'; cases hw'
      · rw [hw] at hw'; cases hw'
      · rfl
    subst this
    rw [← put_comm φ v vj' a2]
    exact hg

/-! ## any order -/

def okPair (P : Program) (ops : Array Oper) (r j : Nat) : Bool :=
  match ops[r]?, ops[j]? with
  | some or, some oj => anc (msOf ops) j r || (or.apart ops oj && !((match kindOf P or with | .eff => true | _ => false) && (match kindOf P oj with | .eff => true | _ => false)))
  | _, _ => true

def good (P : Program) (ops : Array Oper) : Bool :=
  ((List.range ops.size).all fun j => match ops[j]? with
    | some o => notSel o && (o.after.toList.all fun e => !(Region.binds .any e) || Nat.blt e.on j)
    | none => true) &&
  ((List.range ops.size).all fun j => (List.range j).all fun r => okPair P ops r j)

theorem good_edge (hg : good P ops = true) {j : Nat} {o : Oper} (ho : ops[j]? = some o) : notSel o = true ∧ ∀ e ∈ o.after.toList, Region.binds .any e = true → e.on < j := by
  simp only [good, Bool.and_eq_true, List.all_eq_true, List.mem_range] at hg
  have hj : j < ops.size := (Array.getElem?_eq_some_iff.1 ho).1
  have h := hg.1 j hj
  rw [ho] at h
  simp only [Bool.and_eq_true, List.all_eq_true, Bool.or_eq_true, Bool.not_eq_true'] at h
  refine ⟨h.1, fun e he hb => ?_⟩
  rcases h.2 e he with h | h
  · rw [hb] at h; cases h
  · simpa [Nat.blt_eq] using h

theorem good_pair (hg : good P ops = true) {r j : Nat} (hrj : r < j) {or oj : Oper} (hr : ops[r]? = some or) (ho : ops[j]? = some oj) (hn : anc (msOf ops) j r = false) :
    or.apart ops oj = true ∧ ¬ (kindOf P or = .eff ∧ kindOf P oj = .eff) := by
  simp only [good, Bool.and_eq_true, List.all_eq_true, List.mem_range] at hg
  have hj : j < ops.size := (Array.getElem?_eq_some_iff.1 ho).1
  have h := hg.2 j hj r hrj
  simp only [okPair, hr, ho, hn, Bool.false_or, Bool.and_eq_true, Bool.not_eq_true'] at h
  refine ⟨h.1, fun ⟨h1, h2⟩ => ?_⟩
  rw [h1, h2] at h
  simp at h

theorem anc_lt (hg : good P ops = true) : ∀ (n j i : Nat), j ≤ n → anc (msOf ops) j i = true → i < j := by
  intro n
  induction n with
  | zero =>
    intro j i hj h
    obtain ⟨o, ho⟩ := anc_some h
    obtain ⟨e, he, hb, hx⟩ := anc_spec ho h
    have := (good_edge hg ho).2 e he hb
    omega
  | succ n ih =>
    intro j i hj h
    obtain ⟨o, ho⟩ := anc_some h
    obtain ⟨e, he, hb, hx⟩ := anc_spec ho h
    have h1 := (good_edge hg ho).2 e he hb
    rcases hx with hx | ⟨h2, h3⟩
    · omega
    · have := ih e.on i (by omega) h3
      omega

theorem anc_listed (listed : Array Bool) (hcl : ∀ (k : Nat) (o : Oper), ops[k]? = some o → listed.getD k false = true → ∀ e ∈ o.after.toList, Region.binds .any e = true → listed.getD e.on false = true) :
    ∀ (n j i : Nat), j ≤ n → listed.getD j false = true → anc (msOf ops) j i = true → listed.getD i false = true := by
  intro n
  induction n with
  | zero =>
    intro j i hj hl h
    obtain ⟨o, ho⟩ := anc_some h
    obtain ⟨e, he, hb, hx⟩ := anc_spec ho h
    rcases hx with hx | ⟨h2, h3⟩
    · exact hx ▸ hcl j o ho hl e he hb
    · omega
  | succ n ih =>
    intro j i hj hl h
    obtain ⟨o, ho⟩ := anc_some h
    obtain ⟨e, he, hb, hx⟩ := anc_spec ho h
    have h1 := hcl j o ho hl e he hb
    rcases hx with hx | ⟨h2, h3⟩
    · exact hx ▸ h1
    · exact ih e.on i (by omega) h1 h3

/-- every read that is still to come may be taken in the world as it is -/
def Reads (P : Program) (ops : Array Oper) (S : List Nat) (R : List Nat) (wds : Nat → World) (w : World) : Prop :=
  ∀ i ∈ R, ∀ o, ops[i]? = some o → kindOf P o = .read → EX S (wds i) w

theorem Reads.next {r : Nat} {or : Oper} {R : List Nat} {wds wds' : Nat → World} {w w' : World} (h : Reads P ops S R wds w)
    (hn : Nx P ops S r or wds w wds' w') (hlt : ∀ i ∈ R, i ≠ r ∧ anc (msOf ops) r i = false) : Reads P ops S R wds' w' := by
  rcases hn with ⟨rfl, rfl⟩ | ⟨hk, he, rfl⟩
  · exact h
  · intro i hi o ho hr
    simp only [upd]
    cases ha : anc (msOf ops) i r with
    | true => exact EX.refl _ _
    | false =>
      refine (h i hi o ho hr).trans (he ?_)
      have hsz : i < ops.size := (Array.getElem?_eq_some_iff.1 ho).1
      simp only [needExt, List.any_eq_true, List.mem_range]
      refine ⟨i, hsz, ?_⟩
      rw [ho]
      simp only [hr, ha, (hlt i hi).2, Bool.and_eq_true, Bool.not_eq_true', Bool.not_false, and_true]
      cases hb : Nat.beq i r with
      | false => exact ⟨trivial, rfl⟩
      | true => exact absurd (Nat.eq_of_beq_eq_true hb) (hlt i hi).1

theorem drP_cons {i : Nat} {o : Oper} {R : List Nat} {K : (Nat → World) → Fr → World → Prop} {wds : Nat → World} {φ : Fr} {w : World} (ho : ops[i]? = some o) :
    drP P N ops S (i :: R) K wds φ w = St P N ops S i o wds φ w (drP P N ops S R K) := by
  simp only [drP, ho]

/-- an operation that is ready may be taken first -/
theorem peel (hg : good P ops = true) {j : Nat} {oj : Oper} (hj : ops[j]? = some oj) {R2 : List Nat} {K : (Nat → World) → Fr → World → Prop} :
    ∀ (R1 : List Nat) (wds : Nat → World) (φ : Fr) (w : World), (R1 ++ j :: R2).Pairwise (· < ·) → (∀ r ∈ R1, anc (msOf ops) j r = false) → Reads P ops S (R1 ++ j :: R2) wds w →
      drP P N ops S (R1 ++ j :: R2) K wds φ w → St P N ops S j oj wds φ w (drP P N ops S (R1 ++ R2) K) := by
  intro R1
  induction R1 with
  | nil => intro wds φ w _ _ _ h; rw [List.nil_append, drP_cons hj] at h; exact h
  | cons r R1 ih =>
    intro wds φ w hs hn hr h
    rw [List.cons_append] at h hs hr
    have hs2 := List.pairwise_cons.1 hs
    cases hor : ops[r]? with
    | none => simp only [drP, hor] at h
    | some or =>
      rw [drP_cons hor] at h
      have hlt : ∀ i ∈ R1 ++ j :: R2, i ≠ r ∧ anc (msOf ops) r i = false := by
        intro i hi
        have h1 := hs2.1 i hi
        refine ⟨by omega, ?_⟩
        cases ha : anc (msOf ops) r i with
        | false => rfl
        | true => have := anc_lt hg _ _ _ (Nat.le_refl _) ha; omega
      have hr' : Reads P ops S (R1 ++ j :: R2) wds w := fun i hi => hr i (by simp only [List.mem_cons]; exact .inr hi)
      have h2 : St P N ops S r or wds φ w fun wds1 φ1 w1 => St P N ops S j oj wds1 φ1 w1 (drP P N ops S (R1 ++ R2) K) := by
        refine St.mono (fun wds1 φ1 w1 hnx hd => ?_) h
        exact ih wds1 φ1 w1 hs2.2 (fun x hx => hn x (by simp [hx])) (hr'.next hnx hlt) hd
      have hrj : r < j := hs2.1 j (by simp)
      have hp := good_pair hg hrj hor hj (hn r (by simp))
      have hsw := St.swap (G := drP P N ops S (R1 ++ R2) K) ⟨hp.1, hp.2, hn r (by simp), (hlt j (by simp)).2, (good_edge hg hor).1, (good_edge hg hj).1⟩ (fun hk => hr j (by simp) oj hj hk) h2
      refine St.mono (fun wds1 φ1 w1 _ hd => ?_) hsw
      rw [List.cons_append, drP_cons hor]
      exact hd

/-- what a step gives is what the walk of that operation asks -/
theorem St.wpOp {j : Nat} {o : Oper} (ho : ops[j]? = some o) {wds : Nat → World} {φ : Fr} {a : Act} {w : World} {G : (Nat → World) → Fr → World → Prop} {K : Act → World → Prop} {Q : Exit → Act → World → Prop}
    (hf : Fits N φ a) (hC : kindOf P o = .read → EX S (wds j) w)
    (hG : ∀ wds' φ' a' w', Nx P ops S j o wds w wds' w' → Fits N φ' a' → G wds' φ' w' → K a' w') (h : St P N ops S j o wds φ w G) : Go.wpOp P ops Q j K a w := by
  unfold Go.wpOp
  simp only [ho]
  rw [wantS_eq hf]
  rcases h.cases with ⟨v, hq, h1⟩ | ⟨hw, hk, h1⟩
  · rcases hq with ⟨hw, hk, hy⟩ | ⟨hw, rfl⟩
    · rw [if_pos hw]
      refine .inl ?_
      have hc : Cls P S o (wds j) w := by
        unfold Cls
        cases hk3 : kindOf P o with
        | eff => exact absurd hk3 hk
        | pure => trivial
        | read => exact hC hk3
      have hy' := hy w hc
      unfold Yes at hy'
      unfold Oper.wp
      rw [hf.eval, hy']
      exact hG _ _ _ _ (.inl ⟨rfl, rfl⟩) (hf.put _ _) h1
    · rw [if_neg (by simp [hw])]
      exact hG _ _ _ _ (.inl ⟨rfl, rfl⟩) (hf.put _ _) h1
  · rw [if_pos hw]
    refine .inl ?_
    unfold Oper.wp
    rw [hf.eval]
    cases h1 with
    | value v w' hr hk' => rw [hr]; exact hG _ _ _ _ (.inr ⟨hk, hk'.1, rfl⟩) (hf.put _ _) hk'.2
    | skip w' hr hk' => rw [hr]; exact hG _ _ _ _ (.inr ⟨hk, hk'.1, rfl⟩) (hf.put _ _) hk'.2
    | enter g args hr hk' =>
      rw [hr]
      refine hk'.mono fun e w' he => ?_
      obtain ⟨v, rfl, h2, h3⟩ := he
      exact hG _ _ _ _ (.inr ⟨hk, h2, rfl⟩) (hf.put _ _) h3

theorem split_at {j : Nat} : ∀ {R : List Nat}, j ∈ R → ∃ R1 R2, R = R1 ++ j :: R2
  | x :: R, h => by
    by_cases e : x = j
    · exact ⟨[], R, by simp [e]⟩
    · have : j ∈ R := by simpa [Ne.symm e] using h
      obtain ⟨R1, R2, h'⟩ := split_at this
      exact ⟨x :: R1, R2, by simp [h']⟩

theorem getD_set {listed : Array Bool} {i j : Nat} (hi : i < listed.size) (d : Bool) : (listed.setIfInBounds i true).getD j d = if i = j then true else listed.getD j d := by
  by_cases h : i = j
  · subst h; simp [hi]
  · rw [getD_set_ne d h, if_neg h]

theorem any_of_drP (hg : good P ops = true) {K : (Nat → World) → Fr → World → Prop} {Q : Exit → Act → World → Prop}
    (hK : ∀ wds φ a w, Fits N φ a → K wds φ w → Q .normal a w) :
    ∀ (fuel : Nat) (R : List Nat) (listed : Array Bool) (wds : Nat → World) (φ : Fr) (a : Act) (w : World), R.length = fuel → listed.size = ops.size → R.Pairwise (· < ·) →
      (∀ i, i ∈ R ↔ i < ops.size ∧ listed.getD i true = false) →
      (∀ (k : Nat) (o : Oper), ops[k]? = some o → listed.getD k false = true → ∀ e ∈ o.after.toList, Region.binds .any e = true → listed.getD e.on false = true) →
      Fits N φ a → Reads P ops S R wds w → drP P N ops S R K wds φ w → wpAny P .any ops Q fuel listed a w := by
  intro fuel
  induction fuel with
  | zero =>
    intro R listed wds φ a w hlen hsz hs hR hcl hf hrd h
    have : R = [] := List.length_eq_zero_iff.1 hlen
    subst this
    refine ⟨?_, hK _ _ _ _ hf h⟩
    apply List.eq_nil_iff_forall_not_mem.2
    intro i hi
    rw [mem_ready] at hi
    obtain ⟨h0, o, ho, _⟩ := hi
    have := (hR i).2 ⟨(Array.getElem?_eq_some_iff.1 ho).1, h0⟩
    cases this
  | succ fuel ih =>
    intro R listed wds φ a w hlen hsz hs hR hcl hf hrd h
    refine ⟨fun hnil => ?_, fun j hj => ?_⟩
    · cases R with
      | nil => simp at hlen
      | cons r R =>
        have hr := (hR r).1 (by simp)
        exfalso
        have : r ∈ Region.ready .any ops listed := by
          rw [mem_ready]
          refine ⟨hr.2, _, Array.getElem?_eq_getElem hr.1, fun e he hb => ?_⟩
          have hlt := (good_edge hg (Array.getElem?_eq_getElem hr.1)).2 e (by simpa using he) hb
          cases hl : listed.getD e.on false with
          | true => rfl
          | false =>
            have hlt2 : e.on < listed.size := by omega
            have hl2 : listed.getD e.on true = false := by
              simp only [Array.getD, hlt2, dif_pos] at hl ⊢
              exact hl
            have hm := (hR e.on).2 ⟨by omega, hl2⟩
            have hs1 := List.pairwise_cons.1 hs
            rcases List.mem_cons.1 hm with hm | hm
            · omega
            · have := hs1.1 _ hm; omega
        rw [hnil] at this
        cases this
    · obtain ⟨h0, o, ho, hall⟩ := mem_ready.1 hj
      have hjsz : j < ops.size := (Array.getElem?_eq_some_iff.1 ho).1
      have hjR := (hR j).2 ⟨hjsz, h0⟩
      obtain ⟨R1, R2, rfl⟩ := split_at hjR
      have hn : ∀ r ∈ R1, anc (msOf ops) j r = false := by
        intro r hr
        cases ha : anc (msOf ops) j r with
        | false => rfl
        | true =>
          exfalso
          have hrl := (hR r).1 (by simp [hr])
          obtain ⟨e, he, hb, hx⟩ := anc_spec ho ha
          have hel := hall e (by simpa using he) hb
          have hrl2 : listed.getD r false = false := by
            have : r < listed.size := by omega
            have h3 := hrl.2
            simp only [Array.getD, this, dif_pos] at h3 ⊢
            exact h3
          rcases hx with hx | ⟨_, hx⟩
          · rw [hx] at hel; rw [hel] at hrl2; cases hrl2
          · have := anc_listed listed hcl _ _ _ (Nat.le_refl _) hel hx
            rw [this] at hrl2; cases hrl2
      have hst := peel hg ho R1 wds φ w hs hn hrd h
      refine St.wpOp ho hf (fun hk => hrd j (by simp) o ho hk) (fun wds' φ' a' w' hnx hf' hd => ?_) hst
      have hsub : (R1 ++ R2).Sublist (R1 ++ j :: R2) := List.Sublist.append_left (List.sublist_cons_self j R2) R1
      have hnj : j ∉ R1 ++ R2 := by
        have h1 := List.pairwise_append.1 hs
        have h2 := List.pairwise_cons.1 h1.2.1
        intro hm
        rcases List.mem_append.1 hm with hm | hm
        · have := h1.2.2 j hm j (by simp); omega
        · have := h2.1 j hm; omega
      refine ih (R1 ++ R2) _ wds' φ' a' w' (by simp at hlen ⊢; omega) (by simp [hsz]) (hs.sublist hsub) ?_ ?_ hf' ?_ hd
      · intro i
        rw [getD_set (by omega)]
        by_cases hij : j = i
        · subst hij; simp [hnj]
        · rw [if_neg hij, ← hR i]
          constructor
          · exact fun hm => hsub.subset hm
          · intro hm
            rcases List.mem_append.1 hm with hm | hm
            · exact List.mem_append_left _ hm
            · rcases List.mem_cons.1 hm with hm | hm
              · exact absurd hm.symm hij
              · exact List.mem_append_right _ hm
      · intro k o' ho' hl e he hb
        rw [getD_set (by omega)] at hl ⊢
        by_cases hje : j = e.on
        · rw [if_pos hje]
        · rw [if_neg hje]
          by_cases hjk : j = k
          · subst hjk
            rw [ho] at ho'
            cases ho'
            exact hall e (by simpa using he) hb
          · rw [if_neg hjk] at hl
            exact hcl k o' ho' hl e he hb
      · refine Reads.next (fun i hi => hrd i (hsub.subset hi)) hnx fun i hi => ⟨fun e => hnj (e ▸ hi), ?_⟩
        cases ha : anc (msOf ops) j i with
        | false => rfl
        | true =>
          exfalso
          obtain ⟨e, he, hb, hx⟩ := anc_spec ho ha
          have hel := hall e (by simpa using he) hb
          have hil := (hR i).1 (hsub.subset hi)
          have hil2 : listed.getD i false = false := by
            have : i < listed.size := by omega
            have h3 := hil.2
            simp only [Array.getD, this, dif_pos] at h3 ⊢
            exact h3
          rcases hx with hx | ⟨_, hx⟩
          · rw [hx] at hel; rw [hel] at hil2; cases hil2
          · have := anc_listed listed hcl _ _ _ (Nat.le_refl _) hel hx
            rw [this] at hil2; cases hil2

end
end Go.Proofs.YtfbmjimhjlmhkaaDoor.Sx
