/-
  The frame-free form of a Go function: values, shapes, and what one operation asks. No program stands here.
-/
import Derived.Orders
import Derived.Below
import Derived.Laws.Cells
import Derived.WalkKit
namespace Go.Proofs.YtfbmjimhjlmhkaaDoor.Sx
open Go Go.RowKit
set_option linter.unusedVariables false

abbrev Fr := Nat → Value

def Fr.put (N : Nat) (φ : Fr) : Option Tmp → Value → Fr
  | none, _ => φ
  | some d, v => fun n => cond (Nat.beq n d && Nat.blt d N) v (φ n)

def ev (φ : Fr) : Operand → Value
  | .tmp t => φ t
  | .const v => v
  | .global g => .pointer (some ⟨g, 0, none⟩)
  | .func f => .func (.func f) #[] #[]

structure Fits (N : Nat) (φ : Fr) (a : Act) : Prop where
  size : a.tmps.size = N
  get : ∀ n, a.tmps.getD n undef = φ n
  defers : a.defers = []

theorem Fits.eval {N : Nat} {φ : Fr} {a : Act} (h : Fits N φ a) : a.eval = ev φ := by
  funext x
  cases x <;> simp only [Act.eval, ev, h.get]

theorem Fits.put {N : Nat} {φ : Fr} {a : Act} (h : Fits N φ a) (d : Option Tmp) (v : Value) : Fits N (φ.put N d v) (a.put d v) := by
  obtain ⟨hs, hg, hd⟩ := h
  cases d with
  | none => exact ⟨hs, hg, hd⟩
  | some d =>
    refine ⟨by simp [Act.put, hs], fun n => ?_, hd⟩
    have hgn := hg n
    simp only [Act.put, Fr.put]
    by_cases hn : n = d
    · subst hn
      by_cases hlt : n < N
      · have h1 : Nat.beq n n = true := by simp
        have h2 : Nat.blt n N = true := by simpa [Nat.blt_eq] using hlt
        rw [h1, h2]
        have : n < a.tmps.size := by omega
        simp [Array.getD, this]
      · have h2 : Nat.blt n N = false := by
          cases hb : Nat.blt n N with
          | false => rfl
          | true => exact absurd (by simpa [Nat.blt_eq] using hb) hlt
        rw [h2]
        have : ¬ n < a.tmps.size := by omega
        simp only [Bool.and_false, cond_false]
        rw [← hgn]
        simp [Array.getD, this]
    · have h1 : Nat.beq n d = false := by
        cases hb : Nat.beq n d with
        | false => rfl
        | true => exact absurd (Nat.eq_of_beq_eq_true hb) hn
      rw [h1]
      simp only [Bool.false_and, cond_false]
      rw [← hgn]
      simp only [Array.getD_eq_getD_getElem?]
      rw [Array.getElem?_setIfInBounds_ne (Ne.symm hn)]

/-! ## shapes -/

inductive Sh where
  | int (k : IntKind) | bool | str | slice | ptr | map | func | any

inductive VS where
  | one (s : Sh) | agg (l : List Sh)

def exS : Sh → (Value → Prop) → Prop
  | .int k, f => ∃ n : Int, f (.int k n)
  | .bool, f => ∃ b : Bool, f (.bool b)
  | .str, f => ∃ s : ByteArray, f (.string s)
  | .slice, f => ∃ (p : Option Addr) (n c : Nat), f (.slice p n c)
  | .ptr, f => ∃ p : Option Addr, f (.pointer p)
  | .map, f => ∃ p : Option Nat, f (.map p)
  | .func, f => ∃ v : Value, f v
  | .any, f => ∃ v : Value, f v
def exL : List Sh → (List Value → Prop) → Prop
  | [], f => f []
  | s :: r, f => exS s fun v => exL r fun vs => f (v :: vs)
def exV : VS → (Value → Prop) → Prop
  | .one s, f => exS s f
  | .agg l, f => exL l fun cs => f (.agg ⟨cs⟩)
def exT : List VS → (List Value → Prop) → Prop
  | [], f => f []
  | s :: r, f => exV s fun v => exT r fun vs => f (v :: vs)
/-- the result of a call: one value, or a tuple -/
def exR : List VS → (Value → Prop) → Prop
  | [s], f => exV s f
  | l, f => exT l fun vs => f (.tuple ⟨vs⟩)

theorem exS_elim {s : Sh} {f : Value → Prop} (h : exS s f) : ∃ v, f v := by
  cases s <;> simp only [exS] at h
  case slice => obtain ⟨p, n, c, h⟩ := h; exact ⟨_, h⟩
  all_goals (obtain ⟨x, h⟩ := h; exact ⟨_, h⟩)
theorem exL_elim : ∀ {l : List Sh} {f : List Value → Prop}, exL l f → ∃ vs, f vs
  | [], _, h => ⟨_, h⟩
  | _ :: _, _, h => by
    obtain ⟨v, h⟩ := exS_elim h
    obtain ⟨vs, h⟩ := exL_elim h
    exact ⟨_, h⟩
theorem exV_elim {s : VS} {f : Value → Prop} (h : exV s f) : ∃ v, f v := by
  cases s with
  | one s => exact exS_elim h
  | agg l => obtain ⟨vs, h⟩ := exL_elim h; exact ⟨_, h⟩
theorem exT_elim : ∀ {l : List VS} {f : List Value → Prop}, exT l f → ∃ vs, f vs
  | [], _, h => ⟨_, h⟩
  | _ :: _, _, h => by
    obtain ⟨v, h⟩ := exV_elim h
    obtain ⟨vs, h⟩ := exT_elim h
    exact ⟨_, h⟩
theorem exR_elim {l : List VS} {f : Value → Prop} (h : exR l f) : ∃ v, f v := by
  match l, h with
  | [s], h => exact exV_elim h
  | [], h => simp only [exR] at h; obtain ⟨vs, h⟩ := exT_elim h; exact ⟨_, h⟩
  | _ :: _ :: _, h => simp only [exR] at h; obtain ⟨vs, h⟩ := exT_elim h; exact ⟨_, h⟩

/-! typed arguments of a loop's relation -/

def Ty1 : Sh → Type → Type
  | .int _, T => Int → T
  | .bool, T => Bool → T
  | .str, T => ByteArray → T
  | .slice, T => Option Addr → Nat → Nat → T
  | .ptr, T => Option Addr → T
  | .map, T => Option Nat → T
  | .func, T => Value → T
  | .any, T => Value → T
def TyL : List Sh → Type → Type
  | [], T => T
  | s :: r, T => Ty1 s (TyL r T)
def TyV : VS → Type → Type
  | .one s, T => Ty1 s T
  | .agg l, T => TyL l T
def TyT : List VS → Type → Type
  | [], T => T
  | s :: r, T => TyV s (TyT r T)

def app1 {T : Type} : (s : Sh) → Ty1 s T → Value → Option T
  | .int k, f, .int k' n => if k = k' then some (f n) else none
  | .bool, f, .bool b => some (f b)
  | .str, f, .string s => some (f s)
  | .slice, f, .slice p n c => some (f p n c)
  | .ptr, f, .pointer p => some (f p)
  | .map, f, .map p => some (f p)
  | .func, f, v => some (f v)
  | .any, f, v => some (f v)
  | _, _, _ => none
def appL {T : Type} : (l : List Sh) → TyL l T → List Value → Option T
  | [], f, [] => some f
  | s :: r, f, v :: vs => match app1 s f v with | some g => appL r g vs | none => none
  | _, _, _ => none
def appV {T : Type} : (s : VS) → TyV s T → Value → Option T
  | .one s, f, v => app1 s f v
  | .agg l, f, .agg cs => appL l f cs.toList
  | _, _, _ => none
def appT {T : Type} : (l : List VS) → TyT l T → List Value → Option T
  | [], f, [] => some f
  | s :: r, f, v :: vs => match appV s f v with | some g => appT r g vs | none => none
  | _, _, _ => none

def holds (l : List VS) (I : TyT l (World → Prop)) (vs : List Value) (w : World) : Prop :=
  match appT l I vs with | some g => g w | none => False
def meas (l : List VS) (μ : TyT l (World → Nat)) (vs : List Value) (w : World) : Nat :=
  match appT l μ vs with | some g => g w | none => 0

def allS : Sh → (Value → Prop) → Prop
  | .int k, f => ∀ n : Int, f (.int k n)
  | .bool, f => ∀ b : Bool, f (.bool b)
  | .str, f => ∀ s : ByteArray, f (.string s)
  | .slice, f => ∀ (p : Option Addr) (n c : Nat), f (.slice p n c)
  | .ptr, f => ∀ p : Option Addr, f (.pointer p)
  | .map, f => ∀ p : Option Nat, f (.map p)
  | .func, f => ∀ v : Value, f v
  | .any, f => ∀ v : Value, f v
def allL : List Sh → (List Value → Prop) → Prop
  | [], f => f []
  | s :: r, f => allS s fun v => allL r fun vs => f (v :: vs)
def allV : VS → (Value → Prop) → Prop
  | .one s, f => allS s f
  | .agg l, f => allL l fun cs => f (.agg ⟨cs⟩)
def allT : List VS → (List Value → Prop) → Prop
  | [], f => f []
  | s :: r, f => allV s fun v => allT r fun vs => f (v :: vs)

theorem allS_app {T : Type} {s : Sh} {I : Ty1 s T} {v : Value} {g : T} (h : app1 s I v = some g) {f : Value → Prop} (ha : allS s f) : f v := by
  cases s <;> cases v <;> simp only [app1, reduceCtorEq] at h <;> simp only [allS] at ha
  case int.int k k' n =>
    split at h
    · subst_vars; exact ha n
    · cases h
  case slice.slice => exact ha _ _ _
  all_goals exact ha _
theorem allL_app {T : Type} : ∀ {l : List Sh} {I : TyL l T} {vs : List Value} {g : T}, appL l I vs = some g → ∀ {f : List Value → Prop}, allL l f → f vs
  | [], _, [], _, _, _, ha => ha
  | [], _, _ :: _, _, h, _, _ => by simp [appL] at h
  | _ :: _, _, [], _, h, _, _ => by simp [appL] at h
  | s :: r, I, v :: vs, g, h, f, ha => by
    simp only [appL] at h
    split at h
    · rename_i g1 h1
      have h2 := allS_app h1 ha
      exact allL_app h h2
    · cases h
theorem allV_app {T : Type} {s : VS} {I : TyV s T} {v : Value} {g : T} (h : appV s I v = some g) {f : Value → Prop} (ha : allV s f) : f v := by
  cases s with
  | one s => exact allS_app h ha
  | agg l =>
    cases v <;> simp only [appV, reduceCtorEq] at h
    exact allL_app h ha
theorem allT_app {T : Type} : ∀ {l : List VS} {I : TyT l T} {vs : List Value} {g : T}, appT l I vs = some g → ∀ {f : List Value → Prop}, allT l f → f vs
  | [], _, [], _, _, _, ha => ha
  | [], _, _ :: _, _, h, _, _ => by simp [appT] at h
  | _ :: _, _, [], _, h, _, _ => by simp [appT] at h
  | s :: r, I, v :: vs, g, h, f, ha => by
    simp only [appT] at h
    split at h
    · rename_i g1 h1
      have h2 := allV_app h1 ha
      exact allT_app h h2
    · cases h

/-! ## what a type's values look like -/

def shOf : Option TypeDesc → Sh
  | some (.int k) => .int k
  | some .bool => .bool
  | some .string => .str
  | some (.slice _) => .slice
  | some (.pointer _) => .ptr
  | some (.map _ _) => .map
  | some (.func _ _ _) => .func
  | _ => .any

def shCells (P : Program) : Nat → TypeId → List Sh
  | 0, _ => []
  | d + 1, t => match P.underlying t with
    | some (.struct fs) => fs.toList.flatMap fun f => shCells P d f.type
    | some (.array n e) => (List.replicate n (shCells P d e)).flatten
    | u => [shOf u]

def vsOf (P : Program) (t : TypeId) : VS :=
  match P.underlying t with
  | some (.struct _) | some (.array _ _) => cond (Nat.ble (P.cellsOf t) 24) (.agg (shCells P 12 t)) (.one .any)
  | u => .one (shOf u)

def rsOf (P : Program) (t : TypeId) : List VS :=
  match P.underlying t with
  | some (.tuple ts) => ts.toList.map (vsOf P)
  | _ => [vsOf P t]

/-! ## pure operations -/

/-- a pointer that is not nil -/
def ptrS (p : Option Addr) (K : Addr → Prop) : Prop :=
  match p with
  | some a => K a
  | none => False

theorem ptrS_elim {p : Option Addr} {K : Addr → Prop} (h : ptrS p K) : ∃ a, p = some a ∧ K a := by
  cases p with
  | none => exact h.elim
  | some a => exact ⟨a, rfl, h⟩

def binInt (op : BinOp) (k : IntKind) (x y : Int) (K : Value → Prop) : Prop :=
  match op with
  | .add => ∃ z, z = k.wrap (x + y) ∧ K (.int k z)
  | .sub => ∃ z, z = k.wrap (x - y) ∧ K (.int k z)
  | .mul => ∃ z, z = k.wrap (x * y) ∧ K (.int k z)
  | .quo => y ≠ 0 ∧ ∃ z, z = k.wrap (x.tdiv y) ∧ K (.int k z)
  | .rem => y ≠ 0 ∧ ∃ z, z = x.tmod y ∧ K (.int k z)
  | .and => ∃ z, z = k.wrap (BitVec.ofInt k.bits x &&& BitVec.ofInt k.bits y).toNat ∧ K (.int k z)
  | .or => ∃ z, z = k.wrap (BitVec.ofInt k.bits x ||| BitVec.ofInt k.bits y).toNat ∧ K (.int k z)
  | .xor => ∃ z, z = k.wrap (BitVec.ofInt k.bits x ^^^ BitVec.ofInt k.bits y).toNat ∧ K (.int k z)
  | .eql => K (.bool (decide (x = y)))
  | .neq => K (.bool (decide (x ≠ y)))
  | .lss => K (.bool (decide (x < y)))
  | .leq => K (.bool (decide (x ≤ y)))
  | .gtr => K (.bool (decide (y < x)))
  | .geq => K (.bool (decide (y ≤ x)))
  | _ => False

def binShift (op : BinOp) (k : IntKind) (x y : Int) (K : Value → Prop) : Prop :=
  match op with
  | .shl => 0 ≤ y ∧ ∃ z, z = k.wrap (x * 2 ^ (min y.toNat k.bits)) ∧ K (.int k z)
  | .shr => 0 ≤ y ∧ ∃ z, z = x.fdiv (2 ^ (min y.toNat k.bits)) ∧ K (.int k z)
  | _ => False

def binStr (op : BinOp) (x y : ByteArray) (K : Value → Prop) : Prop :=
  match op with
  | .add => x.size + y.size ≤ 9223372036854775807 ∧ ∃ z, z = x ++ y ∧ K (.string z)
  | .eql => K (.bool (decide (x = y)))
  | .neq => K (.bool (decide (x ≠ y)))
  | .lss => K (.bool (Op.bytesLess x.toList y.toList))
  | .leq => K (.bool (Op.bytesLess x.toList y.toList || decide (x = y)))
  | .gtr => K (.bool (!(Op.bytesLess x.toList y.toList || decide (x = y))))
  | .geq => K (.bool (!(Op.bytesLess x.toList y.toList)))
  | _ => False

def binOther (P : Program) (op : BinOp) (t : TypeId) (x y : Value) (K : Value → Prop) : Prop :=
  match op, P.underlying t, x, y with
  | .eql, some .bool, .bool a, .bool b => K (.bool (a == b))
  | .neq, some .bool, .bool a, .bool b => K (.bool (!(a == b)))
  | _, _, _, _ => False

def binII (op : BinOp) (k k' : IntKind) (a b : Int) (K : Value → Prop) : Prop :=
  match op with
  | .shl => binShift .shl k a b K
  | .shr => binShift .shr k a b K
  | op => if k = k' then binInt op k a b K else False

def binS (P : Program) (op : BinOp) (t : TypeId) (x y : Value) (K : Value → Prop) : Prop :=
  match x, y with
  | .int k a, .int k' b => binII op k k' a b K
  | .string a, .string b => binStr op a b K
  | x, y => binOther P op t x y K

def unS (op : UnOp) (x : Value) (K : Value → Prop) : Prop :=
  match op, x with
  | .not, .bool b => K (.bool (!b))
  | .neg, .int k n => ∃ z, z = k.wrap (0 - n) ∧ K (.int k z)
  | _, _ => False

def convS (d : Option TypeDesc) (x : Value) (K : Value → Prop) : Prop :=
  match d, x with
  | some (.int k), .int _ n => ∃ z, z = k.wrap n ∧ K (.int k z)
  | some .string, .string s => K (.string s)
  | _, _ => False

/-- a part of an aggregate's cells -/
def partS (P : Program) (t : TypeId) (cs : List Value) (off : Nat) (K : Value → Prop) : Prop :=
  match P.underlying t with
  | some (.struct _) | some (.array _ _) => K (.agg ⟨(cs.drop off).take (P.cellsOf t)⟩)
  | some _ => match cs[off]? with
    | some v => K v
    | none => False
  | none => False

def fieldS (P : Program) (t : TypeId) (x : Value) (i : Nat) (K : Value → Prop) : Prop :=
  match P.underlying t, x with
  | some (.struct fs), .agg cs => match fs.toList[i]? with
    | some f => match P.info? f.type with
      | some _ => partS P f.type cs.toList f.offset K
      | none => False
    | none => False
  | _, _ => False

def fieldAddrS (P : Program) (t : TypeId) (x : Value) (i : Nat) (K : Value → Prop) : Prop :=
  match P.underlying t, x with
  | some (.struct fs), .pointer p => match fs.toList[i]? with
    | some f => match P.info? f.type with
      | some inf => cond (Nat.beq inf.size 0) False (ptrS p fun a => K (.pointer (some (a.add f.offset))))
      | none => False
    | none => False
  | _, _ => False

def indexAddrS (P : Program) (t : TypeId) (x i : Value) (K : Value → Prop) : Prop :=
  match P.underlying t, x, i with
  | some (.slice e), .slice p n _, .int _ i => match P.info? e with
    | some inf => (0 ≤ i ∧ i < n) ∧ ptrS p fun a => K (.pointer (some (a.add (i.toNat * inf.size))))
    | none => False
  | some (.array n e), .pointer p, .int _ i => match P.info? e with
    | some inf => (0 ≤ i ∧ i < n) ∧ ptrS p fun a => K (.pointer (some (a.add (i.toNat * inf.size))))
    | none => False
  | _, _, _ => False

def indexS (P : Program) (t : TypeId) (x i : Value) (K : Value → Prop) : Prop :=
  match P.underlying t, x, i with
  | some .string, .string s, .int _ i => 0 ≤ i ∧ ∃ b, s[i.toNat]? = some b ∧ K (.int .u8 b.toNat)
  | some (.array n e), .agg cs, .int _ i => (0 ≤ i ∧ i < n) ∧ ∃ v, (partS P e cs.toList (i.toNat * P.cellsOf e) fun u => u = v) ∧ K v
  | _, _, _ => False

def sub (p : Option Addr) (l m size : Nat) : Option Addr := if m = l then p else p.map (·.add (l * size))

def boundS (x : Option Value) (dflt y : Nat) (K : Nat → Prop) : Prop :=
  match x with
  | none => K dflt
  | some (.int _ i) => (0 ≤ i ∧ i ≤ y) ∧ K i.toNat
  | _ => False

def sliceS (P : Program) (t : TypeId) (x : Value) (lo hi mx : Option Value) (K : Value → Prop) : Prop :=
  match P.underlying t, x with
  | some .string, .string s => match mx with
    | some _ => False
    | none => boundS hi s.size s.size fun h => boundS lo 0 h fun l => K (.string (s.extract l h))
  | some (.slice e), .slice p n c => match P.info? e with
    | some inf => match mx with
      | none => boundS hi n c fun h => boundS lo 0 h fun l => K (.slice (sub p l c inf.size) (h - l) (c - l))
      | some _ => match hi with
        | none => False
        | some _ => boundS mx c c fun m => boundS hi n m fun h => boundS lo 0 h fun l => K (.slice (sub p l m inf.size) (h - l) (m - l))
    | none => False
  | _, _ => False

def extractS (x : Value) (i : Nat) (K : Value → Prop) : Prop :=
  match x with
  | .tuple vs => match vs.toList[i]? with
    | some v => K v
    | none => False
  | _ => False

def lenS (x : Value) (K : Value → Prop) : Prop :=
  match x with
  | .slice _ n _ => K (.int .i64 n)
  | .string s => K (.int .i64 s.size)
  | _ => False

def lenOk : Option TypeDesc → Value → Bool
  | some .string, .string _ => true
  | some (.slice _), .slice _ _ _ => true
  | _, _ => false

/-- the cells of an aggregate with some parts laid in -/
def fillL (place : Nat → Option (Nat × Nat)) (cells : List Value) : List (Nat × Value) → Option (List Value)
  | [] => some cells
  | (i, v) :: rest =>
    match place i with
    | none => none
    | some (off, size) =>
      cond (Nat.beq v.cells.toList.length size && Nat.ble (off + size) cells.length)
        (fillL place (cells.take off ++ v.cells.toList ++ cells.drop (off + size)) rest) none

def placesOf (P : Program) (fs : Array Field) : Nat → Option (Nat × Nat) := fun i =>
  match fs.toList[i]? with
  | some f => some (f.offset, P.cellsOf f.type)
  | none => none

def buildS (P : Program) (t : TypeId) (parts : List (Nat × Value)) (K : Value → Prop) : Prop :=
  match P.info? t, P.underlying t with
  | some inf, some (.struct fs) => match inf.zero with
    | some z => cond (fs.toList.all fun f => (P.info? f.type).isSome)
        (match fillL (placesOf P fs) z.cells.toList parts with
          | some cs => K (.agg ⟨cs⟩)
          | none => False) False
    | none => False
  | _, _ => False

def minMaxS (b : Builtin) (args : List Value) (K : Value → Prop) : Prop :=
  match b, args with
  | .min, [.int k x, .int _ y] => ∃ z, z = (if y < x then y else x) ∧ K (.int k z)
  | .max, [.int k x, .int _ y] => ∃ z, z = (if y > x then y else x) ∧ K (.int k z)
  | _, _ => False

def nilS (x : Value) (K : Value → Prop) : Prop :=
  match x with
  | .pointer p => ptrS p fun a => K (.pointer (some a))
  | .func (.func f) a c => K (.func (.func f) a c)
  | _ => False

def pickS (c x y : Value) (K : Value → Prop) : Prop :=
  match c with
  | .bool t => K (cond t x y)
  | _ => False

def ifaceS (d : Option TypeDesc) (t : TypeId) (x : Value) (K : Value → Prop) : Prop :=
  match d with
  | some (.interface _) => False
  | some _ => K (.iface t x)
  | none => False

def semPure (P : Program) (φ : Fr) (o : Oper) (K : Value → Prop) : Prop :=
  match o.op with
  | .move x => K (ev φ x)
  | .assign x => K (ev φ x)
  | .pick c a b => pickS (ev φ c) (ev φ a) (ev φ b) K
  | .nilCheck x => nilS (ev φ x) K
  | .binOp op t x y _ => binS P op t (ev φ x) (ev φ y) K
  | .unOp op _ x => unS op (ev φ x) K
  | .convert s d x => match P.underlying s with
    | some _ => convS (P.underlying d) (ev φ x) K
    | none => False
  | .field t x i => fieldS P t (ev φ x) i K
  | .fieldAddr t x i => fieldAddrS P t (ev φ x) i K
  | .indexAddr t x i => indexAddrS P t (ev φ x) (ev φ i) K
  | .index t x i => indexS P t (ev φ x) (ev φ i) K
  | .slice t x lo hi mx => sliceS P t (ev φ x) (lo.map (ev φ)) (hi.map (ev φ)) (mx.map (ev φ)) K
  | .extract x i => extractS (ev φ x) i K
  | .build t parts => buildS P t (parts.toList.map fun (i, x) => (i, ev φ x)) K
  | .makeFunc fn first captured => K (.func fn ⟨first.toList.map (ev φ)⟩ ⟨captured.toList.map (ev φ)⟩)
  | .makeInterface t x => ifaceS (P.underlying t) t (ev φ x) K
  | .call c => match c.callee, c.args.toList.map (ev φ), c.argTypes.toList with
    | .builtin .len, [x], [t] => cond (lenOk (P.underlying t) x) (lenS x K) False
    | .builtin b, xs, _ => minMaxS b xs K
    | _, _, _ => False
  | _ => False


/-! ## operations that read -/

def Loads (P : Program) (t : TypeId) (a : Addr) (v : Value) (w : World) : Prop := (loadVar t a).run P w = .ok v w
def Looks (P : Program) (t : TypeId) (m k : Value) (ok : Bool) (v : Value) (w : World) : Prop := (Instr.lookup t m k ok).run P w = .ok v w
def Lens (P : Program) (ts : List TypeId) (m : Value) (v : Value) (w : World) : Prop := (Builtin.len_ ⟨ts⟩ 0 #[m]).run P w = .ok v w
def Convs (P : Program) (s d : TypeId) (x : Value) (v : Value) (w : World) : Prop := (convert s d x).run P w = .ok v w

def elemVS (P : Program) (t : TypeId) : VS :=
  match P.underlying t with
  | some (.map _ e) => vsOf P e
  | _ => .one .any

def semRead (P : Program) (rd : (World → Prop) → Prop) (φ : Fr) (o : Oper) (K : Value → Prop) : Prop :=
  match o.op with
  | .load t a => match ev φ a with
    | .pointer p => ptrS p fun ad => exV (vsOf P t) fun v => rd (Loads P t ad v) ∧ K v
    | _ => False
  | .lookup t m k ok => exR (cond ok [elemVS P t, .one .bool] [elemVS P t]) fun v => rd (Looks P t (ev φ m) (ev φ k) ok v) ∧ K v
  | .convert s d x => exV (vsOf P d) fun v => rd (Convs P s d (ev φ x) v) ∧ K v
  | .call c => match c.callee, c.args.toList.map (ev φ) with
    | .builtin .len, [x] => exS (.int .i64) fun v => rd (Lens P c.argTypes.toList x v) ∧ K v
    | _, _ => False
  | _ => False

/-! ## operations that change the world -/

structure New (w : World) (o : Obj) (r : Nat) (w' : World) : Prop where
  r_eq : r = w.heap.size
  w_eq : w' = w.alloc o

def Stores (P : Program) (t : TypeId) (a : Addr) (v : Value) (w w' : World) : Prop := (storeVar t a v).run P w = .ok () w'
def Appends (P : Program) (ts : List TypeId) (args : List Value) (v : Value) (w w' : World) : Prop := (Builtin.append_ ⟨ts⟩ 0 ⟨args⟩).run P w = .ok v w'
def Copies (P : Program) (ts : List TypeId) (args : List Value) (v : Value) (w w' : World) : Prop := (Builtin.copy_ ⟨ts⟩ 0 ⟨args⟩).run P w = .ok v w'
def Deletes (P : Program) (ts : List TypeId) (args : List Value) (v : Value) (w w' : World) : Prop := (Builtin.delete_ ⟨ts⟩ 0 ⟨args⟩).run P w = .ok v w'
def Updates (P : Program) (t : TypeId) (m k x : Value) (w w' : World) : Prop := (Instr.mapUpdate t m k x).run P w = .ok () w'
def ConvsTo (P : Program) (s d : TypeId) (x : Value) (v : Value) (w w' : World) : Prop := (convert s d x).run P w = .ok v w'

def zeroRow (z : Value) (n : Nat) : List Value := (List.range n).map (z.cells[· % z.cells.size]!)

def goFunc (P : Program) (g : FuncId) : Bool :=
  match P.funcs[g]? with
  | some fn => fn.body.isSome && !(fn.name == "runtime.NumGoroutine")
  | none => false

def CallS (P : Program) (g : FuncId) (args : List Value) (rs : List VS) (w : World) (K : Value → World → Prop) : Prop :=
  Calls P g ⟨args⟩ w fun e w' => exR rs fun v => e = .returned v ∧ K v w'

def CallV (P : Program) (f : Value) (args : List Value) (rs : List VS) (w : World) (K : Value → World → Prop) : Prop :=
  ∃ g first captured, f = .func (.func g) ⟨first⟩ ⟨captured⟩ ∧ goFunc P g = true ∧ CallS P g (first ++ args ++ captured) rs w K

def boxS (t : TypeId) (cs : List Value) (w : World) (K : Value → World → Prop) : Prop :=
  ∀ r w', New w (.cells ⟨cs⟩ t) r w' → K (.pointer (some ⟨r, 0, none⟩)) w'

def makeS (P : Program) (t : TypeId) (n m : Value) (w : World) (K : Value → World → Prop) : Prop :=
  match P.underlying t, n, m with
  | some (.slice e), .int _ n, .int _ m => match P.info? e with
    | some inf => match inf.zero with
      | some z => cond (Nat.ble 1 inf.bytes && Nat.ble 1 inf.size) ((0 ≤ n ∧ n ≤ m ∧ inf.bytes * m ≤ 281474976710656) ∧ ∀ r w', New w (.cells ⟨zeroRow z (m.toNat * inf.size)⟩ e) r w' → K (.slice (some ⟨r, 0, none⟩) n.toNat m.toNat) w') False
      | none => False
    | none => False
  | _, _, _ => False

def buildSliceS (P : Program) (t : TypeId) (len : Nat) (parts : List (Nat × Value)) (w : World) (K : Value → World → Prop) : Prop :=
  match P.underlying t with
  | some (.slice e) => match P.info? e with
    | some inf => match inf.zero with
      | some z => cond (Nat.ble (len * inf.size) 16777216 && Nat.ble 1 inf.size) (match fillL (fun i => some (i * inf.size, inf.size)) (zeroRow z (len * inf.size)) parts with
        | some cs => ∀ r w', New w (.cells ⟨cs⟩ e) r w' → K (.slice (some ⟨r, 0, none⟩) len len) w'
        | none => False) False
      | none => False
    | none => False
  | _ => False

def allocS (P : Program) (t : TypeId) (w : World) (K : Value → World → Prop) : Prop :=
  match P.info? t with
  | some inf => match inf.zero with
    | some z => boxS t z.cells.toList w K
    | none => False
  | none => False

def semEff (P : Program) (φ : Fr) (o : Oper) (w : World) (K : Value → World → Prop) : Prop :=
  match o.op with
  | .box t x => boxS t (ev φ x).cells.toList w K
  | .alloc t => allocS P t w K
  | .makeSlice t n m => makeS P t (ev φ n) (ev φ m) w K
  | .buildSlice t len parts => buildSliceS P t len (parts.toList.map fun (i, x) => (i, ev φ x)) w K
  | .store t a x => match ev φ a with
    | .pointer p => ptrS p fun ad => ∃ w', Stores P t ad (ev φ x) w w' ∧ K undef w'
    | _ => False
  | .convert s d x => exV (vsOf P d) fun v => ∃ w', ConvsTo P s d (ev φ x) v w w' ∧ K v w'
  | .makeMap _ none => ∀ r w', New w (.map #[] 0) r w' → K (.map (some r)) w'
  | .mapUpdate t m k x => ∃ w', Updates P t (ev φ m) (ev φ k) (ev φ x) w w' ∧ K undef w'
  | .insert t m k x => ∃ w', Updates P t (ev φ m) (ev φ k) (ev φ x) w w' ∧ K undef w'
  | .call c => match c.callee with
    | .value (.func g) => cond (goFunc P g) (CallS P g (c.args.toList.map (ev φ)) (rsOf P o.type) w K) False
    | .value f => CallV P (ev φ f) (c.args.toList.map (ev φ)) (rsOf P o.type) w K
    | .builtin .append => exS .slice fun v => ∃ w', Appends P c.argTypes.toList (c.args.toList.map (ev φ)) v w w' ∧ K v w'
    | .builtin .copy => exS (.int .i64) fun v => ∃ w', Copies P c.argTypes.toList (c.args.toList.map (ev φ)) v w w' ∧ K v w'
    | .builtin .delete => ∃ v w', Deletes P c.argTypes.toList (c.args.toList.map (ev φ)) v w w' ∧ K v w'
    | _ => False
  | _ => False

/-! ## kinds of operations -/

inductive Kd where
  | pure | read | eff
  deriving DecidableEq

def slicy : Option TypeDesc → Bool
  | some (.slice _) => true
  | _ => false
def stringy : Option TypeDesc → Bool
  | some .string => true
  | _ => false

def kindOf (P : Program) (o : Oper) : Kd :=
  match o.op with
  | .load _ _ | .lookup _ _ _ _ => .read
  | .convert s d _ => cond (slicy (P.underlying d)) .eff (cond (slicy (P.underlying s)) .read .pure)
  | .call c => match c.callee with
    | .builtin .len => match c.argTypes.toList with
      | [t] => match P.underlying t with
        | some (.map _ _) => .read
        | _ => .pure
      | _ => .pure
    | .builtin .min | .builtin .max => .pure
    | _ => .eff
  | .box _ _ | .alloc _ | .makeSlice _ _ _ | .buildSlice _ _ _ | .store _ _ _ | .makeMap _ _ | .mapUpdate _ _ _ _ | .insert _ _ _ _ => .eff
  | .select _ _ | .go _ | .defer _ | .panic _ | .send _ _ | .recv _ _ _ | .range _ _ | .next _ _ | .entry _ | .mapEntry _ _ _ | .entryStore _ _ _ _ | .makeChan _ _ | .typeAssert _ _ _ _ | .sliceToArrayPointer _ _ | .ready _ | .waits _ => .eff
  | _ => .pure

end Go.Proofs.YtfbmjimhjlmhkaaDoor.Sx
