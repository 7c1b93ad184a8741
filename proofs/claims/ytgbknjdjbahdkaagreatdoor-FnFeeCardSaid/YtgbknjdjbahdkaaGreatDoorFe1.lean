/-
  Parts of the proof of fnFee_holds: SxSem, SxOps, SxOps2, SxOps3, SxDraw, SxFloat, SxCode, SxText, P, G3.
  Conditions: none.
-/
import Derived.Orders
import Derived.Below
import Derived.Laws.Cells
import Derived.WalkKit
import Derived.Scope
import Derived.Test.YtgbknjdjbahdkaaGreatDoorProg
set_option linter.unusedVariables false
set_option linter.unusedSimpArgs false
namespace Go.RowKit
end Go.RowKit

namespace Go.Proofs.YtgbknjdjbahdkaaGreatDoor.Sx
open Go Go.RowKit
abbrev Fr := Nat -> Value
def Fr.put (N : Nat) (φ : Fr) : Option Tmp -> Value -> Fr
  | none, _ => φ
  | some d, v => fun n => cond (Nat.beq n d && Nat.blt d N) v (φ n)
def ev (φ : Fr) : Operand -> Value
  | .tmp t => φ t
  | .const v => v
  | .global g => .pointer (some ⟨g, 0, none⟩)
  | .func f => .func (.func f) #[] #[]
structure Fits (N : Nat) (φ : Fr) (a : Act) : Prop where
  size : a.tmps.size = N
  get : ∀ n, a.tmps.getD n undef = φ n
  defers : a.defers = []
theorem Fits.eval {N : Nat} {φ : Fr} {a : Act} (h : Fits N φ a) : a.eval = ev φ := by
  funext x
  cases x <;> simp only [Act.eval, ev, h.get]
theorem Fits.put {N : Nat} {φ : Fr} {a : Act} (h : Fits N φ a) (d : Option Tmp) (v : Value) : Fits N (φ.put N d v) (a.put d v) := by
  obtain ⟨hs, hg, hd⟩ := h
  cases d with
  | none => exact ⟨hs, hg, hd⟩
  | some d =>
    refine ⟨by simp [Act.put, hs], fun n => ?_, hd⟩
    have hgn := hg n
    simp only [Act.put, Fr.put]
    by_cases hn : n = d
    · subst hn
      by_cases hlt : n < N
      · have h1 : Nat.beq n n = true := by simp
        have h2 : Nat.blt n N = true := by simpa [Nat.blt_eq] using hlt
        rw [h1, h2]
        have : n < a.tmps.size := by omega
        simp [Array.getD, this]
      · have h2 : Nat.blt n N = false := by
          cases hb : Nat.blt n N with
          | false => rfl
          | true => exact absurd (by simpa [Nat.blt_eq] using hb) hlt
        rw [h2]
        have : ¬ n < a.tmps.size := by omega
        simp only [Bool.and_false, cond_false]
        rw [<- hgn]
        simp [Array.getD, this]
    · have h1 : Nat.beq n d = false := by
        cases hb : Nat.beq n d with
        | false => rfl
        | true => exact absurd (Nat.eq_of_beq_eq_true hb) hn
      rw [h1]
      simp only [Bool.false_and, cond_false]
      rw [<- hgn]
      simp only [Array.getD_eq_getD_getElem?]
      rw [Array.getElem?_setIfInBounds_ne (Ne.symm hn)]
inductive Sh where
  | int (k : IntKind) | bool | str | slice | ptr | map | func | any
inductive VS where
  | one (s : Sh) | agg (l : List Sh)
def exS : Sh -> (Value -> Prop) -> Prop
  | .int k, f => ∃ n : Int, f (.int k n)
  | .bool, f => ∃ b : Bool, f (.bool b)
  | .str, f => ∃ s : ByteArray, f (.string s)
  | .slice, f => ∃ (p : Option Addr) (n c : Nat), f (.slice p n c)
  | .ptr, f => ∃ p : Option Addr, f (.pointer p)
  | .map, f => ∃ p : Option Nat, f (.map p)
  | .func, f => ∃ v : Value, f v
  | .any, f => ∃ v : Value, f v
def exL : List Sh -> (List Value -> Prop) -> Prop
  | [], f => f []
  | s :: r, f => exS s fun v => exL r fun vs => f (v :: vs)
def exV : VS -> (Value -> Prop) -> Prop
  | .one s, f => exS s f
  | .agg l, f => exL l fun cs => f (.agg ⟨cs⟩)
def exT : List VS -> (List Value -> Prop) -> Prop
  | [], f => f []
  | s :: r, f => exV s fun v => exT r fun vs => f (v :: vs)
def exR : List VS -> (Value -> Prop) -> Prop
  | [s], f => exV s f
  | l, f => exT l fun vs => f (.tuple ⟨vs⟩)
theorem exS_elim {s : Sh} {f : Value -> Prop} (h : exS s f) : ∃ v, f v := by
  cases s <;> simp only [exS] at h
  case slice => obtain ⟨p, n, c, h⟩ := h; exact ⟨_, h⟩
  all_goals (obtain ⟨x, h⟩ := h; exact ⟨_, h⟩)
theorem exL_elim : ∀ {l : List Sh} {f : List Value -> Prop}, exL l f -> ∃ vs, f vs
  | [], _, h => ⟨_, h⟩
  | _ :: _, _, h => by
    obtain ⟨v, h⟩ := exS_elim h
    obtain ⟨vs, h⟩ := exL_elim h
    exact ⟨_, h⟩
theorem exV_elim {s : VS} {f : Value -> Prop} (h : exV s f) : ∃ v, f v := by
  cases s with
  | one s => exact exS_elim h
  | agg l => obtain ⟨vs, h⟩ := exL_elim h; exact ⟨_, h⟩
theorem exT_elim : ∀ {l : List VS} {f : List Value -> Prop}, exT l f -> ∃ vs, f vs
  | [], _, h => ⟨_, h⟩
  | _ :: _, _, h => by
    obtain ⟨v, h⟩ := exV_elim h
    obtain ⟨vs, h⟩ := exT_elim h
    exact ⟨_, h⟩
theorem exR_elim {l : List VS} {f : Value -> Prop} (h : exR l f) : ∃ v, f v := by
  match l, h with
  | [s], h => exact exV_elim h
  | [], h => simp only [exR] at h; obtain ⟨vs, h⟩ := exT_elim h; exact ⟨_, h⟩
  | _ :: _ :: _, h => simp only [exR] at h; obtain ⟨vs, h⟩ := exT_elim h; exact ⟨_, h⟩
def Ty1 : Sh -> Type -> Type
  | .int _, T => Int -> T
  | .bool, T => Bool -> T
  | .str, T => ByteArray -> T
  | .slice, T => Option Addr -> Nat -> Nat -> T
  | .ptr, T => Option Addr -> T
  | .map, T => Option Nat -> T
  | .func, T => Value -> T
  | .any, T => Value -> T
def TyL : List Sh -> Type -> Type
  | [], T => T
  | s :: r, T => Ty1 s (TyL r T)
def TyV : VS -> Type -> Type
  | .one s, T => Ty1 s T
  | .agg l, T => TyL l T
def TyT : List VS -> Type -> Type
  | [], T => T
  | s :: r, T => TyV s (TyT r T)
def app1 {T : Type} : (s : Sh) -> Ty1 s T -> Value -> Option T
  | .int k, f, .int k' n => if k = k' then some (f n) else none
  | .bool, f, .bool b => some (f b)
  | .str, f, .string s => some (f s)
  | .slice, f, .slice p n c => some (f p n c)
  | .ptr, f, .pointer p => some (f p)
  | .map, f, .map p => some (f p)
  | .func, f, v => some (f v)
  | .any, f, v => some (f v)
  | _, _, _ => none
def appL {T : Type} : (l : List Sh) -> TyL l T -> List Value -> Option T
  | [], f, [] => some f
  | s :: r, f, v :: vs => match app1 s f v with | some g => appL r g vs | none => none
  | _, _, _ => none
def appV {T : Type} : (s : VS) -> TyV s T -> Value -> Option T
  | .one s, f, v => app1 s f v
  | .agg l, f, .agg cs => appL l f cs.toList
  | _, _, _ => none
def appT {T : Type} : (l : List VS) -> TyT l T -> List Value -> Option T
  | [], f, [] => some f
  | s :: r, f, v :: vs => match appV s f v with | some g => appT r g vs | none => none
  | _, _, _ => none
def holds (l : List VS) (I : TyT l (World -> Prop)) (vs : List Value) (w : World) : Prop :=
  match appT l I vs with | some g => g w | none => False
def meas (l : List VS) (μ : TyT l (World -> Nat)) (vs : List Value) (w : World) : Nat :=
  match appT l μ vs with | some g => g w | none => 0
def allS : Sh -> (Value -> Prop) -> Prop
  | .int k, f => ∀ n : Int, f (.int k n)
  | .bool, f => ∀ b : Bool, f (.bool b)
  | .str, f => ∀ s : ByteArray, f (.string s)
  | .slice, f => ∀ (p : Option Addr) (n c : Nat), f (.slice p n c)
  | .ptr, f => ∀ p : Option Addr, f (.pointer p)
  | .map, f => ∀ p : Option Nat, f (.map p)
  | .func, f => ∀ v : Value, f v
  | .any, f => ∀ v : Value, f v
def allL : List Sh -> (List Value -> Prop) -> Prop
  | [], f => f []
  | s :: r, f => allS s fun v => allL r fun vs => f (v :: vs)
def allV : VS -> (Value -> Prop) -> Prop
  | .one s, f => allS s f
  | .agg l, f => allL l fun cs => f (.agg ⟨cs⟩)
def allT : List VS -> (List Value -> Prop) -> Prop
  | [], f => f []
  | s :: r, f => allV s fun v => allT r fun vs => f (v :: vs)
theorem allS_app {T : Type} {s : Sh} {I : Ty1 s T} {v : Value} {g : T} (h : app1 s I v = some g) {f : Value -> Prop} (ha : allS s f) : f v := by
  cases s <;> cases v <;> simp only [app1, reduceCtorEq] at h <;> simp only [allS] at ha
  case int.int k k' n =>
    split at h
    · subst_vars; exact ha n
    · cases h
  case slice.slice => exact ha _ _ _
  all_goals exact ha _
theorem allL_app {T : Type} : ∀ {l : List Sh} {I : TyL l T} {vs : List Value} {g : T}, appL l I vs = some g -> ∀ {f : List Value -> Prop}, allL l f -> f vs
  | [], _, [], _, _, _, ha => ha
  | [], _, _ :: _, _, h, _, _ => by simp [appL] at h
  | _ :: _, _, [], _, h, _, _ => by simp [appL] at h
  | s :: r, I, v :: vs, g, h, f, ha => by
    simp only [appL] at h
    split at h
    · rename_i g1 h1
      have h2 := allS_app h1 ha
      exact allL_app h h2
    · cases h
theorem allV_app {T : Type} {s : VS} {I : TyV s T} {v : Value} {g : T} (h : appV s I v = some g) {f : Value -> Prop} (ha : allV s f) : f v := by
  cases s with
  | one s => exact allS_app h ha
  | agg l =>
    cases v <;> simp only [appV, reduceCtorEq] at h
    exact allL_app h ha
theorem allT_app {T : Type} : ∀ {l : List VS} {I : TyT l T} {vs : List Value} {g : T}, appT l I vs = some g -> ∀ {f : List Value -> Prop}, allT l f -> f vs
  | [], _, [], _, _, _, ha => ha
  | [], _, _ :: _, _, h, _, _ => by simp [appT] at h
  | _ :: _, _, [], _, h, _, _ => by simp [appT] at h
  | s :: r, I, v :: vs, g, h, f, ha => by
    simp only [appT] at h
    split at h
    · rename_i g1 h1
      have h2 := allV_app h1 ha
      exact allT_app h h2
    · cases h
def shOf : Option TypeDesc -> Sh
  | some (.int k) => .int k
  | some .bool => .bool
  | some .string => .str
  | some (.slice _) => .slice
  | some (.pointer _) => .ptr
  | some (.map _ _) => .map
  | some (.func _ _ _) => .func
  | _ => .any
def shCells (P : Program) : Nat -> TypeId -> List Sh
  | 0, _ => []
  | d + 1, t => match P.underlying t with
    | some (.struct fs) => fs.toList.flatMap fun f => shCells P d f.type
    | some (.array n e) => (List.replicate n (shCells P d e)).flatten
    | u => [shOf u]
def vsOf (P : Program) (t : TypeId) : VS :=
  match P.underlying t with
  | some (.struct _) | some (.array _ _) => cond (Nat.ble (P.cellsOf t) 24) (.agg (shCells P 12 t)) (.one .any)
  | u => .one (shOf u)
def rsOf (P : Program) (t : TypeId) : List VS :=
  match P.underlying t with
  | some (.tuple ts) => ts.toList.map (vsOf P)
  | _ => [vsOf P t]
def ptrS (p : Option Addr) (K : Addr -> Prop) : Prop :=
  match p with
  | some a => K a
  | none => False
theorem ptrS_elim {p : Option Addr} {K : Addr -> Prop} (h : ptrS p K) : ∃ a, p = some a /\ K a := by
  cases p with
  | none => exact h.elim
  | some a => exact ⟨a, rfl, h⟩
def binInt (op : BinOp) (k : IntKind) (x y : Int) (K : Value -> Prop) : Prop :=
  match op with
  | .add => ∃ z, z = k.wrap (x + y) /\ K (.int k z)
  | .sub => ∃ z, z = k.wrap (x - y) /\ K (.int k z)
  | .mul => ∃ z, z = k.wrap (x * y) /\ K (.int k z)
  | .quo => y ≠ 0 /\ ∃ z, z = k.wrap (x.tdiv y) /\ K (.int k z)
  | .rem => y ≠ 0 /\ ∃ z, z = x.tmod y /\ K (.int k z)
  | .and => ∃ z, z = k.wrap (BitVec.ofInt k.bits x &&& BitVec.ofInt k.bits y).toNat /\ K (.int k z)
  | .or => ∃ z, z = k.wrap (BitVec.ofInt k.bits x ||| BitVec.ofInt k.bits y).toNat /\ K (.int k z)
  | .xor => ∃ z, z = k.wrap (BitVec.ofInt k.bits x ^^^ BitVec.ofInt k.bits y).toNat /\ K (.int k z)
  | .eql => K (.bool (decide (x = y)))
  | .neq => K (.bool (decide (x ≠ y)))
  | .lss => K (.bool (decide (x < y)))
  | .leq => K (.bool (decide (x <= y)))
  | .gtr => K (.bool (decide (y < x)))
  | .geq => K (.bool (decide (y <= x)))
  | _ => False
def binShift (op : BinOp) (k : IntKind) (x y : Int) (K : Value -> Prop) : Prop :=
  match op with
  | .shl => 0 <= y /\ ∃ z, z = k.wrap (x * 2 ^ (min y.toNat k.bits)) /\ K (.int k z)
  | .shr => 0 <= y /\ ∃ z, z = x.fdiv (2 ^ (min y.toNat k.bits)) /\ K (.int k z)
  | _ => False
def binStr (op : BinOp) (x y : ByteArray) (K : Value -> Prop) : Prop :=
  match op with
  | .add => x.size + y.size <= 9223372036854775807 /\ ∃ z, z = x ++ y /\ K (.string z)
  | .eql => K (.bool (decide (x = y)))
  | .neq => K (.bool (decide (x ≠ y)))
  | .lss => K (.bool (Op.bytesLess x.toList y.toList))
  | .leq => K (.bool (Op.bytesLess x.toList y.toList || decide (x = y)))
  | .gtr => K (.bool (!(Op.bytesLess x.toList y.toList || decide (x = y))))
  | .geq => K (.bool (!(Op.bytesLess x.toList y.toList)))
  | _ => False
def binOther (P : Program) (op : BinOp) (t : TypeId) (x y : Value) (K : Value -> Prop) : Prop :=
  match op, P.underlying t, x, y with
  | .eql, some .bool, .bool a, .bool b => K (.bool (a == b))
  | .neq, some .bool, .bool a, .bool b => K (.bool (!(a == b)))
  | _, _, _, _ => False
def binII (op : BinOp) (k k' : IntKind) (a b : Int) (K : Value -> Prop) : Prop :=
  match op with
  | .shl => binShift .shl k a b K
  | .shr => binShift .shr k a b K
  | op => if k = k' then binInt op k a b K else False
def binS (P : Program) (op : BinOp) (t : TypeId) (x y : Value) (K : Value -> Prop) : Prop :=
  match x, y with
  | .int k a, .int k' b => binII op k k' a b K
  | .string a, .string b => binStr op a b K
  | x, y => binOther P op t x y K
def ifNil : Value -> Bool
  | .nilIface => true
  | _ => false
def isIf (v : Value) : Prop := v = .nilIface ∨ ∃ t x, v = .iface t x
def nilLit : Value -> Bool
  | .nilIface => true
  | .slice none _ _ => true
  | _ => false
def nilCmp (P : Program) (op : BinOp) (t : TypeId) (x y : Value) (K : Value -> Prop) : Prop :=
  match op, P.underlying t, y with
  | .eql, some (.interface _), .nilIface => isIf x /\ K (.bool (ifNil x))
  | .neq, some (.interface _), .nilIface => isIf x /\ K (.bool (!(ifNil x)))
  | .eql, some (.slice _), .slice none _ _ => match x with
    | .slice p _ _ => K (.bool p.isNone)
    | _ => False
  | .neq, some (.slice _), .slice none _ _ => match x with
    | .slice p _ _ => K (.bool (!p.isNone))
    | _ => False
  | _, _, _ => False
def unS (op : UnOp) (x : Value) (K : Value -> Prop) : Prop :=
  match op, x with
  | .not, .bool b => K (.bool (!b))
  | .neg, .int k n => ∃ z, z = k.wrap (0 - n) /\ K (.int k z)
  | _, _ => False
def convS (d : Option TypeDesc) (x : Value) (K : Value -> Prop) : Prop :=
  match d, x with
  | some (.int k), .int _ n => ∃ z, z = k.wrap n /\ K (.int k z)
  | some .string, .string s => K (.string s)
  | _, _ => False
def partS (P : Program) (t : TypeId) (cs : List Value) (off : Nat) (K : Value -> Prop) : Prop :=
  match P.underlying t with
  | some (.struct _) | some (.array _ _) => K (.agg ⟨(cs.drop off).take (P.cellsOf t)⟩)
  | some _ => match cs[off]? with
    | some v => K v
    | none => False
  | none => False
def fieldS (P : Program) (t : TypeId) (x : Value) (i : Nat) (K : Value -> Prop) : Prop :=
  match P.underlying t, x with
  | some (.struct fs), .agg cs => match fs.toList[i]? with
    | some f => match P.info? f.type with
      | some _ => partS P f.type cs.toList f.offset K
      | none => False
    | none => False
  | _, _ => False
def fieldAddrS (P : Program) (t : TypeId) (x : Value) (i : Nat) (K : Value -> Prop) : Prop :=
  match P.underlying t, x with
  | some (.struct fs), .pointer p => match fs.toList[i]? with
    | some f => match P.info? f.type with
      | some inf => cond (Nat.beq inf.size 0) False (ptrS p fun a => K (.pointer (some (a.add f.offset))))
      | none => False
    | none => False
  | _, _ => False
def indexAddrS (P : Program) (t : TypeId) (x i : Value) (K : Value -> Prop) : Prop :=
  match P.underlying t, x, i with
  | some (.slice e), .slice p n _, .int _ i => match P.info? e with
    | some inf => (0 <= i /\ i < n) /\ ptrS p fun a => K (.pointer (some (a.add (i.toNat * inf.size))))
    | none => False
  | some (.array n e), .pointer p, .int _ i => match P.info? e with
    | some inf => (0 <= i /\ i < n) /\ ptrS p fun a => K (.pointer (some (a.add (i.toNat * inf.size))))
    | none => False
  | _, _, _ => False
def indexS (P : Program) (t : TypeId) (x i : Value) (K : Value -> Prop) : Prop :=
  match P.underlying t, x, i with
  | some .string, .string s, .int _ i => 0 <= i /\ ∃ b, s[i.toNat]? = some b /\ K (.int .u8 b.toNat)
  | some (.array n e), .agg cs, .int _ i => (0 <= i /\ i < n) /\ ∃ v, (partS P e cs.toList (i.toNat * P.cellsOf e) fun u => u = v) /\ K v
  | _, _, _ => False
def sub (p : Option Addr) (l m size : Nat) : Option Addr := if m = l then p else p.map (·.add (l * size))
def boundS (x : Option Value) (dflt y : Nat) (K : Nat -> Prop) : Prop :=
  match x with
  | none => K dflt
  | some (.int _ i) => (0 <= i /\ i <= y) /\ K i.toNat
  | _ => False
def sliceS (P : Program) (t : TypeId) (x : Value) (lo hi mx : Option Value) (K : Value -> Prop) : Prop :=
  match P.underlying t, x with
  | some .string, .string s => match mx with
    | some _ => False
    | none => boundS hi s.size s.size fun h => boundS lo 0 h fun l => K (.string (s.extract l h))
  | some (.slice e), .slice p n c => match P.info? e with
    | some inf => match mx with
      | none => boundS hi n c fun h => boundS lo 0 h fun l => K (.slice (sub p l c inf.size) (h - l) (c - l))
      | some _ => match hi with
        | none => False
        | some _ => boundS mx c c fun m => boundS hi n m fun h => boundS lo 0 h fun l => K (.slice (sub p l m inf.size) (h - l) (m - l))
    | none => False
  | _, _ => False
def extractS (x : Value) (i : Nat) (K : Value -> Prop) : Prop :=
  match x with
  | .tuple vs => match vs.toList[i]? with
    | some v => K v
    | none => False
  | _ => False
def lenS (x : Value) (K : Value -> Prop) : Prop :=
  match x with
  | .slice _ n _ => K (.int .i64 n)
  | .string s => K (.int .i64 s.size)
  | _ => False
def capS (x : Value) (K : Value -> Prop) : Prop :=
  match x with
  | .slice _ _ c => K (.int .i64 c)
  | _ => False
def slicy' : Option TypeDesc -> Bool
  | some (.slice _) => true
  | _ => false
def lenOk : Option TypeDesc -> Value -> Bool
  | some .string, .string _ => true
  | some (.slice _), .slice _ _ _ => true
  | _, _ => false
def fillL (place : Nat -> Option (Nat × Nat)) (cells : List Value) : List (Nat × Value) -> Option (List Value)
  | [] => some cells
  | (i, v) :: rest =>
    match place i with
    | none => none
    | some (off, size) =>
      cond (Nat.beq v.cells.toList.length size && Nat.ble (off + size) cells.length)
        (fillL place (cells.take off ++ v.cells.toList ++ cells.drop (off + size)) rest) none
def placesOf (P : Program) (fs : Array Field) : Nat -> Option (Nat × Nat) := fun i =>
  match fs.toList[i]? with
  | some f => some (f.offset, P.cellsOf f.type)
  | none => none
def buildS (P : Program) (t : TypeId) (parts : List (Nat × Value)) (K : Value -> Prop) : Prop :=
  match P.info? t, P.underlying t with
  | some inf, some (.struct fs) => match inf.zero with
    | some z => cond (fs.toList.all fun f => (P.info? f.type).isSome)
        (match fillL (placesOf P fs) z.cells.toList parts with
          | some cs => K (.agg ⟨cs⟩)
          | none => False) False
    | none => False
  | some inf, some (.array _ e) => match inf.zero with
    | some z => cond (P.info? e).isSome
        (match fillL (fun i => some (i * P.cellsOf e, P.cellsOf e)) z.cells.toList parts with
          | some cs => K (.agg ⟨cs⟩)
          | none => False) False
    | none => False
  | _, _ => False
def minMaxS (b : Builtin) (args : List Value) (K : Value -> Prop) : Prop :=
  match b, args with
  | .min, [.int k x, .int _ y] => ∃ z, z = (if y < x then y else x) /\ K (.int k z)
  | .max, [.int k x, .int _ y] => ∃ z, z = (if y > x then y else x) /\ K (.int k z)
  | _, _ => False
def nilS (x : Value) (K : Value -> Prop) : Prop :=
  match x with
  | .pointer p => ptrS p fun a => K (.pointer (some a))
  | .func (.func f) a c => K (.func (.func f) a c)
  | _ => False
def pickS (c x y : Value) (K : Value -> Prop) : Prop :=
  match c with
  | .bool t => K (cond t x y)
  | _ => False
def ifaceS (d : Option TypeDesc) (t : TypeId) (x : Value) (K : Value -> Prop) : Prop :=
  match d with
  | some (.interface _) => False
  | some _ => K (.iface t x)
  | none => False
def semPure (P : Program) (φ : Fr) (o : Oper) (K : Value -> Prop) : Prop :=
  match o.op with
  | .move x => K (ev φ x)
  | .assign x => K (ev φ x)
  | .pick c a b => pickS (ev φ c) (ev φ a) (ev φ b) K
  | .nilCheck x => nilS (ev φ x) K
  | .binOp op t x y _ => match y with
    | .const c => cond (nilLit c) (nilCmp P op t (ev φ x) c K) (binS P op t (ev φ x) c K)
    | y => binS P op t (ev φ x) (ev φ y) K
  | .unOp op _ x => unS op (ev φ x) K
  | .convert s d x => match P.underlying s with
    | some _ => convS (P.underlying d) (ev φ x) K
    | none => False
  | .field t x i => fieldS P t (ev φ x) i K
  | .fieldAddr t x i => fieldAddrS P t (ev φ x) i K
  | .indexAddr t x i => indexAddrS P t (ev φ x) (ev φ i) K
  | .index t x i => indexS P t (ev φ x) (ev φ i) K
  | .slice t x lo hi mx => sliceS P t (ev φ x) (lo.map (ev φ)) (hi.map (ev φ)) (mx.map (ev φ)) K
  | .extract x i => extractS (ev φ x) i K
  | .build t parts => buildS P t (parts.toList.map fun (i, x) => (i, ev φ x)) K
  | .makeFunc fn first captured => K (.func fn ⟨first.toList.map (ev φ)⟩ ⟨captured.toList.map (ev φ)⟩)
  | .makeInterface t x => ifaceS (P.underlying t) t (ev φ x) K
  | .call c => match c.callee, c.args.toList.map (ev φ), c.argTypes.toList with
    | .builtin .len, [x], [t] => cond (lenOk (P.underlying t) x) (lenS x K) False
    | .builtin .cap, [x], [t] => cond (slicy' (P.underlying t)) (capS x K) False
    | .builtin b, xs, _ => minMaxS b xs K
    | _, _, _ => False
  | _ => False
def Loads (P : Program) (t : TypeId) (a : Addr) (v : Value) (w : World) : Prop := (loadVar t a).run P w = .ok v w
def Looks (P : Program) (t : TypeId) (m k : Value) (ok : Bool) (v : Value) (w : World) : Prop := (Instr.lookup t m k ok).run P w = .ok v w
def Lens (P : Program) (ts : List TypeId) (m : Value) (v : Value) (w : World) : Prop := (Builtin.len_ ⟨ts⟩ 0 #[m]).run P w = .ok v w
def Convs (P : Program) (s d : TypeId) (x : Value) (v : Value) (w : World) : Prop := (convert s d x).run P w = .ok v w
def elemVS (P : Program) (t : TypeId) : VS :=
  match P.underlying t with
  | some (.map _ e) => vsOf P e
  | _ => .one .any
def semRead (P : Program) (rd : (World -> Prop) -> Prop) (φ : Fr) (o : Oper) (K : Value -> Prop) : Prop :=
  match o.op with
  | .load t a => match ev φ a with
    | .pointer p => ptrS p fun ad => exV (vsOf P t) fun v => rd (Loads P t ad v) /\ K v
    | _ => False
  | .lookup t m k ok => exR (cond ok [elemVS P t, .one .bool] [elemVS P t]) fun v => rd (Looks P t (ev φ m) (ev φ k) ok v) /\ K v
  | .convert s d x => exV (vsOf P d) fun v => rd (Convs P s d (ev φ x) v) /\ K v
  | .call c => match c.callee, c.args.toList.map (ev φ) with
    | .builtin .len, [x] => exS (.int .i64) fun v => rd (Lens P c.argTypes.toList x v) /\ K v
    | _, _ => False
  | _ => False
structure New (w : World) (o : Obj) (r : Nat) (w' : World) : Prop where
  r_eq : r = w.heap.size
  w_eq : w' = w.alloc o
def Stores (P : Program) (t : TypeId) (a : Addr) (v : Value) (w w' : World) : Prop := (storeVar t a v).run P w = .ok () w'
def Appends (P : Program) (ts : List TypeId) (args : List Value) (v : Value) (w w' : World) : Prop := (Builtin.append_ ⟨ts⟩ 0 ⟨args⟩).run P w = .ok v w'
def Copies (P : Program) (ts : List TypeId) (args : List Value) (v : Value) (w w' : World) : Prop := (Builtin.copy_ ⟨ts⟩ 0 ⟨args⟩).run P w = .ok v w'
def Deletes (P : Program) (ts : List TypeId) (args : List Value) (v : Value) (w w' : World) : Prop := (Builtin.delete_ ⟨ts⟩ 0 ⟨args⟩).run P w = .ok v w'
def Updates (P : Program) (t : TypeId) (m k x : Value) (w w' : World) : Prop := (Instr.mapUpdate t m k x).run P w = .ok () w'
def ConvsTo (P : Program) (s d : TypeId) (x : Value) (v : Value) (w w' : World) : Prop := (convert s d x).run P w = .ok v w'
def zeroRow (z : Value) (n : Nat) : List Value := (List.range n).map (z.cells[· % z.cells.size]!)
def goFunc (P : Program) (g : FuncId) : Bool :=
  match P.funcs[g]? with
  | some fn => fn.body.isSome && !(fn.name == "runtime.NumGoroutine")
  | none => false
def CallS (P : Program) (g : FuncId) (args : List Value) (rs : List VS) (w : World) (K : Value -> World -> Prop) : Prop :=
 Calls P g ⟨args⟩ w fun e w' => exR rs fun v => e = .returned v /\ K v w'
def Externs (P : Program) (g : FuncId) (args : List Value) (v : Value) (w w' : World) : Prop := (callFunc g ⟨args⟩).run P w = .ok (.value v) w'
def CallV (P : Program) (f : Value) (args : List Value) (rs : List VS) (w : World) (K : Value -> World -> Prop) : Prop :=
 ∃ g first captured, f = .func (.func g) ⟨first⟩ ⟨captured⟩ /\ goFunc P g = true /\ CallS P g (first ++ args ++ captured) rs w K
def boxS (t : TypeId) (cs : List Value) (w : World) (K : Value -> World -> Prop) : Prop :=
 ∀ r w', New w (.cells ⟨cs⟩ t) r w' -> K (.pointer (some ⟨r, 0, none⟩)) w'
def makeS (P : Program) (t : TypeId) (n m : Value) (w : World) (K : Value -> World -> Prop) : Prop :=
  match P.underlying t, n, m with
  | some (.slice e), .int _ n, .int _ m => match P.info? e with
    | some inf => match inf.zero with
      | some z => cond (Nat.ble 1 inf.bytes && Nat.ble 1 inf.size) ((0 <= n /\ n <= m /\ inf.bytes * m <= 281474976710656) /\ ∀ r w', New w (.cells ⟨zeroRow z (m.toNat * inf.size)⟩ e) r w' -> K (.slice (some ⟨r, 0, none⟩) n.toNat m.toNat) w') False
      | none => False
    | none => False
  | _, _, _ => False
def buildSliceS (P : Program) (t : TypeId) (len : Nat) (parts : List (Nat × Value)) (w : World) (K : Value -> World -> Prop) : Prop :=
  match P.underlying t with
  | some (.slice e) => match P.info? e with
    | some inf => match inf.zero with
      | some z => cond (Nat.ble (len * inf.size) 16777216 && Nat.ble 1 inf.size) (match fillL (fun i => some (i * inf.size, inf.size)) (zeroRow z (len * inf.size)) parts with
        | some cs => ∀ r w', New w (.cells ⟨cs⟩ e) r w' -> K (.slice (some ⟨r, 0, none⟩) len len) w'
        | none => False) False
      | none => False
    | none => False
  | _ => False
def allocS (P : Program) (t : TypeId) (w : World) (K : Value -> World -> Prop) : Prop :=
  match P.info? t with
  | some inf => match inf.zero with
    | some z => boxS t z.cells.toList w K
    | none => False
  | none => False
def semEff (P : Program) (φ : Fr) (o : Oper) (w : World) (K : Value -> World -> Prop) : Prop :=
  match o.op with
  | .box t x => boxS t (ev φ x).cells.toList w K
  | .alloc t => allocS P t w K
  | .makeSlice t n m => makeS P t (ev φ n) (ev φ m) w K
  | .buildSlice t len parts => buildSliceS P t len (parts.toList.map fun (i, x) => (i, ev φ x)) w K
  | .store t a x => match ev φ a with
    | .pointer p => ptrS p fun ad => ∃ w', Stores P t ad (ev φ x) w w' /\ K undef w'
    | _ => False
  | .convert s d x => exV (vsOf P d) fun v => ∃ w', ConvsTo P s d (ev φ x) v w w' /\ K v w'
  | .makeMap _ none => ∀ r w', New w (.map #[] 0) r w' -> K (.map (some r)) w'
  | .mapUpdate t m k x => ∃ w', Updates P t (ev φ m) (ev φ k) (ev φ x) w w' /\ K undef w'
  | .insert t m k x => ∃ w', Updates P t (ev φ m) (ev φ k) (ev φ x) w w' /\ K undef w'
  | .call c => match c.callee with
    | .value (.func g) => cond (goFunc P g) (CallS P g (c.args.toList.map (ev φ)) (rsOf P o.type) w K) (exR (rsOf P o.type) fun v => ∃ w', Externs P g (c.args.toList.map (ev φ)) v w w' /\ K v w')
    | .value f => CallV P (ev φ f) (c.args.toList.map (ev φ)) (rsOf P o.type) w K
    | .builtin .append => exS .slice fun v => ∃ w', Appends P c.argTypes.toList (c.args.toList.map (ev φ)) v w w' /\ K v w'
    | .builtin .copy => exS (.int .i64) fun v => ∃ w', Copies P c.argTypes.toList (c.args.toList.map (ev φ)) v w w' /\ K v w'
    | .builtin .delete => ∃ v w', Deletes P c.argTypes.toList (c.args.toList.map (ev φ)) v w w' /\ K v w'
    | _ => False
  | _ => False
inductive Kd where
  | pure | read | eff
  deriving DecidableEq
def slicy : Option TypeDesc -> Bool
  | some (.slice _) => true
  | _ => false
def kindOf (P : Program) (o : Oper) : Kd :=
  match o.op with
  | .load _ _ | .lookup _ _ _ _ => .read
  | .convert s d _ => cond (slicy (P.underlying d)) .eff (cond (slicy (P.underlying s)) .read .pure)
  | .call c => match c.callee with
    | .builtin .len => match c.argTypes.toList with
      | [t] => match P.underlying t with
        | some (.map _ _) => .read
        | _ => .pure
      | _ => .pure
    | .builtin .min | .builtin .max | .builtin .cap => .pure
    | _ => .eff
  | .box _ _ | .alloc _ | .makeSlice _ _ _ | .buildSlice _ _ _ | .store _ _ _ | .makeMap _ _ | .mapUpdate _ _ _ _ | .insert _ _ _ _ => .eff
  | .select _ _ | .go _ | .defer _ | .panic _ | .send _ _ | .recv _ _ _ | .range _ _ | .next _ _ | .entry _ | .mapEntry _ _ _ | .entryStore _ _ _ _ | .makeChan _ _ | .typeAssert _ _ _ _ | .sliceToArrayPointer _ _ | .ready _ | .waits _ => .eff
  | _ => .pure
end Go.Proofs.YtgbknjdjbahdkaaGreatDoor.Sx
namespace Go.Proofs.YtgbknjdjbahdkaaGreatDoor.Sx
open Go Go.RowKit
theorem mapL {f : Operand -> Value} (a : Array Operand) : a.map f = ⟨a.toList.map f⟩ := by
  apply Array.ext'; simp
theorem bytes_eq (a b : ByteArray) : (a.toList == b.toList) = decide (a = b) := by
  by_cases h : a = b
  · subst h; simp
  · have : a.toList ≠ b.toList := fun e => h (by
      have h1 : a.data.toList = b.data.toList := by rw [<- ByteArray.toList_eq, <- ByteArray.toList_eq]; exact e
      cases a; cases b; simp only [ByteArray.mk.injEq]; exact Array.ext' h1)
    simp [h, this]
section
variable {P : Program} {K : Value -> Prop}
theorem binInt_sound {op : BinOp} {k : IntKind} {x y : Int} (h : binInt op k x y K) : ∃ v, (∀ w, ((match op with
    | .add | .sub | .mul => Op.intArith op k x y
    | .quo | .rem => Op.intDiv op k x y
    | .and | .or | .xor | .andNot => Op.intBits op k x y
    | _ => Op.intCmp op x y).run P w) = .ok v w) /\ K v := by
  cases op <;> simp only [binInt] at h
  case add => obtain ⟨z, rfl, h⟩ := h; exact ⟨_, fun w => rfl, h⟩
  case sub => obtain ⟨z, rfl, h⟩ := h; exact ⟨_, fun w => rfl, h⟩
  case mul => obtain ⟨z, rfl, h⟩ := h; exact ⟨_, fun w => rfl, h⟩
  case quo => obtain ⟨hy, z, rfl, h⟩ := h; exact ⟨_, fun w => by simp [Op.intDiv, hy], h⟩
  case rem => obtain ⟨hy, z, rfl, h⟩ := h; exact ⟨_, fun w => by simp [Op.intDiv, hy], h⟩
  case and => obtain ⟨z, rfl, h⟩ := h; exact ⟨_, fun w => rfl, h⟩
  case or => obtain ⟨z, rfl, h⟩ := h; exact ⟨_, fun w => rfl, h⟩
  case xor => obtain ⟨z, rfl, h⟩ := h; exact ⟨_, fun w => rfl, h⟩
  case eql => exact ⟨_, fun w => by simp only [Op.intCmp, Sem.run_pure]; congr 2, h⟩
  case neq => exact ⟨_, fun w => by simp only [Op.intCmp, Sem.run_pure]; congr 2; simp [bne, BEq.beq], h⟩
  case lss => exact ⟨_, fun w => rfl, h⟩
  case leq => exact ⟨_, fun w => rfl, h⟩
  case gtr => exact ⟨_, fun w => rfl, h⟩
  case geq => exact ⟨_, fun w => rfl, h⟩
theorem binShift_sound {op : BinOp} {k yk : IntKind} {x y : Int} (h : binShift op k x y K) : ∃ v, (∀ w, (Op.shift op k x yk y).run P w = .ok v w) /\ K v := by
  cases op <;> simp only [binShift] at h
  case shl => obtain ⟨hy, z, rfl, h⟩ := h; exact ⟨_, fun w => by simp [Op.shift, Int.not_lt.2 hy], h⟩
  case shr => obtain ⟨hy, z, rfl, h⟩ := h; exact ⟨_, fun w => by simp [Op.shift, Int.not_lt.2 hy], h⟩
theorem binStr_sound {op : BinOp} {x y : ByteArray} (h : binStr op x y K) : ∃ v, (∀ w, (Op.stringOp op x y).run P w = .ok v w) /\ K v := by
  cases op <;> simp only [binStr] at h
  case add =>
    obtain ⟨hs, z, rfl, h⟩ := h
    refine ⟨_, fun w => ?_, h⟩
    have : ¬ (((x.size + y.size : Nat) : Int) > IntKind.i64.max) := by
      simp only [IntKind.max, IntKind.signed, IntKind.bits]; omega
    simp only [Op.stringOp, this, if_false, Sem.run_pure]
  case eql => exact ⟨_, fun w => by simp only [Op.stringOp, Sem.run_pure, bytes_eq], h⟩
  case neq => exact ⟨_, fun w => by simp only [Op.stringOp, Sem.run_pure, bytes_eq]; simp, h⟩
  case lss => exact ⟨_, fun w => by simp only [Op.stringOp, Sem.run_pure], h⟩
  case leq => exact ⟨_, fun w => by simp only [Op.stringOp, Sem.run_pure, bytes_eq], h⟩
  case gtr => exact ⟨_, fun w => by simp only [Op.stringOp, Sem.run_pure, bytes_eq], h⟩
  case geq => exact ⟨_, fun w => by simp only [Op.stringOp, Sem.run_pure], h⟩
theorem eqGuard_run {op : BinOp} {t : TypeId} {x y : Operand} {a b : Value} (ha : a ≠ .nilIface) (hag : ∀ c, a ≠ .agg c) (w : World) :
    (eqGuard op t x y a b).run P w = .ok () w := by
  unfold eqGuard
  cases op <;> simp <;> (cases a <;> first | (exact absurd rfl ha) | (exact absurd rfl (hag _)) | simp)
theorem underlying_run {t : TypeId} {d : TypeDesc} (h : P.underlying t = some d) (w : World) : (underlying t).run P w = .ok d w := by
  simp [underlying, h]
theorem typeInfo_run {t : TypeId} {i : TypeInfo} (h : P.info? t = some i) (w : World) : (typeInfo t).run P w = .ok i w := by
  simp [typeInfo, h]
theorem sizeOf_run {t : TypeId} {i : TypeInfo} (h : P.info? t = some i) (w : World) : (Go.sizeOf t).run P w = .ok i.size w := by
  simp [Go.sizeOf, typeInfo, h]
theorem binOther_sound {op : BinOp} {t : TypeId} {x y : Value} {xo yo : Operand} (h : binOther P op t x y K) :
    ∃ v, (∀ w, ((do eqGuard op t xo yo x y; binOp op t x y : Sem Value).run P w) = .ok v w) /\ K v := by
  unfold binOther at h
  split at h
  · rename_i a b hu
    exact ⟨_, fun w => by
      rw [Sem.run_bind, eqGuard_run (a := .bool a) (by simp) (by simp), Result.andThen_ok, run_eql_bool w t a b hu], h⟩
  · rename_i a b hu
    exact ⟨_, fun w => by
      rw [Sem.run_bind, eqGuard_run (a := .bool a) (by simp) (by simp), Result.andThen_ok, run_neq_bool w t a b hu], h⟩
  · exact h.elim
theorem binS_sound {op : BinOp} {t : TypeId} {x y : Value} {xo yo : Operand} (h : binS P op t x y K) :
    ∃ v, (∀ w, ((do eqGuard op t xo yo x y; binOp op t x y : Sem Value).run P w) = .ok v w) /\ K v := by
  unfold binS at h
  split at h
  · rename_i k a k' b
    have hg : ∀ w, (eqGuard op t xo yo (.int k a) (.int k' b)).run P w = .ok () w := fun w => eqGuard_run (by simp) (by simp) w
    suffices hs : ∃ v, (∀ w, (binOp op t (.int k a) (.int k' b)).run P w = .ok v w) /\ K v by
      obtain ⟨v, hv, hk⟩ := hs
      exact ⟨v, fun w => by rw [Sem.run_bind, hg, Result.andThen_ok, hv], hk⟩
    cases op
    case shl => simp only [binII] at h; exact binShift_sound (P := P) (yk := k') h
    case shr => simp only [binII] at h; exact binShift_sound (P := P) (yk := k') h
    all_goals
      simp only [binII] at h
      split at h
      · subst_vars
        obtain ⟨v, hv, hk⟩ := binInt_sound (P := P) h
        refine ⟨v, fun w => ?_, hk⟩
        rw [<- hv w]
        simp [binOp]
      · exact h.elim
  · rename_i a b
    obtain ⟨v, hv, hk⟩ := binStr_sound (P := P) h
    refine ⟨v, fun w => ?_, hk⟩
    rw [Sem.run_bind, eqGuard_run (a := .string a) (by simp) (by simp), Result.andThen_ok]
    rw [<- hv w]
    cases op <;> rfl
  · exact binOther_sound h
theorem partS_sound {t : TypeId} {i : TypeInfo} {cs : Array Value} {off : Nat} (hi : P.info? t = some i) (h : partS P t cs.toList off K) :
    ∃ v, (∀ w, (part t cs off).run P w = .ok v w) /\ K v := by
  unfold partS at h
  have hcells : P.cellsOf t = i.size := by simp [Program.cellsOf, hi]
  split at h
  · rename_i fs hu
    refine ⟨_, fun w => ?_, h⟩
    simp only [part, isAgg, Sem.run_bind, underlying_run hu, Result.andThen_ok, Sem.run_pure, if_true, sizeOf_run hi, hcells]
    congr 2
    apply Array.ext'
    simp [List.take_drop, List.extract_eq_take_drop, Nat.add_sub_cancel_left]
  · rename_i n e hu
    refine ⟨_, fun w => ?_, h⟩
    simp only [part, isAgg, Sem.run_bind, underlying_run hu, Result.andThen_ok, Sem.run_pure, if_true, sizeOf_run hi, hcells]
    congr 2
    apply Array.ext'
    simp [List.take_drop, List.extract_eq_take_drop, Nat.add_sub_cancel_left]
  · rename_i d hns hna hu
    split at h
    · rename_i v hv
      refine ⟨v, fun w => ?_, h⟩
      have hv' : cs[off]? = some v := by simpa using hv
      cases d <;> first | (exact absurd rfl (hns _)) | (exact absurd rfl (hna _ _)) | (simp [part, isAgg, Sem.run_bind, underlying_run hu, hv'])
    · exact h.elim
  · exact h.elim
theorem boundS_sound {x : Option Value} {dflt y : Nat} {code : BoundsCode} {K : Nat -> Prop} (h : boundS x dflt y K) :
    ∃ m, K m /\ ∀ w, ((match x with | some v => Instr.sliceBound v y code | none => pure dflt : Sem Nat).run P w) = .ok m w := by
  unfold boundS at h
  split at h
  · exact ⟨_, h, fun w => rfl⟩
  · obtain ⟨⟨h1, h2⟩, h⟩ := h
    exact ⟨_, h, fun w => by simp [Instr.sliceBound, asIntOf, h1, h2]⟩
  · exact h.elim
theorem fillL_eq (place : Nat -> Option (Nat × Nat)) : ∀ (parts : List (Nat × Value)) (cells out : List Value), fillL place cells parts = some out ->
    Instr.fill place ⟨cells⟩ parts = some ⟨out⟩
  | [], cells, out, h => by simp only [fillL, Option.some.injEq] at h; simp [Instr.fill, h]
  | (i, v) :: rest, cells, out, h => by
    simp only [fillL] at h
    split at h
    · cases h
    · rename_i off size hp
      cases hc : (Nat.beq v.cells.toList.length size && Nat.ble (off + size) cells.length) with
      | false => rw [hc] at h; simp at h
      | true =>
        rw [hc] at h
        simp only [cond_true] at h
        simp only [Bool.and_eq_true] at hc
        have h1 : v.cells.toList.length = size := Nat.eq_of_beq_eq_true hc.1
        have h2 : off + size <= cells.length := Nat.le_of_ble_eq_true hc.2
        have ih := fillL_eq place rest _ _ h
        have hlen : v.cells.size = size := by simpa using h1
        have key : v.cells.zipIdx.foldl (fun cs (c, j) => cs.setIfInBounds (off + j) c) (⟨cells⟩ : Array Value) = ⟨cells.take off ++ v.cells.toList ++ cells.drop (off + size)⟩ := by
          have gen : ∀ (l : List Value) (k : Nat) (cs : List Value), off + k + l.length <= cs.length ->
              (l.zipIdx k).foldl (fun (cs : Array Value) (p : Value × Nat) => cs.setIfInBounds (off + p.2) p.1) ⟨cs⟩ = ⟨cs.take (off + k) ++ l ++ cs.drop (off + k + l.length)⟩ := by
            intro l
            induction l with
            | nil => intro k cs _; simp
            | cons c l ih2 =>
              intro k cs hk
              simp only [List.length_cons] at hk
              simp only [List.zipIdx_cons, List.foldl_cons]
              have hset : ((⟨cs⟩ : Array Value).setIfInBounds (off + k) c) = ⟨cs.set (off + k) c⟩ := by simp
              rw [hset, ih2 (k + 1) (cs.set (off + k) c) (by simp; omega)]
              congr 1
              apply List.ext_getElem?
              intro n
              simp only [List.getElem?_append, List.length_take, List.length_set, List.length_append, List.length_cons, List.getElem?_take, List.getElem?_drop, List.getElem?_set]
              grind
          have g := gen v.cells.toList 0 cells (by omega)
          simp only [Nat.add_zero] at g
          rw [<- Array.foldl_toList, Array.toList_zipIdx, <- h1]
          exact g
        simp only [Instr.fill, hp]
        have hnot : ¬ (v.cells.size ≠ size ∨ off + v.cells.size > cells.length) := by omega
        simp only [ne_eq, gt_iff_lt, List.size_toArray]
        rw [if_neg (by simp; omega)]
        rw [key]
        exact ih
end
end Go.Proofs.YtgbknjdjbahdkaaGreatDoor.Sx
namespace Go.Proofs.YtgbknjdjbahdkaaGreatDoor.Sx
open Go Go.RowKit
section
variable {P : Program} {φ : Fr}
theorem exec_v {s : Sem Value} {v : Value} {w w' : World} (h : s.run P w = .ok v w') :
    ((do pure (.value (<- s)) : Sem Next).run P w) = .ok (.value v) w' := by
  rw [Sem.run_bind, h]; rfl
theorem lenS_sound {t : TypeId} {x : Value} {K : Value -> Prop} {ty : TypeId} (h : cond (lenOk (P.underlying t) x) (lenS x K) False) :
    ∃ v, (∀ w, (Builtin.len_ #[t] ty #[x]).run P w = .ok v w) /\ K v := by
  cases hl : lenOk (P.underlying t) x with
  | false => rw [hl] at h; exact h.elim
  | true =>
    rw [hl] at h
    simp only [cond_true] at h
    unfold lenOk at hl
    split at hl
    · rename_i s hu
      exact ⟨_, fun w => by simp [Builtin.len_, underlying_run hu, goInt], h⟩
    · rename_i e p n c hu
      exact ⟨_, fun w => by simp [Builtin.len_, underlying_run hu, goInt], h⟩
    · cases hl
theorem capS_sound {t : TypeId} {x : Value} {K : Value -> Prop} {ty : TypeId} (h : cond (slicy' (P.underlying t)) (capS x K) False) :
    ∃ v, (∀ w, (Builtin.cap_ #[t] ty #[x]).run P w = .ok v w) /\ K v := by
  cases hl : slicy' (P.underlying t) with
  | false => rw [hl] at h; exact h.elim
  | true =>
    rw [hl] at h
    simp only [cond_true] at h
    unfold slicy' at hl
    split at hl
    · rename_i e hu
      unfold capS at h
      split at h
      · exact ⟨_, fun w => by simp [Builtin.cap_, underlying_run hu, goInt], h⟩
      · exact h.elim
    · cases hl
theorem minMaxS_sound {b : Builtin} {xs : List Value} {K : Value -> Prop} {ts cs : Array TypeId} {ty : TypeId} {cb : Array Bool} (h : minMaxS b xs K) :
    ∃ v, (∀ w, (builtin b ts ty cb ⟨xs⟩).run P w = .ok (.value v) w) /\ K v := by
  unfold minMaxS at h
  split at h
  · rename_i k x k' y
    obtain ⟨z, rfl, h⟩ := h
    exact ⟨_, fun w => by simp [builtin, Builtin.min_, Builtin.min2], h⟩
  · rename_i k x k' y
    obtain ⟨z, rfl, h⟩ := h
    exact ⟨_, fun w => by simp [builtin, Builtin.max_, Builtin.max2], h⟩
  · exact h.elim
theorem indexAddrS_sound {t : TypeId} {x i : Value} {K : Value -> Prop} (h : indexAddrS P t x i K) :
    ∃ v, (∀ w, (Instr.indexAt t x i).run P w = .ok v w) /\ K v := by
  unfold indexAddrS at h
  split at h
  · rename_i e p n c k i hu
    split at h
    · rename_i inf hi
      obtain ⟨⟨h1, h2⟩, h⟩ := h
      obtain ⟨a, rfl, h⟩ := ptrS_elim h
      exact ⟨_, fun w => by simp [Instr.indexAt, asIntOf, underlying_run hu, h1, h2, sizeOf_run hi], h⟩
    · exact h.elim
  · rename_i n e p k i hu
    split at h
    · rename_i inf hi
      obtain ⟨⟨h1, h2⟩, h⟩ := h
      obtain ⟨a, rfl, h⟩ := ptrS_elim h
      exact ⟨_, fun w => by simp [Instr.indexAt, asIntOf, underlying_run hu, h1, h2, sizeOf_run hi, Instr.sureAddr], h⟩
    · exact h.elim
  · exact h.elim
theorem fieldAddrS_sound {t : TypeId} {x : Value} {i : Nat} {K : Value -> Prop} (h : fieldAddrS P t x i K) :
    ∃ v, (∀ w, (Instr.fieldAt t x i).run P w = .ok v w) /\ K v := by
  unfold fieldAddrS at h
  split at h
  · rename_i fs p hu
    split at h
    · rename_i f hf
      split at h
      · rename_i inf hi
        cases hb : Nat.beq inf.size 0 with
        | true => rw [hb] at h; exact h.elim
        | false =>
          rw [hb] at h
          simp only [cond_false] at h
          obtain ⟨a, rfl, h⟩ := ptrS_elim h
          have hf' : fs[i]? = some f := by simpa using hf
          have hne : inf.size ≠ 0 := fun e => by rw [e] at hb; cases hb
          exact ⟨_, fun w => by simp [Instr.fieldAt, underlying_run hu, hf', Instr.sureAddr, fieldPlace, sizeOf_run hi, hne], h⟩
      · exact h.elim
    · exact h.elim
  · exact h.elim
theorem fieldS_sound {t : TypeId} {x : Value} {i : Nat} {K : Value -> Prop} (h : fieldS P t x i K) :
    ∃ v, (∀ w, (Instr.field t x i).run P w = .ok v w) /\ K v := by
  unfold fieldS at h
  split at h
  · rename_i fs cs hu
    split at h
    · rename_i f hf
      have hf' : fs[i]? = some f := by simpa using hf
      split at h
      · rename_i inf hi
        obtain ⟨v, hv, hk⟩ := partS_sound hi h
        exact ⟨v, fun w => by simp [Instr.field, underlying_run hu, hf', asAgg, hv], hk⟩
      · exact h.elim
    · exact h.elim
  · exact h.elim
theorem indexS_sound {t : TypeId} {x i : Value} {K : Value -> Prop} (h : indexS P t x i K) :
    ∃ v, (∀ w, (Instr.index t x i).run P w = .ok v w) /\ K v := by
  unfold indexS at h
  split at h
  · rename_i s k i hu
    obtain ⟨h1, b, hb, h⟩ := h
    exact ⟨_, fun w => by simp [Instr.index, asIntOf, underlying_run hu, h1, hb], h⟩
  · rename_i n e cs k i hu
    obtain ⟨⟨h1, h2⟩, v, hp, h⟩ := h
    cases hi : P.info? e with
    | none => simp [partS, Program.underlying, hi] at hp
    | some inf =>
      obtain ⟨u, hu', he⟩ := partS_sound hi hp
      subst he
      have hc : P.cellsOf e = inf.size := by simp [Program.cellsOf, hi]
      exact ⟨_, fun w => by simp only [Instr.index, asIntOf, Sem.run_bind, Sem.run_pure, Result.andThen_ok, underlying_run hu, h1, h2, and_self, if_true, sizeOf_run hi, <- hc, hu'], h⟩
  · exact h.elim
theorem sliceBounds_run {isS : Bool} {n c : Nat} {lo hi : Option Value} {w : World} {K : Nat -> Nat -> Prop}
    (h : boundS hi n c fun h => boundS lo 0 h fun l => K l h) :
    ∃ l h, K l h /\ ∀ w, (Instr.sliceBounds isS n c lo hi none).run P w = .ok (l, h, c) w := by
  obtain ⟨hh, hk, hrun⟩ := boundS_sound (P := P) (code := if isS then .sliceAcap else .sliceAlen) h
  obtain ⟨ll, hk2, hrun2⟩ := boundS_sound (P := P) (code := .sliceB) hk
  refine ⟨ll, hh, hk2, fun w => ?_⟩
  have e1 := hrun w
  have e2 := hrun2 w
  cases hi <;> cases lo <;> simp [Instr.sliceBounds] at e1 e2 ⊢ <;> simp [e1, e2, Instr.sliceBounds]
theorem sliceS_sound {t : TypeId} {x : Value} {lo hi mx : Option Value} {K : Value -> Prop} (h : sliceS P t x lo hi mx K) :
    ∃ v, (∀ w, (Instr.sliceAt t x lo hi mx).run P w = .ok v w) /\ K v := by
  unfold sliceS at h
  split at h
  · rename_i s hu
    cases mx with
    | some _ => exact h.elim
    | none =>
      obtain ⟨l, hh, hk, hrun⟩ := sliceBounds_run (P := P) (isS := false) (w := default) (K := fun l h => K (.string (s.extract l h))) h
      exact ⟨_, fun w => by simp [Instr.sliceAt, underlying_run hu, Instr.slice, hrun], hk⟩
  · rename_i e p n c hu
    split at h
    · rename_i inf hi'
      cases mx with
      | none =>
        obtain ⟨l, hh, hk, hrun⟩ := sliceBounds_run (P := P) (isS := true) (w := default) (K := fun l h => K (.slice (sub p l c inf.size) (h - l) (c - l))) h
        exact ⟨_, fun w => by simp [Instr.sliceAt, underlying_run hu, Instr.slice, hrun, sizeOf_run hi', sub], hk⟩
      | some m =>
        cases hi with
        | none => exact h.elim
        | some hv =>
          obtain ⟨mm, hk0, hrun0⟩ := boundS_sound (P := P) (code := .slice3Acap) h
          obtain ⟨hh, hk1, hrun1⟩ := boundS_sound (P := P) (code := .slice3B) hk0
          obtain ⟨ll, hk2, hrun2⟩ := boundS_sound (P := P) (code := .slice3C) hk1
          refine ⟨_, fun w => ?_, hk2⟩
          have e0 := hrun0 w
          have e1 := hrun1 w
          have e2 := hrun2 w
          cases lo <;> simp at e0 e1 e2 <;> simp [Instr.sliceAt, underlying_run hu, Instr.slice, Instr.sliceBounds, e0, e1, e2, sizeOf_run hi', sub]
    · exact h.elim
  · exact h.elim
theorem extractS_sound {x : Value} {i : Nat} {K : Value -> Prop} (h : extractS x i K) :
    ∃ v, (∀ w, (Instr.extract x i).run P w = .ok v w) /\ K v := by
  unfold extractS at h
  split at h
  · rename_i vs
    split at h
    · rename_i v hv
      have hv' : vs[i]? = some v := by simpa using hv
      exact ⟨v, fun w => by simp [Instr.extract, hv'], h⟩
    · exact h.elim
  · exact h.elim
theorem mapM_places {fs : List Field} (h : (fs.all fun f => (P.info? f.type).isSome) = true) (w : World) :
    (fs.mapM (m := Sem) fun f => do pure (f.offset, <- Go.sizeOf f.type)).run P w = .ok (fs.map fun f => (f.offset, P.cellsOf f.type)) w := by
  induction fs with
  | nil => rfl
  | cons f fs ih =>
    simp only [List.all_cons, Bool.and_eq_true] at h
    obtain ⟨inf, hi⟩ := Option.isSome_iff_exists.1 h.1
    have ih2 := ih h.2
    simp only [bind_pure_comp] at ih2
    simp [List.mapM_cons, sizeOf_run hi, ih2, Program.cellsOf, hi]
theorem buildS_sound {t : TypeId} {parts : List (Nat × Value)} {K : Value -> Prop} (h : buildS P t parts K) :
    ∃ v, (∀ w, (Instr.build t ⟨parts⟩).run P w = .ok v w) /\ K v := by
  unfold buildS at h
  split at h
  · rename_i inf fs hi hu
    split at h
    · rename_i z hz
      cases ha : (fs.toList.all fun f => (P.info? f.type).isSome) with
      | false => rw [ha] at h; exact h.elim
      | true =>
        rw [ha] at h
        simp only [cond_true] at h
        split at h
        · rename_i cs hf
          refine ⟨_, fun w => ?_, h⟩
          have hfill := fillL_eq _ _ _ _ hf
          have hpl : (fun x : Nat => ((fs.toList.map fun f => (f.offset, P.cellsOf f.type)).toArray[x]? : Option (Nat × Nat))) = placesOf P fs := by
            funext n
            simp only [placesOf, List.getElem?_toArray, List.getElem?_map]
            cases fs.toList[n]? <;> rfl
          simp only [Instr.build, Sem.run_bind, zeroValue, typeInfo_run hi, hz, Result.andThen_ok, Sem.run_pure, underlying_run hu]
          rw [show (fs.mapM (m := Sem) fun f => do pure (f.offset, <- Go.sizeOf f.type)) = (List.toArray <$> fs.toList.mapM fun f => do pure (f.offset, <- Go.sizeOf f.type)) from by simp [Array.mapM_eq_mapM_toList]]
          simp only [Sem.run_map, mapM_places ha, Result.andThen_ok, hpl]
          have e : (⟨z.cells.toList⟩ : Array Value) = z.cells := by simp
          rw [e] at hfill
          simp only [hfill]
          rfl
        · exact h.elim
    · exact h.elim
  · rename_i inf n e hi hu
    split at h
    · rename_i z hz
      cases he : P.info? e with
      | none => rw [he] at h; exact h.elim
      | some ie =>
        rw [he] at h
        simp only [Option.isSome_some, cond_true] at h
        have hc : P.cellsOf e = ie.size := by simp [Program.cellsOf, he]
        split at h
        · rename_i cs hf
          refine ⟨_, fun w => ?_, h⟩
          have hfill := fillL_eq _ _ _ _ hf
          simp only [Instr.build, Sem.run_bind, zeroValue, typeInfo_run hi, hz, Result.andThen_ok, Sem.run_pure, underlying_run hu, sizeOf_run he]
          have e' : (⟨z.cells.toList⟩ : Array Value) = z.cells := by simp
          rw [e', hc] at hfill
          simp only [hfill]
          rfl
        · exact h.elim
    · exact h.elim
  · exact h.elim
end
end Go.Proofs.YtgbknjdjbahdkaaGreatDoor.Sx
namespace Go.Proofs.YtgbknjdjbahdkaaGreatDoor.Sx
open Go Go.RowKit
section
variable {P : Program} {φ : Fr}
def Yes (P : Program) (φ : Fr) (o : Oper) (v : Value) (w : World) : Prop := (execOp (ev φ) o).run P w = .ok (.value v) w
theorem eqIn_nil {t : TypeId} {ms : Array (String × TypeId)} (d : Nat) (h : P.underlying t = some (.interface ms)) (w : World) : (Op.equalIn (d + 1) t .nilIface .nilIface).run P w = .ok true w := by
  unfold Op.equalIn
  rw [Sem.run_bind, underlying_run h]; rfl
theorem eqIn_if {t : TypeId} {ms : Array (String × TypeId)} (d : Nat) (h : P.underlying t = some (.interface ms)) (t' : TypeId) (x : Value) (w : World) : (Op.equalIn (d + 1) t (.iface t' x) .nilIface).run P w = .ok false w := by
  unfold Op.equalIn
  rw [Sem.run_bind, underlying_run h]; rfl
theorem eqIn_sl {t e : TypeId} (d : Nat) (h : P.underlying t = some (.slice e)) (p : Option Addr) (n c n' c' : Nat) (w : World) : (Op.equalIn (d + 1) t (.slice p n c) (.slice none n' c')).run P w = .ok p.isNone w := by
  unfold Op.equalIn
  rw [Sem.run_bind, underlying_run h]
  cases p <;> rfl
theorem nilCmp_sound {op : BinOp} {t : TypeId} {x c : Value} {xo : Operand} {K : Value -> Prop} (h : nilCmp P op t x c K) :
    ∃ v, (∀ w, ((do eqGuard op t xo (.const c) x c; binOp op t x c : Sem Value).run P w) = .ok v w) /\ K v := by
  have eqE : ∀ x y w b, (Op.equalIn (9999 + 1) t x y).run P w = .ok b w -> (do pure (.bool (<- Op.equal t x y)) : Sem Value).run P w = .ok (.bool b) w := fun x y w b h => by
    rw [Sem.run_bind, show (Op.equal t x y).run P w = .ok b w from h]; rfl
  have eqN : ∀ x y w b, (Op.equalIn (9999 + 1) t x y).run P w = .ok b w -> (do pure (.bool (!(<- Op.equal t x y))) : Sem Value).run P w = .ok (.bool (!b)) w := fun x y w b h => by
    rw [Sem.run_bind, show (Op.equal t x y).run P w = .ok b w from h]; rfl
  have gd : ∀ x w, isIf x -> (eqGuard op t xo (.const .nilIface) x .nilIface).run P w = .ok () w := by
    intro x w hx
    rcases hx with rfl | ⟨t', x', rfl⟩
    · rw [eqGuard_nil_constR]; rfl
    · exact eqGuard_run (by simp) (by simp) w
  unfold nilCmp at h
  split at h
  · rename_i ms hu
    obtain ⟨hx, h⟩ := h
    refine ⟨_, fun w => ?_, h⟩
    rw [Sem.run_bind, gd x w hx, Result.andThen_ok]
    rcases hx with rfl | ⟨t', x', rfl⟩
    · exact eqE _ _ w _ (eqIn_nil _ hu w)
    · exact eqE _ _ w _ (eqIn_if _ hu t' x' w)
  · rename_i ms hu
    obtain ⟨hx, h⟩ := h
    refine ⟨_, fun w => ?_, h⟩
    rw [Sem.run_bind, gd x w hx, Result.andThen_ok]
    rcases hx with rfl | ⟨t', x', rfl⟩
    · exact eqN _ _ w _ (eqIn_nil _ hu w)
    · exact eqN _ _ w _ (eqIn_if _ hu t' x' w)
  · rename_i e a b hu
    split at h
    · rename_i p n c
      refine ⟨_, fun w => ?_, h⟩
      rw [Sem.run_bind, eqGuard_run (by simp) (by simp), Result.andThen_ok]
      exact eqE _ _ w _ (eqIn_sl _ hu _ _ _ _ _ w)
    · exact h.elim
  · rename_i e a b hu
    split at h
    · rename_i p n c
      refine ⟨_, fun w => ?_, h⟩
      rw [Sem.run_bind, eqGuard_run (by simp) (by simp), Result.andThen_ok]
      exact eqN _ _ w _ (eqIn_sl _ hu _ _ _ _ _ w)
    · exact h.elim
  · exact h.elim
theorem semPure_sound {o : Oper} {K : Value -> Prop} (h : semPure P φ o K) : ∃ v, (∀ w, Yes P φ o v w) /\ K v := by
  unfold Yes
  obtain ⟨dst, op, ty, pos, after, guard⟩ := o
  unfold semPure at h
  cases op <;> simp only [] at h <;> try (exact h.elim)
  case move x => exact ⟨_, fun w => by simp [execOp], h⟩
  case assign x => exact ⟨_, fun w => by simp [execOp], h⟩
  case pick c a b =>
    unfold pickS at h
    split at h
    · rename_i t ht
      exact ⟨_, fun w => by cases t <;> simp [execOp, ht, asBool], h⟩
    · exact h.elim
  case build t parts =>
    obtain ⟨v, hv, hk⟩ := buildS_sound h
    refine ⟨v, fun w => ?_, hk⟩
    have e : (parts.map fun (x : Nat × Operand) => (x.1, ev φ x.2)) = ⟨parts.toList.map fun (x : Nat × Operand) => (x.1, ev φ x.2)⟩ := by apply Array.ext'; simp
    simp only [execOp]
    exact exec_v (by rw [e]; exact hv w)
  case nilCheck x =>
    unfold nilS at h
    split at h
    · rename_i p hp
      obtain ⟨a, rfl, h⟩ := ptrS_elim h
      exact ⟨_, fun w => by simp [execOp, hp], h⟩
    · rename_i f a c hp
      exact ⟨_, fun w => by simp [execOp, hp], h⟩
    · exact h.elim
  case binOp op t x y yt =>
    have old : binS P op t (ev φ x) (ev φ y) K -> ∃ v, (∀ w, (execOp (ev φ) ⟨dst, .binOp op t x y yt, ty, pos, after, guard⟩).run P w = .ok (.value v) w) /\ K v := fun h => by
      obtain ⟨v, hv, hk⟩ := binS_sound (xo := x) (yo := y) h
      exact ⟨v, fun w => by simp only [execOp]; exact exec_v (hv w), hk⟩
    cases y with
    | const c =>
      simp only at h
      cases hc : nilLit c with
      | false => rw [hc] at h; exact old h
      | true =>
        rw [hc] at h
        obtain ⟨v, hv, hk⟩ := nilCmp_sound (xo := x) h
        exact ⟨v, fun w => by simp only [execOp]; exact exec_v (hv w), hk⟩
    | tmp n => exact old h
    | global n => exact old h
    | func n => exact old h
  case unOp op t x =>
    unfold unS at h
    split at h
    · rename_i b hb
      exact ⟨_, fun w => by simp [execOp, hb, Op.unary], h⟩
    · rename_i k n hb
      obtain ⟨z, rfl, h⟩ := h
      exact ⟨_, fun w => by simp [execOp, hb, Op.unary, Op.intArith], h⟩
    · exact h.elim
  case convert s d x =>
    split at h
    · rename_i ds hs
      unfold convS at h
      split at h
      · rename_i k k' n hd hx
        obtain ⟨z, rfl, h⟩ := h
        exact ⟨_, fun w => by simp [execOp, hx, convert, underlying_run hs, underlying_run hd, Conv.intToInt], h⟩
      · rename_i sv hd hx
        exact ⟨_, fun w => by simp [execOp, hx, convert, underlying_run hs, underlying_run hd], h⟩
      · exact h.elim
    · exact h.elim
  case makeInterface t x =>
    unfold ifaceS at h
    split at h
    · exact h.elim
    · rename_i d hu hd
      exact ⟨_, fun w => by
        simp only [execOp]
        refine exec_v ?_
        simp only [Instr.makeInterface, Sem.run_bind, underlying_run ‹P.underlying t = some _›, Result.andThen_ok]
        rfl, h⟩
    · exact h.elim
  case makeFunc fn first captured =>
    exact ⟨_, fun w => by simp only [execOp, Instr.makeFunc, mapL]; rfl, h⟩
  case slice t x lo hi mx =>
    obtain ⟨v, hv, hk⟩ := sliceS_sound h
    exact ⟨v, fun w => by simp only [execOp]; exact exec_v (hv w), hk⟩
  case fieldAddr t x i =>
    obtain ⟨v, hv, hk⟩ := fieldAddrS_sound h
    exact ⟨v, fun w => by simp only [execOp]; exact exec_v (hv w), hk⟩
  case field t x i =>
    obtain ⟨v, hv, hk⟩ := fieldS_sound h
    exact ⟨v, fun w => by simp only [execOp]; exact exec_v (hv w), hk⟩
  case indexAddr t x i =>
    obtain ⟨v, hv, hk⟩ := indexAddrS_sound h
    exact ⟨v, fun w => by simp only [execOp]; exact exec_v (hv w), hk⟩
  case index t x i =>
    obtain ⟨v, hv, hk⟩ := indexS_sound h
    exact ⟨v, fun w => by simp only [execOp]; exact exec_v (hv w), hk⟩
  case extract x i =>
    obtain ⟨v, hv, hk⟩ := extractS_sound h
    exact ⟨v, fun w => by simp only [execOp]; exact exec_v (hv w), hk⟩
  case call c =>
    obtain ⟨callee, args, ats⟩ := c
    simp only [] at h
    split at h
    · rename_i x t hargs hts
      obtain ⟨v, hv, hk⟩ := lenS_sound (ty := ty) h
      refine ⟨v, fun w => ?_, hk⟩
      simp only [execOp, resolve, Sem.run_bind, Sem.run_pure, Result.andThen_ok, invoke, builtin, mapL]
      have e1 : ats = #[t] := by apply Array.ext'; simpa using hts
      rw [hargs, e1, hv w]
      rfl
    · rename_i x t hargs hts
      obtain ⟨v, hv, hk⟩ := capS_sound (ty := ty) h
      refine ⟨v, fun w => ?_, hk⟩
      simp only [execOp, resolve, Sem.run_bind, Sem.run_pure, Result.andThen_ok, invoke, builtin, mapL]
      have e1 : ats = #[t] := by apply Array.ext'; simpa using hts
      rw [hargs, e1, hv w]
      rfl
    · rename_i b hnot hnot2
      obtain ⟨v, hv, hk⟩ := minMaxS_sound (P := P) (ts := ats) (ty := ty) (cb := args.map fun | .const _ => true | _ => false) (cs := ats) h
      refine ⟨v, fun w => ?_, hk⟩
      simp only [execOp, resolve, Sem.run_bind, Sem.run_pure, Result.andThen_ok, invoke, mapL]
      exact hv w
    · exact h.elim
theorem loads_run {t : TypeId} {a : Addr} {v : Value} {w : World} {x : Operand} {o : Oper} (ho : o.op = .load t x) (hx : ev φ x = .pointer (some a)) (h : Loads P t a v w) : Yes P φ o v w := by
  obtain ⟨dst, op, ty, pos, after, guard⟩ := o
  simp only at ho
  subst ho
  unfold Yes
  simp only [execOp]
  refine exec_v ?_
  rw [hx]
  simp only [Instr.loadAt, Instr.sureAddr, Sem.run_bind, Sem.run_pure, Result.andThen_ok]
  exact h
theorem semRead_sound {C : World -> Prop} {rd : (World -> Prop) -> Prop} (hrd : ∀ p, rd p -> ∀ w, C w -> p w) {o : Oper} {K : Value -> Prop} (h : semRead P rd φ o K) :
    ∃ v, (∀ w, C w -> Yes P φ o v w) /\ K v := by
  unfold semRead at h
  obtain ⟨dst, op, ty, pos, after, guard⟩ := o
  cases op <;> simp only [] at h <;> try (exact h.elim)
  case load t x =>
    split at h
    · rename_i p hp
      obtain ⟨ad, rfl, h⟩ := ptrS_elim h
      obtain ⟨v, h1, h2⟩ := exV_elim h
      exact ⟨v, fun w hw => loads_run rfl hp (hrd _ h1 w hw), h2⟩
    · exact h.elim
  case convert s d x =>
    obtain ⟨v, h1, h2⟩ := exV_elim h
    exact ⟨v, fun w hw => by unfold Yes; simp only [execOp]; exact exec_v (hrd _ h1 w hw), h2⟩
  case lookup t m k ok =>
    obtain ⟨v, h1, h2⟩ := exR_elim h
    exact ⟨v, fun w hw => by unfold Yes; simp only [execOp]; exact exec_v (hrd _ h1 w hw), h2⟩
  case call c =>
    obtain ⟨callee, args, ats⟩ := c
    simp only [] at h
    split at h
    · rename_i x hargs
      obtain ⟨v, h1, h2⟩ := exS_elim h
      refine ⟨v, fun w hw => ?_, h2⟩
      have h3 := hrd _ h1 w hw
      unfold Yes
      simp only [execOp, resolve, Sem.run_bind, Sem.run_pure, Result.andThen_ok, invoke, builtin, mapL]
      rw [hargs]
      have h4 : (Builtin.len_ ats ty ⟨[x]⟩).run P w = .ok v w := h3
      rw [h4]; rfl
    · exact h.elim
inductive Goes (P : Program) (φ : Fr) (o : Oper) (w : World) (K : Value -> World -> Prop) : Prop where
  | value (v : Value) (w' : World) (h : (execOp (ev φ) o).run P w = .ok (.value v) w') (k : K v w')
  | skip (w' : World) (h : (execOp (ev φ) o).run P w = .ok .skip w') (k : K undef w')
  | enter (g : FuncId) (args : Array Value) (h : (execOp (ev φ) o).run P w = .ok (.enter g args) w) (k : Calls P g args w fun e w' => ∃ v, e = .returned v /\ K v w')
theorem Goes.mono {o : Oper} {w : World} {K K' : Value -> World -> Prop} (hk : ∀ v w', K v w' -> K' v w') (h : Goes P φ o w K) : Goes P φ o w K' := by
  cases h with
  | value v w' h k => exact .value v w' h (hk _ _ k)
  | skip w' h k => exact .skip w' h (hk _ _ k)
  | enter g args h k => exact .enter g args h (k.mono fun e w' ⟨v, he, hv⟩ => ⟨v, he, hk _ _ hv⟩)
theorem Goes.some {o : Oper} {w : World} {K : Value -> World -> Prop} (h : Goes P φ o w K) : ∃ v w', K v w' := by
  cases h with
  | value v w' h k => exact ⟨v, w', k⟩
  | skip w' h k => exact ⟨_, w', k⟩
  | enter g args h k =>
    obtain ⟨e, w', fr, ⟨v, _, hv⟩, _⟩ := k []
    exact ⟨v, w', hv⟩
theorem goFunc_call {g : FuncId} (h : goFunc P g = true) (args : Array Value) (w : World) : (callFunc g args).run P w = .ok (.enter g args) w := by
  unfold goFunc at h
  split at h
  · rename_i fn hf
    simp only [Bool.and_eq_true, Bool.not_eq_true'] at h
    have h1 : fn.body.isNone = false := by cases hb : fn.body with
      | none => rw [hb] at h; simp at h
      | some _ => rfl
    simp only [callFunc, Sem.run_bind, run_program, Result.andThen_ok, hf, h.2, h1, Bool.false_eq_true, if_false, Sem.run_pure]
  · cases h
theorem callS_goes {g : FuncId} {args : List Value} {rs : List VS} {w : World} {K : Value -> World -> Prop} {o : Oper}
    (hrun : (execOp (ev φ) o).run P w = .ok (.enter g ⟨args⟩) w) (h : CallS P g args rs w K) : Goes P φ o w K :=
  .enter g _ hrun (h.mono fun e w' he => by
    obtain ⟨v, h1, h2⟩ := exR_elim he
    exact ⟨v, h1, h2⟩)
theorem boxS_goes {t : TypeId} {cs : List Value} {w : World} {K : Value -> World -> Prop} {o : Oper}
    (hrun : (execOp (ev φ) o).run P w = .ok (.value (.pointer (some ⟨w.heap.size, 0, none⟩))) (w.alloc (.cells ⟨cs⟩ t))) (h : boxS t cs w K) : Goes P φ o w K :=
  .value _ _ hrun (h _ _ ⟨rfl, rfl⟩)
theorem makeS_goes {t : TypeId} {n m : Value} {w : World} {K : Value -> World -> Prop} (h : makeS P t n m w K) :
    ∃ v w', (Instr.makeSlice t n m).run P w = .ok v w' /\ K v w' := by
  unfold makeS at h
  split at h
  · rename_i e kn n km m hu
    split at h
    · rename_i inf hi
      split at h
      · rename_i z hz
        cases hb : (Nat.ble 1 inf.bytes && Nat.ble 1 inf.size) with
        | false => rw [hb] at h; exact h.elim
        | true =>
          rw [hb] at h
          simp only [cond_true] at h
          obtain ⟨⟨h0, h1, h2⟩, h⟩ := h
          simp only [Bool.and_eq_true] at hb
          have hby : 1 <= inf.bytes := Nat.le_of_ble_eq_true hb.1
          have hsz : 1 <= inf.size := Nat.le_of_ble_eq_true hb.2
          have hm : m <= 281474976710656 := by
            have : (1 : Int) * m <= inf.bytes * m := Int.mul_le_mul_of_nonneg_right (by omega) (by omega)
            omega
          have wrapId : ∀ z : Int, 0 <= z -> z <= 281474976710656 -> IntKind.i64.wrap z = z := by
            intro z hz0 hz1
            simp only [IntKind.wrap, IntKind.bits, IntKind.signed]
            have : z % (2 ^ 64 : Int) = z := Int.emod_eq_of_lt hz0 (by omega)
            simp [this]; omega
          have wn := wrapId n h0 (by omega)
          have wm := wrapId m (by omega) hm
          refine ⟨_, _, ?_, h _ _ ⟨rfl, rfl⟩⟩
          have c1 : ¬ (n < 0) := by omega
          have c2 : ¬ (m < 0) := by omega
          have c3 : ¬ (inf.bytes * m > (2 : Int) ^ 48) := by omega
          have c4 : ¬ (n > m) := by omega
          simp only [Instr.makeSlice, Sem.run_bind, underlying_run hu, Result.andThen_ok, asInt, asIntOf, Sem.run_pure, typeInfo_run hi, wn, wm]
          have hcond : (decide (m < 0) || decide (inf.bytes * m > (2 : Int) ^ 48)) = false := by simp [c2]; omega
          rw [if_neg (by simp [c3, c1, c4, c2]; exact h2)]
          simp only [Sem.run_bind, run_askRoom, Result.andThen_ok, sizeOf_run hi]
          by_cases hz0 : m.toNat * inf.size = 0
          · have e3 : zeroRow z (m.toNat * inf.size) = [] := by rw [hz0]; rfl
            rw [if_pos hz0, e3]
            have e4 : ((Array.range 0).map fun x => (#[] : Array Value)[x % (#[] : Array Value).size]!) = #[] := by simp
            simp only [hz0, Sem.run_bind, Sem.run_pure, Result.andThen_ok, e4, newRow, run_newObj, World.alloc_eq]
          · have e3 : ((Array.range (m.toNat * inf.size)).map fun x => z.cells[x % z.cells.size]!) = ⟨zeroRow z (m.toNat * inf.size)⟩ := by
              apply Array.ext'; simp [zeroRow]
            rw [if_neg hz0]
            simp only [Sem.run_bind, zeroValue, typeInfo_run hi, hz, Result.andThen_ok, Sem.run_pure, e3, newRow, run_newObj, World.alloc_eq]
      · exact h.elim
    · exact h.elim
  · exact h.elim
theorem buildSliceS_goes {t : TypeId} {len : Nat} {parts : List (Nat × Value)} {w : World} {K : Value -> World -> Prop} (h : buildSliceS P t len parts w K) :
    ∃ v w', (Instr.buildSlice t len ⟨parts⟩).run P w = .ok v w' /\ K v w' := by
  unfold buildSliceS at h
  split at h
  · rename_i e hu
    split at h
    · rename_i inf hi
      split at h
      · rename_i z hz
        cases hb : (Nat.ble (len * inf.size) 16777216 && Nat.ble 1 inf.size) with
        | false => rw [hb] at h; exact h.elim
        | true =>
          rw [hb] at h
          simp only [cond_true] at h
          split at h
          · rename_i cs hf
            simp only [Bool.and_eq_true] at hb
            have h1 : len * inf.size <= 16777216 := Nat.le_of_ble_eq_true hb.1
            refine ⟨_, _, ?_, h _ _ ⟨rfl, rfl⟩⟩
            have hfill := fillL_eq _ _ _ _ hf
            simp only [Instr.buildSlice, Sem.run_bind, underlying_run hu, Result.andThen_ok, sizeOf_run hi]
            rw [if_neg (by omega)]
            by_cases hz0 : len * inf.size = 0
            · have e3 : zeroRow z (len * inf.size) = [] := by rw [hz0]; rfl
              rw [e3] at hfill
              have e4 : ((Array.range 0).map fun x => (#[] : Array Value)[x % (#[] : Array Value).size]!) = #[] := by simp
              simp only [hz0, if_true, Sem.run_bind, Sem.run_pure, Result.andThen_ok, e4, hfill, newRow, run_newObj, World.alloc_eq]
            · have e2 : ((Array.range (len * inf.size)).map fun x => z.cells[x % z.cells.size]!) = ⟨zeroRow z (len * inf.size)⟩ := by
                apply Array.ext'; simp [zeroRow]
              simp [hz0, zeroValue, typeInfo_run hi, hz, newRow, e2, hfill]
          · exact h.elim
      · exact h.elim
    · exact h.elim
  · exact h.elim
theorem exec_vv {s : Sem Value} {v : Value} {w w' : World} (h : s.run P w = .ok v w') :
    ((do pure (.value (<- s)) : Sem Next).run P w) = .ok (.value v) w' := by
  rw [Sem.run_bind, h]; rfl
theorem exec_u {s : Sem Unit} {w w' : World} (h : s.run P w = .ok () w') :
    ((do s; pure .skip : Sem Next).run P w) = .ok .skip w' := by
  rw [Sem.run_bind, h]; rfl
theorem semEff_sound {o : Oper} {w : World} {K : Value -> World -> Prop} (h : semEff P φ o w K) : Goes P φ o w K := by
  unfold semEff at h
  obtain ⟨dst, op, ty, pos, after, guard⟩ := o
  cases op <;> simp only [] at h <;> try (exact h.elim)
  case alloc t =>
    unfold allocS at h
    split at h
    · rename_i inf hi
      split at h
      · rename_i z hz
        refine boxS_goes ?_ h
        simp [execOp, Instr.alloc, zeroValue, typeInfo_run hi, hz, newVar, newRow]
      · exact h.elim
    · exact h.elim
  case box t x =>
    refine boxS_goes ?_ h
    simp [execOp, Instr.box, newVar, newRow]
  case buildSlice t len parts =>
    obtain ⟨v, w', hv, hk⟩ := buildSliceS_goes h
    refine .value v w' ?_ hk
    have e : (parts.map fun (x : Nat × Operand) => (x.1, ev φ x.2)) = ⟨parts.toList.map fun (x : Nat × Operand) => (x.1, ev φ x.2)⟩ := by apply Array.ext'; simp
    simp only [execOp]
    exact exec_vv (by rw [e]; exact hv)
  case insert t m k x =>
    obtain ⟨w', h1, h2⟩ := h
    exact .skip w' (by simp only [execOp]; exact exec_u h1) h2
  case store t a x =>
    split at h
    · rename_i p hp
      obtain ⟨ad, rfl, w', h1, h2⟩ := ptrS_elim h
      refine .skip w' ?_ h2
      simp only [execOp]
      refine exec_u ?_
      rw [hp]
      simp only [Instr.storeAt, Instr.sureAddr, Sem.run_bind, Sem.run_pure, Result.andThen_ok]
      exact h1
    · exact h.elim
  case convert s d x =>
    obtain ⟨v, w', h1, h2⟩ := exV_elim h
    exact .value v w' (by simp only [execOp]; exact exec_vv h1) h2
  case makeMap t r =>
    cases r with
    | some _ => exact h.elim
    | none => exact .value _ _ (by simp [execOp, Instr.makeMap]) (h _ _ ⟨rfl, rfl⟩)
  case makeSlice t n m =>
    obtain ⟨v, w', hv, hk⟩ := makeS_goes h
    exact .value v w' (by simp only [execOp]; exact exec_vv hv) hk
  case mapUpdate t m k x =>
    obtain ⟨w', h1, h2⟩ := h
    exact .skip w' (by simp only [execOp]; exact exec_u h1) h2
  case call c =>
    obtain ⟨callee, args, ats⟩ := c
    simp only [] at h
    split at h
    · rename_i g
      cases hg : goFunc P g with
      | false =>
        rw [hg] at h
        obtain ⟨v, w', h1, h2⟩ := exR_elim h
        refine .value v w' ?_ h2
        have h3 : (callFunc g ⟨args.toList.map (ev φ)⟩).run P w = .ok (.value v) w' := h1
        simp [execOp, resolve, Deferred.ofValue, ev, invoke, mapL, h3]
      | true =>
        rw [hg] at h
        refine callS_goes ?_ h
        simp [execOp, resolve, Deferred.ofValue, ev, invoke, goFunc_call hg, mapL]
    · rename_i f hnf
      obtain ⟨g, first, captured, hf, hg, h⟩ := h
      refine callS_goes ?_ h
      simp [execOp, resolve, Deferred.ofValue, hf, invoke, goFunc_call hg, mapL]
    · obtain ⟨v, w', h1, h2⟩ := exS_elim h
      refine .value v w' ?_ h2
      have h3 : (Builtin.append_ ats ty ⟨args.toList.map (ev φ)⟩).run P w = .ok v w' := h1
      simp only [execOp, resolve, Sem.run_bind, Sem.run_pure, Result.andThen_ok, invoke, builtin, mapL, h3]
    · obtain ⟨v, w', h1, h2⟩ := exS_elim h
      refine .value v w' ?_ h2
      have h3 : (Builtin.copy_ ats ty ⟨args.toList.map (ev φ)⟩).run P w = .ok v w' := h1
      simp only [execOp, resolve, Sem.run_bind, Sem.run_pure, Result.andThen_ok, invoke, builtin, mapL, h3]
    · obtain ⟨v, w', h1, h2⟩ := h
      refine .value v w' ?_ h2
      have h3 : (Builtin.delete_ ats ty ⟨args.toList.map (ev φ)⟩).run P w = .ok v w' := h1
      simp only [execOp, resolve, Sem.run_bind, Sem.run_pure, Result.andThen_ok, invoke, builtin, mapL, h3]
    · exact h.elim
end
end Go.Proofs.YtgbknjdjbahdkaaGreatDoor.Sx
namespace Go.Proofs.YtgbknjdjbahdkaaGreatDoor.Sx
open Go Go.RowKit
def Ext (w w' : World) : Prop := Below w.heap.size w w'
theorem Ext.refl (w : World) : Ext w w := Below.refl _ _
theorem Ext.trans {a b c : World} (h : Ext a b) (k : Ext b c) : Ext a c := Below.trans h (Below.mono k h.size)
theorem Ext.drew (w : World) : Ext w w.drew := (Below.refl _ _).drew
structure Chg (S : List Nat) (w w' : World) : Prop where
  os : w'.os = w.os
  tape : w'.tape = w.tape
  output : w'.output = w.output
  size : w.heap.size <= w'.heap.size
  block : ∀ k, k < w.heap.size -> k ∉ S -> w'.heap[k]? = w.heap[k]?
theorem Chg.refl (S : List Nat) (w : World) : Chg S w w := ⟨rfl, rfl, rfl, Nat.le_refl _, fun _ _ _ => rfl⟩
theorem Chg.trans {S : List Nat} {a b c : World} (h : Chg S a b) (k : Chg S b c) : Chg S a c :=
  ⟨k.os.trans h.os, k.tape.trans h.tape, k.output.trans h.output, Nat.le_trans h.size k.size, fun i hi hn => (k.block i (Nat.lt_of_lt_of_le hi h.size) hn).trans (h.block i hi hn)⟩
theorem Chg.mono {S T : List Nat} {a b : World} (h : Chg S a b) (hs : ∀ k ∈ S, k ∈ T) : Chg T a b :=
  ⟨h.os, h.tape, h.output, h.size, fun i hi hn => h.block i hi fun hm => hn (hs i hm)⟩
theorem Ext.toChg {S : List Nat} {a b : World} (h : Ext a b) : Chg S a b := ⟨h.os, h.tape, h.output, h.size, fun i hi _ => h.block i hi⟩
theorem Ext.chg {S : List Nat} {a b c : World} (h : Ext a b) (k : Chg S b c) (hS : ∀ x ∈ S, a.heap.size <= x) : Ext a c :=
  ⟨k.os.trans h.os, k.tape.trans h.tape, k.output.trans h.output, Nat.le_trans h.size k.size,
    fun i hi => (k.block i (Nat.lt_of_lt_of_le hi h.size) fun hm => by have := hS i hm; omega).trans (h.block i hi)⟩
def EX (S : List Nat) (a b : World) : Prop := match S with
  | [] => Ext a b
  | s :: r => Chg (s :: r) a b
theorem EX.refl (S : List Nat) (w : World) : EX S w w := by cases S <;> first | exact Ext.refl w | exact Chg.refl _ w
theorem EX.trans {S : List Nat} {a b c : World} (h : EX S a b) (k : EX S b c) : EX S a c := by cases S <;> first | exact Ext.trans h k | exact Chg.trans h k
theorem EX.of_ext {S : List Nat} {a b : World} (h : Ext a b) : EX S a b := by cases S <;> first | exact h | exact Ext.toChg h
def wantS (ops : Array Oper) (φ : Fr) (o : Oper) : Bool :=
  match o.guard with
  | none => true
  | some (j, want) => match (ops[j]?).bind (·.dst) with
    | some t => match φ t with
      | .bool b => b == want
      | _ => false
    | none => false
theorem wantS_eq {N : Nat} {ops : Array Oper} {φ : Fr} {a : Act} (h : Fits N φ a) (o : Oper) : Region.wanted o (yielded ops a.tmps) = wantS ops φ o := by
  unfold Region.wanted wantS yielded
  cases hg : o.guard with
  | none => rfl
  | some gw =>
    obtain ⟨j, want⟩ := gw
    simp only
    cases ht : (ops[j]?).bind (·.dst) with
    | none => rfl
    | some t =>
      simp only [Option.bind_some]
      have hgt := h.get t
      rw [<- hgt]
      by_cases hlt : t < a.tmps.size
      · rw [Array.getElem?_eq_getElem hlt]
        simp only [Array.getD, hlt, dif_pos]
        change _ = match a.tmps[t] with | .bool b => b == want | _ => false
        cases a.tmps[t] <;> rfl
      · rw [Array.getElem?_eq_none (Nat.le_of_not_lt hlt)]
        simp only [Array.getD, hlt, dif_neg, not_false_iff]
        rfl
def notSel (o : Oper) : Bool := match o.op with | .select .. => false | _ => true
theorem notSel_spec {o : Oper} (h : notSel o = true) (cs : Array SelectCase) (b : Bool) : o.op ≠ .select cs b := by
  intro e; simp [notSel, e] at h
theorem ev_put {N : Nat} {φ : Fr} {dst : Option Tmp} {v : Value} {x : Operand} (h : ∀ d, dst = some d -> x ≠ .tmp d) : ev (φ.put N dst v) x = ev φ x := by
  cases dst with
  | none => rfl
  | some d =>
    cases x with
    | tmp t =>
      have hne : t ≠ d := fun e => h d rfl (e ▸ rfl)
      have hb : Nat.beq t d = false := by
        cases hb : Nat.beq t d with
        | false => rfl
        | true => exact absurd (Nat.eq_of_beq_eq_true hb) hne
      simp [ev, Fr.put, hb]
    | _ => rfl
theorem put_other {N : Nat} {φ : Fr} {dst : Option Tmp} {v : Value} {t : Tmp} (h : ∀ d, dst = some d -> t ≠ d) : φ.put N dst v t = φ t := by
  have := ev_put (N := N) (φ := φ) (dst := dst) (v := v) (x := .tmp t) (fun d hd e => h d hd (by cases e; rfl))
  simpa [ev] using this
theorem put_comm {N : Nat} (φ : Fr) {x y : Option Tmp} (v u : Value) (h : ∀ d, x = some d -> y ≠ some d) :
    (φ.put N x v).put N y u = (φ.put N y u).put N x v := by
  cases x with
  | none => rfl
  | some d =>
    cases y with
    | none => rfl
    | some e =>
      have hne : d ≠ e := fun he => h d rfl (he ▸ rfl)
      funext n
      simp only [Fr.put]
      cases h1 : Nat.beq n e <;> cases h2 : Nat.beq n d <;> simp
      exact absurd ((Nat.eq_of_beq_eq_true h2).symm.trans (Nat.eq_of_beq_eq_true h1)) hne
theorem exec_put {N : Nat} {ops : Array Oper} (o : Oper) (hs : notSel o = true) (φ : Fr) (dst : Option Tmp) (v : Value) (h : ∀ d, dst = some d -> d ∉ o.looksAt ops) :
    execOp (ev (φ.put N dst v)) o = execOp (ev φ) o :=
  execOp_congr o (notSel_spec hs) fun x hx => ev_put fun d hd hxd => h d hd (by
    subst hxd
    exact List.mem_append_left _ (List.mem_filterMap.2 ⟨.tmp d, by simpa using hx, rfl⟩))
theorem want_put {N : Nat} {ops : Array Oper} (o : Oper) (φ : Fr) (dst : Option Tmp) (v : Value) (h : ∀ d, dst = some d -> d ∉ o.looksAt ops) :
    wantS ops (φ.put N dst v) o = wantS ops φ o := by
  unfold wantS
  cases hg : o.guard with
  | none => rfl
  | some gw =>
    obtain ⟨j, want⟩ := gw
    simp only
    cases ht : (ops[j]?).bind (·.dst) with
    | none => rfl
    | some t =>
      simp only
      rw [put_other fun d hd e => h d hd (by subst e; simp [Oper.looksAt, hg, ht])]
theorem Yes.congr {P : Program} {φ φ' : Fr} {o : Oper} {v : Value} {w : World} (he : execOp (ev φ') o = execOp (ev φ) o) (h : Yes P φ o v w) : Yes P φ' o v w := by
  unfold Yes at *; rw [he]; exact h
theorem Goes.congr {P : Program} {φ φ' : Fr} {o : Oper} {w : World} {K : Value -> World -> Prop} (he : execOp (ev φ') o = execOp (ev φ) o) (h : Goes P φ o w K) : Goes P φ' o w K := by
  cases h with
  | value v w' h k => exact .value v w' (by rw [he]; exact h) k
  | skip w' h k => exact .skip w' (by rw [he]; exact h) k
  | enter g args h k => exact .enter g args (by rw [he]; exact h) k
def maskOf (acc : List Nat) (o : Oper) : Nat :=
 o.after.toList.foldl (fun s e => cond (Region.binds .any e) (s ||| 2 ^ e.on ||| acc.getD e.on 0) s) 0
def masks : List Oper -> List Nat -> List Nat
  | [], acc => acc
  | o :: r, acc => masks r (acc ++ [maskOf acc o])
def anc (ms : List Nat) (j i : Nat) : Bool := (ms.getD j 0).testBit i
theorem masks_len (l : List Oper) : ∀ acc, (masks l acc).length = acc.length + l.length := by
  induction l with
  | nil => intro acc; simp [masks]
  | cons o r ih => intro acc; simp only [masks, ih, List.length_append, List.length_cons, List.length_nil]; omega
theorem masks_old (l : List Oper) : ∀ (acc : List Nat) (i : Nat), i < acc.length -> (masks l acc).getD i 0 = acc.getD i 0 := by
  induction l with
  | nil => intro acc i _; rfl
  | cons o r ih =>
    intro acc i h
    simp only [masks]
    rw [ih _ i (by simp; omega)]
    simp [List.getD, List.getElem?_append_left h]
theorem fold_mask (acc : List Nat) (i : Nat) : ∀ (l : List Edge) (s : Nat), (l.foldl (fun s e => cond (Region.binds .any e) (s ||| 2 ^ e.on ||| acc.getD e.on 0) s) s).testBit i = true ->
    s.testBit i = true ∨ ∃ e ∈ l, Region.binds .any e = true /\ (e.on = i ∨ (acc.getD e.on 0).testBit i = true)
  | [], s, h => .inl h
  | e :: l, s, h => by
    simp only [List.foldl_cons] at h
    rcases fold_mask acc i l _ h with h | ⟨e', he', h⟩
    · cases hb : Region.binds .any e with
      | false => rw [hb] at h; exact .inl h
      | true =>
        rw [hb] at h
        simp only [cond_true, Nat.testBit_or, Bool.or_eq_true] at h
        rcases h with (h | h) | h
        · exact .inl h
        · refine .inr ⟨e, by simp, hb, .inl ?_⟩
          rw [Nat.testBit_two_pow] at h
          simpa using h
        · exact .inr ⟨e, by simp, hb, .inr h⟩
    · exact .inr ⟨e', by simp [he'], h⟩
theorem masks_spec (l : List Oper) : ∀ (acc : List Nat) (j i : Nat) (o : Oper), l[j]? = some o -> anc (masks l acc) (acc.length + j) i = true ->
    ∃ e ∈ o.after.toList, Region.binds .any e = true /\ (e.on = i ∨ (e.on < acc.length + j /\ anc (masks l acc) e.on i = true)) := by
  induction l with
  | nil => intro acc j i o h; simp at h
  | cons x r ih =>
    intro acc j i o hj h
    cases j with
    | zero =>
      simp only [List.getElem?_cons_zero, Option.some.injEq] at hj
      subst hj
      simp only [anc, Nat.add_zero, masks] at h
      rw [masks_old r _ acc.length (by simp)] at h
      have : (acc ++ [maskOf acc x]).getD acc.length 0 = maskOf acc x := by simp [List.getD]
      rw [this] at h
      rcases fold_mask acc i _ _ h with h | ⟨e, he, hb, h⟩
      · simp at h
      · refine ⟨e, he, hb, ?_⟩
        rcases h with h | h
        · exact .inl h
        · have hlt : e.on < acc.length := by
            rcases Nat.lt_or_ge e.on acc.length with h' | h'
            · exact h'
            · simp [List.getD, List.getElem?_eq_none h'] at h
          refine .inr ⟨by omega, ?_⟩
          simp only [anc, masks]
          rw [masks_old r _ e.on (by simp; omega)]
          simpa [List.getD, List.getElem?_append_left hlt] using h
    | succ j =>
      simp only [List.getElem?_cons_succ] at hj
      have := ih (acc ++ [maskOf acc x]) j i o hj
      simp only [List.length_append, List.length_cons, List.length_nil, Nat.zero_add] at this
      simp only [masks] at h ⊢
      rw [show acc.length + (j + 1) = acc.length + 1 + j by omega] at h ⊢
      exact this h
def msOf (ops : Array Oper) : List Nat := masks ops.toList []
theorem anc_spec {ops : Array Oper} {j i : Nat} {o : Oper} (ho : ops[j]? = some o) (h : anc (msOf ops) j i = true) :
    ∃ e ∈ o.after.toList, Region.binds .any e = true /\ (e.on = i ∨ (e.on < j /\ anc (msOf ops) e.on i = true)) := by
  have := masks_spec ops.toList [] j i o (by simpa using ho)
  simp only [List.length_nil, Nat.zero_add] at this
  exact this h
theorem anc_some {ops : Array Oper} {j i : Nat} (h : anc (msOf ops) j i = true) : ∃ o, ops[j]? = some o := by
  have hlen := masks_len ops.toList []
  simp only [List.length_nil, Nat.zero_add, Array.length_toList] at hlen
  rcases Nat.lt_or_ge j ops.size with h' | h'
  · exact ⟨_, Array.getElem?_eq_getElem h'⟩
  · unfold anc msOf at h
    rw [List.getD, List.getElem?_eq_none (by omega)] at h
    simp at h
def needExt (P : Program) (ops : Array Oper) (ms : List Nat) (i : Nat) : Bool :=
  (List.range ops.size).any fun k => match ops[k]? with
    | some o => (match kindOf P o with | .read => true | _ => false) && !(Nat.beq k i) && !(anc ms k i) && !(anc ms i k)
    | none => false
def needS (P : Program) (ops : Array Oper) : Bool :=
  (List.range ops.size).any fun i => (match ops[i]? with | some o => (match o.op with | .store .. => true | _ => false) | none => false) && needExt P ops (msOf ops) i
def upd (ms : List Nat) (wds : Nat -> World) (i : Nat) (w' : World) : Nat -> World := fun j => cond (anc ms j i) w' (wds j)
def Cls (P : Program) (S : List Nat) (o : Oper) (W : World) (w' : World) : Prop :=
  match kindOf P o with
  | .pure => True
  | .read => EX S W w'
  | .eff => False
section
variable (P : Program) (N : Nat) (ops : Array Oper) (S : List Nat)
def St (i : Nat) (o : Oper) (wds : Nat -> World) (φ : Fr) (w : World) (G : (Nat -> World) -> Fr -> World -> Prop) : Prop :=
  if wantS ops φ o then
    match kindOf P o with
    | .eff => Goes P φ o w fun v w' => (needExt P ops (msOf ops) i = true -> EX S w w') /\ G (upd (msOf ops) wds i w') (φ.put N o.dst v) w'
    | _ => ∃ v, (∀ w', Cls P S o (wds i) w' -> Yes P φ o v w') /\ G wds (φ.put N o.dst v) w
  else G wds (φ.put N o.dst undef) w
def drP : List Nat -> ((Nat -> World) -> Fr -> World -> Prop) -> (Nat -> World) -> Fr -> World -> Prop
  | [], K => K
  | i :: R, K => fun wds φ w => match ops[i]? with
    | none => False
    | some o => St P N ops S i o wds φ w (drP R K)
end
section
variable {P : Program} {N : Nat} {ops : Array Oper} {S : List Nat}
def Nx (P : Program) (ops : Array Oper) (S : List Nat) (i : Nat) (o : Oper) (wds : Nat -> World) (w : World) (wds' : Nat -> World) (w' : World) : Prop :=
 (wds' = wds /\ w' = w) ∨ (kindOf P o = .eff /\ (needExt P ops (msOf ops) i = true -> EX S w w') /\ wds' = upd (msOf ops) wds i w')
theorem St.mono {i : Nat} {o : Oper} {wds : Nat -> World} {φ : Fr} {w : World} {G G' : (Nat -> World) -> Fr -> World -> Prop}
    (hG : ∀ wds' φ' w', Nx P ops S i o wds w wds' w' -> G wds' φ' w' -> G' wds' φ' w') (h : St P N ops S i o wds φ w G) : St P N ops S i o wds φ w G' := by
  unfold St at *
  split
  · rename_i hw
    rw [if_pos hw] at h
    cases hk : kindOf P o with
    | eff => rw [hk] at h; exact h.mono fun v w' ⟨h1, h2⟩ => ⟨h1, hG _ _ _ (.inr ⟨hk, h1, rfl⟩) h2⟩
    | pure => rw [hk] at h; obtain ⟨v, h1, h2⟩ := h; exact ⟨v, h1, hG _ _ _ (.inl ⟨rfl, rfl⟩) h2⟩
    | read => rw [hk] at h; obtain ⟨v, h1, h2⟩ := h; exact ⟨v, h1, hG _ _ _ (.inl ⟨rfl, rfl⟩) h2⟩
  · rename_i hw
    rw [if_neg hw] at h
    exact hG _ _ _ (.inl ⟨rfl, rfl⟩) h
theorem St.cases {i : Nat} {o : Oper} {wds : Nat -> World} {φ : Fr} {w : World} {G : (Nat -> World) -> Fr -> World -> Prop} (h : St P N ops S i o wds φ w G) :
    (∃ v, ((wantS ops φ o = true /\ kindOf P o ≠ .eff /\ ∀ w', Cls P S o (wds i) w' -> Yes P φ o v w') ∨ (wantS ops φ o = false /\ v = undef)) /\ G wds (φ.put N o.dst v) w) ∨
    (wantS ops φ o = true /\ kindOf P o = .eff /\ Goes P φ o w fun v w' => (needExt P ops (msOf ops) i = true -> EX S w w') /\ G (upd (msOf ops) wds i w') (φ.put N o.dst v) w') := by
  unfold St at h
  split at h
  · rename_i hw
    cases hk : kindOf P o with
    | eff => rw [hk] at h; exact .inr ⟨hw, rfl, h⟩
    | pure => rw [hk] at h; obtain ⟨v, h1, h2⟩ := h; exact .inl ⟨v, .inl ⟨hw, by simp, h1⟩, h2⟩
    | read => rw [hk] at h; obtain ⟨v, h1, h2⟩ := h; exact .inl ⟨v, .inl ⟨hw, by simp, h1⟩, h2⟩
  · rename_i hw
    exact .inl ⟨undef, .inr ⟨by simpa using hw, rfl⟩, h⟩
theorem St.quiet {i : Nat} {o : Oper} {wds : Nat -> World} {φ : Fr} {w : World} {G : (Nat -> World) -> Fr -> World -> Prop} {v : Value}
    (h : (wantS ops φ o = true /\ kindOf P o ≠ .eff /\ ∀ w', Cls P S o (wds i) w' -> Yes P φ o v w') ∨ (wantS ops φ o = false /\ v = undef)) (hG : G wds (φ.put N o.dst v) w) : St P N ops S i o wds φ w G := by
  unfold St
  rcases h with ⟨hw, hk, h⟩ | ⟨hw, rfl⟩
  · rw [if_pos hw]
    cases hk' : kindOf P o with
    | eff => exact absurd hk' hk
    | pure => exact ⟨v, h, hG⟩
    | read => exact ⟨v, h, hG⟩
  · rw [if_neg (by simp [hw])]; exact hG
theorem St.loud {i : Nat} {o : Oper} {wds : Nat -> World} {φ : Fr} {w : World} {G : (Nat -> World) -> Fr -> World -> Prop} (hw : wantS ops φ o = true) (hk : kindOf P o = .eff)
    (h : Goes P φ o w fun v w' => (needExt P ops (msOf ops) i = true -> EX S w w') /\ G (upd (msOf ops) wds i w') (φ.put N o.dst v) w') : St P N ops S i o wds φ w G := by
  unfold St
  rw [if_pos hw, hk]
  exact h
structure Indep (P : Program) (ops : Array Oper) (r j : Nat) (or oj : Oper) : Prop where
  apart : or.apart ops oj = true
  one : ¬ (kindOf P or = .eff /\ kindOf P oj = .eff)
  n1 : anc (msOf ops) j r = false
  n2 : anc (msOf ops) r j = false
  s1 : notSel or = true
  s2 : notSel oj = true
theorem St.swap {r j : Nat} {or oj : Oper} {wds : Nat -> World} {φ : Fr} {w : World} {G : (Nat -> World) -> Fr -> World -> Prop} (hi : Indep P ops r j or oj)
    (hC : kindOf P oj = .read -> EX S (wds j) w)
    (h : St P N ops S r or wds φ w fun wds1 φ1 w1 => St P N ops S j oj wds1 φ1 w1 G) :
    St P N ops S j oj wds φ w fun wds2 φ2 w2 => St P N ops S r or wds2 φ2 w2 G := by
  obtain ⟨hap, hone, hn1, hn2, hs1, hs2⟩ := hi
  obtain ⟨a1, a2, a3⟩ := Oper.apart_spec hap
  have updj : ∀ w', upd (msOf ops) wds r w' j = wds j := fun w' => by simp [upd, hn1]
  have updr : ∀ w', upd (msOf ops) wds j w' r = wds r := fun w' => by simp [upd, hn2]
  rcases h.cases with ⟨vr, hr, h1⟩ | ⟨hwr, hkr, h1⟩
  · -- r is quiet
    rcases h1.cases with ⟨vj, hj, h2⟩ | ⟨hwj, hkj, h2⟩
    · -- so is j
      refine St.quiet (v := vj) ?_ ?_
      · rcases hj with ⟨hw, hk, hy⟩ | ⟨hw, rfl⟩
        · refine .inl ⟨by rw [<- want_put oj φ or.dst vr a1]; exact hw, hk, fun w' hc => (hy w' hc).congr (exec_put oj hs2 φ or.dst vr a1).symm⟩
        · exact .inr ⟨by rw [<- want_put oj φ or.dst vr a1]; exact hw, rfl⟩
      · refine St.quiet (v := vr) ?_ (by rw [<- put_comm φ vr vj a2]; exact h2)
        rcases hr with ⟨hw, hk, hy⟩ | ⟨hw, rfl⟩
        · exact .inl ⟨by rw [want_put or φ oj.dst vj a3]; exact hw, hk, fun w' hc => (hy w' hc).congr (exec_put or hs1 φ oj.dst vj a3)⟩
        · exact .inr ⟨by rw [want_put or φ oj.dst vj a3]; exact hw, rfl⟩
    · refine St.loud (by rw [<- want_put oj φ or.dst vr a1]; exact hwj) hkj ?_
      refine (h2.congr (exec_put oj hs2 φ or.dst vr a1).symm).mono fun vj w' ⟨he, hg⟩ => ⟨he, ?_⟩
      refine St.quiet (v := vr) ?_ (by rw [<- put_comm φ vr vj a2]; exact hg)
      rcases hr with ⟨hw, hk, hy⟩ | ⟨hw, rfl⟩
      · exact .inl ⟨by rw [want_put or φ oj.dst vj a3]; exact hw, hk, fun w'' hc => (hy w'' (by rw [updr] at hc; exact hc)).congr (exec_put or hs1 φ oj.dst vj a3)⟩
      · exact .inr ⟨by rw [want_put or φ oj.dst vj a3]; exact hw, rfl⟩
  · -- r changes the world: j is quiet
    have quiet : ∀ v w1, St P N ops S j oj (upd (msOf ops) wds r w1) (φ.put N or.dst v) w1 G ->
        ∃ vj, ((wantS ops φ oj = true /\ kindOf P oj ≠ .eff /\ ∀ w', Cls P S oj (wds j) w' -> Yes P φ oj vj w') ∨ (wantS ops φ oj = false /\ vj = undef)) /\
          G (upd (msOf ops) wds r w1) ((φ.put N or.dst v).put N oj.dst vj) w1 := by
      intro v w1 hst
      rcases hst.cases with ⟨vj, hj, h2⟩ | ⟨_, hkj, _⟩
      · refine ⟨vj, ?_, h2⟩
        rcases hj with ⟨hw, hk, hy⟩ | ⟨hw, rfl⟩
        · exact .inl ⟨by rw [<- want_put oj φ or.dst v a1]; exact hw, hk, fun w' hc => (hy w' (by rw [updj]; exact hc)).congr (exec_put oj hs2 φ or.dst v a1).symm⟩
        · exact .inr ⟨by rw [<- want_put oj φ or.dst v a1]; exact hw, rfl⟩
      · exact absurd ⟨hkr, hkj⟩ hone
    obtain ⟨v0, w0, _, hst0⟩ := h1.some
    obtain ⟨vj, hj, _⟩ := quiet v0 w0 hst0
    refine St.quiet (v := vj) hj ?_
    refine St.loud (by rw [want_put or φ oj.dst vj a3]; exact hwr) hkr ?_
    refine (h1.congr (exec_put or hs1 φ oj.dst vj a3)).mono fun v w1 ⟨he, hst⟩ => ⟨he, ?_⟩
    obtain ⟨vj', hj', hg⟩ := quiet v w1 hst
    have : vj' = vj := by
      rcases hj with ⟨hw, hk, hy⟩ | ⟨hw, rfl⟩ <;> rcases hj' with ⟨hw', hk', hy'⟩ | ⟨hw', rfl⟩
      · have hc : Cls P S oj (wds j) w := by
          unfold Cls
          cases hk3 : kindOf P oj with
          | eff => exact absurd hk3 hk
          | pure => trivial
          | read => exact hC hk3
        have e1 := hy w hc
        have e2 := hy' w hc
        unfold Yes at e1 e2
        rw [e1] at e2
        simp only [Result.ok.injEq, Next.value.injEq] at e2
        exact e2.1.symm
      · rw [hw] at hw'; cases hw'
      · rw [hw] at hw'; cases hw'
      · rfl
    subst this
    rw [<- put_comm φ v vj' a2]
    exact hg
def okPair (P : Program) (ops : Array Oper) (r j : Nat) : Bool :=
  match ops[r]?, ops[j]? with
  | some or, some oj => anc (msOf ops) j r || (or.apart ops oj && !((match kindOf P or with | .eff => true | _ => false) && (match kindOf P oj with | .eff => true | _ => false)))
  | _, _ => true
def good (P : Program) (ops : Array Oper) : Bool :=
  ((List.range ops.size).all fun j => match ops[j]? with
    | some o => notSel o && (o.after.toList.all fun e => !(Region.binds .any e) || Nat.blt e.on j)
    | none => true) &&
  ((List.range ops.size).all fun j => (List.range j).all fun r => okPair P ops r j)
theorem good_edge (hg : good P ops = true) {j : Nat} {o : Oper} (ho : ops[j]? = some o) : notSel o = true /\ ∀ e ∈ o.after.toList, Region.binds .any e = true -> e.on < j := by
  simp only [good, Bool.and_eq_true, List.all_eq_true, List.mem_range] at hg
  have hj : j < ops.size := (Array.getElem?_eq_some_iff.1 ho).1
  have h := hg.1 j hj
  rw [ho] at h
  simp only [Bool.and_eq_true, List.all_eq_true, Bool.or_eq_true, Bool.not_eq_true'] at h
  refine ⟨h.1, fun e he hb => ?_⟩
  rcases h.2 e he with h | h
  · rw [hb] at h; cases h
  · simpa [Nat.blt_eq] using h
theorem good_pair (hg : good P ops = true) {r j : Nat} (hrj : r < j) {or oj : Oper} (hr : ops[r]? = some or) (ho : ops[j]? = some oj) (hn : anc (msOf ops) j r = false) :
    or.apart ops oj = true /\ ¬ (kindOf P or = .eff /\ kindOf P oj = .eff) := by
  simp only [good, Bool.and_eq_true, List.all_eq_true, List.mem_range] at hg
  have hj : j < ops.size := (Array.getElem?_eq_some_iff.1 ho).1
  have h := hg.2 j hj r hrj
  simp only [okPair, hr, ho, hn, Bool.false_or, Bool.and_eq_true, Bool.not_eq_true'] at h
  refine ⟨h.1, fun ⟨h1, h2⟩ => ?_⟩
  rw [h1, h2] at h
  simp at h
theorem anc_lt (hg : good P ops = true) : ∀ (n j i : Nat), j <= n -> anc (msOf ops) j i = true -> i < j := by
  intro n
  induction n with
  | zero =>
    intro j i hj h
    obtain ⟨o, ho⟩ := anc_some h
    obtain ⟨e, he, hb, hx⟩ := anc_spec ho h
    have := (good_edge hg ho).2 e he hb
    omega
  | succ n ih =>
    intro j i hj h
    obtain ⟨o, ho⟩ := anc_some h
    obtain ⟨e, he, hb, hx⟩ := anc_spec ho h
    have h1 := (good_edge hg ho).2 e he hb
    rcases hx with hx | ⟨h2, h3⟩
    · omega
    · have := ih e.on i (by omega) h3
      omega
theorem anc_listed (listed : Array Bool) (hcl : ∀ (k : Nat) (o : Oper), ops[k]? = some o -> listed.getD k false = true -> ∀ e ∈ o.after.toList, Region.binds .any e = true -> listed.getD e.on false = true) :
    ∀ (n j i : Nat), j <= n -> listed.getD j false = true -> anc (msOf ops) j i = true -> listed.getD i false = true := by
  intro n
  induction n with
  | zero =>
    intro j i hj hl h
    obtain ⟨o, ho⟩ := anc_some h
    obtain ⟨e, he, hb, hx⟩ := anc_spec ho h
    rcases hx with hx | ⟨h2, h3⟩
    · exact hx ▸ hcl j o ho hl e he hb
    · omega
  | succ n ih =>
    intro j i hj hl h
    obtain ⟨o, ho⟩ := anc_some h
    obtain ⟨e, he, hb, hx⟩ := anc_spec ho h
    have h1 := hcl j o ho hl e he hb
    rcases hx with hx | ⟨h2, h3⟩
    · exact hx ▸ h1
    · exact ih e.on i (by omega) h1 h3
def Reads (P : Program) (ops : Array Oper) (S : List Nat) (R : List Nat) (wds : Nat -> World) (w : World) : Prop :=
 ∀ i ∈ R, ∀ o, ops[i]? = some o -> kindOf P o = .read -> EX S (wds i) w
theorem Reads.next {r : Nat} {or : Oper} {R : List Nat} {wds wds' : Nat -> World} {w w' : World} (h : Reads P ops S R wds w)
    (hn : Nx P ops S r or wds w wds' w') (hlt : ∀ i ∈ R, i ≠ r /\ anc (msOf ops) r i = false) : Reads P ops S R wds' w' := by
  rcases hn with ⟨rfl, rfl⟩ | ⟨hk, he, rfl⟩
  · exact h
  · intro i hi o ho hr
    simp only [upd]
    cases ha : anc (msOf ops) i r with
    | true => exact EX.refl _ _
    | false =>
      refine (h i hi o ho hr).trans (he ?_)
      have hsz : i < ops.size := (Array.getElem?_eq_some_iff.1 ho).1
      simp only [needExt, List.any_eq_true, List.mem_range]
      refine ⟨i, hsz, ?_⟩
      rw [ho]
      simp only [hr, ha, (hlt i hi).2, Bool.and_eq_true, Bool.not_eq_true', Bool.not_false, and_true]
      cases hb : Nat.beq i r with
      | false => exact ⟨trivial, rfl⟩
      | true => exact absurd (Nat.eq_of_beq_eq_true hb) (hlt i hi).1
theorem drP_cons {i : Nat} {o : Oper} {R : List Nat} {K : (Nat -> World) -> Fr -> World -> Prop} {wds : Nat -> World} {φ : Fr} {w : World} (ho : ops[i]? = some o) :
    drP P N ops S (i :: R) K wds φ w = St P N ops S i o wds φ w (drP P N ops S R K) := by
  simp only [drP, ho]
theorem peel (hg : good P ops = true) {j : Nat} {oj : Oper} (hj : ops[j]? = some oj) {R2 : List Nat} {K : (Nat -> World) -> Fr -> World -> Prop} :
    ∀ (R1 : List Nat) (wds : Nat -> World) (φ : Fr) (w : World), (R1 ++ j :: R2).Pairwise (· < ·) -> (∀ r ∈ R1, anc (msOf ops) j r = false) -> Reads P ops S (R1 ++ j :: R2) wds w ->
      drP P N ops S (R1 ++ j :: R2) K wds φ w -> St P N ops S j oj wds φ w (drP P N ops S (R1 ++ R2) K) := by
  intro R1
  induction R1 with
  | nil => intro wds φ w _ _ _ h; rw [List.nil_append, drP_cons hj] at h; exact h
  | cons r R1 ih =>
    intro wds φ w hs hn hr h
    rw [List.cons_append] at h hs hr
    have hs2 := List.pairwise_cons.1 hs
    cases hor : ops[r]? with
    | none => simp only [drP, hor] at h
    | some or =>
      rw [drP_cons hor] at h
      have hlt : ∀ i ∈ R1 ++ j :: R2, i ≠ r /\ anc (msOf ops) r i = false := by
        intro i hi
        have h1 := hs2.1 i hi
        refine ⟨by omega, ?_⟩
        cases ha : anc (msOf ops) r i with
        | false => rfl
        | true => have := anc_lt hg _ _ _ (Nat.le_refl _) ha; omega
      have hr' : Reads P ops S (R1 ++ j :: R2) wds w := fun i hi => hr i (by simp only [List.mem_cons]; exact .inr hi)
      have h2 : St P N ops S r or wds φ w fun wds1 φ1 w1 => St P N ops S j oj wds1 φ1 w1 (drP P N ops S (R1 ++ R2) K) := by
        refine St.mono (fun wds1 φ1 w1 hnx hd => ?_) h
        exact ih wds1 φ1 w1 hs2.2 (fun x hx => hn x (by simp [hx])) (hr'.next hnx hlt) hd
      have hrj : r < j := hs2.1 j (by simp)
      have hp := good_pair hg hrj hor hj (hn r (by simp))
      have hsw := St.swap (G := drP P N ops S (R1 ++ R2) K) ⟨hp.1, hp.2, hn r (by simp), (hlt j (by simp)).2, (good_edge hg hor).1, (good_edge hg hj).1⟩ (fun hk => hr j (by simp) oj hj hk) h2
      refine St.mono (fun wds1 φ1 w1 _ hd => ?_) hsw
      rw [List.cons_append, drP_cons hor]
      exact hd
theorem St.wpOp {j : Nat} {o : Oper} (ho : ops[j]? = some o) {wds : Nat -> World} {φ : Fr} {a : Act} {w : World} {G : (Nat -> World) -> Fr -> World -> Prop} {K : Act -> World -> Prop} {Q : Exit -> Act -> World -> Prop}
    (hf : Fits N φ a) (hC : kindOf P o = .read -> EX S (wds j) w)
    (hG : ∀ wds' φ' a' w', Nx P ops S j o wds w wds' w' -> Fits N φ' a' -> G wds' φ' w' -> K a' w') (h : St P N ops S j o wds φ w G) : Go.wpOp P ops Q j K a w := by
  unfold Go.wpOp
  simp only [ho]
  rw [wantS_eq hf]
  rcases h.cases with ⟨v, hq, h1⟩ | ⟨hw, hk, h1⟩
  · rcases hq with ⟨hw, hk, hy⟩ | ⟨hw, rfl⟩
    · rw [if_pos hw]
      refine .inl ?_
      have hc : Cls P S o (wds j) w := by
        unfold Cls
        cases hk3 : kindOf P o with
        | eff => exact absurd hk3 hk
        | pure => trivial
        | read => exact hC hk3
      have hy' := hy w hc
      unfold Yes at hy'
      unfold Oper.wp
      rw [hf.eval, hy']
      exact hG _ _ _ _ (.inl ⟨rfl, rfl⟩) (hf.put _ _) h1
    · rw [if_neg (by simp [hw])]
      exact hG _ _ _ _ (.inl ⟨rfl, rfl⟩) (hf.put _ _) h1
  · rw [if_pos hw]
    refine .inl ?_
    unfold Oper.wp
    rw [hf.eval]
    cases h1 with
    | value v w' hr hk' => rw [hr]; exact hG _ _ _ _ (.inr ⟨hk, hk'.1, rfl⟩) (hf.put _ _) hk'.2
    | skip w' hr hk' => rw [hr]; exact hG _ _ _ _ (.inr ⟨hk, hk'.1, rfl⟩) (hf.put _ _) hk'.2
    | enter g args hr hk' =>
      rw [hr]
      refine hk'.mono fun e w' he => ?_
      obtain ⟨v, rfl, h2, h3⟩ := he
      exact hG _ _ _ _ (.inr ⟨hk, h2, rfl⟩) (hf.put _ _) h3
theorem split_at {j : Nat} : ∀ {R : List Nat}, j ∈ R -> ∃ R1 R2, R = R1 ++ j :: R2
  | x :: R, h => by
    by_cases e : x = j
    · exact ⟨[], R, by simp [e]⟩
    · have : j ∈ R := by simpa [Ne.symm e] using h
      obtain ⟨R1, R2, h'⟩ := split_at this
      exact ⟨x :: R1, R2, by simp [h']⟩
theorem getD_set {listed : Array Bool} {i j : Nat} (hi : i < listed.size) (d : Bool) : (listed.setIfInBounds i true).getD j d = if i = j then true else listed.getD j d := by
  by_cases h : i = j
  · subst h; simp [hi]
  · rw [getD_set_ne d h, if_neg h]
theorem any_of_drP (hg : good P ops = true) {K : (Nat -> World) -> Fr -> World -> Prop} {Q : Exit -> Act -> World -> Prop}
    (hK : ∀ wds φ a w, Fits N φ a -> K wds φ w -> Q .normal a w) :
    ∀ (fuel : Nat) (R : List Nat) (listed : Array Bool) (wds : Nat -> World) (φ : Fr) (a : Act) (w : World), R.length = fuel -> listed.size = ops.size -> R.Pairwise (· < ·) ->
      (∀ i, i ∈ R ↔ i < ops.size /\ listed.getD i true = false) ->
      (∀ (k : Nat) (o : Oper), ops[k]? = some o -> listed.getD k false = true -> ∀ e ∈ o.after.toList, Region.binds .any e = true -> listed.getD e.on false = true) ->
      Fits N φ a -> Reads P ops S R wds w -> drP P N ops S R K wds φ w -> wpAny P .any ops Q fuel listed a w := by
  intro fuel
  induction fuel with
  | zero =>
    intro R listed wds φ a w hlen hsz hs hR hcl hf hrd h
    have : R = [] := List.length_eq_zero_iff.1 hlen
    subst this
    refine ⟨?_, hK _ _ _ _ hf h⟩
    apply List.eq_nil_iff_forall_not_mem.2
    intro i hi
    rw [mem_ready] at hi
    obtain ⟨h0, o, ho, _⟩ := hi
    have := (hR i).2 ⟨(Array.getElem?_eq_some_iff.1 ho).1, h0⟩
    cases this
  | succ fuel ih =>
    intro R listed wds φ a w hlen hsz hs hR hcl hf hrd h
    refine ⟨fun hnil => ?_, fun j hj => ?_⟩
    · cases R with
      | nil => simp at hlen
      | cons r R =>
        have hr := (hR r).1 (by simp)
        exfalso
        have : r ∈ Region.ready .any ops listed := by
          rw [mem_ready]
          refine ⟨hr.2, _, Array.getElem?_eq_getElem hr.1, fun e he hb => ?_⟩
          have hlt := (good_edge hg (Array.getElem?_eq_getElem hr.1)).2 e (by simpa using he) hb
          cases hl : listed.getD e.on false with
          | true => rfl
          | false =>
            have hlt2 : e.on < listed.size := by omega
            have hl2 : listed.getD e.on true = false := by
              simp only [Array.getD, hlt2, dif_pos] at hl ⊢
              exact hl
            have hm := (hR e.on).2 ⟨by omega, hl2⟩
            have hs1 := List.pairwise_cons.1 hs
            rcases List.mem_cons.1 hm with hm | hm
            · omega
            · have := hs1.1 _ hm; omega
        rw [hnil] at this
        cases this
    · obtain ⟨h0, o, ho, hall⟩ := mem_ready.1 hj
      have hjsz : j < ops.size := (Array.getElem?_eq_some_iff.1 ho).1
      have hjR := (hR j).2 ⟨hjsz, h0⟩
      obtain ⟨R1, R2, rfl⟩ := split_at hjR
      have hn : ∀ r ∈ R1, anc (msOf ops) j r = false := by
        intro r hr
        cases ha : anc (msOf ops) j r with
        | false => rfl
        | true =>
          exfalso
          have hrl := (hR r).1 (by simp [hr])
          obtain ⟨e, he, hb, hx⟩ := anc_spec ho ha
          have hel := hall e (by simpa using he) hb
          have hrl2 : listed.getD r false = false := by
            have : r < listed.size := by omega
            have h3 := hrl.2
            simp only [Array.getD, this, dif_pos] at h3 ⊢
            exact h3
          rcases hx with hx | ⟨_, hx⟩
          · rw [hx] at hel; rw [hel] at hrl2; cases hrl2
          · have := anc_listed listed hcl _ _ _ (Nat.le_refl _) hel hx
            rw [this] at hrl2; cases hrl2
      have hst := peel hg ho R1 wds φ w hs hn hrd h
      refine St.wpOp ho hf (fun hk => hrd j (by simp) o ho hk) (fun wds' φ' a' w' hnx hf' hd => ?_) hst
      have hsub : (R1 ++ R2).Sublist (R1 ++ j :: R2) := List.Sublist.append_left (List.sublist_cons_self j R2) R1
      have hnj : j ∉ R1 ++ R2 := by
        have h1 := List.pairwise_append.1 hs
        have h2 := List.pairwise_cons.1 h1.2.1
        intro hm
        rcases List.mem_append.1 hm with hm | hm
        · have := h1.2.2 j hm j (by simp); omega
        · have := h2.1 j hm; omega
      refine ih (R1 ++ R2) _ wds' φ' a' w' (by simp at hlen ⊢; omega) (by simp [hsz]) (hs.sublist hsub) ?_ ?_ hf' ?_ hd
      · intro i
        rw [getD_set (by omega)]
        by_cases hij : j = i
        · subst hij; simp [hnj]
        · rw [if_neg hij, <- hR i]
          constructor
          · exact fun hm => hsub.subset hm
          · intro hm
            rcases List.mem_append.1 hm with hm | hm
            · exact List.mem_append_left _ hm
            · rcases List.mem_cons.1 hm with hm | hm
              · exact absurd hm.symm hij
              · exact List.mem_append_right _ hm
      · intro k o' ho' hl e he hb
        rw [getD_set (by omega)] at hl ⊢
        by_cases hje : j = e.on
        · rw [if_pos hje]
        · rw [if_neg hje]
          by_cases hjk : j = k
          · subst hjk
            rw [ho] at ho'
            cases ho'
            exact hall e (by simpa using he) hb
          · rw [if_neg hjk] at hl
            exact hcl k o' ho' hl e he hb
      · refine Reads.next (fun i hi => hrd i (hsub.subset hi)) hnx fun i hi => ⟨fun e => hnj (e ▸ hi), ?_⟩
        cases ha : anc (msOf ops) j i with
        | false => rfl
        | true =>
          exfalso
          obtain ⟨e, he, hb, hx⟩ := anc_spec ho ha
          have hel := hall e (by simpa using he) hb
          have hil := (hR i).1 (hsub.subset hi)
          have hil2 : listed.getD i false = false := by
            have : i < listed.size := by omega
            have h3 := hil.2
            simp only [Array.getD, this, dif_pos] at h3 ⊢
            exact h3
          rcases hx with hx | ⟨_, hx⟩
          · rw [hx] at hel; rw [hel] at hil2; cases hil2
          · have := anc_listed listed hcl _ _ _ (Nat.le_refl _) hel hx
            rw [this] at hil2; cases hil2
end
end Go.Proofs.YtgbknjdjbahdkaaGreatDoor.Sx
namespace Go.Proofs.YtgbknjdjbahdkaaGreatDoor.Sx
open Go Go.RowKit
def fobj (P : Program) (o : Oper) : Option (Obj × (Nat -> Value)) :=
  match o.guard, o.op with
  | none, .alloc t => match P.info? t with
    | some inf => match inf.zero with
      | some z => some (.cells ⟨z.cells.toList⟩ t, fun r => .pointer (some ⟨r, 0, none⟩))
      | none => none
    | none => none
  | none, .buildSlice t 0 parts => match parts.toList, P.underlying t with
    | [], some (.slice e) => match P.info? e with
      | some inf => match inf.zero with
        | some z => cond (Nat.ble 1 inf.size) (some (.cells ⟨[]⟩ e, fun r => .slice (some ⟨r, 0, none⟩) 0 0)) none
        | none => none
      | none => none
    | _, _ => none
  | _, _ => none
theorem fobj_guard {P : Program} {o : Oper} {x : Obj × (Nat -> Value)} (h : fobj P o = some x) : o.guard = none := by
  unfold fobj at h
  split at h
  · assumption
  · assumption
  · cases h
theorem fobj_run {P : Program} {o : Oper} {x : Obj × (Nat -> Value)} (h : fobj P o = some x) (φ : Fr) (w : World) :
    (execOp (ev φ) o).run P w = .ok (.value (x.2 w.heap.size)) (w.alloc x.1) := by
  obtain ⟨dst, op, ty, pos, after, guard⟩ := o
  unfold fobj at h
  split at h
  · rename_i t hg hop
    simp only at hg hop
    subst hop
    split at h
    · rename_i inf hi
      split at h
      · rename_i z hz
        cases h
        simp [execOp, Instr.alloc, zeroValue, typeInfo_run hi, hz, newVar, newRow]
      · cases h
    · cases h
  · rename_i t parts hg hop
    simp only at hg hop
    subst hop
    split at h
    · rename_i e hp hu
      split at h
      · rename_i inf hi
        split at h
        · rename_i z hz
          cases hb : Nat.ble 1 inf.size with
          | false => rw [hb] at h; cases h
          | true =>
            rw [hb] at h
            cases h
            have hS : buildSliceS P t 0 [] w (fun v w' => v = .slice (some ⟨w.heap.size, 0, none⟩) 0 0 /\ w' = w.alloc (.cells ⟨[]⟩ e)) := by
              unfold buildSliceS
              simp only [hu, hi, hz, Nat.zero_mul, hb, Bool.and_true]
              show cond (Nat.ble 0 16777216) _ _
              simp only [show Nat.ble 0 16777216 = true from rfl, cond_true]
              intro r w' hn
              exact ⟨by rw [hn.r_eq], hn.w_eq⟩
            obtain ⟨v, w', hv, h1, h2⟩ := buildSliceS_goes hS
            have e1 : (parts.map fun (x : Nat × Operand) => (x.1, ev φ x.2)) = ⟨[]⟩ := by apply Array.ext'; simp [hp]
            simp only [execOp]
            rw [<- h1, <- h2]
            exact exec_vv (by rw [e1]; exact hv)
        · cases h
      · cases h
    · cases h
  · cases h
inductive Fl (os : List Obj) : List (Option Nat) -> World -> List (Option Nat) -> World -> Prop
  | refl {ss : List (Option Nat)} {w : World} : Fl os ss w ss w
  | step {ss : List (Option Nat)} {w : World} {k : Nat} {o : Obj} {ss' : List (Option Nat)} {w' : World} :
      ss[k]? = some none -> os[k]? = some o -> Fl os (ss.set k (some w.heap.size)) (w.alloc o) ss' w' -> Fl os ss w ss' w'
theorem Fl.ext {os : List Obj} {ss : List (Option Nat)} {w : World} {ss' : List (Option Nat)} {w' : World} (h : Fl os ss w ss' w') : Ext w w' := by
  induction h with
  | refl => exact Ext.refl _
  | step _ _ _ ih => exact Ext.trans ((Below.refl _ _).alloc (Nat.le_refl _) _) ih
theorem Fl.len {os : List Obj} {ss : List (Option Nat)} {w : World} {ss' : List (Option Nat)} {w' : World} (h : Fl os ss w ss' w') : ss'.length = ss.length := by
  induction h with
  | refl => rfl
  | step _ _ _ ih => rw [ih]; simp
theorem Fl.keeps {os : List Obj} {ss : List (Option Nat)} {w : World} {ss' : List (Option Nat)} {w' : World} (h : Fl os ss w ss' w') {k r : Nat} (hk : ss[k]? = some (some r)) : ss'[k]? = some (some r) := by
  induction h with
  | refl => exact hk
  | step h1 h2 h3 ih =>
    rename_i ss w k' o ss' w'
    refine ih ?_
    have hne : k' ≠ k := fun e => by subst e; rw [hk] at h1; cases h1
    rw [List.getElem?_set_ne hne]
    exact hk
def isEff (P : Program) (o : Oper) : Bool := match kindOf P o with | .eff => true | _ => false
def isEffAt (P : Program) (ops : Array Oper) (i : Nat) : Bool := match ops[i]? with | some o => isEff P o | none => false
def flo (P : Program) (ops : Array Oper) : List Nat :=
  (List.range ops.size).filter fun i => match (ops[i]?).bind (fobj P) with
    | some _ => (List.range ops.size).any fun j => isEffAt P ops j && !(Nat.beq i j) && !(anc (msOf ops) i j) && !(anc (msOf ops) j i)
    | none => false
def fidx : List Nat -> Nat -> Option Nat
  | [], _ => none
  | x :: r, i => cond (Nat.beq x i) (some 0) (match fidx r i with | some k => some (k + 1) | none => none)
def objAt (P : Program) (ops : Array Oper) (i : Nat) : Obj := match (ops[i]?).bind (fobj P) with | some x => x.1 | none => .cells #[] 0
def valAt (P : Program) (ops : Array Oper) (i : Nat) (r : Nat) : Value := match (ops[i]?).bind (fobj P) with | some x => x.2 r | none => undef
def objs (P : Program) (ops : Array Oper) (os : List Nat) : List Obj := os.map (objAt P ops)
theorem fidx_spec : ∀ {os : List Nat} {i k : Nat}, fidx os i = some k -> os[k]? = some i
  | x :: r, i, k, h => by
    simp only [fidx] at h
    cases hb : Nat.beq x i with
    | true => rw [hb] at h; cases h; simp [Nat.eq_of_beq_eq_true hb]
    | false =>
      rw [hb] at h
      simp only [cond_false] at h
      split at h
      · rename_i k' hk
        cases h
        simpa using fidx_spec hk
      · cases h
theorem fidx_mem {os : List Nat} {i k : Nat} (h : fidx os i = some k) : i ∈ os := List.mem_of_getElem? (fidx_spec h)
section
variable (P : Program) (N : Nat) (ops : Array Oper) (os : List Nat) (S : List Nat)
def anyF (R : List Nat) : Bool := R.any fun i => match fidx os i with | some _ => true | none => false
def dF : List Nat -> (Fr -> World -> Prop) -> (Nat -> World) -> List (Option Nat) -> Fr -> World -> Prop
  | [], K => fun wds ss φ w => K φ w
  | i :: R, K => fun wds ss φ w => match ops[i]? with
    | none => False
    | some o => match fidx os i with
      | some k => ∀ ss' w' r, Fl (objs P ops os) ss w ss' w' -> ss'[k]? = some (some r) -> dF R K wds ss' (φ.put N o.dst (valAt P ops i r)) w'
      | none => cond (isEff P o && anyF os R)
        (∀ ss' w1, Fl (objs P ops os) ss w ss' w1 -> St P N ops S i o wds φ w1 fun wds' φ' w' => dF R K wds' ss' φ' w')
        (St P N ops S i o wds φ w fun wds' φ' w' => dF R K wds' ss φ' w')
end
section
variable {P : Program} {N : Nat} {ops : Array Oper} {os : List Nat} {S : List Nat}
theorem anyF_mem {R : List Nat} {j k : Nat} (hj : fidx os j = some k) (hm : j ∈ R) : anyF os R = true := by
  simp only [anyF, List.any_eq_true]
  exact ⟨j, hm, by rw [hj]⟩
theorem isEff_false {o : Oper} (h : isEff P o = false) : kindOf P o ≠ .eff := by
  intro e; simp [isEff, e] at h
theorem isEff_true {o : Oper} (h : isEff P o = true) : kindOf P o = .eff := by
  unfold isEff at h
  split at h
  · assumption
  · cases h
theorem dF_float {K : Fr -> World -> Prop} {j k : Nat} (hj : fidx os j = some k) : ∀ (R : List Nat) (wds : Nat -> World) (ss : List (Option Nat)) (φ : Fr) (w : World), j ∈ R -> ss[k]? = some none -> dF P N ops os S R K wds ss φ w ->
    dF P N ops os S R K wds (ss.set k (some w.heap.size)) φ (w.alloc (objAt P ops j))
  | [], _, _, _, _, hm, _, _ => by simp at hm
  | i :: R, wds, ss, φ, w, hm, hk, h => by
    have hok : (objs P ops os)[k]? = some (objAt P ops j) := by simp [objs, fidx_spec hj]
    simp only [dF] at h ⊢
    cases ho : ops[i]? with
    | none => rw [ho] at h; exact h
    | some o =>
      rw [ho] at h
      simp only at h ⊢
      cases hi : fidx os i with
      | some k' =>
        rw [hi] at h
        exact fun ss' w' r hfl hr => h ss' w' r (.step hk hok hfl) hr
      | none =>
        rw [hi] at h
        simp only at h ⊢
        have hmR : j ∈ R := by
          rcases List.mem_cons.1 hm with e | e
          · subst e; rw [hj] at hi; cases hi
          · exact e
        cases hef : isEff P o with
        | true =>
          rw [hef, anyF_mem hj hmR] at h
          rw [anyF_mem hj hmR]
          exact fun ss' w1 hfl => h ss' w1 (.step hk hok hfl)
        | false =>
          rw [hef] at h
          simp only [Bool.false_and, cond_false] at h ⊢
          rcases h.cases with ⟨v, hq, h1⟩ | ⟨_, hke, _⟩
          · exact St.quiet (v := v) hq (dF_float hj R _ _ _ _ hmR hk h1)
          · exact absurd hke (isEff_false hef)
theorem St.putF {i : Nat} {o : Oper} {wds : Nat -> World} {φ : Fr} {w : World} {G G' : (Nat -> World) -> Fr -> World -> Prop} {jd : Option Tmp} {x : Value} (hs : notSel o = true) (ha : ∀ d, jd = some d -> d ∉ o.looksAt ops)
    (hG : ∀ wds' v w', G wds' (φ.put N o.dst v) w' -> G' wds' ((φ.put N jd x).put N o.dst v) w') (h : St P N ops S i o wds φ w G) : St P N ops S i o wds (φ.put N jd x) w G' := by
  rcases h.cases with ⟨v, hq, h1⟩ | ⟨hw, hk, h1⟩
  · refine St.quiet (v := v) ?_ (hG _ _ _ h1)
    rcases hq with ⟨hw, hk, hy⟩ | ⟨hw, rfl⟩
    · exact .inl ⟨by rw [want_put o φ jd x ha]; exact hw, hk, fun w' hc => (hy w' hc).congr (exec_put o hs φ jd x ha)⟩
    · exact .inr ⟨by rw [want_put o φ jd x ha]; exact hw, rfl⟩
  · refine St.loud (by rw [want_put o φ jd x ha]; exact hw) hk ?_
    exact (h1.congr (exec_put o hs φ jd x ha)).mono fun v w' ⟨he, hg⟩ => ⟨he, hG _ _ _ hg⟩
structure PairOk (P : Program) (ops : Array Oper) (os : List Nat) (r j : Nat) : Prop where
  ne : r ≠ j
  back : anc (msOf ops) r j = false
  edge : ∀ o, ops[r]? = some o -> ∀ e ∈ o.after.toList, Region.binds .any e = true -> e.on ≠ j
  free : anc (msOf ops) j r = false -> ∀ or oj, ops[r]? = some or -> ops[j]? = some oj -> or.apart ops oj = true /\ (fidx os j = none -> kindOf P oj = .eff -> kindOf P or ≠ .eff /\ fidx os r = none)
theorem dF_front {K : Fr -> World -> Prop} (hsel : ∀ (i : Nat) (o : Oper), ops[i]? = some o -> notSel o = true) {j k r : Nat} {oj : Oper} (hjo : ops[j]? = some oj) (hj : fidx os j = some k) {R2 : List Nat} :
    ∀ (R1 : List Nat) (wds : Nat -> World) (ss : List (Option Nat)) (φ : Fr) (w : World), (∀ i ∈ R1, ∀ o, ops[i]? = some o -> o.apart ops oj = true) -> ss[k]? = some (some r) ->
      dF P N ops os S (R1 ++ j :: R2) K wds ss φ w -> dF P N ops os S (R1 ++ R2) K wds ss (φ.put N oj.dst (valAt P ops j r)) w
  | [], wds, ss, φ, w, _, hk, h => by
    simp only [List.nil_append, dF, hjo, hj] at h
    exact h ss w r .refl hk
  | i :: R1, wds, ss, φ, w, hp, hk, h => by
    simp only [List.cons_append, dF] at h ⊢
    cases ho : ops[i]? with
    | none => rw [ho] at h; exact h
    | some o =>
      rw [ho] at h
      simp only at h ⊢
      obtain ⟨a1, a2, a3⟩ := Oper.apart_spec (hp i (by simp) o ho)
      have hp' : ∀ i ∈ R1, ∀ o, ops[i]? = some o -> o.apart ops oj = true := fun i' hi' => hp i' (by simp [hi'])
      have hany : anyF os (R1 ++ j :: R2) = true := anyF_mem hj (by simp)
      have pc : ∀ v u, (φ.put N oj.dst u).put N o.dst v = (φ.put N o.dst v).put N oj.dst u := fun v u => (put_comm φ v u a2).symm
      cases hi : fidx os i with
      | some k' =>
        rw [hi] at h
        intro ss' w' r' hfl hr
        rw [pc]
        exact dF_front hsel hjo hj R1 _ _ _ _ hp' (hfl.keeps hk) (h ss' w' r' hfl hr)
      | none =>
        rw [hi] at h
        simp only at h ⊢
        have one : ∀ ss' w1, ss'[k]? = some (some r) -> St P N ops S i o wds φ w1 (fun wds' φ' w' => dF P N ops os S (R1 ++ j :: R2) K wds' ss' φ' w') ->
            St P N ops S i o wds (φ.put N oj.dst (valAt P ops j r)) w1 (fun wds' φ' w' => dF P N ops os S (R1 ++ R2) K wds' ss' φ' w') := fun ss' w1 hk' hst =>
          St.putF (hsel i o ho) a3 (fun wds' v w' hg => by rw [pc]; exact dF_front hsel hjo hj R1 _ _ _ _ hp' hk' hg) hst
        cases hef : isEff P o with
        | true =>
          rw [hef, hany] at h
          cases hf2 : anyF os (R1 ++ R2) with
          | true => exact fun ss' w1 hfl => one ss' w1 (hfl.keeps hk) (h ss' w1 hfl)
          | false => exact one ss w hk (h ss w .refl)
        | false =>
          rw [hef] at h
          exact one ss w hk h
theorem quiet_all {ι : Type} {p : ι -> Prop} {wa : ι -> World} {φa : ι -> Fr} {G : ι -> (Nat -> World) -> Fr -> World -> Prop} {j : Nat} {oj : Oper} {wds : Nat -> World} {φ : Fr} {w : World}
    (hk : kindOf P oj ≠ .eff) (hC : kindOf P oj = .read -> EX S (wds j) w) (hφ : ∀ a, p a -> execOp (ev (φa a)) oj = execOp (ev φ) oj /\ wantS ops (φa a) oj = wantS ops φ oj) (ne : ∃ a, p a)
    (h : ∀ a, p a -> St P N ops S j oj wds (φa a) (wa a) (G a)) :
    ∃ v, ((wantS ops φ oj = true /\ kindOf P oj ≠ .eff /\ ∀ w', Cls P S oj (wds j) w' -> Yes P φ oj v w') ∨ (wantS ops φ oj = false /\ v = undef)) /\ ∀ a, p a -> G a wds ((φa a).put N oj.dst v) (wa a) := by
  have each : ∀ a, p a -> ∃ v, ((wantS ops φ oj = true /\ kindOf P oj ≠ .eff /\ ∀ w', Cls P S oj (wds j) w' -> Yes P φ oj v w') ∨ (wantS ops φ oj = false /\ v = undef)) /\ G a wds ((φa a).put N oj.dst v) (wa a) := by
    intro a ha
    rcases (h a ha).cases with ⟨v, hq, h1⟩ | ⟨_, hke, _⟩
    · refine ⟨v, ?_, h1⟩
      rw [(hφ a ha).2] at hq
      rcases hq with ⟨hw, hk, hy⟩ | hq
      · exact .inl ⟨hw, hk, fun w' hc => (hy w' hc).congr (hφ a ha).1.symm⟩
      · exact .inr hq
    · exact absurd hke hk
  obtain ⟨a0, ha0⟩ := ne
  obtain ⟨v0, hq0, _⟩ := each a0 ha0
  refine ⟨v0, hq0, fun a ha => ?_⟩
  obtain ⟨v, hq, hg⟩ := each a ha
  have : v = v0 := by
    rcases hq with ⟨hw, _, hy⟩ | ⟨hw, rfl⟩ <;> rcases hq0 with ⟨hw0, _, hy0⟩ | ⟨hw0, rfl⟩
    · have hc : Cls P S oj (wds j) w := by
        unfold Cls
        cases hk3 : kindOf P oj with
        | eff => exact absurd hk3 hk
        | pure => trivial
        | read => exact hC hk3
      have e1 := hy w hc
      have e2 := hy0 w hc
      unfold Yes at e1 e2
      rw [e1] at e2
      simp only [Result.ok.injEq, Next.value.injEq] at e2
      exact e2.1
    · rw [hw] at hw0; cases hw0
    · rw [hw] at hw0; cases hw0
    · rfl
  subst this
  exact hg
theorem peelF {K : Fr -> World -> Prop} (hsel : ∀ (i : Nat) (o : Oper), ops[i]? = some o -> notSel o = true) (hfo : ∀ i ∈ os, ∃ o x, ops[i]? = some o /\ fobj P o = some x) {j : Nat} {oj : Oper} (hjo : ops[j]? = some oj) (hj : fidx os j = none) {R2 : List Nat} :
    ∀ (R1 : List Nat) (wds : Nat -> World) (ss : List (Option Nat)) (φ : Fr) (w : World), (R1 ++ j :: R2).Pairwise (PairOk P ops os) -> (∀ r ∈ R1, anc (msOf ops) j r = false) -> ss.length = os.length -> Reads P ops S (R1 ++ j :: R2) wds w ->
      dF P N ops os S (R1 ++ j :: R2) K wds ss φ w -> St P N ops S j oj wds φ w fun wds' φ' w' => dF P N ops os S (R1 ++ R2) K wds' ss φ' w'
  | [], wds, ss, φ, w, _, _, _, _, h => by
    simp only [List.nil_append, dF, hjo, hj] at h ⊢
    cases hb : (isEff P oj && anyF os R2) with
    | true => rw [hb] at h; exact h ss w .refl
    | false => rw [hb] at h; exact h
  | r :: R1, wds, ss, φ, w, hs, hn, hlen, hrd, h => by
    simp only [List.cons_append] at h hs hrd
    have hs2 := List.pairwise_cons.1 hs
    have hpk := hs2.1 j (by simp)
    cases ho : ops[r]? with
    | none => simp only [dF, ho] at h
    | some or =>
      obtain ⟨hap, hcl⟩ := hpk.free (hn r (by simp)) or oj ho hjo
      have hcl := hcl hj
      obtain ⟨a1, a2, a3⟩ := Oper.apart_spec hap
      have hn' : ∀ r ∈ R1, anc (msOf ops) j r = false := fun x hx => hn x (by simp [hx])
      have hrd' : Reads P ops S (R1 ++ j :: R2) wds w := fun i hi => hrd i (by simp only [List.mem_cons]; exact .inr hi)
      have hC : kindOf P oj = .read -> EX S (wds j) w := fun hk => hrd j (by simp) oj hjo hk
      have hlt : ∀ i ∈ R1 ++ j :: R2, i ≠ r /\ anc (msOf ops) r i = false := fun i hi => ⟨(hs2.1 i hi).ne.symm, (hs2.1 i hi).back⟩
      simp only [dF, ho] at h
      cases hi : fidx os r with
      | some k =>
        rw [hi] at h
        have hke : kindOf P oj ≠ .eff := fun e => by have := (hcl e).2; rw [hi] at this; cases this
        have ne : ∃ a : List (Option Nat) × World × Nat, Fl (objs P ops os) ss w a.1 a.2.1 /\ a.1[k]? = some (some a.2.2) := by
          have hkl : k < ss.length := by rw [hlen]; exact (List.getElem?_eq_some_iff.1 (fidx_spec hi)).1
          cases hk : ss[k] with
          | some x => exact ⟨(ss, w, x), .refl, by rw [List.getElem?_eq_getElem hkl, hk]⟩
          | none =>
            refine ⟨(ss.set k (some w.heap.size), w.alloc (objAt P ops r), w.heap.size), .step (by rw [List.getElem?_eq_getElem hkl, hk]) (o := objAt P ops r) (by simp [objs, fidx_spec hi]) .refl, by simp [hkl]⟩
        obtain ⟨v, hq, hall⟩ := quiet_all (P := P) (N := N) (ops := ops) (p := fun a : List (Option Nat) × World × Nat => Fl (objs P ops os) ss w a.1 a.2.1 /\ a.1[k]? = some (some a.2.2)) (wa := fun a => a.2.1) (φa := fun a => φ.put N or.dst (valAt P ops r a.2.2))
          (G := fun a wds' φ' w' => dF P N ops os S (R1 ++ R2) K wds' a.1 φ' w') (oj := oj) (j := j) (wds := wds) (φ := φ) (w := w) hke hC
          (fun a _ => ⟨exec_put oj (hsel j oj hjo) φ or.dst _ a1, want_put oj φ or.dst _ a1⟩) ne
          (fun a ha => peelF hsel hfo hjo hj R1 wds a.1 _ a.2.1 hs2.2 hn' (by rw [ha.1.len]; exact hlen) (fun i hi o ho hk => (hrd' i hi o ho hk).trans (EX.of_ext ha.1.ext)) (h a.1 a.2.1 a.2.2 ha.1 ha.2))
        refine St.quiet hq ?_
        simp only [List.cons_append, dF, ho, hi]
        intro ss' w' x hfl hx
        rw [<- put_comm φ _ _ a2]
        exact hall (ss', w', x) ⟨hfl, hx⟩
      | none =>
        rw [hi] at h
        simp only at h
        have hone : ¬ (kindOf P or = .eff /\ kindOf P oj = .eff) := fun ⟨h1, h2⟩ => (hcl h2).1 h1
        have swap : ∀ ss' w1, Ext w w1 -> ss'.length = os.length -> St P N ops S r or wds φ w1 (fun wds' φ' w' => dF P N ops os S (R1 ++ j :: R2) K wds' ss' φ' w') ->
            St P N ops S j oj wds φ w1 fun wds2 φ2 w2 => St P N ops S r or wds2 φ2 w2 fun wds' φ' w' => dF P N ops os S (R1 ++ R2) K wds' ss' φ' w' := by
          intro ss' w1 hx hl hst
          refine St.swap ⟨hap, hone, hn r (by simp), hpk.back, hsel r or ho, hsel j oj hjo⟩ (fun hk => (hC hk).trans (EX.of_ext hx)) ?_
          refine St.mono (fun wds1 φ1 w2 hnx hd => ?_) hst
          refine peelF hsel hfo hjo hj R1 wds1 ss' φ1 w2 hs2.2 hn' hl ?_ hd
          exact Reads.next (R := R1 ++ j :: R2) (fun i hi o ho hk => (hrd' i hi o ho hk).trans (EX.of_ext hx)) hnx hlt
        have hanyeq : anyF os (R1 ++ j :: R2) = anyF os (R1 ++ R2) := by
          simp only [anyF, List.any_append, List.any_cons, hj, Bool.false_or]
        cases hb : (isEff P or && anyF os (R1 ++ j :: R2)) with
        | true =>
          rw [hb] at h
          simp only [cond_true] at h
          have hke : kindOf P oj ≠ .eff := fun e => hone ⟨isEff_true (by simp only [Bool.and_eq_true] at hb; exact hb.1), e⟩
          obtain ⟨v, hq, hall⟩ := quiet_all (P := P) (N := N) (ops := ops) (p := fun a : List (Option Nat) × World => Fl (objs P ops os) ss w a.1 a.2) (wa := fun a => a.2) (φa := fun _ => φ)
            (G := fun a wds2 φ2 w2 => St P N ops S r or wds2 φ2 w2 fun wds' φ' w' => dF P N ops os S (R1 ++ R2) K wds' a.1 φ' w') (oj := oj) (j := j) (wds := wds) (φ := φ) (w := w) hke hC
            (fun a _ => ⟨rfl, rfl⟩) ⟨(ss, w), .refl⟩
            (fun a ha => swap a.1 a.2 ha.ext (by rw [ha.len]; exact hlen) (h a.1 a.2 ha))
          refine St.quiet hq ?_
          simp only [List.cons_append, dF, ho, hi]
          rw [<- hanyeq, hb]
          exact fun ss' w1 hfl => hall (ss', w1) hfl
        | false =>
          rw [hb] at h
          simp only [cond_false] at h
          refine St.mono (fun wds1 φ1 w1 _ hd => ?_) (swap ss w (Ext.refl _) hlen h)
          simp only [List.cons_append, dF, ho, hi]
          rw [<- hanyeq, hb]
          exact hd
def lateQ (ops : Array Oper) (os : List Nat) (x : Nat) : Bool := os.any fun k => Nat.beq k x || anc (msOf ops) x k
def piGo (P : Program) (ops : Array Oper) (os : List Nat) : List Nat -> List Nat -> List Nat
  | [], late => late
  | x :: r, late => cond (isEffAt P ops x && (match fidx os x with | some _ => false | none => true))
      (late.filter (fun y => anc (msOf ops) x y) ++ x :: piGo P ops os r (late.filter fun y => !(anc (msOf ops) x y)))
      (cond (lateQ ops os x) (piGo P ops os r (late ++ [x])) (x :: piGo P ops os r late))
def piF (P : Program) (ops : Array Oper) : List Nat := piGo P ops (flo P ops) (List.range ops.size) []
def pairOkB (P : Program) (ops : Array Oper) (os : List Nat) (r j : Nat) : Bool :=
  match ops[r]?, ops[j]? with
  | some or, some oj => !(Nat.beq r j) && !(anc (msOf ops) r j) && (or.after.toList.all fun e => !(Region.binds .any e) || !(Nat.beq e.on j)) &&
      (anc (msOf ops) j r || (or.apart ops oj && (match fidx os j with | some _ => true | none => !(isEff P oj) || (!(isEff P or) && (match fidx os r with | some _ => false | none => true)))))
  | _, _ => false
def pairsB (P : Program) (ops : Array Oper) (os : List Nat) : List Nat -> Bool
  | [] => true
  | r :: R => (R.all fun j => pairOkB P ops os r j) && pairsB P ops os R
def goodF (P : Program) (ops : Array Oper) (os : List Nat) (π : List Nat) : Bool :=
  ((List.range ops.size).all fun j => match ops[j]? with
    | some o => notSel o && (o.after.toList.all fun e => !(Region.binds .any e) || Nat.blt e.on j)
    | none => true) &&
  (os.all fun i => match (ops[i]?).bind (fobj P) with | some _ => true | none => false) && Nat.beq π.length ops.size && ((List.range ops.size).all fun i => π.any (Nat.beq i ·)) && (π.all fun i => Nat.blt i ops.size) && pairsB P ops os π
theorem pairOkB_spec {r j : Nat} (h : pairOkB P ops os r j = true) : PairOk P ops os r j := by
  unfold pairOkB at h
  split at h
  · rename_i or oj h1 h2
    simp only [Bool.and_eq_true, Bool.not_eq_true', Bool.or_eq_true, List.all_eq_true] at h
    obtain ⟨⟨⟨k1, k2⟩, k3⟩, k4⟩ := h
    refine ⟨fun e => by subst e; simp at k1, k2, fun o ho e he hb heq => ?_, fun hn or' oj' h1' h2' => ?_⟩
    · rw [h1] at ho; cases ho
      rcases k3 e he with h | h
      · rw [hb] at h; cases h
      · rw [heq] at h; simp at h
    · rw [h1] at h1'; cases h1'
      rw [h2] at h2'; cases h2'
      rw [hn] at k4
      simp only [Bool.false_eq_true, false_or] at k4
      refine ⟨k4.1, fun hf hk => ?_⟩
      have := k4.2
      rw [hf] at this
      simp only [isEff, hk, Bool.not_true, Bool.false_or, Bool.and_eq_true, Bool.not_eq_true'] at this
      refine ⟨fun e => by rw [e] at this; simp at this, ?_⟩
      have h3 := this.2
      split at h3
      · cases h3
      · assumption
  · cases h
theorem pairsB_spec : ∀ {R : List Nat}, pairsB P ops os R = true -> R.Pairwise (PairOk P ops os)
  | [], _ => .nil
  | r :: R, h => by
    simp only [pairsB, Bool.and_eq_true, List.all_eq_true] at h
    exact .cons (fun j hj => pairOkB_spec (h.1 j hj)) (pairsB_spec h.2)
theorem any_of_dF {K : Fr -> World -> Prop} (hsel : ∀ (i : Nat) (o : Oper), ops[i]? = some o -> notSel o = true) (hlt : ∀ (j : Nat) (o : Oper), ops[j]? = some o -> ∀ e ∈ o.after.toList, Region.binds .any e = true -> e.on < j)
    (hfo : ∀ i ∈ os, ∃ o x, ops[i]? = some o /\ fobj P o = some x) {Q : Exit -> Act -> World -> Prop} (hK : ∀ φ a w, Fits N φ a -> K φ w -> Q .normal a w) :
    ∀ (fuel : Nat) (R : List Nat) (listed : Array Bool) (wds : Nat -> World) (ss : List (Option Nat)) (φ : Fr) (a : Act) (w : World), R.length = fuel -> listed.size = ops.size -> R.Pairwise (PairOk P ops os) ->
      (∀ i, i ∈ R ↔ i < ops.size /\ listed.getD i true = false) -> ss.length = os.length -> (∀ i k, i ∈ R -> fidx os i = some k -> ss[k]? = some none) ->
      (∀ (k : Nat) (o : Oper), ops[k]? = some o -> listed.getD k false = true -> ∀ e ∈ o.after.toList, Region.binds .any e = true -> listed.getD e.on false = true) ->
      Fits N φ a -> Reads P ops S R wds w -> dF P N ops os S R K wds ss φ w -> wpAny P .any ops Q fuel listed a w := by
  intro fuel
  induction fuel with
  | zero =>
    intro R listed wds ss φ a w hlen hsz hs hR hsl hss hcl hf hrd h
    have : R = [] := List.length_eq_zero_iff.1 hlen
    subst this
    refine ⟨?_, hK _ _ _ hf h⟩
    apply List.eq_nil_iff_forall_not_mem.2
    intro i hi
    rw [mem_ready] at hi
    obtain ⟨h0, o, ho, _⟩ := hi
    have := (hR i).2 ⟨(Array.getElem?_eq_some_iff.1 ho).1, h0⟩
    cases this
  | succ fuel ih =>
    intro R listed wds ss φ a w hlen hsz hs hR hsl hss hcl hf hrd h
    refine ⟨fun hnil => ?_, fun j hj => ?_⟩
    · cases R with
      | nil => simp at hlen
      | cons r R =>
        have hr := (hR r).1 (by simp)
        exfalso
        have : r ∈ Region.ready .any ops listed := by
          rw [mem_ready]
          refine ⟨hr.2, _, Array.getElem?_eq_getElem hr.1, fun e he hb => ?_⟩
          have hlt1 := hlt r _ (Array.getElem?_eq_getElem hr.1) e (by simpa using he) hb
          cases hl : listed.getD e.on false with
          | true => rfl
          | false =>
            have hlt2 : e.on < listed.size := by omega
            have hl2 : listed.getD e.on true = false := by
              simp only [Array.getD, hlt2, dif_pos] at hl ⊢
              exact hl
            have hm := (hR e.on).2 ⟨by omega, hl2⟩
            have hs1 := List.pairwise_cons.1 hs
            rcases List.mem_cons.1 hm with hm | hm
            · omega
            · exact absurd rfl ((hs1.1 _ hm).edge _ (Array.getElem?_eq_getElem hr.1) e (by simpa using he) hb)
        rw [hnil] at this
        cases this
    · obtain ⟨h0, o, ho, hall⟩ := mem_ready.1 hj
      have hjsz : j < ops.size := (Array.getElem?_eq_some_iff.1 ho).1
      have hjR := (hR j).2 ⟨hjsz, h0⟩
      obtain ⟨R1, R2, rfl⟩ := split_at hjR
      have hn : ∀ r ∈ R1, anc (msOf ops) j r = false := by
        intro r hr
        cases ha : anc (msOf ops) j r with
        | false => rfl
        | true =>
          exfalso
          have hrl := (hR r).1 (by simp [hr])
          obtain ⟨e, he, hb, hx⟩ := anc_spec ho ha
          have hel := hall e (by simpa using he) hb
          have hrl2 : listed.getD r false = false := by
            have : r < listed.size := by omega
            have h3 := hrl.2
            simp only [Array.getD, this, dif_pos] at h3 ⊢
            exact h3
          rcases hx with hx | ⟨_, hx⟩
          · rw [hx] at hel; rw [hel] at hrl2; cases hrl2
          · have := anc_listed listed hcl _ _ _ (Nat.le_refl _) hel hx
            rw [this] at hrl2; cases hrl2
      have hsub : (R1 ++ R2).Sublist (R1 ++ j :: R2) := List.Sublist.append_left (List.sublist_cons_self j R2) R1
      have hpa := List.pairwise_append.1 hs
      have hpc := List.pairwise_cons.1 hpa.2.1
      have hnj : j ∉ R1 ++ R2 := by
        intro hm
        rcases List.mem_append.1 hm with hm | hm
        · exact (hpa.2.2 j hm j (by simp)).ne rfl
        · exact (hpc.1 j hm).ne rfl
      have hR' : ∀ i, i ∈ R1 ++ R2 ↔ i < ops.size /\ (listed.setIfInBounds j true).getD i true = false := by
        intro i
        rw [getD_set (by omega)]
        by_cases hij : j = i
        · subst hij; simp [hnj]
        · rw [if_neg hij, <- hR i]
          constructor
          · exact fun hm => hsub.subset hm
          · intro hm
            rcases List.mem_append.1 hm with hm | hm
            · exact List.mem_append_left _ hm
            · rcases List.mem_cons.1 hm with hm | hm
              · exact absurd hm.symm hij
              · exact List.mem_append_right _ hm
      have hcl' : ∀ (k : Nat) (o : Oper), ops[k]? = some o -> (listed.setIfInBounds j true).getD k false = true -> ∀ e ∈ o.after.toList, Region.binds .any e = true -> (listed.setIfInBounds j true).getD e.on false = true := by
        intro k o' ho' hl e he hb
        rw [getD_set (by omega)] at hl ⊢
        by_cases hje : j = e.on
        · rw [if_pos hje]
        · rw [if_neg hje]
          by_cases hjk : j = k
          · subst hjk
            rw [ho] at ho'
            cases ho'
            exact hall e (by simpa using he) hb
          · rw [if_neg hjk] at hl
            exact hcl k o' ho' hl e he hb
      have hlen' : (R1 ++ R2).length = fuel := by simp at hlen ⊢; omega
      have hrdj : ∀ i ∈ R1 ++ R2, ∀ o, ops[i]? = some o -> kindOf P o = .read -> EX S (wds i) w := fun i hi => hrd i (hsub.subset hi)
      cases hfi : fidx os j with
      | some k =>
        obtain ⟨o', x, ho', hx⟩ := hfo j (fidx_mem hfi)
        rw [ho] at ho'; cases ho'
        have hg := fobj_guard hx
        have hsk := hss j k hjR hfi
        have hoe : objAt P ops j = x.1 := by simp [objAt, ho, hx]
        have hve : valAt P ops j w.heap.size = x.2 w.heap.size := by simp [valAt, ho, hx]
        have d1 := dF_float hfi _ wds ss φ w hjR hsk h
        have hkl : k < ss.length := (List.getElem?_eq_some_iff.1 hsk).1
        have d2 := dF_front hsel ho hfi R1 wds (ss.set k (some w.heap.size)) φ _ (r := w.heap.size) (fun i hi o2 ho2 => ((hpa.2.2 i hi j (by simp)).free (hn i hi) o2 o ho2 ho).1) (by simp [hkl]) d1
        rw [hoe, hve] at d2
        unfold Go.wpOp
        simp only [ho]
        rw [wantS_eq hf]
        have hw : wantS ops φ o = true := by simp [wantS, hg]
        rw [if_pos hw]
        refine .inl ?_
        unfold Oper.wp
        rw [hf.eval, fobj_run hx φ w]
        refine ih (R1 ++ R2) _ wds (ss.set k (some w.heap.size)) (φ.put N o.dst (x.2 w.heap.size)) _ _ hlen' (by simp [hsz]) (hs.sublist hsub) hR' (by simpa using hsl) ?_ hcl' (hf.put _ _) ?_ d2
        · intro i k' hi hk'
          have hne : k ≠ k' := fun e => by
            subst e
            have e1 := fidx_spec hfi
            have e2 := fidx_spec hk'
            rw [e1] at e2
            cases e2
            exact hnj hi
          rw [List.getElem?_set_ne hne]
          exact hss i k' (hsub.subset hi) hk'
        · intro i hi o2 ho2 hk2
          exact (hrdj i hi o2 ho2 hk2).trans (EX.of_ext ((Below.refl _ _).alloc (Nat.le_refl _) _))
      | none =>
        have hst := peelF hsel hfo ho hfi R1 wds ss φ w hs hn hsl hrd h
        refine St.wpOp ho hf (fun hk => hrd j (by simp) o ho hk) (fun wds' φ' a' w' hnx hf' hd => ?_) hst
        refine ih (R1 ++ R2) _ wds' ss φ' a' w' hlen' (by simp [hsz]) (hs.sublist hsub) hR' hsl (fun i k hi hk => hss i k (hsub.subset hi) hk) hcl' hf' ?_ hd
        refine Reads.next hrdj hnx fun i hi => ⟨fun e => hnj (e ▸ hi), ?_⟩
        cases ha : anc (msOf ops) j i with
        | false => rfl
        | true =>
          exfalso
          obtain ⟨e, he, hb, hx⟩ := anc_spec ho ha
          have hel := hall e (by simpa using he) hb
          have hil := (hR i).1 (hsub.subset hi)
          have hil2 : listed.getD i false = false := by
            have : i < listed.size := by omega
            have h3 := hil.2
            simp only [Array.getD, this, dif_pos] at h3 ⊢
            exact h3
          rcases hx with hx | ⟨_, hx⟩
          · rw [hx] at hel; rw [hel] at hil2; cases hil2
          · have := anc_listed listed hcl _ _ _ (Nat.le_refl _) hel hx
            rw [this] at hil2; cases hil2
end
end Go.Proofs.YtgbknjdjbahdkaaGreatDoor.Sx
namespace Go.Proofs.YtgbknjdjbahdkaaGreatDoor.Sx
open Go Go.RowKit
section
variable (P : Program) (N : Nat)
def Sq (ops : Array Oper) (o : Oper) (φ : Fr) (w : World) (G : Fr -> World -> Prop) : Prop :=
  if wantS ops φ o then
    match kindOf P o with
    | .eff => Goes P φ o w fun v w' => G (φ.put N o.dst v) w'
    | _ => ∃ v, Yes P φ o v w /\ G (φ.put N o.dst v) w
  else G (φ.put N o.dst undef) w
def sqP (ops : Array Oper) : List Nat -> (Fr -> World -> Prop) -> Fr -> World -> Prop
  | [], K => K
  | i :: R, K => fun φ w => match ops[i]? with
    | none => False
    | some o => Sq P N ops o φ w (sqP ops R K)
def dstsOf : Code -> List Nat
  | .region _ ops _ => ops.toList.filterMap (·.dst)
  | .seq a b => dstsOf a ++ dstsOf b
  | .cond _ a b => dstsOf a ++ dstsOf b
  | .block _ c => dstsOf c
  | .loop c => dstsOf c
  | .scope c => dstsOf c
  | .rangeFunc _ ps a b => ps.toList ++ (dstsOf a ++ dstsOf b)
  | _ => []
abbrev QF := Exit -> Fr -> World -> Prop
def thenQ (K : Fr -> World -> Prop) (Q : QF) : QF
  | .normal, φ, w => K φ w
  | e, φ, w => Q e φ w
def blockQ (id : Nat) (Q : QF) : QF
  | .exit id', φ, w => cond (Nat.beq id' id) (Q .normal φ w) (Q (.exit id') φ w)
  | e, φ, w => Q e φ w
def scopeQ (Q : QF) : QF
  | .goto _, _, _ => False
  | e, φ, w => Q e φ w
def panOf (ops : Array Oper) : Option Operand :=
  match ops[ops.size - 1]? with
  | some o => match o.guard, o.op with
    | none, .panic x => some x
    | _, _ => none
  | none => none
def panQ (x : Operand) (Q : QF) : Fr -> World -> Prop := fun φ w => match ev φ x with
  | .iface t v => Q (.panic [{ v := .iface t v, recovered := false }]) φ w
  | _ => False
def semA : Code -> QF -> Fr -> World -> Prop
  | .skip, Q, φ, w => Q .normal φ w
  | .region id ops draw, Q, φ, w =>
    match draw with
    | true => P.follows .mixedOrders = true /\ ((good P ops = true /\ ∃ S, drP P N ops S (List.range ops.size) (fun _ => Q .normal) (fun _ => w.drew) φ w.drew) ∨
        (goodF P ops (flo P ops) (piF P ops) = true /\ ∃ S, dF P N ops (flo P ops) S (piF P ops) (Q .normal) (fun _ => w.drew) (List.replicate (flo P ops).length none) φ w.drew))
    | false => match panOf ops with
      | none => sqP P N ops (List.range ops.size) (Q .normal) φ w
      | some x => sqP P N ops (List.range (ops.size - 1)) (panQ x Q) φ w
  | .seq x y, Q, φ, w => semA x (thenQ (semA y Q) Q) φ w
  | .cond c x y, Q, φ, w => ∃ b, ev φ c = .bool b /\ (b = true -> semA x Q φ w) /\ (b = false -> semA y Q φ w)
  | .block id c, Q, φ, w => semA c (blockQ id Q) φ w
  | .scope c, Q, φ, w => semA c (scopeQ Q) φ w
  | .loop c, Q, φ, w => ∃ (J : Fr -> World -> Prop) (μ : Fr -> World -> Nat), J φ w /\ ∀ ψ w, J ψ w -> (∀ n, n ∉ dstsOf c -> ψ n = φ n) ->
      semA c (thenQ (fun φ' w' => J φ' w' /\ μ φ' w' < μ ψ w) Q) ψ w
  | .exit id, Q, φ, w => Q (.exit id) φ w
  | .ret, Q, φ, w => Q .ret φ w
  | .label _, Q, φ, w => Q .normal φ w
  | _, _, _, _ => False
end
section
variable {P : Program} {N : Nat}
theorem St.monoF {ops : Array Oper} {S : List Nat} {i : Nat} {o : Oper} {wds : Nat -> World} {φ : Fr} {w : World} {G G' : (Nat -> World) -> Fr -> World -> Prop}
    (hG : ∀ wds' v w', G wds' (φ.put N o.dst v) w' -> G' wds' (φ.put N o.dst v) w') (h : St P N ops S i o wds φ w G) : St P N ops S i o wds φ w G' := by
  unfold St at *
  split
  · rename_i hw
    rw [if_pos hw] at h
    cases hk : kindOf P o with
    | eff => rw [hk] at h; exact h.mono fun v w' ⟨h1, h2⟩ => ⟨h1, hG _ _ _ h2⟩
    | pure => rw [hk] at h; obtain ⟨v, h1, h2⟩ := h; exact ⟨v, h1, hG _ _ _ h2⟩
    | read => rw [hk] at h; obtain ⟨v, h1, h2⟩ := h; exact ⟨v, h1, hG _ _ _ h2⟩
  · rename_i hw
    rw [if_neg hw] at h
    exact hG _ _ _ h
theorem Sq.monoF {ops : Array Oper} {o : Oper} {φ : Fr} {w : World} {G G' : Fr -> World -> Prop}
    (hG : ∀ v w', G (φ.put N o.dst v) w' -> G' (φ.put N o.dst v) w') (h : Sq P N ops o φ w G) : Sq P N ops o φ w G' := by
  unfold Sq at *
  split
  · rename_i hw
    rw [if_pos hw] at h
    cases hk : kindOf P o with
    | eff => rw [hk] at h; exact h.mono fun v w' h2 => hG _ _ h2
    | pure => rw [hk] at h; obtain ⟨v, h1, h2⟩ := h; exact ⟨v, h1, hG _ _ h2⟩
    | read => rw [hk] at h; obtain ⟨v, h1, h2⟩ := h; exact ⟨v, h1, hG _ _ h2⟩
  · rename_i hw
    rw [if_neg hw] at h
    exact hG _ _ h
theorem drP_frame {ops : Array Oper} {S : List Nat} : ∀ (R : List Nat) (K K' : (Nat -> World) -> Fr -> World -> Prop) (wds : Nat -> World) (φ : Fr) (w : World),
    (∀ wds' φ' w', (∀ n, n ∉ ops.toList.filterMap (·.dst) -> φ' n = φ n) -> K wds' φ' w' -> K' wds' φ' w') -> drP P N ops S R K wds φ w -> drP P N ops S R K' wds φ w
  | [], K, K', wds, φ, w, h, hd => h wds φ w (fun _ _ => rfl) hd
  | i :: R, K, K', wds, φ, w, h, hd => by
    simp only [drP] at hd ⊢
    cases ho : ops[i]? with
    | none => rw [ho] at hd; exact hd
    | some o =>
      rw [ho] at hd
      refine St.monoF (fun wds' v w' hd' => ?_) hd
      refine drP_frame R K K' _ _ _ (fun wds2 φ2 w2 hfr hk => h wds2 φ2 w2 (fun n hn => ?_) hk) hd'
      rw [hfr n hn]
      exact put_other fun d hdst e => hn (by
        subst e
        exact List.mem_filterMap.2 ⟨o, by simpa using Array.mem_of_getElem? ho, hdst⟩)
theorem dF_frame {ops : Array Oper} {os : List Nat} {S : List Nat} : ∀ (R : List Nat) (K K' : Fr -> World -> Prop) (wds : Nat -> World) (ss : List (Option Nat)) (φ : Fr) (w : World),
    (∀ φ' w', (∀ n, n ∉ ops.toList.filterMap (·.dst) -> φ' n = φ n) -> K φ' w' -> K' φ' w') -> dF P N ops os S R K wds ss φ w -> dF P N ops os S R K' wds ss φ w
  | [], K, K', wds, ss, φ, w, h, hd => h φ w (fun _ _ => rfl) hd
  | i :: R, K, K', wds, ss, φ, w, h, hd => by
    simp only [dF] at hd ⊢
    cases ho : ops[i]? with
    | none => rw [ho] at hd; exact hd
    | some o =>
      rw [ho] at hd
      have next : ∀ wds' ss' v w', dF P N ops os S R K wds' ss' (φ.put N o.dst v) w' -> dF P N ops os S R K' wds' ss' (φ.put N o.dst v) w' := fun wds' ss' v w' hd' => by
        refine dF_frame R K K' _ _ _ _ (fun φ2 w2 hfr hk => h φ2 w2 (fun n hn => ?_) hk) hd'
        rw [hfr n hn]
        exact put_other fun d hdst e => hn (by
          subst e
          exact List.mem_filterMap.2 ⟨o, by simpa using Array.mem_of_getElem? ho, hdst⟩)
      simp only at hd ⊢
      cases hi : fidx os i with
      | some k => rw [hi] at hd; exact fun ss' w' r hfl hr => next _ _ _ _ (hd ss' w' r hfl hr)
      | none =>
        rw [hi] at hd
        simp only at hd ⊢
        cases hb : (isEff P o && anyF os R) with
        | true => rw [hb] at hd; exact fun ss' w1 hfl => St.monoF (G := fun wds' φ' w' => dF P N ops os S R K wds' ss' φ' w') (fun wds' v w' hg => next _ _ _ _ hg) (hd ss' w1 hfl)
        | false =>
          rw [hb] at hd
          simp only [cond_false] at hd ⊢
          exact St.monoF (G := fun wds' φ' w' => dF P N ops os S R K wds' ss φ' w') (fun wds' v w' hg => next _ _ _ _ hg) hd
theorem sqP_frame {ops : Array Oper} : ∀ (R : List Nat) (K K' : Fr -> World -> Prop) (φ : Fr) (w : World),
    (∀ φ' w', (∀ n, n ∉ ops.toList.filterMap (·.dst) -> φ' n = φ n) -> K φ' w' -> K' φ' w') -> sqP P N ops R K φ w -> sqP P N ops R K' φ w
  | [], K, K', φ, w, h, hd => h φ w (fun _ _ => rfl) hd
  | i :: R, K, K', φ, w, h, hd => by
    simp only [sqP] at hd ⊢
    cases ho : ops[i]? with
    | none => rw [ho] at hd; exact hd
    | some o =>
      rw [ho] at hd
      refine Sq.monoF (fun v w' hd' => ?_) hd
      refine sqP_frame R K K' _ _ (fun φ2 w2 hfr hk => h φ2 w2 (fun n hn => ?_) hk) hd'
      rw [hfr n hn]
      exact put_other fun d hdst e => hn (by
        subst e
        exact List.mem_filterMap.2 ⟨o, by simpa using Array.mem_of_getElem? ho, hdst⟩)
theorem semA_frame : ∀ (c : Code) (Q Q' : QF) (φ : Fr) (w : World),
    (∀ e φ' w', (∀ n, n ∉ dstsOf c -> φ' n = φ n) -> Q e φ' w' -> Q' e φ' w') -> semA P N c Q φ w -> semA P N c Q' φ w
  | .skip, Q, Q', φ, w, h, hs => h _ _ _ (fun _ _ => rfl) hs
  | .region id ops draw, Q, Q', φ, w, h, hs => by
    cases draw with
    | true =>
      refine ⟨hs.1, ?_⟩
      rcases hs.2 with hs | hs
      · exact .inl ⟨hs.1, hs.2.elim fun S hs2 => ⟨S, drP_frame _ _ _ _ _ _ (fun _ φ' w' hfr hk => h _ _ _ hfr hk) hs2⟩⟩
      · exact .inr ⟨hs.1, hs.2.elim fun S hs2 => ⟨S, dF_frame _ _ _ _ _ _ _ (fun φ' w' hfr hk => h _ _ _ hfr hk) hs2⟩⟩
    | false =>
      simp only [semA] at hs ⊢
      cases hp : panOf ops with
      | none => rw [hp] at hs; exact sqP_frame _ _ _ _ _ (fun φ' w' hfr hk => h _ _ _ hfr hk) hs
      | some x =>
        rw [hp] at hs
        refine sqP_frame _ _ _ _ _ (fun φ' w' hfr hk => ?_) hs
        unfold panQ at hk ⊢
        split at hk
        · exact h _ _ _ hfr hk
        · exact hk
  | .seq x y, Q, Q', φ, w, h, hs => by
    simp only [semA] at hs ⊢
    refine semA_frame x _ _ φ w (fun e φ' w' hfr hq => ?_) hs
    have hx : ∀ n, n ∉ dstsOf (.seq x y) -> φ' n = φ n := fun n hn => hfr n fun hm => hn (by simp [dstsOf, hm])
    cases e with
    | normal =>
      refine semA_frame y _ _ φ' w' (fun e φ2 w2 hfr2 hq2 => h e φ2 w2 (fun n hn => ?_) hq2) hq
      rw [hfr2 n fun hm => hn (by simp [dstsOf, hm])]
      exact hx n hn
    | _ => exact h _ _ _ hx hq
  | .cond c x y, Q, Q', φ, w, h, hs => by
    obtain ⟨b, hb, h1, h2⟩ := hs
    refine ⟨b, hb, fun e => semA_frame x _ _ φ w (fun e φ' w' hfr hq => h e φ' w' (fun n hn => hfr n fun hm => hn (by simp [dstsOf, hm])) hq) (h1 e),
      fun e => semA_frame y _ _ φ w (fun e φ' w' hfr hq => h e φ' w' (fun n hn => hfr n fun hm => hn (by simp [dstsOf, hm])) hq) (h2 e)⟩
  | .block id c, Q, Q', φ, w, h, hs => by
    simp only [semA] at hs ⊢
    refine semA_frame c _ _ φ w (fun e φ' w' hfr hq => ?_) hs
    cases e with
    | exit id' =>
      simp only [blockQ] at hq ⊢
      cases hb : Nat.beq id' id with
      | true => rw [hb] at hq; exact h _ _ _ hfr hq
      | false => rw [hb] at hq; exact h _ _ _ hfr hq
    | _ => exact h _ _ _ hfr hq
  | .loop c, Q, Q', φ, w, h, hs => by
    obtain ⟨J, μ, h0, hr⟩ := hs
    refine ⟨J, μ, h0, fun ψ w1 hJ hψ => semA_frame c _ _ ψ w1 (fun e φ' w' hfr hq => ?_) (hr ψ w1 hJ hψ)⟩
    cases e with
    | normal => exact hq
    | _ => exact h _ _ _ (fun n hn => by rw [hfr n hn, hψ n hn]) hq
  | .exit id, Q, Q', φ, w, h, hs => h _ _ _ (fun _ _ => rfl) hs
  | .ret, Q, Q', φ, w, h, hs => h _ _ _ (fun _ _ => rfl) hs
  | .label _, Q, Q', φ, w, h, hs => h _ _ _ (fun _ _ => rfl) hs
  | .goto _, _, _, _, _, _, hs => hs.elim
  | .scope c, Q, Q', φ, w, h, hs => by
    simp only [semA] at hs ⊢
    refine semA_frame c _ _ φ w (fun e φ' w' hfr hq => ?_) hs
    cases e with
    | goto l => exact hq
    | _ => exact h _ _ _ hfr hq
  | .rangeFunc _ _ _ _, _, _, _, _, _, hs => hs.elim
  | .refuse _, _, _, _, _, _, hs => hs.elim
theorem semA_mono {c : Code} {Q Q' : QF} {φ : Fr} {w : World} (h : ∀ e φ' w', Q e φ' w' -> Q' e φ' w') (hs : semA P N c Q φ w) : semA P N c Q' φ w :=
  semA_frame c Q Q' φ w (fun e φ' w' _ hq => h e φ' w' hq) hs
theorem ops_of_sqPT {ops : Array Oper} {K : Fr -> World -> Prop} {Q : Exit -> Act -> World -> Prop} {T : List Nat} (hK : ∀ φ a w, Fits N φ a -> K φ w -> wpOps P ops Q T a w) :
    ∀ (R : List Nat) (φ : Fr) (a : Act) (w : World), Fits N φ a -> sqP P N ops R K φ w -> wpOps P ops Q (R ++ T) a w
  | [], φ, a, w, hf, h => hK _ _ _ hf h
  | i :: R, φ, a, w, hf, h => by
    simp only [sqP] at h
    rw [List.cons_append, wpOps_cons]
    unfold wpOp
    cases ho : ops[i]? with
    | none => rw [ho] at h; exact h.elim
    | some o =>
      rw [ho] at h
      simp only at h ⊢
      rw [wantS_eq hf]
      unfold Sq at h
      split at h
      · rename_i hw
        rw [if_pos hw]
        refine .inl ?_
        unfold Oper.wp
        rw [hf.eval]
        cases hk : kindOf P o with
        | eff =>
          rw [hk] at h
          cases h with
          | value v w' hr hk' => rw [hr]; exact ops_of_sqPT hK R _ _ _ (hf.put _ _) hk'
          | skip w' hr hk' => rw [hr]; exact ops_of_sqPT hK R _ _ _ (hf.put _ _) hk'
          | enter g args hr hk' =>
            rw [hr]
            refine hk'.mono fun e w' he => ?_
            obtain ⟨v, rfl, h3⟩ := he
            exact ops_of_sqPT hK R _ _ _ (hf.put _ _) h3
        | pure => rw [hk] at h; obtain ⟨v, hy, h⟩ := h; unfold Yes at hy; rw [hy]; exact ops_of_sqPT hK R _ _ _ (hf.put _ _) h
        | read => rw [hk] at h; obtain ⟨v, hy, h⟩ := h; unfold Yes at hy; rw [hy]; exact ops_of_sqPT hK R _ _ _ (hf.put _ _) h
      · rename_i hw
        rw [if_neg hw]
        exact ops_of_sqPT hK R _ _ _ (hf.put _ _) h
theorem ops_of_sqP {ops : Array Oper} {K : Fr -> World -> Prop} {Q : Exit -> Act -> World -> Prop} (hK : ∀ φ a w, Fits N φ a -> K φ w -> Q .normal a w)
    (R : List Nat) (φ : Fr) (a : Act) (w : World) (hf : Fits N φ a) (h : sqP P N ops R K φ w) : wpOps P ops Q R a w := by
  have := ops_of_sqPT (T := []) (Q := Q) (fun φ a w hf hk => hK φ a w hf hk) R φ a w hf h
  rwa [List.append_nil] at this
theorem pan_ops {ops : Array Oper} {x : Operand} (h : panOf ops = some x) : ∃ o, ops[ops.size - 1]? = some o /\ o.guard = none /\ o.op = .panic x /\ List.range ops.size = List.range (ops.size - 1) ++ [ops.size - 1] := by
  unfold panOf at h
  split at h
  · rename_i o ho
    split at h
    · rename_i hg hop
      simp only [Option.some.injEq] at h
      subst h
      refine ⟨o, ho, hg, hop, ?_⟩
      have hlt := (Array.getElem?_eq_some_iff.1 ho).1
      have e : ops.size = (ops.size - 1) + 1 := by omega
      conv => lhs; rw [e]
      rw [List.range_succ]
    · cases h
  · cases h
theorem run_panicS {x : Operand} {φ : Fr} {o : Oper} {t : TypeId} {v : Value} {w : World} (ho : o.op = .panic x) (he : ev φ x = .iface t v) : (execOp (ev φ) o).run P w = .halt (.panic (.iface t v)) w := by
  obtain ⟨dst, op, ty, pos, after, guard⟩ := o
  simp only at ho
  subst ho
  have hp : (Instr.panic (.iface t v)).run P w = .halt (.panic (.iface t v)) w := rfl
  simp [execOp, go_sem, he, hp]
theorem wp_of_semA : ∀ (c : Code) (Q : QF) (Q' : Exit -> Act -> World -> Prop) (φ : Fr) (a : Act) (w : World), Fits N φ a -> (∀ e φ' a' w', Fits N φ' a' -> Q e φ' w' -> Q' e a' w') ->
    semA P N c Q φ w -> c.wp P Q' a w
  | .skip, Q, Q', φ, a, w, hf, hQ, h => wp_skip (hQ _ _ _ _ hf h)
  | .region id ops draw, Q, Q', φ, a, w, hf, hQ, h => by
    cases draw with
    | false =>
      simp only [semA] at h
      cases hp : panOf ops with
      | none => rw [hp] at h; exact wp_region (ops_of_sqP (fun φ a w hf hk => hQ _ _ _ _ hf hk) _ φ a w hf h)
      | some x =>
        rw [hp] at h
        obtain ⟨o, ho, hg, hop, hr⟩ := pan_ops hp
        refine wp_region ?_
        rw [hr]
        refine ops_of_sqPT (fun φ a w hf hk => ?_) _ φ a w hf h
        rw [wpOps_cons]
        unfold wpOp
        rw [ho]
        simp only
        rw [wantS_eq hf, if_pos (by unfold wantS; rw [hg])]
        refine .inl ?_
        unfold Oper.wp
        rw [hf.eval]
        unfold panQ at hk
        split at hk
        · rename_i t v he
          rw [run_panicS hop he]
          exact hQ _ _ _ _ hf hk
        · exact hk.elim
    | true =>
      obtain ⟨hm, h⟩ := h
      refine wp_region_any hm ?_
      rcases h with ⟨hg, h⟩ | ⟨hg, h⟩
      case inr =>
        simp only [goodF, Bool.and_eq_true, List.all_eq_true, List.mem_range, List.any_eq_true] at hg
        obtain ⟨⟨⟨⟨⟨g1, g2⟩, g3⟩, g4⟩, g5⟩, g6⟩ := hg
        have hsel : ∀ (j : Nat) (o : Oper), ops[j]? = some o -> notSel o = true /\ ∀ e ∈ o.after.toList, Region.binds .any e = true -> e.on < j := by
          intro j o ho
          have := g1 j (Array.getElem?_eq_some_iff.1 ho).1
          rw [ho] at this
          simp only [Bool.and_eq_true, List.all_eq_true, Bool.or_eq_true, Bool.not_eq_true'] at this
          refine ⟨this.1, fun e he hb => ?_⟩
          rcases this.2 e he with h | h
          · rw [hb] at h; cases h
          · simpa [Nat.blt_eq] using h
        have hfo : ∀ i ∈ flo P ops, ∃ o x, ops[i]? = some o /\ fobj P o = some x := by
          intro i hi
          have := g2 i hi
          split at this
          · rename_i x hx
            obtain ⟨o, ho, hx⟩ := Option.bind_eq_some_iff.1 hx
            exact ⟨o, x, ho, hx⟩
          · cases this
        obtain ⟨S, h⟩ := h
        refine any_of_dF (S := S) (fun j o ho => (hsel j o ho).1) (fun j o ho => (hsel j o ho).2) hfo (K := Q .normal) (fun φ a w hf hk => hQ _ _ _ _ hf hk) _ (piF P ops) _ (fun _ => w.drew) _ φ a w.drew (Nat.eq_of_beq_eq_true g3) (by simp) (pairsB_spec g6) ?_ (by simp) ?_ ?_ hf ?_ h
        · intro i
          constructor
          · intro hi
            have hlt : i < ops.size := by have := g5 i hi; simpa [Nat.blt_eq] using this
            exact ⟨hlt, by simp [hlt]⟩
          · intro hi
            obtain ⟨x, hx, hb⟩ := g4 i hi.1
            rw [Nat.eq_of_beq_eq_true hb]; exact hx
        · intro i k _ hk
          have := (List.getElem?_eq_some_iff.1 (fidx_spec hk)).1
          simp [this]
        · intro k o ho hl
          have hk : k < ops.size := (Array.getElem?_eq_some_iff.1 ho).1
          simp [hk] at hl
        · intro i _ o _ _; exact EX.refl _ _
      obtain ⟨S, h⟩ := h
      refine any_of_drP hg (S := S) (K := fun _ => Q .normal) (fun _ φ a w hf hk => hQ _ _ _ _ hf hk) _ (List.range ops.size) _ (fun _ => w.drew) φ a w.drew (by simp) (by simp) List.pairwise_lt_range ?_ ?_ hf ?_ h
      · intro i
        simp only [List.mem_range]
        constructor
        · intro hi; exact ⟨hi, by simp [hi]⟩
        · exact fun h => h.1
      · intro k o ho hl
        have hk : k < ops.size := (Array.getElem?_eq_some_iff.1 ho).1
        simp [hk] at hl
      · intro i _ o _ _; exact EX.refl _ _
  | .seq x y, Q, Q', φ, a, w, hf, hQ, h => by
    refine wp_seq (wp_of_semA x _ _ φ a w hf (fun e φ' a' w' hf' hq => ?_) h)
    cases e with
    | normal => exact wp_of_semA y Q Q' φ' a' w' hf' hQ hq
    | _ => exact hQ _ _ _ _ hf' hq
  | .cond c x y, Q, Q', φ, a, w, hf, hQ, h => by
    obtain ⟨b, hb, h1, h2⟩ := h
    refine wp_cond_split (t := b) (by rw [hf.eval]; exact hb) (fun e => wp_of_semA x Q Q' φ a w hf hQ (h1 e)) (fun e => wp_of_semA y Q Q' φ a w hf hQ (h2 e))
  | .block id c, Q, Q', φ, a, w, hf, hQ, h => by
    refine wp_block (wp_of_semA c _ _ φ a w hf (fun e φ' a' w' hf' hq => ?_) h)
    cases e with
    | exit id' =>
      simp only [blockQ] at hq
      simp only [Exit.inBlock]
      by_cases hid : id' = id
      · subst hid
        rw [if_pos rfl]
        have : Nat.beq id' id' = true := by simp
        rw [this] at hq
        exact hQ _ _ _ _ hf' hq
      · rw [if_neg hid]
        have : Nat.beq id' id = false := by
          cases hb : Nat.beq id' id with
          | false => rfl
          | true => exact absurd (Nat.eq_of_beq_eq_true hb) hid
        rw [this] at hq
        exact hQ _ _ _ _ hf' hq
    | _ => exact hQ _ _ _ _ hf' hq
  | .loop c, Q, Q', φ, a, w, hf, hQ, h => by
    obtain ⟨J, μ, h0, hr⟩ := h
    refine wp_loop (fun a w => ∃ ψ, Fits N ψ a /\ J ψ w /\ ∀ n, n ∉ dstsOf c -> ψ n = φ n) (fun a w => μ (fun n => a.tmps.getD n undef) w) ⟨φ, hf, h0, fun _ _ => rfl⟩ ?_
    intro a1 w1 ⟨ψ, hf1, hJ, hψ⟩
    have eqf : ∀ {ψ : Fr} {a : Act}, Fits N ψ a -> (fun n => a.tmps.getD n undef) = ψ := fun hf => funext hf.get
    have hb := hr ψ w1 hJ hψ
    have hb2 : semA P N c (fun e φ' w' => (∀ n, n ∉ dstsOf c -> φ' n = ψ n) /\ thenQ (fun φ' w' => J φ' w' /\ μ φ' w' < μ ψ w1) Q e φ' w') ψ w1 :=
      semA_frame c _ _ ψ w1 (fun e φ' w' hfr hq => ⟨hfr, hq⟩) hb
    refine wp_of_semA c _ _ ψ a1 w1 hf1 (fun e φ' a' w' hf' hq => ?_) hb2
    obtain ⟨hfr, hq⟩ := hq
    cases e with
    | normal =>
      refine ⟨⟨φ', hf', hq.1, fun n hn => by rw [hfr n hn, hψ n hn]⟩, ?_⟩
      rw [eqf hf', eqf hf1]
      exact hq.2
    | _ => exact hQ _ _ _ _ hf' hq
  | .exit id, Q, Q', φ, a, w, hf, hQ, h => wp_exit (hQ _ _ _ _ hf h)
  | .ret, Q, Q', φ, a, w, hf, hQ, h => wp_ret (hQ _ _ _ _ hf h)
  | .label _, Q, Q', φ, a, w, hf, hQ, h => wp_label (hQ _ _ _ _ hf h)
  | .goto _, _, _, _, _, _, _, _, hs => hs.elim
  | .scope c, Q, Q', φ, a, w, hf, hQ, h => by
    refine wp_scope_straight (wp_of_semA c _ _ φ a w hf (fun e φ' a' w' hf' hq => ?_) h)
    cases e with
    | goto l => exact hq.elim
    | _ => exact hQ _ _ _ _ hf' hq
  | .rangeFunc _ _ _ _, _, _, _, _, _, _, _, hs => hs.elim
  | .refuse _, _, _, _, _, _, _, _, hs => hs.elim
end
end Go.Proofs.YtgbknjdjbahdkaaGreatDoor.Sx
namespace Go.Proofs.YtgbknjdjbahdkaaGreatDoor.Sx
open Go Go.RowKit
def splitG : Bool -> (Value -> Prop) -> Value -> Prop
  | false, k, v => k v
  | true, k, v => match v with
    | .bool b => (b = true -> k (.bool true)) /\ (b = false -> k (.bool false))
    | v => k v
theorem splitG_imp {g : Bool} {k : Value -> Prop} {v : Value} (h : splitG g k v) : k v := by
  cases g with
  | false => exact h
  | true =>
    cases v <;> try exact h
    rename_i b
    cases b
    · exact h.2 rfl
    · exact h.1 rfl
def wantT (ops : Array Oper) (φ : Fr) (o : Oper) (A B : Prop) : Prop :=
  match o.guard with
  | none => A
  | some (j, want) => match (ops[j]?).bind (·.dst) with
    | some t => match φ t with
      | .bool b => cond (b == want) A B
      | _ => B
    | none => B
theorem wantT_imp {ops : Array Oper} {φ : Fr} {o : Oper} {A B : Prop} (h : wantT ops φ o A B) : (wantS ops φ o = true /\ A) ∨ (wantS ops φ o = false /\ B) := by
  unfold wantT at h
  unfold wantS
  cases hg : o.guard with
  | none => rw [hg] at h; exact .inl ⟨rfl, h⟩
  | some gw =>
    obtain ⟨j, want⟩ := gw
    rw [hg] at h
    simp only at h ⊢
    cases ht : (ops[j]?).bind (·.dst) with
    | none => rw [ht] at h; exact .inr ⟨rfl, h⟩
    | some t =>
      rw [ht] at h
      simp only at h ⊢
      cases hv : φ t <;> rw [hv] at h <;> simp only at h ⊢ <;> try exact .inr ⟨trivial, h⟩
      rename_i b
      cases hw : b == want with
      | true => rw [hw] at h; exact .inl ⟨rfl, h⟩
      | false => rw [hw] at h; exact .inr ⟨rfl, h⟩
def isG (ops : Array Oper) (i : Nat) : Bool := ops.toList.any fun o => match o.guard with | some (j, _) => Nat.beq j i | none => false
section
variable (P : Program) (N : Nat)
def dsem (S : List Nat) (ops : Array Oper) (draw : Bool) (K : Fr -> World -> Prop) : List Nat -> (Nat -> World) -> Fr -> World -> Prop
  | [], wds, φ, w => K φ w
  | i :: R, wds, φ, w => match ops[i]? with
    | none => False
    | some o => wantT ops φ o
      (match kindOf P o with
        | .pure => semPure P φ o (splitG (isG ops i) fun v => dsem S ops draw K R wds (φ.put N o.dst v) w)
        | .read => semRead P (cond draw (fun p => ∀ w', EX S (wds i) w' -> p w') (fun p => p w)) φ o (splitG (isG ops i) fun v => dsem S ops draw K R wds (φ.put N o.dst v) w)
        | .eff => semEff P φ o w fun v w' => cond (draw && needExt P ops (msOf ops) i)
            (EX S w w' /\ splitG (isG ops i) (fun v => dsem S ops draw K R (cond draw (upd (msOf ops) wds i w') wds) (φ.put N o.dst v) w') v)
            (splitG (isG ops i) (fun v => dsem S ops draw K R (cond draw (upd (msOf ops) wds i w') wds) (φ.put N o.dst v) w') v))
      (dsem S ops draw K R wds (φ.put N o.dst undef) w)
theorem dsem_drP {S : List Nat} {ops : Array Oper} {K : Fr -> World -> Prop} : ∀ (R : List Nat) (wds : Nat -> World) (φ : Fr) (w : World),
    dsem P N S ops true K R wds φ w -> drP P N ops S R (fun _ => K) wds φ w
  | [], wds, φ, w, h => h
  | i :: R, wds, φ, w, h => by
    simp only [dsem] at h
    simp only [drP]
    cases ho : ops[i]? with
    | none => rw [ho] at h; exact h
    | some o =>
      rw [ho] at h
      simp only at h ⊢
      rcases wantT_imp h with ⟨hw, h⟩ | ⟨hw, h⟩
      · cases hk : kindOf P o with
        | pure =>
          rw [hk] at h
          obtain ⟨v, hy, h⟩ := semPure_sound h
          exact St.quiet (.inl ⟨hw, by simp [hk], fun w' _ => hy w'⟩) (dsem_drP R _ _ _ (splitG_imp h))
        | read =>
          rw [hk] at h
          obtain ⟨v, hy, h⟩ := semRead_sound (C := EX S (wds i)) (fun p hp w hw => hp w hw) h
          exact St.quiet (.inl ⟨hw, by simp [hk], fun w' hc => hy w' (by simpa [Cls, hk] using hc)⟩) (dsem_drP R _ _ _ (splitG_imp h))
        | eff =>
          rw [hk] at h
          refine St.loud hw hk ((semEff_sound h).mono fun v w' h => ?_)
          cases hn : needExt P ops (msOf ops) i with
          | true =>
            rw [hn] at h
            exact ⟨fun _ => h.1, dsem_drP R _ _ _ (splitG_imp h.2)⟩
          | false =>
            rw [hn] at h
            exact ⟨fun e => by simp at e, dsem_drP R _ _ _ (splitG_imp h)⟩
      · exact St.quiet (.inr ⟨hw, rfl⟩) (dsem_drP R _ _ _ h)
def dsemF (S : List Nat) (ops : Array Oper) (os : List Nat) (K : Fr -> World -> Prop) : List Nat -> (Nat -> World) -> List (Option Nat) -> Fr -> World -> Prop
  | [], wds, ss, φ, w => K φ w
  | i :: R, wds, ss, φ, w => match ops[i]? with
    | none => False
    | some o => match fidx os i with
      | some k => ∀ ss' w' r, Fl (objs P ops os) ss w ss' w' -> ss'[k]? = some (some r) -> dsemF S ops os K R wds ss' (φ.put N o.dst (valAt P ops i r)) w'
      | none => wantT ops φ o
        (match kindOf P o with
          | .pure => semPure P φ o (splitG (isG ops i) fun v => dsemF S ops os K R wds ss (φ.put N o.dst v) w)
          | .read => semRead P (fun p => ∀ w', EX S (wds i) w' -> p w') φ o (splitG (isG ops i) fun v => dsemF S ops os K R wds ss (φ.put N o.dst v) w)
          | .eff => cond (anyF os R)
            (∀ ss' w1, Fl (objs P ops os) ss w ss' w1 -> semEff P φ o w1 fun v w' => cond (needExt P ops (msOf ops) i)
              (EX S w1 w' /\ splitG (isG ops i) (fun v => dsemF S ops os K R (upd (msOf ops) wds i w') ss' (φ.put N o.dst v) w') v)
              (splitG (isG ops i) (fun v => dsemF S ops os K R (upd (msOf ops) wds i w') ss' (φ.put N o.dst v) w') v))
            (semEff P φ o w fun v w' => cond (needExt P ops (msOf ops) i)
              (EX S w w' /\ splitG (isG ops i) (fun v => dsemF S ops os K R (upd (msOf ops) wds i w') ss (φ.put N o.dst v) w') v)
              (splitG (isG ops i) (fun v => dsemF S ops os K R (upd (msOf ops) wds i w') ss (φ.put N o.dst v) w') v)))
        (cond (isEff P o && anyF os R) (∀ ss' w1, Fl (objs P ops os) ss w ss' w1 -> dsemF S ops os K R wds ss' (φ.put N o.dst undef) w1) (dsemF S ops os K R wds ss (φ.put N o.dst undef) w))
theorem dsemF_dF {S : List Nat} {ops : Array Oper} {os : List Nat} {K : Fr -> World -> Prop} : ∀ (R : List Nat) (wds : Nat -> World) (ss : List (Option Nat)) (φ : Fr) (w : World),
    dsemF P N S ops os K R wds ss φ w -> dF P N ops os S R K wds ss φ w
  | [], wds, ss, φ, w, h => h
  | i :: R, wds, ss, φ, w, h => by
    simp only [dsemF] at h
    simp only [dF]
    cases ho : ops[i]? with
    | none => rw [ho] at h; exact h
    | some o =>
      rw [ho] at h
      simp only at h ⊢
      cases hi : fidx os i with
      | some k => rw [hi] at h; exact fun ss' w' r hfl hr => dsemF_dF R _ _ _ _ (h ss' w' r hfl hr)
      | none =>
        rw [hi] at h
        simp only at h ⊢
        rcases wantT_imp h with ⟨hw, h⟩ | ⟨hw, h⟩
        · cases hk : kindOf P o with
          | pure =>
            rw [hk] at h
            have hb : isEff P o = false := by simp [isEff, hk]
            rw [hb]
            simp only [Bool.false_and, cond_false]
            obtain ⟨v, hy, h⟩ := semPure_sound h
            exact St.quiet (S := S) (G := fun wds' φ' w' => dF P N ops os S R K wds' ss φ' w') (.inl ⟨hw, by simp [hk], fun w' _ => hy w'⟩) (dsemF_dF R _ _ _ _ (splitG_imp h))
          | read =>
            rw [hk] at h
            have hb : isEff P o = false := by simp [isEff, hk]
            rw [hb]
            simp only [Bool.false_and, cond_false]
            obtain ⟨v, hy, h⟩ := semRead_sound (C := EX S (wds i)) (fun p hp w hw => hp w hw) h
            exact St.quiet (S := S) (G := fun wds' φ' w' => dF P N ops os S R K wds' ss φ' w') (.inl ⟨hw, by simp [hk], fun w' hc => hy w' (by simpa [Cls, hk] using hc)⟩) (dsemF_dF R _ _ _ _ (splitG_imp h))
          | eff =>
            rw [hk] at h
            have hb : isEff P o = true := by simp [isEff, hk]
            rw [hb]
            simp only [Bool.true_and]
            have step : ∀ ss' w1, semEff P φ o w1 (fun v w' => cond (needExt P ops (msOf ops) i)
              (EX S w1 w' /\ splitG (isG ops i) (fun v => dsemF P N S ops os K R (upd (msOf ops) wds i w') ss' (φ.put N o.dst v) w') v)
              (splitG (isG ops i) (fun v => dsemF P N S ops os K R (upd (msOf ops) wds i w') ss' (φ.put N o.dst v) w') v)) ->
                St P N ops S i o wds φ w1 (fun wds' φ' w' => dF P N ops os S R K wds' ss' φ' w') := by
              intro ss' w1 h
              refine St.loud hw hk ((semEff_sound h).mono fun v w' h => ?_)
              cases hn : needExt P ops (msOf ops) i with
              | true =>
                rw [hn] at h
                exact ⟨fun _ => h.1, dsemF_dF R _ _ _ _ (splitG_imp h.2)⟩
              | false =>
                rw [hn] at h
                exact ⟨fun e => by simp at e, dsemF_dF R _ _ _ _ (splitG_imp h)⟩
            cases hf : anyF os R with
            | true => rw [hf] at h; exact fun ss' w1 hfl => step ss' w1 (h ss' w1 hfl)
            | false => rw [hf] at h; exact step ss w h
        · cases hb : (isEff P o && anyF os R) with
          | false => rw [hb] at h; exact St.quiet (S := S) (G := fun wds' φ' w' => dF P N ops os S R K wds' ss φ' w') (.inr ⟨hw, rfl⟩) (dsemF_dF R _ _ _ _ h)
          | true =>
            rw [hb] at h
            exact fun ss' w1 hfl => St.quiet (S := S) (G := fun wds' φ' w' => dF P N ops os S R K wds' ss' φ' w') (.inr ⟨hw, rfl⟩) (dsemF_dF R _ _ _ _ (h ss' w1 hfl))
theorem dsem_sqP {ops : Array Oper} {K : Fr -> World -> Prop} : ∀ (R : List Nat) (wds : Nat -> World) (φ : Fr) (w : World),
    dsem P N [] ops false K R wds φ w -> sqP P N ops R K φ w
  | [], wds, φ, w, h => h
  | i :: R, wds, φ, w, h => by
    simp only [dsem] at h
    simp only [sqP]
    cases ho : ops[i]? with
    | none => rw [ho] at h; exact h
    | some o =>
      rw [ho] at h
      simp only at h ⊢
      unfold Sq
      rcases wantT_imp h with ⟨hw, h⟩ | ⟨hw, h⟩
      · rw [if_pos hw]
        cases hk : kindOf P o with
        | pure =>
          rw [hk] at h
          obtain ⟨v, hy, h⟩ := semPure_sound h
          exact ⟨v, hy w, dsem_sqP R _ _ _ (splitG_imp h)⟩
        | read =>
          rw [hk] at h
          obtain ⟨v, hy, h⟩ := semRead_sound (C := fun w' => w' = w) (fun p hp w' hw => by subst hw; exact hp) h
          exact ⟨v, hy w rfl, dsem_sqP R _ _ _ (splitG_imp h)⟩
        | eff =>
          rw [hk] at h
          refine (semEff_sound h).mono fun v w' h => ?_
          simp only [Bool.false_and, cond_false] at h
          exact dsem_sqP R _ _ _ (splitG_imp h)
      · rw [if_neg (by simp [hw])]
        exact dsem_sqP R _ _ _ h
def keyOf : Code -> Nat
  | .region id _ _ => id + 1
  | .seq a b => match keyOf a with
    | 0 => keyOf b
    | k => k
  | .cond _ a b => match keyOf a with
    | 0 => keyOf b
    | k => k
  | .block _ c => keyOf c
  | .loop c => keyOf c
  | .scope c => keyOf c
  | _ => 0
def memN : List Nat -> Nat -> Bool
  | [], _ => false
  | x :: r, n => cond (Nat.beq x n) true (memN r n)
def lookN : List (Nat × VS) -> List Value -> Nat -> Option Value
  | (d, _) :: r, v :: vs, n => cond (Nat.beq d n) (some v) (lookN r vs n)
  | _, _, _ => none
def havoc (ds : List Nat) (cs : List (Nat × VS)) (vs : List Value) (ζ φ : Fr) : Fr := fun n =>
  match lookN cs vs n with
  | some v => v
  | none => cond (memN ds n) (ζ n) (φ n)
theorem memN_spec : ∀ {l : List Nat} {n : Nat}, memN l n = false -> n ∉ l
  | [], _, _ => by simp
  | x :: r, n, h => by
    simp only [memN] at h
    cases hb : Nat.beq x n with
    | true => rw [hb] at h; cases h
    | false =>
      rw [hb] at h
      simp only [List.mem_cons, not_or]
      exact ⟨fun e => by subst e; simp at hb, memN_spec h⟩
theorem lookN_map {φ : Fr} : ∀ {cs : List (Nat × VS)} {n : Nat} {v : Value}, lookN cs (cs.map fun c => φ c.1) n = some v -> v = φ n
  | [], _, _, h => by simp [lookN] at h
  | (d, s) :: r, n, v, h => by
    simp only [List.map_cons, lookN] at h
    cases hb : Nat.beq d n with
    | true =>
      rw [hb] at h
      simp only [cond_true, Option.some.injEq] at h
      rw [<- h, Nat.eq_of_beq_eq_true hb]
    | false =>
      rw [hb] at h
      exact lookN_map h
theorem havoc_eq {ds : List Nat} {cs : List (Nat × VS)} {φ ψ : Fr} (h : ∀ n, n ∉ ds -> ψ n = φ n) : havoc ds cs (cs.map fun c => ψ c.1) ψ φ = ψ := by
  funext n
  unfold havoc
  split
  · rename_i v hv; exact lookN_map hv
  · cases hm : memN ds n with
    | true => rfl
    | false => exact (h n (memN_spec hm)).symm
variable (car : Nat -> List (Nat × VS))
def sem : Code -> QF -> Fr -> World -> Prop
  | .skip, Q, φ, w => Q .normal φ w
  | .region id ops draw, Q, φ, w =>
    match draw with
    | true => cond (P.follows .mixedOrders) (cond (good P ops) (cond (needS P ops) (∃ S, dsem P N S ops true (Q .normal) (List.range ops.size) (fun _ => w.drew) φ w.drew) (dsem P N [] ops true (Q .normal) (List.range ops.size) (fun _ => w.drew) φ w.drew))
        (cond (goodF P ops (flo P ops) (piF P ops)) (dsemF P N [] ops (flo P ops) (Q .normal) (piF P ops) (fun _ => w.drew) (List.replicate (flo P ops).length none) φ w.drew) False)) False
    | false => match panOf ops with
      | none => dsem P N [] ops false (Q .normal) (List.range ops.size) (fun _ => w) φ w
      | some x => dsem P N [] ops false (panQ x Q) (List.range (ops.size - 1)) (fun _ => w) φ w
  | .seq x y, Q, φ, w => sem x (thenQ (sem y Q) Q) φ w
  | .cond c x y, Q, φ, w => match ev φ c with
    | .bool b => (b = true -> sem x Q φ w) /\ (b = false -> sem y Q φ w)
    | _ => False
  | .block id c, Q, φ, w => sem c (blockQ id Q) φ w
  | .scope c, Q, φ, w => sem c (scopeQ Q) φ w
  | .loop c, Q, φ, w =>
    ∃ (I : TyT ((car (keyOf c)).map (·.2)) (World -> Prop)) (μ : TyT ((car (keyOf c)).map (·.2)) (World -> Nat)),
      holds ((car (keyOf c)).map (·.2)) I ((car (keyOf c)).map fun x => φ x.1) w /\
      ∀ (ζ : Fr) (w : World), allT ((car (keyOf c)).map (·.2)) fun vs => holds ((car (keyOf c)).map (·.2)) I vs w ->
        sem c (thenQ (fun φ' w' => holds ((car (keyOf c)).map (·.2)) I ((car (keyOf c)).map fun x => φ' x.1) w' /\
          meas ((car (keyOf c)).map (·.2)) μ ((car (keyOf c)).map fun x => φ' x.1) w' < meas ((car (keyOf c)).map (·.2)) μ vs w) Q)
          (havoc (dstsOf c) (car (keyOf c)) vs ζ φ) w
  | .exit id, Q, φ, w => Q (.exit id) φ w
  | .ret, Q, φ, w => Q .ret φ w
  | .label _, Q, φ, w => Q .normal φ w
  | _, _, _, _ => False
variable {P N car}
theorem semA_of_sem : ∀ (c : Code) (Q : QF) (φ : Fr) (w : World), sem P N car c Q φ w -> semA P N c Q φ w
  | .skip, Q, φ, w, h => h
  | .region id ops draw, Q, φ, w, h => by
    cases draw with
    | false =>
      simp only [sem] at h
      simp only [semA]
      cases hp : panOf ops with
      | none => rw [hp] at h; exact dsem_sqP P N _ _ _ _ h
      | some x => rw [hp] at h; exact dsem_sqP P N _ _ _ _ h
    | true =>
      simp only [sem] at h
      cases hm : P.follows .mixedOrders with
      | false => rw [hm] at h; exact h.elim
      | true =>
        rw [hm] at h
        refine ⟨hm, ?_⟩
        cases hc : good P ops with
        | true =>
          rw [hc] at h
          cases hn : needS P ops with
          | true => rw [hn] at h; exact .inl ⟨rfl, h.elim fun S h => ⟨S, dsem_drP P N _ _ _ _ h⟩⟩
          | false => rw [hn] at h; exact .inl ⟨rfl, [], dsem_drP P N _ _ _ _ h⟩
        | false =>
          rw [hc] at h
          cases hd : goodF P ops (flo P ops) (piF P ops) with
          | true => rw [hd] at h; exact .inr ⟨rfl, [], dsemF_dF P N _ _ _ _ _ h⟩
          | false => rw [hd] at h; exact h.elim
  | .seq x y, Q, φ, w, h => by
    have h1 := semA_of_sem x (thenQ (sem P N car y Q) Q) φ w h
    show semA P N x (thenQ (semA P N y Q) Q) φ w
    refine semA_mono (fun e φ' w' hq => ?_) h1
    cases e with
    | normal => exact semA_of_sem y _ _ _ hq
    | _ => exact hq
  | .cond c x y, Q, φ, w, h => by
    simp only [sem] at h
    split at h
    · rename_i b hb
      exact ⟨b, hb, fun e => semA_of_sem x _ _ _ (h.1 e), fun e => semA_of_sem y _ _ _ (h.2 e)⟩
    · exact h.elim
  | .block id c, Q, φ, w, h => semA_of_sem c _ φ w h
  | .loop c, Q, φ, w, h => by
    obtain ⟨I, μ, h0, hr⟩ := h
    refine ⟨fun φ w => holds _ I ((car (keyOf c)).map fun x => φ x.1) w, fun φ w => meas _ μ ((car (keyOf c)).map fun x => φ x.1) w, h0, ?_⟩
    intro ψ w1 hJ hψ
    have h1 := hr ψ w1
    have h2 : ∃ g, appT ((car (keyOf c)).map (·.2)) I ((car (keyOf c)).map fun x => ψ x.1) = some g := by
      unfold holds at hJ
      split at hJ
      · rename_i g hg; exact ⟨g, hg⟩
      · exact hJ.elim
    obtain ⟨g, hg⟩ := h2
    have h3 := allT_app hg h1 hJ
    rw [havoc_eq hψ] at h3
    exact semA_of_sem c _ ψ w1 h3
  | .exit id, Q, φ, w, h => h
  | .ret, Q, φ, w, h => h
  | .label _, Q, φ, w, h => h
  | .goto _, _, _, _, hs => hs.elim
  | .scope c, Q, φ, w, h => semA_of_sem c _ φ w h
  | .rangeFunc _ _ _ _, _, _, _, hs => hs.elim
  | .refuse _, _, _, _, hs => hs.elim
abbrev S (l : List UInt8) : ByteArray := ⟨⟨l⟩⟩
def CallW (P : Program) (f : Value) (args : List Value) (w : World) (Q : Ending -> World -> Prop) : Prop :=
 ∃ g first captured, f = .func (.func g) ⟨first⟩ ⟨captured⟩ /\ goFunc P g = true /\ Calls P g ⟨first ++ args ++ captured⟩ w Q
theorem Ret.at {P : Program} {f : FuncId} {args : List Value} {w : World} {R : Value -> World -> Prop} {Q : Ending -> World -> Prop} (h : Calls P f ⟨args⟩ w fun e w' => ∃ v, e = .returned v /\ R v w')
    (hr : ∀ v w', R v w' -> Q (.returned v) w') : Calls P f ⟨args⟩ w Q :=
  Calls.mono h fun e w' ⟨v, he, hv⟩ => he ▸ hr _ _ hv
def resT (P : Program) (φ : Fr) (w : World) : List ResultVar -> (List Value -> Prop) -> Prop
  | [], K => K []
  | .tmp t :: r, K => resT P φ w r fun vs => K (φ t :: vs)
  | .cell a t :: r, K => match φ a with
    | .pointer p => ptrS p fun ad => exV (vsOf P t) fun v => Loads P t ad v w /\ resT P φ w r fun vs => K (v :: vs)
    | _ => False
def retV : List Value -> Value
  | [v] => v
  | vs => .tuple ⟨vs⟩
def bodyQ (P : Program) (fn : Func) (R : Value -> World -> Prop) : QF
  | .normal, φ, w => resT P φ w fn.results.toList fun vs => R (retV vs) w
  | .ret, φ, w => resT P φ w fn.results.toList fun vs => R (retV vs) w
  | _, _, _ => False
def initF (args : List Value) : Fr := fun n => args.getD n undef
def fsem (P : Program) (fn : Func) (car : Nat -> List (Nat × VS)) (args : List Value) (R : Value -> World -> Prop) (w : World) : Prop :=
  match fn.body with
  | some c => sem P fn.ntmps car c (bodyQ P fn R) (initF args) w
  | none => False
def Ret (P : Program) (f : FuncId) (args : List Value) (w : World) (R : Value -> World -> Prop) : Prop :=
 Calls P f ⟨args⟩ w fun e w' => ∃ v, e = .returned v /\ R v w'
theorem Ret.mono {P : Program} {f : FuncId} {args : List Value} {w : World} {R R' : Value -> World -> Prop} (h : Ret P f args w R) (hr : ∀ v w', R v w' -> R' v w') : Ret P f args w R' :=
  Calls.mono h fun e w' ⟨v, he, hv⟩ => ⟨v, he, hr _ _ hv⟩
theorem Ret.call {P : Program} {f : FuncId} {args : List Value} {rs : List VS} {w : World} {R K : Value -> World -> Prop} (h : Ret P f args w R)
    (hr : ∀ v w', R v w' -> exR rs fun u => v = u /\ K u w') : CallS P f args rs w K := by
  refine Calls.mono h fun e w' ⟨v, he, hv⟩ => ?_
  have := hr v w' hv
  have gen : ∀ {rs : List VS} {A B : Value -> Prop}, (∀ u, A u -> B u) -> exR rs A -> exR rs B := by
    have gS : ∀ {s : Sh} {A B : Value -> Prop}, (∀ u, A u -> B u) -> exS s A -> exS s B := by
      intro s A B hab h
      cases s <;> simp only [exS] at h ⊢
      case slice => obtain ⟨p, n, c, h⟩ := h; exact ⟨p, n, c, hab _ h⟩
      all_goals (obtain ⟨x, h⟩ := h; exact ⟨x, hab _ h⟩)
    have gL : ∀ {l : List Sh} {A B : List Value -> Prop}, (∀ u, A u -> B u) -> exL l A -> exL l B := by
      intro l
      induction l with
      | nil => intro A B hab h; exact hab _ h
      | cons s r ih => intro A B hab h; exact gS (fun v hv => ih (fun vs hvs => hab _ hvs) hv) h
    have gV : ∀ {s : VS} {A B : Value -> Prop}, (∀ u, A u -> B u) -> exV s A -> exV s B := by
      intro s A B hab h
      cases s with
      | one s => exact gS hab h
      | agg l => exact gL (fun vs hvs => hab _ hvs) h
    have gT : ∀ {l : List VS} {A B : List Value -> Prop}, (∀ u, A u -> B u) -> exT l A -> exT l B := by
      intro l
      induction l with
      | nil => intro A B hab h; exact hab _ h
      | cons s r ih => intro A B hab h; exact gV (fun v hv => ih (fun vs hvs => hab _ hvs) hv) h
    intro rs A B hab h
    match rs, h with
    | [s], h => exact gV hab h
    | [], h => exact gT (fun vs hvs => hab _ hvs) h
    | _ :: _ :: _, h => exact gT (fun vs hvs => hab _ hvs) h
  exact gen (fun u ⟨h1, h2⟩ => ⟨by rw [he, h1], h2⟩) this
def resF (tmps : Array Value) : ResultVar -> Sem Value
  | .tmp t => pure (tmps.getD t undef)
  | .cell a t => do loadVar t (<- asAddr (tmps.getD a undef))
theorem results_eq (fn : Func) (tmps : Array Value) : results fn tmps = (do let vs <- fn.results.mapM (resF tmps); pure (if h : vs.size = 1 then vs[0] else .tuple vs)) := by
  unfold results
  congr 1
theorem resT_sound {P : Program} {φ : Fr} {w : World} {a : Act} {N : Nat} (hf : Fits N φ a) : ∀ (l : List ResultVar) (K : List Value -> Prop), resT P φ w l K ->
    ∃ vs, K vs /\ (l.mapM (m := Sem) (resF a.tmps)).run P w = .ok vs w
  | [], K, h => ⟨[], h, rfl⟩
  | .tmp t :: r, K, h => by
    obtain ⟨vs, hk, hr⟩ := resT_sound hf r _ h
    refine ⟨_, hk, ?_⟩
    rw [List.mapM_cons]
    simp only [Sem.run_bind, Sem.run_pure, Result.andThen_ok, hr, resF]
    rw [hf.get]
  | .cell x t :: r, K, h => by
    simp only [resT] at h
    split at h
    · rename_i p hp
      obtain ⟨ad, rfl, h⟩ := ptrS_elim h
      obtain ⟨v, hl, h⟩ := exV_elim h
      obtain ⟨vs, hk, hr⟩ := resT_sound hf r _ h
      refine ⟨_, hk, ?_⟩
      rw [List.mapM_cons]
      have hl' : (loadVar t ad).run P w = .ok v w := hl
      have hp' : a.tmps.getD x undef = .pointer (some ad) := by rw [hf.get]; exact hp
      simp only [Sem.run_bind, resF, hp', asAddr, Sem.run_pure, Result.andThen_ok, hl', hr]
    · exact h.elim
theorem initF_fits {fn : Func} {args : List Value} (h : args.length <= fn.ntmps) :
    Fits fn.ntmps (initF args) { tmps := (⟨args⟩ : Array Value) ++ Array.replicate (fn.ntmps - (⟨args⟩ : Array Value).size) undef, defers := [] } := by
  refine ⟨by simp; omega, fun n => ?_, rfl⟩
  simp only [initF, Array.getD_eq_getD_getElem?, List.getD_eq_getElem?_getD, Array.getElem?_append, Array.getElem?_replicate, List.size_toArray]
  by_cases hn : n < args.length
  · simp [hn]
  · rw [if_neg hn]
    rw [List.getElem?_eq_none (by omega)]
    split <;> rfl
theorem Ret.of_fsem {P : Program} {f : FuncId} {fn : Func} {car : Nat -> List (Nat × VS)} {args : List Value} {w : World} {R : Value -> World -> Prop}
    (hf : P.funcs[f]? = some fn) (hlen : Nat.ble args.length fn.ntmps = true) (h : fsem P fn car args R w) : Ret P f args w R := by
  unfold fsem at h
  split at h
  · rename_i c hb
    refine calls_of_wp hf hb ?_
    have hlen' : args.length <= fn.ntmps := Nat.le_of_ble_eq_true hlen
    refine wp_of_semA c (bodyQ P fn R) _ (initF args) _ w (initF_fits hlen') (fun e φ a w' hfit hq => ?_) (semA_of_sem c _ _ _ h)
    have key : resT P φ w' fn.results.toList (fun vs => R (retV vs) w') -> a.defers = [] /\ ∃ v, (results fn a.tmps).run P w' = .ok v w' /\ ∃ u, Ending.returned v = .returned u /\ R u w' := by
      intro hq
      obtain ⟨vs, hk, hr⟩ := resT_sound hfit _ _ hq
      refine ⟨hfit.defers, retV vs, ?_, _, rfl, hk⟩
      rw [results_eq, Array.mapM_eq_mapM_toList]
      simp only [Sem.run_bind, Sem.run_map, hr, Result.andThen_ok, Sem.run_pure]
      match vs with
      | [] => simp [retV]
      | [v] => simp [retV]
      | _ :: _ :: _ => simp [retV]
    cases e with
    | normal => exact key hq
    | ret => exact key hq
    | _ => exact hq.elim
  · exact h.elim
def bodyQZ (P : Program) (fn : Func) (R Z : Value -> World -> Prop) : QF
  | .normal, φ, w => resT P φ w fn.results.toList fun vs => R (retV vs) w
  | .ret, φ, w => resT P φ w fn.results.toList fun vs => R (retV vs) w
  | .panic [⟨v, false, false⟩], _, w => Z v w
  | _, _, _ => False
def fsemZ (P : Program) (fn : Func) (car : Nat -> List (Nat × VS)) (args : List Value) (R Z : Value -> World -> Prop) (w : World) : Prop :=
  match fn.body with
  | some c => sem P fn.ntmps car c (bodyQZ P fn R Z) (initF args) w
  | none => False
def RetZ (P : Program) (f : FuncId) (args : List Value) (w : World) (R Z : Value -> World -> Prop) : Prop :=
 Calls P f ⟨args⟩ w fun e w' => (∃ v, e = .returned v /\ R v w') ∨ ∃ v, e = .panicked [{ v := v, recovered := false }] /\ Z v w'
theorem RetZ.of_fsem {P : Program} {f : FuncId} {fn : Func} {car : Nat -> List (Nat × VS)} {args : List Value} {w : World} {R Z : Value -> World -> Prop}
    (hf : P.funcs[f]? = some fn) (hlen : Nat.ble args.length fn.ntmps = true) (h : fsemZ P fn car args R Z w) : RetZ P f args w R Z := by
  unfold fsemZ at h
  split at h
  · rename_i c hb
    refine calls_of_wp hf hb ?_
    have hlen' : args.length <= fn.ntmps := Nat.le_of_ble_eq_true hlen
    refine wp_of_semA c (bodyQZ P fn R Z) _ (initF args) _ w (initF_fits hlen') (fun e φ a w' hfit hq => ?_) (semA_of_sem c _ _ _ h)
    have key : resT P φ w' fn.results.toList (fun vs => R (retV vs) w') -> a.defers = [] /\ ∃ v, (results fn a.tmps).run P w' = .ok v w' /\ ((∃ u, Ending.returned v = .returned u /\ R u w') ∨ ∃ u, Ending.returned v = .panicked [{ v := u, recovered := false }] /\ Z u w') := by
      intro hq
      obtain ⟨vs, hk, hr⟩ := resT_sound hfit _ _ hq
      refine ⟨hfit.defers, retV vs, ?_, .inl ⟨_, rfl, hk⟩⟩
      rw [results_eq, Array.mapM_eq_mapM_toList]
      simp only [Sem.run_bind, Sem.run_map, hr, Result.andThen_ok, Sem.run_pure]
      match vs with
      | [] => simp [retV]
      | [v] => simp [retV]
      | _ :: _ :: _ => simp [retV]
    cases e with
    | normal => exact key hq
    | ret => exact key hq
    | panic chain =>
      match chain, hq with
      | [⟨v, false, false⟩], hz => exact ⟨hfit.defers, .inr ⟨v, rfl, hz⟩⟩
    | _ => exact hq.elim
  · exact h.elim
end
end Go.Proofs.YtgbknjdjbahdkaaGreatDoor.Sx
namespace Go.Proofs.YtgbknjdjbahdkaaGreatDoor
noncomputable abbrev P : Program := Go.Proofs.Tryz.prog
end Go.Proofs.YtgbknjdjbahdkaaGreatDoor
namespace Go.Proofs.YtgbknjdjbahdkaaGreatDoor
variable {w : World} {R : Value -> World -> Prop}
open Go Go.Proofs.YtgbknjdjbahdkaaGreatDoor.Sx
set_option maxRecDepth 100000
def impl_TextSteps_j0 (a0 : World) (a1 : Option Addr -> Nat -> Nat -> Int -> World -> Prop) (mu : Option Addr -> Nat -> Nat -> Int -> World -> Nat) (a2 : Option Addr) (a3 a4 : Nat) (a5 : Int) (a6 : Option Addr) (a7 : Nat) (W : World) (R : Value -> World -> Prop) : Prop :=
 (0 <= (0 : Int) /\ (0 : Int) < (a7 : Nat)) /\ ptrS a6 fun a8 => ∃ a9, Loads P 9 (a8.add (0 * 1)) (.string a9) W /\ Calls P 35 ⟨[.string a9]⟩ W fun aa ab =>
 ∃ ac ae, aa = .returned (.tuple #[.int .i64 ac, .bool ae]) /\
 (0 <= (1 : Int) /\ (1 : Int) < (a7 : Nat)) /\ ptrS a6 fun af => ∃ ag, Loads P 9 (af.add (1 * 1)) (.string ag) ab /\ Calls P 36 ⟨[.string ag]⟩ ab fun ah ai =>
 ∃ aj ak al am an ao, ah = .returned (.tuple #[.agg #[.bool aj, .slice ak al am, .int .i64 an], .bool ao]) /\
 ∀ ap aq, New ai (.cells ⟨[.bool false, .slice none 0 0, .int .i64 0]⟩ 46 (0, 0)) ap aq ->
 ∃ wv_7, Stores P 46 ⟨ap, 0, none⟩ (.agg #[.bool aj, .slice ak al am, .int .i64 an]) aq wv_7 /\
 ((!ae) = true ->
 (true = true ->
 R (.tuple #[.slice none 0 0, .bool false]) wv_7) /\
 (true = false ->
 ∃ ar au av aw ax, Loads P 46 ⟨ap, 0, none⟩ (.agg #[.bool ar, .slice au av aw, .int .i64 ax]) wv_7 /\ ∀ ay az, New wv_7 (.cells ⟨[.int .i64 ac, .bool ar, .slice au av aw, .int .i64 ax]⟩ 48 (0, 0)) ay az ->
 ∃ b0 b1 b2 b3, Appends P [22, 22] [.slice a2 a3 a4, (.slice (some ⟨ay, 0, none⟩) 1 1)] (.slice b0 b1 b2) az b3 /\
 ∃ b4 : Int, b4 = IntKind.wrap .i64 (a5 + 1) /\ a1 b0 b1 b2 b4 b3 /\ mu b0 b1 b2 b4 b3 < mu a2 a3 a4 a5 a0)) /\
 ((!ae) = false ->
 ((!ao) = true ->
 R (.tuple #[.slice none 0 0, .bool false]) wv_7) /\
 ((!ao) = false ->
 ∃ b5 b6 b7 b8 b9, Loads P 46 ⟨ap, 0, none⟩ (.agg #[.bool b5, .slice b6 b7 b8, .int .i64 b9]) wv_7 /\ ∀ ba bb, New wv_7 (.cells ⟨[.int .i64 ac, .bool b5, .slice b6 b7 b8, .int .i64 b9]⟩ 48 (0, 0)) ba bb ->
 ∃ bc bd be bf, Appends P [22, 22] [.slice a2 a3 a4, (.slice (some ⟨ba, 0, none⟩) 1 1)] (.slice bc bd be) bb bf /\
 ∃ bg : Int, bg = IntKind.wrap .i64 (a5 + 1) /\ a1 bc bd be bg bf /\ mu bc bd be bg bf < mu a2 a3 a4 a5 a0))
def impl_TextSteps (s : ByteArray) (w : World) (R : Value -> World -> Prop) : Prop :=
 ∀ r wv, New w (.cells ⟨[]⟩ 48 (0, 0)) r wv ->
 Calls P 34 ⟨[.string s, (.string (S [44]))]⟩ wv fun e a0 =>
 ∃ a1 a2 a3, e = .returned (.slice a1 a2 a3) /\
 ∃ (a4 : Option Addr -> Nat -> Nat -> Int -> World -> Prop) (mu : Option Addr -> Nat -> Nat -> Int -> World -> Nat), a4 (some ⟨r, 0, none⟩) 0 0 0 a0 /\
 ∀ (a5 : Fr) (a6 : World) (a7 : Option Addr) (a8 a9 : Nat) (aa : Int), a4 a7 a8 a9 aa a6 ->
 ((decide ((aa : Int) < ((a2 : Nat) : Int))) = true ->
 (0 <= (aa : Int) /\ (aa : Int) < (a2 : Nat)) /\ ptrS a1 fun ad => ∃ ab, Loads P 9 (ad.add (aa.toNat * 1)) (.string ab) a6 /\ Calls P 34 ⟨[.string ab, (.string (S [58]))]⟩ a6 fun ac ae =>
 ∃ af ag ah, ac = .returned (.slice af ag ah) /\
 ((decide ((((ag : Nat) : Int) : Int) ≠ 2)) = true ->
 (true = true ->
 R (.tuple #[.slice none 0 0, .bool false]) ae) /\
 (true = false ->
 impl_TextSteps_j0 a6 a4 mu a7 a8 a9 aa af ag ae R)) /\
 ((decide ((((ag : Nat) : Int) : Int) ≠ 2)) = false ->
 ((decide ((((a8 : Nat) : Int) : Int) = 8)) = true ->
 R (.tuple #[.slice none 0 0, .bool false]) ae) /\
 ((decide ((((a8 : Nat) : Int) : Int) = 8)) = false ->
 impl_TextSteps_j0 a6 a4 mu a7 a8 a9 aa af ag ae R))) /\
 ((decide ((aa : Int) < ((a2 : Nat) : Int))) = false ->
 Calls P 37 ⟨[.slice a7 a8 a9]⟩ a6 fun ai aj =>
 ∃ ak, ai = .returned (.bool ak) /\
 ((!ak) = true ->
 R (.tuple #[.slice none 0 0, .bool false]) aj) /\
 ((!ak) = false ->
 R (.tuple #[.slice a7 a8 a9, .bool true]) aj))
theorem impl_TextSteps_ret {s : ByteArray} (h : impl_TextSteps s w R) : Ret P 6 [.string s] w R := Ret.of_fsem Tryz.func6 rfl (Eq.mp (show _ = fsem P Tryz.f6 (fun k => cond (Nat.beq k 4) [(4, .one .slice), (16, .one (.int .i64))] ([])) _ R w from by kernel_rfl) h)
def spec_MakeSteps (a0 : Option Addr) (a1 a2 : Nat) (w : World) (R : Value -> World -> Prop) : Prop :=
 Calls P 41 ⟨[.slice a0 a1 a2]⟩ w fun e wv =>
 ∃ t5, e = .returned (.pointer t5) /\
 Calls P 42 ⟨[(.pointer t5)]⟩ wv fun a3 a4 =>
 ∃ a5 a6 a7, a3 = .returned (.slice a5 a6 a7) /\
 R (.slice a5 a6 a7) a4
theorem spec_MakeSteps_ret {a : Option Addr} {a0 a1 : Nat} (h : spec_MakeSteps a a0 a1 w R) : Ret P 10 [.slice a a0 a1] w R := Ret.of_fsem Tryz.func10 rfl (Eq.mp (show _ = fsem P Tryz.f10 (fun k => []) _ R w from by kernel_rfl) h)
def spec_MakeNum (a0 : Option Addr) (a1 a2 : Nat) (n : Int) (w : World) (R : Value -> World -> Prop) : Prop :=
 Calls P 41 ⟨[.slice a0 a1 a2]⟩ w fun e wv =>
 ∃ t7, e = .returned (.pointer t7) /\
 ptrS t7 fun ad => ∃ a3, Loads P 3 (ad.add 2) (.int .i64 a3) wv /\ ∃ a4 : Int, a4 = IntKind.wrap .i64 (a3 + 777) /\ ptrS t7 fun a5 => ∃ wv_1, Stores P 3 (a5.add 2) (.int .i64 a4) wv wv_1 /\
 Calls P 43 ⟨[(.pointer t7), .int .i64 n]⟩ wv_1 fun a6 a7 =>
 ∃ a8, a6 = .returned (.int .i64 a8) /\
 R (.int .i64 a8) a7
theorem spec_MakeNum_ret {a : Option Addr} {a0 a1 : Nat} {n : Int} (h : spec_MakeNum a a0 a1 n w R) : Ret P 11 [.slice a a0 a1, .int .i64 n] w R := Ret.of_fsem Tryz.func11 rfl (Eq.mp (show _ = fsem P Tryz.f11 (fun k => []) _ R w from by kernel_rfl) h)
def impl_FeeExact_j0 (r a0 : Nat) (W : World) (R : Value -> World -> Prop) : Prop :=
 Calls P 45 ⟨[]⟩ W fun a1 a2 =>
 ∃ a3 a4 a5 a6 a7 a8 a9, a1 = .returned (.agg #[.bool a3, .slice a4 a5 a6, .slice a7 a8 a9]) /\
 ∀ aa ab, New a2 (.cells ⟨[.bool false, .slice none 0 0, .slice none 0 0]⟩ 35 (0, 0)) aa ab ->
 ∀ ac ae, New ab (.cells ⟨[.bool false]⟩ 4 (0, 0)) ac ae ->
 ∃ wv_8, Stores P 35 ⟨aa, 0, none⟩ (.agg #[.bool a3, .slice a4 a5 a6, .slice a7 a8 a9]) ae wv_8 /\
 ∃ wv_9, Stores P 4 ⟨ac, 0, none⟩ (.bool true) wv_8 wv_9 /\
 ∃ af ag ah, Loads P 22 ⟨r, 0, none⟩ (.slice af ag ah) wv_9 /\ ∃ ai aj ak, Loads P 31 ((⟨a0, 0, none⟩ : Addr).add 1) (.slice ai aj ak) wv_9 /\ Calls P 46 ⟨[.slice af ag ah, .slice ai aj ak]⟩ wv_9 fun al am =>
 ∃ (an : Value), al = .returned an /\
 False
abbrev impl_FeeExact_z0 (q : Nat) (x : World) (R : Value -> World -> Prop) : Prop :=
 ∃ y, Stores P 35 ⟨q, 0, none⟩ (.agg #[.bool false, .slice none 0 0, .slice none 0 0]) x y /\ ∃ r0 ag ah ai aj ak al, Loads P 35 ⟨q, 0, none⟩ (.agg #[.bool r0, .slice ag ah ai, .slice aj ak al]) y /\ R (.tuple #[.agg #[.bool r0, .slice ag ah ai, .slice aj ak al], .bool false]) y
def impl_FeeExact (a0 : Option Addr) (a1 a2 : Nat) (units0 : Bool) (a3 : Option Addr) (a4 a5 : Nat) (w : World) (R : Value -> World -> Prop) : Prop :=
 ∀ r wv, New w (.cells ⟨[.slice a0 a1 a2]⟩ 22 (0, 0)) r wv ->
 ∀ a6 a7, New wv (.cells ⟨[.bool units0, .slice a3 a4 a5]⟩ 33 (0, 0)) a6 a7 ->
 ∀ a8 a9, New a7 (.cells ⟨[.bool false, .slice none 0 0, .slice none 0 0]⟩ 35 (0, 0)) a8 a9 ->
 ∃ aa ab ac, Loads P 22 ⟨r, 0, none⟩ (.slice aa ab ac) a9 /\ Calls P 37 ⟨[.slice aa ab ac]⟩ a9 fun e ae =>
 ∃ af, e = .returned (.bool af) /\
 ((!af) = true ->
 (true = true ->
 (true = true ->
 impl_FeeExact_z0 a8 ae R) /\
 (true = false ->
 impl_FeeExact_j0 r a6 ae R)) /\
 (true = false ->
 ∃ am an ao, Loads P 31 ((⟨a6, 0, none⟩ : Addr).add 1) (.slice am an ao) ae /\ ((decide ((4 : Int) < ((an : Nat) : Int))) = true ->
 impl_FeeExact_z0 a8 ae R) /\
 ((decide ((4 : Int) < ((an : Nat) : Int))) = false ->
 impl_FeeExact_j0 r a6 ae R))) /\
 ((!af) = false ->
 ∃ ax ay az b0, Loads P 33 ⟨a6, 0, none⟩ (.agg #[.bool ax, .slice ay az b0]) ae /\ Calls P 44 ⟨[.agg #[.bool ax, .slice ay az b0]]⟩ ae fun b1 b2 =>
 ∃ b3, b1 = .returned (.bool b3) /\
 ((!b3) = true ->
 (true = true ->
 impl_FeeExact_z0 a8 b2 R) /\
 (true = false ->
 impl_FeeExact_j0 r a6 b2 R)) /\
 ((!b3) = false ->
 ∃ ba bb bc, Loads P 31 ((⟨a6, 0, none⟩ : Addr).add 1) (.slice ba bb bc) b2 /\ ((decide ((4 : Int) < ((bb : Nat) : Int))) = true ->
 impl_FeeExact_z0 a8 b2 R) /\
 ((decide ((4 : Int) < ((bb : Nat) : Int))) = false ->
 impl_FeeExact_j0 r a6 b2 R)))
theorem impl_FeeExact_ret {a : Option Addr} {a0 a1 : Nat} {a2 : Bool} {a3 : Option Addr} {a4 a5 : Nat} (h : impl_FeeExact a a0 a1 a2 a3 a4 a5 w R) : Ret P 12 [.slice a a0 a1, .agg #[.bool a2, .slice a3 a4 a5]] w R := Ret.of_fsem Tryz.func12 rfl (Eq.mp (show _ = fsem P Tryz.f12 (fun k => []) _ R w from by kernel_rfl) h)
def impl_IntOf (n : Int) (w : World) (R : Value -> World -> Prop) : Prop :=
 ∀ r wv, New w (.cells ⟨[.bool false, .slice none 0 0]⟩ 33 (0, 0)) r wv ->
 ((decide ((n : Int) < 0)) = true ->
 ∃ t6 : Int, t6 = IntKind.wrap .u64 n /\ ∃ t7 : Int, t7 = IntKind.wrap .u64 (0 - t6) /\ Calls P 51 ⟨[.int .u64 t7]⟩ wv fun e a0 =>
 ∃ a1 a2 a3, e = .returned (.slice a1 a2 a3) /\
 ∃ wv_2, Stores P 33 ⟨r, 0, none⟩ (.agg #[.bool true, .slice a1 a2 a3]) a0 wv_2 /\
 ∃ r0 a4 a5 a6, Loads P 33 ⟨r, 0, none⟩ (.agg #[.bool r0, .slice a4 a5 a6]) wv_2 /\ R (.agg #[.bool r0, .slice a4 a5 a6]) wv_2) /\
 ((decide ((n : Int) < 0)) = false ->
 ∃ a7 : Int, a7 = IntKind.wrap .u64 n /\ Calls P 51 ⟨[.int .u64 a7]⟩ wv fun a8 a9 =>
 ∃ aa ab ac, a8 = .returned (.slice aa ab ac) /\
 ∃ wv_4, Stores P 33 ⟨r, 0, none⟩ (.agg #[.bool false, .slice aa ab ac]) a9 wv_4 /\
 ∃ r0_1 ae af ag, Loads P 33 ⟨r, 0, none⟩ (.agg #[.bool r0_1, .slice ae af ag]) wv_4 /\ R (.agg #[.bool r0_1, .slice ae af ag]) wv_4)
theorem impl_IntOf_ret {n : Int} (h : impl_IntOf n w R) : Ret P 13 [.int .i64 n] w R := Ret.of_fsem Tryz.func13 rfl (Eq.mp (show _ = fsem P Tryz.f13 (fun k => []) _ R w from by kernel_rfl) h)
def laws_must (r0 : Bool) (a0 : Option Addr) (a1 a2 : Nat) (a3 : Option Addr) (a4 a5 : Nat) (ok : Bool) (w : World) (R : Value -> World -> Prop) : Prop :=
 ∀ r wv, New w (.cells ⟨[.bool r0, .slice a0 a1 a2, .slice a3 a4 a5]⟩ 35 (0, 0)) r wv ->
 ∀ a6 a7, New wv (.cells ⟨[.bool false, .slice none 0 0, .slice none 0 0]⟩ 35 (0, 0)) a6 a7 ->
 ((!ok) = true ->
 ∃ wv_2, Stores P 35 ⟨a6, 0, none⟩ (.agg #[.bool false, .slice none 0 0, .slice none 0 0]) a7 wv_2 /\
 ∃ r0_1 a8 a9 aa ab ac ae, Loads P 35 ⟨a6, 0, none⟩ (.agg #[.bool r0_1, .slice a8 a9 aa, .slice ab ac ae]) wv_2 /\ R (.agg #[.bool r0_1, .slice a8 a9 aa, .slice ab ac ae]) wv_2) /\
 ((!ok) = false ->
 ∃ af ag ah ai aj ak al, Loads P 35 ⟨r, 0, none⟩ (.agg #[.bool af, .slice ag ah ai, .slice aj ak al]) a7 /\ ∃ wv_3, Stores P 35 ⟨a6, 0, none⟩ (.agg #[.bool af, .slice ag ah ai, .slice aj ak al]) a7 wv_3 /\
 ∃ r0_2 am an ao ap aq ar, Loads P 35 ⟨a6, 0, none⟩ (.agg #[.bool r0_2, .slice am an ao, .slice ap aq ar]) wv_3 /\ R (.agg #[.bool r0_2, .slice am an ao, .slice ap aq ar]) wv_3)
theorem laws_must_ret {r0 : Bool} {a : Option Addr} {a0 a1 : Nat} {a2 : Option Addr} {a3 a4 : Nat} {ok : Bool} (h : laws_must r0 a a0 a1 a2 a3 a4 ok w R) : Ret P 15 [.agg #[.bool r0, .slice a a0 a1, .slice a2 a3 a4], .bool ok] w R := Ret.of_fsem Tryz.func15 rfl (Eq.mp (show _ = fsem P Tryz.f15 (fun k => []) _ R w from by kernel_rfl) h)
def impl_RatSub (r0 : Bool) (a0 : Option Addr) (a1 a2 : Nat) (a3 : Option Addr) (a4 a5 : Nat) (s0 : Bool) (a6 : Option Addr) (a7 a8 : Nat) (a9 : Option Addr) (aa ab : Nat) (w : World) (R : Value -> World -> Prop) : Prop :=
 ∀ r wv, New w (.cells ⟨[.bool r0, .slice a0 a1 a2, .slice a3 a4 a5]⟩ 35 (0, 0)) r wv ->
 ∀ ac ae, New wv (.cells ⟨[.bool s0, .slice a6 a7 a8, .slice a9 aa ab]⟩ 35 (0, 0)) ac ae ->
 ∀ af ag, New ae (.cells ⟨[.bool false, .slice none 0 0, .slice none 0 0]⟩ 35 (0, 0)) af ag ->
 ∃ ah ai aj ak al am an, Loads P 35 ⟨r, 0, none⟩ (.agg #[.bool ah, .slice ai aj ak, .slice al am an]) ag /\ ∃ ao ap aq ar au av aw, Loads P 35 ⟨ac, 0, none⟩ (.agg #[.bool ao, .slice ap aq ar, .slice au av aw]) ag /\ Calls P 52 ⟨[.agg #[.bool ah, .slice ai aj ak, .slice al am an], .agg #[.bool ao, .slice ap aq ar, .slice au av aw]]⟩ ag fun e ax =>
 ∃ t8, e = .returned (.bool t8) /\
 ((!t8) = true ->
 ∃ wv_4, Stores P 35 ⟨af, 0, none⟩ (.agg #[.bool false, .slice none 0 0, .slice none 0 0]) ax wv_4 /\
 ∃ r0_1 ay az b0 b1 b2 b3, Loads P 35 ⟨af, 0, none⟩ (.agg #[.bool r0_1, .slice ay az b0, .slice b1 b2 b3]) wv_4 /\ R (.tuple #[.agg #[.bool r0_1, .slice ay az b0, .slice b1 b2 b3], .bool false]) wv_4) /\
 ((!t8) = false ->
 ∃ b4 b5 b6 b7 b8 b9 ba, (∀ wv_5, Ext ax.drew wv_5 -> Loads P 35 ⟨r, 0, none⟩ (.agg #[.bool b4, .slice b5 b6 b7, .slice b8 b9 ba]) wv_5) /\ ∃ bb bc bd be bf bg bh, (∀ wv_6, Ext ax.drew wv_6 -> Loads P 35 ⟨ac, 0, none⟩ (.agg #[.bool bb, .slice bc bd be, .slice bf bg bh]) wv_6) /\ Calls P 53 ⟨[.agg #[.bool bb, .slice bc bd be, .slice bf bg bh]]⟩ ax.drew fun bi bj =>
 ∃ bk bl bm bn bo bp bq, bi = .returned (.agg #[.bool bk, .slice bl bm bn, .slice bo bp bq]) /\
 Ext ax.drew bj /\ Calls P 27 ⟨[.agg #[.bool b4, .slice b5 b6 b7, .slice b8 b9 ba], .agg #[.bool bk, .slice bl bm bn, .slice bo bp bq]]⟩ bj fun br bs =>
 ∃ bt bu bv bw bx bz c0 c1, br = .returned (.tuple #[.agg #[.bool bt, .slice bu bv bw, .slice bx bz c0], .bool c1]) /\
 ∃ wv_9, Stores P 35 ⟨af, 0, none⟩ (.agg #[.bool bt, .slice bu bv bw, .slice bx bz c0]) bs wv_9 /\
 ∃ r0_2 c2 c3 c4 c5 c6 c7, Loads P 35 ⟨af, 0, none⟩ (.agg #[.bool r0_2, .slice c2 c3 c4, .slice c5 c6 c7]) wv_9 /\ R (.tuple #[.agg #[.bool r0_2, .slice c2 c3 c4, .slice c5 c6 c7], .bool c1]) wv_9)
theorem impl_RatSub_ret {r0 : Bool} {a : Option Addr} {a0 a1 : Nat} {a2 : Option Addr} {a3 a4 : Nat} {s0 : Bool} {a5 : Option Addr} {a6 a7 : Nat} {a8 : Option Addr} {a9 b : Nat} (h : impl_RatSub r0 a a0 a1 a2 a3 a4 s0 a5 a6 a7 a8 a9 b w R) : Ret P 16 [.agg #[.bool r0, .slice a a0 a1, .slice a2 a3 a4], .agg #[.bool s0, .slice a5 a6 a7, .slice a8 a9 b]] w R := Ret.of_fsem Tryz.func16 rfl (Eq.mp (show _ = fsem P Tryz.f16 (fun k => []) _ R w from by kernel_rfl) h)
def impl_StepsText (a0 : Option Addr) (a1 a2 : Nat) (w : World) (R : Value -> World -> Prop) : Prop :=
 Calls P 37 ⟨[.slice a0 a1 a2]⟩ w fun e wv =>
 ∃ t7, e = .returned (.bool t7) /\
 ((!t7) = true ->
 R (.string (S [])) wv) /\
 ((!t7) = false ->
 ∀ r a3, New wv (.cells ⟨[]⟩ 9 (0, 0)) r a3 ->
 ∃ (a4 : Option Addr -> Nat -> Nat -> Int -> World -> Prop) (mu : Option Addr -> Nat -> Nat -> Int -> World -> Nat), a4 (some ⟨r, 0, none⟩) 0 0 0 a3 /\
 ∀ (a5 : Fr) (a6 : World) (a7 : Option Addr) (a8 a9 : Nat) (aa : Int), a4 a7 a8 a9 aa a6 ->
 ((decide ((aa : Int) < ((a1 : Nat) : Int))) = true ->
 (0 <= (aa : Int) /\ (aa : Int) < (a1 : Nat)) /\ ptrS a0 fun ad => ∃ ab ac ae af ag ah, Loads P 48 (ad.add (aa.toNat * 4)) (.agg #[.int .i64 ab, .bool ac, .slice ae af ag, .int .i64 ah]) a6 /\ ∀ ai aj, New a6 (.cells ⟨[.int .i64 0, .bool false, .slice none 0 0, .int .i64 0]⟩ 48 (0, 0)) ai aj ->
 ∃ wv_4, Stores P 48 ⟨ai, 0, none⟩ (.agg #[.int .i64 ab, .bool ac, .slice ae af ag, .int .i64 ah]) aj wv_4 /\
 ∃ ak, (∀ wv_5, Ext wv_4.drew wv_5 -> Loads P 3 ((⟨ai, 0, none⟩ : Addr).add 0) (.int .i64 ak) wv_5) /\ Calls P 54 ⟨[.int .i64 ak]⟩ wv_4.drew fun al am =>
 ∃ an, al = .returned (.string an) /\
 Ext wv_4.drew am /\ an.size + (S [58]).size <= 9223372036854775807 /\ ∃ ao : ByteArray, ao = an ++ (S [58]) /\ ∃ ap aq ar au av, (∀ wv_7, Ext wv_4.drew wv_7 -> Loads P 46 ((⟨ai, 0, none⟩ : Addr).add 1) (.agg #[.bool ap, .slice aq ar au, .int .i64 av]) wv_7) /\ Calls P 55 ⟨[.agg #[.bool ap, .slice aq ar au, .int .i64 av]]⟩ am fun aw ax =>
 ∃ ay, aw = .returned (.string ay) /\
 ao.size + ay.size <= 9223372036854775807 /\ ∃ az : ByteArray, az = ao ++ ay /\ ∀ b0 b1, New ax (.cells ⟨[.string az]⟩ 9 (0, 0)) b0 b1 ->
 ∃ b2 b3 b4 b5, Appends P [62, 62] [.slice a7 a8 a9, (.slice (some ⟨b0, 0, none⟩) 1 1)] (.slice b2 b3 b4) b1 b5 /\
 ∃ b6 : Int, b6 = IntKind.wrap .i64 (aa + 1) /\ a4 b2 b3 b4 b6 b5 /\ mu b2 b3 b4 b6 b5 < mu a7 a8 a9 aa a6) /\
 ((decide ((aa : Int) < ((a1 : Nat) : Int))) = false ->
 Calls P 56 ⟨[.slice a7 a8 a9, (.string (S [44]))]⟩ a6 fun b7 b8 =>
 ∃ b9, b7 = .returned (.string b9) /\
 R (.string b9) b8))
theorem impl_StepsText_ret {a : Option Addr} {a0 a1 : Nat} (h : impl_StepsText a a0 a1 w R) : Ret P 17 [.slice a a0 a1] w R := Ret.of_fsem Tryz.func17 rfl (Eq.mp (show _ = fsem P Tryz.f17 (fun k => cond (Nat.beq k 6) [(3, .one .slice), (12, .one (.int .i64))] ([])) _ R w from by kernel_rfl) h)
def impl_RatCmp (r0 : Bool) (a0 : Option Addr) (a1 a2 : Nat) (a3 : Option Addr) (a4 a5 : Nat) (s0 : Bool) (a6 : Option Addr) (a7 a8 : Nat) (a9 : Option Addr) (aa ab : Nat) (w : World) (R : Value -> World -> Prop) : Prop :=
 ∀ r wv, New w (.cells ⟨[.bool r0, .slice a0 a1 a2, .slice a3 a4 a5]⟩ 35 (0, 0)) r wv ->
 ∀ ac ae, New wv (.cells ⟨[.bool s0, .slice a6 a7 a8, .slice a9 aa ab]⟩ 35 (0, 0)) ac ae ->
 ∃ af ag ah ai aj ak al, Loads P 35 ⟨r, 0, none⟩ (.agg #[.bool af, .slice ag ah ai, .slice aj ak al]) ae /\ ∃ am an ao ap aq ar au, Loads P 35 ⟨ac, 0, none⟩ (.agg #[.bool am, .slice an ao ap, .slice aq ar au]) ae /\ Calls P 52 ⟨[.agg #[.bool af, .slice ag ah ai, .slice aj ak al], .agg #[.bool am, .slice an ao ap, .slice aq ar au]]⟩ ae fun e av =>
 ∃ t7, e = .returned (.bool t7) /\
 ((!t7) = true ->
 R (.int .i64 0) av) /\
 ((!t7) = false ->
 ∃ aw ax ay az b0 b1 b2, (∀ wv_3, Ext av.drew wv_3 -> Loads P 35 ⟨r, 0, none⟩ (.agg #[.bool aw, .slice ax ay az, .slice b0 b1 b2]) wv_3) /\ ∃ b3 b4 b5, (∀ wv_4, Ext av.drew wv_4 -> Loads P 31 ((⟨ac, 0, none⟩ : Addr).add 2) (.slice b3 b4 b5) wv_4) /\ Calls P 58 ⟨[.agg #[.bool aw, .slice ax ay az, .slice b0 b1 b2], .slice b3 b4 b5]⟩ av.drew fun b6 b7 =>
 ∃ b8 b9 ba bb, b6 = .returned (.agg #[.bool b8, .slice b9 ba bb]) /\
 Ext av.drew b7 /\ ∃ bc bd be bf bg bh bi, (∀ wv_6, Ext av.drew wv_6 -> Loads P 35 ⟨ac, 0, none⟩ (.agg #[.bool bc, .slice bd be bf, .slice bg bh bi]) wv_6) /\ ∃ bj bk bl, (∀ wv_7, Ext av.drew wv_7 -> Loads P 31 ((⟨r, 0, none⟩ : Addr).add 2) (.slice bj bk bl) wv_7) /\ Calls P 58 ⟨[.agg #[.bool bc, .slice bd be bf, .slice bg bh bi], .slice bj bk bl]⟩ b7 fun bm bn =>
 ∃ bo bp bq br, bm = .returned (.agg #[.bool bo, .slice bp bq br]) /\
 Calls P 57 ⟨[.agg #[.bool b8, .slice b9 ba bb], .agg #[.bool bo, .slice bp bq br]]⟩ bn fun bs bt =>
 ∃ bu, bs = .returned (.int .i64 bu) /\
 R (.int .i64 bu) bt)
theorem impl_RatCmp_ret {r0 : Bool} {a : Option Addr} {a0 a1 : Nat} {a2 : Option Addr} {a3 a4 : Nat} {s0 : Bool} {a5 : Option Addr} {a6 a7 : Nat} {a8 : Option Addr} {a9 b : Nat} (h : impl_RatCmp r0 a a0 a1 a2 a3 a4 s0 a5 a6 a7 a8 a9 b w R) : Ret P 18 [.agg #[.bool r0, .slice a a0 a1, .slice a2 a3 a4], .agg #[.bool s0, .slice a5 a6 a7, .slice a8 a9 b]] w R := Ret.of_fsem Tryz.func18 rfl (Eq.mp (show _ = fsem P Tryz.f18 (fun k => []) _ R w from by kernel_rfl) h)
def impl_DecRat (d0 : Bool) (a0 : Option Addr) (a1 a2 : Nat) (d2 : Int) (w : World) (R : Value -> World -> Prop) : Prop :=
 ∀ r wv, New w (.cells ⟨[.bool d0, .slice a0 a1 a2, .int .i64 d2]⟩ 46 (0, 0)) r wv ->
 ∀ a3 a4, New wv (.cells ⟨[.bool false, .slice none 0 0, .slice none 0 0]⟩ 35 (0, 0)) a3 a4 ->
 ∃ a5 a6 a7 a8 a9, Loads P 46 ⟨r, 0, none⟩ (.agg #[.bool a5, .slice a6 a7 a8, .int .i64 a9]) a4 /\ Calls P 59 ⟨[.agg #[.bool a5, .slice a6 a7 a8, .int .i64 a9]]⟩ a4 fun e aa =>
 ∃ t6, e = .returned (.bool t6) /\
 ((!t6) = true ->
 ∃ wv_3, Stores P 35 ⟨a3, 0, none⟩ (.agg #[.bool false, .slice none 0 0, .slice none 0 0]) aa wv_3 /\
 ∃ r0 ab ac ae af ag ah, Loads P 35 ⟨a3, 0, none⟩ (.agg #[.bool r0, .slice ab ac ae, .slice af ag ah]) wv_3 /\ R (.agg #[.bool r0, .slice ab ac ae, .slice af ag ah]) wv_3) /\
 ((!t6) = false ->
 ∃ ai aj ak al, (∀ wv_4, Ext aa.drew wv_4 -> Loads P 33 ((⟨r, 0, none⟩ : Addr).add 0) (.agg #[.bool ai, .slice aj ak al]) wv_4) /\ ∃ am, (∀ wv_5, Ext aa.drew wv_5 -> Loads P 3 ((⟨r, 0, none⟩ : Addr).add 2) (.int .i64 am) wv_5) /\ ∀ (ss : List (Option Nat)) (an : World), Fl [.cells ⟨[.bool false, .slice none 0 0, .slice none 0 0]⟩ 35 (0, 0)] [none] aa.drew ss an ->
 Calls P 61 ⟨[.int .i64 am]⟩ an fun ao ap =>
 ∃ aq ar au, ao = .returned (.slice aq ar au) /\
 Ext an ap /\ ∀ (ss_1 : List (Option Nat)) (av : World), Fl [.cells ⟨[.bool false, .slice none 0 0, .slice none 0 0]⟩ 35 (0, 0)] ss ap ss_1 av ->
 Calls P 60 ⟨[.agg #[.bool ai, .slice aj ak al], .slice aq ar au]⟩ av fun aw ax =>
 ∃ ay az b0 b1 b2 b3 b4 b5, aw = .returned (.tuple #[.agg #[.bool ay, .slice az b0 b1, .slice b2 b3 b4], .bool b5]) /\
 ∀ (ss_2 : List (Option Nat)) (b6 : World) (b7 : Nat), Fl [.cells ⟨[.bool false, .slice none 0 0, .slice none 0 0]⟩ 35 (0, 0)] ss_1 ax ss_2 b6 -> ss_2[0]? = some (some b7) ->
 ∃ wv_11, Stores P 35 ⟨b7, 0, none⟩ (.agg #[.bool ay, .slice az b0 b1, .slice b2 b3 b4]) b6 wv_11 /\
 ∃ b8 b9 ba bb bc bd be, Loads P 35 ⟨b7, 0, none⟩ (.agg #[.bool b8, .slice b9 ba bb, .slice bc bd be]) wv_11 /\ ∃ wv_12, Stores P 35 ⟨a3, 0, none⟩ (.agg #[.bool b8, .slice b9 ba bb, .slice bc bd be]) wv_11 wv_12 /\
 ∃ r0_1 bf bg bh bi bj bk, Loads P 35 ⟨a3, 0, none⟩ (.agg #[.bool r0_1, .slice bf bg bh, .slice bi bj bk]) wv_12 /\ R (.agg #[.bool r0_1, .slice bf bg bh, .slice bi bj bk]) wv_12)
theorem impl_DecRat_ret {d0 : Bool} {a : Option Addr} {a0 a1 : Nat} {d2 : Int} (h : impl_DecRat d0 a a0 a1 d2 w R) : Ret P 19 [.agg #[.bool d0, .slice a a0 a1, .int .i64 d2]] w R := Ret.of_fsem Tryz.func19 rfl (Eq.mp (show _ = fsem P Tryz.f19 (fun k => []) _ R w from by kernel_rfl) h)
def impl_RatInt (x0 : Bool) (a0 : Option Addr) (a1 a2 : Nat) (w : World) (R : Value -> World -> Prop) : Prop :=
 ∀ r wv, New w (.cells ⟨[.bool x0, .slice a0 a1 a2]⟩ 33 (0, 0)) r wv ->
 ∀ a3 a4, New wv (.cells ⟨[.bool false, .slice none 0 0, .slice none 0 0]⟩ 35 (0, 0)) a3 a4 ->
 ∃ a5 a6 a7 a8, (∀ wv_2, Ext a4.drew wv_2 -> Loads P 33 ⟨r, 0, none⟩ (.agg #[.bool a5, .slice a6 a7 a8]) wv_2) /\ Calls P 13 ⟨[.int .i64 1]⟩ a4.drew fun e a9 =>
 ∃ aa ab ac ae, e = .returned (.agg #[.bool aa, .slice ab ac ae]) /\
 Ext a4.drew a9 /\ Calls P 62 ⟨[.agg #[.bool a5, .slice a6 a7 a8], .agg #[.bool aa, .slice ab ac ae]]⟩ a9 fun af ag =>
 ∃ ah ai aj ak al am an t6, af = .returned (.tuple #[.agg #[.bool ah, .slice ai aj ak, .slice al am an], .bool t6]) /\
 ∃ wv_5, Stores P 35 ⟨a3, 0, none⟩ (.agg #[.bool ah, .slice ai aj ak, .slice al am an]) ag wv_5 /\
 ∃ r0 ao ap aq ar au av, Loads P 35 ⟨a3, 0, none⟩ (.agg #[.bool r0, .slice ao ap aq, .slice ar au av]) wv_5 /\ R (.tuple #[.agg #[.bool r0, .slice ao ap aq, .slice ar au av], .bool t6]) wv_5
theorem impl_RatInt_ret {x0 : Bool} {a : Option Addr} {a0 a1 : Nat} (h : impl_RatInt x0 a a0 a1 w R) : Ret P 20 [.agg #[.bool x0, .slice a a0 a1]] w R := Ret.of_fsem Tryz.func20 rfl (Eq.mp (show _ = fsem P Tryz.f20 (fun k => []) _ R w from by kernel_rfl) h)
def impl_RatSign (r0 : Bool) (a0 : Option Addr) (a1 a2 : Nat) (a3 : Option Addr) (a4 a5 : Nat) (w : World) (R : Value -> World -> Prop) : Prop :=
 ∀ r wv, New w (.cells ⟨[.bool r0, .slice a0 a1 a2, .slice a3 a4 a5]⟩ 35 (0, 0)) r wv ->
 ∃ a6 a7 a8 a9 aa ab ac, Loads P 35 ⟨r, 0, none⟩ (.agg #[.bool a6, .slice a7 a8 a9, .slice aa ab ac]) wv /\ Calls P 63 ⟨[.agg #[.bool a6, .slice a7 a8 a9, .slice aa ab ac]]⟩ wv fun e ae =>
 ∃ t4, e = .returned (.bool t4) /\
 ((!t4) = true ->
 R (.int .i64 0) ae) /\
 ((!t4) = false ->
 ∃ af ag ah ai, Loads P 33 ((⟨r, 0, none⟩ : Addr).add 0) (.agg #[.bool af, .slice ag ah ai]) ae /\ Calls P 64 ⟨[.agg #[.bool af, .slice ag ah ai]]⟩ ae fun aj ak =>
 ∃ t8, aj = .returned (.int .i64 t8) /\
 R (.int .i64 t8) ak)
theorem impl_RatSign_ret {r0 : Bool} {a : Option Addr} {a0 a1 : Nat} {a2 : Option Addr} {a3 a4 : Nat} (h : impl_RatSign r0 a a0 a1 a2 a3 a4 w R) : Ret P 21 [.agg #[.bool r0, .slice a a0 a1, .slice a2 a3 a4]] w R := Ret.of_fsem Tryz.func21 rfl (Eq.mp (show _ = fsem P Tryz.f21 (fun k => []) _ R w from by kernel_rfl) h)
def impl_MoneyOf (cur : ByteArray) (n : Int) (w : World) (R : Value -> World -> Prop) : Prop :=
 ∀ r wv, New w (.cells ⟨[.string ByteArray.empty, .bool false, .slice none 0 0]⟩ 52 (0, 0)) r wv ->
 Calls P 13 ⟨[.int .i64 n]⟩ wv fun e a0 =>
 ∃ a1 a2 a3 a4, e = .returned (.agg #[.bool a1, .slice a2 a3 a4]) /\
 Calls P 65 ⟨[.string cur, .agg #[.bool a1, .slice a2 a3 a4]]⟩ a0 fun a5 a6 =>
 ∃ a7 a8 a9 aa ab t9, a5 = .returned (.tuple #[.agg #[.string a7, .bool a8, .slice a9 aa ab], .bool t9]) /\
 ∃ wv_3, Stores P 52 ⟨r, 0, none⟩ (.agg #[.string a7, .bool a8, .slice a9 aa ab]) a6 wv_3 /\
 ∃ r0 r1 ac ae af, Loads P 52 ⟨r, 0, none⟩ (.agg #[.string r0, .bool r1, .slice ac ae af]) wv_3 /\ R (.tuple #[.agg #[.string r0, .bool r1, .slice ac ae af], .bool t9]) wv_3
theorem impl_MoneyOf_ret {a : ByteArray} {n : Int} (h : impl_MoneyOf a n w R) : Ret P 22 [.string a, .int .i64 n] w R := Ret.of_fsem Tryz.func22 rfl (Eq.mp (show _ = fsem P Tryz.f22 (fun k => []) _ R w from by kernel_rfl) h)
def impl_Fee (a0 : Option Addr) (a1 a2 : Nat) (m0 : ByteArray) (m1 : Bool) (a3 : Option Addr) (a4 a5 : Nat) (mode : Int) (w : World) (R : Value -> World -> Prop) : Prop :=
 ∀ r wv, New w (.cells ⟨[.string m0, .bool m1, .slice a3 a4 a5]⟩ 52 (0, 0)) r wv ->
 ∀ a6 a7, New wv (.cells ⟨[.string ByteArray.empty, .bool false, .slice none 0 0]⟩ 52 (0, 0)) a6 a7 ->
 ∀ a8 a9, New a7 (.cells ⟨[.bool false, .slice none 0 0, .slice none 0 0]⟩ 35 (0, 0)) a8 a9 ->
 ∃ aa ab ac ae af, Loads P 52 ⟨r, 0, none⟩ (.agg #[.string aa, .bool ab, .slice ac ae af]) a9 /\ Calls P 66 ⟨[.agg #[.string aa, .bool ab, .slice ac ae af]]⟩ a9 fun e ag =>
 ∃ ah, e = .returned (.bool ah) /\
 ((!ah) = true ->
 ∃ wv_4, Stores P 52 ⟨a6, 0, none⟩ (.agg #[.string ByteArray.empty, .bool false, .slice none 0 0]) ag wv_4 /\
 ∃ wv_5, Stores P 35 ⟨a8, 0, none⟩ (.agg #[.bool false, .slice none 0 0, .slice none 0 0]) wv_4 wv_5 /\
 ∃ r0 r1 ai aj ak, Loads P 52 ⟨a6, 0, none⟩ (.agg #[.string r0, .bool r1, .slice ai aj ak]) wv_5 /\ ∃ r0_1 al am an ao ap aq, Loads P 35 ⟨a8, 0, none⟩ (.agg #[.bool r0_1, .slice al am an, .slice ao ap aq]) wv_5 /\ R (.tuple #[.agg #[.string r0, .bool r1, .slice ai aj ak], .agg #[.bool r0_1, .slice al am an, .slice ao ap aq], .bool false]) wv_5) /\
 ((!ah) = false ->
 ∃ ar au av aw, Loads P 33 ((⟨r, 0, none⟩ : Addr).add 1) (.agg #[.bool ar, .slice au av aw]) ag /\ Calls P 12 ⟨[.slice a0 a1 a2, .agg #[.bool ar, .slice au av aw]]⟩ ag fun ax ay =>
 ∃ az b0 b1 b2 b3 b4 b5 b6, ax = .returned (.tuple #[.agg #[.bool az, .slice b0 b1 b2, .slice b3 b4 b5], .bool b6]) /\
 ∀ b7 b8, New ay (.cells ⟨[.bool false, .slice none 0 0, .slice none 0 0]⟩ 35 (0, 0)) b7 b8 ->
 ∃ wv_8, Stores P 35 ⟨b7, 0, none⟩ (.agg #[.bool az, .slice b0 b1 b2, .slice b3 b4 b5]) b8 wv_8 /\
 ((!b6) = true ->
 ∃ wv_9, Stores P 52 ⟨a6, 0, none⟩ (.agg #[.string ByteArray.empty, .bool false, .slice none 0 0]) wv_8 wv_9 /\
 ∃ wv_10, Stores P 35 ⟨a8, 0, none⟩ (.agg #[.bool false, .slice none 0 0, .slice none 0 0]) wv_9 wv_10 /\
 ∃ r0_2 r1_1 b9 ba bb, Loads P 52 ⟨a6, 0, none⟩ (.agg #[.string r0_2, .bool r1_1, .slice b9 ba bb]) wv_10 /\ ∃ r0_3 bc bd be bf bg bh, Loads P 35 ⟨a8, 0, none⟩ (.agg #[.bool r0_3, .slice bc bd be, .slice bf bg bh]) wv_10 /\ R (.tuple #[.agg #[.string r0_2, .bool r1_1, .slice b9 ba bb], .agg #[.bool r0_3, .slice bc bd be, .slice bf bg bh], .bool false]) wv_10) /\
 ((!b6) = false ->
 ∃ bi, Loads P 9 ((⟨r, 0, none⟩ : Addr).add 0) (.string bi) wv_8 /\ ∃ bj bk bl bm bn bo bp, Loads P 35 ⟨b7, 0, none⟩ (.agg #[.bool bj, .slice bk bl bm, .slice bn bo bp]) wv_8 /\ Calls P 67 ⟨[.string bi, .agg #[.bool bj, .slice bk bl bm, .slice bn bo bp], .int .i64 mode]⟩ wv_8 fun bq br =>
 ∃ bs bt bu bv bw bx bz c0 c1 c2 c3 c4 c5, bq = .returned (.tuple #[.agg #[.string bs, .bool bt, .slice bu bv bw], .agg #[.bool bx, .slice bz c0 c1, .slice c2 c3 c4], .bool c5]) /\
 ∃ wv_12, Stores P 52 ⟨a6, 0, none⟩ (.agg #[.string bs, .bool bt, .slice bu bv bw]) br wv_12 /\
 ∃ wv_13, Stores P 35 ⟨a8, 0, none⟩ (.agg #[.bool bx, .slice bz c0 c1, .slice c2 c3 c4]) wv_12 wv_13 /\
 ∃ r0_4 r1_2 c6 c7 c8, Loads P 52 ⟨a6, 0, none⟩ (.agg #[.string r0_4, .bool r1_2, .slice c6 c7 c8]) wv_13 /\ ∃ r0_5 c9 ca cb cc cd ce, Loads P 35 ⟨a8, 0, none⟩ (.agg #[.bool r0_5, .slice c9 ca cb, .slice cc cd ce]) wv_13 /\ R (.tuple #[.agg #[.string r0_4, .bool r1_2, .slice c6 c7 c8], .agg #[.bool r0_5, .slice c9 ca cb, .slice cc cd ce], .bool c5]) wv_13))
theorem impl_Fee_ret {a : Option Addr} {a0 a1 : Nat} {m0 : ByteArray} {m1 : Bool} {a2 : Option Addr} {a3 a4 : Nat} {a5 : Int} (h : impl_Fee a a0 a1 m0 m1 a2 a3 a4 a5 w R) : Ret P 23 [.slice a a0 a1, .agg #[.string m0, .bool m1, .slice a2 a3 a4], .int .i64 a5] w R := Ret.of_fsem Tryz.func23 rfl (Eq.mp (show _ = fsem P Tryz.f23 (fun k => []) _ R w from by kernel_rfl) h)
def impl_AfterFee (a0 : Option Addr) (a1 a2 : Nat) (m0 : ByteArray) (m1 : Bool) (a3 : Option Addr) (a4 a5 : Nat) (mode : Int) (w : World) (R : Value -> World -> Prop) : Prop :=
 ∀ r wv, New w (.cells ⟨[.string m0, .bool m1, .slice a3 a4 a5]⟩ 52 (0, 0)) r wv ->
 ∀ a6 a7, New wv (.cells ⟨[.string ByteArray.empty, .bool false, .slice none 0 0]⟩ 52 (0, 0)) a6 a7 ->
 ∃ a8 a9 aa ab ac, Loads P 52 ⟨r, 0, none⟩ (.agg #[.string a8, .bool a9, .slice aa ab ac]) a7 /\ Calls P 23 ⟨[.slice a0 a1 a2, .agg #[.string a8, .bool a9, .slice aa ab ac], .int .i64 mode]⟩ a7 fun e ae =>
 ∃ af ag ah ai aj ak al am an ao ap aq ar, e = .returned (.tuple #[.agg #[.string af, .bool ag, .slice ah ai aj], .agg #[.bool ak, .slice al am an, .slice ao ap aq], .bool ar]) /\
 ∀ au av, New ae (.cells ⟨[.string ByteArray.empty, .bool false, .slice none 0 0]⟩ 52 (0, 0)) au av ->
 ∀ aw ax, New av (.cells ⟨[.bool false, .slice none 0 0, .slice none 0 0]⟩ 35 (0, 0)) aw ax ->
 ∃ wv_5, Stores P 52 ⟨au, 0, none⟩ (.agg #[.string af, .bool ag, .slice ah ai aj]) ax wv_5 /\
 ∃ wv_6, Stores P 35 ⟨aw, 0, none⟩ (.agg #[.bool ak, .slice al am an, .slice ao ap aq]) wv_5 wv_6 /\
 ((!ar) = true ->
 (true = true ->
 ∃ wv_7, Stores P 52 ⟨a6, 0, none⟩ (.agg #[.string ByteArray.empty, .bool false, .slice none 0 0]) wv_6 wv_7 /\
 ∃ r0 r1 ay az b0, Loads P 52 ⟨a6, 0, none⟩ (.agg #[.string r0, .bool r1, .slice ay az b0]) wv_7 /\ R (.tuple #[.agg #[.string r0, .bool r1, .slice ay az b0], .bool false]) wv_7) /\
 (true = false ->
 ∃ b1 b2 b3 b4 b5, Loads P 52 ⟨r, 0, none⟩ (.agg #[.string b1, .bool b2, .slice b3 b4 b5]) wv_6 /\ ∃ b6 b7 b8 b9 ba, Loads P 52 ⟨au, 0, none⟩ (.agg #[.string b6, .bool b7, .slice b8 b9 ba]) wv_6 /\ Calls P 68 ⟨[.agg #[.string b1, .bool b2, .slice b3 b4 b5], .agg #[.string b6, .bool b7, .slice b8 b9 ba]]⟩ wv_6 fun bb bc =>
 ∃ bd be bf bg bh bi, bb = .returned (.tuple #[.agg #[.string bd, .bool be, .slice bf bg bh], .bool bi]) /\
 ∃ wv_9, Stores P 52 ⟨a6, 0, none⟩ (.agg #[.string bd, .bool be, .slice bf bg bh]) bc wv_9 /\
 ∃ r0_1 r1_1 bj bk bl, Loads P 52 ⟨a6, 0, none⟩ (.agg #[.string r0_1, .bool r1_1, .slice bj bk bl]) wv_9 /\ R (.tuple #[.agg #[.string r0_1, .bool r1_1, .slice bj bk bl], .bool bi]) wv_9)) /\
 ((!ar) = false ->
 ∃ bm, Loads P 4 (((⟨r, 0, none⟩ : Addr).add 1).add 0) (.bool bm) wv_6 /\ (bm = true ->
 ∃ wv_10, Stores P 52 ⟨a6, 0, none⟩ (.agg #[.string ByteArray.empty, .bool false, .slice none 0 0]) wv_6 wv_10 /\
 ∃ r0_2 r1_2 bn bo bp, Loads P 52 ⟨a6, 0, none⟩ (.agg #[.string r0_2, .bool r1_2, .slice bn bo bp]) wv_10 /\ R (.tuple #[.agg #[.string r0_2, .bool r1_2, .slice bn bo bp], .bool false]) wv_10) /\
 (bm = false ->
 ∃ bq br bs bt bu, Loads P 52 ⟨r, 0, none⟩ (.agg #[.string bq, .bool br, .slice bs bt bu]) wv_6 /\ ∃ bv bw bx bz c0, Loads P 52 ⟨au, 0, none⟩ (.agg #[.string bv, .bool bw, .slice bx bz c0]) wv_6 /\ Calls P 68 ⟨[.agg #[.string bq, .bool br, .slice bs bt bu], .agg #[.string bv, .bool bw, .slice bx bz c0]]⟩ wv_6 fun c1 c2 =>
 ∃ c3 c4 c5 c6 c7 c8, c1 = .returned (.tuple #[.agg #[.string c3, .bool c4, .slice c5 c6 c7], .bool c8]) /\
 ∃ wv_12, Stores P 52 ⟨a6, 0, none⟩ (.agg #[.string c3, .bool c4, .slice c5 c6 c7]) c2 wv_12 /\
 ∃ r0_3 r1_3 c9 ca cb, Loads P 52 ⟨a6, 0, none⟩ (.agg #[.string r0_3, .bool r1_3, .slice c9 ca cb]) wv_12 /\ R (.tuple #[.agg #[.string r0_3, .bool r1_3, .slice c9 ca cb], .bool c8]) wv_12))
theorem impl_AfterFee_ret {a : Option Addr} {a0 a1 : Nat} {m0 : ByteArray} {m1 : Bool} {a2 : Option Addr} {a3 a4 : Nat} {a5 : Int} (h : impl_AfterFee a a0 a1 m0 m1 a2 a3 a4 a5 w R) : Ret P 24 [.slice a a0 a1, .agg #[.string m0, .bool m1, .slice a2 a3 a4], .int .i64 a5] w R := Ret.of_fsem Tryz.func24 rfl (Eq.mp (show _ = fsem P Tryz.f24 (fun k => []) _ R w from by kernel_rfl) h)
def impl_MoneyAdd (m0 : ByteArray) (m1 : Bool) (a0 : Option Addr) (a1 a2 : Nat) (n0 : ByteArray) (n1 : Bool) (a3 : Option Addr) (a4 a5 : Nat) (w : World) (R : Value -> World -> Prop) : Prop :=
 ∀ r wv, New w (.cells ⟨[.string m0, .bool m1, .slice a0 a1 a2]⟩ 52 (0, 0)) r wv ->
 ∀ a6 a7, New wv (.cells ⟨[.string n0, .bool n1, .slice a3 a4 a5]⟩ 52 (0, 0)) a6 a7 ->
 ∀ a8 a9, New a7 (.cells ⟨[.string ByteArray.empty, .bool false, .slice none 0 0]⟩ 52 (0, 0)) a8 a9 ->
 ∃ aa ab ac ae af, Loads P 52 ⟨r, 0, none⟩ (.agg #[.string aa, .bool ab, .slice ac ae af]) a9 /\ ∃ ag ah ai aj ak, Loads P 52 ⟨a6, 0, none⟩ (.agg #[.string ag, .bool ah, .slice ai aj ak]) a9 /\ Calls P 69 ⟨[.agg #[.string aa, .bool ab, .slice ac ae af], .agg #[.string ag, .bool ah, .slice ai aj ak]]⟩ a9 fun e al =>
 ∃ t8, e = .returned (.bool t8) /\
 ((!t8) = true ->
 ∃ wv_4, Stores P 52 ⟨a8, 0, none⟩ (.agg #[.string ByteArray.empty, .bool false, .slice none 0 0]) al wv_4 /\
 ∃ r0 r1 am an ao, Loads P 52 ⟨a8, 0, none⟩ (.agg #[.string r0, .bool r1, .slice am an ao]) wv_4 /\ R (.tuple #[.agg #[.string r0, .bool r1, .slice am an ao], .bool false]) wv_4) /\
 ((!t8) = false ->
 ∃ ap, (∀ wv_5, Ext al.drew wv_5 -> Loads P 9 ((⟨r, 0, none⟩ : Addr).add 0) (.string ap) wv_5) /\ ∃ aq ar au av, (∀ wv_6, Ext al.drew wv_6 -> Loads P 33 ((⟨r, 0, none⟩ : Addr).add 1) (.agg #[.bool aq, .slice ar au av]) wv_6) /\ ∃ aw ax ay az, (∀ wv_7, Ext al.drew wv_7 -> Loads P 33 ((⟨a6, 0, none⟩ : Addr).add 1) (.agg #[.bool aw, .slice ax ay az]) wv_7) /\ Calls P 70 ⟨[.agg #[.bool aq, .slice ar au av], .agg #[.bool aw, .slice ax ay az]]⟩ al.drew fun b0 b1 =>
 ∃ b2 b3 b4 b5, b0 = .returned (.agg #[.bool b2, .slice b3 b4 b5]) /\
 Ext al.drew b1 /\ Calls P 65 ⟨[.string ap, .agg #[.bool b2, .slice b3 b4 b5]]⟩ b1 fun b6 b7 =>
 ∃ b8 b9 ba bb bc bd, b6 = .returned (.tuple #[.agg #[.string b8, .bool b9, .slice ba bb bc], .bool bd]) /\
 ∃ wv_10, Stores P 52 ⟨a8, 0, none⟩ (.agg #[.string b8, .bool b9, .slice ba bb bc]) b7 wv_10 /\
 ∃ r0_1 r1_1 be bf bg, Loads P 52 ⟨a8, 0, none⟩ (.agg #[.string r0_1, .bool r1_1, .slice be bf bg]) wv_10 /\ R (.tuple #[.agg #[.string r0_1, .bool r1_1, .slice be bf bg], .bool bd]) wv_10)
theorem impl_MoneyAdd_ret {m0 : ByteArray} {m1 : Bool} {a : Option Addr} {a0 a1 : Nat} {n0 : ByteArray} {n1 : Bool} {a2 : Option Addr} {a3 a4 : Nat} (h : impl_MoneyAdd m0 m1 a a0 a1 n0 n1 a2 a3 a4 w R) : Ret P 25 [.agg #[.string m0, .bool m1, .slice a a0 a1], .agg #[.string n0, .bool n1, .slice a2 a3 a4]] w R := Ret.of_fsem Tryz.func25 rfl (Eq.mp (show _ = fsem P Tryz.f25 (fun k => []) _ R w from by kernel_rfl) h)
def impl_MoneySame (m0 : ByteArray) (m1 : Bool) (a0 : Option Addr) (a1 a2 : Nat) (n0 : ByteArray) (n1 : Bool) (a3 : Option Addr) (a4 a5 : Nat) (w : World) (R : Value -> World -> Prop) : Prop :=
 ∀ r wv, New w (.cells ⟨[.string m0, .bool m1, .slice a0 a1 a2]⟩ 52 (0, 0)) r wv ->
 ∀ a6 a7, New wv (.cells ⟨[.string n0, .bool n1, .slice a3 a4 a5]⟩ 52 (0, 0)) a6 a7 ->
 ∃ t6, Loads P 9 ((⟨r, 0, none⟩ : Addr).add 0) (.string t6) a7 /\ ∃ t8, Loads P 9 ((⟨a6, 0, none⟩ : Addr).add 0) (.string t8) a7 /\ ((decide (t6 = t8)) = true ->
 ∃ a8 a9 aa ab, Loads P 33 ((⟨r, 0, none⟩ : Addr).add 1) (.agg #[.bool a8, .slice a9 aa ab]) a7 /\ ∃ ac ae af ag, Loads P 33 ((⟨a6, 0, none⟩ : Addr).add 1) (.agg #[.bool ac, .slice ae af ag]) a7 /\ Calls P 71 ⟨[.agg #[.bool a8, .slice a9 aa ab], .agg #[.bool ac, .slice ae af ag]]⟩ a7 fun e ah =>
 ∃ ai, e = .returned (.bool ai) /\
 R (.bool ai) ah) /\
 ((decide (t6 = t8)) = false ->
 R (.bool false) a7)
theorem impl_MoneySame_ret {m0 : ByteArray} {m1 : Bool} {a : Option Addr} {a0 a1 : Nat} {n0 : ByteArray} {n1 : Bool} {a2 : Option Addr} {a3 a4 : Nat} (h : impl_MoneySame m0 m1 a a0 a1 n0 n1 a2 a3 a4 w R) : Ret P 26 [.agg #[.string m0, .bool m1, .slice a a0 a1], .agg #[.string n0, .bool n1, .slice a2 a3 a4]] w R := Ret.of_fsem Tryz.func26 rfl (Eq.mp (show _ = fsem P Tryz.f26 (fun k => []) _ R w from by kernel_rfl) h)
def impl_RatAdd (r0 : Bool) (a0 : Option Addr) (a1 a2 : Nat) (a3 : Option Addr) (a4 a5 : Nat) (s0 : Bool) (a6 : Option Addr) (a7 a8 : Nat) (a9 : Option Addr) (aa ab : Nat) (w : World) (R : Value -> World -> Prop) : Prop :=
 ∀ r wv, New w (.cells ⟨[.bool r0, .slice a0 a1 a2, .slice a3 a4 a5]⟩ 35 (0, 0)) r wv ->
 ∀ ac ae, New wv (.cells ⟨[.bool s0, .slice a6 a7 a8, .slice a9 aa ab]⟩ 35 (0, 0)) ac ae ->
 ∀ af ag, New ae (.cells ⟨[.bool false, .slice none 0 0, .slice none 0 0]⟩ 35 (0, 0)) af ag ->
 ∃ ah ai aj ak al am an, Loads P 35 ⟨r, 0, none⟩ (.agg #[.bool ah, .slice ai aj ak, .slice al am an]) ag /\ ∃ ao ap aq ar au av aw, Loads P 35 ⟨ac, 0, none⟩ (.agg #[.bool ao, .slice ap aq ar, .slice au av aw]) ag /\ Calls P 52 ⟨[.agg #[.bool ah, .slice ai aj ak, .slice al am an], .agg #[.bool ao, .slice ap aq ar, .slice au av aw]]⟩ ag fun e ax =>
 ∃ ay, e = .returned (.bool ay) /\
 ((!ay) = true ->
 ∃ wv_4, Stores P 35 ⟨af, 0, none⟩ (.agg #[.bool false, .slice none 0 0, .slice none 0 0]) ax wv_4 /\
 ∃ r0_1 az b0 b1 b2 b3 b4, Loads P 35 ⟨af, 0, none⟩ (.agg #[.bool r0_1, .slice az b0 b1, .slice b2 b3 b4]) wv_4 /\ R (.tuple #[.agg #[.bool r0_1, .slice az b0 b1, .slice b2 b3 b4], .bool false]) wv_4) /\
 ((!ay) = false ->
 ∃ b5 b6 b7 b8 b9 ba bb, (∀ wv_5, Ext ax.drew wv_5 -> Loads P 35 ⟨r, 0, none⟩ (.agg #[.bool b5, .slice b6 b7 b8, .slice b9 ba bb]) wv_5) /\ ∃ bc bd be bf bg bh bi, (∀ wv_6, Ext ax.drew wv_6 -> Loads P 35 ⟨ac, 0, none⟩ (.agg #[.bool bc, .slice bd be bf, .slice bg bh bi]) wv_6) /\ ∃ bj bk bl, (∀ wv_7, Ext ax.drew.drew wv_7 -> Loads P 31 ((⟨ac, 0, none⟩ : Addr).add 2) (.slice bj bk bl) wv_7) /\ CallW P (.func (.func 58) #[.agg #[.bool b5, .slice b6 b7 b8, .slice b9 ba bb]] #[]) [.slice bj bk bl] ax.drew.drew fun bm bn =>
 ∃ bo bp bq br, bm = .returned (.agg #[.bool bo, .slice bp bq br]) /\
 Ext ax.drew.drew bn /\ ∃ bs bt bu, (∀ wv_9, Ext ax.drew.drew wv_9 -> Loads P 31 ((⟨r, 0, none⟩ : Addr).add 2) (.slice bs bt bu) wv_9) /\ CallW P (.func (.func 58) #[.agg #[.bool bc, .slice bd be bf, .slice bg bh bi]] #[]) [.slice bs bt bu] bn fun bv bw =>
 ∃ bx bz c0 c1, bv = .returned (.agg #[.bool bx, .slice bz c0 c1]) /\
 Ext bn bw /\ Calls P 70 ⟨[.agg #[.bool bo, .slice bp bq br], .agg #[.bool bx, .slice bz c0 c1]]⟩ bw fun c2 c3 =>
 ∃ c4 c5 c6 c7, c2 = .returned (.agg #[.bool c4, .slice c5 c6 c7]) /\
 Ext bw c3 /\ ∃ c8 c9 ca, (∀ wv_12, Ext ax.drew.drew wv_12 -> Loads P 31 ((⟨r, 0, none⟩ : Addr).add 2) (.slice c8 c9 ca) wv_12) /\ ∃ cb cc cd, (∀ wv_13, Ext ax.drew.drew wv_13 -> Loads P 31 ((⟨ac, 0, none⟩ : Addr).add 2) (.slice cb cc cd) wv_13) /\ Calls P 72 ⟨[.slice c8 c9 ca, .slice cb cc cd]⟩ c3 fun ce cf =>
 ∃ cg ch ci, ce = .returned (.slice cg ch ci) /\
 Calls P 60 ⟨[.agg #[.bool c4, .slice c5 c6 c7], .slice cg ch ci]⟩ cf fun cj ck =>
 ∃ cl cm cn co cp cq cr cs, cj = .returned (.tuple #[.agg #[.bool cl, .slice cm cn co, .slice cp cq cr], .bool cs]) /\
 ∃ wv_16, Stores P 35 ⟨af, 0, none⟩ (.agg #[.bool cl, .slice cm cn co, .slice cp cq cr]) ck wv_16 /\
 ∃ r0_2 ct cu cv cw cx cy, Loads P 35 ⟨af, 0, none⟩ (.agg #[.bool r0_2, .slice ct cu cv, .slice cw cx cy]) wv_16 /\ R (.tuple #[.agg #[.bool r0_2, .slice ct cu cv, .slice cw cx cy], .bool cs]) wv_16)
theorem impl_RatAdd_ret {r0 : Bool} {a : Option Addr} {a0 a1 : Nat} {a2 : Option Addr} {a3 a4 : Nat} {s0 : Bool} {a5 : Option Addr} {a6 a7 : Nat} {a8 : Option Addr} {a9 b : Nat} (h : impl_RatAdd r0 a a0 a1 a2 a3 a4 s0 a5 a6 a7 a8 a9 b w R) : Ret P 27 [.agg #[.bool r0, .slice a a0 a1, .slice a2 a3 a4], .agg #[.bool s0, .slice a5 a6 a7, .slice a8 a9 b]] w R := Ret.of_fsem Tryz.func27 rfl (Eq.mp (show _ = fsem P Tryz.f27 (fun k => []) _ R w from by kernel_rfl) h)
def impl_MoneyRat (m0 : ByteArray) (m1 : Bool) (a0 : Option Addr) (a1 a2 : Nat) (w : World) (R : Value -> World -> Prop) : Prop :=
 ∀ r wv, New w (.cells ⟨[.string m0, .bool m1, .slice a0 a1 a2]⟩ 52 (0, 0)) r wv ->
 ∀ a3 a4, New wv (.cells ⟨[.bool false, .slice none 0 0, .slice none 0 0]⟩ 35 (0, 0)) a3 a4 ->
 ∃ a5 a6 a7 a8 a9, Loads P 52 ⟨r, 0, none⟩ (.agg #[.string a5, .bool a6, .slice a7 a8 a9]) a4 /\ Calls P 66 ⟨[.agg #[.string a5, .bool a6, .slice a7 a8 a9]]⟩ a4 fun e aa =>
 ∃ t4, e = .returned (.bool t4) /\
 ((!t4) = true ->
 ∃ wv_3, Stores P 35 ⟨a3, 0, none⟩ (.agg #[.bool false, .slice none 0 0, .slice none 0 0]) aa wv_3 /\
 ∃ r0 ab ac ae af ag ah, Loads P 35 ⟨a3, 0, none⟩ (.agg #[.bool r0, .slice ab ac ae, .slice af ag ah]) wv_3 /\ R (.agg #[.bool r0, .slice ab ac ae, .slice af ag ah]) wv_3) /\
 ((!t4) = false ->
 ∃ ai aj ak al, Loads P 33 ((⟨r, 0, none⟩ : Addr).add 1) (.agg #[.bool ai, .slice aj ak al]) aa /\ Calls P 73 ⟨[.agg #[.bool ai, .slice aj ak al]]⟩ aa fun am an =>
 ∃ ao ap aq ar, am = .returned (.agg #[.bool ao, .slice ap aq ar]) /\
 ∀ au av, New an (.cells ⟨[.int .i64 1]⟩ 3 (0, 0)) au av ->
 ∃ wv_6, Stores P 35 ⟨a3, 0, none⟩ (.agg #[.bool ao, .slice ap aq ar, (.slice (some ⟨au, 0, none⟩) 1 1)]) av wv_6 /\
 ∃ r0_1 aw ax ay az b0 b1, Loads P 35 ⟨a3, 0, none⟩ (.agg #[.bool r0_1, .slice aw ax ay, .slice az b0 b1]) wv_6 /\ R (.agg #[.bool r0_1, .slice aw ax ay, .slice az b0 b1]) wv_6)
theorem impl_MoneyRat_ret {m0 : ByteArray} {m1 : Bool} {a : Option Addr} {a0 a1 : Nat} (h : impl_MoneyRat m0 m1 a a0 a1 w R) : Ret P 28 [.agg #[.string m0, .bool m1, .slice a a0 a1]] w R := Ret.of_fsem Tryz.func28 rfl (Eq.mp (show _ = fsem P Tryz.f28 (fun k => []) _ R w from by kernel_rfl) h)
def impl_CutAt_j0 (a0 : World) (a1 : Option Addr -> Nat -> Nat -> Int -> Int -> World -> Prop) (mu : Option Addr -> Nat -> Nat -> Int -> Int -> World -> Nat) (a2 : Option Addr) (a3 a4 : Nat) (fromv i : Int) (a5 : Option Addr) (a6 a7 : Nat) (fromv_1 : Int) (W : World) (R : Value -> World -> Prop) : Prop :=
 ∃ a8 : Int, a8 = IntKind.wrap .i64 (i + 1) /\ a1 a5 a6 a7 fromv_1 a8 W /\ mu a5 a6 a7 fromv_1 a8 W < mu a2 a3 a4 fromv i a0
def impl_CutAt (s byv : ByteArray) (w : World) (R : Value -> World -> Prop) : Prop :=
 ∀ r wv, New w (.cells ⟨[]⟩ 9 (0, 0)) r wv ->
 ∃ (a0 : Option Addr -> Nat -> Nat -> Int -> Int -> World -> Prop) (mu : Option Addr -> Nat -> Nat -> Int -> Int -> World -> Nat), a0 (some ⟨r, 0, none⟩) 0 0 0 0 wv /\
 ∀ (a1 : Fr) (a2 : World) (a3 : Option Addr) (a4 a5 : Nat) (fromv i : Int), a0 a3 a4 a5 fromv i a2 ->
 ((decide ((i : Int) < ((s.size : Nat) : Int))) = true ->
 0 <= (i : Int) /\ ∃ b : UInt8, s[i.toNat]? = some b /\ Calls P 82 ⟨[.string byv, (.int .u8 ((b.toNat : Nat) : Int))]⟩ a2 fun e a6 =>
 ∃ a7, e = .returned (.int .i64 a7) /\
 ((decide ((0 : Int) <= a7)) = true ->
 (0 <= (i : Int) /\ (i : Int) <= (s.size : Nat)) /\ (0 <= (fromv : Int) /\ (fromv : Int) <= (i.toNat : Nat)) /\ ∀ a8 a9, New a6 (.cells ⟨[(.string (s.extract fromv.toNat i.toNat))]⟩ 9 (0, 0)) a8 a9 ->
 ∃ aa ab ac ae, Appends P [62, 62] [.slice a3 a4 a5, (.slice (some ⟨a8, 0, none⟩) 1 1)] (.slice aa ab ac) a9 ae /\
 ∃ af : Int, af = IntKind.wrap .i64 (i + 1) /\ impl_CutAt_j0 a2 a0 mu a3 a4 a5 fromv i aa ab ac af ae R) /\
 ((decide ((0 : Int) <= a7)) = false ->
 impl_CutAt_j0 a2 a0 mu a3 a4 a5 fromv i a3 a4 a5 fromv a6 R)) /\
 ((decide ((i : Int) < ((s.size : Nat) : Int))) = false ->
 (0 <= (fromv : Int) /\ (fromv : Int) <= (s.size : Nat)) /\ ∀ ag ah, New a2 (.cells ⟨[(.string (s.extract fromv.toNat s.size))]⟩ 9 (0, 0)) ag ah ->
 ∃ ai aj ak al, Appends P [62, 62] [.slice a3 a4 a5, (.slice (some ⟨ag, 0, none⟩) 1 1)] (.slice ai aj ak) ah al /\
 R (.slice ai aj ak) al)
theorem impl_CutAt_ret {s a : ByteArray} (h : impl_CutAt s a w R) : Ret P 34 [.string s, .string a] w R := Ret.of_fsem Tryz.func34 rfl (Eq.mp (show _ = fsem P Tryz.f34 (fun k => cond (Nat.beq k 5) [(5, .one .slice), (6, .one (.int .i64)), (7, .one (.int .i64))] ([])) _ R w from by kernel_rfl) h)
def impl_TextInt (s : ByteArray) (w : World) (R : Value -> World -> Prop) : Prop :=
 Calls P 83 ⟨[.string s]⟩ w fun e wv =>
 ∃ (t8 : Int) (a0 : Value), e = .returned (.tuple #[.int .i64 t8, a0]) /\
 isIf a0 /\ ((!(ifNil a0)) = true ->
 (true = true ->
 R (.tuple #[.int .i64 0, .bool false]) wv) /\
 (true = false ->
 R (.tuple #[.int .i64 t8, .bool true]) wv)) /\
 ((!(ifNil a0)) = false ->
 Calls P 84 ⟨[.int .i64 t8]⟩ wv fun a1 a2 =>
 ∃ a3, a1 = .returned (.string a3) /\
 ((decide (a3 ≠ s)) = true ->
 R (.tuple #[.int .i64 0, .bool false]) a2) /\
 ((decide (a3 ≠ s)) = false ->
 R (.tuple #[.int .i64 t8, .bool true]) a2))
theorem impl_TextInt_ret {s : ByteArray} (h : impl_TextInt s w R) : Ret P 35 [.string s] w R := Ret.of_fsem Tryz.func35 rfl (Eq.mp (show _ = fsem P Tryz.f35 (fun k => []) _ R w from by kernel_rfl) h)
end Go.Proofs.YtgbknjdjbahdkaaGreatDoor
