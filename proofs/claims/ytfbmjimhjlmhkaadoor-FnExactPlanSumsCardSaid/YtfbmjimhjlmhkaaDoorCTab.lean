/-
  The laid table: from a row's condition to the cells of the program's variable; a world in which it is met.
-/
import Derived.Test.YtfbmjimhjlmhkaaDoorRows
import Derived.Test.YtfbmjimhjlmhkaaDoorCCurr
import Derived.OpenShut
import Derived.ProofKit
import Derived.Lib.LaidTab
namespace Go.Proofs.YtfbmjimhjlmhkaaDoor
open Go Go.Proofs.YtfbmjimhjlmhkaaDoor.Sx
set_option linter.unusedVariables false
set_option linter.unusedSimpArgs false

def curData {H : Type} (r : CurRow) : DataW H := .agg [.lit (.string r.1.data.toList), .lit (.string r.2.1.data.toList), .lit (.int .i64 r.2.2.1), .lit (.int .i64 r.2.2.2)]

theorem bytes_eq {a b : ByteArray} (h : a.data.toList = b.data.toList) : a = b := by
  obtain ⟨⟨x⟩⟩ := a; obtain ⟨⟨y⟩⟩ := b
  simp at h; subst h; rfl

set_option maxRecDepth 100000 in
theorem cur_cells {H : Type} {enc : TypeId × Value → H} {w : World} {sp : Nat → Bool} {hd : Bool} {fuel : Nat} {cs : List Value} {r : CurRow} {p : List MemPlace}
    (h : DataW.trod enc P w 0 sp hd fuel T_impl_currency cs = some (curData r, p)) : cs = curCells r := by
  obtain ⟨fs, hu, hsz, ⟨f0, e0, t0, o0⟩, ⟨f1, e1, t1, o1⟩, ⟨f2, e2, t2, o2⟩, ⟨f3, e3, t3, o3⟩⟩ := cur_fields
  have hu : P.underlying T_impl_currency = some (.struct fs) := hu
  have hs : P.underlying T_string = some .string := by kernel_rfl
  have hi : P.underlying T_int = some (.int .i64) := by kernel_rfl
  have cS : P.cellsOf T_string = 1 := by kernel_rfl
  have cI : P.cellsOf T_int = 1 := by kernel_rfl
  have cC : P.cellsOf T_impl_currency = 4 := by kernel_rfl
  obtain ⟨xs, n, rfl, hx, hlen, hxl, hf⟩ := DataW.trod_struct hu h
  rw [cC] at hlen
  rw [hsz] at hxl
  have h0 := hf 0 f0 e0; have h1 := hf 1 f1 e1; have h2 := hf 2 f2 e2; have h3 := hf 3 f3 e3
  rw [t0, o0, cS] at h0; rw [t1, o1, cS] at h1; rw [t2, o2, cI] at h2; rw [t3, o3, cI] at h3
  match cs, hlen, xs, hxl, hx, h0, h1, h2, h3 with
  | [c0, c1, c2, c3], _, [x0, x1, x2, x3], _, hx, h0, h1, h2, h3 =>
    simp only [List.drop_succ_cons, List.drop_zero, List.take_succ_cons, List.take_zero, List.getElem?_cons_zero, List.getElem?_cons_succ] at h0 h1 h2 h3
    obtain ⟨s0, a0, b0, _⟩ := DataW.trod_string hs h0
    obtain ⟨s1, a1, b1, _⟩ := DataW.trod_string hs h1
    obtain ⟨z2, a2, b2, _⟩ := DataW.trod_int hi h2
    obtain ⟨z3, a3, b3, _⟩ := DataW.trod_int hi h3
    simp only [Prod.mk.injEq, curData, DataW.agg.injEq, List.map_cons, List.map_nil, List.cons.injEq, b0, b1, b2, b3, DataW.lit.injEq, Lit.string.injEq, Lit.int.injEq, true_and, and_true] at hx
    simp only [List.cons.injEq, and_true] at a0 a1 a2 a3
    obtain ⟨⟨q0, q1, q2, q3⟩, _⟩ := hx
    rw [a0, a1, a2, a3, ← bytes_eq q0, ← bytes_eq q1, ← q2, ← q3]
    rfl

theorem flat_of_rows : ∀ (l : List CurRow) (cs : List Value), cs.length = l.length * 4 → (∀ i (hi : i < l.length), (cs.drop (i * 4)).take 4 = curCells (l[i]'hi)) → cs = l.flatMap curCells
  | [], cs, h, _ => by simpa using h
  | r :: l, cs, h, hr => by
    have h0 := hr 0 (by simp)
    simp only [Nat.zero_mul, List.drop_zero, List.getElem_cons_zero] at h0
    rw [List.flatMap_cons, ← h0, ← flat_of_rows l (cs.drop 4) (by simp at h ⊢; omega) (fun i hi => by
      have := hr (i + 1) (by simpa using hi)
      rw [List.drop_drop, show 4 + i * 4 = (i + 1) * 4 by omega]
      simpa using this), List.take_append_drop]

def curVar : String := "loop.example/g00793/impl.currencies"
set_option maxRecDepth 100000 in
theorem tab_of_laid {W : World} (h : laidMetH P [(curVar, Rows.laid_loop_example_g00793_impl_currencies)] W) : Tab W := by
  have h : laidMet P [(curVar, Rows.laid_loop_example_g00793_impl_currencies)] W := h
  obtain ⟨ps, ⟨g, t, cs, fuel, p, q, hg, ht, hvar, hd, _, _⟩, _⟩ := h
  have hg0 : P.globalNamed curVar = some 0 := by kernel_rfl
  have ht0 : (P.globals[0]?).map (·.type) = some T_20_impl_currency := by kernel_rfl
  obtain rfl := Option.some.inj (hg0.symm.trans hg)
  obtain rfl := Option.some.inj (ht0.symm.trans ht)
  have hu : P.underlying T_20_impl_currency = some (.array 20 T_impl_currency) := und_T_20_impl_currency
  have cC : P.cellsOf T_impl_currency = 4 := by kernel_rfl
  have cA : P.cellsOf T_20_impl_currency = 80 := by kernel_rfl
  obtain ⟨xs, m, rfl, hx, hlen, hxl, hf⟩ := DataW.trod_array hu hd
  rw [cA] at hlen
  have hdat : (Rows.laid_loop_example_g00793_impl_currencies : DataW Unit) = .agg (implTab.map curData) := by rfl
  rw [hdat] at hx
  simp only [Prod.mk.injEq, DataW.agg.injEq] at hx
  have hl := impl_length
  have hcs : cs.toList = implTab.flatMap curCells := by
    refine flat_of_rows implTab _ (by omega) fun i hi => ?_
    have h1 := hf i (by omega)
    rw [cC] at h1
    have h2 : (xs.map (·.1))[i]? = some (curData (implTab[i]'hi)) := by rw [← hx.1]; simp [hi]
    rw [List.getElem?_map] at h2
    cases h3 : xs[i]? with
    | none => rw [h3] at h2; cases h2
    | some x =>
      rw [h3] at h1 h2
      simp only [Option.map_some, Option.some.injEq] at h2
      obtain ⟨d, pp⟩ := x
      simp only at h2
      subst h2
      exact cur_cells h1
  intro i v hv
  have := World.var?_cell hg0 hvar i
  rw [Nat.zero_add, this, ← hv, ← hcs]
  simp

/-- a world for the witness: the settled one, the table laid in its variable -/
noncomputable def laidWorld (os : Os) (args : Array Value) : World :=
  { World.holding P os ⟨#[], args, []⟩ with heap := (World.holding P os ⟨#[], args, []⟩).heap.modify 0 fun
      | .cells _ t frozen => .cells ⟨implTab.flatMap curCells⟩ t frozen
      | o => o }

theorem trodVars_one {H : Type} {enc : TypeId × Value → H} {w : World} {sp : Nat → Bool} {n : String} {gs : List (DataW H)} {ps : List MemPlace} (h : DataW.TrodVars enc P w sp [n] gs ps) : ∃ g, gs = [g] := by
  match gs, h with
  | [g], _ => exact ⟨g, rfl⟩
  | g :: g2 :: r, h =>
    obtain ⟨_, _, _, _, _, _, _, _, _, _, h2, _⟩ := h
    exact h2.elim

end Go.Proofs.YtfbmjimhjlmhkaaDoor
