/-
  Parts of the proof of rowText_holds: CRowText, WRowText, SxRow, SxOpen, CTab, CTabX.
  Conditions: none.
-/
import Derived.ProofKit
import Derived.Deep.Slices
import Derived.Test.YtpaekkcgphljoaaDoorRows
import Derived.OpenShut
import Derived.Lib.LaidTab
import Derived.Test.YtpaekkcgphljoaaDoorRTx2

namespace Go.Proofs.YtpaekkcgphljoaaDoor
open Go Go.Proofs.YtpaekkcgphljoaaDoor.Sx
set_option linter.unusedVariables false
set_option linter.unusedSimpArgs false
def rowT : List D0 → ByteArray
  | [.str a, .bool s, .ints x, .str b, .bool t, .ints y, .str c, .bool u, .ints z] => (((moneyT [.str a, .bool s, .ints x] ++ S [32, 124, 32]) ++ moneyT [.str b, .bool t, .ints y]) ++ S [32, 124, 32]) ++ moneyT [.str c, .bool u, .ints z]
  | _ => S []
theorem spec_RowText_c {w : World} {xs : List Value} {dx : List D0} (h : Reps w xs dx) (hc : dx.map D0.code = [.str, .bool, .ints, .str, .bool, .ints, .str, .bool, .ints]) (hb : bulks dx ≤ 1048576) :
    Ret P n_spec_RowText [.agg ⟨xs⟩] w fun v w' => v = .string (rowT dx) ∧ Ext w w' := by
  obtain ⟨a0, a1, a2p, a2n, a2c, a2z, a3, a4, a5p, a5n, a5c, a5z, a6, a7, a8p, a8n, a8c, a8z, rfl, rfl, ha2, ha5, ha8⟩ := open_Row h hc
  refine spec_RowText_ret ?_
  unfold spec_RowText
  intro r w1 hn1
  have D := Ext.drew w1
  have bk := hn1.blk.ext D
  have X := hn1.ext.trans D
  have N1 := moneyT_size a0 a1 a2z
  have N2 := moneyT_size a3 a4 a5z
  have N3 := moneyT_size a6 a7 a8z
  have s3 : (S [32, 124, 32]).size = 3 := rfl
  refine ⟨_, _, _, _, _, fun W hW => (bk.ext hW).loadAAt 0 [.string a0, .bool a1, .slice a2p a2n a2c] rfl (by kernel_rfl) rfl, ?_⟩
  have hm : Reps w1.drew [.string a0, .bool a1, .slice a2p a2n a2c] [.str a0, .bool a1, .ints a2z] := ⟨rfl, rfl, ⟨_, _, _, rfl, ha2.ext X⟩, trivial⟩
  refine Ret.at (spec_MoneyText_c hm ) ?_
  rintro v w2 ⟨hv, y2⟩
  subst hv
  have X2 := X.trans y2
  refine ⟨_, rfl, y2, ?_, _, rfl, _, _, _, _, _, fun W hW => (bk.ext hW).loadAAt 3 [.string a3, .bool a4, .slice a5p a5n a5c] rfl (by kernel_rfl) rfl, ?_⟩
  · simp only [ByteArray.size_append, s3]; omega
  have hm : Reps w2 [.string a3, .bool a4, .slice a5p a5n a5c] [.str a3, .bool a4, .ints a5z] := ⟨rfl, rfl, ⟨_, _, _, rfl, ha5.ext X2⟩, trivial⟩
  refine Ret.at (spec_MoneyText_c hm ) ?_
  rintro v w3 ⟨hv, y3⟩
  subst hv
  have X3 := X2.trans y3
  refine ⟨_, rfl, y3, ?_, _, rfl, ?_, _, rfl, _, _, _, _, _, fun W hW => (bk.ext hW).loadAAt 6 [.string a6, .bool a7, .slice a8p a8n a8c] rfl (by kernel_rfl) rfl, ?_⟩
  · simp only [ByteArray.size_append, s3]; omega
  · simp only [ByteArray.size_append, s3]; omega
  have hm : Reps w3 [.string a6, .bool a7, .slice a8p a8n a8c] [.str a6, .bool a7, .ints a8z] := ⟨rfl, rfl, ⟨_, _, _, rfl, ha8.ext X3⟩, trivial⟩
  refine Ret.at (spec_MoneyText_c hm ) ?_
  rintro v w4 ⟨hv, y4⟩
  subst hv
  have X4 := X3.trans y4
  refine ⟨_, rfl, ?_, _, rfl, rfl, X4⟩
  · simp only [ByteArray.size_append, s3]; omega
theorem impl_RowText_c {w : World} {xs : List Value} {dx : List D0} (h : Reps w xs dx) (hc : dx.map D0.code = [.str, .bool, .ints, .str, .bool, .ints, .str, .bool, .ints]) (hb : bulks dx ≤ 1048576) (ht : Tab w) (hp : TabP w) :
    Ret P n_impl_RowText [.agg ⟨xs⟩] w fun v w' => v = .string (rowT dx) ∧ Ext w w' := by
  obtain ⟨a0, a1, a2p, a2n, a2c, a2z, a3, a4, a5p, a5n, a5c, a5z, a6, a7, a8p, a8n, a8c, a8z, rfl, rfl, ha2, ha5, ha8⟩ := open_Row h hc
  refine impl_RowText_ret ?_
  unfold impl_RowText
  intro r w1 hn1
  have D := Ext.drew w1
  have bk := hn1.blk.ext D
  have X := hn1.ext.trans D
  have N1 := moneyT_size a0 a1 a2z
  have N2 := moneyT_size a3 a4 a5z
  have N3 := moneyT_size a6 a7 a8z
  have s3 : (S [32, 124, 32]).size = 3 := rfl
  refine ⟨_, _, _, _, _, fun W hW => (bk.ext hW).loadAAt 0 [.string a0, .bool a1, .slice a2p a2n a2c] rfl (by kernel_rfl) rfl, ?_⟩
  have hm : Reps w1.drew [.string a0, .bool a1, .slice a2p a2n a2c] [.str a0, .bool a1, .ints a2z] := ⟨rfl, rfl, ⟨_, _, _, rfl, ha2.ext X⟩, trivial⟩
  refine Ret.at (impl_MoneyText_c hm (ht.ext (X)) (hp.ext (X))) ?_
  rintro v w2 ⟨hv, y2⟩
  subst hv
  have X2 := X.trans y2
  refine ⟨_, rfl, y2, _, _, _, _, _, fun W hW => (bk.ext hW).loadAAt 3 [.string a3, .bool a4, .slice a5p a5n a5c] rfl (by kernel_rfl) rfl, ?_⟩
  have hm : Reps w2 [.string a3, .bool a4, .slice a5p a5n a5c] [.str a3, .bool a4, .ints a5z] := ⟨rfl, rfl, ⟨_, _, _, rfl, ha5.ext X2⟩, trivial⟩
  refine Ret.at (impl_MoneyText_c hm (ht.ext (X2)) (hp.ext (X2))) ?_
  rintro v w3 ⟨hv, y3⟩
  subst hv
  have X3 := X2.trans y3
  refine ⟨_, rfl, y3, _, _, _, _, _, fun W hW => (bk.ext hW).loadAAt 6 [.string a6, .bool a7, .slice a8p a8n a8c] rfl (by kernel_rfl) rfl, ?_⟩
  have hm : Reps w3 [.string a6, .bool a7, .slice a8p a8n a8c] [.str a6, .bool a7, .ints a8z] := ⟨rfl, rfl, ⟨_, _, _, rfl, ha8.ext X3⟩, trivial⟩
  refine Ret.at (impl_MoneyText_c hm (ht.ext (X3)) (hp.ext (X3))) ?_
  rintro v w4 ⟨hv, y4⟩
  subst hv
  have X4 := X3.trans y4
  refine ⟨_, rfl, ?_⟩
  intro r5 w5 hn5
  have hst : StrsR w5 (some ⟨r5, 0, none⟩) 3 3 [moneyT [.str a0, .bool a1, .ints a2z], moneyT [.str a3, .bool a4, .ints a5z], moneyT [.str a6, .bool a7, .ints a8z]] := blk_strs hn5.blk (by simp)
  refine Ret.at (impl_Join_c hst (S [32, 124, 32]) (k := 200) ?_ (by rw [s3]; decide) (by decide)) ?_
  · intro x hx
    simp only [List.mem_cons, List.not_mem_nil, or_false] at hx
    rcases hx with rfl | rfl | rfl <;> assumption
  rintro v w6 ⟨hv, y6⟩
  subst hv
  refine ⟨_, rfl, ?_, (X4.trans hn5.ext).trans y6⟩
  rw [joinT_three]; rfl
end Go.Proofs.YtpaekkcgphljoaaDoor

namespace Go.Proofs.YtpaekkcgphljoaaDoor
open Go Go.Proofs.YtpaekkcgphljoaaDoor.Sx
set_option linter.unusedVariables false
set_option linter.unusedSimpArgs false
theorem laws_FnExactRowText_c {w : World} {vs0 : List Value} {d0 : List D0} (h0 : Reps w vs0 d0) (hc0 : d0.map D0.code = [.str, .bool, .ints, .str, .bool, .ints, .str, .bool, .ints]) (hk0 : ∀ x ∈ d0, x.ok) (ht : Tab w) (hp : TabP w) :
    Ret P n_laws_FnExactRowText [.agg ⟨vs0⟩] w fun v w' => v = .bool true ∧ Ext w w' := by
  have hr0 := h0
  obtain ⟨u00, u01, u02p, u02n, u02c, u02z, u03, u04, u05p, u05n, u05c, u05z, u06, u07, u08p, u08n, u08c, u08z, rfl, rfl, u02h, u05h, u08h⟩ := open_Row h0 hc0
  refine laws_FnExactRowText_ret ?_
  unfold laws_FnExactRowText
  have x : Ext w w := Ext.refl w
  intro r0 W1 hn0
  have y := hn0.ext
  have x := x.trans y
  have bk0 := hn0.blk
  refine ⟨_, _, _, _, _, _, _, _, _, _, _, _, _, _, _, bk0.loadA0 (by kernel_rfl), ?_⟩
  refine Ret.at (laws_szRow_c (hr0.ext x) rfl hk0 (by omega) (by omega)) ?_
  rintro v W2 ⟨k0, hv, hs0, hm0, y⟩
  subst hv
  have x := x.trans y
  have bk0 := bk0.ext y
  refine ⟨_, rfl, ifD (fun _ => ⟨rfl, x⟩) (fun hp0 => ?_)⟩
  have hs0 := hs0 (by omega)
  simp only [bulks, D0.bulk, List.map_cons, List.map_nil, List.sum_cons, List.sum_nil] at hs0
  refine ⟨_, _, _, _, _, _, _, _, _, _, _, _, _, _, _, bk0.loadA0 (by kernel_rfl), ?_⟩
  refine Ret.at (laws_toRow_c (hr0.ext x) rfl (by simp only [bulks, D0.bulk, List.map_cons, List.map_nil, List.sum_cons, List.sum_nil]; omega)) ?_
  rintro v W3 ⟨vs, fs0, hv, os0, nds0, y⟩
  subst hv
  obtain ⟨ts00, ts01, ts02p, ts02n, ts02c, ts02z, ts03, ts04, ts05p, ts05n, ts05c, ts05z, ts06, ts07, ts08p, ts08n, ts08c, ts08z, rfl, hds0, ts02h, ts05h, ts08h⟩ := open_Row os0.reps rfl
  have yy := y
  have x := x.trans y
  have bk0 := bk0.ext y
  refine ⟨_, _, _, _, _, _, _, _, _, _, _, _, _, _, _, rfl, ?_⟩
  refine Ret.at (spec_RowText_c os0.reps rfl (by simp only [bulks, D0.bulk, List.map_cons, List.map_nil, List.sum_cons, List.sum_nil]; omega)) ?_
  rintro v W4 ⟨hv, y⟩
  subst hv
  have x := x.trans y
  have bk0 := bk0.ext y
  refine ⟨_, rfl, ?_⟩
  refine ⟨_, _, _, _, _, _, _, _, _, _, _, _, _, _, _, bk0.loadA0 (by kernel_rfl), ?_⟩
  refine Ret.at (laws_toRow_c (hr0.ext x) rfl (by simp only [bulks, D0.bulk, List.map_cons, List.map_nil, List.sum_cons, List.sum_nil]; omega)) ?_
  rintro v W5 ⟨vs, fx0, hv, ox0, ndx0, y⟩
  subst hv
  obtain ⟨tx00, tx01, tx02p, tx02n, tx02c, tx02z, tx03, tx04, tx05p, tx05n, tx05c, tx05z, tx06, tx07, tx08p, tx08n, tx08c, tx08z, rfl, hdx0, tx02h, tx05h, tx08h⟩ := open_Row ox0.reps rfl
  have x := x.trans y
  have bk0 := bk0.ext y
  refine ⟨_, _, _, _, _, _, _, _, _, _, _, _, _, _, _, rfl, ?_⟩
  intro rx0 W6 hnx0
  obtain ⟨W7, st, bx0, ch, sz⟩ := hnx0.blk.storeA0 (P := P) (t := T_impl_Row) (xs := [.string tx00, .bool tx01, .slice tx02p tx02n tx02c, .string tx03, .bool tx04, .slice tx05p tx05n tx05c, .string tx06, .bool tx07, .slice tx08p tx08n tx08c]) (by kernel_rfl) rfl ox0.reps.cells1
  have y := hnx0.ext.chg ch (by have := hnx0.r_eq; simp; omega)
  have x := x.trans y
  have bk0 := bk0.ext y
  have ox0 := ox0.ext y
  refine ⟨_, st, ?_⟩
  refine ⟨_, _, _, _, _, _, _, _, _, _, _, _, _, _, _, bx0.loadA0 (by kernel_rfl), ?_⟩
  refine Ret.at (impl_RowText_c ox0.reps rfl (by simp only [bulks, D0.bulk, List.map_cons, List.map_nil, List.sum_cons, List.sum_nil]; omega) (ht.ext x) (hp.ext x)) ?_
  rintro v W8 ⟨hv, y⟩
  subst hv
  have x := x.trans y
  have bk0 := bk0.ext y
  have bx0 := bx0.ext y
  have ox0 := ox0.ext y
  refine ⟨_, rfl, ⟨fun h => absurd h (by simp), fun _ => ?_⟩⟩
  refine ⟨_, _, _, _, _, _, _, _, _, _, _, _, _, _, _, fun W' hW => (bx0.ext ((Ext.drew _).trans hW)).loadA0 (by kernel_rfl), _, _, _, _, _, _, _, _, _, _, _, _, _, _, _, fun W' hW => (bk0.ext ((Ext.drew _).trans hW)).loadA0 (by kernel_rfl), ?_⟩
  have y := Ext.drew W8
  have x := x.trans y
  have bk0 := bk0.ext y
  have bx0 := bx0.ext y
  have ox0 := ox0.ext y
  refine Ret.at (laws_toRow_c (hr0.ext x) rfl (by simp only [bulks, D0.bulk, List.map_cons, List.map_nil, List.sum_cons, List.sum_nil]; omega)) ?_
  rintro v W9 ⟨vs, fy0, hv, oy0, ndy0, y⟩
  subst hv
  obtain ⟨ty00, ty01, ty02p, ty02n, ty02c, ty02z, ty03, ty04, ty05p, ty05n, ty05c, ty05z, ty06, ty07, ty08p, ty08n, ty08c, ty08z, rfl, hdy0, ty02h, ty05h, ty08h⟩ := open_Row oy0.reps rfl
  have y2 := y
  have x := x.trans y
  have bk0 := bk0.ext y
  have bx0 := bx0.ext y
  have ox0 := ox0.ext y
  refine ⟨_, _, _, _, _, _, _, _, _, _, _, _, _, _, _, rfl, y, ?_⟩
  refine Ret.at (laws_eqRow_c ox0.reps oy0.reps rfl rfl) ?_
  rintro v W10 ⟨hv, y⟩
  subst hv
  have x := x.trans y
  have bk0 := bk0.ext y
  have bx0 := bx0.ext y
  have ox0 := ox0.ext y
  refine ⟨_, rfl, ifN (fun h => absurd h (by simp)) (fun _ => ?_)⟩
  exact ⟨rfl, x⟩
end Go.Proofs.YtpaekkcgphljoaaDoor

namespace Go.Proofs.YtpaekkcgphljoaaDoor.Sx
open Go Go.RowKit Go.ChangeShapes Go.WideShapes
set_option linter.unusedVariables false
set_option linter.unusedSimpArgs false
/-- each named variable's type can be read and is a row of the table -/
def rowedV (P : Program) (ns : List String) : Bool := ns.all fun n => ((P.globalNamed n).bind (P.globals[·]?)).all fun gl => P.readableRec gl.type && decide (gl.type < P.types.size)
section
variable {H : Type} {enc : TypeId × Value → H} {P : Program}
theorem trodAll_ext (hl : laidOutB P = true) {W W' : World} (hb : Ext W W') (sp' : Nat → Bool) : ∀ {ts : List TypeId} {vs : List Value} {ds : List (DataW H)} {ps : List MemPlace},
    (∀ t ∈ ts, P.readableRec t = true ∧ t < P.types.size) → (∀ p ∈ ps, p.block < W.heap.size) → (∀ p ∈ ps, sp' p.block = true) →
    DataW.TrodAll enc P W 0 (fun _ => true) true ts vs ds ps → DataW.TrodAll enc P W' 0 sp' true ts vs ds ps
  | [], _, _, _, _, _, _, h => by
    obtain ⟨rfl, rfl, rfl⟩ := trodAll_nil h
    exact rfl
  | t :: ts, _, _, _, hr, hlt, hsp, h => by
    obtain ⟨v, vs1, d, ds1, a, b, rfl, rfl, rfl, h1, h2⟩ := trodAll_cons h
    have hrt := hr t (by simp)
    exact ⟨a, b, WideElems.Trod_stays hl hrt.1 hrt.2 h1 (fun x hx => Below.same hb (hlt x (by simp [hx]))) (fun x hx => hsp x (by simp [hx])),
      trodAll_ext hl hb sp' (fun u hu => hr u (by simp [hu])) (fun x hx => hlt x (by simp [hx])) (fun x hx => hsp x (by simp [hx])) h2, rfl⟩
theorem trodVars_sp (hl : laidOutB P = true) {W W' : World} (hb : Ext W W') (sp' : Nat → Bool) :
    ∀ {ns : List String} {gs : List (DataW H)} {ps : List MemPlace}, rowedV P ns = true → (∀ p ∈ ps, sp' p.block = true) → DataW.TrodVars enc P W (fun _ => true) ns gs ps → DataW.TrodVars enc P W' sp' ns gs ps
  | [], [], _, _, _, h => h
  | [], _ :: _, _, _, _, h => h.elim
  | _ :: _, [], _, _, _, h => h.elim
  | n :: ns, d :: ds, ps, hv, hsp, h => by
    have hlt := h.lt
    obtain ⟨g, t, cs, fuel, p, q, h1, h2, h3, h4, hs, e⟩ := h
    simp only [rowedV, List.all_cons, Bool.and_eq_true] at hv
    have ht : P.readableRec t = true ∧ t < P.types.size := by
      have := hv.1
      rw [h1] at this
      cases hg : P.globals[g]? with
      | none => rw [hg] at h2; cases h2
      | some gl =>
        rw [hg] at h2
        obtain rfl : gl.type = t := Option.some.inj h2
        simpa [hg] using this
    have hp : ∀ x ∈ p, x.block < W.heap.size := fun x hx => hlt x (by rw [e]; simp [hx])
    have h3' : W'.var? P n = some cs := by
      unfold World.var? at h3 ⊢
      rw [h1] at h3 ⊢
      simp only [Option.bind_some] at h3 ⊢
      have hg : g < W.heap.size := by
        cases hh : W.heap[g]? with
        | none => rw [hh] at h3; cases h3
        | some o => exact (Array.getElem?_eq_some_iff.1 hh).1
      rw [hb.block g hg]; exact h3
    exact ⟨g, t, cs, fuel, p, q, h1, h2, h3', DataW.trod_stays (kids_book hl ht.1) (book_sized ht.1) (fun h => by cases h) ⟨ht.2, book_self t⟩ h4 (fun x hx => Below.same hb (hp x hx)) (fun x hx => hsp x (by rw [e]; simp [hx])),
      trodVars_sp hl hb sp' (by simpa [rowedV] using hv.2) (fun x hx => hsp x (by rw [e]; simp [hx])) hs, e⟩
/-- what the row asks of a law that answered true in a world with more behind it -/
theorem post_of_ext {f : Func} {s : ChangeSpec} {apart fresh handsOn again : Bool} {W W' : World} {args : Array Value} {ds gs : List (DataW H)} {before : List MemPlace} {tb : TypeId}
    (hl : laidOutB P = true) (hpar : ∀ t ∈ f.params.toList, P.readableRec t = true ∧ t < P.types.size) (hvr : rowedV P s.vars = true)
    (hrt : f.resultTypes = #[tb]) (htb : P.underlying tb = some .bool)
    (hW : DataW.Whole enc P f.params.toList s.vars apart W args.toList ds gs before) (hx : Ext W W')
    (hfn : s.fn H (ds ++ gs) = { results := [.lit (.bool true)], args := ds, vars := gs }) :
    s.post enc P f apart fresh handsOn again W args (.bool true) W' := by
  have hW0 := hW
  have hlt : ∀ p ∈ before, p.block < W.heap.size := hW.lt
  obtain ⟨pa, pv, hA, hV, rfl, hz, hn⟩ := hW
  have hlta : ∀ p ∈ pa, p.block < W.heap.size := fun p hp => hlt p (by simp [hp])
  have hltv : ∀ p ∈ pv, p.block < W.heap.size := fun p hp => hlt p (by simp [hp])
  have hr : (Value.bool true).resultList f.resultTypes.size = [Value.bool true] := by rw [hrt]; rfl
  refine ⟨ds, gs, pa ++ pv, [], pa, pv, hW0, ?_, ?_, ?_, Below.frame hx _, fun _ => ?_⟩
  · rw [hfn, hr, hrt]
    exact trodAll_mk1 (shut_bool htb _)
  · rw [hfn]
    exact trodAll_ext hl hx _ hpar hlta (fun p hp => by simpa using hlta p hp) hA
  · rw [hfn]
    exact trodVars_sp hl hx _ hvr (fun p hp => by simpa using hltv p hp) hV
  · refine ⟨?_, (.lit (.bool true)) :: ds, gs, pa ++ pv, ⟨[] ++ pa, pv, ?_, ?_, by simp, ?_, ?_⟩, fun p hp _ => hp⟩
    · rw [hr, hrt]
      exact ok_one (f := { f with resultTypes := #[tb] }) rfl rfl (okWide_bool_mk htb _)
    · rw [hr, hrt]
      exact trodAll_append (trodAll_ext hl hx _ hpar hlta (fun _ _ => rfl) hA) (trodAll_mk1 (shut_bool htb _))
    · exact trodVars_sp hl hx _ hvr (fun _ _ => rfl) hV
    · intro b off hp
      have := hlt _ hp
      rw [Below.frozen hx (p := ⟨b, off, none⟩) this]
      exact hz b off hp
    · exact hn
end
end Go.Proofs.YtpaekkcgphljoaaDoor.Sx

namespace Go.Proofs.YtpaekkcgphljoaaDoor.Sx
open Go Go.RowKit Go.ChangeShapes Go.WideShapes
set_option linter.unusedVariables false
set_option linter.unusedSimpArgs false
/-- the cells of a struct's fields, one behind the other -/
def flatF (P : Program) (g : TypeId → Option (List C0)) : Nat → List Field → Option (List C0)
  | _, [] => some []
  | o, f :: r => match Nat.beq f.offset o, g f.type with
    | true, some a => match Nat.beq (P.cellsOf f.type) a.length, flatF P g (o + a.length) r with
      | true, some b => some (a ++ b)
      | _, _ => none
    | _, _ => none
/-- the cells of a type -/
def flatC (P : Program) : Nat → TypeId → Option (List C0)
  | 0, _ => none
  | n + 1, t => match P.underlying t with
    | some .bool => some [.bool]
    | some (.int .i64) => some [.int]
    | some .string => some [.str]
    | some (.slice e) => match P.underlying e, P.cellsOf e with
      | some (.int .i64), 1 => some [.ints]
      | _, _ => none
    | some (.struct fs) => match flatF P (flatC P n) 0 fs.toList with
      | some a => if Nat.beq (P.cellsOf t) a.length then some a else none
      | none => none
    | _ => none
section
variable {H : Type} {enc : TypeId × Value → H} {P : Program} {w : World}
theorem spot_none {a : Addr} {v : Value} (h : w.cell? a = some v) : a = ⟨a.block, a.off, none⟩ := by
  obtain ⟨b, o, spot⟩ := a
  have : spot = none := by simpa using World.cell?_spot h
  subst this; rfl
theorem ints_of_trod {t e : TypeId} {fuel : Nat} {sp : Nat → Bool} {hd : Bool} {cs : List Value} {x : DataW H × List MemPlace} (ht : P.underlying t = some (.slice e)) (he : P.underlying e = some (.int .i64)) (hc : P.cellsOf e = 1)
    (h : DataW.trod enc P w 0 sp hd fuel t cs = some x) : ∃ p n c zs, cs = [.slice p n c] ∧ IntsR w p n c zs ∧ zs.length ≤ 9223372036854775807 := by
  rcases Go.ChangeShapes.open_ints ht he hc h with ⟨rfl, _⟩ | ⟨a, len, cap, zs, rfl, _, hl, hm, hz, _, hcell, _⟩
  · exact ⟨none, 0, 0, [], rfl, ⟨rfl, Nat.le_refl _, by omega, fun h => absurd h (by omega)⟩, by simp⟩
  · have hlz : len ≤ zs.length := by rw [hz]; split <;> omega
    refine ⟨some a, len, cap, zs.take len, rfl, ⟨by simp; omega, hl, by simpa [maxLen] using hm, fun hpos => ?_⟩, by simp only [maxLen] at hm; simp; omega⟩
    have h0 := hcell 0 (by omega)
    have hs := spot_none h0
    have ha : a = ⟨a.block, a.off, none⟩ := by
      obtain ⟨b, o, s⟩ := a
      simp [Addr.add] at hs
      simp [hs]
    refine ⟨a.block, a.off, by rw [← ha], fun j v hj => ?_⟩
    simp only [List.getElem?_map, List.getElem?_take] at hj
    split at hj
    · rename_i hjl
      have hjz : j < zs.length := by omega
      have := hcell j hjz
      rw [ha, addr_add] at this
      rw [this]
      rw [List.getElem?_eq_getElem hjz] at hj
      simp at hj
      rw [← hj]
      simp [hjz]
    · simp at hj
theorem flatF_open {g : TypeId → Option (List C0)} {n : Nat} {sp : Nat → Bool} {hd : Bool}
    (ih : ∀ {t : TypeId} {ks : List C0} {cs : List Value} {x : DataW H × List MemPlace}, g t = some ks → DataW.trod enc P w 0 sp hd n t cs = some x → ∃ ds, Reps w cs ds ∧ ds.map D0.code = ks ∧ ∀ d ∈ ds, d.ok) :
    ∀ (fs : List Field) (o : Nat) (ks : List C0) (cs : List Value), flatF P g o fs = some ks → cs.length = o + ks.length →
      (∀ f ∈ fs, ∃ x, DataW.trod enc P w 0 sp hd n f.type ((cs.drop f.offset).take (P.cellsOf f.type)) = some x) → ∃ ds, Reps w (cs.drop o) ds ∧ ds.map D0.code = ks ∧ ∀ d ∈ ds, d.ok
  | [], o, ks, cs, hf, hl, _ => by
    simp only [flatF, Option.some.injEq] at hf
    subst hf
    rw [List.drop_of_length_le (by simp at hl; omega)]
    exact ⟨[], trivial, rfl, by simp⟩
  | f :: r, o, ks, cs, hf, hl, hx => by
    simp only [flatF] at hf
    split at hf
    · rename_i a h1 h2
      split at hf
      · rename_i b h3 h4
        have h1' := Nat.eq_of_beq_eq_true h1
        have h3' := Nat.eq_of_beq_eq_true h3
        cases hf
        rw [List.length_append] at hl
        obtain ⟨x, hx0⟩ := hx f (by simp)
        obtain ⟨ds, r1, c1, k1⟩ := ih h2 hx0
        obtain ⟨es, r2, c2, k2⟩ := flatF_open ih r (o + a.length) b cs h4 (by omega) (fun f' hf' => hx f' (by simp [hf']))
        refine ⟨ds ++ es, ?_, by simp [c1, c2], fun d hd => ?_⟩
        · rw [h1', h3'] at r1
          have : cs.drop o = (cs.drop o).take a.length ++ cs.drop (o + a.length) := by
            rw [← List.drop_drop, List.take_append_drop]
          rw [this]
          exact r1.append r2
        · rcases List.mem_append.1 hd with h | h
          · exact k1 d h
          · exact k2 d h
      · cases hf
    · cases hf
theorem flat_open {sp : Nat → Bool} {hd : Bool} : ∀ (m : Nat) {fuel : Nat} {t : TypeId} {ks : List C0} {cs : List Value} {x : DataW H × List MemPlace}, flatC P m t = some ks → DataW.trod enc P w 0 sp hd fuel t cs = some x →
    ∃ ds, Reps w cs ds ∧ ds.map D0.code = ks ∧ ∀ d ∈ ds, d.ok
  | 0, _, _, _, _, _, h, _ => by cases h
  | m + 1, fuel, t, ks, cs, x, h, ht => by
    simp only [flatC] at h
    split at h
    · rename_i hu
      obtain ⟨b, rfl, _⟩ := DataW.trod_bool hu ht
      cases h
      exact ⟨[.bool b], ⟨rfl, trivial⟩, rfl, by simp [D0.ok]⟩
    · rename_i hu
      obtain ⟨b, rfl, _, hw⟩ := DataW.trod_int hu ht
      cases h
      refine ⟨[.int b], ⟨rfl, trivial⟩, rfl, ?_⟩
      simp only [List.mem_singleton, forall_eq, D0.ok]
      simp [Lit.wf, IntKind.min, IntKind.max, IntKind.bits, IntKind.signed] at hw
      omega
    · rename_i hu
      obtain ⟨s, rfl, _, hw⟩ := DataW.trod_string hu ht
      cases h
      exact ⟨[.str s], ⟨rfl, trivial⟩, rfl, by simpa [D0.ok, maxLen] using hw⟩
    · rename_i e hu
      split at h
      · rename_i he hc
        cases h
        obtain ⟨p, n, c, zs, rfl, hr, hz⟩ := ints_of_trod hu he hc ht
        exact ⟨[.ints zs], ⟨⟨p, n, c, rfl, hr⟩, trivial⟩, rfl, by simpa [D0.ok] using hz⟩
      · cases h
    · rename_i fs hu
      split at h
      · rename_i a hf
        split at h
        · rename_i hsz
          cases h
          obtain ⟨xs, n, rfl, _, hlen, hxl, hfs⟩ := DataW.trod_struct hu ht
          have hsz' := Nat.eq_of_beq_eq_true hsz
          have := flatF_open (fun h1 h2 => flat_open m h1 h2) fs.toList 0 ks cs hf (by omega) (fun f hf => by
            obtain ⟨i, hi⟩ := List.getElem?_of_mem hf
            have hil : i < fs.size := by simpa using (List.getElem?_eq_some_iff.1 hi).1
            have := hfs i f (by simpa using hi)
            rw [List.getElem?_eq_getElem (by omega)] at this
            exact ⟨_, this⟩)
          simpa using this
        · cases h
      · cases h
    · cases h
end
end Go.Proofs.YtpaekkcgphljoaaDoor.Sx

namespace Go.Proofs.YtpaekkcgphljoaaDoor
open Go Go.Proofs.YtpaekkcgphljoaaDoor.Sx
set_option linter.unusedVariables false
set_option linter.unusedSimpArgs false
def curData {H : Type} (r : CurRow) : DataW H := .agg [.lit (.string r.1.data.toList), .lit (.string r.2.1.data.toList), .lit (.int .i64 r.2.2.1), .lit (.int .i64 r.2.2.2)]
theorem bytes_eq {a b : ByteArray} (h : a.data.toList = b.data.toList) : a = b := by
  obtain ⟨⟨x⟩⟩ := a; obtain ⟨⟨y⟩⟩ := b
  simp at h; subst h; rfl
set_option maxRecDepth 100000 in
theorem cur_cells {H : Type} {enc : TypeId × Value → H} {w : World} {sp : Nat → Bool} {hd : Bool} {fuel : Nat} {cs : List Value} {r : CurRow} {p : List MemPlace}
    (h : DataW.trod enc P w 0 sp hd fuel T_impl_currency cs = some (curData r, p)) : cs = curCells r := by
  obtain ⟨fs, hu, hsz, ⟨f0, e0, t0, o0⟩, ⟨f1, e1, t1, o1⟩, ⟨f2, e2, t2, o2⟩, ⟨f3, e3, t3, o3⟩⟩ := cur_fields
  have hu : P.underlying T_impl_currency = some (.struct fs) := hu
  have hs : P.underlying T_string = some .string := by kernel_rfl
  have hi : P.underlying T_int = some (.int .i64) := by kernel_rfl
  have cS : P.cellsOf T_string = 1 := by kernel_rfl
  have cI : P.cellsOf T_int = 1 := by kernel_rfl
  have cC : P.cellsOf T_impl_currency = 4 := by kernel_rfl
  obtain ⟨xs, n, rfl, hx, hlen, hxl, hf⟩ := DataW.trod_struct hu h
  rw [cC] at hlen
  rw [hsz] at hxl
  have h0 := hf 0 f0 e0; have h1 := hf 1 f1 e1; have h2 := hf 2 f2 e2; have h3 := hf 3 f3 e3
  rw [t0, o0, cS] at h0; rw [t1, o1, cS] at h1; rw [t2, o2, cI] at h2; rw [t3, o3, cI] at h3
  match cs, hlen, xs, hxl, hx, h0, h1, h2, h3 with
  | [c0, c1, c2, c3], _, [x0, x1, x2, x3], _, hx, h0, h1, h2, h3 =>
    simp only [List.drop_succ_cons, List.drop_zero, List.take_succ_cons, List.take_zero, List.getElem?_cons_zero, List.getElem?_cons_succ] at h0 h1 h2 h3
    obtain ⟨s0, a0, b0, _⟩ := DataW.trod_string hs h0
    obtain ⟨s1, a1, b1, _⟩ := DataW.trod_string hs h1
    obtain ⟨z2, a2, b2, _⟩ := DataW.trod_int hi h2
    obtain ⟨z3, a3, b3, _⟩ := DataW.trod_int hi h3
    simp only [Prod.mk.injEq, curData, DataW.agg.injEq, List.map_cons, List.map_nil, List.cons.injEq, b0, b1, b2, b3, DataW.lit.injEq, Lit.string.injEq, Lit.int.injEq, true_and, and_true] at hx
    simp only [List.cons.injEq, and_true] at a0 a1 a2 a3
    obtain ⟨⟨q0, q1, q2, q3⟩, _⟩ := hx
    rw [a0, a1, a2, a3, ← bytes_eq q0, ← bytes_eq q1, ← q2, ← q3]
    rfl
theorem flat_of_rows : ∀ (l : List CurRow) (cs : List Value), cs.length = l.length * 4 → (∀ i (hi : i < l.length), (cs.drop (i * 4)).take 4 = curCells (l[i]'hi)) → cs = l.flatMap curCells
  | [], cs, h, _ => by simpa using h
  | r :: l, cs, h, hr => by
    have h0 := hr 0 (by simp)
    simp only [Nat.zero_mul, List.drop_zero, List.getElem_cons_zero] at h0
    rw [List.flatMap_cons, ← h0, ← flat_of_rows l (cs.drop 4) (by simp at h ⊢; omega) (fun i hi => by
      have := hr (i + 1) (by simpa using hi)
      rw [List.drop_drop, show 4 + i * 4 = (i + 1) * 4 by omega]
      simpa using this), List.take_append_drop]
def curVar : String := "loop.example/g00793/impl.currencies"
set_option maxRecDepth 100000 in
theorem tab_of_head {W : World} {rest : List (String × DataW Unit)} (h : laidMet P ((curVar, Rows.laid_loop_example_g00793_impl_currencies) :: rest) W) : Tab W := by
  obtain ⟨ps, ⟨g, t, cs, fuel, p, q, hg, ht, hvar, hd, _, _⟩, _⟩ := h
  have hg0 : P.globalNamed curVar = some 0 := by kernel_rfl
  have ht0 : (P.globals[0]?).map (·.type) = some T_20_impl_currency := by kernel_rfl
  obtain rfl := Option.some.inj (hg0.symm.trans hg)
  obtain rfl := Option.some.inj (ht0.symm.trans ht)
  have hu : P.underlying T_20_impl_currency = some (.array 20 T_impl_currency) := und_T_20_impl_currency
  have cC : P.cellsOf T_impl_currency = 4 := by kernel_rfl
  have cA : P.cellsOf T_20_impl_currency = 80 := by kernel_rfl
  obtain ⟨xs, m, rfl, hx, hlen, hxl, hf⟩ := DataW.trod_array hu hd
  rw [cA] at hlen
  have hdat : (Rows.laid_loop_example_g00793_impl_currencies : DataW Unit) = .agg (implTab.map curData) := by rfl
  rw [hdat] at hx
  simp only [Prod.mk.injEq, DataW.agg.injEq] at hx
  have hl := impl_length
  have hcs : cs.toList = implTab.flatMap curCells := by
    refine flat_of_rows implTab _ (by omega) fun i hi => ?_
    have h1 := hf i (by omega)
    rw [cC] at h1
    have h2 : (xs.map (·.1))[i]? = some (curData (implTab[i]'hi)) := by rw [← hx.1]; simp [hi]
    rw [List.getElem?_map] at h2
    cases h3 : xs[i]? with
    | none => rw [h3] at h2; cases h2
    | some x =>
      rw [h3] at h1 h2
      simp only [Option.map_some, Option.some.injEq] at h2
      obtain ⟨d, pp⟩ := x
      simp only at h2
      subst h2
      exact cur_cells h1
  intro i v hv
  have := World.var?_cell hg0 hvar i
  rw [Nat.zero_add, this, ← hv, ← hcs]
  simp
theorem trodVars_one {H : Type} {enc : TypeId × Value → H} {w : World} {sp : Nat → Bool} {n : String} {gs : List (DataW H)} {ps : List MemPlace} (h : DataW.TrodVars enc P w sp [n] gs ps) : ∃ g, gs = [g] := by
  match gs, h with
  | [g], _ => exact ⟨g, rfl⟩
  | g :: g2 :: r, h =>
    obtain ⟨_, _, _, _, _, _, _, _, _, _, h2, _⟩ := h
    exact h2.elim
end Go.Proofs.YtpaekkcgphljoaaDoor

namespace Go.Proofs.YtpaekkcgphljoaaDoor
open Go Go.Proofs.YtpaekkcgphljoaaDoor.Sx
set_option linter.unusedVariables false
set_option linter.unusedSimpArgs false
theorem laidMet_tail {W : World} {x : String × DataW Unit} {rest : List (String × DataW Unit)} (h : laidMet P (x :: rest) W) : laidMet P rest W := by
  obtain ⟨ps, hv, hn, hr⟩ := h
  obtain ⟨n, d⟩ := x
  obtain ⟨g, t, cs, fuel, p, q, _, _, _, _, hrest, rfl⟩ := hv
  exact ⟨q, hrest, (List.nodup_append.1 hn).2.1, fun b off hm => hr b off (List.mem_append_right _ hm)⟩
theorem pow_data : (Rows.laid_internal_strconv_uint64pow10 : DataW Unit) = Lib.tabData .u64 Lib.pow10Tab := by kernel_rfl
set_option maxRecDepth 100000 in
theorem tabP_of_head {W : World} {rest : List (String × DataW Unit)} (h : laidMet P (("internal/strconv.uint64pow10", Rows.laid_internal_strconv_uint64pow10) :: rest) W) : TabP W := by
  rw [pow_data] at h
  exact Lib.tabIs_of_head (g := G_pow) (t := TA_pow) (e := TE_pow) (n := 20) (by kernel_rfl) (by kernel_rfl) und_A_pow und_E_pow (by kernel_rfl) (by kernel_rfl) h
theorem tabs_of_laid {W : World} (h : laidMetH P [("math/bits.deBruijn32tab", Rows.laid_math_bits_deBruijn32tab), ("math/bits.deBruijn64tab", Rows.laid_math_bits_deBruijn64tab), ("internal/strconv.uint64pow10", Rows.laid_internal_strconv_uint64pow10), (curVar, Rows.laid_loop_example_g00793_impl_currencies)] W) : Tab W ∧ TabP W := by
  have h : laidMet P [("math/bits.deBruijn32tab", Rows.laid_math_bits_deBruijn32tab), ("math/bits.deBruijn64tab", Rows.laid_math_bits_deBruijn64tab), ("internal/strconv.uint64pow10", Rows.laid_internal_strconv_uint64pow10), (curVar, Rows.laid_loop_example_g00793_impl_currencies)] W := h
  have h2 := laidMet_tail (laidMet_tail h)
  exact ⟨tab_of_head (laidMet_tail h2), tabP_of_head h2⟩
/-- the cells of a variable that holds a list -/
def layAt (cs : List Value) : Obj → Obj
  | .cells _ t frozen => .cells ⟨cs⟩ t frozen
  | o => o
/-- a world for the witness: the settled one, the tables laid in their variables -/
noncomputable def laidWorldX (os : Os) (args : Array Value) : World :=
  { World.holding P os ⟨#[], args, []⟩ with heap := (((((World.holding P os ⟨#[], args, []⟩).heap.modify G_cur (layAt (implTab.flatMap curCells))).modify G_pow (layAt (L_pow.map (Value.int .u64)))).modify G_d32 (layAt (L_d32.map (Value.int .u8)))).modify G_d64 (layAt (L_d64.map (Value.int .u8)))) }
end Go.Proofs.YtpaekkcgphljoaaDoor
