/-
  Parts of the proof of fnSettle_holds: SxIns, CInsert, COrd, Tab, CCurr, CWord, CLegsOk, CIntAdd, CCmp, CDebtsOk, CSpecInt, CBookSum, CUndo, CMoneySum, CCopy, CSums, CLegSums, CPosI, CPositions, CPushF, CSettleL, CSettleP, CDraw, CNatOf, CMake, CSettleI, CMul, CDec, CSettle, CRowX, CDebtsD, CFlat, LY, CSpecDec, CPercentL.
  Conditions: none.
-/
import Derived.Laws.CopyRow
import Derived.Laws.Externs
import Derived.Lib.AppendZerosOnto
import Derived.Lib.Overlaps
import Derived.Shelf.Strings.Repeat
import Derived.Shelf.Strings.BuilderX
import Derived.Shelf.Strconv.Itoa3
import Derived.Lib.SmallJoins
import Derived.Test.YtbgokfhcgcoipaaDoorFs2
set_option linter.unusedVariables false
set_option linter.unusedSimpArgs false
namespace Go.RowKit
end Go.RowKit
namespace Go.Shelf
end Go.Shelf

namespace Go.Proofs.YtbgokfhcgcoipaaDoor.Sx
open Go Go.RowKit
theorem copies_row {P : Program} {w : World} {dT sT e t : TypeId} {size g o dLen dCap sLen sCap : Nat} {a : Addr} {cur cs : List Value} (hu : P.underlying dT = some (.slice e)) (hs : (P.info? e).map (·.size) = some size)
    (hg : Blk w g t cur) (hn : cs.length = Nat.min sLen dLen * size) (hsrc : ∀ j v, cs[j]? = some v -> w.cell? (a.add j) = some v) (hfit : o + cs.length <= cur.length) (h1 : ∀ v ∈ cs, v.oneCell' = true) :
    ∃ w', Copies P [dT, sT] [.slice (some ⟨g, o, none⟩) dLen dCap, .slice (some a) sLen sCap] (.int .i64 ((Nat.min sLen dLen : Nat) : Int)) w w' /\ Blk w' g t (cur.take o ++ cs ++ cur.drop (o + cs.length)) /\ Chg [g] w w' /\ w'.heap.size = w.heap.size := by
  have hl := run_loadCells_list (P := P) w a cs hsrc
  have hst := run_storeCells_at P g o t cs 0 ⟨cur⟩ w hg (by simpa using hfit) h1
  refine ⟨_, ?_, setRow_heap w g ⟨cur⟩ _ t _ hg, setRow_chg _ _ _, by simp⟩
  unfold Copies
  cases hq : P.info? e with
  | none => simp [hq] at hs
  | some i =>
    have hi : i.size = size := by simpa [hq] using hs
    rw [hn] at hl
    simp only [Builtin.copy_, run_underlying hu, Builtin.lenOf, Builtin.firstCells, sizeOf, typeInfo, hq, hi, hl, hst, Sem.run_bind, Sem.run_pure, Result.andThen_ok, goInt]
    simp [typeInfo, hq, hi, hl, hst, run_underlying hu]
theorem Own.take {w : World} {B : Nat} {e : TypeId} {size : Nat} {p : Option Addr} {n c : Nat} {xs : List Value} (h : Own w B e size p n c xs) {i : Nat} (hi : i <= n) : Own w B e size p i c (xs.take (i * size)) := by
  have hl := h.len
  have him : i * size <= n * size := Nat.mul_le_mul_right _ hi
  refine ⟨by simp; omega, ?_⟩
  rcases h.2 with ⟨h1, h2⟩ | ⟨g, cap, cur, h1, hb, hg, h3, h4, h5, h6⟩
  · simp only [Value.slice.injEq] at h1
    obtain ⟨rfl, rfl, rfl⟩ := h1
    have : i = 0 := by omega
    subst this
    exact .inl ⟨rfl, rfl⟩
  · simp only [Value.slice.injEq] at h1
    obtain ⟨rfl, _, rfl⟩ := h1
    refine .inr ⟨g, c, cur, rfl, hb, hg, by omega, h4, h5, ?_⟩
    rw [<- h6, List.take_take, Nat.min_eq_left him]
theorem Own.pushN {P : Program} {w : World} {B : Nat} {t e : TypeId} {z : Value} {size bytes : Nat} {p : Option Addr} {n c m mc : Nat} {a : Addr} {xs news : List Value} (h : Own w B e size p n c xs)
    (hT : sliceT P t e z size bytes) (hb : B <= w.heap.size) (hcells : ∀ j u, news[j]? = some u -> w.cell? (a.add j) = some u) (hl : news.length = m * size) (h1 : ∀ u ∈ news, u.oneCell' = true)
    (hbytes : (n + m) * bytes <= 140737488355328) (hby : 1 <= bytes) (hm0 : 0 < m) :
    ∃ p' c' w', Appends P [t, t] [.slice p n c, .slice (some a) m mc] (.slice p' (n + m) c') w w' /\ Own w' B e size p' (n + m) c' (xs ++ news) /\ Chg (p.map (·.block)).toList w w' /\
      ((p'.map (·.block) = p.map (·.block) /\ n + m <= c) ∨ ((∀ q, p'.map (·.block) = some q -> w.heap.size <= q) /\ (p = none ∨ c < n + m))) := by
  obtain ⟨hu, hi, hz, hs⟩ := hT
  cases hinf : P.info? e with
  | none => rw [hinf] at hi; cases hi
  | some i =>
    rw [hinf] at hi
    simp only [Option.map_some, Option.some.injEq, Prod.mk.injEq] at hi
    have hnm : n + m <= maxLen := by
      have : n + m <= (n + m) * bytes := Nat.le_mul_of_pos_right _ hby
      simp only [maxLen]; omega
    obtain ⟨v', w', hrun, hown, hgr, _⟩ := run_append_own (P := P) w B t 0 e i z size bytes hu hinf hi.1 hi.2.1 hi.2.2 hz hs (.slice p n c) n xs h a m mc news hl hcells h1 hnm hbytes hb
    have hv : ∃ p' c', v' = .slice p' (n + m) c' := by
      rcases hown.2 with ⟨e1, e2⟩ | ⟨g, cap, cur, e1, _⟩
      · omega
      · exact ⟨_, _, e1⟩
    obtain ⟨p', c', rfl⟩ := hv
    have hob : (Value.slice p n c).ownBlock = p.map (·.block) := by cases p <;> rfl
    refine ⟨p', c', w', hrun, hown, ⟨hgr.os, hgr.tape, hgr.output, hgr.size, fun k hk hn => hgr.block k hk ?_⟩, ?_⟩
    · rw [hob]; intro e; rw [<- e] at hn; simp at hn
    have hrun : (Builtin.append_ #[t, t] 0 #[.slice p n c, .slice (some a) m mc]).run P w = .ok (.slice p' (n + m) c') w' := hrun
    rcases h.2 with ⟨e1, e2⟩ | ⟨g, cap, cur, e1, hB, hg, h3, h4, h5, h6⟩
    · simp only [Value.slice.injEq] at e1
      obtain ⟨rfl, rfl, rfl⟩ := e1
      have h0 := run_append_nil (P := P) w t 0 e i z hu hinf hi.1 a m mc news (by rw [hl, hi.2.1]) hcells (by omega) (by simp only [maxLen] at hnm; omega) (by rw [hi.2.2]; rw [Nat.zero_add] at hbytes; omega)
      rw [h0] at hrun
      injection hrun with hv _
      simp only [Value.slice.injEq] at hv
      exact .inr ⟨fun q hq => by rw [<- hv.1] at hq; simp at hq; omega, .inl rfl⟩
    · simp only [Value.slice.injEq] at e1
      obtain ⟨rfl, _, rfl⟩ := e1
      by_cases hroom : n + m <= c
      · have hsz : n * i.size + news.length <= cur.size := by
          have : (n + m) * size <= c * size := Nat.mul_le_mul_right _ hroom
          rw [hi.2.1, hl, h5, Nat.add_mul] at *
          omega
        have h0 := run_append_room (P := P) w t 0 e i hu hinf g n c cur hg a m mc news (by rw [hl, hi.2.1]) hcells h1 hroom hsz
        rw [h0] at hrun
        injection hrun with hv _
        simp only [Value.slice.injEq] at hv
        exact .inl ⟨by rw [<- hv.1], hroom⟩
      · have holds : ∀ j v, xs[j]? = some v -> w.cell? ((⟨g, 0, none⟩ : Addr).add j) = some v := World.ownsRow.cells h rfl
        have hfit : Builtin.nextslicecap (n + m) c * i.bytes <= 281474976710656 := by
          rw [hi.2.2]; exact growslice_fits (by omega) hbytes
        have h0 := run_append_grow (P := P) w t 0 e i z hu hinf hi.1 ⟨g, 0, none⟩ n c xs (by rw [h.len, hi.2.1]) holds a m mc news (by rw [hl, hi.2.1]) hcells (by omega) (by simp only [maxLen] at hnm; omega) hfit
        rw [h0] at hrun
        injection hrun with hv _
        simp only [Value.slice.injEq] at hv
        exact .inr ⟨fun q hq => by rw [<- hv.1] at hq; simp at hq; omega, .inr (by omega)⟩
theorem Own.growZeros {P : Program} {w : World} {B : Nat} {t tn e : TypeId} {z : Value} {size bytes g i c k : Nat} {xs : List Value} (h : Own w B e size (some ⟨g, 0, none⟩) i c xs)
    (hT : sliceT P t e z size bytes) (htn : P.underlying tn = some (.int .i64)) (hk : 0 < k) (hg : c < i + k) (hbytes : (i + k) * bytes <= 140737488355328) (hby : 1 <= bytes) :
    ∃ r c' w' ys, Appends P [t, tn] [.slice (some ⟨g, 0, none⟩) i c, .int .i64 ((k : Nat) : Int)] (.slice (some ⟨r, 0, none⟩) (i + k) c') w w' /\ Blk w' r e ys /\ ys.length = c' * size /\ i + k <= c' /\ c' <= maxLen /\ ys.take (i * size) = xs /\ w.heap.size <= r /\ Ext w w' := by
  obtain ⟨hu, hi, hz, hs⟩ := hT
  cases hinf : P.info? e with
  | none => rw [hinf] at hi; cases hi
  | some inf =>
    rw [hinf] at hi
    simp only [Option.map_some, Option.some.injEq, Prod.mk.injEq] at hi
    have hnm : i + k <= maxLen := by
      have : i + k <= (i + k) * bytes := Nat.le_mul_of_pos_right _ hby
      simp only [maxLen]; omega
    have hcells : ∀ j u, xs[j]? = some u -> w.drew.cell? ((⟨g, 0, none⟩ : Addr).add j) = some u := World.ownsRow.cells h rfl
    have hold : (Builtin.firstCells inf.size i (.slice (some ⟨g, 0, none⟩) i c)).run P w.drew = .ok xs.toArray w.drew := by
      rw [hi.2.1]
      exact run_firstCells_some w.drew size i ⟨g, 0, none⟩ i c xs h.len hcells
    have hkb : k * inf.bytes <= 281474976710656 := by
      rw [hi.2.2]
      have : k * bytes <= (i + k) * bytes := Nat.mul_le_mul_right _ (by omega)
      omega
    have hr := Lib.run_append_grow_zeros (P := P) w t tn 0 e inf z .i64 .i64 hu htn hinf hi.1 (some ⟨g, 0, none⟩) i c xs hold k hk (by rw [hi.2.1]; exact hs) hg (by simp only [maxLen] at hnm; omega) hkb (by rw [hi.2.2]; exact growslice_fits hg hbytes)
    have hge := grownCap_ge w (i + k) c e
    have hcm : grownCap w (i + k) c e <= maxLen := grownCap_le_maxLen w (i + k) c e hnm
    have hb : Blk (w.drew.alloc (.cells (xs.toArray ++ Builtin.zeroCells z.cells k ++ Builtin.zeroCells z.cells (grownCap w (i + k) c e - (i + k))) e)) w.heap.size e (xs ++ (Builtin.zeroCells z.cells k).toList ++ (Builtin.zeroCells z.cells (grownCap w (i + k) c e - (i + k))).toList) := by
      have := heap_alloc_new w.drew (.cells (xs.toArray ++ Builtin.zeroCells z.cells k ++ Builtin.zeroCells z.cells (grownCap w (i + k) c e - (i + k))) e)
      refine Eq.trans this ?_
      congr 2
      apply Array.ext'
      simp
    refine ⟨_, _, _, _, hr, hb, ?_, hge, hcm, ?_, Nat.le_refl _, ((Below.refl _ _).drew).alloc (Nat.le_refl _) _⟩
    · simp only [List.length_append, Array.length_toList, size_zeroCells, hz, h.len, <- Nat.add_mul]
      congr 1
      omega
    · rw [List.append_assoc, <- h.len, List.take_left]
theorem externs_apart {P : Program} {f : Nat} {fn : Func} {tS tR e tA tB : TypeId} {size a la ca lb cb b off : Nat} {xs ys : List Value} {w : World} (hf : P.funcs[f]? = some fn) (hname : (fn.name == "runtime.NumGoroutine") = false)
    (hb : fn.body.isNone = true) (hn : Extern.findNext fn = none) (he : Extern.find fn = some (Extern.SlicesOverlaps.overlaps #[tS, tS] #[tR])) (ht : P.underlying tS = some (.slice e)) (hz : ∀ w, (Go.sizeOf e).run P w = .ok size w)
    (hA : Blk w a tA xs) (hB : Blk w b tB ys) (hne : a ≠ b) (hy : ys.length ≠ 0) :
    Externs P f [.slice (some ⟨a, 0, none⟩) la ca, .slice (some ⟨b, off, none⟩) lb cb] (.bool false) w w := by
  have hA' : w.heap[a]? = some (.cells ⟨xs⟩ tA (0, 0)) := hA
  have hB' : w.heap[b]? = some (.cells ⟨ys⟩ tB (0, 0)) := hB
  unfold Externs
  rw [run_callFunc_extern hf hname hb hn he]
  rw [Lib.run_overlaps_apart w tS tR e ht size hz ⟨a, 0, none⟩ ⟨b, off, none⟩ la ca lb cb hne tA tB xs.length ys.length (by simp [World.shape?, hA']) (by simp [World.shape?, hB']) hy (by simp [World.frozen?, hA']) (by simp [World.frozen?, hA'])]
  rfl
theorem AllO.ins {w : World} {B k : Nat} {cs : List Value} {x : List D0} {f : List Nat} (hk : cs.length = k) (ho : Owns w B cs x f) : ∀ {css : List (List Value)} {l : List (List D0)} {fs : List (List Nat)} (i : Nat), i <= l.length -> AllO w B k css l fs -> AllO w B k (css.take i ++ cs :: css.drop i) (l.take i ++ x :: l.drop i) (fs.take i ++ f :: fs.drop i)
  | css, l, fs, 0, _, h => by
    simp only [List.take_zero, List.drop_zero, List.nil_append]
    exact ⟨hk, ho, h⟩
  | _ :: _, _ :: _, _ :: _, i + 1, hi, h => ⟨h.1, h.2.1, AllO.ins hk ho i (by simpa using hi) h.2.2⟩
  | [], [], [], i + 1, hi, _ => by simp at hi
  | [], [], _ :: _, _, _, h => h.elim
  | [], _ :: _, _, _, _, h => h.elim
  | _ :: _, [], _, _, _, h => h.elim
  | _ :: _, _ :: _, [], _, _, h => h.elim
theorem AllO.put {w : World} {B k : Nat} {cs : List Value} {x : List D0} {f : List Nat} (hk : cs.length = k) (ho : Owns w B cs x f) : ∀ {css : List (List Value)} {l : List (List D0)} {fs : List (List Nat)} (i : Nat), AllO w B k css l fs -> AllO w B k (css.set i cs) (l.set i x) (fs.set i f)
  | [], [], [], _, _ => trivial
  | _ :: _, _ :: _, _ :: _, 0, h => ⟨hk, ho, h.2.2⟩
  | _ :: _, _ :: _, _ :: _, i + 1, h => ⟨h.1, h.2.1, AllO.put hk ho i h.2.2⟩
  | [], [], _ :: _, _, h => h.elim
  | [], _ :: _, _, _, h => h.elim
  | _ :: _, [], _, _, h => h.elim
  | _ :: _, _ :: _, [], _, h => h.elim
theorem mem_ins {α : Type} {fs : List (List α)} {f : List α} {i : Nat} {y : α} (h : y ∈ (fs.take i ++ f :: fs.drop i).flatten) : y ∈ f ∨ y ∈ fs.flatten := by
  rw [List.flatten_append, List.flatten_cons, List.mem_append, List.mem_append] at h
  rcases h with h | h | h
  · obtain ⟨g, hg, hy⟩ := List.mem_flatten.1 h
    exact .inr (List.mem_flatten.2 ⟨g, List.mem_of_mem_take hg, hy⟩)
  · exact .inl h
  · obtain ⟨g, hg, hy⟩ := List.mem_flatten.1 h
    exact .inr (List.mem_flatten.2 ⟨g, List.mem_of_mem_drop hg, hy⟩)
theorem nodup_ins {α : Type} {fs : List (List α)} {f : List α} (h : fs.flatten.Nodup) (hf : f.Nodup) (hd : ∀ y ∈ f, y ∉ fs.flatten) (i : Nat) : (fs.take i ++ f :: fs.drop i).flatten.Nodup := by
  have e : fs.flatten = (fs.take i).flatten ++ (fs.drop i).flatten := by rw [<- List.flatten_append, List.take_append_drop]
  rw [e] at h hd
  rw [List.nodup_append] at h
  rw [List.flatten_append, List.flatten_cons, List.nodup_append]
  refine ⟨h.1, ?_, ?_⟩
  · rw [List.nodup_append]
    exact ⟨hf, h.2.1, fun a ha b hb e => hd a ha (by rw [e]; exact List.mem_append_right _ hb)⟩
  · intro a ha b hb e
    rcases List.mem_append.1 hb with hb | hb
    · exact hd b hb (by rw [<- e]; exact List.mem_append_left _ ha)
    · exact h.2.2 a ha b hb e
theorem mem_put {α : Type} {fs : List (List α)} {f : List α} {i : Nat} {y : α} (h : y ∈ (fs.set i f).flatten) : y ∈ f ∨ y ∈ fs.flatten := by
  obtain ⟨g, hg, hy⟩ := List.mem_flatten.1 h
  rcases List.mem_or_eq_of_mem_set hg with h1 | h1
  · exact .inr (List.mem_flatten.2 ⟨g, h1, hy⟩)
  · rw [h1] at hy; exact .inl hy
theorem nodup_put {α : Type} {fs : List (List α)} {f : List α} (h : fs.flatten.Nodup) (hf : f.Nodup) (hd : ∀ y ∈ f, y ∉ fs.flatten) (i : Nat) : (fs.set i f).flatten.Nodup := by
  induction fs generalizing i with
  | nil => simp
  | cons g fs ih =>
    rw [List.flatten_cons, List.nodup_append] at h
    cases i with
    | zero =>
      rw [List.set_cons_zero, List.flatten_cons, List.nodup_append]
      exact ⟨hf, h.2.1, fun a ha b hb e => hd a ha (by rw [e, List.flatten_cons]; exact List.mem_append_right _ hb)⟩
    | succ i =>
      rw [List.set_cons_succ, List.flatten_cons, List.nodup_append]
      refine ⟨h.1, ih h.2.1 (fun y hy hm => hd y hy (by rw [List.flatten_cons]; exact List.mem_append_right _ hm)) i, fun a ha b hb e => ?_⟩
      rcases mem_put hb with hb | hb
      · exact hd b hb (by rw [<- e, List.flatten_cons]; exact List.mem_append_left _ ha)
      · exact h.2.2 a ha b hb e
theorem flat_ins {α : Type} {k : Nat} : ∀ {css : List (List α)}, (∀ c ∈ css, c.length = k) -> ∀ (i : Nat) (cs : List α), i <= css.length -> (css.take i ++ cs :: css.drop i).flatten = css.flatten.take (i * k) ++ cs ++ css.flatten.drop (i * k)
  | css, h, 0, cs, _ => by simp
  | c :: css, h, i + 1, cs, hi => by
    have ih := flat_ins (css := css) (fun d hd => h d (List.mem_cons_of_mem _ hd)) i cs (by simpa using hi)
    have hc := h c List.mem_cons_self
    have e : (i + 1) * k = c.length + i * k := by rw [hc, Nat.succ_mul, Nat.add_comm]
    rw [List.take_succ_cons, List.drop_succ_cons, List.cons_append, List.flatten_cons, ih, List.flatten_cons, e, List.take_length_add_append, List.drop_length_add_append]
    simp
theorem OwnRows.ins {w : World} {B : Nat} {e : TypeId} {k : Nat} {p : Option Addr} {n c : Nat} {l : List (List D0)} {f : List Nat} (h : OwnRows w B e k p n c l f) {i : Nat} (hi : i <= n) :
    ∃ xs, Own w B e k p n c xs /\ (∀ v ∈ xs, v.oneCell' = true) /\ ∀ w' p' c' cs x fx, Own w' B e k p' (n + 1) c' (xs.take (i * k) ++ cs ++ xs.drop (i * k)) -> Chg (p.map (·.block)).toList w w' ->
      (p'.map (·.block) = p.map (·.block) ∨ ∀ q, p'.map (·.block) = some q -> w.heap.size <= q) -> cs.length = k -> Owns w' B cs x fx -> fx.Nodup -> (∀ q ∈ fx, q ∉ f) -> (∀ q ∈ fx, p'.map (·.block) ≠ some q) ->
      ∃ f', OwnRows w' B e k p' (n + 1) c' (l.take i ++ x :: l.drop i) f' /\ ∀ q ∈ f', q ∈ f ∨ q ∈ fx ∨ w.heap.size <= q := by
  obtain ⟨hl, css, fs, ha, ho, rfl, hnd⟩ := h
  obtain ⟨hlen, hcl, hfl⟩ := ha.lens
  refine ⟨css.flatten, ho, ha.cells1, ?_⟩
  intro w' p' c' cs x fx ho' hch hp hcs hox hnx hdis hpx
  have hnd1 := List.nodup_append.1 hnd
  have hpin : ∀ q ∈ fs.flatten, q ∉ (p.map (·.block)).toList := fun q hq hm => hnd1.2.2 q hm q hq rfl
  have ha' := AllO.ins hcs hox i (by omega) (ha.chg hch hpin)
  have hlt : ∀ q ∈ fs.flatten, q < w.heap.size := fun q hq => (ha.lt q hq).2
  refine ⟨(p'.map (·.block)).toList ++ (fs.take i ++ fx :: fs.drop i).flatten, ⟨by simp; omega, _, _, ha', by rw [flat_ins hlen i cs (by omega)]; exact ho', rfl, ?_⟩, ?_⟩
  · rw [List.nodup_append]
    refine ⟨by cases p' <;> simp, nodup_ins hnd1.2.1 hnx (fun y hy hm => hdis y hy (List.mem_append_right _ hm)) i, ?_⟩
    intro a ha b hb hab
    subst hab
    have hpa := opt_mem ha
    rcases mem_ins hb with hb | hb
    · exact hpx a hb hpa
    · rcases hp with hp | hp
      · rw [hp] at hpa
        exact hpin a hb (mem_opt hpa)
      · have := hp a hpa
        have := hlt a hb
        omega
  · intro q hq
    rcases List.mem_append.1 hq with hq | hq
    · have hpa := opt_mem hq
      rcases hp with hp | hp
      · rw [hp] at hpa
        exact .inl (List.mem_append_left _ (mem_opt hpa))
      · exact .inr (.inr (hp q hpa))
    · rcases mem_ins hq with hq | hq
      · exact .inr (.inl hq)
      · exact .inl (List.mem_append_right _ hq)
theorem OwnRows.put {w : World} {B : Nat} {e : TypeId} {k : Nat} {p : Option Addr} {n c : Nat} {l : List (List D0)} {f : List Nat} (h : OwnRows w B e k p n c l f) {i : Nat} {x : List D0} (hx : l[i]? = some x) :
    ∃ b xs cs zs, p = some ⟨b, 0, none⟩ /\ B <= b /\ b ∈ f /\ xs.length = i * k /\ cs.length = k /\ Blk w b e (xs ++ cs ++ zs) /\ Reps w cs x /\
      ∀ w' cs' x' f', Chg [b] w w' -> cs'.length = k -> Blk w' b e (xs ++ cs' ++ zs) -> Owns w' B cs' x' f' -> f'.Nodup -> (∀ y ∈ f', y ∉ f) -> ∃ f'', OwnRows w' B e k p n c (l.set i x') f'' /\ ∀ q ∈ f'', q ∈ f ∨ q ∈ f' := by
  obtain ⟨hl, css, fs, ha, ho, rfl, hnd⟩ := h
  have hi : i < l.length := (List.getElem?_eq_some_iff.1 hx).1
  obtain ⟨cs, fi, hcs, hfi, hk, how⟩ := ha.focus i x hx
  obtain ⟨hlen, hcl, hfl⟩ := ha.lens
  obtain ⟨b, ys, rfl, hb, hblk, hyl, hnc, hc, hy⟩ := ho.blk (by omega)
  have hsp := congrArg List.flatten (cons_at hcs)
  rw [List.flatten_append, List.flatten_cons] at hsp
  have hA : (css.take i).flatten.length = i * k := by
    rw [flat_len fun c hc => hlen c (List.mem_of_mem_take hc), List.length_take, Nat.min_eq_left (by omega)]
  have hys : ys = (css.take i).flatten ++ cs ++ ((css.drop (i + 1)).flatten ++ ys.drop (n * k)) := by
    conv => lhs; rw [<- List.take_append_drop (n * k) ys, hy, hsp]
    simp
  have hnd1 := List.nodup_append.1 hnd
  have hpin : ∀ q ∈ fs.flatten, q ∉ [b] := fun q hq hm => hnd1.2.2 q (by simpa using hm) q hq rfl
  rw [hys] at hblk
  refine ⟨b, _, cs, _, rfl, hb, by simp, hA, hk, hblk, how.reps, ?_⟩
  intro w' cs' x' f' hch hk' hblk' how' hnf hdis
  have ha' := AllO.put hk' how' i (ha.chg hch hpin)
  have hset : (css.set i cs').flatten = (css.take i).flatten ++ cs' ++ (css.drop (i + 1)).flatten := by
    rw [List.set_eq_take_append_cons_drop, if_pos (by omega), List.flatten_append, List.flatten_cons, List.append_assoc]
  refine ⟨[b] ++ (fs.set i f').flatten, ⟨by simpa using hl, _, _, ha', ?_, by simp, ?_⟩, ?_⟩
  · rw [hset]
    have hlen2 : ((css.take i).flatten ++ cs' ++ (css.drop (i + 1)).flatten).length = n * k := by
      rw [<- hset, flat_len (k := k) (fun c hc => by
        rcases List.mem_or_eq_of_mem_set hc with h1 | h1
        · exact hlen c h1
        · rw [h1]; exact hk')]
      rw [List.length_set, show css.length = n by omega]
    have hyl2 : ((css.take i).flatten ++ cs' ++ ((css.drop (i + 1)).flatten ++ ys.drop (n * k))).length = c * k := by
      rw [<- hyl]
      conv => rhs; rw [hys]
      simp only [List.length_append, hk, hk']
    have := Own.of_blk' (B := B) (n := n) hblk' hb hyl2 hnc hc
    rwa [<- List.append_assoc, List.take_left' hlen2] at this
  · rw [List.nodup_append]
    refine ⟨by simp, nodup_put hnd1.2.1 hnf (fun y hy hm => hdis y hy (List.mem_append_right _ hm)) i, ?_⟩
    intro a ha b' hb' hab
    subst hab
    rcases mem_put hb' with hb' | hb'
    · exact hdis a hb' (by simp at ha; subst ha; simp)
    · exact hpin a hb' ha
  · intro q hq
    rcases List.mem_append.1 hq with hq | hq
    · exact .inl (by simp at hq; subst hq; simp)
    · rcases mem_put hq with hq | hq
      · exact .inr hq
      · exact .inl (List.mem_append_right _ hq)
end Go.Proofs.YtbgokfhcgcoipaaDoor.Sx
namespace Go.Proofs.YtbgokfhcgcoipaaDoor
open Go Go.Proofs.YtbgokfhcgcoipaaDoor.Sx
theorem sub0g (p : Option Addr) (c k : Nat) : Sx.sub p 0 c k = p := by
  unfold Sx.sub
  split
  · rfl
  · cases p <;> simp [Addr.add]
theorem subS {b i c k : Nat} (h : i < c) : Sx.sub (some ⟨b, 0, none⟩) i c k = some ⟨b, i * k, none⟩ := by
  unfold Sx.sub
  rw [if_neg (by omega)]
  show some ((⟨b, 0, none⟩ : Addr).add (i * k)) = _
  rw [addr_add, Nat.zero_add]
theorem len_copy {α : Type} {cur cs : List α} {o : Nat} (h : o + cs.length <= cur.length) : (cur.take o ++ cs ++ cur.drop (o + cs.length)).length = cur.length := by
  simp only [List.length_append, List.length_take, List.length_drop]
  omega
theorem list_grow {α : Type} {ys A news D : List α} {a m : Nat} (hA : ys.take a = A) (ha : A.length = a) (hm : news.length = m) :
    (((ys.take a ++ news ++ ys.drop (a + m)).take (a + m) ++ D ++ (ys.take a ++ news ++ ys.drop (a + m)).drop (a + m + D.length)).take (a + m + D.length)) = A ++ news ++ D := by
  have h1 : (A ++ news).length = a + m := by simp [ha, hm]
  rw [hA, List.take_left' h1, List.take_left' (by simp [ha, hm]; omega)]
theorem list_shift {α : Type} {ys A news D : List α} {a m : Nat} (hA : ys.take a = A) (hy : a + m <= ys.length) (ha : A.length = a) (hm : news.length = m) :
    (((ys.take (a + m) ++ D ++ ys.drop (a + m + D.length)).take a ++ news ++ (ys.take (a + m) ++ D ++ ys.drop (a + m + D.length)).drop (a + m)).take (a + m + D.length)) = A ++ news ++ D := by
  have h1 : (ys.take (a + m)).length = a + m := by simp; omega
  have h2 : (ys.take (a + m) ++ D ++ ys.drop (a + m + D.length)).take a = A := by
    rw [List.append_assoc, List.take_append_of_le_length (by omega), List.take_take, Nat.min_eq_left (by omega), hA]
  have h3 : (ys.take (a + m) ++ D ++ ys.drop (a + m + D.length)).drop (a + m) = D ++ ys.drop (a + m + D.length) := by
    rw [List.append_assoc, List.drop_left' h1]
  rw [h2, h3, <- List.append_assoc, List.take_left' (by simp [ha, hm]; omega)]
theorem ins_sliceT_Pos : sliceT P T_s_impl_Pos T_impl_Pos (.agg ⟨[.string ByteArray.empty, .bool false, .slice none 0 0]⟩) 3 48 := ⟨by kernel_rfl, by kernel_rfl, rfl, by decide⟩
theorem ins_overlaps_Pos {a b off lb cb : Nat} {xs ys : List Value} {w : World} {tA tB : TypeId} (hA : Blk w a tA xs) (hB : Blk w b tB ys) (hne : a ≠ b) (hy : ys.length ≠ 0) :
    Externs P n_slices_overlaps_impl_Pos [.slice (some ⟨a, 0, none⟩) 1 1, .slice (some ⟨b, off, none⟩) lb cb] (.bool false) w w :=
  externs_apart Tryd.func108 (by kernel_rfl) (by kernel_rfl) (by kernel_rfl) (by kernel_rfl) (tR := T_bool) (show P.underlying T_s_impl_Pos = some (.slice T_impl_Pos) by kernel_rfl) (size := 3) (fun w => by
    have h := ins_sliceT_Pos.2.1
    cases hq : P.info? T_impl_Pos with
    | none => rw [hq] at h; cases h
    | some i =>
      rw [hq] at h
      simp only [Option.map_some, Option.some.injEq, Prod.mk.injEq] at h
      rw [sizeOf_run hq, h.2.1]) hA hB hne hy
theorem ins_Pos_c {w : World} {B : Nat} {p : Option Addr} {n c r i : Nat} {xs news : List Value} (h : Own w B T_impl_Pos 3 p n c xs) (h1 : ∀ v ∈ xs, v.oneCell' = true) (hr : Blk w r T_impl_Pos news) (hl : news.length = 3) (hn1 : ∀ v ∈ news, v.oneCell' = true)
    (hpr : p.map (·.block) ≠ some r) (hi : i <= n) (hB : B <= w.heap.size) (hbytes : (n + 1) * 48 <= 140737488355328) :
    Ret P n_slices_Insert_impl_Pos_impl_Pos [.slice p n c, .int .i64 ((i : Nat) : Int), .slice (some ⟨r, 0, none⟩) 1 1] w fun v w' => ∃ p' c', v = .slice p' (n + 1) c' /\ Own w' B T_impl_Pos 3 p' (n + 1) c' (xs.take (i * 3) ++ news ++ xs.drop (i * 3)) /\ Chg (p.map (·.block)).toList w w' /\
      (p'.map (·.block) = p.map (·.block) ∨ ∀ q, p'.map (·.block) = some q -> w.heap.size <= q) := by
  have hlen := h.len
  have hseg : ∀ W, Ext w W -> ∀ j u, news[j]? = some u -> W.cell? ((⟨r, 0, none⟩ : Addr).add j) = some u := fun W hW j u hj => by rw [addr_add, Nat.zero_add, (hr.ext hW).cell, hj]
  refine slices_Insert_impl_Pos_impl_Pos_ret ?_
  unfold slices_Insert_impl_Pos_impl_Pos
  simp only [Int.toNat_natCast, Nat.sub_zero, sub0g]
  refine ⟨⟨by omega, by omega⟩, ifD (fun hh => absurd hh (by decide)) (fun _ => ifD (fun he => ?_) (fun hne => exW ⟨by omega, by omega⟩ (ifD (fun hgr => ?_) (fun hroom => ?_))))⟩
  · have hin : i = n := by omega
    subst hin
    obtain ⟨p', c', w', hrun, hown, hch, hp⟩ := h.pushN (mc := 1) (m := 1) ins_sliceT_Pos hB (hseg w (Ext.refl w)) (by rw [hl]) hn1 hbytes (by decide) (by decide)
    refine ⟨p', i + 1, c', w', hrun, p', c', rfl, ?_, hch, ?_⟩
    · rw [List.take_of_length_le (by omega), List.drop_of_length_le (by omega), List.append_nil]
      exact hown
    · rcases hp with ⟨hp, _⟩ | ⟨hp, _⟩
      · exact .inl hp
      · exact .inr hp
  · have hin : i < n := by omega
    obtain ⟨b, ys, rfl, hb, hblk, hyl, hnc, hcm, hy⟩ := h.blk (by omega)
    have hcn : c = n := by omega
    subst hcn
    have hnr : r ≠ b := fun e => hpr (by rw [e]; rfl)
    have hbl := hblk.lt
    refine ⟨⟨by omega, by omega⟩, exW ⟨by omega, by omega⟩ (exW ⟨by omega, by omega⟩ ?_)⟩
    rw [show ((c : Nat) : Int) + ((1 : Nat) : Int) - ((i : Nat) : Int) = ((c + 1 - i : Nat) : Int) by omega]
    obtain ⟨r', c', w1, ys1, hA, hb1, hyl1, hle1, hcm1, htk, hr', hx1⟩ := (h.take (i := i) (by omega)).growZeros (tn := T_int) (k := c + 1 - i) ins_sliceT_Pos (by kernel_rfl) (by omega) (by omega) (by rw [show i + (c + 1 - i) = c + 1 by omega]; exact hbytes) (by decide)
    rw [show i + (c + 1 - i) = c + 1 by omega] at hA hle1
    have hAl : (xs.take (i * 3)).length = i * 3 := by simp; omega
    obtain ⟨w2, hC2, hb2, ch2, sz2⟩ := copies_row (P := P) (dT := T_s_impl_Pos) (sT := T_s_impl_Pos) (e := T_impl_Pos) (size := 3) (o := i * 3) (dLen := c + 1 - i) (dCap := c' - i) (sLen := 1) (sCap := 1) (cs := news) (by kernel_rfl) (by kernel_rfl) hb1 (by rw [hl, show Nat.min 1 (c + 1 - i) = 1 from Nat.min_eq_left (by omega)]) (hseg w1 hx1) (by omega) hn1
    have hblk2 := (hblk.ext hx1).chg ch2 (by simp; omega)
    have hdr := Ext.drew w2
    have hD : (xs.drop (i * 3)).length = (c - i) * 3 := by simp; omega
    have hsrc : ∀ j u, (xs.drop (i * 3))[j]? = some u -> w2.drew.cell? ((⟨b, i * 3, none⟩ : Addr).add j) = some u := fun j u hj => by
      rw [addr_add, (hblk2.ext hdr).cell]
      rw [List.getElem?_drop, <- hy, List.getElem?_take] at hj
      split at hj
      · exact hj
      · cases hj
    obtain ⟨w3, hC3, hb3, ch3, sz3⟩ := copies_row (P := P) (dT := T_s_impl_Pos) (sT := T_s_impl_Pos) (e := T_impl_Pos) (size := 3) (o := (i + 1) * 3) (dLen := c + 1 - (i + 1)) (dCap := c' - (i + 1)) (sLen := c - i) (sCap := c - i) (cs := xs.drop (i * 3)) (by kernel_rfl) (by kernel_rfl) (hb2.ext hdr) (by rw [hD, show Nat.min (c - i) (c + 1 - (i + 1)) = c - i from Nat.min_eq_left (by omega)]) hsrc (by simp; omega) (fun v hv => h1 v (List.mem_of_mem_drop hv))
    refine ⟨_, _, _, w1, hA, ⟨by omega, by omega⟩, ((Nat.min 1 (c + 1 - i) : Nat) : Int), w2, ?_, exW ⟨by omega, by omega⟩ ⟨⟨by omega, by omega⟩, ⟨by omega, by omega⟩, ((Nat.min (c - i) (c + 1 - (i + 1)) : Nat) : Int), w3, ?_, _, c', rfl, ?_, ?_, .inr fun q hq => by simp at hq; omega⟩⟩
    · rw [subS (by omega)]; exact hC2
    · rw [show (((i : Nat) : Int) + ((1 : Nat) : Int)).toNat = i + 1 by omega, subS (by omega), subS (by omega)]; exact hC3
    · have hL2 := len_copy (cur := ys1) (cs := news) (o := i * 3) (by omega)
      have hL3 := len_copy (cur := ys1.take (i * 3) ++ news ++ ys1.drop (i * 3 + news.length)) (cs := xs.drop (i * 3)) (o := (i + 1) * 3) (by omega)
      rw [hL2] at hL3
      rw [show (i + 1) * 3 = i * 3 + 3 by omega, hl] at hL3
      have hfin := list_grow (D := xs.drop (i * 3)) (m := 3) htk hAl hl
      have hyl3 := hb3
      rw [show (i + 1) * 3 = i * 3 + 3 by omega, hl] at hb3
      have := Own.of_blk' (B := B) (n := c + 1) (c := c') hb3 (by omega) (hL3.trans hyl1) hle1 hcm1
      rw [show (c + 1) * 3 = i * 3 + 3 + (xs.drop (i * 3)).length by omega, hfin] at this
      exact this
    · have h12 : Ext w w2 := hx1.chg ch2 (by simp; omega)
      exact ((h12.trans hdr).chg ch3 (by simp; omega)).toChg
  · have hin : i < n := by omega
    obtain ⟨b, ys, rfl, hb, hblk, hyl, hnc, hcm, hy⟩ := h.blk (by omega)
    have hnr : r ≠ b := fun e => hpr (by rw [e]; rfl)
    have hD : (xs.drop (i * 3)).length = (n - i) * 3 := by simp; omega
    have hAl : (xs.take (i * 3)).length = i * 3 := by simp; omega
    have hdr := Ext.drew w
    have hsrc : ∀ j u, (xs.drop (i * 3))[j]? = some u -> w.drew.cell? ((⟨b, i * 3, none⟩ : Addr).add j) = some u := fun j u hj => by
      rw [addr_add, (hblk.ext hdr).cell]
      rw [List.getElem?_drop, <- hy, List.getElem?_take] at hj
      split at hj
      · exact hj
      · cases hj
    obtain ⟨w2, hC2, hb2, ch2, sz2⟩ := copies_row (P := P) (dT := T_s_impl_Pos) (sT := T_s_impl_Pos) (e := T_impl_Pos) (size := 3) (o := (i + 1) * 3) (dLen := n + 1 - (i + 1)) (dCap := c - (i + 1)) (sLen := n + 1 - i) (sCap := c - i) (cs := xs.drop (i * 3)) (by kernel_rfl) (by kernel_rfl) (hblk.ext hdr) (by rw [hD, show Nat.min (n + 1 - i) (n + 1 - (i + 1)) = n - i from (Nat.min_eq_right (by omega)).trans (by omega)]) hsrc (by omega) (fun v hv => h1 v (List.mem_of_mem_drop hv))
    have hseg2 : ∀ j u, news[j]? = some u -> w2.cell? ((⟨r, 0, none⟩ : Addr).add j) = some u := fun j u hj => by rw [addr_add, Nat.zero_add, ((hr.ext hdr).chg ch2 (by simpa using hnr)).cell, hj]
    obtain ⟨w3, hC3, hb3, ch3, sz3⟩ := copies_row (P := P) (dT := T_s_impl_Pos) (sT := T_s_impl_Pos) (e := T_impl_Pos) (size := 3) (o := i * 3) (dLen := n + 1 - i) (dCap := c - i) (sLen := 1) (sCap := 1) (cs := news) (by kernel_rfl) (by kernel_rfl) hb2 (by rw [hl, show Nat.min 1 (n + 1 - i) = 1 from Nat.min_eq_left (by omega)]) hseg2 (by simp; omega) hn1
    refine exW ⟨by omega, by omega⟩ ?_
    rw [show (((n : Nat) : Int) + ((1 : Nat) : Int)).toNat = n + 1 by omega]
    refine ⟨⟨by omega, by omega⟩, exW ⟨by omega, by omega⟩ ⟨⟨by omega, by omega⟩, false, w, ?_, ifN (fun _ => exW ⟨by omega, by omega⟩ ⟨⟨by omega, by omega⟩, ⟨by omega, by omega⟩, ((Nat.min (n + 1 - i) (n + 1 - (i + 1)) : Nat) : Int), w2, ?_, ⟨by omega, by omega⟩, ((Nat.min 1 (n + 1 - i) : Nat) : Int), w3, ?_, _, c, rfl, ?_, ?_, .inl rfl⟩) (fun hh => absurd hh (by simp))⟩⟩
    · rw [show (((i : Nat) : Int) + ((1 : Nat) : Int)).toNat = i + 1 by omega, subS (by omega)]
      exact ins_overlaps_Pos hr hblk hnr (by omega)
    · rw [show (((i : Nat) : Int) + ((1 : Nat) : Int)).toNat = i + 1 by omega, subS (by omega), subS (by omega)]; exact hC2
    · rw [subS (by omega)]; exact hC3
    · have hA : ys.take (i * 3) = xs.take (i * 3) := by rw [<- hy, List.take_take, Nat.min_eq_left (by omega)]
      have hL2 := len_copy (cur := ys) (cs := xs.drop (i * 3)) (o := (i + 1) * 3) (by omega)
      have hL3 := len_copy (cur := ys.take ((i + 1) * 3) ++ xs.drop (i * 3) ++ ys.drop ((i + 1) * 3 + (xs.drop (i * 3)).length)) (cs := news) (o := i * 3) (by omega)
      rw [hL2] at hL3
      rw [show (i + 1) * 3 = i * 3 + 3 by omega, hl] at hL3
      have hfin := list_shift (D := xs.drop (i * 3)) (m := 3) hA (by omega) hAl hl
      rw [show (i + 1) * 3 = i * 3 + 3 by omega, hl] at hb3
      have := Own.of_blk' (B := B) (n := n + 1) (c := c) hb3 hb (hL3.trans hyl) (by omega) hcm
      rw [show (n + 1) * 3 = i * 3 + 3 + (xs.drop (i * 3)).length by omega, hfin] at this
      exact this
    · exact (hdr.toChg.trans ch2).trans ch3
end Go.Proofs.YtbgokfhcgcoipaaDoor
namespace Go.Proofs.YtbgokfhcgcoipaaDoor
open Go Go.Proofs.YtbgokfhcgcoipaaDoor.Sx
def cmpS (a b : ByteArray) : Int := if bLess a b then -1 else if a = b then 0 else 1
def rowKey (c : ByteArray) : List D0 -> Int
  | .str a :: _ => cmpS a c
  | _ => 0
theorem cmpS_neg {a b : ByteArray} : cmpS a b < 0 ↔ bLess a b = true := by
  unfold cmpS
  by_cases h : bLess a b = true
  · rw [if_pos h]; simp [h]
  · rw [if_neg h]
    by_cases e : a = b
    · rw [if_pos e]; simp [h]
    · rw [if_neg e]; simp [h]
theorem cmpS_zero {a b : ByteArray} (h : bLess a b = false) : cmpS a b = 0 ↔ a = b := by
  unfold cmpS
  rw [if_neg (by simp [h])]
  by_cases e : a = b
  · rw [if_pos e]; simp [e]
  · rw [if_neg e]; simp [e]
theorem own_zero (W : World) (B : Nat) (key : ByteArray) : Owns W B [.string key, .bool false, .slice none 0 0] (.str key :: enc 0) [] := by
  have : enc 0 = [.bool false, .ints []] := by simp [enc, digs_zero]
  rw [this]
  exact Owns.append (Owns.str _ _ _) (Owns.append (Owns.bool _ _ false) (Owns.ints (zs := []) (Own.nil W B T_int 1)))
theorem wrapU {n : Int} (h0 : 0 <= n) (h1 : n < 18446744073709551616) : IntKind.wrap .u64 n = n := by
  have : (IntKind.wrap .u64 n) = n % 18446744073709551616 := rfl
  rw [this]; exact Int.emod_eq_of_lt h0 h1
theorem half {n : Int} (h0 : 0 <= n) : Int.fdiv n (2 ^ (min (1 : Int).toNat (IntKind.bits .u64))) = n / 2 := by
  have : ((2 : Int) ^ (min (1 : Int).toNat (IntKind.bits .u64))) = 2 := rfl
  rw [this, Int.fdiv_eq_ediv_of_nonneg _ (by decide)]
theorem sumsRows_at {s : List (ByteArray × Int)} {j : Nat} {x : List D0} (h : (sumsRows s)[j]? = some x) : ∃ y, s[j]? = some y /\ x = .str y.1 :: enc y.2 := by
  unfold sumsRows at h
  rw [List.getElem?_map] at h
  cases hy : s[j]? with
  | none => rw [hy] at h; cases h
  | some y => rw [hy] at h; simp at h; exact ⟨y, rfl, h.symm⟩
theorem found_eq (s : List (ByteArray × Int)) (c : ByteArray) : (match (sumsRows s)[posOf s c]? with | some x => decide (rowKey c x = 0) | none => false) = hasAt s c := by
  unfold hasAt sumsRows
  rw [List.getElem?_map]
  cases hy : s[posOf s c]? with
  | none => rfl
  | some y =>
    have h0 := posOf_at s c y hy
    show decide (cmpS y.1 c = 0) = decide (y.1 = c)
    rw [decide_eq_decide]
    exact cmpS_zero h0
theorem bs_Pos_c {w : World} {p : Option Addr} {n c : Nat} {l : List (List D0)} {xs : List Value} {dt : List D0} (h : RowsR w 3 p n c l) (hc : ∀ x ∈ l, x.map D0.code = [.str, .bool, .ints]) (g : Reps w xs dt) (gc : dt.map D0.code = [.str, .bool, .ints]) (f : Value) (q : List D0 -> Int)
    (hf : ∀ cs x w', Ext w w' -> x ∈ l -> Reps w' cs x -> Reps w' xs dt -> CallW P f [.agg ⟨cs⟩, .agg ⟨xs⟩] w' fun e w'' => e = .returned (.int .i64 (q x)) /\ Ext w' w'') (k : Nat) (hk : k <= n)
    (hlo : ∀ j x, l[j]? = some x -> j < k -> q x < 0) (hhi : ∀ j x, l[j]? = some x -> k <= j -> ¬ q x < 0) (hn : n <= 4611686018427387904) :
    Ret P n_slices_BinarySearchFunc_impl_Pos_impl_Pos_impl_Pos [.slice p n c, .agg ⟨xs⟩, f] w fun v w' => v = .tuple #[.int .i64 (k : Nat), .bool (match l[k]? with | some x => decide (q x = 0) | none => false)] /\ Ext w w' := by
  have hln := h.1
  have gr := g
  obtain ⟨t0, t1, tp, tn, tc, tz, rfl, rfl, _⟩ := open_Pos g gc
  refine slices_BinarySearchFunc_impl_Pos_impl_Pos_impl_Pos_ret ?_
  unfold slices_BinarySearchFunc_impl_Pos_impl_Pos_impl_Pos
  intro r w1 hn1
  have q0 := hn1.blk
  have row : ∀ j (hj : j < n), ∃ b off cs, p = some ⟨b, off, none⟩ /\ cs.length = 3 /\ Reps w cs (l[j]'(by omega)) /\ Seg w b (off + j * 3) cs := fun j hj => by
    obtain ⟨b, off, hp, hs⟩ := h.2.2.2 (by omega)
    obtain ⟨cs, h1, h2, h3⟩ := hs j _ (List.getElem?_eq_getElem (by omega))
    exact ⟨b, off, cs, hp, h1, h2, h3⟩
  refine ⟨fun i j wr => ∃ a b : Nat, i = a /\ j = b /\ a <= k /\ k <= b /\ b <= n /\ Ext w1 wr, fun i j _ => (j - i).toNat, ⟨0, n, rfl, rfl, Nat.zero_le _, hk, Nat.le_refl _, Ext.refl _⟩, ?_⟩
  intro junk wr i j ⟨a, b, hia, hjb, ha, hb, hbn, hx⟩
  subst hia
  subst hjb
  have hd := hx.trans (Ext.drew wr)
  have X := hn1.ext.trans hd
  refine ifD (fun hlt => ?_) (fun hge => ?_)
  · have hm : (a + b) / 2 < n := by omega
    obtain ⟨pb, po, cs, hp, hcs, hr, hsg⟩ := row ((a + b) / 2) hm
    subst hp
    have hml : (a + b) / 2 < l.length := by omega
    have hmem : l[(a + b) / 2] ∈ l := List.getElem_mem hml
    have hr2 := hr
    obtain ⟨c0, c1, cp, cn, cc, cz, rfl, hdd, _⟩ := open_Pos hr (hc _ hmem)
    refine exW ⟨by omega, by omega⟩ ⟨_, (wrapU (by omega) (by omega)).symm, by decide, _, (half (by omega)).symm, exW ⟨by omega, by omega⟩ ⟨⟨by omega, by omega⟩, ?_⟩⟩
    rw [show ((((a : Nat) : Int) + ((b : Nat) : Int)) / 2).toNat = (a + b) / 2 by omega]
    refine ⟨_, _, _, _, _, fun W hW => (hsg.ext (X.trans hW)).loadAAt 0 [.string c0, .bool c1, .slice cp cn cc] (by rw [addr_add, Nat.add_zero]) (by kernel_rfl) rfl, _, _, _, _, _, fun W hW => (q0.ext (hd.trans hW)).loadA0 (by kernel_rfl), ?_⟩
    obtain ⟨g1, first, captured, h1, h2, h3⟩ := hf _ _ _ X hmem (hr2.ext X) (gr.ext X)
    refine ⟨g1, first, captured, h1, h2, Calls.mono h3 fun e w2 ⟨he, hy⟩ => ?_⟩
    refine ⟨_, he, ifD (fun hneg => exW ⟨by omega, by omega⟩ ⟨⟨(a + b) / 2 + 1, b, by omega, rfl, ?_, hb, hbn, hd.trans hy⟩, ?_⟩) (fun hpos => ⟨⟨a, (a + b) / 2, rfl, by omega, ha, ?_, by omega, hd.trans hy⟩, ?_⟩)⟩
    · rcases Nat.lt_or_ge ((a + b) / 2) k with h | h
      · omega
      · exact absurd hneg (hhi _ _ (List.getElem?_eq_getElem hml) h)
    · show (((b : Nat) : Int) - (((a : Int) + (b : Int)) / 2 + 1)).toNat < (((b : Nat) : Int) - ((a : Nat) : Int)).toNat
      omega
    · rcases Nat.lt_or_ge ((a + b) / 2) k with h | h
      · exact absurd (hlo _ _ (List.getElem?_eq_getElem hml) h) hpos
      · omega
    · show ((((a : Int) + (b : Int)) / 2) - ((a : Nat) : Int)).toNat < (((b : Nat) : Int) - ((a : Nat) : Int)).toNat
      omega
  · have hak : a = k := by omega
    subst hak
    refine ifD (fun hlt => ?_) (fun hge2 => ?_)
    · obtain ⟨pb, po, cs, hp, hcs, hr, hsg⟩ := row a (by omega)
      subst hp
      have hml : a < l.length := by omega
      have hmem : l[a] ∈ l := List.getElem_mem hml
      have hr2 := hr
      obtain ⟨c0, c1, cp, cn, cc, cz, rfl, hdd, _⟩ := open_Pos hr (hc _ hmem)
      refine ⟨⟨by omega, by omega⟩, ?_⟩
      rw [Int.toNat_natCast]
      refine ⟨_, _, _, _, _, fun W hW => (hsg.ext (X.trans hW)).loadAAt 0 [.string c0, .bool c1, .slice cp cn cc] (by rw [addr_add, Nat.add_zero]) (by kernel_rfl) rfl, _, _, _, _, _, fun W hW => (q0.ext (hd.trans hW)).loadA0 (by kernel_rfl), ?_⟩
      obtain ⟨g1, first, captured, h1, h2, h3⟩ := hf _ _ _ X hmem (hr2.ext X) (gr.ext X)
      refine ⟨g1, first, captured, h1, h2, Calls.mono h3 fun e w2 ⟨he, hy⟩ => ?_⟩
      exact ⟨_, he, by rw [List.getElem?_eq_getElem hml], X.trans hy⟩
    · exact ⟨by rw [List.getElem?_eq_none (by omega)], X⟩
theorem at_Pos_c {w : World} {B q : Nat} {p : Option Addr} {n c : Nat} {s : List (ByteArray × Int)} {f : List Nat} {cf : Value} (hq : Blk w q T_impl_ordered_loop_example_g00793_impl_Pos [.slice p n c, cf]) (ho : OwnRows w B T_impl_Pos 3 p n c (sumsRows s) f) (hord : Ordered s) (hqf : q ∉ f) (hB : B <= w.heap.size) (hn : n <= 1000000)
    (hcf1 : cf.oneCell' = true) (hcf : ∀ cs ys a b d e z z2 w', Ext w w' -> Reps w' cs [.str a, .bool d, .ints z] -> Reps w' ys [.str b, .bool e, .ints z2] -> CallW P cf [.agg ⟨cs⟩, .agg ⟨ys⟩] w' fun e w'' => e = .returned (.int .i64 (cmpS a b)) /\ Ext w' w'') (key : ByteArray) :
    Ret P n_impl_ordered_impl_Pos_at [.pointer (some ⟨q, 0, none⟩), .agg ⟨[.string key, .bool false, .slice none 0 0]⟩] w fun v w' => ∃ b n' c' f', v = .pointer (some ⟨b, posOf s key * 3, none⟩) /\ Blk w' q T_impl_ordered_loop_example_g00793_impl_Pos [.slice (some ⟨b, 0, none⟩) n' c', cf] /\
      OwnRows w' B T_impl_Pos 3 (some ⟨b, 0, none⟩) n' c' (sumsRows (sumAdd s key 0)) f' /\ Chg (q :: (p.map (·.block)).toList) w w' /\ (∀ k ∈ f', k ∈ f ∨ w.heap.size <= k) := by
  have hsl : s.length = n := by have := ho.1; rwa [sumsRows_len] at this
  have hpl := posOf_le s key
  have hql := hq.lt
  refine impl_ordered_impl_Pos_at_ret ?_
  unfold impl_ordered_impl_Pos_at
  intro r w1 hn1
  have q0 := hn1.blk
  have hd := Ext.drew w1
  have X1 := hn1.ext.trans hd
  have hcode := sumsRows_code (s := s)
  refine ⟨_, _, _, fun W hW => (hq.ext (X1.trans hW)).loadAt 0 rfl (by kernel_rfl) rfl, _, _, _, _, _, fun W hW => (q0.ext (hd.trans hW)).loadA0 (by kernel_rfl), _, fun W hW => (hq.ext (X1.trans hW)).loadAt 1 rfl (by kernel_rfl) rfl, ?_⟩
  have hz : Reps w1.drew [.string key, .bool false, .slice none 0 0] [.str key, .bool false, .ints []] := by
    have := (own_zero w1.drew 0 key).reps
    have e0 : enc 0 = [.bool false, .ints []] := by simp [enc, digs_zero]
    rwa [e0] at this
  refine Ret.at (bs_Pos_c (ho.rows.ext X1) hcode hz rfl cf (rowKey key) (fun cs x w' hx hm hr hr2 => ?_) (posOf s key) (by omega) (fun j x hj hlt => ?_) (fun j x hj hge => ?_) (by omega)) ?_
  · obtain ⟨j, hj⟩ := List.getElem?_of_mem hm
    obtain ⟨y, _, rfl⟩ := sumsRows_at hj
    exact hcf _ _ _ _ _ _ _ _ _ (X1.trans hx) hr hr2
  · obtain ⟨y, hy, rfl⟩ := sumsRows_at hj
    exact cmpS_neg.2 (posOf_lo s key j y hy hlt)
  · obtain ⟨y, hy, rfl⟩ := sumsRows_at hj
    intro hh
    have := cmpS_neg.1 hh
    rw [posOf_hi hord hy hge] at this
    cases this
  rintro v w2 ⟨hv, y2⟩
  subst hv
  rw [found_eq]
  have X2 := X1.trans y2
  have fin : ∀ (W : World) (b n' c' : Nat) (f' : List Nat), Blk W q T_impl_ordered_loop_example_g00793_impl_Pos [.slice (some ⟨b, 0, none⟩) n' c', cf] -> OwnRows W B T_impl_Pos 3 (some ⟨b, 0, none⟩) n' c' (sumsRows (sumAdd s key 0)) f' -> Chg (q :: (p.map (·.block)).toList) w W -> (∀ k ∈ f', k ∈ f ∨ w.heap.size <= k) ->
      impl_ordered_impl_Pos_at_j0 (some ⟨q, 0, none⟩) ((posOf s key : Nat) : Int) W (fun v w' => ∃ b n' c' f', v = .pointer (some ⟨b, posOf s key * 3, none⟩) /\ Blk w' q T_impl_ordered_loop_example_g00793_impl_Pos [.slice (some ⟨b, 0, none⟩) n' c', cf] /\ OwnRows w' B T_impl_Pos 3 (some ⟨b, 0, none⟩) n' c' (sumsRows (sumAdd s key 0)) f' /\ Chg (q :: (p.map (·.block)).toList) w w' /\ (∀ k ∈ f', k ∈ f ∨ w.heap.size <= k)) := by
    intro W b n' c' f' h1 h2 h3 h4
    have hl := h2.1
    rw [sumsRows_len] at hl
    have := (sumAdd_len s key 0).2
    unfold impl_ordered_impl_Pos_at_j0
    refine ⟨_, _, _, h1.loadAt 0 rfl (by kernel_rfl) rfl, ⟨by omega, by omega⟩, ?_⟩
    rw [Int.toNat_natCast]
    exact ⟨b, n', c', f', by rw [addr_add, Nat.zero_add], h1, h2, h3, h4⟩
  refine ⟨_, _, rfl, ifN (fun hno => ?_) (fun hyes => ?_)⟩
  · have hd2 := Ext.drew w2
    have X3 := X2.trans hd2
    refine ⟨_, _, _, fun W hW => (hq.ext (X3.trans hW)).loadAt 0 rfl (by kernel_rfl) rfl, _, _, _, _, _, fun W hW => (q0.ext ((hd.trans y2).trans (hd2.trans hW))).loadA0 (by kernel_rfl), ?_⟩
    intro r1 w3 hn3
    have e3 := hn3.r_eq
    have z3 := hn3.size
    refine ⟨hn3.ext, ?_⟩
    have X4 := X3.trans hn3.ext
    have l3 := X3.le
    obtain ⟨xs, hown, h1, hput⟩ := (ho.ext X4).ins (i := posOf s key) (by omega)
    have hpb : p.map (·.block) ≠ some r1 := fun e => by
      have h2 := (ho.lt r1 (by obtain ⟨_, _, _, _, _, hf, _⟩ := ho; rw [hf]; exact List.mem_append_left _ (mem_opt e))).2
      have := X3.le
      omega
    refine Ret.at (ins_Pos_c hown h1 hn3.blk rfl (by simp [Value.oneCell']) hpb (by omega) (by have := X4.le; omega) (by omega)) ?_
    rintro v w4 ⟨p', c', hv, hown', hch, hp⟩
    subst hv
    obtain ⟨f', hor, hf'⟩ := hput w4 p' c' _ _ [] hown' hch hp rfl (own_zero w4 B key) List.nodup_nil (fun q hq => by simp at hq) (fun q hq => by simp at hq)
    have hpq : q ∉ (p.map (·.block)).toList := fun hm => hqf (by obtain ⟨_, _, _, _, _, hf, _⟩ := ho; rw [hf]; exact List.mem_append_left _ hm)
    obtain ⟨w5, st5, hb5, ch5, sz5⟩ := ((hq.ext X4).chg hch hpq).store0 (P := P) (t := T_s_impl_Pos) (k := 0) (v := .slice p' (n + 1) c') (by kernel_rfl) (by simp) rfl
    refine ⟨_, _, _, rfl, w5, st5, ?_⟩
    have hsum : sumsRows (sumAdd s key 0) = (sumsRows s).take (posOf s key) ++ (.str key :: enc 0) :: (sumsRows s).drop (posOf s key) := by
      rw [sumAdd_new hno]
      simp [sumsRows, List.map_take, List.map_drop]
    rw [<- hsum] at hor
    have hqf' : q ∉ f' := fun hm => by
      rcases hf' q hm with h | h | h
      · exact hqf h
      · simp at h
      · have := X4.le; omega
    have hor5 := hor.chg ch5 (fun k hk hm => hqf' (by simp at hm; rwa [<- hm]))
    obtain ⟨b', ys, rfl, _⟩ := hown'.blk (by omega)
    refine fin w5 b' (n + 1) c' f' hb5 hor5 ?_ (fun k hk => ?_)
    · exact (X4.toChg.trans (hch.mono (fun k hk => List.mem_cons_of_mem _ hk))).trans (ch5.mono (fun k hk => by simp at hk; simp [hk]))
    · rcases hf' k hk with h | h | h
      · exact .inl h
      · simp at h
      · exact .inr (by have := X4.le; omega)
  · obtain ⟨v, hv1, hv2⟩ := sumAdd_has (u := 0) hyes
    have hlt := (List.getElem?_eq_some_iff.1 hv1).1
    have hs : sumAdd s key 0 = s := by
      rw [hv2, Int.add_zero]
      obtain ⟨h1, h2⟩ := List.getElem?_eq_some_iff.1 hv1
      rw [<- h2, List.set_getElem_self]
    obtain ⟨xs, hown, _, _⟩ := ho.ins (i := 0) (by omega)
    obtain ⟨b', ys, rfl, _⟩ := hown.blk (by omega)
    refine fin w2 b' n c f (hq.ext X2) ?_ X2.toChg (fun k hk => .inl hk)
    rw [hs]
    exact ho.ext X2
end Go.Proofs.YtbgokfhcgcoipaaDoor
namespace Go.Proofs.YtbgokfhcgcoipaaDoor
open Go Go.Proofs.YtbgokfhcgcoipaaDoor.Sx
abbrev CurRow := ByteArray × ByteArray × Int × Int
def implTab : List CurRow := [(S [67, 72, 70], S [55, 53, 54], 2, 5), (S [69, 85, 82], S [57, 55, 56], 2, 1), (S [85, 83, 68], S [56, 52, 48], 2, 1), (S [71, 66, 80], S [56, 50, 54], 2, 1), (S [74, 80, 89], S [51, 57, 50], 0, 1), (S [83, 69, 75], S [55, 53, 50], 2, 100), (S [78, 79, 75], S [53, 55, 56], 2, 100), (S [68, 75, 75], S [50, 48, 56], 2, 50), (S [67, 90, 75], S [50, 48, 51], 2, 100), (S [72, 85, 70], S [51, 52, 56], 2, 500), (S [80, 76, 78], S [57, 56, 53], 2, 1), (S [67, 65, 68], S [49, 50, 52], 2, 5), (S [65, 85, 68], S [48, 51, 54], 2, 5), (S [78, 90, 68], S [53, 53, 52], 2, 10), (S [75, 87, 68], S [52, 49, 52], 3, 5), (S [66, 72, 68], S [48, 52, 56], 3, 5), (S [84, 78, 68], S [55, 56, 56], 3, 10), (S [73, 83, 75], S [51, 53, 50], 0, 1), (S [75, 82, 87], S [52, 49, 48], 0, 10), (S [67, 76, 70], S [57, 57, 48], 4, 1)]
theorem und_T_impl_currency : ∃ fs, Tryd.prog.underlying T_impl_currency = some (.struct fs) := ⟨_, Tryd.underlying151⟩
theorem und_T_20_impl_currency : Tryd.prog.underlying T_20_impl_currency = some (.array 20 T_impl_currency) := Tryd.underlying170
theorem cur_fields : ∃ fs : Array Field, Tryd.prog.underlying T_impl_currency = some (.struct fs) /\ fs.size = 4 /\ (∃ f, fs[0]? = some f /\ f.type = T_string /\ f.offset = 0) /\ (∃ f, fs[1]? = some f /\ f.type = T_string /\ f.offset = 1) /\ (∃ f, fs[2]? = some f /\ f.type = T_int /\ f.offset = 2) /\ (∃ f, fs[3]? = some f /\ f.type = T_int /\ f.offset = 3) :=
  ⟨_, Tryd.underlying151, rfl, ⟨_, rfl, rfl, rfl⟩, ⟨_, rfl, rfl, rfl⟩, ⟨_, rfl, rfl, rfl⟩, ⟨_, rfl, rfl, rfl⟩⟩
abbrev G_d32 : Nat := 3
def L_d32 : List Int := [0, 1, 28, 2, 29, 14, 24, 3, 30, 22, 20, 15, 25, 17, 4, 8, 31, 27, 13, 23, 21, 19, 16, 7, 26, 12, 18, 6, 11, 5, 10, 9]
abbrev G_d64 : Nat := 4
def L_d64 : List Int := [0, 1, 56, 2, 57, 49, 28, 3, 61, 58, 42, 50, 38, 29, 17, 4, 62, 47, 59, 36, 45, 43, 51, 22, 53, 39, 33, 30, 24, 18, 12, 5, 63, 55, 48, 27, 60, 41, 37, 16, 46, 35, 44, 21, 52, 32, 23, 11, 54, 26, 40, 15, 34, 20, 31, 10, 25, 14, 19, 9, 13, 8, 7, 6]
abbrev G_pow : Nat := 2
abbrev TA_pow : Nat := 226
abbrev TE_pow : Nat := 138
def L_pow : List Int := [1, 10, 100, 1000, 10000, 100000, 1000000, 10000000, 100000000, 1000000000, 10000000000, 100000000000, 1000000000000, 10000000000000, 100000000000000, 1000000000000000, 10000000000000000, 100000000000000000, 1000000000000000000, 10000000000000000000]
theorem und_A_pow : Tryd.prog.underlying TA_pow = some (.array 20 TE_pow) := Tryd.underlying226
theorem und_E_pow : Tryd.prog.underlying TE_pow = some (.int .u64) := Tryd.underlying138
abbrev G_cur : Nat := 0
end Go.Proofs.YtbgokfhcgcoipaaDoor
namespace Go.Proofs.YtbgokfhcgcoipaaDoor
open Go Go.Proofs.YtbgokfhcgcoipaaDoor.Sx
def curCells (r : CurRow) : List Value := [.string r.1, .string r.2.1, .int .i64 r.2.2.1, .int .i64 r.2.2.2]
def curZero : CurRow := (ByteArray.empty, ByteArray.empty, 0, 0)
def curFind : List CurRow -> ByteArray -> CurRow
  | [], _ => curZero
  | r :: l, c => if r.1 = c then r else curFind l c
def curIn (l : List CurRow) (c : ByteArray) : Bool := l.any fun r => decide (r.1 = c)
def curKnown (c : ByteArray) : Bool := curIn implTab c
def Tab (w : World) : Prop := Seg w 0 0 (implTab.flatMap curCells)
theorem Tab.ext {w w' : World} (h : Tab w) (he : Ext w w') : Tab w' := Seg.ext h he
theorem curIn_drop {l : List CurRow} {c : ByteArray} {j : Nat} (hj : j < l.length) : curIn (l.drop j) c = (decide ((l[j]'hj).1 = c) || curIn (l.drop (j + 1)) c) := by
  rw [List.drop_eq_getElem_cons hj, curIn, List.any_cons]; rfl
theorem curFind_drop {l : List CurRow} {c : ByteArray} {j : Nat} (hj : j < l.length) : curFind (l.drop j) c = if (l[j]'hj).1 = c then l[j]'hj else curFind (l.drop (j + 1)) c := by
  rw [List.drop_eq_getElem_cons hj, curFind]
theorem flat_row : ∀ (l : List CurRow) (j : Nat) (hj : j < l.length), ((l.flatMap curCells).drop (j * 4)).take 4 = curCells (l[j]'hj)
  | r :: l, 0, _ => by simp [List.flatMap_cons, curCells]
  | r :: l, j + 1, hj => by
    have := flat_row l j (by simpa using hj)
    rw [List.flatMap_cons, show (j + 1) * 4 = 4 + j * 4 by omega, <- List.drop_drop, List.drop_left' (show (curCells r).length = 4 from rfl), this]
    rfl
theorem flat_length : ∀ (l : List CurRow), (l.flatMap curCells).length = l.length * 4
  | [] => rfl
  | r :: l => by rw [List.flatMap_cons, List.length_append, flat_length l, List.length_cons]; simp [curCells]; omega
theorem impl_length : implTab.length = 20 := rfl
set_option maxRecDepth 100000 in
theorem index_cur {j : Nat} (hj : j < implTab.length) {K : Value -> Prop} (h : K (.agg ⟨curCells (implTab[j]'hj)⟩)) : indexS P T_20_impl_currency (.agg ⟨implTab.flatMap curCells⟩) (.int .i64 (j : Nat)) K := by
  have hu : P.underlying T_20_impl_currency = some (.array 20 T_impl_currency) := und_T_20_impl_currency
  have hc : P.cellsOf T_impl_currency = 4 := by kernel_rfl
  obtain ⟨fs, hs⟩ := und_T_impl_currency
  have hs : P.underlying T_impl_currency = some (.struct fs) := hs
  have hl := impl_length
  unfold indexS
  rw [hu]
  refine ⟨⟨by omega, by omega⟩, _, ?_, h⟩
  unfold partS
  rw [hs, hc]
  show Value.agg ⟨((implTab.flatMap curCells).drop (((j : Nat) : Int).toNat * 4)).take 4⟩ = _
  rw [Int.toNat_natCast, flat_row]
set_option maxRecDepth 100000 in
theorem impl_currencyOf_c {w : World} (ht : Tab w) (c : ByteArray) :
    Ret P n_impl_currencyOf [.string c] w fun v w' => v = .tuple #[.agg ⟨curCells (curFind implTab c)⟩, .bool (curKnown c)] /\ Ext w w' := by
  have hlen := impl_length
  refine impl_currencyOf_ret ?_
  unfold impl_currencyOf
  intro r w1 hn1
  have e1 := hn1.r_eq; have s1 := hn1.size
  refine ⟨_, loadsA (by rw [flat_length]; kernel_rfl) (ht.ext hn1.ext), ?_⟩
  refine ⟨fun i wr => ∃ j : Nat, i = j /\ j <= 20 /\ Ext w1 wr /\ curFind implTab c = curFind (implTab.drop j) c /\ curKnown c = curIn (implTab.drop j) c, fun i _ => 20 - i.toNat, ⟨0, rfl, by omega, Ext.refl _, rfl, rfl⟩, ?_⟩
  intro junk wr i ⟨j, hij, hj, hx, hf, hk⟩
  subst hij
  have lx := hx.le
  refine ifD (fun hlt => ?_) (fun hge => ?_)
  · have hjl : j < implTab.length := by omega
    rw [curFind_drop hjl] at hf
    rw [curIn_drop hjl] at hk
    apply index_cur hjl
    intro r1 w2 hn2
    obtain ⟨w3, st, hb3, y3⟩ := hn2.fill (P := P) (t := T_impl_currency) (xs := curCells (implTab[j]'hjl)) (by simp [curCells, Value.oneCell']) (by kernel_rfl) rfl
    refine ⟨w3, st, _, hb3.loadAt 0 rfl (by kernel_rfl) rfl, ifD (fun heq => ?_) (fun hne => ?_)⟩
    · have hf := hf.trans (if_pos heq)
      rw [decide_eq_true heq, Bool.true_or] at hk
      obtain ⟨w4, st4, hb4, ch, sz⟩ := (hn1.blk.ext (hx.trans y3)).storeA0 (P := P) (t := T_impl_currency) (xs := curCells (implTab[j]'hjl)) (by kernel_rfl) rfl (by simp [curCells, Value.oneCell'])
      refine ⟨_, _, _, _, hb3.loadA0 (by kernel_rfl), w4, st4, _, _, _, _, hb4.loadA0 (by kernel_rfl), ?_, ((hn1.ext.trans hx).trans y3).chg ch (by simp; omega)⟩
      rw [hf, hk]; rfl
    · have hf := hf.trans (if_neg hne)
      rw [decide_eq_false hne, Bool.false_or] at hk
      refine exW ⟨by omega, by omega⟩ ⟨⟨j + 1, by omega, by omega, hx.trans y3, hf, hk⟩, ?_⟩
      show 20 - ((j : Int) + 1).toNat < 20 - (j : Int).toNat
      omega
  · rw [List.drop_of_length_le (by omega)] at hf hk
    obtain ⟨w4, st4, hb4, ch, sz⟩ := (hn1.blk.ext hx).storeA0 (P := P) (t := T_impl_currency) (xs := curCells curZero) (by kernel_rfl) rfl (by simp [curCells, Value.oneCell'])
    refine ⟨w4, st4, _, _, _, _, hb4.loadA0 (by kernel_rfl), ?_, (hn1.ext.trans hx).chg ch (by simp; omega)⟩
    rw [hf, hk]; rfl
theorem impl_CurKnown_c {w : World} (ht : Tab w) (c : ByteArray) :
    Ret P n_impl_CurKnown [.string c] w fun v w' => v = .bool (curKnown c) /\ Ext w w' := by
  refine impl_CurKnown_ret ?_
  unfold impl_CurKnown
  refine Ret.at (impl_currencyOf_c ht c) ?_
  rintro v w1 ⟨hv, y1⟩
  subst hv
  refine ⟨_, _, _, _, _, rfl, ?_⟩
  intro r w2 hn2
  obtain ⟨w3, st, hb3, y3⟩ := hn2.fill (P := P) (t := T_impl_currency) (xs := curCells (curFind implTab c)) (by simp [curCells, Value.oneCell']) (by kernel_rfl) rfl
  exact ⟨w3, st, rfl, y1.trans y3⟩
end Go.Proofs.YtbgokfhcgcoipaaDoor
namespace Go.Proofs.YtbgokfhcgcoipaaDoor
open Go Go.Proofs.YtbgokfhcgcoipaaDoor.Sx
def bAt (s : ByteArray) (i : Nat) : Int := (((s[i]?).getD 0).toNat : Nat)
def okB (lo hi low high b : Int) : Bool := !((decide (b < lo) || decide (hi < b)) && (decide (b < low) || decide (high < b)))
def isAll (s : ByteArray) (lo hi low high : Int) : Bool := decide (0 < s.size) && (List.range s.size).all fun i => okB lo hi low high (bAt s i)
def isWord (s : ByteArray) : Bool := isAll s 97 122 48 57 && decide (s.size <= 12) && decide (97 <= bAt s 0)
theorem byte_at {s : ByteArray} {i : Nat} (h : i < s.size) : ∃ b : UInt8, s[((i : Nat) : Int).toNat]? = some b /\ bAt s i = (b.toNat : Nat) := by
  have e : s[i]? = some (s[i]'h) := getElem?_pos s i h
  exact ⟨s[i]'h, by rw [Int.toNat_natCast]; exact e, by unfold bAt; rw [e]; rfl⟩
theorem isAll_no {s : ByteArray} {lo hi low high : Int} {i : Nat} (hi' : i < s.size) (h : okB lo hi low high (bAt s i) = false) : isAll s lo hi low high = false := by
  unfold isAll
  have : ((List.range s.size).all fun i => okB lo hi low high (bAt s i)) = false := by
    rw [Bool.eq_false_iff]
    intro ha
    rw [List.all_eq_true] at ha
    have := ha i (List.mem_range.2 hi')
    rw [h] at this; cases this
  rw [this, Bool.and_false]
theorem isAll_yes {s : ByteArray} {lo hi low high : Int} (h : ∀ i < s.size, okB lo hi low high (bAt s i) = true) : isAll s lo hi low high = decide (0 < s.size) := by
  unfold isAll
  have : ((List.range s.size).all fun i => okB lo hi low high (bAt s i)) = true := by
    rw [List.all_eq_true]
    exact fun i hi => h i (List.mem_range.1 hi)
  rw [this, Bool.and_true]
theorem impl_isLower_c (c : Int) (w : World) : Ret P n_impl_isLower [.int .u8 c] w fun v w' => v = .bool (decide (97 <= c /\ c <= 122)) /\ w' = w := by
  refine impl_isLower_ret ?_
  unfold impl_isLower
  refine ifD (fun h => ⟨?_, rfl⟩) (fun h => ⟨?_, rfl⟩) <;> simp [h]
theorem impl_isDigit_c (c : Int) (w : World) : Ret P n_impl_isDigit [.int .u8 c] w fun v w' => v = .bool (decide (48 <= c /\ c <= 57)) /\ w' = w := by
  refine impl_isDigit_ret ?_
  unfold impl_isDigit
  refine ifD (fun h => ⟨?_, rfl⟩) (fun h => ⟨?_, rfl⟩) <;> simp [h]
theorem impl_IsWord_c (s : ByteArray) (hs : s.size <= 9000000000000000000) (w : World) : Ret P n_impl_IsWord [.string s] w fun v w' => v = .bool (isWord s) /\ w' = w := by
  refine impl_IsWord_ret ?_
  unfold impl_IsWord
  refine ifD (fun h => ifT (ifT ⟨?_, rfl⟩)) (fun h0 => ifD (fun h => ifT ⟨?_, rfl⟩) (fun h1 => ?_))
  · unfold isWord isAll
    rw [decide_eq_false (show ¬ 0 < s.size by omega)]
    simp
  · unfold isWord
    rw [decide_eq_false (show ¬ s.size <= 12 by omega)]
    simp
  have hp : 0 < s.size := by omega
  obtain ⟨b, hb, e⟩ := byte_at hp
  refine ⟨by omega, b, hb, ?_⟩
  refine Ret.at (impl_isLower_c _ w) ?_
  rintro v w1 ⟨hv, hw⟩
  subst hv; subst hw
  refine ⟨_, rfl, ifN (fun hno => ⟨?_, rfl⟩) (fun hlow => ?_)⟩
  · have hno := of_decide_eq_false hno
    by_cases h97 : 97 <= bAt s 0
    · unfold isWord
      rw [isAll_no hp (by rw [e] at h97 ⊢; simp [okB]; omega)]
      simp
    · unfold isWord
      rw [decide_eq_false h97]
      simp
  have hlow := of_decide_eq_true hlow
  unfold impl_IsWord_j0
  refine ⟨fun i wr => ∃ j : Nat, i = j /\ 1 <= j /\ j <= s.size /\ wr = w1 /\ ∀ k < j, okB 97 122 48 57 (bAt s k) = true, fun i _ => s.size - i.toNat, ⟨1, rfl, by omega, by omega, rfl, fun k hk => ?_⟩, ?_⟩
  · have : k = 0 := by omega
    subst this
    rw [e]; simp [okB]; omega
  intro junk wr i ⟨j, hij, hj1, hj, hw, hall⟩
  subst hij; subst hw
  refine ifD (fun hlt => ?_) (fun hge => ⟨?_, rfl⟩)
  · have hjs : j < s.size := by omega
    obtain ⟨b, hb, e⟩ := byte_at hjs
    have next : okB 97 122 48 57 (b.toNat : Nat) = true -> ∃ t17 : Int, t17 = IntKind.wrap .i64 ((j : Int) + 1) /\ (fun (i : Int) (wr' : World) => ∃ j : Nat, i = j /\ 1 <= j /\ j <= s.size /\ wr' = wr /\ ∀ k < j, okB 97 122 48 57 (bAt s k) = true) t17 wr /\ (fun (i : Int) (_ : World) => s.size - i.toNat) t17 wr < (fun (i : Int) (_ : World) => s.size - i.toNat) (j : Int) wr := by
      intro h
      refine exW ⟨by omega, by omega⟩ ⟨⟨j + 1, by omega, by omega, by omega, rfl, fun k hk => ?_⟩, ?_⟩
      · rcases Nat.lt_or_ge k j with h1 | h1
        · exact hall k h1
        · have : k = j := by omega
          subst this; rw [e]; exact h
      · show s.size - ((j : Int) + 1).toNat < s.size - (j : Int).toNat
        omega
    refine ⟨by omega, b, hb, ?_⟩
    refine Ret.at (impl_isLower_c _ wr) ?_
    rintro v w1 ⟨hv, hw⟩
    subst hv; subst hw
    refine ⟨_, rfl, ifN (fun hno => ⟨by omega, b, hb, ?_⟩) (fun hyes => ifF (next ?_))⟩
    · have hno := of_decide_eq_false hno
      refine Ret.at (impl_isDigit_c _ _) ?_
      rintro v w2 ⟨hv, hw⟩
      subst hv; subst hw
      refine ⟨_, rfl, ifN (fun hno2 => ⟨?_, rfl⟩) (fun hyes2 => next ?_)⟩
      · have hno2 := of_decide_eq_false hno2
        unfold isWord
        rw [isAll_no hjs (by rw [e]; simp [okB]; omega)]
        simp
      · have hyes2 := of_decide_eq_true hyes2
        simp [okB]; omega
    · have hyes := of_decide_eq_true hyes
      simp [okB]; omega
  · unfold isWord
    rw [isAll_yes (fun i hi => hall i (by omega)), decide_eq_true (show s.size <= 12 by omega), decide_eq_true hp, e, decide_eq_true (show (97 : Int) <= (b.toNat : Nat) by omega)]
    rfl
def moneyOk : List D0 -> Bool
  | [.str c, .bool b, .ints z] => curKnown c && intOk [.bool b, .ints z] && decide (z.length <= 4)
  | _ => false
theorem impl_MoneyOk_c {w : World} (ht : Tab w) {xs : List Value} {dx : List D0} (h : Reps w xs dx) (hc : dx.map D0.code = [.str, .bool, .ints]) :
    Ret P n_impl_MoneyOk [.agg ⟨xs⟩] w fun v w' => v = .bool (moneyOk dx) /\ Ext w w' := by
  obtain ⟨t0, a0, a1p, a1n, a1c, a1z, rfl, rfl, ha⟩ := open_Money h hc
  have hl := ha.1
  refine impl_MoneyOk_ret ?_
  unfold impl_MoneyOk
  intro r w1 hn1
  refine ⟨_, hn1.blk.loadAt 0 rfl (by kernel_rfl) rfl, ?_⟩
  refine Ret.at (impl_CurKnown_c (ht.ext hn1.ext) t0) ?_
  rintro v w2 ⟨hv, y2⟩
  subst hv
  have X := hn1.ext.trans y2
  have b := hn1.blk.ext y2
  refine ⟨_, rfl, fun e1 => ?_, fun e1 => ifF ⟨by simp only [moneyOk, e1, Bool.false_and], X⟩⟩
  refine ⟨_, _, _, _, b.loadAAt 1 [.bool a0, .slice a1p a1n a1c] rfl (by kernel_rfl) rfl, ?_⟩
  have hs : Reps w2 [.bool a0, .slice a1p a1n a1c] [.bool a0, .ints a1z] := ⟨rfl, ⟨_, _, _, rfl, ha.ext X⟩, trivial⟩
  refine Ret.at (impl_IntOk_c hs rfl) ?_
  rintro v w3 ⟨hv, y3⟩
  subst hv
  refine ⟨_, rfl, fun e2 => ⟨_, _, _, (b.ext y3).loadAt 2 rfl (by kernel_rfl) rfl, ?_, X.trans y3⟩, fun e2 => ⟨by simp only [moneyOk, e2, Bool.and_false, Bool.false_and], X.trans y3⟩⟩
  simp only [moneyOk, e1, e2, Bool.true_and]
  congr 1
  simp; omega
end Go.Proofs.YtbgokfhcgcoipaaDoor
namespace Go.Proofs.YtbgokfhcgcoipaaDoor
open Go Go.Proofs.YtbgokfhcgcoipaaDoor.Sx
theorem all_no {f : List D0 -> Bool} {l : List (List D0)} {i : Nat} (hi : i < l.length) (h : f (l[i]'hi) = false) : l.all f = false := by
  rw [Bool.eq_false_iff]
  intro ha
  rw [List.all_eq_true] at ha
  rw [ha _ (List.getElem_mem hi)] at h; cases h
theorem all_yes {f : List D0 -> Bool} {l : List (List D0)} (h : ∀ i (hi : i < l.length), f (l[i]'hi) = true) : l.all f = true := by
  rw [List.all_eq_true]
  intro x hx
  obtain ⟨i, hi, rfl⟩ := List.getElem_of_mem hx
  exact h i hi
end Go.Proofs.YtbgokfhcgcoipaaDoor
namespace Go.Proofs.YtbgokfhcgcoipaaDoor
open Go Go.Proofs.YtbgokfhcgcoipaaDoor.Sx
def iadd (d e : List D0) : List D0 := if intOk d && intOk e then icap (ival d + ival e) else enc 0
theorem enc0 : enc 0 = [.bool false, .ints []] := by simp [enc, digs_zero]
theorem icap_code (z : Int) : (icap z).map D0.code = [.bool, .ints] := rfl
theorem capL_canon {n : Nat} : Canon (capL (digs n)) /\ (capL (digs n)).length <= 50 := by
  unfold capL
  split
  · exact ⟨digs_canon n, by assumption⟩
  · exact ⟨⟨Limbs.nil, by simp⟩, by simp⟩
theorem icap_ok (z : Int) : intOk (icap z) = true := by
  have h := capL_canon (n := z.natAbs)
  simp only [icap, mkS, intOk, natOk_spec.2 h, Bool.true_and]
  cases decide (z < 0) <;> cases (capL (digs z.natAbs)) <;> simp
theorem enc0_ok : intOk (enc 0) = true := by rw [enc0]; rfl
theorem iadd_ok (d e : List D0) : intOk (iadd d e) = true := by
  unfold iadd
  split
  · exact icap_ok _
  · exact enc0_ok
theorem iadd_code (d e : List D0) : (iadd d e).map D0.code = [.bool, .ints] := by
  unfold iadd; split <;> rfl
theorem mkS_digs {neg : Bool} {m : Nat} {z : Int} (hm : m = z.natAbs) (hs : m ≠ 0 -> neg = decide (z < 0)) : mkS neg (capL (digs m)) = icap z := by
  subst hm
  by_cases h0 : z.natAbs = 0
  · have hz : z = 0 := by omega
    subst hz
    simp [icap, mkS, digs_zero, capL]
  · rw [hs h0]; rfl
theorem impl_fitInt_c {w : World} {B : Nat} {z : Int} {b : Bool} {p : Option Addr} {n c : Nat} (hb : b = decide (z < 0)) (h : Own w B T_int 1 p n c ((digs z.natAbs).map (Value.int .i64))) :
    Ret P n_impl_fitInt [.agg ⟨[.bool b, .slice p n c]⟩] w fun v w' => ∃ vs' f, v = .agg ⟨vs'⟩ /\ Owns w' B vs' (icap z) f /\ f.Nodup /\ Ext w w' := by
  subst hb
  refine impl_fitInt_ret ?_
  unfold impl_fitInt
  intro r w1 hn1 r1 w2 hn2
  have x := hn1.ext.trans hn2.ext
  have k0 := hn1.blk.ext hn2.ext
  have D := Ext.drew w2
  have XD := x.trans D
  refine ⟨_, fun W hW => (k0.ext (D.trans hW)).load (by kernel_rfl) rfl, _, _, _, fun W hW => (k0.ext (D.trans hW)).load (by kernel_rfl) rfl, ?_⟩
  refine Ret.at (impl_fit_c (h.ext XD).ints) ?_
  rintro v w3 ⟨hw, hv, hr⟩
  subst hw
  have et : trimL (digs z.natAbs) = digs z.natAbs := by rw [trimL_eq (digs_limbs _), val_digs]; rfl
  rw [et] at hv hr
  have hln : (digs z.natAbs).length = n := h.ints.1
  have ho := h.ext XD
  have hB : ∀ q, p.map (·.block) = some q -> q ≠ r1 := fun q hq => by
    have := (World.ownsRow.lt h q (by rw [<- hq]; cases p <;> rfl)).2
    have := hn1.size; have := hn2.r_eq
    omega
  have e2 := hn2.r_eq; have s1 := hn1.size
  by_cases hcap : (digs z.natAbs).length <= 50
  · rw [if_pos hcap, hln] at hv
    subst hv
    refine ⟨_, _, _, rfl, Ext.refl _, ?_⟩
    refine Ret.at (impl_signed_c hln) ?_
    rintro v w4 ⟨hv, y4⟩
    subst hv
    obtain ⟨w5, st, hb5, ch, sz⟩ := ((hn2.blk.ext D).ext y4).storeA0 (P := P) (t := T_impl_Signed) (xs := [.bool (decide (z < 0) && !(digs z.natAbs).isEmpty), .slice p n c]) (by kernel_rfl) rfl (by simp [Value.oneCell'])
    refine ⟨_, _, _, _, rfl, w5, st, _, _, _, _, hb5.loadA0 (by kernel_rfl), _, _, rfl, ?_, nodup_opt p, (XD.trans y4).chg ch (by simp; omega)⟩
    have := Owns.int2 (b := decide (z < 0) && !(digs z.natAbs).isEmpty) ((ho.ext y4).chg ch (fun q hq => by simp only [List.mem_singleton]; exact hB q hq))
    simpa only [icap, mkS, capL, if_pos hcap] using this
  · rw [if_neg hcap] at hv
    subst hv
    refine ⟨_, _, _, rfl, Ext.refl _, ?_⟩
    refine Ret.at (impl_signed_c (z := []) rfl) ?_
    rintro v w4 ⟨hv, y4⟩
    subst hv
    obtain ⟨w5, st, hb5, ch, sz⟩ := ((hn2.blk.ext D).ext y4).storeA0 (P := P) (t := T_impl_Signed) (xs := [.bool (decide (z < 0) && !([] : List Int).isEmpty), .slice none 0 0]) (by kernel_rfl) rfl (by simp [Value.oneCell'])
    refine ⟨_, _, _, _, rfl, w5, st, _, _, _, _, hb5.loadA0 (by kernel_rfl), _, _, rfl, ?_, nodup_opt none, (XD.trans y4).chg ch (by simp; omega)⟩
    have := Owns.int2 (z := []) (b := decide (z < 0) && !([] : List Int).isEmpty) (Own.nil w5 B T_int 1 : Own w5 B T_int 1 none 0 0 (([] : List Int).map (Value.int .i64)))
    simpa only [icap, mkS, capL, if_neg hcap] using this
theorem impl_intsOk_c {w : World} {xs ys : List Value} {dx dy : List D0} (h : Reps w xs dx) (k : Reps w ys dy) (hc : dx.map D0.code = [.bool, .ints]) (kc : dy.map D0.code = [.bool, .ints]) :
    Ret P n_impl_intsOk [.agg ⟨xs⟩, .agg ⟨ys⟩] w fun v w' => v = .bool (intOk dx && intOk dy) /\ Ext w w' := by
  have hr := h; have kr := k
  obtain ⟨a0, a1p, a1n, a1c, a1z, rfl, rfl, ha⟩ := open_Signed h hc
  obtain ⟨b0, b1p, b1n, b1c, b1z, rfl, rfl, hb⟩ := open_Signed k kc
  refine impl_intsOk_ret ?_
  unfold impl_intsOk
  intro r w1 hn1 r1 w2 hn2
  have x := hn1.ext.trans hn2.ext
  have k0 := hn1.blk.ext hn2.ext; have k1 := hn2.blk
  refine ⟨_, _, _, _, k0.loadA0 (by kernel_rfl), ?_⟩
  refine Ret.at (impl_IntOk_c (hr.ext x) rfl) ?_
  rintro v w3 ⟨hv, y⟩
  subst hv
  refine ⟨_, rfl, fun e => ⟨_, _, _, _, (k1.ext y).loadA0 (by kernel_rfl), ?_⟩, fun e => ⟨by rw [e]; rfl, x.trans y⟩⟩
  refine Ret.at (impl_IntOk_c (kr.ext (x.trans y)) rfl) ?_
  rintro v w4 ⟨hv, y2⟩
  subst hv
  exact ⟨_, rfl, by rw [e]; rfl, (x.trans y).trans y2⟩
theorem impl_IntAdd_c {w : World} {xs ys : List Value} {dx dy : List D0} (h : Reps w xs dx) (k : Reps w ys dy) (hc : dx.map D0.code = [.bool, .ints]) (kc : dy.map D0.code = [.bool, .ints]) :
    Ret P n_impl_IntAdd [.agg ⟨xs⟩, .agg ⟨ys⟩] w fun v w' => ∃ vs' f, v = .agg ⟨vs'⟩ /\ Owns w' w.heap.size vs' (iadd dx dy) f /\ f.Nodup /\ Ext w w' := by
  have hr := h; have kr := k
  have hc0 := hc; have kc0 := kc
  obtain ⟨a0, a1p, a1n, a1c, a1z, rfl, hd, ha⟩ := open_Signed h hc
  obtain ⟨b0, b1p, b1n, b1c, b1z, rfl, he, hb⟩ := open_Signed k kc
  refine impl_IntAdd_ret ?_
  unfold impl_IntAdd
  intro r w1 hn1 r1 w2 hn2 r2 w3 hn3
  have X := (hn1.ext.trans hn2.ext).trans hn3.ext
  have e1 := hn1.r_eq; have e2 := hn2.r_eq; have e3 := hn3.r_eq; have s1 := hn1.size; have s2 := hn2.size; have s3 := hn3.size
  have k0 := (hn1.blk.ext hn2.ext).ext hn3.ext; have k1 := hn2.blk.ext hn3.ext; have k2 := hn3.blk
  refine ⟨_, _, _, _, k0.loadA0 (by kernel_rfl), _, _, _, _, k1.loadA0 (by kernel_rfl), ?_⟩
  refine Ret.at (impl_intsOk_c (hr.ext X) (kr.ext X) hc kc) ?_
  rintro v w4 ⟨hv, y4⟩
  subst hv
  have X4 := X.trans y4; have k0 := k0.ext y4; have k1 := k1.ext y4; have k2 := k2.ext y4
  refine ⟨_, rfl, ifN (fun hno => ?_) (fun hok => ?_)⟩
  · obtain ⟨w5, st, hb5, ch, sz⟩ := k2.storeA0 (P := P) (t := T_impl_Signed) (xs := [.bool false, .slice none 0 0]) (by kernel_rfl) rfl (by simp [Value.oneCell'])
    refine ⟨w5, st, _, _, _, _, hb5.loadA0 (by kernel_rfl), _, _, rfl, ?_, nodup_opt none, X4.chg ch (by simp; omega)⟩
    have : iadd dx dy = [.bool false, .ints []] := by rw [iadd, hno, <- enc0]; rfl
    rw [this]
    exact Owns.int2 (z := []) (Own.nil w5 _ T_int 1 : Own w5 w.heap.size T_int 1 none 0 0 (([] : List Int).map (Value.int .i64)))
  · have hok' := hok
    simp only [Bool.and_eq_true] at hok'
    obtain ⟨ex, _, zx, hx1, cx, lx⟩ := intOk_enc hok'.1
    obtain ⟨ey, _, zy, hy1, cy, ly⟩ := intOk_enc hok'.2
    have lenx : (digs (ival dx).natAbs).length <= 50 := by
      rw [ex] at hx1
      simp only [enc, List.cons.injEq, D0.ints.injEq, and_true] at hx1
      rw [hx1.2]; exact lx
    have leny : (digs (ival dy).natAbs).length <= 50 := by
      rw [ey] at hy1
      simp only [enc, List.cons.injEq, D0.ints.injEq, and_true] at hy1
      rw [hy1.2]; exact ly
    refine ⟨_, _, _, _, k0.loadA0 (by kernel_rfl), _, _, _, _, k1.loadA0 (by kernel_rfl), ?_⟩
    refine Ret.at (impl_intAdd_c (x := ival dx) (y := ival dy) (by rw [<- ex]; exact hr.ext X4) (by rw [<- ey]; exact kr.ext X4) (by omega) (by omega)) ?_
    rintro v w5 ⟨p, n, c, hv, hown, y5⟩
    subst hv
    refine ⟨_, _, _, _, rfl, ?_⟩
    refine Ret.at (impl_fitInt_c (z := ival dx + ival dy) rfl hown) ?_
    rintro v w6 ⟨vs', f, hv, ho, hnd, y6⟩
    subst hv
    obtain ⟨q0, q1p, q1n, q1c, q1z, rfl, hq, hqi⟩ := open_Signed ho.reps (icap_code _)
    have X6 := (X4.trans y5).trans y6
    have s4 := X4.le; have s34 := y4.le
    obtain ⟨w7, st, hb7, ch, sz⟩ := ((k2.ext y5).ext y6).storeA0 (P := P) (t := T_impl_Signed) (xs := [.bool q0, .slice q1p q1n q1c]) (by kernel_rfl) rfl ho.reps.cells1
    refine ⟨_, _, _, _, rfl, w7, st, _, _, _, _, hb7.loadA0 (by kernel_rfl), _, f, rfl, ?_, hnd, X6.chg ch (by simp; omega)⟩
    have : iadd dx dy = icap (ival dx + ival dy) := by rw [iadd, hok]; rfl
    rw [this]
    exact (ho.chg1 ch (by omega)).mono (by omega)
end Go.Proofs.YtbgokfhcgcoipaaDoor
namespace Go.Proofs.YtbgokfhcgcoipaaDoor
open Go Go.Proofs.YtbgokfhcgcoipaaDoor.Sx
def sgn (z : Int) : Int := if z < 0 then -1 else if z = 0 then 0 else 1
theorem impl_intSign_c {w : World} {xs : List Value} {z : Int} (h : Reps w xs (enc z)) : Ret P n_impl_intSign [.agg ⟨xs⟩] w fun v w' => v = .int .i64 (sgn z) /\ Ext w w' := by
  obtain ⟨a0, a1p, a1n, a1c, a1z, rfl, hd, ha⟩ := open_Signed h rfl
  simp only [enc, List.cons.injEq, D0.bool.injEq, D0.ints.injEq, and_true] at hd
  obtain ⟨rfl, rfl⟩ := hd
  have hl := ha.1
  have he := isEmpty_digs (n := z.natAbs)
  refine impl_intSign_ret ?_
  unfold impl_intSign
  intro r w1 hn
  have hzero : (a1n = 0) ↔ z = 0 := by
    rw [<- hl, List.length_eq_zero_iff, digs_nil]; omega
  refine ⟨_, _, _, hn.blk.load (by kernel_rfl) rfl, ifD (fun h0 => ⟨?_, hn.ext⟩) (fun h0 => ⟨_, hn.blk.load (by kernel_rfl) rfl, fun e => ⟨?_, hn.ext⟩, fun e => ⟨?_, hn.ext⟩⟩)⟩
  · have : z = 0 := hzero.1 (by omega)
    subst this; rfl
  · have e := of_decide_eq_true e
    simp [sgn, e]
  · have e := of_decide_eq_false e
    have : z ≠ 0 := fun h => h0 (by have := hzero.2 h; omega)
    simp [sgn, e, this]
theorem impl_intNeg_c {w : World} {xs : List Value} {z : Int} (h : Reps w xs (enc z)) (hz : (digs z.natAbs).length <= 10000000) : Ret P n_impl_intNeg [.agg ⟨xs⟩] w fun v w' => ∃ vs' f, v = .agg ⟨vs'⟩ /\ Owns w' w.heap.size vs' (enc (-z)) f /\ f.Nodup /\ Ext w w' := by
  obtain ⟨a0, a1p, a1n, a1c, a1z, rfl, hd, ha⟩ := open_Signed h rfl
  simp only [enc, List.cons.injEq, D0.bool.injEq, D0.ints.injEq, and_true] at hd
  obtain ⟨rfl, rfl⟩ := hd
  have hl := ha.1
  refine impl_intNeg_ret ?_
  unfold impl_intNeg
  intro r w1 hn1 r1 w2 hn2
  have x := hn1.ext.trans hn2.ext
  have D := Ext.drew w2
  have XD := x.trans D
  have k0 := hn1.blk.ext hn2.ext
  have e2 := hn2.r_eq; have s1 := hn1.size; have s2 := hn2.size
  refine ⟨_, fun W hW => (k0.ext (D.trans hW)).load (by kernel_rfl) rfl, _, _, _, fun W hW => (k0.ext (D.trans hW)).load (by kernel_rfl) rfl, ?_⟩
  refine Ret.at (impl_natCopy_c (ha.ext XD) (by omega)) ?_
  rintro v w3 ⟨p, c, hv, ho, y3⟩
  subst hv
  refine ⟨_, _, _, rfl, y3, ?_⟩
  refine Ret.at (impl_signed_c ho.ints.1) ?_
  rintro v w4 ⟨hv, y4⟩
  subst hv
  have lD := D.le
  obtain ⟨w5, st, hb5, ch, sz⟩ := (((hn2.blk.ext D).ext y3).ext y4).storeA0 (P := P) (t := T_impl_Signed) (xs := [.bool (!(decide (z < 0)) && !(digs z.natAbs).isEmpty), .slice p a1n c]) (by kernel_rfl) rfl (by simp [Value.oneCell'])
  refine ⟨_, _, _, _, rfl, w5, st, _, _, _, _, hb5.loadA0 (by kernel_rfl), _, _, rfl, ?_, nodup_opt p, ((XD.trans y3).trans y4).chg ch (by simp; omega)⟩
  have eb : (!(decide (z < 0)) && !(digs z.natAbs).isEmpty) = decide (-z < 0) := by
    rw [isEmpty_digs]
    by_cases h0 : z = 0
    · subst h0; rfl
    · by_cases h1 : z < 0
      · have : ¬ (-z < 0) := by omega
        simp [h1]; omega
      · have h2 : z.natAbs ≠ 0 := by omega
        simp [h1, h0]; omega
  rw [eb]
  have := ((Owns.int2 (b := decide (-z < 0)) (ho.ext y4)).chg1 ch (by omega)).mono (B' := w.heap.size) (by omega)
  unfold enc
  rw [Int.natAbs_neg]
  exact this
theorem impl_intCmp_c {w : World} {xs ys : List Value} {x y : Int} (h : Reps w xs (enc x)) (k : Reps w ys (enc y)) (hx : (digs x.natAbs).length <= 10000000) (hy : (digs y.natAbs).length <= 10000000) :
    Ret P n_impl_intCmp [.agg ⟨xs⟩, .agg ⟨ys⟩] w fun v w' => v = .int .i64 (sgn (x - y)) /\ Ext w w' := by
  have hr := h; have kr := k
  obtain ⟨a0, a1p, a1n, a1c, a1z, rfl, hd, ha⟩ := open_Signed h rfl
  obtain ⟨b0, b1p, b1n, b1c, b1z, rfl, he, hb⟩ := open_Signed k rfl
  refine impl_intCmp_ret ?_
  unfold impl_intCmp
  intro r w1 hn1 r1 w2 hn2
  have X := hn1.ext.trans hn2.ext
  have D := Ext.drew w2
  have XD := X.trans D
  have k0 := hn1.blk.ext hn2.ext; have k1 := hn2.blk
  refine ⟨_, _, _, _, fun W hW => (k0.ext (D.trans hW)).loadA0 (by kernel_rfl), _, _, _, _, fun W hW => (k1.ext (D.trans hW)).loadA0 (by kernel_rfl), ?_⟩
  refine Ret.at (impl_intNeg_c (kr.ext XD) hy) ?_
  rintro v w3 ⟨vs', f, hv, ho, _, y3⟩
  subst hv
  obtain ⟨q0, q1p, q1n, q1c, q1z, rfl, hq, hqi⟩ := open_Signed ho.reps (enc_code _)
  refine ⟨_, _, _, _, rfl, y3, ?_⟩
  refine Ret.at (impl_intAdd_c (hr.ext (XD.trans y3)) ho.reps hx (by rw [Int.natAbs_neg]; exact hy)) ?_
  rintro v w4 ⟨p, n, c, hv, hown, y4⟩
  subst hv
  refine ⟨_, _, _, _, rfl, ?_⟩
  have hs : Reps w4 [.bool (decide (x + -y < 0)), .slice p n c] (enc (x + -y)) := ⟨rfl, ⟨_, _, _, rfl, hown.ints⟩, trivial⟩
  refine Ret.at (impl_intSign_c hs) ?_
  rintro v w5 ⟨hv, y5⟩
  subst hv
  exact ⟨_, rfl, rfl, ((XD.trans y3).trans y4).trans y5⟩
end Go.Proofs.YtbgokfhcgcoipaaDoor
namespace Go.Proofs.YtbgokfhcgcoipaaDoor
open Go Go.Proofs.YtbgokfhcgcoipaaDoor.Sx
def debtOk (cur : ByteArray) : List D0 -> Bool
  | [.str a, .str b, .str c, .bool s, .ints z] => moneyOk [.str c, .bool s, .ints z] && decide (c = cur) && decide (0 < ival [.bool s, .ints z]) && isWord a && isWord b && !(decide (a = b))
  | _ => false
def debtsOk (cur : ByteArray) (l : List (List D0)) : Bool := curKnown cur && decide (l.length <= 20) && l.all (debtOk cur)
theorem moneyOk_int {c : ByteArray} {b : Bool} {z : List Int} (h : moneyOk [.str c, .bool b, .ints z] = true) : intOk [.bool b, .ints z] = true := by
  simp only [moneyOk, Bool.and_eq_true] at h
  exact h.1.2
theorem sgn_le {z : Int} : sgn z <= 0 ↔ ¬ 0 < z := by
  unfold sgn
  by_cases h1 : z < 0
  · rw [if_pos h1]; omega
  · rw [if_neg h1]
    by_cases h2 : z = 0
    · rw [if_pos h2]; omega
    · rw [if_neg h2]; omega
theorem impl_DebtsOk_c {w : World} (cur : ByteArray) {p : Option Addr} {n c : Nat} {l : List (List D0)} (h : RowsR w 5 p n c l) (hc : ∀ x ∈ l, x.map D0.code = [.str, .str, .str, .bool, .ints]) (hn : n <= 1048576) (hb : ∀ x ∈ l, bulks x <= 1048576) (ht : Tab w) :
    Ret P n_impl_DebtsOk [.string cur, .slice p n c] w fun v w' => v = .bool (debtsOk cur l) /\ Ext w w' := by
  have hz := h.1; have hcap := h.2.1; have hcm := h.2.2.1
  refine impl_DebtsOk_ret ?_
  unfold impl_DebtsOk
  refine Ret.at (impl_CurKnown_c ht cur) ?_
  rintro v w1 ⟨hv, y1⟩
  subst hv
  refine ⟨_, rfl, ifN (fun hno => ifT ⟨?_, y1⟩) (fun hcu => ifD (fun h20 => ⟨?_, y1⟩) (fun h20 => ?_))⟩
  · unfold debtsOk
    rw [hno, Bool.false_and, Bool.false_and]
  · unfold debtsOk
    rw [decide_eq_false (show ¬ l.length <= 20 by omega), Bool.and_false, Bool.false_and]
  unfold impl_DebtsOk_j0
  refine ⟨fun i wr => ∃ j : Nat, i = j /\ j <= n /\ Ext w wr /\ ∀ i (hi : i < l.length), i < j -> debtOk cur (l[i]'hi) = true, fun i _ => n - i.toNat, ⟨0, rfl, by omega, y1, fun i _ h => absurd h (by omega)⟩, ?_⟩
  intro junk wr i ⟨j, hij, hj, hx, hall⟩
  subst hij
  refine ifD (fun hlt => ?_) (fun hge => ?_)
  · have hjn : j < n := by omega
    have hjl : j < l.length := by omega
    obtain ⟨a, cs, hp, hk, hr, hl⟩ := (h.ext hx).at (P := P) (t := T_impl_Debt) (by kernel_rfl) hjn
    subst hp
    have hrr := hr; have hcode := hc _ (List.getElem_mem hjl); have hbj := hb _ (List.getElem_mem hjl)
    obtain ⟨a0, a1, a2, a3, a4p, a4n, a4c, a4z, rfl, hd, ha⟩ := open_Debt hr hcode
    rw [hd] at hbj
    simp only [bulks, D0.bulk, List.map_cons, List.map_nil, List.sum_cons, List.sum_nil] at hbj
    have bad : debtOk cur [.str a0, .str a1, .str a2, .bool a3, .ints a4z] = false -> debtsOk cur l = false := fun h => by
      unfold debtsOk
      rw [all_no hjl (by rw [hd]; exact h), Bool.and_false]
    refine ⟨⟨by omega, by omega⟩, _, _, _, _, _, _, _, by simpa using hl, ?_⟩
    intro r w2 hn2
    obtain ⟨w3, st, hb3, y3⟩ := hn2.fill (P := P) (t := T_impl_Debt) hrr.cells1 (by kernel_rfl) rfl
    have hm : Reps w3 [.string a2, .bool a3, .slice a4p a4n a4c] [.str a2, .bool a3, .ints a4z] := ⟨rfl, rfl, ⟨_, _, _, rfl, ha.ext y3⟩, trivial⟩
    refine ⟨w3, st, _, _, _, _, _, hb3.loadAAt 2 [.string a2, .bool a3, .slice a4p a4n a4c] rfl (by kernel_rfl) rfl, ?_⟩
    refine Ret.at (impl_MoneyOk_c (ht.ext (hx.trans y3)) hm rfl) ?_
    rintro v w4 ⟨hv, y4⟩
    subst hv
    have X4 := (hx.trans y3).trans y4
    have hb4 := hb3.ext y4
    refine ⟨_, rfl, ifN (fun hno => ifT (ifT (ifT (ifT (ifT ⟨by rw [bad (by simp only [debtOk, hno, Bool.false_and])], X4⟩))))) (fun h1 => ?_)⟩
    have hio := moneyOk_int h1
    have henc := (intOk_enc hio).1
    refine ⟨_, hb4.loadAt 2 rfl (by kernel_rfl) rfl, ifD (fun hno => ifT (ifT (ifT (ifT ⟨by rw [bad (by simp only [debtOk, decide_eq_false hno, Bool.and_false, Bool.false_and])], X4⟩)))) (fun hcur => ?_)⟩
    have hcur : a2 = cur := by simpa using hcur
    have hs : Reps w4 [.bool a3, .slice a4p a4n a4c] (enc (ival [.bool a3, .ints a4z])) := by
      rw [<- henc]
      exact ⟨rfl, ⟨_, _, _, rfl, (ha.ext y3).ext y4⟩, trivial⟩
    refine ⟨_, _, _, _, hb4.loadAAt 3 [.bool a3, .slice a4p a4n a4c] rfl (by kernel_rfl) rfl, ?_⟩
    refine Ret.at (impl_intSign_c hs) ?_
    rintro v w5 ⟨hv, y5⟩
    subst hv
    have X5 := X4.trans y5
    have hb5 := hb4.ext y5
    refine ⟨_, rfl, ?_⟩
    refine ifD (fun hno => ifT (ifT (ifT ⟨by rw [bad (by simp only [debtOk, decide_eq_false (sgn_le.1 hno), Bool.and_false, Bool.false_and])], X5⟩))) (fun hpos => ?_)
    have hpos : 0 < ival [.bool a3, .ints a4z] := Decidable.byContradiction fun hh => hpos (sgn_le.2 hh)
    refine ⟨_, hb5.loadAt 0 rfl (by kernel_rfl) rfl, ?_⟩
    refine Ret.at (impl_IsWord_c a0 (by omega) _) ?_
    rintro v w6 ⟨hv, hw⟩
    subst hv; subst hw
    refine ⟨_, rfl, ifN (fun hno => ifT (ifT ⟨by rw [bad (by simp only [debtOk, hno, Bool.and_false, Bool.false_and])], X5⟩)) (fun h4 => ?_)⟩
    refine ⟨_, hb5.loadAt 1 rfl (by kernel_rfl) rfl, ?_⟩
    refine Ret.at (impl_IsWord_c a1 (by omega) _) ?_
    rintro v w7 ⟨hv, hw⟩
    subst hv; subst hw
    refine ⟨_, rfl, ifN (fun hno => ifT ⟨by rw [bad (by simp only [debtOk, hno, Bool.and_false, Bool.false_and])], X5⟩) (fun h5 => ?_)⟩
    refine ⟨_, hb5.loadAt 0 rfl (by kernel_rfl) rfl, _, hb5.loadAt 1 rfl (by kernel_rfl) rfl, ifD (fun heq => ⟨by rw [bad (by simp only [debtOk, decide_eq_true heq, Bool.not_true, Bool.and_false])], X5⟩) (fun hne => ?_)⟩
    refine exW ⟨by omega, by omega⟩ ⟨⟨j + 1, by omega, by omega, X5, fun i hi hij => ?_⟩, ?_⟩
    · rcases Nat.lt_or_ge i j with h3 | h3
      · exact hall i hi h3
      · have : i = j := by omega
        subst this
        rw [hd]
        simp only [debtOk, h1, decide_eq_true hcur, decide_eq_true hpos, h4, h5, decide_eq_false hne, Bool.and_self, Bool.not_false]
    · show n - ((j : Int) + 1).toNat < n - (j : Int).toNat
      omega
  · refine ⟨?_, hx⟩
    unfold debtsOk
    rw [all_yes fun i hi => hall i hi (by omega), hcu, decide_eq_true (show l.length <= 20 by omega)]
    rfl
end Go.Proofs.YtbgokfhcgcoipaaDoor
namespace Go.Proofs.YtbgokfhcgcoipaaDoor
open Go Go.Proofs.YtbgokfhcgcoipaaDoor.Sx
theorem digs_len : ∀ (k : Nat) {n : Nat}, n < 1000000000 ^ k -> (digs n).length <= k
  | 0, n, h => by
    have : n = 0 := by simpa using h
    subst this; simp [digs_zero]
  | k + 1, n, h => by
    by_cases h0 : n = 0
    · subst h0; simp [digs_zero]
    · rw [digs_pos h0, List.length_cons]
      have := digs_len k (n := n / 1000000000) (Nat.div_lt_of_lt_mul (by rw [Nat.mul_comm, <- Nat.pow_succ]; exact h))
      omega
theorem icap_fit {z : Int} (h : (digs z.natAbs).length <= 50) : icap z = enc z := by
  unfold icap capL
  rw [if_pos h]
  simp only [mkS, enc, isEmpty_digs]
  by_cases h0 : z < 0
  · have : z.natAbs ≠ 0 := by omega
    simp [h0]; omega
  · simp [h0]
theorem spec_l04Make_c {w : World} {neg : Bool} {p : Option Addr} {n c : Nat} {z : List Int} (h : IntsR w p n c z) (hl : Limbs z) :
    Ret P n_spec_l04Make [.bool neg, .slice p n c] w fun v w' => ∃ b p n c, v = .agg ⟨[.bool b, .slice p n c]⟩ /\ b = (neg && !(capL (digs (val z).toNat)).isEmpty) /\ Own w' w.heap.size T_int 1 p n c ((capL (digs (val z).toNat)).map (Value.int .i64)) /\ Ext w w' := by
  refine spec_l04Make_ret ?_
  unfold spec_l04Make
  intro r w1 hn1
  refine Ret.at (spec_l02Cap_c (h.ext hn1.ext)) ?_
  rintro v w2 ⟨p', n', c', hv, hw, hr⟩
  subst hv; subst hw
  rw [trimL_eq hl] at hr
  have hn' := hr.1
  have h50 : n' <= 50 := by
    have := (capL_canon (n := (val z).toNat)).2
    omega
  have e1 := hn1.r_eq
  refine ⟨_, _, _, rfl, fun e => ?_, fun e => ?_⟩
  all_goals
    intro r1 w3 hn3
    obtain ⟨p2, c2, w4, g1, g2, g3⟩ := Own.appendI (Own.fresh hn3) hn3.ext.le (hr.ext hn3.ext) (by omega)
    rw [Nat.zero_add] at g1 g2
    rw [List.nil_append] at g2
    have y4 : Ext w2 w4 := g3 w2 hn3.ext (Nat.le_refl _)
    refine ⟨_, _, _, _, g1, ?_⟩
  · obtain ⟨w5, st, hb5, ch, sz⟩ := (hn1.blk.ext y4).storeA0 (P := P) (t := T_impl_Signed) (xs := [.bool (decide ((0 : Int) < (n' : Nat))), .slice p2 n' c2]) (by kernel_rfl) rfl (by simp [Value.oneCell'])
    refine ⟨w5, st, _, _, _, _, hb5.loadA0 (by kernel_rfl), _, _, _, _, rfl, by rw [len_bool hn', e]; rfl, (g2.chg ch (fun q hq => ?_)).mono hn1.ext.le, (hn1.ext.trans y4).chg ch (by simp; omega)⟩
    have := (World.ownsRow.lt g2 q (by rw [<- hq]; cases p2 <;> rfl)).1
    have := hn1.size
    simp; omega
  · obtain ⟨w5, st, hb5, ch, sz⟩ := (hn1.blk.ext y4).storeA0 (P := P) (t := T_impl_Signed) (xs := [.bool false, .slice p2 n' c2]) (by kernel_rfl) rfl (by simp [Value.oneCell'])
    refine ⟨w5, st, _, _, _, _, hb5.loadA0 (by kernel_rfl), _, _, _, _, rfl, by rw [e]; rfl, (g2.chg ch (fun q hq => ?_)).mono hn1.ext.le, (hn1.ext.trans y4).chg ch (by simp; omega)⟩
    have := (World.ownsRow.lt g2 q (by rw [<- hq]; cases p2 <;> rfl)).1
    have := hn1.size
    simp; omega
end Go.Proofs.YtbgokfhcgcoipaaDoor
namespace Go.Proofs.YtbgokfhcgcoipaaDoor
open Go Go.Proofs.YtbgokfhcgcoipaaDoor.Sx
theorem digs_len_le {n : Nat} (h : n < 1000000000000000000000000000000000000000000000000000000) : (digs n).length <= 6 := digs_len 6 (by omega)
theorem money_bound {c : ByteArray} {b : Bool} {z : List Int} (h : moneyOk [.str c, .bool b, .ints z] = true) : (ival [.bool b, .ints z]).natAbs <= 1000000000000000000000000000000000000 := by
  have hi := moneyOk_int h
  simp only [moneyOk, Bool.and_eq_true, decide_eq_true_eq] at h
  obtain ⟨_, _, _, h1, hc, _⟩ := intOk_enc hi
  simp only [List.cons.injEq, D0.bool.injEq, D0.ints.injEq, and_true] at h1
  obtain ⟨rfl, rfl⟩ := h1
  have hv := val_nonneg hc.1
  have hlt := val_lt hc.1
  have h6 : (1000000000 : Nat) ^ z.length <= 1000000000 ^ 4 := Nat.pow_le_pow_right (by decide) h.2
  have h6' := Int.ofNat_le.2 h6
  rw [Int.natCast_pow, Int.natCast_pow] at h6'
  have h7 : val z < (1000000000 : Int) ^ 4 := Int.lt_of_lt_of_le hlt h6'
  have h8 : ((1000000000 : Int) ^ 4) = 1000000000000000000000000000000000000 := by decide
  rw [h8] at h7
  cases b <;> simp only [ival, if_true, Bool.false_eq_true, if_false] <;> omega
theorem enc_small {z : Int} (h : z.natAbs < 1000000000000000000000000000000000000000000000000000000) : intOk (enc z) = true := by
  have := digs_len_le h
  rw [<- icap_fit (by omega)]; exact icap_ok z
theorem iadd_small {x y : Int} (hx : x.natAbs < 100000000000000000000000000000000000000000000000000000) (hy : y.natAbs < 100000000000000000000000000000000000000000000000000000) : iadd (enc x) (enc y) = enc (x + y) := by
  have h3 : (digs (x + y).natAbs).length <= 6 := digs_len_le (by omega)
  rw [iadd, enc_small (by omega), enc_small (by omega)]
  simp only [Bool.and_self, if_true]
  rw [ival_enc, ival_enc]
  exact icap_fit (by omega)
end Go.Proofs.YtbgokfhcgcoipaaDoor
namespace Go.Proofs.YtbgokfhcgcoipaaDoor
open Go Go.Proofs.YtbgokfhcgcoipaaDoor.Sx
def zeroMoney : List D0 := [.str ByteArray.empty, .bool false, .ints []]
def moneyMk (cur : ByteArray) (z : Int) : List D0 := if moneyOk (.str cur :: enc z) then .str cur :: enc z else zeroMoney
theorem moneyMk_code (cur : ByteArray) (z : Int) : (moneyMk cur z).map D0.code = [.str, .bool, .ints] := by unfold moneyMk; split <;> rfl
end Go.Proofs.YtbgokfhcgcoipaaDoor
namespace Go.Proofs.YtbgokfhcgcoipaaDoor
open Go Go.Proofs.YtbgokfhcgcoipaaDoor.Sx
def moneyVal : List D0 -> Int
  | [.str c, .bool b, .ints z] => ival [.bool b, .ints z]
  | _ => 0
def msOk (cur : ByteArray) : List D0 -> Bool
  | [.str c, .bool b, .ints z] => moneyOk [.str c, .bool b, .ints z] && decide (c = cur)
  | _ => false
theorem val_bound {cur : ByteArray} {x : List D0} (h : msOk cur x = true) : (moneyVal x).natAbs <= 1000000000000000000000000000000000000 := by
  unfold msOk at h
  split at h
  · simp only [Bool.and_eq_true] at h
    exact money_bound h.1
  · cases h
theorem impl_moneyOf_c {w : World} (ht : Tab w) {B : Nat} {xs : List Value} {z : Int} {f : List Nat} (cur : ByteArray) (h : Owns w B xs (enc z) f) (hnd : f.Nodup) (hB : B <= w.heap.size) :
    Ret P n_impl_moneyOf [.string cur, .agg ⟨xs⟩] w fun v w' => ∃ vs f', v = .tuple #[.agg ⟨vs⟩, .bool (moneyOk (.str cur :: enc z))] /\ Owns w' B vs (moneyMk cur z) f' /\ f'.Nodup /\ Ext w w' := by
  have ho := h
  obtain ⟨a0, a1p, a1n, a1c, a1z, rfl, hd, ha⟩ := open_Signed h.reps (enc_code _)
  refine impl_moneyOf_ret ?_
  unfold impl_moneyOf
  intro r w1 hn1 r1 w2 hn2
  refine ⟨_, _, _, _, (hn1.blk.ext hn2.ext).loadA0 (by kernel_rfl), ?_⟩
  intro r2 w3 hn3
  have e1 := hn1.r_eq; have e2 := hn2.r_eq; have e3 := hn3.r_eq; have s1 := hn1.size; have s2 := hn2.size; have s3 := hn3.size
  obtain ⟨w4, st4, hb4, y4⟩ := hn3.fill (P := P) (t := T_impl_Money) (xs := [.string cur, .bool a0, .slice a1p a1n a1c]) (by simp [Value.oneCell']) (by kernel_rfl) rfl
  have X := (hn1.ext.trans hn2.ext).trans y4
  have k1 := hn2.blk.ext y4
  refine ⟨w4, st4, _, _, _, _, _, hb4.loadA0 (by kernel_rfl), ?_⟩
  have hm : Reps w4 [.string cur, .bool a0, .slice a1p a1n a1c] (.str cur :: enc z) := ⟨rfl, h.reps.ext X⟩
  refine Ret.at (impl_MoneyOk_c (ht.ext X) hm rfl) ?_
  rintro v w5 ⟨hv, y5⟩
  subst hv
  have X5 := X.trans y5
  refine ⟨_, rfl, fun hyes => ?_, fun hno => ?_⟩
  · obtain ⟨w6, st6, hb6, ch, sz⟩ := (k1.ext y5).storeA0 (P := P) (t := T_impl_Money) (xs := [.string cur, .bool a0, .slice a1p a1n a1c]) (by kernel_rfl) rfl (by simp [Value.oneCell'])
    refine ⟨_, _, _, _, _, (hb4.ext y5).loadA0 (by kernel_rfl), w6, st6, _, _, _, _, _, hb6.loadA0 (by kernel_rfl), [.string cur, .bool a0, .slice a1p a1n a1c], f, by rw [hyes], ?_, hnd, X5.chg ch (by simp; omega)⟩
    unfold moneyMk
    rw [hyes]
    have h5 := ((ho.ext X5).chg ch fun k hk hm => by
      have := (ho.lt k hk).2
      simp at hm; omega)
    exact Owns.append (Owns.str _ _ cur) h5
  · obtain ⟨w6, st6, hb6, ch, sz⟩ := (k1.ext y5).storeA0 (P := P) (t := T_impl_Money) (xs := [.string ByteArray.empty, .bool false, .slice none 0 0]) (by kernel_rfl) rfl (by simp [Value.oneCell'])
    refine ⟨w6, st6, _, _, _, _, _, hb6.loadA0 (by kernel_rfl), [.string ByteArray.empty, .bool false, .slice none 0 0], [], by rw [hno], ?_, List.nodup_nil, X5.chg ch (by simp; omega)⟩
    unfold moneyMk
    rw [hno]
    exact Owns.append (Owns.str _ _ _) (Owns.append (Owns.bool _ _ false) (Owns.ints (zs := []) (Own.nil w6 B T_int 1)))
end Go.Proofs.YtbgokfhcgcoipaaDoor
namespace Go.Proofs.YtbgokfhcgcoipaaDoor
open Go Go.Proofs.YtbgokfhcgcoipaaDoor.Sx
theorem impl_intCopy_c {w : World} {xs : List Value} {dx : List D0} (h : Reps w xs dx) (hc : dx.map D0.code = [.bool, .ints]) (hb : bulks dx <= 100000000) :
    Ret P n_impl_intCopy [.agg ⟨xs⟩] w fun v w' => ∃ vs' f, v = .agg ⟨vs'⟩ /\ Owns w' w.heap.size vs' dx f /\ f.Nodup /\ Ext w w' := by
  obtain ⟨a0, a1p, a1n, a1c, a1z, rfl, rfl, ha⟩ := open_Signed h hc
  have l1 := ha.1
  simp only [bulks, D0.bulk, List.map_cons, List.map_nil, List.sum_cons, List.sum_nil] at hb
  refine impl_intCopy_ret ?_
  unfold impl_intCopy
  intro r w1 hn1 r1 w2 hn2
  have D := Ext.drew w2
  have X := (hn1.ext.trans hn2.ext).trans D
  have k0 := hn1.blk.ext hn2.ext; have k1 := hn2.blk.ext D
  have e2 := hn2.r_eq; have s1 := hn1.size; have s2 := hn2.size; have lD := D.le
  refine ⟨_, fun W hW => (k0.ext (D.trans hW)).loadAt 0 rfl (by kernel_rfl) rfl, _, _, _, fun W hW => (k0.ext (D.trans hW)).loadAt 1 rfl (by kernel_rfl) rfl, ?_⟩
  refine Ret.at (impl_natCopy_c (ha.ext X) (by omega)) ?_
  rintro v w3 ⟨p, c, hv, ho, y3⟩
  subst hv
  obtain ⟨w4, st, hb4, ch, sz⟩ := (k1.ext y3).storeA0 (P := P) (t := T_impl_Signed) (xs := [.bool a0, .slice p a1n c]) (by kernel_rfl) rfl (by simp [Value.oneCell'])
  exact ⟨_, _, _, rfl, y3, w4, st, _, _, _, _, hb4.loadA0 (by kernel_rfl), _, _, rfl, ((Owns.int2 ho).chg1 ch (by omega)).mono (by omega), nodup_opt p, (X.trans y3).chg ch (by simp; omega)⟩
end Go.Proofs.YtbgokfhcgcoipaaDoor
namespace Go.Proofs.YtbgokfhcgcoipaaDoor
open Go Go.Proofs.YtbgokfhcgcoipaaDoor.Sx
theorem sumAdd_bound {M N : Nat} : ∀ {s : List (ByteArray × Int)} {c : ByteArray} {u : Int}, (∀ x ∈ s, x.2.natAbs <= M) -> u.natAbs <= N -> ∀ x ∈ sumAdd s c u, x.2.natAbs <= M + N
  | [], c, u, _, hu, x, hx => by simp [sumAdd] at hx; subst hx; show u.natAbs <= M + N; omega
  | y :: r, c, u, h, hu, x, hx => by
    have hy := h y List.mem_cons_self
    have hr : ∀ x ∈ r, x.2.natAbs <= M := fun x hx => h x (List.mem_cons_of_mem _ hx)
    unfold sumAdd at hx
    split at hx
    · rcases List.mem_cons.1 hx with hx | hx
      · rw [hx]; omega
      · exact sumAdd_bound hr hu x hx
    · split at hx
      · rcases List.mem_cons.1 hx with hx | hx
        · rw [hx]; show (y.2 + u).natAbs <= M + N; omega
        · have := hr x hx; omega
      · rcases List.mem_cons.1 hx with hx | hx
        · rw [hx]; show u.natAbs <= M + N; omega
        · have := h x hx; omega
theorem money_abs {c : ByteArray} {b : Bool} {z : List Int} (h : moneyOk [.str c, .bool b, .ints z] = true) : ∃ u : Int, [D0.bool b, .ints z] = enc u /\ u = ival [.bool b, .ints z] /\ u.natAbs <= 1000000000000000000000000000000000000 := by
  have hi := moneyOk_int h
  refine ⟨_, (intOk_enc hi).1, rfl, ?_⟩
  have : msOk c [.str c, .bool b, .ints z] = true := by simp only [msOk, h, decide_true, Bool.and_self]
  exact val_bound this
end Go.Proofs.YtbgokfhcgcoipaaDoor
namespace Go.Proofs.YtbgokfhcgcoipaaDoor
open Go Go.Proofs.YtbgokfhcgcoipaaDoor.Sx
def nz (s : List (ByteArray × Int)) : List (ByteArray × Int) := s.filter fun x => decide (x.2 ≠ 0)
end Go.Proofs.YtbgokfhcgcoipaaDoor
namespace Go.Proofs.YtbgokfhcgcoipaaDoor
open Go Go.Proofs.YtbgokfhcgcoipaaDoor.Sx
def debtKV : List D0 -> ByteArray × ByteArray × Int
  | [.str a, .str b, .str _, .bool s, .ints z] => (a, b, ival [.bool s, .ints z])
  | _ => (ByteArray.empty, ByteArray.empty, 0)
def posStep (s : List (ByteArray × Int)) (x : List D0) : List (ByteArray × Int) := sumAdd (sumAdd s (debtKV x).2.1 (debtKV x).2.2) (debtKV x).1 (-(debtKV x).2.2)
def posTo (l : List (List D0)) (j : Nat) : List (ByteArray × Int) := (l.take j).foldl posStep []
theorem posTo_succ {l : List (List D0)} {j : Nat} (h : j < l.length) : posTo l (j + 1) = posStep (posTo l j) l[j] := by
  unfold posTo
  rw [List.take_succ_eq_append_getElem h, List.foldl_append]
  rfl
theorem posTo_ordered (l : List (List D0)) : ∀ j, j <= l.length -> Ordered (posTo l j)
  | 0, _ => List.Pairwise.nil
  | j + 1, h => by rw [posTo_succ (by omega)]; exact sumAdd_ordered (sumAdd_ordered (posTo_ordered l j (by omega)))
theorem posTo_len (l : List (List D0)) : ∀ j, j <= l.length -> (posTo l j).length <= 2 * j
  | 0, _ => Nat.le_refl _
  | j + 1, h => by
    rw [posTo_succ (by omega)]
    unfold posStep
    have h1 := (sumAdd_len (sumAdd (posTo l j) (debtKV l[j]).2.1 (debtKV l[j]).2.2) (debtKV l[j]).1 (-(debtKV l[j]).2.2)).1
    have h2 := (sumAdd_len (posTo l j) (debtKV l[j]).2.1 (debtKV l[j]).2.2).1
    have := posTo_len l j (by omega)
    omega
theorem debt_facts {cur : ByteArray} {x : List D0} (hc : x.map D0.code = [.str, .str, .str, .bool, .ints]) (h : debtOk cur x = true) : ∃ a b c u, x = .str a :: .str b :: .str c :: enc u /\ u.natAbs <= 1000000000000000000000000000000000000 /\ debtKV x = (a, b, u) /\ a ≠ b /\ intOk (enc u) = true := by
  obtain ⟨a, es, he, c1⟩ := code_str hc
  obtain ⟨b, es2, he2, c2⟩ := code_str c1
  obtain ⟨c, es3, he3, c3⟩ := code_str c2
  obtain ⟨s, es4, he4, c4⟩ := code_bool c3
  obtain ⟨z, es5, he5, c5⟩ := code_ints c4
  have := code_nil c5
  subst this; subst he5; subst he4; subst he3; subst he2; subst he
  simp only [debtOk, Bool.and_eq_true, Bool.not_eq_true', decide_eq_false_iff_not] at h
  obtain ⟨u, h1, h2, h3⟩ := money_abs h.1.1.1.1.1
  have hi := moneyOk_int h.1.1.1.1.1
  rw [h1] at hi
  exact ⟨a, b, c, u, by rw [h1], h3, by rw [h2]; rfl, h.2, hi⟩
theorem debts_facts {cur : ByteArray} {l : List (List D0)} (h : debtsOk cur l = true) : l.length <= 20 /\ ∀ x ∈ l, debtOk cur x = true := by
  simp only [debtsOk, Bool.and_eq_true, decide_eq_true_eq, List.all_eq_true] at h
  exact ⟨h.1.2, h.2⟩
theorem posTo_bound {cur : ByteArray} {l : List (List D0)} (hc : ∀ x ∈ l, x.map D0.code = [.str, .str, .str, .bool, .ints]) (hok : debtsOk cur l = true) : ∀ j, j <= l.length -> ∀ x ∈ posTo l j, x.2.natAbs <= (2 * j) * 1000000000000000000000000000000000000
  | 0, _, x, hx => by simp [posTo] at hx
  | j + 1, h, x, hx => by
    rw [posTo_succ (by omega)] at hx
    have hm : l[j] ∈ l := List.getElem_mem (by omega)
    obtain ⟨a, b, c, u, he, hu, hk, _, _⟩ := debt_facts (hc _ hm) ((debts_facts hok).2 _ hm)
    unfold posStep at hx
    rw [hk] at hx
    have h1 := sumAdd_bound (c := b) (posTo_bound hc hok j (by omega)) hu
    have h2 := sumAdd_bound (N := 1000000000000000000000000000000000000) (c := a) h1 (by rw [Int.natAbs_neg]; exact hu) x hx
    rw [show 2 * (j + 1) = (2 * j + 1) + 1 by omega, Nat.succ_mul, Nat.succ_mul]
    exact h2
def posT (cur : ByteArray) (l : List (List D0)) : List (List D0) := if debtsOk cur l then sumsRows (posTo l l.length) else []
theorem posT_code (cur : ByteArray) (l : List (List D0)) : ∀ x ∈ posT cur l, x.map D0.code = [.str, .bool, .ints] := by
  unfold posT
  split
  · exact sumsRows_code
  · intro x hx; simp at hx
theorem cntL_small : ∀ (s : List (ByteArray × Int)), (∀ x ∈ s, x.2.natAbs <= 40000000000000000000000000000000000000) -> cntL (sumsRows s) <= (s.length : Nat) * 8
  | [], _ => by simp [sumsRows, cntL]
  | x :: s, h => by
    have ih := cntL_small s (fun y hy => h y (List.mem_cons_of_mem _ hy))
    have hx := h x List.mem_cons_self
    have hl : (digs x.2.natAbs).length <= 6 := digs_len_le (by omega)
    have he : cntL (sumsRows (x :: s)) = cnts (.str x.1 :: enc x.2) + cntL (sumsRows s) := rfl
    rw [he]
    have hc : cnts (.str x.1 :: enc x.2) = 1 + (1 + (((digs x.2.natAbs).length : Nat) + 0)) := rfl
    rw [hc, List.length_cons]
    omega
theorem pos40 {cur : ByteArray} {l : List (List D0)} (hc : ∀ x ∈ l, x.map D0.code = [.str, .str, .str, .bool, .ints]) (hok : debtsOk cur l = true) {j : Nat} (hj : j <= l.length) : ∀ x ∈ posTo l j, x.2.natAbs <= 40000000000000000000000000000000000000 := fun x hx => by
  have h1 := posTo_bound hc hok j hj x hx
  have h2 := (debts_facts hok).1
  exact Nat.le_trans h1 (Nat.le_trans (Nat.mul_le_mul_right _ (show 2 * j <= 40 by omega)) (by decide))
theorem posT_cnt {cur : ByteArray} {l : List (List D0)} (hc : ∀ x ∈ l, x.map D0.code = [.str, .str, .str, .bool, .ints]) : cntL (posT cur l) <= 1000000000 := by
  unfold posT
  split
  · rename_i h
    have h1 := cntL_small (posTo l l.length) (pos40 hc h (Nat.le_refl _))
    have h3 := posTo_len l l.length (Nat.le_refl _)
    have h4 := (debts_facts h).1
    omega
  · decide
theorem bump {w5 : World} {B b n2 c2 : Nat} {s : List (ByteArray × Int)} {key : ByteArray} {f2 : List Nat} {e : TypeId} (ho5 : OwnRows w5 B e 3 (some ⟨b, 0, none⟩) n2 c2 (sumsRows (sumAdd s key 0)) f2) (ht : aggT P T_impl_Signed 2 = true) :
    ∃ (v : Int) (kp : Option Addr) (kn kc : Nat), B <= b /\ b < w5.heap.size /\ (sumAdd s key 0)[posOf s key]? = some (key, v) /\ (∀ W, Ext w5 W -> Loads P T_impl_Signed ((⟨b, posOf s key * 3, none⟩ : Addr).add 1) (.agg #[.bool (decide (v < 0)), .slice kp kn kc]) W) /\
      Reps w5 [.bool (decide (v < 0)), .slice kp kn kc] (enc v) /\
      ∀ (u : Int) (W8 : World) (b8 : Bool) (p8 : Option Addr) (n8 c8 : Nat) (f8 : List Nat), Ext w5 W8 -> Owns W8 B [.bool b8, .slice p8 n8 c8] (enc (v + u)) f8 -> f8.Nodup -> (∀ q ∈ f8, w5.heap.size <= q) ->
        ∃ w9 f9, Stores P T_impl_Signed ((⟨b, posOf s key * 3, none⟩ : Addr).add 1) (.agg #[.bool b8, .slice p8 n8 c8]) W8 w9 /\ OwnRows w9 B e 3 (some ⟨b, 0, none⟩) n2 c2 (sumsRows (sumAdd s key u)) f9 /\ Chg [b] W8 w9 /\ w9.heap.size = W8.heap.size /\ (∀ q ∈ f9, q ∈ f2 ∨ q ∈ f8) := by
  obtain ⟨v, hv1, _⟩ := sumAdd_two (s := s) (c := key) (u := 0)
  have hrow : (sumsRows (sumAdd s key 0))[posOf s key]? = some (.str key :: enc v) := by
    unfold sumsRows
    rw [List.getElem?_map, hv1]
    rfl
  obtain ⟨b', xs, cs5, zs, hpb, hbB, hbf, hxl, hcl, hblk, hrep, hput⟩ := ho5.put hrow
  simp only [Option.some.injEq, Addr.mk.injEq, and_true] at hpb
  obtain rfl := hpb
  obtain ⟨k0, k1, kp, kn, kc, kz, rfl, hkd, hki⟩ := open_Money hrep rfl
  simp only [enc, List.cons.injEq, D0.str.injEq, D0.bool.injEq, D0.ints.injEq, and_true] at hkd
  obtain ⟨rfl, rfl, rfl⟩ := hkd
  refine ⟨v, kp, kn, kc, hbB, hblk.lt, hv1, fun W hW => (hblk.ext hW).loadAAt (posOf s key * 3 + 1) [.bool (decide (v < 0)), .slice kp kn kc] (by rw [addr_add]) ht (by rw [<- hxl, List.append_assoc, List.drop_length_add_append]; rfl), ⟨rfl, ⟨_, _, _, rfl, hki⟩, trivial⟩, ?_⟩
  intro u W8 b8 p8 n8 c8 f8 hx h8 hn8 hf8
  have hblk8 := hblk.ext hx
  have hpl : posOf s key * 3 + 3 <= (xs ++ [Value.string key, Value.bool (decide (v < 0)), Value.slice kp kn kc] ++ zs).length := by simp [hxl]
  obtain ⟨w9, st9, hb9, ch9, sz9⟩ := hblk8.storeA (P := P) (t := T_impl_Signed) (k := posOf s key * 3 + 1) (xs := [.bool b8, .slice p8 n8 c8]) ht (by simp only [List.length_cons, List.length_nil]; omega) (by simp [Value.oneCell'])
  have hnew : (xs ++ [Value.string key, Value.bool (decide (v < 0)), Value.slice kp kn kc] ++ zs).take (posOf s key * 3 + 1) ++ [Value.bool b8, .slice p8 n8 c8] ++ (xs ++ [Value.string key, Value.bool (decide (v < 0)), Value.slice kp kn kc] ++ zs).drop (posOf s key * 3 + 1 + [Value.bool b8, .slice p8 n8 c8].length) = xs ++ [Value.string key, Value.bool b8, .slice p8 n8 c8] ++ zs := by
    rw [<- hxl, List.append_assoc xs, List.take_length_add_append, Nat.add_assoc, List.drop_length_add_append]
    simp
  rw [hnew] at hb9
  have hbl := hblk.lt
  have ho9 : Owns w9 B [.string key, .bool b8, .slice p8 n8 c8] (.str key :: enc (v + u)) f8 := Owns.append (Owns.str _ _ key) (h8.chg ch9 (fun k hk hm => by
    have := hf8 k hk
    simp at hm; omega))
  obtain ⟨f9, hor9, hf9⟩ := hput w9 _ _ f8 (hx.toChg.trans ch9) rfl hb9 ho9 hn8 (fun y hy hm => by have := hf8 y hy; have := (ho5.lt y hm).2; omega)
  refine ⟨w9, f9, ?_, ?_, ch9, sz9, hf9⟩
  · rw [addr_add] at st9 ⊢
    rw [Nat.zero_add] at st9
    exact st9
  · obtain ⟨v', hv1', hv2'⟩ := sumAdd_two (s := s) (c := key) (u := u)
    rw [hv1] at hv1'
    simp only [Option.some.injEq, Prod.mk.injEq, true_and] at hv1'
    subst hv1'
    have : sumsRows (sumAdd s key u) = (sumsRows (sumAdd s key 0)).set (posOf s key) (.str key :: enc (v + u)) := by
      rw [hv2']
      unfold sumsRows
      rw [List.map_set]
    rw [this]
    exact hor9
theorem impl_Positions_1_c {w : World} {xs ys : List Value} {a b : ByteArray} {d e : Bool} {z z2 : List Int} (h : Reps w xs [.str a, .bool d, .ints z]) (g : Reps w ys [.str b, .bool e, .ints z2]) :
    Ret P n_impl_Positions_1 [.agg ⟨xs⟩, .agg ⟨ys⟩] w fun v w' => v = .int .i64 (cmpS a b) /\ Ext w w' := by
  obtain ⟨a0, a1, ap, an, ac, az, rfl, hd, _⟩ := open_Pos h rfl
  obtain ⟨b0, b1, bp, bn, bc, bz, rfl, he, _⟩ := open_Pos g rfl
  cases hd
  cases he
  refine impl_Positions_1_ret ?_
  unfold impl_Positions_1
  intro r w1 hn1 r1 w2 hn2
  have q0 := hn1.blk.ext hn2.ext; have q1 := hn2.blk
  have y := hn1.ext.trans hn2.ext
  refine ⟨_, q0.loadAt 0 rfl (by kernel_rfl) rfl, _, q1.loadAt 0 rfl (by kernel_rfl) rfl, fun h => ⟨?_, y⟩, fun h => ⟨_, q0.loadAt 0 rfl (by kernel_rfl) rfl, _, q1.loadAt 0 rfl (by kernel_rfl) rfl, fun g => ⟨?_, y⟩, fun g => ⟨?_, y⟩⟩⟩
  · unfold cmpS; rw [if_pos (show bLess a b = true from h)]
  · unfold cmpS
    rw [if_neg (show ¬ bLess a b = true by show ¬ Op.bytesLess _ _ = true; rw [h]; simp)]
    rw [h] at g
    simp at g
    rw [if_neg g]
  · unfold cmpS
    rw [if_neg (show ¬ bLess a b = true by show ¬ Op.bytesLess _ _ = true; rw [h]; simp)]
    rw [h] at g
    simp at g
    rw [if_pos g]
set_option maxHeartbeats 1000000 in
theorem impl_Positions_o {w : World} (cur : ByteArray) {p : Option Addr} {n c : Nat} {l : List (List D0)} (h : RowsR w 5 p n c l) (hc : ∀ x ∈ l, x.map D0.code = [.str, .str, .str, .bool, .ints]) (hn : n <= 1048576) (hb : ∀ x ∈ l, bulks x <= 1048576) (ht : Tab w) :
    Ret P n_impl_Positions [.string cur, .slice p n c] w fun v w' => ∃ p' n' c' f, v = .tuple #[.slice p' n' c', .bool (debtsOk cur l)] /\ OwnRows w' w.heap.size T_impl_Pos 3 p' n' c' (posT cur l) f /\ Ext w w' := by
  have hln := h.1
  refine impl_Positions_ret ?_
  unfold impl_Positions
  refine Ret.at (impl_DebtsOk_c cur h hc hn hb ht) ?_
  rintro v w0 ⟨hv, y0⟩
  subst hv
  refine ⟨_, rfl, ifN (fun hno => ⟨none, 0, 0, [], by rw [hno], ?_, y0⟩) (fun hok => ?_)⟩
  · have : posT cur l = [] := by unfold posT; rw [hno]; rfl
    rw [this]; exact ⟨rfl, [], [], trivial, Own.nil _ _ _ _, by simp, by simp⟩
  obtain ⟨hl20, hall⟩ := debts_facts hok
  have hlim : ∀ x : Int, x.natAbs <= 100 * 1000000000000000000000000000000000000 -> (digs x.natAbs).length <= 10000000 := fun x hx => by have := digs_len_le (n := x.natAbs) (by omega); omega
  intro r w1 hn1
  have e1 := hn1.r_eq; have z1 := hn1.size
  obtain ⟨w2, st2, b2, y2⟩ := hn1.fill (P := P) (t := T_impl_ordered_loop_example_g00793_impl_Pos) (xs := [.slice none 0 0, .func (.func 52) ⟨[]⟩ ⟨[]⟩]) (by simp [Value.oneCell']) (by kernel_rfl) rfl
  have lb2 := b2.lt
  have ly0 := y0.le
  have hcf : ∀ (W : World) (cs ys : List Value) (a b : ByteArray) (d e : Bool) (z z2 : List Int) (w' : World), Ext W w' -> Reps w' cs [.str a, .bool d, .ints z] -> Reps w' ys [.str b, .bool e, .ints z2] -> CallW P (.func (.func 52) ⟨[]⟩ ⟨[]⟩) [.agg ⟨cs⟩, .agg ⟨ys⟩] w' fun e w'' => e = .returned (.int .i64 (cmpS a b)) /\ Ext w' w'' := by
    intro W cs ys a b d e z z2 w' _ h1 h2
    refine ⟨_, _, _, rfl, by kernel_rfl, ?_⟩
    refine Calls.mono (impl_Positions_1_c h1 h2) ?_
    rintro e w'' ⟨v, he, hv, y⟩
    subst hv
    exact ⟨he, y⟩
  refine ⟨w2, st2, fun i wr => ∃ (j : Nat) (p' : Option Addr) (n' c' : Nat) (f : List Nat), i = j /\ j <= n /\ Blk wr r T_impl_ordered_loop_example_g00793_impl_Pos [.slice p' n' c', .func (.func 52) ⟨[]⟩ ⟨[]⟩] /\ OwnRows wr (r + 1) T_impl_Pos 3 p' n' c' (sumsRows (posTo l j)) f /\ Ext w wr, fun i _ => n - i.toNat, ⟨0, none, 0, 0, [], rfl, Nat.zero_le _, b2, ⟨rfl, [], [], trivial, Own.nil _ _ _ _, by simp, by simp⟩, y0.trans y2⟩, ?_⟩
  intro junk wr i ⟨j, p', n', c', f, hij, hj, hbr, ho, hx⟩
  subst hij
  refine ifD (fun hlt => ?_) (fun hge => ?_)
  rotate_left
  · have hjn : j = n := by omega
    subst hjn
    refine ⟨_, _, _, hbr.loadAt 0 rfl (by kernel_rfl) rfl, _, _, _, f, by rw [hok], ?_, hx⟩
    have : posT cur l = sumsRows (posTo l j) := by unfold posT; rw [hok, if_pos rfl, hln]
    rw [this]
    exact ho.mono (by omega)
  have hjn : j < n := by omega
  have hjl : j < l.length := by omega
  have hrl := hbr.lt
  have hm : l[j] ∈ l := List.getElem_mem hjl
  obtain ⟨from_, to_, dc, u, he, hu, hkv, hab, _⟩ := debt_facts (hc _ hm) (hall _ hm)
  obtain ⟨bl, offl, hpl, hsl0⟩ := h.2.2.2 (by omega)
  subst hpl
  obtain ⟨cs, hk, hr0, hsg⟩ := hsl0 j _ (List.getElem?_eq_getElem hjl)
  rw [he] at hr0
  obtain ⟨s0, s1, s2, s3, sp, sn, sc, sz, rfl, hd, hsi⟩ := open_Debt hr0 rfl
  simp only [enc, List.cons.injEq, D0.str.injEq, D0.bool.injEq, D0.ints.injEq, and_true] at hd
  obtain ⟨rfl, rfl, rfl, rfl, rfl⟩ := hd
  have hru : ∀ W, Ext w W -> Reps W [.bool (decide (u < 0)), .slice sp sn sc] (enc u) := fun W hW => ⟨rfl, ⟨_, _, _, rfl, hsi.ext hW⟩, trivial⟩
  have hld : Loads P T_impl_Debt ((⟨bl, offl, none⟩ : Addr).add (j * 5)) (.agg ⟨[.string from_, .string to_, .string dc, .bool (decide (u < 0)), .slice sp sn sc]⟩) wr := (hsg.ext hx).loadAAt 0 _ (by rw [addr_add]; rfl) (by kernel_rfl) rfl
  refine ⟨⟨by omega, by omega⟩, _, _, _, _, _, _, _, by rw [Int.toNat_natCast]; exact hld, ?_⟩
  intro r1 w3 hn3
  have e3 := hn3.r_eq
  obtain ⟨w4, st4, b4, y4⟩ := hn3.fill (P := P) (t := T_impl_Debt) (xs := [.string from_, .string to_, .string dc, .bool (decide (u < 0)), .slice sp sn sc]) (by simp [Value.oneCell']) (by kernel_rfl) rfl
  have lx := hx.le; have l4 := y4.le
  have hsl := ho.1
  rw [sumsRows_len] at hsl
  have hslen := posTo_len l j (by omega)
  have hsz := pos40 hc hok (j := j) (by omega)
  have lb4 := b4.lt
  refine ⟨w4, st4, _, b4.loadAt 1 rfl (by kernel_rfl) rfl, ?_⟩
  refine Ret.at (at_Pos_c (hbr.ext y4) (ho.ext y4) (posTo_ordered l j (by omega)) (fun hm => by have := (ho.lt r hm).1; omega) (by omega) (by omega) rfl (hcf w4) to_) ?_
  rintro v w5 ⟨b, n2, c2, f2, hv, hb5, ho5, hch5, hf5⟩
  subst hv
  have hpB : ∀ q ∈ (p'.map (·.block)).toList, q ∈ f := fun q hq => by obtain ⟨_, _, _, _, _, hf, _⟩ := ho; rw [hf]; exact List.mem_append_left _ hq
  have X5 : Ext w w5 := (hx.trans y4).chg hch5 (fun q hq => by
    rcases List.mem_cons.1 hq with hq | hq
    · omega
    · have := (ho.lt q (hpB q hq)).1; omega)
  have b4' : Blk w5 r1 T_impl_Debt [.string from_, .string to_, .string dc, .bool (decide (u < 0)), .slice sp sn sc] := b4.chg hch5 (fun hm => by
    rcases List.mem_cons.1 hm with hm | hm
    · omega
    · have := (ho.lt r1 (hpB r1 hm)).2; omega)
  have l5 := hch5.size
  obtain ⟨v, kp, kn, kc, hbB, hblt, hat, hld1, hrv, hbump⟩ := bump ho5 (by kernel_rfl)
  have hvb : v.natAbs <= 41 * 1000000000000000000000000000000000000 := by
    have := sumAdd_bound (N := 0) (c := to_) (u := 0) hsz (by simp) _ (List.mem_of_getElem? hat)
    exact Nat.le_trans this (by decide)
  have d5 := Ext.drew w5
  refine ⟨_, rfl, _, _, _, _, fun W hW => hld1 W (d5.trans hW), _, _, _, _, fun W hW => ((b4'.ext d5).ext hW).loadAAt 3 [.bool (decide (u < 0)), .slice sp sn sc] rfl (by kernel_rfl) rfl, ?_⟩
  refine Ret.at (impl_intAdd_c (hrv.ext d5) (hru _ (X5.trans d5)) (hlim v (Nat.le_trans hvb (Nat.mul_le_mul_right _ (by decide)))) (hlim u (Nat.le_trans hu (Nat.le_mul_of_pos_left _ (by decide))))) ?_
  rintro v8 w8 ⟨mp, mn, mc, hv8, hown8, y8⟩
  subst hv8
  have Y8 := d5.trans y8
  have lY8 := Y8.le
  obtain ⟨w9, f9, st9, ho9, ch9, sz9, hf9⟩ := hbump u w8 _ mp mn mc (mp.map (·.block)).toList Y8 ((Owns.int2 (b := decide (v + u < 0)) hown8).mono (by have := d5.le; omega)) (nodup_opt mp) (fun q hq => by
    have h1 := (World.ownsRow.lt hown8 q (by cases mp <;> simp_all [Value.ownBlock])).1
    have := d5.le; omega)
  have X9 : Ext w w9 := (X5.trans Y8).chg ch9 (by simp; omega)
  have hb9 : Blk w9 r T_impl_ordered_loop_example_g00793_impl_Pos [.slice (some ⟨b, 0, none⟩) n2 c2, .func (.func 52) ⟨[]⟩ ⟨[]⟩] := (hb5.ext Y8).chg ch9 (by simp; omega)
  have b49 : b ≠ r1 := fun e => by
    have hbin : b ∈ f2 := by obtain ⟨_, _, _, _, _, hf, _⟩ := ho5; rw [hf]; simp
    rcases hf5 b hbin with h1 | h1
    · have := (ho.lt b h1).2; omega
    · omega
  have b4'' := (b4'.ext Y8).chg ch9 (by simp; omega)
  have hs1 := sumAdd_ordered (c := to_) (u := u) (posTo_ordered l j (by omega))
  have hn2 := ho9.1
  rw [sumsRows_len] at hn2
  have hlen1 := (sumAdd_len (posTo l j) to_ u).1
  have hsz1 := sumAdd_bound (c := to_) hsz hu
  have hf9r : ∀ q ∈ f9, r + 1 <= q := fun q hq => (ho9.lt q hq).1
  refine ⟨_, _, _, _, rfl, w9, st9, _, b4''.loadAt 0 rfl (by kernel_rfl) rfl, ?_⟩
  refine Ret.at (at_Pos_c hb9 ho9 hs1 (fun hm => by have := hf9r r hm; omega) (by omega) (by omega) rfl (hcf w9) from_) ?_
  rintro v w10 ⟨b', n3, c3, f3, hv, hb10, ho10, hch10, hf10⟩
  subst hv
  have hbin9 : b ∈ f9 := by obtain ⟨_, _, _, _, _, hf, _⟩ := ho9; rw [hf]; simp
  have X10 : Ext w w10 := X9.chg hch10 (fun q hq => by
    rcases List.mem_cons.1 hq with hq | hq
    · omega
    · simp at hq; omega)
  have b410 : Blk w10 r1 T_impl_Debt [.string from_, .string to_, .string dc, .bool (decide (u < 0)), .slice sp sn sc] := b4''.chg hch10 (fun hm => by
    rcases List.mem_cons.1 hm with hm | hm
    · omega
    · simp at hm; omega)
  have l10 := hch10.size
  obtain ⟨v2, kp2, kn2, kc2, hbB2, hblt2, hat2, hld2, hrv2, hbump2⟩ := bump ho10 (by kernel_rfl)
  have hvb2 : v2.natAbs <= 42 * 1000000000000000000000000000000000000 := by
    have := sumAdd_bound (N := 0) (c := from_) (u := 0) hsz1 (by simp) _ (List.mem_of_getElem? hat2)
    exact Nat.le_trans this (by decide)
  have d10 := Ext.drew w10
  refine ⟨_, rfl, _, _, _, _, fun W hW => hld2 W (d10.trans hW), _, _, _, _, fun W hW => ((b410.ext d10).ext hW).loadAAt 3 [.bool (decide (u < 0)), .slice sp sn sc] rfl (by kernel_rfl) rfl, ?_⟩
  refine Ret.at (impl_intNeg_c (hru _ (X10.trans d10)) (hlim u (Nat.le_trans hu (Nat.le_mul_of_pos_left _ (by decide))))) ?_
  rintro v11 w11 ⟨vs11, f11, hv11, ho11, nd11, y11⟩
  subst hv11
  obtain ⟨g0, gp, gn, gc', gz, rfl, _, _⟩ := open_Signed ho11.reps (enc_code _)
  refine ⟨_, _, _, _, rfl, y11, ?_⟩
  refine Ret.at (impl_intAdd_c ((hrv2.ext d10).ext y11) ho11.reps (hlim v2 (Nat.le_trans hvb2 (Nat.mul_le_mul_right _ (by decide)))) (hlim (-u) (by rw [Int.natAbs_neg]; exact Nat.le_trans hu (Nat.le_mul_of_pos_left _ (by decide))))) ?_
  rintro v12 w12 ⟨mp2, mn2, mc2, hv12, hown12, y12⟩
  subst hv12
  have Y12 := (d10.trans y11).trans y12
  have lY12 := Y12.le
  have ly11 := (d10.trans y11).le
  obtain ⟨w13, f13, st13, ho13, ch13, sz13, hf13⟩ := hbump2 (-u) w12 _ mp2 mn2 mc2 (mp2.map (·.block)).toList Y12 ((Owns.int2 (b := decide (v2 + -u < 0)) hown12).mono (by omega)) (nodup_opt mp2) (fun q hq => by
    have h1 := (World.ownsRow.lt hown12 q (by cases mp2 <;> simp_all [Value.ownBlock])).1
    omega)
  have X13 : Ext w w13 := (X10.trans Y12).chg ch13 (by simp; omega)
  refine ⟨_, _, _, _, rfl, w13, st13, exW ⟨by omega, by omega⟩ ⟨⟨j + 1, _, _, _, f13, rfl, by omega, (hb10.ext Y12).chg ch13 (by simp; omega), ?_, X13⟩, by show n - ((j : Int) + 1).toNat < n - (j : Int).toNat; omega⟩⟩
  rw [posTo_succ hjl]
  unfold posStep
  rw [hkv]
  exact ho13
end Go.Proofs.YtbgokfhcgcoipaaDoor
namespace Go.Proofs.YtbgokfhcgcoipaaDoor
open Go Go.Proofs.YtbgokfhcgcoipaaDoor.Sx
theorem impl_Positions_c {w : World} (cur : ByteArray) {p : Option Addr} {n c : Nat} {l : List (List D0)} (h : RowsR w 5 p n c l) (hc : ∀ x ∈ l, x.map D0.code = [.str, .str, .str, .bool, .ints]) (hn : n <= 1048576) (hb : ∀ x ∈ l, bulks x <= 1048576) (ht : Tab w) :
    Ret P n_impl_Positions [.string cur, .slice p n c] w fun v w' => ∃ p' n' c' f, v = .tuple #[.slice p' n' c', .bool (debtsOk cur l)] /\ OwnRows w' w.heap.size T_impl_Pos 3 p' n' c' (posT cur l) f /\ (∀ x ∈ posT cur l, x.map D0.code = [.str, .bool, .ints]) /\ cntL (posT cur l) <= 1000000000 /\ Ext w w' :=
  (impl_Positions_o cur h hc hn hb ht).mono fun v w' ⟨p', n', c', f, hv, ho, hx⟩ => ⟨p', n', c', f, hv, ho, posT_code cur l, posT_cnt hc, hx⟩
end Go.Proofs.YtbgokfhcgcoipaaDoor
namespace Go.Proofs.YtbgokfhcgcoipaaDoor
open Go Go.Proofs.YtbgokfhcgcoipaaDoor.Sx
theorem OwnRows_pushG {P : Program} {w : World} {B : Nat} {t e : TypeId} {z : Value} {k bytes : Nat} {p : Option Addr} {n c r : Nat} {l : List (List D0)} {f fx : List Nat} {cs : List Value} {x : List D0} (h : OwnRows w B e k p n c l f)
    (hT : sliceT P t e z k bytes) (hb : B <= w.heap.size) (hr : Blk w r e cs) (hl : cs.length = k) (ho : Owns w B cs x fx) (hfx : fx.Nodup) (hdis : ∀ q ∈ fx, q ∉ f)
    (hbytes : (n + 1) * bytes <= 140737488355328) (hby : 1 <= bytes) :
    ∃ p' c' w' f', Appends P [t, t] [.slice p n c, .slice (some ⟨r, 0, none⟩) 1 1] (.slice p' (n + 1) c') w w' /\ OwnRows w' B e k p' (n + 1) c' (l ++ [x]) f' /\ Chg (p.map (·.block)).toList w w' /\
      (∀ q ∈ f', q ∈ f ∨ q ∈ fx ∨ w.heap.size <= q) /\ (p'.map (·.block) = p.map (·.block) ∨ ∀ q, p'.map (·.block) = some q -> w.heap.size <= q) := by
  obtain ⟨hln, css, fs, ha, hown, rfl, hnd⟩ := h
  obtain ⟨p', c', w', hrun, hown', hch, hp⟩ := hown.push1 hT hb hr hl ho.reps.cells1 hbytes hby
  have hpl : ∀ q ∈ (p.map (·.block)).toList, B <= q := fun q hq => (World.ownsRow.lt hown q (by cases p <;> simp_all [Value.ownBlock])).1
  have hnd1 := (List.nodup_append.1 hnd)
  have hpin : ∀ q ∈ fs.flatten, q ∉ (p.map (·.block)).toList := fun q hq hm => hnd1.2.2 q hm q hq rfl
  have hpx : ∀ q ∈ fx, q ∉ (p.map (·.block)).toList := fun q hq hm => hdis q hq (List.mem_append_left _ hm)
  have hlt : ∀ q ∈ fs.flatten ++ fx, q < w.heap.size := fun q hq => by
    rcases List.mem_append.1 hq with hq | hq
    · exact (ha.lt q hq).2
    · exact (ho.lt q hq).2
  have e : (fs ++ [fx]).flatten = fs.flatten ++ fx := by simp
  refine ⟨p', c', w', (p'.map (·.block)).toList ++ (fs ++ [fx]).flatten, hrun, ⟨by simp [hln], css ++ [cs], fs ++ [fx], (ha.chg hch hpin).snoc hl (ho.chg hch hpx), by simpa using hown', rfl, ?_⟩, hch, fun q hq => ?_, hp⟩
  rotate_left
  · rw [e] at hq
    rcases List.mem_append.1 hq with hq | hq
    · have hpa := opt_mem hq
      rcases hp with hp | hp
      · rw [hp] at hpa
        exact .inl (List.mem_append_left _ (mem_opt hpa))
      · exact .inr (.inr (hp q hpa))
    · rcases List.mem_append.1 hq with hq | hq
      · exact .inl (List.mem_append_right _ hq)
      · exact .inr (.inl hq)
  rw [e, List.nodup_append]
  refine ⟨by cases p' <;> simp, ?_, ?_⟩
  · rw [List.nodup_append]
    exact ⟨hnd1.2.1, hfx, fun a ha b hb e => hdis b hb (by rw [<- e]; exact List.mem_append_right _ ha)⟩
  · intro a ha b hb hab
    subst hab
    have hpa := opt_mem ha
    rcases hp with hp | hp
    · rw [hp] at hpa
      have ham : a ∈ (p.map (·.block)).toList := mem_opt hpa
      rcases List.mem_append.1 hb with hb | hb
      · exact hpin a hb ham
      · exact hpx a hb ham
    · have := hp a hpa
      have := hlt a hb
      omega
theorem OwnRows_pushF {P : Program} {w : World} {B : Nat} {t e : TypeId} {z : Value} {k bytes : Nat} {p : Option Addr} {n c r : Nat} {l : List (List D0)} {f fx : List Nat} {cs : List Value} {x : List D0} (h : OwnRows w B e k p n c l f)
    (hT : sliceT P t e z k bytes) (hb : B <= w.heap.size) (hr : Blk w r e cs) (hl : cs.length = k) (ho : Owns w B cs x fx) (hfx : fx.Nodup) (hdis : ∀ q ∈ fx, q ∉ f)
    (hbytes : (n + 1) * bytes <= 140737488355328) (hby : 1 <= bytes) :
    ∃ p' c' w' f', Appends P [t, t] [.slice p n c, .slice (some ⟨r, 0, none⟩) 1 1] (.slice p' (n + 1) c') w w' /\ OwnRows w' B e k p' (n + 1) c' (l ++ [x]) f' /\ Chg (p.map (·.block)).toList w w' /\
      (∀ q ∈ f', q ∈ f ∨ q ∈ fx ∨ w.heap.size <= q) := by
  obtain ⟨p', c', w', f', h1, h2, h3, h4, _⟩ := OwnRows_pushG h hT hb hr hl ho hfx hdis hbytes hby
  exact ⟨p', c', w', f', h1, h2, h3, h4⟩
end Go.Proofs.YtbgokfhcgcoipaaDoor
namespace Go.Proofs.YtbgokfhcgcoipaaDoor
open Go Go.Proofs.YtbgokfhcgcoipaaDoor.Sx
theorem sgn_neg0 {z : Int} : sgn z < 0 ↔ z < 0 := by unfold sgn; split <;> (try split) <;> omega
theorem sgn_pos0 {z : Int} : 0 < sgn z ↔ 0 < z := by unfold sgn; split <;> (try split) <;> omega
theorem sgn_nn0 {z : Int} : 0 <= sgn z ↔ 0 <= z := by unfold sgn; split <;> (try split) <;> omega
theorem sgn_range (z : Int) : -1 <= sgn z /\ sgn z <= 1 := by unfold sgn; split <;> (try split) <;> omega
def valAt (s : List (ByteArray × Int)) (i : Nat) : Int := (s.getD i (ByteArray.empty, 0)).2
def keyAt (s : List (ByteArray × Int)) (i : Nat) : ByteArray := (s.getD i (ByteArray.empty, 0)).1
theorem at_get {s : List (ByteArray × Int)} {i : Nat} (h : i < s.length) : s[i] = (keyAt s i, valAt s i) := by
  unfold keyAt valAt
  rw [List.getD_eq_getElem?_getD, List.getElem?_eq_getElem h]
  rfl
theorem val_mem {s : List (ByteArray × Int)} {i : Nat} (h : i < s.length) : (keyAt s i, valAt s i) ∈ s := by
  rw [<- at_get h]; exact List.getElem_mem h
def better (up : Bool) (x y : Int) : Bool := if up then decide (y < x) else decide (x < y)
def bestTo (up : Bool) (s : List (ByteArray × Int)) : Nat -> Nat
  | 0 => 0
  | i + 1 => if better up (valAt s i) (valAt s (bestTo up s i)) then i else bestTo up s i
theorem bestTo_lt (up : Bool) (s : List (ByteArray × Int)) : ∀ i, bestTo up s i <= i - 1
  | 0 => Nat.le_refl _
  | i + 1 => by
    have := bestTo_lt up s i
    unfold bestTo
    split <;> omega
theorem bestTo_in (up : Bool) {s : List (ByteArray × Int)} {i : Nat} (h : i <= s.length) (h0 : 0 < s.length) : bestTo up s i < s.length := by
  have := bestTo_lt up s i
  omega
theorem bestTo_best (up : Bool) (s : List (ByteArray × Int)) : ∀ i j, j < i -> better up (valAt s j) (valAt s (bestTo up s i)) = false
  | 0, j, h => by omega
  | i + 1, j, h => by
    have ih := bestTo_best up s i
    unfold bestTo
    by_cases hb : better up (valAt s i) (valAt s (bestTo up s i)) = true
    · rw [if_pos hb]
      by_cases hj : j = i
      · subst hj; cases up <;> simp [better]
      · have := ih j (by omega)
        cases up <;> simp [better] at this hb ⊢ <;> omega
    · rw [if_neg hb]
      by_cases hj : j = i
      · subst hj; simpa using hb
      · exact ih j (by omega)
def loOf (s : List (ByteArray × Int)) : Nat := bestTo false s s.length
def hiOf (s : List (ByteArray × Int)) : Nat := bestTo true s s.length
def total : List (ByteArray × Int) -> Int
  | [] => 0
  | x :: r => x.2 + total r
def nzc : List (ByteArray × Int) -> Nat
  | [] => 0
  | x :: r => (if x.2 = 0 then 0 else 1) + nzc r
def setVal (s : List (ByteArray × Int)) (i : Nat) (v : Int) : List (ByteArray × Int) := s.set i (keyAt s i, v)
theorem setVal_len (s : List (ByteArray × Int)) (i : Nat) (v : Int) : (setVal s i v).length = s.length := by simp [setVal]
theorem total_set : ∀ {s : List (ByteArray × Int)} {i : Nat} {v : Int}, i < s.length -> total (setVal s i v) = total s - valAt s i + v
  | [], i, v, h => by simp at h
  | x :: r, 0, v, h => by simp [setVal, total, valAt]; omega
  | x :: r, i + 1, v, h => by
    have ih := total_set (s := r) (i := i) (v := v) (by simpa using h)
    have e : setVal (x :: r) (i + 1) v = x :: setVal r i v := by simp [setVal, keyAt]
    have e2 : valAt (x :: r) (i + 1) = valAt r i := by simp [valAt]
    rw [e, e2]
    simp only [total]
    omega
theorem nzc_set : ∀ {s : List (ByteArray × Int)} {i : Nat} {v : Int}, i < s.length -> nzc (setVal s i v) + (if valAt s i = 0 then 0 else 1) = nzc s + (if v = 0 then 0 else 1)
  | [], i, v, h => by simp at h
  | x :: r, 0, v, h => by
    have e2 : valAt (x :: r) 0 = x.2 := by simp [valAt]
    rw [e2]
    simp [setVal, nzc]
    omega
  | x :: r, i + 1, v, h => by
    have ih := nzc_set (s := r) (i := i) (v := v) (by simpa using h)
    have e : setVal (x :: r) (i + 1) v = x :: setVal r i v := by simp [setVal, keyAt]
    have e2 : valAt (x :: r) (i + 1) = valAt r i := by simp [valAt]
    rw [e, e2]
    simp only [nzc]
    omega
theorem nzc_len : ∀ (s : List (ByteArray × Int)), nzc s <= s.length
  | [] => Nat.le_refl _
  | x :: r => by
    have := nzc_len r
    simp only [nzc, List.length_cons]
    split <;> omega
theorem total_le : ∀ {s : List (ByteArray × Int)}, (∀ i, i < s.length -> valAt s i <= 0) -> total s <= 0 /\ ∀ i, i < s.length -> total s <= valAt s i
  | [], _ => ⟨by simp [total], fun i h => by simp at h⟩
  | x :: r, h => by
    have h0 := h 0 (by simp)
    have e0 : valAt (x :: r) 0 = x.2 := by simp [valAt]
    have e2 : ∀ i, valAt (x :: r) (i + 1) = valAt r i := fun i => by simp [valAt]
    obtain ⟨h1, h2⟩ := total_le (s := r) (fun i hi => by have := h (i + 1) (by simpa using hi); rwa [e2] at this)
    rw [e0] at h0
    refine ⟨by simp only [total]; omega, fun i hi => ?_⟩
    match i, hi with
    | 0, _ => rw [e0]; simp only [total]; omega
    | i + 1, hi =>
      rw [e2]
      have := h2 i (by simpa using hi)
      simp only [total]; omega
theorem hi_pos {s : List (ByteArray × Int)} (h0 : 0 < s.length) (ht : total s = 0) (hl : valAt s (loOf s) < 0) : 0 < valAt s (hiOf s) := by
  apply Decidable.byContradiction
  intro hno
  have hall : ∀ i, i < s.length -> valAt s i <= 0 := fun i hi => by
    have := bestTo_best true s s.length i hi
    simp [better] at this
    unfold hiOf at hno
    omega
  have := (total_le hall).2 (loOf s) (bestTo_in _ (Nat.le_refl _) h0)
  omega
theorem total_add : ∀ {s : List (ByteArray × Int)} {k : ByteArray} {u : Int}, total (sumAdd s k u) = total s + u
  | [], k, u => by simp [sumAdd, total]
  | x :: r, k, u => by
    have ih := total_add (s := r) (k := k) (u := u)
    unfold sumAdd
    split
    · simp only [total]; omega
    · split
      · simp only [total]; omega
      · simp only [total]; omega
theorem posTo_total (l : List (List D0)) : ∀ j, j <= l.length -> total (posTo l j) = 0
  | 0, _ => rfl
  | j + 1, h => by
    rw [posTo_succ (by omega)]
    unfold posStep
    rw [total_add, total_add, posTo_total l j (by omega)]
    omega
def amt (s : List (ByteArray × Int)) : Int := if valAt s (hiOf s) < -valAt s (loOf s) then valAt s (hiOf s) else -valAt s (loOf s)
def stepS (s : List (ByteArray × Int)) : List (ByteArray × Int) :=
  let s1 := setVal s (loOf s) (valAt s (loOf s) + amt s)
  setVal s1 (hiOf s) (valAt s1 (hiOf s) - amt s)
def debtRow (cur : ByteArray) (s : List (ByteArray × Int)) : List D0 := .str (keyAt s (loOf s)) :: .str (keyAt s (hiOf s)) :: .str cur :: enc (amt s)
def settleF (cur : ByteArray) : Nat -> List (ByteArray × Int) -> List (List D0) -> List (List D0) × Bool
  | 0, _, out => (out, true)
  | k + 1, s, out =>
    if 0 < s.length /\ valAt s (loOf s) < 0 then
      if moneyOk (.str cur :: enc (amt s)) then settleF cur k (stepS s) (out ++ [debtRow cur s]) else ([], false)
    else (out, true)
theorem settle_stop {cur : ByteArray} {s : List (ByteArray × Int)} {out : List (List D0)} {k : Nat} (h : ¬ (0 < s.length /\ valAt s (loOf s) < 0)) : settleF cur k s out = (out, true) := by
  cases k with
  | zero => rfl
  | succ k => unfold settleF; rw [if_neg h]
theorem valAt_set {s : List (ByteArray × Int)} {i j : Nat} {v : Int} (hi : i < s.length) : valAt (setVal s i v) j = if i = j then v else valAt s j := by
  unfold valAt setVal
  rw [List.getD_eq_getElem?_getD, List.getD_eq_getElem?_getD, List.getElem?_set]
  split
  · rfl
  · rfl
theorem keyAt_set {s : List (ByteArray × Int)} {i j : Nat} {v : Int} (hi : i < s.length) : keyAt (setVal s i v) j = keyAt s j := by
  unfold keyAt setVal
  rw [List.getD_eq_getElem?_getD, List.getD_eq_getElem?_getD, List.getElem?_set]
  split
  · rename_i e
    subst e
    simp [keyAt, List.getD_eq_getElem?_getD]
  · rfl
structure SInv (M : Nat) (s : List (ByteArray × Int)) : Prop where
  tot : total s = 0
  bnd : ∀ i, (valAt s i).natAbs <= M
theorem amt_facts {s : List (ByteArray × Int)} (h0 : 0 < s.length) (ht : total s = 0) (hl : valAt s (loOf s) < 0) :
    0 < amt s /\ amt s <= valAt s (hiOf s) /\ amt s <= -valAt s (loOf s) /\ (amt s = valAt s (hiOf s) ∨ amt s = -valAt s (loOf s)) /\ loOf s ≠ hiOf s := by
  have hp := hi_pos h0 ht hl
  refine ⟨?_, ?_, ?_, ?_, fun e => by rw [e] at hl; omega⟩ <;> unfold amt <;> split <;> omega
theorem step_facts {M : Nat} {s : List (ByteArray × Int)} (h0 : 0 < s.length) (h : SInv M s) (hl : valAt s (loOf s) < 0) :
    SInv M (stepS s) /\ (stepS s).length = s.length /\ nzc (stepS s) + 1 <= nzc s /\ valAt (setVal s (loOf s) (valAt s (loOf s) + amt s)) (hiOf s) = valAt s (hiOf s) := by
  obtain ⟨ha, hb, hc, hd, hne⟩ := amt_facts h0 h.tot hl
  have l1 : loOf s < s.length := bestTo_in _ (Nat.le_refl _) h0
  have l2 : hiOf s < s.length := bestTo_in _ (Nat.le_refl _) h0
  have hv : valAt (setVal s (loOf s) (valAt s (loOf s) + amt s)) (hiOf s) = valAt s (hiOf s) := by rw [valAt_set l1, if_neg hne]
  have l3 : hiOf s < (setVal s (loOf s) (valAt s (loOf s) + amt s)).length := by rw [setVal_len]; exact l2
  have t1 := total_set (v := valAt s (loOf s) + amt s) l1
  have t2 := total_set (v := valAt s (hiOf s) - amt s) l3
  have n1 := nzc_set (v := valAt s (loOf s) + amt s) l1
  have n2 := nzc_set (v := valAt s (hiOf s) - amt s) l3
  have b1 := h.bnd (loOf s)
  have b2 := h.bnd (hiOf s)
  have htt := h.tot
  have e : stepS s = setVal (setVal s (loOf s) (valAt s (loOf s) + amt s)) (hiOf s) (valAt s (hiOf s) - amt s) := by
    show setVal (setVal s (loOf s) (valAt s (loOf s) + amt s)) (hiOf s) (valAt (setVal s (loOf s) (valAt s (loOf s) + amt s)) (hiOf s) - amt s) = _
    rw [hv]
  rw [hv] at t2 n2
  rw [e]
  refine ⟨⟨by omega, fun i => ?_⟩, by rw [setVal_len, setVal_len], ?_, hv⟩
  · rw [valAt_set l3]
    split
    · omega
    · rw [valAt_set l1]
      split
      · omega
      · exact h.bnd i
  · rw [if_neg (by omega)] at n1 n2
    rcases hd with hd | hd
    · rw [if_pos (show valAt s (hiOf s) - amt s = 0 by omega)] at n2
      split at n1 <;> omega
    · rw [if_pos (show valAt s (loOf s) + amt s = 0 by omega)] at n1
      split at n2 <;> omega
def settleR (cur : ByteArray) (l : List (List D0)) : List (List D0) × Bool :=
 if debtsOk cur l then settleF cur (posTo l l.length).length (posTo l l.length) [] else ([], false)
theorem settleF_code (cur : ByteArray) : ∀ (k : Nat) (s : List (ByteArray × Int)) (out : List (List D0)), (∀ x ∈ out, x.map D0.code = [.str, .str, .str, .bool, .ints]) -> ∀ x ∈ (settleF cur k s out).1, x.map D0.code = [.str, .str, .str, .bool, .ints]
  | 0, _, out, h => h
  | k + 1, s, out, h => by
    unfold settleF
    split
    · split
      · refine settleF_code cur k _ _ (fun x hx => ?_)
        rcases List.mem_append.1 hx with hx | hx
        · exact h x hx
        · simp only [List.mem_singleton] at hx; subst hx; rfl
      · intro x hx; simp at hx
    · exact h
theorem settleR_code (cur : ByteArray) (l : List (List D0)) : ∀ x ∈ (settleR cur l).1, x.map D0.code = [.str, .str, .str, .bool, .ints] := by
  unfold settleR
  split
  · exact settleF_code _ _ _ _ (fun x hx => by simp at hx)
  · intro x hx; simp at hx
theorem cntL_snoc : ∀ (l : List (List D0)) (x : List D0), cntL (l ++ [x]) = cntL l + cnts x
  | [], x => by simp [cntL]
  | y :: l, x => by
    have := cntL_snoc l x
    have e1 : cntL (y :: l ++ [x]) = cnts y + cntL (l ++ [x]) := rfl
    have e2 : cntL (y :: l) = cnts y + cntL l := rfl
    omega
theorem settleF_cnt (cur : ByteArray) : ∀ (k : Nat) (s : List (ByteArray × Int)) (out : List (List D0)), 0 <= cntL out -> SInv 40000000000000000000000000000000000000 s -> cntL (settleF cur k s out).1 <= cntL out + (k : Nat) * 10
  | 0, _, out, h0, h => by show cntL out <= _; omega
  | k + 1, s, out, h0, h => by
    unfold settleF
    split
    · rename_i hc
      obtain ⟨ha, hb, _, _, _⟩ := amt_facts hc.1 h.tot hc.2
      have hbn := h.bnd (hiOf s)
      have hl : (digs (amt s).natAbs).length <= 6 := digs_len_le (by omega)
      have he : cnts (debtRow cur s) = 1 + (1 + (1 + (1 + (((digs (amt s).natAbs).length : Nat) + 0)))) := rfl
      have hsn := cntL_snoc out (debtRow cur s)
      split
      · have := settleF_cnt cur k (stepS s) (out ++ [debtRow cur s]) (by omega) (step_facts hc.1 h hc.2).1
        omega
      · show cntL [] <= _
        simp [cntL]; omega
    · show cntL out <= _; omega
theorem pos_inv {cur : ByteArray} {l : List (List D0)} (hc : ∀ x ∈ l, x.map D0.code = [.str, .str, .str, .bool, .ints]) (hok : debtsOk cur l = true) : SInv 40000000000000000000000000000000000000 (posTo l l.length) := by
  refine ⟨posTo_total l _ (Nat.le_refl _), fun i => ?_⟩
  by_cases hi : i < (posTo l l.length).length
  · exact pos40 hc hok (Nat.le_refl _) _ (val_mem hi)
  · unfold valAt
    rw [List.getD_eq_getElem?_getD, List.getElem?_eq_none (by omega)]
    simp
theorem settleR_cnt {cur : ByteArray} {l : List (List D0)} (hc : ∀ x ∈ l, x.map D0.code = [.str, .str, .str, .bool, .ints]) : cntL (settleR cur l).1 <= 1000000000 := by
  unfold settleR
  split
  · rename_i h
    have h1 := settleF_cnt cur (posTo l l.length).length (posTo l l.length) [] (by simp [cntL]) (pos_inv hc h)
    have h3 := posTo_len l l.length (Nat.le_refl _)
    have h4 := (debts_facts h).1
    have h5 : cntL ([] : List (List D0)) = 0 := rfl
    omega
  · decide
theorem at_row {w : World} {B b n c i : Nat} {s : List (ByteArray × Int)} {f : List Nat} {e : TypeId} (ho : OwnRows w B e 3 (some ⟨b, 0, none⟩) n c (sumsRows s) f) (hi : i < s.length) (ht : aggT P T_impl_Signed 2 = true) (htp : aggT P T_impl_Pos 3 = true) :
    ∃ (kp : Option Addr) (kn kc : Nat), B <= b /\ b < w.heap.size /\ b ∈ f /\
      (∀ W, Ext w W -> ∀ t, cellT P t = true -> Loads P t (((⟨b, 0, none⟩ : Addr).add (i * 3)).add 0) (.string (keyAt s i)) W) /\
      (∀ W, Ext w W -> Loads P T_impl_Signed (((⟨b, 0, none⟩ : Addr).add (i * 3)).add 1) (.agg #[.bool (decide (valAt s i < 0)), .slice kp kn kc]) W) /\
      (∀ W, Ext w W -> ∀ t, cellT P t = true -> Loads P t ((((⟨b, 0, none⟩ : Addr).add (i * 3)).add 1).add 1) (.slice kp kn kc) W) /\
      (∀ W, Ext w W -> Loads P T_impl_Pos ((⟨b, 0, none⟩ : Addr).add (i * 3)) (.agg #[.string (keyAt s i), .bool (decide (valAt s i < 0)), .slice kp kn kc]) W) /\
      (∃ fi, Owns w B [.bool (decide (valAt s i < 0)), .slice kp kn kc] (enc (valAt s i)) fi /\ b ∉ fi /\ ∀ y ∈ fi, y ∈ f) /\
      ∀ (v : Int) (W8 : World) (b8 : Bool) (p8 : Option Addr) (n8 c8 : Nat) (f8 : List Nat), Ext w W8 -> Owns W8 B [.bool b8, .slice p8 n8 c8] (enc v) f8 -> f8.Nodup -> (∀ q ∈ f8, w.heap.size <= q) ->
        ∃ w9 f9, Stores P T_impl_Signed (((⟨b, 0, none⟩ : Addr).add (i * 3)).add 1) (.agg #[.bool b8, .slice p8 n8 c8]) W8 w9 /\ OwnRows w9 B e 3 (some ⟨b, 0, none⟩) n c (sumsRows (setVal s i v)) f9 /\ Chg [b] W8 w9 /\ w9.heap.size = W8.heap.size /\ (∀ q ∈ f9, q ∈ f ∨ q ∈ f8) := by
  have hrow : (sumsRows s)[i]? = some (.str (keyAt s i) :: enc (valAt s i)) := by
    unfold sumsRows
    rw [List.getElem?_map, List.getElem?_eq_getElem hi, at_get hi]
    rfl
  obtain ⟨b', xs, cs5, zs, hpb, hbB, hbf, hxl, hcl, hblk, hrep, hput⟩ := ho.put hrow
  simp only [Option.some.injEq, Addr.mk.injEq, and_true] at hpb
  obtain rfl := hpb
  obtain ⟨k0, k1, kp, kn, kc, kz, rfl, hkd, hki⟩ := open_Pos hrep rfl
  simp only [enc, List.cons.injEq, D0.str.injEq, D0.bool.injEq, D0.ints.injEq, and_true] at hkd
  obtain ⟨rfl, rfl, rfl⟩ := hkd
  obtain ⟨b2, xs2, cs2, zs2, fi, hpb2, _, hxl2, hcl2, hblk2, how2, _, hbfi, _, hfif, _⟩ := ho.focus hrow
  simp only [Option.some.injEq, Addr.mk.injEq, and_true] at hpb2
  obtain rfl := hpb2
  have hsame : xs ++ [Value.string (keyAt s i), .bool (decide (valAt s i < 0)), .slice kp kn kc] ++ zs = xs2 ++ cs2 ++ zs2 := by
    have := hblk.symm.trans hblk2
    simpa using this
  have hcs2 : cs2 = [Value.string (keyAt s i), .bool (decide (valAt s i < 0)), .slice kp kn kc] := by
    have h1 := (List.append_inj (by simpa only [List.append_assoc] using hsame) (by omega)).2
    exact ((List.append_inj h1 (by rw [hcl2]; rfl)).1).symm
  subst hcs2
  have hown : Owns w B [.bool (decide (valAt s i < 0)), .slice kp kn kc] (enc (valAt s i)) fi := by
    obtain ⟨f1, f2, hf, h1, h2⟩ := how2
    rw [h1.2] at hf
    rw [hf]; exact h2
  have hget : ∀ (j : Nat) (v : Value), [Value.string (keyAt s i), .bool (decide (valAt s i < 0)), .slice kp kn kc][j]? = some v -> (xs ++ [Value.string (keyAt s i), .bool (decide (valAt s i < 0)), .slice kp kn kc] ++ zs)[i * 3 + j]? = some v := fun j v hj => by
    have hj3 := (List.getElem?_eq_some_iff.1 hj).1
    rw [List.append_assoc, List.getElem?_append_right (by omega), hxl, Nat.add_sub_cancel_left, List.getElem?_append_left hj3]
    exact hj
  refine ⟨kp, kn, kc, hbB, hblk.lt, hbf, fun W hW t ht => (hblk.ext hW).loadAt (i * 3 + 0) (by rw [addr_add, addr_add, Nat.zero_add]) ht (hget 0 _ rfl),
    fun W hW => (hblk.ext hW).loadAAt (i * 3 + 1) [.bool (decide (valAt s i < 0)), .slice kp kn kc] (by rw [addr_add, addr_add, Nat.zero_add]) ht (by rw [<- hxl, List.append_assoc, List.drop_length_add_append]; rfl),
    fun W hW t ht => (hblk.ext hW).loadAt (i * 3 + 2) (by rw [addr_add, addr_add, addr_add, Nat.zero_add]) ht (hget 2 _ rfl),
    fun W hW => (hblk.ext hW).loadAAt (i * 3) [.string (keyAt s i), .bool (decide (valAt s i < 0)), .slice kp kn kc] (by rw [addr_add, Nat.zero_add]) htp (by rw [<- hxl, List.append_assoc, List.drop_left]; rfl),
    ⟨fi, hown, hbfi, hfif⟩, ?_⟩
  intro v W8 b8 p8 n8 c8 f8 hx h8 hn8 hf8
  have hblk8 := hblk.ext hx
  obtain ⟨w9, st9, hb9, ch9, sz9⟩ := hblk8.storeA (P := P) (t := T_impl_Signed) (k := i * 3 + 1) (xs := [.bool b8, .slice p8 n8 c8]) ht (by simp only [List.length_append, List.length_cons, List.length_nil]; omega) (by simp [Value.oneCell'])
  have hnew : (xs ++ [Value.string (keyAt s i), Value.bool (decide (valAt s i < 0)), Value.slice kp kn kc] ++ zs).take (i * 3 + 1) ++ [Value.bool b8, .slice p8 n8 c8] ++ (xs ++ [Value.string (keyAt s i), Value.bool (decide (valAt s i < 0)), Value.slice kp kn kc] ++ zs).drop (i * 3 + 1 + [Value.bool b8, .slice p8 n8 c8].length) = xs ++ [Value.string (keyAt s i), Value.bool b8, .slice p8 n8 c8] ++ zs := by
    rw [<- hxl, List.append_assoc xs, List.take_length_add_append, Nat.add_assoc, List.drop_length_add_append]
    simp
  rw [hnew] at hb9
  have hbl := hblk.lt
  have ho9 : Owns w9 B [.string (keyAt s i), .bool b8, .slice p8 n8 c8] (.str (keyAt s i) :: enc v) f8 := Owns.append (Owns.str _ _ (keyAt s i)) (h8.chg ch9 (fun k hk hm => by
    have := hf8 k hk
    simp at hm; omega))
  obtain ⟨f9, hor9, hf9⟩ := hput w9 _ _ f8 (hx.toChg.trans ch9) rfl hb9 ho9 hn8 (fun y hy hm => by have := hf8 y hy; have := (ho.lt y hm).2; omega)
  refine ⟨w9, f9, ?_, ?_, ch9, sz9, hf9⟩
  · rw [addr_add] at st9
    rw [addr_add, addr_add, Nat.zero_add]
    rw [Nat.zero_add] at st9
    exact st9
  · have : sumsRows (setVal s i v) = (sumsRows s).set i (.str (keyAt s i) :: enc v) := by
      unfold sumsRows setVal
      rw [List.map_set]
    rw [this]
    exact hor9
end Go.Proofs.YtbgokfhcgcoipaaDoor
namespace Go.Proofs.YtbgokfhcgcoipaaDoor
open Go Go.Proofs.YtbgokfhcgcoipaaDoor.Sx
abbrev KV := List (ByteArray × Int)
def posL (l : List (List D0)) : KV := l.foldl posStep []
theorem posTo_all (l : List (List D0)) : posTo l l.length = posL l := by unfold posTo posL; rw [List.take_length]
theorem posL_snoc (l : List (List D0)) (x : List D0) : posL (l ++ [x]) = posStep (posL l) x := by unfold posL; rw [List.foldl_append]; rfl
theorem posL_ordered (l : List (List D0)) : Ordered (posL l) := by rw [<- posTo_all]; exact posTo_ordered l _ (Nat.le_refl _)
def getK : KV -> ByteArray -> Int
  | [], _ => 0
  | x :: r, k => if x.1 = k then x.2 else getK r k
def hasK (s : KV) (k : ByteArray) : Prop := ∃ x ∈ s, x.1 = k
theorem getK_none : ∀ {s : KV} {k : ByteArray}, ¬ hasK s k -> getK s k = 0
  | [], _, _ => rfl
  | x :: r, k, h => by
    unfold getK
    rw [if_neg (fun e => h ⟨x, by simp, e⟩)]
    exact getK_none fun ⟨y, hy, e⟩ => h ⟨y, by simp [hy], e⟩
theorem getK_has {s : KV} {k : ByteArray} (h : getK s k ≠ 0) : hasK s k := Classical.byContradiction fun hn => h (getK_none hn)
theorem ord_tail {x : ByteArray × Int} {r : KV} (h : Ordered (x :: r)) : Ordered r := (List.pairwise_cons.1 h).2
theorem ord_head {x : ByteArray × Int} {r : KV} (h : Ordered (x :: r)) {k : ByteArray} (hk : hasK r k) : bLess x.1 k = true := by
  obtain ⟨y, hy, rfl⟩ := hk
  exact (List.pairwise_cons.1 h).1 y hy
theorem getK_mem : ∀ {s : KV} (ho : Ordered s) {x : ByteArray × Int}, x ∈ s -> getK s x.1 = x.2
  | y :: r, ho, x, hx => by
    unfold getK
    rcases List.mem_cons.1 hx with e | e
    · subst e; rw [if_pos rfl]
    · have h1 := ord_head ho ⟨x, e, rfl⟩
      rw [if_neg (bLess_ne h1)]
      exact getK_mem (ord_tail ho) e
theorem getK_add : ∀ {s : KV} (ho : Ordered s) (c : ByteArray) (u : Int) (k : ByteArray), getK (sumAdd s c u) k = getK s k + (if c = k then u else 0)
  | [], _, c, u, k => by simp [sumAdd, getK]
  | x :: r, ho, c, u, k => by
    have ih := getK_add (ord_tail ho) c u k
    unfold sumAdd
    by_cases h1 : bLess x.1 c = true
    · rw [if_pos h1]
      show (if x.1 = k then x.2 else getK (sumAdd r c u) k) = (if x.1 = k then x.2 else getK r k) + _
      by_cases h2 : x.1 = k
      · rw [if_pos h2, if_pos h2, if_neg (fun e => bLess_ne h1 (h2.trans e.symm)), Int.add_zero]
      · rw [if_neg h2, if_neg h2, ih]
    · rw [if_neg h1]
      by_cases h3 : x.1 = c
      · rw [if_pos h3]
        show (if x.1 = k then x.2 + u else getK r k) = (if x.1 = k then x.2 else getK r k) + _
        by_cases h2 : x.1 = k
        · rw [if_pos h2, if_pos h2, if_pos (h3.symm.trans h2)]
        · rw [if_neg h2, if_neg h2, if_neg (fun e => h2 (h3.trans e)), Int.add_zero]
      · rw [if_neg h3]
        show (if c = k then u else getK (x :: r) k) = getK (x :: r) k + _
        by_cases h2 : c = k
        · have hcx : bLess c x.1 = true := by
            cases hcy : bLess c x.1 with
            | true => rfl
            | false => exact absurd (bLess_tri (by simpa using h1) hcy) h3
          rw [if_pos h2, if_pos h2, getK_none (s := x :: r), Int.zero_add]
          rintro ⟨y, hy, e⟩
          rcases List.mem_cons.1 hy with e2 | e2
          · subst e2; exact h3 (e.trans h2.symm)
          · have h5 := bLess_trans hcx (ord_head ho ⟨y, e2, rfl⟩)
            exact bLess_ne h5 (h2.trans e.symm)
        · rw [if_neg h2, if_neg h2, Int.add_zero]
theorem ord_ext : ∀ {s t : KV}, Ordered s -> Ordered t -> (∀ k, hasK s k ↔ hasK t k) -> (∀ k, getK s k = getK t k) -> s = t
  | [], [], _, _, _, _ => rfl
  | [], y :: q, _, _, h, _ => by
    obtain ⟨_, hx, _⟩ := (h y.1).2 ⟨y, by simp, rfl⟩
    simp at hx
  | x :: r, [], _, _, h, _ => by
    obtain ⟨_, hx, _⟩ := (h x.1).1 ⟨x, by simp, rfl⟩
    simp at hx
  | x :: r, y :: q, ho, hp, h, g => by
    have hxy : x.1 = y.1 := by
      obtain ⟨z, hz, e⟩ := (h x.1).1 ⟨x, by simp, rfl⟩
      obtain ⟨z2, hz2, e2⟩ := (h y.1).2 ⟨y, by simp, rfl⟩
      rcases List.mem_cons.1 hz with a | a
      · rw [<- e, a]
      · rcases List.mem_cons.1 hz2 with b | b
        · rw [<- e2, b]
        · have h1 := ord_head hp ⟨z, a, e⟩
          have h2 := ord_head ho ⟨z2, b, e2⟩
          have h3 := bLess_trans h1 h2
          rw [bLess_irrefl] at h3; cases h3
    have hg := g x.1
    have e1 : getK (x :: r) x.1 = x.2 := getK_mem ho (by simp)
    have e2 : getK (y :: q) x.1 = y.2 := by rw [hxy]; exact getK_mem hp (by simp)
    have hxy2 : x = y := Prod.ext hxy (by rw [<- e1, <- e2]; exact hg)
    subst hxy2
    congr 1
    refine ord_ext (ord_tail ho) (ord_tail hp) (fun k => ⟨fun hk => ?_, fun hk => ?_⟩) (fun k => ?_)
    · obtain ⟨z, hz, e⟩ := (h k).1 (by obtain ⟨z, hz, e⟩ := hk; exact ⟨z, by simp [hz], e⟩)
      rcases List.mem_cons.1 hz with a | a
      · exact absurd (by rw [<- e, a]) (bLess_ne (ord_head ho hk))
      · exact ⟨z, a, e⟩
    · obtain ⟨z, hz, e⟩ := (h k).2 (by obtain ⟨z, hz, e⟩ := hk; exact ⟨z, by simp [hz], e⟩)
      rcases List.mem_cons.1 hz with a | a
      · exact absurd (by rw [<- e, a]) (bLess_ne (ord_head hp hk))
      · exact ⟨z, a, e⟩
    · by_cases hk : x.1 = k
      · rw [getK_none (s := r), getK_none (s := q)]
        · intro hh; exact bLess_ne (ord_head hp hh) hk
        · intro hh; exact bLess_ne (ord_head ho hh) hk
      · have := g k
        unfold getK at this
        rw [if_neg hk, if_neg hk] at this
        exact this
theorem filt_ordered {s : KV} (h : Ordered s) : Ordered (s.filter fun x => decide (x.2 ≠ 0)) := List.Pairwise.filter _ h
theorem filt_has {s : KV} (ho : Ordered s) (k : ByteArray) : hasK (s.filter fun x => decide (x.2 ≠ 0)) k ↔ getK s k ≠ 0 := by
  constructor
  · rintro ⟨x, hx, rfl⟩
    obtain ⟨h1, h2⟩ := List.mem_filter.1 hx
    rw [getK_mem ho h1]
    exact of_decide_eq_true h2
  · intro h
    obtain ⟨x, hx, rfl⟩ := getK_has h
    rw [getK_mem ho hx] at h
    exact ⟨x, List.mem_filter.2 ⟨hx, decide_eq_true h⟩, rfl⟩
theorem filt_get {s : KV} (ho : Ordered s) (k : ByteArray) : getK (s.filter fun x => decide (x.2 ≠ 0)) k = getK s k := by
  by_cases h : getK s k = 0
  · rw [h]
    exact getK_none fun hh => (filt_has ho k).1 hh h
  · obtain ⟨x, hx, rfl⟩ := (filt_has ho k).2 h
    rw [getK_mem (filt_ordered ho) hx]
    exact (getK_mem ho (List.mem_filter.1 hx).1).symm
theorem keyAt_cons (x : ByteArray × Int) (r : KV) (i : Nat) : keyAt (x :: r) (i + 1) = keyAt r i := rfl
theorem setVal_cons (x : ByteArray × Int) (r : KV) (i : Nat) (v : Int) : setVal (x :: r) (i + 1) v = x :: setVal r i v := rfl
theorem keyAt_has {s : KV} {i : Nat} (h : i < s.length) : hasK s (keyAt s i) := ⟨_, val_mem h, rfl⟩
theorem getK_at {s : KV} (ho : Ordered s) {i : Nat} (h : i < s.length) : getK s (keyAt s i) = valAt s i := getK_mem ho (val_mem h)
theorem setVal_keys : ∀ {s : KV} {i : Nat} (v : Int), i < s.length -> (setVal s i v).map Prod.fst = s.map Prod.fst
  | [], i, v, h => by simp at h
  | x :: r, 0, v, _ => rfl
  | x :: r, i + 1, v, h => by
    rw [setVal_cons, List.map_cons, List.map_cons, setVal_keys v (by simpa using h)]
theorem getK_set : ∀ {s : KV} (ho : Ordered s) {i : Nat} (h : i < s.length) (v : Int) (k : ByteArray), getK (setVal s i v) k = if keyAt s i = k then v else getK s k
  | [], _, i, h, _, _ => by simp at h
  | x :: r, ho, 0, _, v, k => by
    show (if x.1 = k then v else getK r k) = if x.1 = k then v else (if x.1 = k then x.2 else getK r k)
    split
    · rfl
    · rfl
  | x :: r, ho, i + 1, h, v, k => by
    have hl : i < r.length := by simpa using h
    have ih := getK_set (ord_tail ho) hl v k
    rw [setVal_cons, keyAt_cons]
    show (if x.1 = k then x.2 else getK (setVal r i v) k) = if keyAt r i = k then v else (if x.1 = k then x.2 else getK r k)
    by_cases h1 : x.1 = k
    · have h2 := bLess_ne (ord_head ho (keyAt_has hl))
      rw [if_pos h1, if_neg (fun e => h2 (h1.trans e.symm)), if_pos h1]
    · rw [if_neg h1, if_neg h1, ih]
theorem ord_of_keys {s t : KV} (h : s.map Prod.fst = t.map Prod.fst) (ho : Ordered t) : Ordered s := by
  have h1 : (t.map Prod.fst).Pairwise (fun a b => bLess a b = true) := List.pairwise_map.2 ho
  rw [<- h] at h1
  exact List.pairwise_map.1 h1
theorem has_of_keys {s t : KV} (h : s.map Prod.fst = t.map Prod.fst) {k : ByteArray} (hk : hasK s k) : hasK t k := by
  obtain ⟨x, hx, rfl⟩ := hk
  have : x.1 ∈ s.map Prod.fst := List.mem_map.2 ⟨x, hx, rfl⟩
  rw [h] at this
  obtain ⟨y, hy, e⟩ := List.mem_map.1 this
  exact ⟨y, hy, e⟩
theorem nzc_get : ∀ {s : KV}, nzc s = 0 -> total s = 0 /\ ∀ k, getK s k = 0
  | [], _ => ⟨rfl, fun _ => rfl⟩
  | x :: r, h => by
    have h' : (if x.2 = 0 then 0 else 1) + nzc r = 0 := h
    have hx : x.2 = 0 := by
      by_cases e : x.2 = 0
      · exact e
      · rw [if_neg e] at h'; omega
    obtain ⟨t, g⟩ := nzc_get (s := r) (by omega)
    refine ⟨by show x.2 + total r = 0; omega, fun k => ?_⟩
    show (if x.1 = k then x.2 else getK r k) = 0
    rw [g k, hx]; split <;> rfl
theorem nzc_two : ∀ {s : KV}, total s = 0 -> nzc s <= 1 -> nzc s = 0
  | [], _, _ => rfl
  | x :: r, ht, h => by
    have h' : (if x.2 = 0 then 0 else 1) + nzc r <= 1 := h
    have ht' : x.2 + total r = 0 := ht
    show (if x.2 = 0 then 0 else 1) + nzc r = 0
    by_cases e : x.2 = 0
    · rw [if_pos e] at h' ⊢
      have := nzc_two (s := r) (by omega) (by omega)
      omega
    · rw [if_neg e] at h'
      have := (nzc_get (s := r) (by omega)).1
      omega
theorem nzc_nn : ∀ {s : KV}, (∀ x ∈ s, 0 <= x.2) -> 0 <= total s /\ (total s = 0 -> nzc s = 0)
  | [], _ => ⟨Int.le_refl _, fun _ => rfl⟩
  | x :: r, h => by
    have h0 := h x (by simp)
    obtain ⟨a, b⟩ := nzc_nn (s := r) fun y hy => h y (by simp [hy])
    refine ⟨by show 0 <= x.2 + total r; omega, fun ht => ?_⟩
    have ht' : x.2 + total r = 0 := ht
    show (if x.2 = 0 then 0 else 1) + nzc r = 0
    rw [if_pos (by omega), b (by omega)]
theorem settled {s : KV} (ht : total s = 0) (h : ¬ (0 < s.length /\ valAt s (loOf s) < 0)) : nzc s = 0 := by
  refine (nzc_nn fun x hx => ?_).2 ht
  obtain ⟨i, hi, rfl⟩ := List.getElem_of_mem hx
  have hb := bestTo_best false s s.length i hi
  rw [at_get hi]
  show 0 <= valAt s i
  have h1 : ¬ valAt s i < valAt s (loOf s) := by
    have : ¬ valAt s i < valAt s (bestTo false s s.length) := by simpa [better] using hb
    exact this
  have h2 : ¬ valAt s (loOf s) < 0 := fun h3 => h ⟨by omega, h3⟩
  omega
structure SJ (cur : ByteArray) (M : Nat) (p s : KV) (out : List (List D0)) : Prop where
  keys : s.map Prod.fst = p.map Prod.fst
  bal : ∀ k, getK (posL out) k + getK s k = getK p k
  mid : ∀ k, (0 <= getK p k -> 0 <= getK s k /\ getK s k <= getK p k) /\ (getK p k <= 0 -> getK p k <= getK s k /\ getK s k <= 0)
  has : ∀ k, hasK (posL out) k -> getK p k ≠ 0
  rows : ∀ x ∈ out, ∃ (a b : ByteArray) (z : Int), x = .str a :: .str b :: .str cur :: enc z /\ 0 < z /\ z.natAbs <= M /\ a ≠ b /\ hasK p a /\ hasK p b
  cnt : out.length + nzc s <= nzc p
  fin : nzc s = 0 -> out ≠ [] -> out.length + 1 <= nzc p
theorem posStep_has {s : KV} {x : List D0} {k : ByteArray} (h : hasK (posStep s x) k) : hasK s k ∨ k = (debtKV x).1 ∨ k = (debtKV x).2.1 := by
  obtain ⟨y, hy, rfl⟩ := h
  unfold posStep at hy
  rcases sumAdd_fst hy with e | ⟨z, hz, e⟩
  · exact .inr (.inl e)
  · rcases sumAdd_fst hz with e2 | ⟨z2, hz2, e2⟩
    · exact .inr (.inr (by rw [<- e, e2]))
    · exact .inl ⟨z2, hz2, by rw [e2, e]⟩
theorem posFold_has : ∀ {l : List (List D0)} {s : KV} {k : ByteArray}, hasK (l.foldl posStep s) k -> hasK s k ∨ ∃ x ∈ l, k = (debtKV x).1 ∨ k = (debtKV x).2.1
  | [], s, k, h => .inl h
  | x :: r, s, k, h => by
    rcases posFold_has (l := r) (s := posStep s x) h with h1 | ⟨y, hy, h1⟩
    · rcases posStep_has h1 with h2 | h2
      · exact .inl h2
      · exact .inr ⟨x, by simp, h2⟩
    · exact .inr ⟨y, by simp [hy], h1⟩
theorem debtKV_row (cur a b : ByteArray) (z : Int) : debtKV (.str a :: .str b :: .str cur :: enc z) = (a, b, z) := by
  show (a, b, ival (enc z)) = _
  rw [ival_enc]
theorem SJ.step {cur : ByteArray} {M : Nat} {p s : KV} {out : List (List D0)} (ho : Ordered s) (hi : SInv M s) (h0 : 0 < s.length) (hl : valAt s (loOf s) < 0) (J : SJ cur M p s out) :
    SJ cur M p (stepS s) (out ++ [debtRow cur s]) /\ Ordered (stepS s) := by
  obtain ⟨ha, hb, hc, hd, hne⟩ := amt_facts h0 hi.tot hl
  obtain ⟨i2, l2, c2, hv⟩ := step_facts h0 hi hl
  have q1 : loOf s < s.length := bestTo_in _ (Nat.le_refl _) h0
  have q2 : hiOf s < s.length := bestTo_in _ (Nat.le_refl _) h0
  have q3 : hiOf s < (setVal s (loOf s) (valAt s (loOf s) + amt s)).length := by rw [setVal_len]; exact q2
  have e : stepS s = setVal (setVal s (loOf s) (valAt s (loOf s) + amt s)) (hiOf s) (valAt s (hiOf s) - amt s) := by
    show setVal (setVal s (loOf s) (valAt s (loOf s) + amt s)) (hiOf s) (valAt (setVal s (loOf s) (valAt s (loOf s) + amt s)) (hiOf s) - amt s) = _
    rw [hv]
  have k1 := setVal_keys (valAt s (loOf s) + amt s) q1
  have o1 := ord_of_keys k1 ho
  have k2 := setVal_keys (valAt s (hiOf s) - amt s) q3
  have o2 := ord_of_keys k2 o1
  have gl := getK_at ho q1
  have gh := getK_at ho q2
  have hpos := hi_pos h0 hi.tot hl
  have kne : keyAt s (loOf s) ≠ keyAt s (hiOf s) := fun he => by rw [he, gh] at gl; omega
  have g : ∀ k, getK (stepS s) k = if keyAt s (hiOf s) = k then valAt s (hiOf s) - amt s else if keyAt s (loOf s) = k then valAt s (loOf s) + amt s else getK s k := fun k => by
    rw [e, getK_set o1 q3, keyAt_set q1, getK_set ho q1]
  have kv : debtKV (debtRow cur s) = (keyAt s (loOf s), keyAt s (hiOf s), amt s) := debtKV_row _ _ _ _
  have gp : ∀ k, getK (posL (out ++ [debtRow cur s])) k = getK (posL out) k + (if keyAt s (hiOf s) = k then amt s else 0) + (if keyAt s (loOf s) = k then -(amt s) else 0) := fun k => by
    rw [posL_snoc]
    unfold posStep
    rw [kv, getK_add (sumAdd_ordered (posL_ordered out)), getK_add (posL_ordered out)]
  have ml := J.mid (keyAt s (loOf s)); have mh := J.mid (keyAt s (hiOf s))
  rw [gl] at ml; rw [gh] at mh
  refine ⟨⟨?_, fun k => ?_, fun k => ?_, fun k hk => ?_, fun x hx => ?_, ?_, fun hz _ => ?_⟩, by rw [e]; exact o2⟩
  · rw [e, k2, k1, J.keys]
  · have := J.bal k
    rw [g, gp]
    by_cases h1 : keyAt s (hiOf s) = k
    · rw [if_pos h1, if_pos h1, if_neg (fun h2 => kne (h2.trans h1.symm))]
      rw [<- h1, gh] at this
      rw [<- h1]; omega
    · rw [if_neg h1, if_neg h1]
      by_cases h2 : keyAt s (loOf s) = k
      · rw [if_pos h2, if_pos h2]
        rw [<- h2, gl] at this
        rw [<- h2]; omega
      · rw [if_neg h2, if_neg h2]; omega
  · rw [g]
    by_cases h1 : keyAt s (hiOf s) = k
    · rw [if_pos h1]; rw [<- h1]; omega
    · rw [if_neg h1]
      by_cases h2 : keyAt s (loOf s) = k
      · rw [if_pos h2]; rw [<- h2]; omega
      · rw [if_neg h2]; exact J.mid k
  · rw [posL_snoc] at hk
    rcases posStep_has hk with h1 | h1 | h1
    · exact J.has k h1
    · rw [kv] at h1
      have h1 : k = keyAt s (loOf s) := h1
      rw [h1]; omega
    · rw [kv] at h1
      have h1 : k = keyAt s (hiOf s) := h1
      rw [h1]; omega
  · rcases List.mem_append.1 hx with h1 | h1
    · exact J.rows x h1
    · rw [List.mem_singleton] at h1
      have b1 := hi.bnd (hiOf s)
      exact ⟨_, _, _, h1, ha, by omega, kne, has_of_keys J.keys (keyAt_has q1), has_of_keys J.keys (keyAt_has q2)⟩
  · have := J.cnt
    rw [List.length_append, List.length_singleton]; omega
  · have := J.cnt
    rw [List.length_append, List.length_singleton]
    have h3 : ¬ nzc s <= 1 := fun h4 => by
      have := nzc_two hi.tot h4
      omega
    omega
theorem settle_run {cur : ByteArray} {M : Nat} {p : KV} (hM : ∀ z : Int, 0 < z -> z.natAbs <= M -> moneyOk (.str cur :: enc z) = true) : ∀ (k : Nat) (s : KV) (out : List (List D0)), SInv M s -> Ordered s -> SJ cur M p s out -> nzc s <= k ->
    ∃ out' s', settleF cur k s out = (out', true) /\ SJ cur M p s' out' /\ nzc s' = 0
  | 0, s, out, hi, ho, J, hk => ⟨out, s, rfl, J, by omega⟩
  | k + 1, s, out, hi, ho, J, hk => by
    by_cases hc : 0 < s.length /\ valAt s (loOf s) < 0
    · obtain ⟨ha, hb, _, _, _⟩ := amt_facts hc.1 hi.tot hc.2
      have b1 := hi.bnd (hiOf s)
      obtain ⟨J2, o2⟩ := J.step ho hi hc.1 hc.2
      obtain ⟨i2, _, c2, _⟩ := step_facts hc.1 hi hc.2
      obtain ⟨out', s', h1, h2, h3⟩ := settle_run hM k (stepS s) (out ++ [debtRow cur s]) i2 o2 J2 (by omega)
      refine ⟨out', s', ?_, h2, h3⟩
      unfold settleF
      rw [if_pos hc, if_pos (hM _ ha (by omega)), h1]
    · exact ⟨out, s, settle_stop hc, J, settled hi.tot hc⟩
theorem settle_law {cur : ByteArray} {M : Nat} {l : List (List D0)} (hok : debtsOk cur l = true) (hM : ∀ z : Int, 0 < z -> z.natAbs <= M -> moneyOk (.str cur :: enc z) = true) (hb : ∀ i, (valAt (posL l) i).natAbs <= M) :
    (settleR cur l).2 = true /\ posL (settleR cur l).1 = (posL l).filter (fun x => decide (x.2 ≠ 0)) /\ (0 < (posL l).length -> (settleR cur l).1.length < (posL l).length) /\
      ∀ x ∈ (settleR cur l).1, ∃ (a b : ByteArray) (z : Int), x = .str a :: .str b :: .str cur :: enc z /\ 0 < z /\ z.natAbs <= M /\ a ≠ b /\ hasK (posL l) a /\ hasK (posL l) b := by
  have ho := posL_ordered l
  have ht : total (posL l) = 0 := by rw [<- posTo_all]; exact posTo_total l _ (Nat.le_refl _)
  have J0 : SJ cur M (posL l) (posL l) [] := by
    refine ⟨rfl, fun k => by show 0 + _ = _; omega, fun k => ⟨fun h => ⟨h, Int.le_refl _⟩, fun h => ⟨Int.le_refl _, h⟩⟩, fun k ⟨x, hx, _⟩ => by simp [posL] at hx, fun x hx => by simp at hx, by simp, fun _ h => absurd rfl h⟩
  obtain ⟨out, s, h1, J, hz⟩ := settle_run hM (posL l).length (posL l) [] ⟨ht, hb⟩ ho J0 (nzc_len _)
  have e : settleR cur l = (out, true) := by
    unfold settleR
    rw [if_pos hok, posTo_all, h1]
  rw [e]
  have hg : ∀ k, getK (posL out) k = getK (posL l) k := fun k => by
    have := J.bal k
    rw [(nzc_get hz).2 k] at this
    omega
  refine ⟨rfl, ?_, fun hlen => ?_, J.rows⟩
  · refine ord_ext (posL_ordered out) (filt_ordered ho) (fun k => ?_) (fun k => ?_)
    · rw [filt_has ho]
      refine ⟨J.has k, fun h => getK_has ?_⟩
      rw [hg]; exact h
    · rw [filt_get ho, hg]
  · have hn := nzc_len (posL l)
    show out.length < _
    by_cases ho : out = []
    · subst ho; exact hlen
    · have := J.fin hz ho
      omega
end Go.Proofs.YtbgokfhcgcoipaaDoor
namespace Go.Proofs.YtbgokfhcgcoipaaDoor
open Go Go.Proofs.YtbgokfhcgcoipaaDoor.Sx
def ByR (W : World) (p : Option Addr) (n : Nat) : Prop := 0 < n -> ∃ (b o : Nat) (zs : List Int), p = some ⟨b, o, none⟩ /\ zs.length = n /\ Seg W b o (zs.map (Value.int .u8)) /\ b < W.heap.size
theorem ByR.ext {W W' : World} {p : Option Addr} {n : Nat} (h : ByR W p n) (he : Ext W W') : ByR W' p n := fun hn => by
  obtain ⟨b, o, zs, h1, h2, h3, h4⟩ := h hn
  exact ⟨b, o, zs, h1, h2, h3.ext he, Nat.lt_of_lt_of_le h4 he.le⟩
theorem ByR.chg {W W' : World} {p : Option Addr} {n r : Nat} (h : ByR W p n) (he : Chg [r] W W') (hr : 0 < n -> ∀ q, p.map (·.block) = some q -> q ≠ r) : ByR W' p n := fun hn => by
  obtain ⟨b, o, zs, rfl, h2, h3, h4⟩ := h hn
  exact ⟨b, o, zs, rfl, h2, h3.chg he (fun hm => hr hn b rfl (List.mem_singleton.1 hm)), Nat.lt_of_lt_of_le h4 he.size⟩
theorem ByR.at {W : World} {p : Option Addr} {n : Nat} (h : ByR W p n) {i : Int} (h0 : 0 <= i) (h1 : i < n) : ∃ a z, p = some a /\ Loads P T_uint8 (a.add (i.toNat * 1)) (.int .u8 z) W := by
  obtain ⟨b, o, zs, rfl, h2, h3, h4⟩ := h (by omega)
  have hk : i.toNat < zs.length := by omega
  refine ⟨⟨b, o, none⟩, zs[i.toNat], rfl, h3.load (by kernel_rfl) ?_⟩
  rw [Nat.mul_one, List.getElem?_map, List.getElem?_eq_getElem hk]; rfl
def Cur (W : World) (r : Nat) (p : Option Addr) (n c : Nat) : Prop := ∃ (e : TypeId) (i h : Int), 0 <= i /\ Blk W r e [.slice p n c, .int .i64 i, .int .i64 h]
theorem Cur.ext {W W' : World} {r n c : Nat} {p : Option Addr} (h : Cur W r p n c) (he : Ext W W') : Cur W' r p n c := by
  obtain ⟨e, i, x, h1, h2⟩ := h; exact ⟨e, i, x, h1, h2.ext he⟩
theorem Cur.lt {W : World} {r n c : Nat} {p : Option Addr} (h : Cur W r p n c) : r < W.heap.size := by
  obtain ⟨e, i, x, h1, h2⟩ := h; exact h2.lt
theorem and255 (x : Int) : ∃ z : Int, z = IntKind.wrap .i64 (((BitVec.ofInt (IntKind.bits .i64) x &&& BitVec.ofInt (IntKind.bits .i64) 255).toNat : Nat) : Int) /\ 0 <= z /\ z <= 255 := by
  have h : (BitVec.ofInt (IntKind.bits .i64) x &&& BitVec.ofInt (IntKind.bits .i64) 255).toNat <= 255 := by
    rw [BitVec.toNat_and]
    exact Nat.le_trans Nat.and_le_right (by decide)
  exact ⟨_, rfl, by rw [wrap64 (by omega) (by omega)]; omega, by rw [wrap64 (by omega) (by omega)]; omega⟩
theorem spec_l01New_c {w : World} {p : Option Addr} {n c : Nat} (h : ByR w p n) (hn : n <= 1048576) : Ret P n_spec_l01New [.slice p n c] w fun v w' => ∃ r, v = .pointer (some ⟨r, 0, none⟩) /\ w.heap.size <= r /\ Cur w' r p n c /\ Ext w w' := by
  refine spec_l01New_ret ?_
  unfold spec_l01New
  refine ⟨_, rfl, fun _ i W => ∃ k : Nat, i = k /\ W = w, fun _ i _ => n - i.toNat, ⟨0, rfl, rfl⟩, ?_⟩
  rintro junk W hh i ⟨k, rfl, rfl⟩
  have fin : ∀ (r : Nat) (w1 : World), New W (.cells ⟨[.slice p n c, .int .i64 0, .int .i64 hh]⟩ T_spec_l01Cur (0, 0)) r w1 -> ∃ r', Value.pointer (some ⟨r, 0, none⟩) = .pointer (some ⟨r', 0, none⟩) /\ W.heap.size <= r' /\ Cur w1 r' p n c /\ Ext W w1 := fun r w1 hn1 =>
    ⟨r, rfl, by have := hn1.r_eq; omega, ⟨_, 0, hh, by omega, hn1.blk⟩, hn1.ext⟩
  refine ifD (fun hlt => ifD (fun h4 => ?_) (fun _ => fin)) (fun hge => ifF fin)
  unfold spec_l01New_j0
  obtain ⟨a, z, rfl, hl⟩ := h.at (i := (k : Int)) (by omega) hlt
  refine ⟨_, rfl, ⟨by omega, hlt⟩, _, hl, _, rfl, _, rfl, _, rfl, _, rfl, exW ⟨by omega, by omega⟩ ⟨⟨k + 1, by omega, rfl⟩, ?_⟩⟩
  show n - ((k : Int) + 1).toNat < n - (k : Int).toNat
  omega
theorem spec_l01Byte_c {w : World} {r n c : Nat} {p : Option Addr} (hc : Cur w r p n c) (hb : ByR w p n) (hne : 0 < n -> ∀ q, p.map (·.block) = some q -> q ≠ r) (hn : n <= 1048576) :
    Ret P n_spec_l01Byte [.pointer (some ⟨r, 0, none⟩)] w fun v w' => ∃ z : Int, v = .int .i64 z /\ 0 <= z /\ z <= 255 /\ Cur w' r p n c /\ Chg [r] w w' := by
  obtain ⟨e, i, hh, hi, hblk⟩ := hc
  refine spec_l01Byte_ret ?_
  unfold spec_l01Byte
  refine ⟨_, hblk.load (by kernel_rfl) rfl, _, rfl, _, rfl, ?_⟩
  obtain ⟨w1, st1, hb1, ch1, _⟩ := hblk.store (P := P) (t := T_int) (k := 2) (v := .int .i64 (IntKind.wrap .i64 (IntKind.wrap .i64 (hh * 6364136223846793005) + 1442695040888963407))) (by kernel_rfl) (by simp) rfl
  have D1 := Ext.drew w1
  have D2 := D1.trans (Ext.drew w1.drew)
  have D3 := D2.trans (Ext.drew w1.drew.drew)
  have hb2 := hb1.ext D2; have hb3 := hb1.ext D3
  have hby := (hb.chg ch1 hne).ext D3
  refine ⟨w1, st1, _, fun W hW => ((hb1.ext D1).ext hW).load (by kernel_rfl) rfl, by decide, _, rfl, _, fun W hW => ((hb1.ext D1).ext hW).load (by kernel_rfl) rfl, by decide, _, rfl, _, rfl, ?_⟩
  obtain ⟨z1, hz1, z10, z11⟩ := and255 (IntKind.wrap .i64 (((BitVec.ofInt (IntKind.bits .i64) (Int.fdiv (IntKind.wrap .i64 (IntKind.wrap .i64 (hh * 6364136223846793005) + 1442695040888963407)) (2 ^ (min (33 : Int).toNat (IntKind.bits .i64)))) ^^^ BitVec.ofInt (IntKind.bits .i64) (Int.fdiv (IntKind.wrap .i64 (IntKind.wrap .i64 (hh * 6364136223846793005) + 1442695040888963407)) (2 ^ (min (45 : Int).toNat (IntKind.bits .i64))))).toNat : Nat) : Int))
  refine ⟨z1, hz1, _, fun W hW => (hb2.ext hW).load (by kernel_rfl) rfl, _, _, _, fun W hW => (hb2.ext hW).load (by kernel_rfl) rfl, ifD (fun hlt => ?_) (fun hge => ?_)⟩
  · obtain ⟨a, z, hpa, _⟩ := hby.at hi hlt
    obtain ⟨b, o, zs, hpe, hzl, hseg, hblt⟩ := hby (by omega)
    have hpo : p = some ⟨b, o, none⟩ := hpe
    subst hpo
    have hk : i.toNat < zs.length := by omega
    refine ⟨_, _, _, fun W hW => (hb3.ext hW).load (by kernel_rfl) rfl, _, fun W hW => (hb3.ext hW).load (by kernel_rfl) rfl, ⟨hi, hlt⟩, ?_⟩
    refine ⟨zs[i.toNat], fun W hW => (hseg.ext hW).load (by kernel_rfl) (by rw [Nat.mul_one, List.getElem?_map, List.getElem?_eq_getElem hk]; rfl), _, rfl, _, rfl, ?_⟩
    obtain ⟨z2, hz2, z20, z21⟩ := and255 (IntKind.wrap .i64 (z1 + IntKind.wrap .i64 zs[i.toNat]))
    refine ⟨z2, hz2, _, hb3.load (by kernel_rfl) rfl, exW ⟨by omega, by omega⟩ ?_⟩
    obtain ⟨w2, st2, hb4, ch2, _⟩ := hb3.store (P := P) (t := T_int) (k := 1) (v := .int .i64 (i + 1)) (by kernel_rfl) (by simp) rfl
    refine ⟨w2, st2, ?_⟩
    unfold spec_l01Byte_j0
    exact ⟨z2, rfl, z20, z21, ⟨e, i + 1, IntKind.wrap .i64 (IntKind.wrap .i64 (hh * 6364136223846793005) + 1442695040888963407), by omega, hb4⟩, (ch1.trans D3.toChg).trans ch2⟩
  · unfold spec_l01Byte_j0
    exact ⟨z1, rfl, z10, z11, ⟨e, i, IntKind.wrap .i64 (IntKind.wrap .i64 (hh * 6364136223846793005) + 1442695040888963407), hi, hb2⟩, ch1.trans D2.toChg⟩
theorem spec_l01Below_c {w : World} {r n c : Nat} {p : Option Addr} (hc : Cur w r p n c) (hb : ByR w p n) (hne : 0 < n -> ∀ q, p.map (·.block) = some q -> q ≠ r) (hn : n <= 1048576) {k : Int} (hk : 0 < k) (hk2 : k <= 1000000000) :
    Ret P n_spec_l01Below [.pointer (some ⟨r, 0, none⟩), .int .i64 k] w fun v w' => ∃ z : Int, v = .int .i64 z /\ 0 <= z /\ z < k /\ Cur w' r p n c /\ Chg [r] w w' := by
  refine spec_l01Below_ret ?_
  unfold spec_l01Below
  refine ifD (fun h => by omega) (fun _ => ifD (fun _ => ?_) (fun _ => ?_))
  · refine Ret.at (spec_l01Byte_c hc hb hne hn) ?_
    rintro v w1 ⟨z, rfl, z0, z1, hc1, ch1⟩
    refine ⟨_, rfl, by omega, _, rfl, _, rfl, ?_, ?_, hc1, ch1⟩
    · exact Int.tmod_nonneg _ z0
    · rw [Int.tmod_eq_emod_of_nonneg z0]; exact Int.emod_lt_of_pos _ hk
  · refine Ret.at (spec_l01Byte_c hc hb hne hn) ?_
    rintro v w1 ⟨x1, rfl, a0, a1, hc1, ch1⟩
    refine ⟨_, rfl, ?_⟩
    have hb1 := hb.chg ch1 hne
    refine Ret.at (spec_l01Byte_c hc1 hb1 hne hn) ?_
    rintro v w2 ⟨x2, rfl, b0, b1, hc2, ch2⟩
    refine ⟨_, rfl, ?_⟩
    have hb2 := hb1.chg ch2 hne
    refine Ret.at (spec_l01Byte_c hc2 hb2 hne hn) ?_
    rintro v w3 ⟨x3, rfl, c0, c1, hc3, ch3⟩
    refine ⟨_, rfl, ?_⟩
    have hb3 := hb2.chg ch3 hne
    refine Ret.at (spec_l01Byte_c hc3 hb3 hne hn) ?_
    rintro v w4 ⟨x4, rfl, d0, d1, hc4, ch4⟩
    refine ⟨_, rfl, exW ⟨by omega, by omega⟩ (exW ⟨by omega, by omega⟩ (exW ⟨by omega, by omega⟩ (exW ⟨by omega, by omega⟩ (exW ⟨by omega, by omega⟩ (exW ⟨by omega, by omega⟩ ⟨by omega, _, rfl, _, rfl, ?_, ?_, hc4, ((ch1.trans ch2).trans ch3).trans ch4⟩)))))⟩
    · exact Int.tmod_nonneg _ (by omega)
    · rw [Int.tmod_eq_emod_of_nonneg (by omega)]; exact Int.emod_lt_of_pos _ hk
end Go.Proofs.YtbgokfhcgcoipaaDoor
namespace Go.Proofs.YtbgokfhcgcoipaaDoor
open Go Go.Proofs.YtbgokfhcgcoipaaDoor.Sx
theorem digs_split {o : List Int} {N n : Nat} (h : digs N = o ++ digs n) (hn : 0 < n) : digs N = (o ++ [((n % 1000000000 : Nat) : Int)]) ++ digs (n / 1000000000) := by
  rw [h, digs_pos (by omega)]; simp
def room (on : Nat) (n : Int) : Prop := (on = 0 /\ n < 1000000000000000000000000000) ∨ (on = 1 /\ n < 1000000000000000000) ∨ (on = 2 /\ n < 1000000000) ∨ (on = 3 /\ n < 1)
theorem room_next {on : Nat} {n : Int} (h : room on n) (h0 : 0 < n) : room (on + 1) (n / 1000000000) /\ on <= 2 := by
  unfold room at h ⊢
  omega
theorem spec_NatOf_c {w : World} {n : Int} (h0 : 0 <= n) (h1 : n <= 9223372036854775807) :
    Ret P n_spec_NatOf [.int .i64 n] w fun v w' => ∃ p' n' c', v = .slice p' n' c' /\ Own w' w.heap.size T_int 1 p' n' c' ((digs n.toNat).map (Value.int .i64)) /\ Ext w w' := by
  refine spec_NatOf_ret ?_
  unfold spec_NatOf
  intro r w1 hn1
  refine ⟨fun m p on c wr => ∃ o : List Int, 0 <= m /\ room on m /\ m <= n /\ Own wr w.heap.size T_int 1 p on c (o.map (Value.int .i64)) /\ Ext w wr /\ digs n.toNat = o ++ digs m.toNat, fun m _ _ _ _ => m.toNat,
    ⟨[], h0, by unfold room; omega, Int.le_refl _, Own.fresh hn1, hn1.ext, rfl⟩, ?_⟩
  intro junk wr m p on c ⟨o, hm0, hrm, hmn, hown, hx, hd⟩
  refine ifD (fun hpos => ?_) (fun hz => ?_)
  · obtain ⟨hr2, hon⟩ := room_next hrm hpos
    refine ⟨by decide, _, rfl, fun r1 w2 hn2 => ?_⟩
    rw [tmod_limb hm0] at hn2
    obtain ⟨p', c', w3, g1, g2, g3⟩ := Own.push hown hx.le hn2 (by omega)
    refine ⟨_, _, _, _, g1, by decide, ?_⟩
    rw [tdiv_limb hm0]
    refine exW ⟨by omega, by omega⟩ ⟨⟨_, by omega, hr2, by omega, g2, g3 w hx (Nat.le_refl _), ?_⟩, ?_⟩
    · have := digs_split hd (show 0 < m.toNat by omega)
      have e1 : ((m.toNat % 1000000000 : Nat) : Int) = m % 1000000000 := by omega
      have e2 : m.toNat / 1000000000 = (m / 1000000000).toNat := by omega
      rw [this, e1, e2]
    · show (m / 1000000000).toNat < m.toNat
      omega
  · have : m.toNat = 0 := by omega
    rw [this, digs_zero, List.append_nil] at hd
    exact ⟨_, _, _, rfl, by rw [hd]; exact hown, hx⟩
theorem digs_len3 {n : Nat} (h : n < 1000000000000000000000000000) : (digs n).length <= 3 := by
  by_cases h1 : n = 0
  · subst h1; simp [digs_zero]
  · rw [digs_pos h1]
    by_cases h2 : n / 1000000000 = 0
    · rw [h2, digs_zero]; simp
    · rw [digs_pos h2]
      by_cases h3 : n / 1000000000 / 1000000000 = 0
      · rw [h3, digs_zero]; simp
      · rw [digs_pos h3]
        have h4 : n / 1000000000 / 1000000000 / 1000000000 = 0 := by omega
        rw [h4, digs_zero]; simp
theorem icap_small {z : Int} (h : z.natAbs < 1000000000000000000000000000) : icap z = enc z := by
  have hl := digs_len3 h
  unfold icap capL
  rw [if_pos (by omega)]
  simp only [mkS, enc, isEmpty_digs]
  by_cases h0 : z < 0
  · have : z.natAbs ≠ 0 := by omega
    simp [h0]; omega
  · simp [h0]
theorem spec_IntOf_c {w : World} {n : Int} (h0 : -9223372036854775808 <= n) (h1 : n <= 9223372036854775807) :
    Ret P n_spec_IntOf [.int .i64 n] w fun v w' => ∃ vs' f, v = .agg ⟨vs'⟩ /\ Owns w' w.heap.size vs' (enc n) f /\ f.Nodup /\ Ext w w' := by
  refine spec_IntOf_ret ?_
  unfold spec_IntOf
  intro r w1 hn1
  have e1 := hn1.r_eq; have s1 := hn1.size
  have fin : ∀ (W : World) (neg : Bool) (p : Option Addr) (m c : Nat) (z : List Int), IntsR W p m c z -> Limbs z -> Ext w1 W -> (val z).toNat = n.natAbs -> ((val z).toNat ≠ 0 -> neg = decide (n < 0)) ->
      Calls P n_spec_l04Make ⟨[.bool neg, .slice p m c]⟩ W fun e_1 wv_7 => ∃ (t170 : Bool) (t171_p : Option Addr) (t171_n : Nat) (t171_c : Nat), e_1 = .returned (.agg #[(.bool t170), (.slice t171_p t171_n t171_c)]) /\
        ∃ wv_8, Stores P T_impl_Signed ⟨r, 0, none⟩ (.agg #[(.bool t170), (.slice t171_p t171_n t171_c)]) wv_7 wv_8 /\
        ∃ (r0 : Bool) (r1_p : Option Addr) (r1_n : Nat) (r1_c : Nat), Loads P T_impl_Signed ⟨r, 0, none⟩ (.agg #[(.bool r0), (.slice r1_p r1_n r1_c)]) wv_8 /\ (fun (v : Value) (w' : World) => ∃ vs' f, v = .agg ⟨vs'⟩ /\ Owns w' w.heap.size vs' (enc n) f /\ f.Nodup /\ Ext w w') (.agg #[(.bool r0), (.slice r1_p r1_n r1_c)]) wv_8 := by
    intro W neg p m c z hz hlz hW hm hs
    refine Ret.at (spec_l04Make_c hz hlz) ?_
    rintro v W2 ⟨b, q, qn, qc, hv, hbb, ho, y2⟩
    subst hv
    have hW0 := hW.le
    obtain ⟨W3, st, hb3, ch, sz⟩ := ((hn1.blk.ext hW).ext y2).storeA0 (P := P) (t := T_impl_Signed) (xs := [.bool b, .slice q qn qc]) (by kernel_rfl) rfl (by simp [Value.oneCell'])
    have ow2 : Owns W2 W.heap.size [.bool b, .slice q qn qc] (enc n) (q.map (·.block)).toList := by
      rw [<- icap_small (by omega), <- mkS_digs hm hs, hbb]; exact Owns.int2 ho
    exact ⟨_, _, _, _, rfl, W3, st, _, _, _, _, hb3.loadA0 (by kernel_rfl), _, _, rfl, (ow2.chg1 ch (by omega)).mono (by omega), nodup_opt q, ((hn1.ext.trans hW).trans y2).chg ch (by simp; omega)⟩
  refine ifD (fun hmin => ?_) (fun hnm => ifD (fun hneg => ?_) (fun hpos => ?_))
  · intro r1 w2 hn2
    refine fin w2 true _ 3 3 [854775808, 223372036, 9] ⟨rfl, Nat.le_refl _, by omega, fun _ => ⟨r1, 0, rfl, hn2.blk.seg⟩⟩ (fun x hx => by simp at hx; omega) hn2.ext ?_ ?_
    · simp [val]; omega
    · intro _; simp; omega
  · have w6 : IntKind.wrap .i64 (0 - n) = -n := by
      simp only [IntKind.wrap, IntKind.bits, IntKind.signed]
      simp
      omega
    refine ⟨_, rfl, ?_⟩
    rw [w6]
    refine Ret.at (spec_NatOf_c (by omega) (by omega)) ?_
    rintro v w2 ⟨p, m, c, hv, ho, y⟩
    subst hv
    refine ⟨_, _, _, rfl, fin w2 true p m c _ ho.ints (digs_limbs _) y ?_ ?_⟩
    · rw [val_digs]; omega
    · intro _; simp [hneg]
  · refine Ret.at (spec_NatOf_c (by omega) (by omega)) ?_
    rintro v w2 ⟨p, m, c, hv, ho, y⟩
    subst hv
    refine ⟨_, _, _, rfl, fin w2 false p m c _ ho.ints (digs_limbs _) y ?_ ?_⟩
    · rw [val_digs]; omega
    · intro _; simp; omega
end Go.Proofs.YtbgokfhcgcoipaaDoor
namespace Go.Proofs.YtbgokfhcgcoipaaDoor
open Go Go.Proofs.YtbgokfhcgcoipaaDoor.Sx
theorem ByR.ne {W : World} {p : Option Addr} {n r : Nat} (h : ByR W p n) (hr : W.heap.size <= r) : 0 < n -> ∀ q, p.map (·.block) = some q -> q ≠ r := fun hn q hq => by
  obtain ⟨b, o, zs, rfl, _, _, h4⟩ := h hn
  simp only [Option.map_some, Option.some.injEq] at hq
  omega
end Go.Proofs.YtbgokfhcgcoipaaDoor
namespace Go.Proofs.YtbgokfhcgcoipaaDoor
open Go Go.Proofs.YtbgokfhcgcoipaaDoor.Sx
theorem hlim {x : Int} (h : x.natAbs <= 400000000000000000000000000000000000000) : (digs x.natAbs).length <= 10000000 := by
  have := digs_len_le (n := x.natAbs) (by omega)
  omega
theorem by_better (up : Bool) (x y : Int) : (cond up (-1) 1) * sgn (x - y) < 0 ↔ better up x y = true := by
  have h1 := @sgn_neg0 (x - y)
  have h2 := @sgn_pos0 (x - y)
  cases up with
  | true =>
    simp only [cond_true, better, if_true, decide_eq_true_eq]
    omega
  | false =>
    simp only [cond_false, better, Bool.false_eq_true, if_false, decide_eq_true_eq]
    omega
theorem impl_extreme_c {w : World} {B b n c : Nat} {s : List (ByteArray × Int)} {f : List Nat} {e : TypeId} (up : Bool) (ho : OwnRows w B e 3 (some ⟨b, 0, none⟩) n c (sumsRows s) f) (hn : 0 < n) (hN : n <= 1000) (hS : SInv 40000000000000000000000000000000000000 s) :
    Ret P n_impl_extreme [.slice (some ⟨b, 0, none⟩) n c, .int .i64 (cond up (-1) 1)] w fun v w' => v = .int .i64 ((bestTo up s s.length : Nat) : Int) /\ Ext w w' := by
  have hsl := ho.1
  rw [sumsRows_len] at hsl
  refine impl_extreme_ret ?_
  unfold impl_extreme
  refine ⟨fun bi i wr => ∃ j : Nat, i = j /\ bi = ((bestTo up s j : Nat) : Int) /\ j <= n /\ Ext w wr, fun _ i _ => n - i.toNat, ⟨0, rfl, rfl, Nat.zero_le _, Ext.refl w⟩, ?_⟩
  intro junk wr bi i ⟨j, hi, hbi, hjn, hx⟩
  subst hi
  subst hbi
  refine ifD (fun hlt => ?_) (fun hge => ⟨by have : j = s.length := by omega
                                             rw [this], hx⟩)
  have hj : j < s.length := by omega
  have hbl : bestTo up s j < s.length := bestTo_in up (by omega) (by omega)
  obtain ⟨kp, kn, kc, _, _, _, _, ld1, _, _, ⟨f1, rep1, _⟩, _⟩ := at_row (ho.ext hx) hj (by kernel_rfl) (by kernel_rfl)
  obtain ⟨kp2, kn2, kc2, _, _, _, _, ld2, _, _, ⟨f2, rep2, _⟩, _⟩ := at_row (ho.ext hx) hbl (by kernel_rfl) (by kernel_rfl)
  have d := Ext.drew wr
  have b1 := hS.bnd j
  have b2 := hS.bnd (bestTo up s j)
  refine ⟨⟨by omega, by omega⟩, _, _, _, _, fun W hW => ld1 W (d.trans hW), ⟨by omega, by omega⟩, _, _, _, _, fun W hW => ld2 W (d.trans hW), ?_⟩
  refine Ret.at (impl_intCmp_c (rep1.reps.ext d) (rep2.reps.ext d) (hlim (by omega)) (hlim (by omega))) ?_
  rintro v w3 ⟨hv, y⟩
  subst hv
  have hsr := sgn_range (valAt s j - valAt s (bestTo up s j))
  have hbb := by_better up (valAt s j) (valAt s (bestTo up s j))
  refine ⟨_, rfl, exW ?_ (ifD (fun hb => ?_) (fun hb => ?_))⟩
  · cases up with
    | true => simp only [cond_true]; omega
    | false => simp only [cond_false]; omega
  · unfold impl_extreme_j0
    refine exW ⟨by omega, by omega⟩ ⟨⟨j + 1, rfl, ?_, by omega, (hx.trans d).trans y⟩, by show n - ((j : Int) + 1).toNat < n - (j : Int).toNat; omega⟩
    have : bestTo up s (j + 1) = j := by rw [bestTo, if_pos (hbb.1 hb)]
    rw [this]
  · unfold impl_extreme_j0
    refine exW ⟨by omega, by omega⟩ ⟨⟨j + 1, rfl, ?_, by omega, (hx.trans d).trans y⟩, by show n - ((j : Int) + 1).toNat < n - (j : Int).toNat; omega⟩
    have : bestTo up s (j + 1) = bestTo up s j := by rw [bestTo, if_neg (mt hbb.2 hb)]
    rw [this]
def SetI (w : World) (cur : ByteArray) (s0 : List (ByteArray × Int)) (ps : Option Addr) (n c : Nat) (op : Option Addr) (on oc : Nat) (wr : World) : Prop :=
 ∃ s out fs fo, OwnRows wr w.heap.size T_impl_Pos 3 ps n c (sumsRows s) fs /\ OwnRows wr w.heap.size T_impl_Debt 5 op on oc out fo /\ (∀ q ∈ fo, q ∉ fs) /\ Ext w wr /\ SInv 40000000000000000000000000000000000000 s /\ s.length = n /\ on + nzc s <= n /\ settleF cur (n - on) s out = settleF cur n s0 []
def SetQ (w : World) (cur : ByteArray) (n : Nat) (s0 : List (ByteArray × Int)) (v : Value) (w' : World) : Prop :=
 ∃ p' n' c' f, v = .tuple #[.slice p' n' c', .bool (settleF cur n s0 []).2] /\ OwnRows w' w.heap.size T_impl_Debt 5 p' n' c' (settleF cur n s0 []).1 f /\ Ext w w'
theorem no_rows (w : World) (B : Nat) (e : TypeId) (k : Nat) : OwnRows w B e k none 0 0 [] [] := ⟨rfl, [], [], trivial, Own.nil _ _ _ _, by simp, by simp⟩
theorem sliceT_debt : sliceT P T_s_impl_Debt T_impl_Debt (.agg ⟨[.string ByteArray.empty, .string ByteArray.empty, .string ByteArray.empty, .bool false, .slice none 0 0]⟩) 5 80 := ⟨by kernel_rfl, by kernel_rfl, rfl, by decide⟩
set_option maxHeartbeats 1000000 in
theorem impl_Settle_j1_c {w wr W : World} {cur : ByteArray} {s s0 : List (ByteArray × Int)} {out : List (List D0)} {b n c r1 : Nat} {fs fo fa : List Nat} {op : Option Addr} {on oc : Nat} {ap : Option Addr} {an ac : Nat}
    (ht : Tab w) (ho : OwnRows W w.heap.size T_impl_Pos 3 (some ⟨b, 0, none⟩) n c (sumsRows s) fs) (hoo : OwnRows W w.heap.size T_impl_Debt 5 op on oc out fo) (hdis : ∀ q ∈ fo, q ∉ fs) (hx : Ext w W)
    (hS : SInv 40000000000000000000000000000000000000 s) (hsl : s.length = n) (hn : n <= 1000) (hnz : on + nzc s <= n) (hF : settleF cur (n - on) s out = settleF cur n s0 []) (h0 : 0 < n) (hlo : valAt s (loOf s) < 0)
    (hr1 : Blk W r1 T_impl_Signed [.bool (decide (amt s < 0)), .slice ap an ac]) (hr1o : r1 ∉ fo) (hr1b : r1 ≠ b) (hoa : Owns W w.heap.size [.bool (decide (amt s < 0)), .slice ap an ac] (enc (amt s)) fa) (hfa : ∀ q ∈ fa, q ∉ fo /\ q ≠ b) :
    impl_Settle_j1 cur (some ⟨b, 0, none⟩) n wr (SetI w cur s0 (some ⟨b, 0, none⟩) n c) (fun _ on _ _ => n - on) op on oc ((bestTo false s s.length : Nat) : Int) ((bestTo true s s.length : Nat) : Int) r1 W (SetQ w cur n s0) := by
  obtain ⟨ha0, ha1, ha2, ha3, hne⟩ := amt_facts (by omega) hS.tot hlo
  obtain ⟨hS', hl', hnz', hv'⟩ := step_facts (by omega) hS hlo
  have l1 : loOf s < s.length := bestTo_in _ (Nat.le_refl _) (by omega)
  have l2 : hiOf s < s.length := bestTo_in _ (Nat.le_refl _) (by omega)
  have b1 := hS.bnd (loOf s)
  have b2 := hS.bnd (hiOf s)
  have hk : n - on = (n - on - 1) + 1 := by omega
  have lw := hx.le
  unfold impl_Settle_j1
  refine ⟨_, _, _, _, hr1.loadA0 (by kernel_rfl), ?_⟩
  refine Ret.at (impl_intCopy_c hoa.reps (enc_code _) (by simp only [bulks, enc, D0.bulk, List.map_cons, List.map_nil, List.sum_cons, List.sum_nil]; have := hlim (x := amt s) (by omega); omega)) ?_
  rintro v w1 ⟨vs1, f1, hv, ho1, nd1, y1⟩
  subst hv
  obtain ⟨c0, cp, cn, cc, cz, rfl, _, _⟩ := open_Signed ho1.reps (enc_code _)
  refine ⟨_, _, _, _, rfl, ?_⟩
  refine Ret.at (impl_moneyOf_c (ht.ext (hx.trans y1)) cur ho1 nd1 y1.le) ?_
  rintro v w2 ⟨vs2, f2, hv, ho2, nd2, y2⟩
  subst hv
  obtain ⟨m0, m1, mp, mn, mc, mz, rfl, _, _⟩ := open_Money ho2.reps (moneyMk_code _ _)
  refine ⟨_, _, _, _, _, _, rfl, ?_⟩
  intro r2 w3 hn3
  obtain ⟨w4, st4, b4, y4⟩ := hn3.fill (P := P) (t := T_impl_Money) (xs := [.string m0, .bool m1, .slice mp mn mc]) (by simp [Value.oneCell']) (by kernel_rfl) rfl
  have Y4 := (y1.trans y2).trans y4
  refine ⟨w4, st4, ifN (fun hno => ?_) (fun hyes => ?_)⟩
  · have hres : settleF cur n s0 [] = ([], false) := by
      rw [<- hF, hk]
      unfold settleF
      rw [if_pos ⟨by omega, hlo⟩, if_neg (by rw [hno]; simp)]
    unfold SetQ
    rw [hres]
    exact ⟨none, 0, 0, [], rfl, no_rows _ _ _ _, hx.trans Y4⟩
  have hF' : settleF cur (n - (on + 1)) (stepS s) (out ++ [debtRow cur s]) = settleF cur n s0 [] := by
    rw [<- hF, hk]
    conv => rhs; unfold settleF
    rw [if_pos ⟨by omega, hlo⟩, if_pos hyes, show n - on - 1 = n - (on + 1) by omega]
  have hmk : moneyMk cur (amt s) = .str cur :: enc (amt s) := by unfold moneyMk; rw [if_pos hyes]
  rw [hmk] at ho2
  obtain ⟨_, _, _, hbB, hbl, hbf, lkey, _, _, _, _, _⟩ := at_row ho l1 (by kernel_rfl) (by kernel_rfl)
  obtain ⟨_, _, _, _, _, _, hkey, _, _, _, _, _⟩ := at_row ho l2 (by kernel_rfl) (by kernel_rfl)
  have d4 := Ext.drew w4
  have D := Y4.trans d4
  refine ⟨⟨by omega, by unfold loOf at l1; omega⟩, _, fun V hV => lkey V (D.trans hV) _ (by kernel_rfl), ⟨by omega, by unfold hiOf at l2; omega⟩, _, fun V hV => hkey V (D.trans hV) _ (by kernel_rfl), _, _, _, _, _, fun V hV => (b4.ext (d4.trans hV)).loadA0 (by kernel_rfl), ?_⟩
  intro r3 w5 hn5
  have e3 := hn3.r_eq; have z3 := hn3.size; have e5 := hn5.r_eq; have z5 := hn5.size
  have D5 := D.trans hn5.ext
  have ly1 := y1.le; have ly2 := y2.le; have ly4 := y4.le; have ld4 := d4.le
  have hop : ∀ q ∈ (op.map (·.block)).toList, q ∈ fo := by
    obtain ⟨_, _, _, _, _, hf, _⟩ := hoo
    intro q hq
    rw [hf]; exact List.mem_append_left _ hq
  have hf2l := ho2.lt
  have how2 : Owns w5 w.heap.size [.string (keyAt s (loOf s)), .string (keyAt s (hiOf s)), .string m0, .bool m1, .slice mp mn mc] (debtRow cur s) f2 :=
    Owns.append (Owns.str _ _ _) (Owns.append (Owns.str _ _ _) (((ho2.ext (y4.trans (d4.trans hn5.ext))).mono (by omega))))
  obtain ⟨p6, c6, w6, fn, hap, hoo6, hch6, hf6⟩ := OwnRows_pushF (P := P) (hoo.ext D5) sliceT_debt (by have := D5.le; omega) hn5.blk rfl how2 nd2 (fun q hq hm => by
    have h1 := hf2l q hq
    have h2 := (hoo.lt q hm).2
    omega) (by omega) (by decide)
  refine ⟨p6, _, c6, w6, hap, ?_⟩
  have ho6 := (ho.ext D5).chg hch6 (fun x hx hm => hdis x (hop x hm) hx)
  have hr6 := (hr1.ext D5).chg hch6 (fun hm => hr1o (hop _ hm))
  have hoa6 := (hoa.ext D5).chg hch6 (fun k hk hm => (hfa k hk).1 (hop k hm))
  have X6 : Ext w w6 := (hx.trans D5).chg hch6 (fun q hq => (hoo.lt q (hop q hq)).1)
  obtain ⟨lp, ln, lc, _, hb6, _, _, lsig, _, _, ⟨fl, lown, _⟩, lput⟩ := at_row ho6 l1 (by kernel_rfl) (by kernel_rfl)
  have d6 := Ext.drew w6
  refine ⟨⟨by omega, by unfold loOf at l1; omega⟩, _, _, _, _, fun V hV => lsig V (d6.trans hV), _, _, _, _, fun V hV => (hr6.ext (d6.trans hV)).loadA0 (by kernel_rfl), ?_⟩
  refine Ret.at (impl_intAdd_c (lown.reps.ext d6) (hoa6.reps.ext d6) (hlim (by omega)) (hlim (by omega))) ?_
  rintro v w7 ⟨p7, n7, c7, hv, ho7', y7⟩
  subst hv
  have ho7 : Owns w7 w6.drew.heap.size [.bool (decide (valAt s (loOf s) + amt s < 0)), .slice p7 n7 c7] (enc (valAt s (loOf s) + amt s)) (p7.map (·.block)).toList := Owns.int2 ho7'
  have nd7 := nodup_opt p7
  refine ⟨_, _, _, _, rfl, ⟨by omega, by unfold loOf at l1; omega⟩, ?_⟩
  have lc6 := hch6.size; have ld6 := d6.le; have ly7 := y7.le
  have hf7 : ∀ q ∈ (p7.map (·.block)).toList, w6.heap.size <= q := fun q hq => by have := (ho7.lt q hq).1; omega
  obtain ⟨w8, fs8, st8, ho8, ch8, sz8, hfs8⟩ := lput (valAt s (loOf s) + amt s) w7 _ p7 n7 c7 _ (d6.trans y7) (ho7.mono (by omega)) nd7 hf7
  refine ⟨w8, st8, ⟨by omega, by unfold hiOf at l2; omega⟩, ?_⟩
  have D7 := d6.trans y7
  have hbn : b ∉ fn := fun hm => by
    rcases hf6 b hm with h | h | h
    · exact hdis b h hbf
    · have := hf2l b h; omega
    · have := hn5.size; omega
  have hr8 := (hr6.ext D7).chg ch8 (by simp; exact hr1b)
  have hoa8 := (hoa6.ext D7).chg ch8 (fun k hk hm => by simp at hm; exact (hfa k hk).2 hm)
  have hoo8 := (hoo6.ext D7).chg ch8 (fun k hk hm => by simp at hm; subst hm; exact hbn hk)
  have X8 : Ext w w8 := (X6.trans D7).chg ch8 (by simp; omega)
  have l2' : hiOf s < (setVal s (loOf s) (valAt s (loOf s) + amt s)).length := by rw [setVal_len]; exact l2
  obtain ⟨hp8, hn8, hc8, _, hb8, hbf8, _, hsig8, _, _, ⟨f8, hown8, _⟩, hput8⟩ := at_row ho8 l2' (by kernel_rfl) (by kernel_rfl)
  rw [hv'] at hsig8 hown8
  have d8 := Ext.drew w8
  refine ⟨_, _, _, _, fun V hV => hsig8 V (d8.trans hV), _, _, _, _, fun V hV => (hr8.ext (d8.trans hV)).loadA0 (by kernel_rfl), ?_⟩
  refine Ret.at (impl_intNeg_c (hoa8.reps.ext d8) (hlim (by omega))) ?_
  rintro v w9 ⟨vs9, f9, hv, ho9, nd9, y9⟩
  subst hv
  obtain ⟨g0, gp, gn, gc, gz, rfl, _, _⟩ := open_Signed ho9.reps (enc_code _)
  refine ⟨_, _, _, _, rfl, y9, ?_⟩
  refine Ret.at (impl_intAdd_c (hown8.reps.ext (d8.trans y9)) ho9.reps (hlim (by omega)) (hlim (by omega))) ?_
  rintro v w10 ⟨p10, n10, c10, hv, ho10', y10⟩
  subst hv
  have ho10 : Owns w10 w9.heap.size [.bool (decide (valAt s (hiOf s) - amt s < 0)), .slice p10 n10 c10] (enc (valAt s (hiOf s) - amt s)) (p10.map (·.block)).toList := by
    have := Owns.int2 (b := decide (valAt s (hiOf s) + -amt s < 0)) ho10'
    rw [<- Int.sub_eq_add_neg] at this
    exact this
  have nd10 := nodup_opt p10
  have Y10 := y9.trans y10
  have ly9 := y9.le
  rw [<- Int.sub_eq_add_neg]
  refine ⟨_, _, _, _, rfl, ⟨by omega, by unfold hiOf at l2; omega⟩, ?_⟩
  have ly10 := Y10.le; have ld8 := d8.le
  have hf10 : ∀ q ∈ (p10.map (·.block)).toList, w8.heap.size <= q := fun q hq => by have := (ho10.lt q hq).1; omega
  obtain ⟨w11, fs11, st11, ho11, ch11, sz11, hfs11⟩ := hput8 (valAt s (hiOf s) - amt s) w10 _ p10 n10 c10 _ (d8.trans Y10) (ho10.mono (by omega)) nd10 hf10
  have D10 := d8.trans Y10
  refine ⟨w11, st11, ⟨stepS s, out ++ [debtRow cur s], fs11, fn, ?_, (hoo8.ext D10).chg ch11 (fun k hk hm => by simp at hm; subst hm; exact hbn hk), ?_, (X8.trans D10).chg ch11 (by simp; omega), hS', by rw [hl']; exact hsl, by omega, hF'⟩, by show n - (on + 1) < n - on; omega⟩
  · have : stepS s = setVal (setVal s (loOf s) (valAt s (loOf s) + amt s)) (hiOf s) (valAt s (hiOf s) - amt s) := by
      show setVal (setVal s (loOf s) (valAt s (loOf s) + amt s)) (hiOf s) (valAt (setVal s (loOf s) (valAt s (loOf s) + amt s)) (hiOf s) - amt s) = _
      rw [hv']
    rw [this]
    exact ho11
  · intro q hq hm
    have hq6 := (hoo6.lt q hq).2
    have ls6 := hch6.size
    rcases hfs11 q hm with hm | hm
    · rcases hfs8 q hm with hm | hm
      · have hqs := (ho.lt q hm).2
        rcases hf6 q hq with h | h | h
        · exact hdis q h hm
        · have := hf2l q h; omega
        · omega
      · have := hf7 q hm; omega
    · have := hf10 q hm
      have := ch8.size
      have := D7.le
      omega
set_option maxHeartbeats 1000000 in
theorem impl_Settle_o {w : World} (cur : ByteArray) {p : Option Addr} {n c : Nat} {l : List (List D0)} (h : RowsR w 5 p n c l) (hc : ∀ x ∈ l, x.map D0.code = [.str, .str, .str, .bool, .ints]) (hn : n <= 1048576) (hb : ∀ x ∈ l, bulks x <= 1048576) (ht : Tab w) :
    Ret P n_impl_Settle [.string cur, .slice p n c] w fun v w' => ∃ p' n' c' f, v = .tuple #[.slice p' n' c', .bool (settleR cur l).2] /\ OwnRows w' w.heap.size T_impl_Debt 5 p' n' c' (settleR cur l).1 f /\ Ext w w' := by
  refine impl_Settle_ret ?_
  unfold impl_Settle
  refine Ret.at (impl_Positions_o cur h hc hn hb ht) ?_
  rintro v w0 ⟨ps, ns, cs, fs0, hv, ho0, y0⟩
  subst hv
  refine ⟨_, _, _, _, rfl, ifN (fun hno => ?_) (fun hok => ?_)⟩
  · have hR : settleR cur l = ([], false) := by unfold settleR; rw [hno]; rfl
    rw [hR]
    exact ⟨none, 0, 0, [], rfl, no_rows _ _ _ _, y0⟩
  have hT : posT cur l = sumsRows (posTo l l.length) := by unfold posT; rw [if_pos hok]
  rw [hT] at ho0
  have hns := ho0.1
  rw [sumsRows_len] at hns
  have hR : settleR cur l = settleF cur ns (posTo l l.length) [] := by unfold settleR; rw [if_pos hok, hns]
  have hS0 := pos_inv hc hok
  have hle := posTo_len l l.length (Nat.le_refl _)
  have hl20 := (debts_facts hok).1
  rw [hR]
  generalize posTo l l.length = s0 at *
  show _
  intro r w1 hn1
  have e1 := hn1.r_eq; have z1 := hn1.size
  have ly0 := y0.le
  refine ⟨SetI w cur s0 ps ns cs, fun _ on _ _ => ns - on, ⟨s0, [], fs0, [r], ho0.ext hn1.ext, OwnRows.fresh hn1 (by omega), fun q hq hm => by
    simp at hq
    have := (ho0.lt q hm).2
    omega, y0.trans hn1.ext, hS0, hns, by have := nzc_len s0; omega, rfl⟩, ?_⟩
  intro junk wr op on oc ⟨s, out, fs, fo, ho, hoo, hdis, hx, hS, hsl, hnz, hF⟩
  have stop : ∀ W, Ext wr W -> ¬ (0 < s.length /\ valAt s (loOf s) < 0) -> SetQ w cur ns s0 (.tuple #[.slice op on oc, .bool true]) W := fun W hW hh => by
    unfold SetQ
    rw [<- hF, settle_stop hh]
    exact ⟨_, _, _, fo, rfl, hoo.ext hW, hx.trans hW⟩
  refine ifD (fun h0 => ?_) (fun h0 => by unfold impl_Settle_j0; exact stop wr (Ext.refl _) (fun h => by omega))
  have hrow : (sumsRows s)[0]? = some ((sumsRows s)[0]'(by rw [sumsRows_len]; omega)) := List.getElem?_eq_getElem _
  obtain ⟨b, _, _, _, hpb, _⟩ := ho.put hrow
  subst hpb
  refine Ret.at (impl_extreme_c false ho (by omega) (by omega) hS) ?_
  rintro v w2 ⟨hv, y2⟩
  subst hv
  refine ⟨_, rfl, ?_⟩
  refine Ret.at (impl_extreme_c true (ho.ext y2) (by omega) (by omega) hS) ?_
  rintro v w3 ⟨hv, y3⟩
  subst hv
  have X3 := y2.trans y3
  have l1 : loOf s < s.length := bestTo_in _ (Nat.le_refl _) (by omega)
  have l2 : hiOf s < s.length := bestTo_in _ (Nat.le_refl _) (by omega)
  have b1 := hS.bnd (loOf s)
  have b2 := hS.bnd (hiOf s)
  obtain ⟨lp, ln, lc, hbB, hbl, hbf, _, lsig, lsl, _, ⟨fl, lown, _⟩, _⟩ := at_row (ho.ext X3) l1 (by kernel_rfl) (by kernel_rfl)
  obtain ⟨hp, hn', hc', _, _, _, _, hsig, _, _, ⟨fh, hown, hbfh, hfhf⟩, _⟩ := at_row (ho.ext X3) l2 (by kernel_rfl) (by kernel_rfl)
  refine ⟨_, rfl, ⟨by omega, by unfold loOf at l1; omega⟩, _, _, _, _, lsig w3 (Ext.refl _), ?_⟩
  refine Ret.at (impl_intSign_c lown.reps) ?_
  rintro v w4 ⟨hv, y4⟩
  subst hv
  have X4 := X3.trans y4
  refine ⟨_, rfl, ifD (fun hst => by unfold impl_Settle_j0; exact stop w4 X4 (fun h => absurd (sgn_nn0.1 hst) (by have := h.2; omega))) (fun hgo => ?_)⟩
  have hlo : valAt s (loOf s) < 0 := by have := mt sgn_nn0.2 hgo; omega
  obtain ⟨ha0, ha1, ha2, ha3, hne⟩ := amt_facts (by omega) hS.tot hlo
  have hhi := hi_pos (by omega) hS.tot hlo
  refine ⟨⟨by omega, by unfold hiOf at l2; omega⟩, _, _, _, _, hsig w4 y4, ?_⟩
  intro r1 w6 hn6
  have e6 := hn6.r_eq; have z6 := hn6.size
  obtain ⟨w7, st7, b7, y7⟩ := hn6.fill (P := P) (t := T_impl_Signed) (xs := [.bool (decide (valAt s (hiOf s) < 0)), .slice hp hn' hc']) (by simp [Value.oneCell']) (by kernel_rfl) rfl
  have d7 := Ext.drew w7
  have Y7 := y4.trans (y7.trans d7)
  have lX4 := X4.le
  have hbw : b < wr.heap.size := (ho.lt b (by obtain ⟨_, _, _, _, _, hf, _⟩ := ho; rw [hf]; simp)).2
  refine ⟨w7, st7, ⟨by omega, by unfold loOf at l1; omega⟩, _, _, _, fun V hV => lsl V (Y7.trans hV) _ (by kernel_rfl), _, _, _, fun V hV => (b7.ext (d7.trans hV)).loadAt 1 rfl (by kernel_rfl) rfl, ?_⟩
  obtain ⟨_, ⟨_, _, _, hq1, lints⟩, _⟩ := lown.reps
  obtain ⟨_, ⟨_, _, _, hq2, hints⟩, _⟩ := hown.reps
  cases hq1
  cases hq2
  refine Ret.at (impl_natCmp_c (lints.ext Y7) (hints.ext Y7)) ?_
  rintro v w10 ⟨hv, y10⟩
  subst hv
  have hcv := cmpL_val (digs_canon (valAt s (loOf s)).natAbs) (digs_canon (valAt s (hiOf s)).natAbs)
  rw [val_digs, val_digs] at hcv
  have Z := Y7.trans y10
  have X10 := X3.trans Z
  have r1fo : r1 ∉ fo := fun hm => by have := (hoo.lt r1 hm).2; omega
  have r1b : r1 ≠ b := by omega
  refine ⟨_, rfl, ifD (fun hless => ?_) (fun hge => ?_)⟩
  · refine ⟨⟨by omega, by unfold loOf at l1; omega⟩, _, _, _, _, lsig w10 Z, ?_⟩
    refine Ret.at (impl_intNeg_c (lown.reps.ext Z) (hlim (by omega))) ?_
    rintro v w11 ⟨vs, f, hv, ho11, nd11, y11⟩
    subst hv
    obtain ⟨g0, gp, gn, gc, gz, rfl, hgd, _⟩ := open_Signed ho11.reps (enc_code _)
    have ham : amt s = -valAt s (loOf s) := by unfold amt; rw [if_neg (by omega)]
    rw [<- ham] at ho11 hgd
    simp only [enc, List.cons.injEq, D0.bool.injEq, D0.ints.injEq, and_true] at hgd
    obtain ⟨rfl, rfl⟩ := hgd
    have b11 := (b7.ext (d7.trans y10)).ext y11
    obtain ⟨w12, st12, b12, ch12, sz12⟩ := b11.storeA0 (P := P) (t := T_impl_Signed) (xs := [.bool (decide (amt s < 0)), .slice gp gn gc]) (by kernel_rfl) rfl (by simp [Value.oneCell'])
    have X11 := X10.trans y11
    have X12 : Ext wr w12 := X11.chg ch12 (by simp; omega)
    have lZ := X10.le
    have lb7 := b7.lt
    have l10 := y10.le; have ld7 := d7.le; have lx := hx.le
    refine ⟨_, _, _, _, rfl, w12, st12, ?_⟩
    exact impl_Settle_j1_c ht (ho.ext X12) (hoo.ext X12) hdis (hx.trans X12) hS hsl (by omega) hnz hF (by omega) hlo b12 r1fo r1b ((ho11.mono (by omega)).chg ch12 (fun k hk hm => by have := (ho11.lt k hk).1; simp at hm; omega))
      (fun q hq => ⟨fun hm => by have h1 := (ho11.lt q hq).1; have h2 := (hoo.lt q hm).2; omega, fun e => by have h1 := (ho11.lt q hq).1; omega⟩)
  · have ham : amt s = valAt s (hiOf s) := by
      by_cases he : valAt s (hiOf s) < -valAt s (loOf s)
      · unfold amt; rw [if_pos he]
      · have : ¬ ((valAt s (loOf s)).natAbs : Int) < ((valAt s (hiOf s)).natAbs : Int) := by
          intro hh
          rcases hcv with ⟨h1, h2⟩ | ⟨h1, h2⟩ | ⟨h1, h2⟩ <;> omega
        unfold amt; rw [if_neg he]; omega
    have b10 := b7.ext (d7.trans y10)
    refine impl_Settle_j1_c (fa := fh) ht (ho.ext X10) (hoo.ext X10) hdis (hx.trans X10) hS hsl (by omega) hnz hF (by omega) hlo (by rw [ham]; exact b10) r1fo r1b (by rw [ham]; exact hown.ext Z)
      (fun q hq => ⟨fun hm => hdis q hm (hfhf q hq), fun e => hbfh (by rw [<- e]; exact hq)⟩)
end Go.Proofs.YtbgokfhcgcoipaaDoor
namespace Go.Proofs.YtbgokfhcgcoipaaDoor
open Go Go.Proofs.YtbgokfhcgcoipaaDoor.Sx
theorem Limbs.set {l : List Int} {k : Nat} {x : Int} (h : Limbs l) (hx : 0 <= x /\ x < 1000000000) : Limbs (l.set k x) := fun y hy => by
  rcases List.mem_or_eq_of_mem_set hy with h1 | h1
  · exact h y h1
  · rw [h1]; exact hx
end Go.Proofs.YtbgokfhcgcoipaaDoor
namespace Go.Proofs.YtbgokfhcgcoipaaDoor
open Go Go.Proofs.YtbgokfhcgcoipaaDoor.Sx
def decOk : List D0 -> Bool
  | [.bool b, .ints z, .int s] => intOk [.bool b, .ints z] && decide (z.length <= 6) && decide (0 <= s /\ s <= 30)
  | _ => false
theorem impl_isScale_c (s : Int) (w : World) : Ret P n_impl_isScale [.int .i64 s] w fun v w' => v = .bool (decide (0 <= s /\ s <= 30)) /\ w' = w := by
  refine impl_isScale_ret ?_
  unfold impl_isScale
  refine ifD (fun h => ⟨?_, rfl⟩) (fun h => ⟨?_, rfl⟩) <;> simp [h]
theorem impl_DecOk_c {w : World} {xs : List Value} {dx : List D0} (h : Reps w xs dx) (hc : dx.map D0.code = [.bool, .ints, .int]) :
    Ret P n_impl_DecOk [.agg ⟨xs⟩] w fun v w' => v = .bool (decOk dx) /\ Ext w w' := by
  obtain ⟨a0, a1p, a1n, a1c, a1z, a2, rfl, rfl, ha⟩ := open_Dec h hc
  refine impl_DecOk_ret ?_
  unfold impl_DecOk
  intro r w1 hn1
  have x := hn1.ext
  have hl := ha.1
  refine ⟨_, _, _, _, hn1.blk.loadAAt 0 [.bool a0, .slice a1p a1n a1c] rfl (by kernel_rfl) rfl, ?_⟩
  refine Ret.at (impl_IntOk_c (dx := [.bool a0, .ints a1z]) ⟨rfl, ⟨_, _, _, rfl, ha.ext x⟩, trivial⟩ rfl) ?_
  rintro v w2 ⟨hv, y⟩
  subst hv
  have x := x.trans y; have b := hn1.blk.ext y
  refine ⟨_, rfl, fun e => ⟨_, _, _, b.loadAt 1 rfl (by kernel_rfl) rfl, ifD (fun hle => ?_) (fun hgt => ⟨?_, x⟩)⟩, fun e => ifF ⟨?_, x⟩⟩
  · refine ⟨_, b.loadAt 2 rfl (by kernel_rfl) rfl, ?_⟩
    refine Ret.at (impl_isScale_c a2 w2) ?_
    rintro v w3 ⟨hv, hw⟩
    subst hv; subst hw
    exact ⟨_, rfl, by simp only [decOk, e, show decide (a1z.length <= 6) = true by simp; omega, Bool.true_and], x⟩
  · simp only [decOk, show decide (a1z.length <= 6) = false by simp; omega, Bool.and_false, Bool.false_and]
  · simp only [decOk, e, Bool.false_and]
end Go.Proofs.YtbgokfhcgcoipaaDoor
namespace Go.Proofs.YtbgokfhcgcoipaaDoor
open Go Go.Proofs.YtbgokfhcgcoipaaDoor.Sx
theorem impl_Settle_c {w : World} (cur : ByteArray) {p : Option Addr} {n c : Nat} {l : List (List D0)} (h : RowsR w 5 p n c l) (hc : ∀ x ∈ l, x.map D0.code = [.str, .str, .str, .bool, .ints]) (hn : n <= 1048576) (hb : ∀ x ∈ l, bulks x <= 1048576) (ht : Tab w) :
    Ret P n_impl_Settle [.string cur, .slice p n c] w fun v w' => ∃ p' n' c' f, v = .tuple #[.slice p' n' c', .bool (settleR cur l).2] /\ OwnRows w' w.heap.size T_impl_Debt 5 p' n' c' (settleR cur l).1 f /\ (∀ x ∈ (settleR cur l).1, x.map D0.code = [.str, .str, .str, .bool, .ints]) /\ cntL (settleR cur l).1 <= 1000000000 /\ Ext w w' :=
  (impl_Settle_o cur h hc hn hb ht).mono fun v w' ⟨p', n', c', f, hv, ho, hx⟩ => ⟨p', n', c', f, hv, ho, settleR_code cur l, settleR_cnt hc, hx⟩
end Go.Proofs.YtbgokfhcgcoipaaDoor
namespace Go.Proofs.YtbgokfhcgcoipaaDoor
open Go Go.Proofs.YtbgokfhcgcoipaaDoor.Sx
theorem Sx.OwnRows.blk_mem {w : World} {B : Nat} {e : TypeId} {k : Nat} {p : Option Addr} {n c : Nat} {l : List (List D0)} {f : List Nat} (h : OwnRows w B e k p n c l f) : ∀ q ∈ (p.map (·.block)).toList, q ∈ f := by
  obtain ⟨_, css, fs, _, _, rfl, _⟩ := h
  exact fun q hq => List.mem_append_left _ hq
end Go.Proofs.YtbgokfhcgcoipaaDoor
namespace Go.Proofs.YtbgokfhcgcoipaaDoor
open Go Go.Proofs.YtbgokfhcgcoipaaDoor.Sx
theorem spec_l01Str_c {w : World} {r n c : Nat} {p : Option Addr} (hc : Cur w r p n c) (hb : ByR w p n) (hne : 0 < n -> ∀ q, p.map (·.block) = some q -> q ≠ r) (hn : n <= 1048576) {b o ln lc : Nat} {ss : List ByteArray} (hs : Seg w b o (ss.map Value.string)) (hbr : b ≠ r) (hl : ss.length = ln) (h0 : 0 < ln) (h1 : ln <= 1000) :
    Ret P n_spec_l01Str [.pointer (some ⟨r, 0, none⟩), .slice (some ⟨b, o, none⟩) ln lc] w fun v w' => ∃ s, v = .string s /\ s ∈ ss /\ Cur w' r p n c /\ Chg [r] w w' := by
  refine spec_l01Str_ret ?_
  unfold spec_l01Str
  refine Ret.at (spec_l01Below_c hc hb hne hn (k := ((ln : Nat) : Int)) (by omega) (by omega)) ?_
  rintro v w1 ⟨z, rfl, z0, z1, hc1, ch1⟩
  have hk : z.toNat < ss.length := by omega
  refine ⟨_, rfl, ⟨z0, z1⟩, ss[z.toNat], (hs.chg ch1 (fun hm => hbr (List.mem_singleton.1 hm))).loadAt z.toNat (by rw [addr_add, Nat.mul_one]) (by kernel_rfl) (by rw [List.getElem?_map, List.getElem?_eq_getElem hk]; rfl), ?_⟩
  exact ⟨_, rfl, List.getElem_mem hk, hc1, ch1⟩
def curs7 : List ByteArray := [S [67, 72, 70], S [69, 85, 82], S [85, 83, 68], S [74, 80, 89], S [75, 87, 68], S [72, 85, 70], S [67, 76, 70]]
theorem curs7_known : ∀ c ∈ curs7, curKnown c = true := by decide +kernel
theorem spec_l08Cur_c {w : World} {r n c : Nat} {p : Option Addr} (hc : Cur w r p n c) (hb : ByR w p n) (hne : 0 < n -> ∀ q, p.map (·.block) = some q -> q ≠ r) (hn : n <= 1048576) :
    Ret P n_spec_l08Cur [.pointer (some ⟨r, 0, none⟩)] w fun v w' => ∃ s, v = .string s /\ s ∈ curs7 /\ Cur w' r p n c /\ Chg [r] w w' := by
  refine spec_l08Cur_ret ?_
  unfold spec_l08Cur
  intro r1 w1 hn1
  have e1 := hn1.r_eq; have hlt := hc.lt
  have hs : Seg w1 r1 0 (curs7.map Value.string) := hn1.blk.seg
  refine Ret.at (spec_l01Str_c (hc.ext hn1.ext) (hb.ext hn1.ext) hne hn hs (by omega) rfl (by decide) (by decide)) ?_
  rintro v w2 ⟨s, rfl, hm, hc2, ch2⟩
  exact ⟨_, rfl, s, rfl, hm, hc2, hn1.ext.toChg.trans ch2⟩
def names5 : List ByteArray := [S [97, 110, 110], S [98, 111, 98], S [99, 121], S [100, 101, 101], S [101, 118, 101]]
def names6 : List ByteArray := S [102, 111, 120] :: names5
def DebtD (cur : ByteArray) (x : List D0) : Prop := ∃ (a b : ByteArray) (z : Int), x = .str a :: .str b :: .str cur :: enc z /\ a ∈ names6 /\ b ∈ names6 /\ a ≠ b /\ 0 < z /\ z <= 300
theorem fox_not : ∀ a ∈ names5, a ≠ S [102, 111, 120] := by decide
theorem spec_l16Draw_c {w : World} {r n c : Nat} {p : Option Addr} (cur : ByteArray) (hc : Cur w r p n c) (hb : ByR w p n) (hne : 0 < n -> ∀ q, p.map (·.block) = some q -> q ≠ r) (hn : n <= 1048576) :
    Ret P n_spec_l16Draw [.pointer (some ⟨r, 0, none⟩), .string cur] w fun v w' => ∃ p' n' c' l, v = .slice p' n' c' /\ RowsR w' 5 p' n' c' l /\ (∀ x ∈ l, DebtD cur x) /\ l.length <= 7 /\ Chg [r] w w' := by
  refine spec_l16Draw_ret ?_
  unfold spec_l16Draw
  intro r0 w1 hn1
  have e1 := hn1.r_eq; have s1 := hn1.size; have hlt := hc.lt
  refine Ret.at (spec_l01Below_c (hc.ext hn1.ext) (hb.ext hn1.ext) hne hn (k := 8) (by decide) (by decide)) ?_
  rintro v w2 ⟨k, rfl, k0, k1, hc2, ch2⟩
  have l2 := ch2.size
  refine ⟨_, rfl, fun lp ln lc j W => ∃ l f, 0 <= j /\ j <= k /\ (ln : Int) + j <= 7 /\ OwnRows W w.heap.size T_impl_Debt 5 lp ln lc l f /\ (∀ x ∈ l, DebtD cur x) /\ Cur W r p n c /\ Chg [r] w W, fun _ _ _ j _ => j.toNat,
    ⟨[], [r0], k0, by omega, by show ((0 : Nat) : Int) + k <= 7; omega, ?_, by simp, hc2, hn1.ext.toChg.trans ch2⟩, ?_⟩
  · have hb0 := hn1.blk.chg ch2 (fun hm => by have := List.mem_singleton.1 hm; omega)
    exact ⟨rfl, [], [], trivial, Own.of_blk0 hb0 (by omega) (by simp) (by decide), by simp, by simp⟩
  rintro junk W lp ln lc j ⟨l, f, j0, j1, j2, hO, hD, hcW, hX⟩
  have lW := hX.size
  have hll := hO.rows.1
  refine ifD (fun hlt2 => ?_) (fun hge => ⟨lp, ln, lc, l, rfl, hO.rows, hD, by omega, hX⟩)
  intro r1 w3 hn3
  have e3 := hn3.r_eq; have s3 := hn3.size
  have hs : Seg w3 r1 0 (names5.map Value.string) := hn3.blk.seg
  have hbW := hb.chg hX hne
  refine Ret.at (spec_l01Str_c (hcW.ext hn3.ext) (hbW.ext hn3.ext) hne hn hs (by omega) rfl (by decide) (by decide)) ?_
  rintro v w4 ⟨a, rfl, ha, hc4, ch4⟩
  have l4 := ch4.size
  refine ⟨_, rfl, ?_⟩
  intro r2 w5 hn5
  have e5 := hn5.r_eq; have s5 := hn5.size
  have hs2 : Seg w5 r2 0 (names5.map Value.string) := hn5.blk.seg
  have X5 : Chg [r] w w5 := ((hX.trans hn3.ext.toChg).trans ch4).trans hn5.ext.toChg
  refine Ret.at (spec_l01Str_c (hc4.ext hn5.ext) (hb.chg X5 hne) hne hn hs2 (by omega) rfl (by decide) (by decide)) ?_
  rintro v w6 ⟨b, rfl, hb6, hc6, ch6⟩
  have l6 := ch6.size
  have X6 := X5.trans ch6
  have Y6 : Chg [r] W w6 := ((hn3.ext.toChg.trans ch4).trans hn5.ext.toChg).trans ch6
  have a6 : a ∈ names6 := List.mem_cons_of_mem _ ha
  have go : ∀ b', b' ∈ names6 -> a ≠ b' -> spec_l16Draw_j0 (some ⟨r, 0, none⟩) cur W (fun lp ln lc j W => ∃ l f, 0 <= j /\ j <= k /\ (ln : Int) + j <= 7 /\ OwnRows W w.heap.size T_impl_Debt 5 lp ln lc l f /\ (∀ x ∈ l, DebtD cur x) /\ Cur W r p n c /\ Chg [r] w W) (fun _ _ _ j _ => j.toNat) lp ln lc j a b' w6
      fun v w' => ∃ p' n' c' l, v = .slice p' n' c' /\ RowsR w' 5 p' n' c' l /\ (∀ x ∈ l, DebtD cur x) /\ l.length <= 7 /\ Chg [r] w w' := by
    intro b' hb' hne'
    unfold spec_l16Draw_j0
    refine Ret.at (spec_l01Below_c hc6 (hb.chg X6 hne) hne hn (k := 300) (by decide) (by decide)) ?_
    rintro v w7 ⟨z, rfl, z0, z1, hc7, ch7⟩
    have l7 := ch7.size
    refine ⟨_, rfl, exW ⟨by omega, by omega⟩ ?_⟩
    refine Ret.at (spec_IntOf_c (n := 1 + z) (by omega) (by omega)) ?_
    rintro v w8 ⟨vs8, f8, hv, ho8, nd8, y8⟩
    subst hv
    have l8 := y8.le
    obtain ⟨g0, gp, gn, gc, gz, rfl, _, _⟩ := open_Signed ho8.reps (enc_code _)
    refine ⟨_, _, _, _, rfl, ?_⟩
    intro r3 w9 hn9
    have e9 := hn9.r_eq; have s9 := hn9.size
    have Y9 : Chg [r] W w9 := ((Y6.trans ch7).trans y8.toChg).trans hn9.ext.toChg
    have lf := hO.lt
    have hO9 := hO.chg Y9 (fun q hq hm => by have := (lf q hq).1; have := List.mem_singleton.1 hm; omega)
    have lt8 := ho8.lt
    have how : Owns w9 w.heap.size [.string a, .string b', .string cur, .bool g0, .slice gp gn gc] (.str a :: .str b' :: .str cur :: enc (1 + z)) f8 := by
      have h1 := (ho8.ext hn9.ext).mono (B' := w.heap.size) (by omega)
      have := Owns.append (Owns.str w9 w.heap.size a) (Owns.append (Owns.str w9 w.heap.size b') (Owns.append (Owns.str w9 w.heap.size cur) h1))
      simpa using this
    obtain ⟨p', c', w10, f', hap, hO', chp, hf'⟩ := OwnRows_pushF (P := P) hO9 sliceT_debt (by omega) hn9.blk rfl how nd8 (fun q hq hm => by
      have := (lt8 q hq).1; have := (lf q hm).2; omega) (by omega) (by omega)
    have pl : ∀ q ∈ (lp.map (·.block)).toList, w.heap.size <= q := fun q hq => by
      have := hO9.blk_mem q (by cases lp <;> simp_all)
      exact (hO9.lt q this).1
    refine ⟨p', ln + 1, c', w10, hap, exW ⟨by omega, by omega⟩ ⟨⟨l ++ [.str a :: .str b' :: .str cur :: enc (1 + z)], f', by omega, by omega, by push_cast; omega, hO', ?_, ?_, ?_⟩, by show (j - 1).toNat < j.toNat; omega⟩⟩
    · intro x hx
      rcases List.mem_append.1 hx with hx | hx
      · exact hD x hx
      · rw [List.mem_singleton] at hx
        exact ⟨a, b', 1 + z, hx, a6, hb', hne', by omega, by omega⟩
    · have h9 := (hc7.ext y8).ext hn9.ext
      obtain ⟨e, i, x, g1, g2⟩ := h9
      exact ⟨e, i, x, g1, g2.chg chp (fun hm => by have := pl _ hm; omega)⟩
    · have X9 := ((X6.trans ch7).trans y8.toChg).trans hn9.ext.toChg
      refine ⟨chp.os.trans X9.os, chp.tape.trans X9.tape, chp.output.trans X9.output, Nat.le_trans X9.size chp.size, fun q hq hm => ?_⟩
      rw [chp.block q (Nat.lt_of_lt_of_le hq X9.size) (fun h7 => by have := pl q h7; omega)]
      exact X9.block q hq hm
  refine ⟨_, rfl, ifD (fun heq => go _ List.mem_cons_self (fox_not a ha)) (fun hne2 => go b (List.mem_cons_of_mem _ hb6) hne2)⟩
theorem spec_MakeDebts_c {w : World} {p : Option Addr} {n c : Nat} (h : ByR w p n) (hn : n <= 1048576) : Ret P n_spec_MakeDebts [.slice p n c] w fun v w' => ∃ cur p' n' c' l, v = .tuple #[.string cur, .slice p' n' c'] /\ cur ∈ curs7 /\ RowsR w' 5 p' n' c' l /\ (∀ x ∈ l, DebtD cur x) /\ l.length <= 7 /\ Ext w w' := by
  refine spec_MakeDebts_ret ?_
  unfold spec_MakeDebts
  refine Ret.at (spec_l01New_c h hn) ?_
  rintro v w1 ⟨r, rfl, hr, hc, y1⟩
  refine ⟨_, rfl, ?_⟩
  refine Ret.at (spec_l08Cur_c hc (h.ext y1) (h.ne hr) hn) ?_
  rintro v w2 ⟨cur, rfl, hcur, hc2, ch2⟩
  have Y2 : Ext w w2 := y1.chg ch2 (fun q hq => by have := List.mem_singleton.1 hq; omega)
  refine ⟨_, rfl, ?_⟩
  refine Ret.at (spec_l16Draw_c cur hc2 (h.ext Y2) (h.ne hr) hn) ?_
  rintro v w3 ⟨p', n', c', l, rfl, hl, hD, hlen, ch3⟩
  exact ⟨_, _, _, rfl, cur, p', n', c', l, rfl, hcur, hl, hD, hlen, Y2.chg ch3 (fun q hq => by have := List.mem_singleton.1 hq; omega)⟩
end Go.Proofs.YtbgokfhcgcoipaaDoor
namespace Go.Proofs.YtbgokfhcgcoipaaDoor
open Go Go.Proofs.YtbgokfhcgcoipaaDoor.Sx
def isumGo (l : List (List D0)) : List D0 := l.foldl iadd (enc 0)
def isum (l : List (List D0)) : List D0 := if l.all intOk then isumGo l else enc 0
theorem isumGo_ok : ∀ (l : List (List D0)), intOk (isumGo l) = true /\ (isumGo l).map D0.code = [.bool, .ints] := by
  have key : ∀ (l : List (List D0)) (t : List D0), intOk t = true -> t.map D0.code = [.bool, .ints] -> intOk (l.foldl iadd t) = true /\ (l.foldl iadd t).map D0.code = [.bool, .ints] := by
    intro l
    induction l with
    | nil => intro t h1 h2; exact ⟨h1, h2⟩
    | cons a r ih => intro t h1 h2; exact ih _ (iadd_ok _ _) (iadd_code _ _)
  intro l
  exact key l _ enc0_ok rfl
theorem isumGo_take (l : List (List D0)) {j : Nat} (hj : j < l.length) : isumGo (l.take (j + 1)) = iadd (isumGo (l.take j)) l[j] := by
  rw [List.take_add_one, List.getElem?_eq_getElem hj, Option.toList_some]
  unfold isumGo
  rw [List.foldl_append]; rfl
theorem isign_zero {z : List Int} {b : Bool} (h : intOk [.bool b, .ints z] = true) : (isign [.bool b, .ints z] = 0) ↔ z.length = 0 := by
  simp only [isign, h, Bool.not_true, Bool.false_eq_true, if_false]
  cases z with
  | nil => simp
  | cons a r => cases b <;> simp
def flat (l : List (List D0)) : Bool := l.all (fun x => intOk (x.drop 1)) && decide (isign (isumGo (l.map (·.drop 1))) = 0)
theorem impl_IntSum_c {w : World} {p : Option Addr} {n c : Nat} {l : List (List D0)} (h : RowsR w 2 p n c l) (hc : ∀ x ∈ l, x.map D0.code = [.bool, .ints]) :
    Ret P n_impl_IntSum [.slice p n c] w fun v w' => ∃ vs' f, v = .agg ⟨vs'⟩ /\ Owns w' w.heap.size vs' (isum l) f /\ f.Nodup /\ Ext w w' := by
  refine impl_IntSum_ret ?_
  unfold impl_IntSum
  have hlen := h.1; have hcap := h.2.1; have hcm := h.2.2.1
  intro r0 w0 hn0 r w1 hn1
  have e0 := hn0.r_eq; have s0 := hn0.size
  have e1 := hn1.r_eq; have s1 := hn1.size
  obtain ⟨w2, st, hb2, y2⟩ := hn1.fill (P := P) (t := T_impl_Signed) (xs := [.bool false, .slice none 0 0]) (by simp [Value.oneCell']) (by kernel_rfl) rfl
  have nil0 : ∀ W B, Owns W B [.bool false, .slice none 0 0] (enc 0) [] := fun W B => by
    rw [enc0]; exact Owns.int2 (z := []) (Own.nil W _ T_int 1 : Own W B T_int 1 none 0 0 (([] : List Int).map (Value.int .i64)))
  refine ⟨w2, st, fun i wr => ∃ (j : Nat) (cs : List Value) (f : List Nat), i = j /\ j <= n /\ Ext w wr /\ w1.heap.size <= wr.heap.size /\ Blk wr r0 T_impl_Signed [.bool false, .slice none 0 0] /\ Blk wr r T_impl_Signed cs /\ Owns wr w1.heap.size cs (isumGo (l.take j)) f /\ f.Nodup /\ ∀ k (hk : k < l.length), k < j -> intOk l[k] = true, fun i _ => n - i.toNat,
    ⟨0, _, _, rfl, by omega, hn0.ext.trans y2, by have := hb2.lt; omega, hn0.blk.ext y2, hb2, nil0 _ _, List.nodup_nil, fun k hk h => by omega⟩, ?_⟩
  intro junk wr i ⟨j, cs, f, hij, hj, hx, hsz, hb0, hblk, how, hnd0, hall⟩
  subst hij
  have hcode : (isumGo (l.take j)).map D0.code = [.bool, .ints] := (isumGo_ok _).2
  obtain ⟨q0, qp, qn, qc, qz, rfl, hq, hqi⟩ := open_Signed how.reps hcode
  refine ifD (fun hlt => ?_) (fun hge => ?_)
  · have hjn : j < n := by omega
    have hjl : j < l.length := by omega
    obtain ⟨a, ds, hp, hk, hr, hl⟩ := (h.ext hx).at (P := P) (t := T_impl_Signed) (by kernel_rfl) hjn
    subst hp
    have hrr := hr; have hcd := hc _ (List.getElem_mem hjl)
    obtain ⟨a1, a2p, a2n, a2c, a2z, rfl, hd, ha⟩ := open_Signed hr hcd
    refine ⟨⟨by omega, by omega⟩, _, _, _, _, by simpa using hl, ?_⟩
    intro r2 w3 hn3
    obtain ⟨w4, st4, hb4, y4⟩ := hn3.fill (P := P) (t := T_impl_Signed) hrr.cells1 (by kernel_rfl) rfl
    refine ⟨w4, st4, _, _, _, _, hb4.loadA0 (by kernel_rfl), ?_⟩
    refine Ret.at (impl_IntOk_c (hrr.ext y4) hcd) ?_
    rintro v w5 ⟨hv, y5⟩
    subst hv
    have x5 := (hx.trans y4).trans y5
    have l4 := y4.le; have l5 := y5.le
    refine ⟨_, rfl, ifN (fun hno => ?_) (fun hok => ?_)⟩
    · obtain ⟨w6, st6, hb6, ch, sz⟩ := ((hb0.ext y4).ext y5).storeA0 (P := P) (t := T_impl_Signed) (xs := [.bool false, .slice none 0 0]) (by kernel_rfl) rfl (by simp [Value.oneCell'])
      refine ⟨w6, st6, _, _, _, _, hb6.loadA0 (by kernel_rfl), _, _, rfl, ?_, List.nodup_nil, x5.chg ch (by simp; omega)⟩
      have : isum l = enc 0 := by
        have : l.all intOk = false := by
          rw [List.all_eq_false]
          exact ⟨_, List.getElem_mem hjl, by simpa using hno⟩
        simp [isum, this]
      rw [this]
      exact nil0 _ _
    · have hblk5 := (hblk.ext y4).ext y5
      refine ⟨_, _, _, _, hblk5.loadA0 (by kernel_rfl), _, _, _, _, (hb4.ext y5).loadA0 (by kernel_rfl), ?_⟩
      refine Ret.at (impl_IntAdd_c ((how.reps.ext y4).ext y5) ((hrr.ext y4).ext y5) hcode hcd) ?_
      rintro v w6 ⟨vs', f', hv, ho, hnd, y6⟩
      subst hv
      obtain ⟨g0, gp, gn, gc, gz, rfl, hg, hgi⟩ := open_Signed ho.reps (iadd_code _ _)
      have hrlt := hblk.lt
      obtain ⟨w7, st7, hb7, ch, sz⟩ := (hblk5.ext y6).storeA0 (P := P) (t := T_impl_Signed) (xs := [.bool g0, .slice gp gn gc]) (by kernel_rfl) rfl ho.reps.cells1
      refine ⟨_, _, _, _, rfl, w7, st7, exW ⟨by omega, by omega⟩ ⟨⟨j + 1, _, f', by omega, by omega, (x5.trans y6).chg ch (by simp; omega), by have := y6.le; omega, (((hb0.ext y4).ext y5).ext y6).chg ch (by simp; omega), hb7, ?_, hnd, fun k hk hkj => ?_⟩, by simp; omega⟩⟩
      · rw [isumGo_take _ hjl]
        exact (ho.chg1 ch (by omega)).mono (by omega)
      · by_cases e : k < j
        · exact hall k hk e
        · obtain rfl : k = j := by omega
          exact hok
  · have hjn : j = n := by omega
    subst hjn
    rw [List.take_of_length_le (by omega)] at how
    obtain ⟨w6, st6, hb6, ch, sz⟩ := hb0.storeA0 (P := P) (t := T_impl_Signed) (xs := [.bool q0, .slice qp qn qc]) (by kernel_rfl) rfl how.reps.cells1
    refine ⟨_, _, _, _, hblk.loadA0 (by kernel_rfl), w6, st6, _, _, _, _, hb6.loadA0 (by kernel_rfl), _, f, rfl, ?_, hnd0, hx.chg ch (by simp; omega)⟩
    have : isum l = isumGo l := by
      have : l.all intOk = true := by
        rw [List.all_eq_true]
        intro x hxm
        obtain ⟨k, hk, rfl⟩ := List.getElem_of_mem hxm
        exact hall k hk (by omega)
      simp [isum, this]
    rw [this]
    exact (how.chg1 ch (by omega)).mono (by omega)
def AllR (w : World) (k : Nat) : List (List Value) -> List (List D0) -> Prop
  | [], [] => True
  | cs :: css, x :: l => cs.length = k /\ Reps w cs x /\ AllR w k css l
  | _, _ => False
theorem AllR.ext {w w' : World} {k : Nat} : ∀ {css : List (List Value)} {l : List (List D0)}, AllR w k css l -> Ext w w' -> AllR w' k css l
  | [], [], _, _ => trivial
  | _ :: _, _ :: _, h, e => ⟨h.1, h.2.1.ext e, AllR.ext h.2.2 e⟩
  | [], _ :: _, h, _ => h.elim
  | _ :: _, [], h, _ => h.elim
theorem AllR.snoc {w : World} {k : Nat} {cs : List Value} {x : List D0} (hc : cs.length = k) (hr : Reps w cs x) : ∀ {css : List (List Value)} {l : List (List D0)}, AllR w k css l -> AllR w k (css ++ [cs]) (l ++ [x])
  | [], [], _ => ⟨hc, hr, trivial⟩
  | _ :: _, _ :: _, h => ⟨h.1, h.2.1, AllR.snoc hc hr h.2.2⟩
  | [], _ :: _, h => h.elim
  | _ :: _, [], h => h.elim
theorem AllR.at {w : World} {k : Nat} : ∀ {css : List (List Value)} {l : List (List D0)}, AllR w k css l -> ∀ i x, l[i]? = some x -> ∃ cs, cs.length = k /\ Reps w cs x /\ (css.flatten.drop (i * k)).take k = cs
  | [], [], _, i, x, hx => by simp at hx
  | cs :: css, y :: l, h, i, x, hx => by
    cases i with
    | zero =>
      simp only [List.getElem?_cons_zero, Option.some.injEq] at hx
      subst hx
      refine ⟨cs, h.1, h.2.1, ?_⟩
      rw [Nat.zero_mul, List.drop_zero, List.flatten_cons, <- h.1, List.take_left]
    | succ i =>
      simp only [List.getElem?_cons_succ] at hx
      obtain ⟨c, h1, h2, h3⟩ := AllR.at h.2.2 i x hx
      refine ⟨c, h1, h2, ?_⟩
      rw [List.flatten_cons, Nat.succ_mul, Nat.add_comm, <- List.drop_drop, <- h.1, List.drop_left, h.1]
      exact h3
  | [], _ :: _, h, _, _, _ => h.elim
  | _ :: _, [], h, _, _, _ => h.elim
theorem rows_of_own {w : World} {B : Nat} {e : TypeId} {k : Nat} {p : Option Addr} {n c : Nat} {css : List (List Value)} {l : List (List D0)} (h : Own w B e k p n c css.flatten) (ha : AllR w k css l) (hl : l.length = n) : RowsR w k p n c l := by
  refine ⟨hl, h.le, h.capLe, fun hn => ?_⟩
  obtain ⟨b, hp, _, hs⟩ := h.seg hn
  refine ⟨b, 0, hp, fun i x hx => ?_⟩
  obtain ⟨cs, h1, h2, h3⟩ := ha.at i x hx
  exact ⟨cs, h1, h2, by rw [<- h3]; exact (hs.drop (i * k)).take k⟩
theorem sliceT_Signed : sliceT P T_s_impl_Signed T_impl_Signed (.agg ⟨[.bool false, .slice none 0 0]⟩) 2 32 := ⟨by kernel_rfl, by kernel_rfl, rfl, by decide⟩
theorem slices_IndexFunc_Signed_c {w : World} {p : Option Addr} {n c : Nat} {l : List (List D0)} (h : RowsR w 2 p n c l) (hc : ∀ x ∈ l, x.map D0.code = [.bool, .ints]) (f : Value) (q : List D0 -> Bool)
    (hf : ∀ cs x w', Ext w w' -> x ∈ l -> Reps w' cs x -> CallW P f [.agg ⟨cs⟩] w' fun e w'' => e = .returned (.bool (q x)) /\ Ext w' w'') :
    Ret P n_slices_IndexFunc_impl_Signed_impl_Signed [.slice p n c, f] w fun v w' => v = .int .i64 (firstI q l) /\ Ext w w' := by
  refine slices_IndexFunc_impl_Signed_impl_Signed_ret ?_
  unfold slices_IndexFunc_impl_Signed_impl_Signed
  have hlen := h.1; have hcap := h.2.1; have hcm := h.2.2.1
  refine ⟨fun i wr => ∃ j : Nat, i = j /\ j <= n /\ Ext w wr /\ ∀ i (hi : i < l.length), i < j -> q l[i] = false, fun i _ => n - i.toNat, ⟨0, rfl, by omega, Ext.refl _, fun i hi h => by omega⟩, ?_⟩
  intro junk wr i ⟨j, hij, hj, hx, hall⟩
  subst hij
  refine ifD (fun hlt => ?_) (fun hge => ?_)
  · have hjn : j < n := by omega
    obtain ⟨a, cs, hp, hk, hr, hl⟩ := (h.ext hx).at (P := P) (t := T_impl_Signed) (by kernel_rfl) hjn
    subst hp
    have hjl : j < l.length := by omega
    have hcode := hc _ (List.getElem_mem hjl)
    have hcall := hf _ _ _ hx (List.getElem_mem hjl) hr
    obtain ⟨a1, a2p, a2n, a2c, a2z, rfl, hd, ha⟩ := open_Signed hr hcode
    refine ⟨⟨by omega, by omega⟩, _, _, _, _, by simpa using hl, ?_⟩
    obtain ⟨g, first, captured, h1, h2, h3⟩ := hcall
    refine ⟨g, first, captured, h1, h2, Calls.mono h3 fun e w2 ⟨he, hy⟩ => ?_⟩
    refine ⟨_, he, fun e => ⟨by rw [firstI_some hjl e hall], hx.trans hy⟩, fun e => ?_⟩
    refine exW ⟨by omega, by omega⟩ ⟨⟨j + 1, by omega, by omega, hx.trans hy, fun i hi hij => ?_⟩, by simp; omega⟩
    by_cases hij' : i < j
    · exact hall i hi hij'
    · obtain rfl : i = j := by omega
      exact e
  · exact ⟨by rw [firstI_none fun i hi => hall i hi (by omega)], hx⟩
theorem firstI_any {q : List D0 -> Bool} {l : List (List D0)} : decide ((0 : Int) <= firstI q l) = l.any q := by
  rcases firstI_spec q l with ⟨h, h2⟩ | ⟨j, hj, h, h2⟩
  · have : l.any q = false := by rw [List.any_eq_false]; intro x hx; simp [h2 x hx]
    rw [h, this]; rfl
  · have : l.any q = true := by rw [List.any_eq_true]; exact ⟨_, List.getElem_mem hj, h2⟩
    rw [h, this]; simp
theorem slices_ContainsFunc_Signed_c {w : World} {p : Option Addr} {n c : Nat} {l : List (List D0)} (h : RowsR w 2 p n c l) (hc : ∀ x ∈ l, x.map D0.code = [.bool, .ints]) (f : Value) (q : List D0 -> Bool)
    (hf : ∀ cs x w', Ext w w' -> x ∈ l -> Reps w' cs x -> CallW P f [.agg ⟨cs⟩] w' fun e w'' => e = .returned (.bool (q x)) /\ Ext w' w'') :
    Ret P n_slices_ContainsFunc_impl_Signed_impl_Signed [.slice p n c, f] w fun v w' => v = .bool (l.any q) /\ Ext w w' := by
  refine slices_ContainsFunc_impl_Signed_impl_Signed_ret ?_
  unfold slices_ContainsFunc_impl_Signed_impl_Signed
  refine Ret.at (slices_IndexFunc_Signed_c h hc f q hf) ?_
  rintro v w2 ⟨hv, y⟩
  subst hv
  exact ⟨_, rfl, by rw [firstI_any], y⟩
theorem impl_Flat_1_c {w : World} {cs : List Value} {x : List D0} (h : Reps w cs x) (hc : x.map D0.code = [.bool, .ints]) :
    Ret P n_impl_Flat_1 [.agg ⟨cs⟩] w fun v w' => v = .bool (!(intOk x)) /\ Ext w w' := by
  have hr := h
  obtain ⟨a1, a2p, a2n, a2c, a2z, rfl, hd, ha⟩ := open_Signed h hc
  refine impl_Flat_1_ret ?_
  unfold impl_Flat_1
  intro r w1 hn
  refine ⟨_, _, _, _, hn.blk.loadA0 (by kernel_rfl), ?_⟩
  refine Ret.at (impl_IntOk_c (hr.ext hn.ext) hc) ?_
  rintro v w2 ⟨hv, y⟩
  subst hv
  exact ⟨_, rfl, rfl, hn.ext.trans y⟩
theorem impl_Flat_c {w : World} {p : Option Addr} {n c : Nat} {l : List (List D0)} (h : RowsR w 3 p n c l) (hc : ∀ x ∈ l, x.map D0.code = [.str, .bool, .ints]) (hz : n <= 1048576) (hb : ∀ x ∈ l, bulks x <= 1048576) :
    Ret P n_impl_Flat [.slice p n c] w fun v w' => v = .bool (flat l) /\ Ext w w' := by
  refine impl_Flat_ret ?_
  unfold impl_Flat
  have hlen := h.1; have hcap := h.2.1; have hcm := h.2.2.1
  intro r w1 hn1
  have hucode : ∀ x ∈ l.map (·.drop 1), x.map D0.code = [.bool, .ints] := by
    intro x hx
    obtain ⟨y, hy, rfl⟩ := List.mem_map.1 hx
    rw [List.map_drop, hc y hy]; rfl
  refine ⟨fun up un uc i wr => ∃ (css : List (List Value)), i = un /\ un <= n /\ Ext w wr /\ Own wr w.heap.size T_impl_Signed 2 up un uc css.flatten /\ AllR w 2 css ((l.map (·.drop 1)).take un), fun _ _ _ i _ => n - i.toNat,
    ⟨[], rfl, by omega, hn1.ext, Own.of_blk0 (n := 0) hn1.blk (by rw [hn1.r_eq]; exact Nat.le_refl _) rfl (by simp [maxLen]), trivial⟩, ?_⟩
  intro junk wr up j uc i ⟨css, hij, hj, hx, hown, hall⟩
  subst hij
  refine ifD (fun hlt => ?_) (fun hge => ?_)
  · have hjn : j < n := by omega
    have hjl : j < l.length := by omega
    obtain ⟨b, o, hp, hs⟩ := h.2.2.2 (by omega)
    subst hp
    obtain ⟨ds, hk, hr, hseg⟩ := hs j l[j] (List.getElem?_eq_getElem hjl)
    have hrr := hr; have hcd := hc _ (List.getElem_mem hjl)
    obtain ⟨a0, a1, a2p, a2n, a2c, a2z, rfl, hd, ha⟩ := open_Pos hr hcd
    have hl : Loads P T_impl_Pos ((⟨b, o, none⟩ : Addr).add ((j : Int).toNat * 3)) (.agg ⟨[.string a0, .bool a1, .slice a2p a2n a2c]⟩) wr := by
      rw [addr_add, show (j : Int).toNat = j by omega]; exact loadsA (by kernel_rfl) (hseg.ext hx)
    refine ⟨⟨by omega, by omega⟩, _, _, _, _, _, hl, ?_⟩
    intro r2 w3 hn3
    obtain ⟨w4, st4, hb4, y4⟩ := hn3.fill (P := P) (t := T_impl_Pos) hrr.cells1 (by kernel_rfl) rfl
    refine ⟨w4, st4, _, _, _, _, hb4.loadAAt 1 [.bool a1, .slice a2p a2n a2c] rfl (by kernel_rfl) rfl, ?_⟩
    intro r5 w5 hn5
    have y5 := y4.trans hn5.ext
    obtain ⟨p', c', w6, g1, g2, g3, _, _⟩ := Own.append (hown.ext y5) sliceT_Signed (by have := (hx.trans y5).le; omega) hn5.blk (m := 1) (mc := 1) rfl (by simp [Value.oneCell']) (by omega) (by decide)
    have x6 := g3 w (hx.trans y5) (Nat.le_refl _)
    refine ⟨_, _, _, w6, g1, exW ⟨by omega, by omega⟩ ⟨⟨css ++ [[.bool a1, .slice a2p a2n a2c]], by omega, by omega, x6, by simpa using g2, ?_⟩, ?_⟩⟩
    · rw [List.take_add_one, List.getElem?_eq_getElem (by simpa using hjl), Option.toList_some]
      refine AllR.snoc (k := 2) rfl ?_ hall
      rw [List.getElem_map, hd]
      exact ⟨rfl, ⟨_, _, _, rfl, ha⟩, trivial⟩
    · show n - ((j : Int) + 1).toNat < n - (j : Int).toNat
      omega
  · have hjn : j = n := by omega
    subst hjn
    rw [List.take_of_length_le (by simp; omega)] at hall
    have hrows := rows_of_own hown (hall.ext hx) (by simpa using hlen)
    refine Ret.at (slices_ContainsFunc_Signed_c hrows hucode _ (fun x => !(intOk x)) (fun cs x w' hx2 hm hr => ?_)) ?_
    · refine ⟨_, _, _, rfl, by kernel_rfl, ?_⟩
      refine Calls.mono (impl_Flat_1_c hr (hucode _ hm)) ?_
      rintro e w'' ⟨v, he, hv, y⟩
      subst hv
      exact ⟨he, y⟩
    · rintro v w3 ⟨hv, y3⟩
      subst hv
      have hall2 : (l.map (·.drop 1)).any (fun x => !(intOk x)) = !(l.all fun x => intOk (x.drop 1)) := by
        rw [List.any_map, List.not_all_eq_any_not]; rfl
      rw [hall2]
      refine ⟨_, rfl, fun e => ⟨?_, hx.trans y3⟩, fun e => ?_⟩
      · have e : (l.all fun x => intOk (x.drop 1)) = false := by simpa only [Bool.not_eq_true'] using e
        simp only [flat, e, Bool.false_and]
      · have e : (l.all fun x => intOk (x.drop 1)) = true := by simpa only [Bool.not_eq_false'] using e
        refine Ret.at (impl_IntSum_c (hrows.ext y3) hucode) ?_
        rintro v w4 ⟨vs', f, hv, ho, hnd, y4⟩
        subst hv
        have hu : isum (l.map (·.drop 1)) = isumGo (l.map (·.drop 1)) := by
          have : (l.map (·.drop 1)).all intOk = true := by rw [List.all_map]; exact e
          rw [isum, this]; rfl
        rw [hu] at ho
        obtain ⟨hok, hcode⟩ := isumGo_ok (l.map (·.drop 1))
        obtain ⟨q0, qp, qn, qc, qz, rfl, hq, hqi⟩ := open_Signed ho.reps hcode
        refine ⟨_, _, _, _, rfl, ?_, (hx.trans y3).trans y4⟩
        have hs := isign_zero (by rw [<- hq]; exact hok : intOk [.bool q0, .ints qz] = true)
        have hl0 := hqi.1
        simp only [flat, e, Bool.true_and, hq]
        congr 1
        rw [decide_eq_decide, hs]
        omega
end Go.Proofs.YtbgokfhcgcoipaaDoor
namespace Go.Proofs.YtbgokfhcgcoipaaDoor
open Go Go.Shelf
def ren105 : Ren := ⟨fun x => match x with | 105 => 126 | 212 => 136 | 99 => 137 | 165 => 138 | 166 => 139 | 170 => 140 | 169 => 141 | 263 => 149 | 264 => 150 | 206 => 151 | 240 => 152 | 241 => 153 | 276 => 162 | 277 => 163 | n => n, fun x => match x with | 9 => 9 | 3 => 3 | 4 => 4 | 20 => 20 | 0 => 0 | 46 => 167 | 109 => 187 | 5 => 5 | 72 => 192 | 76 => 196 | 51 => 209 | 146 => 210 | 53 => 138 | 148 => 212 | 70 => 190 | 37 => 22 | 75 => 195 | 127 => 214 | 164 => 215 | 80 => 199 | n => n, fun x => x⟩
theorem lays105 : Lays.n105 Tryd.prog ren105 := {
  mixed := by kernel_rfl,
  f99 := Tryd.func137.trans (congrArg some (by kernel_rfl)),
  f105 := Tryd.func126.trans (congrArg some (by kernel_rfl)),
  f165 := Tryd.func138.trans (congrArg some (by kernel_rfl)),
  f166 := Tryd.func139.trans (congrArg some (by kernel_rfl)),
  f169 := Tryd.func141.trans (congrArg some (by kernel_rfl)),
  f170 := Tryd.func140.trans (congrArg some (by kernel_rfl)),
  f206 := Tryd.func151.trans (congrArg some (by kernel_rfl)),
  f212 := Tryd.func136.trans (congrArg some (by kernel_rfl)),
  f240 := Tryd.func152.trans (congrArg some (by kernel_rfl)),
  f241 := Tryd.func153.trans (congrArg some (by kernel_rfl)),
  f263 := Tryd.func149.trans (congrArg some (by kernel_rfl)),
  f264 := Tryd.func150.trans (congrArg some (by kernel_rfl)),
  f276 := Tryd.func162.trans (congrArg some (by kernel_rfl)),
  f277 := Tryd.func163.trans (congrArg some (by kernel_rfl)),
  t0 := Tryd.underlying0,
  a0 := Tryd.isAgg0,
  z0 := Tryd.sizeOf0,
  v0 := Tryd.zeroValue0,
  t3 := Tryd.underlying3,
  a3 := Tryd.isAgg3,
  z3 := Tryd.sizeOf3,
  v3 := Tryd.zeroValue3,
  t4 := Tryd.underlying4,
  a4 := Tryd.isAgg4,
  z4 := Tryd.sizeOf4,
  v4 := Tryd.zeroValue4,
  t5 := Tryd.underlying5,
  a5 := Tryd.isAgg5,
  z5 := Tryd.sizeOf5,
  v5 := Tryd.zeroValue5,
  t9 := Tryd.underlying9,
  a9 := Tryd.isAgg9,
  z9 := Tryd.sizeOf9,
  v9 := Tryd.zeroValue9,
  t20 := Tryd.underlying20,
  a20 := Tryd.isAgg20,
  z20 := Tryd.sizeOf20,
  v20 := Tryd.zeroValue20,
  t37 := Tryd.underlying22,
  a37 := Tryd.isAgg22,
  z37 := Tryd.sizeOf22,
  v37 := Tryd.zeroValue22,
  t46 := Tryd.underlying167,
  a46 := Tryd.isAgg167,
  z46 := Tryd.sizeOf167,
  v46 := Tryd.zeroValue167,
  t51 := Tryd.underlying209,
  a51 := Tryd.isAgg209,
  z51 := Tryd.sizeOf209,
  v51 := Tryd.zeroValue209,
  t53 := Tryd.underlying138,
  a53 := Tryd.isAgg138,
  z53 := Tryd.sizeOf138,
  v53 := Tryd.zeroValue138,
  t70 := Tryd.underlying190,
  a70 := Tryd.isAgg190,
  z70 := Tryd.sizeOf190,
  v70 := Tryd.zeroValue190,
  t72 := Tryd.underlying192,
  a72 := Tryd.isAgg192,
  z72 := Tryd.sizeOf192,
  v72 := Tryd.zeroValue192,
  t75 := Tryd.underlying195,
  a75 := Tryd.isAgg195,
  z75 := Tryd.sizeOf195,
  v75 := Tryd.zeroValue195,
  t76 := Tryd.underlying196,
  a76 := Tryd.isAgg196,
  z76 := Tryd.sizeOf196,
  v76 := Tryd.zeroValue196,
  t109 := Tryd.underlying187,
  a109 := Tryd.isAgg187,
  z109 := Tryd.sizeOf187,
  v109 := Tryd.zeroValue187,
  t127 := Tryd.underlying214,
  a127 := Tryd.isAgg214,
  z127 := Tryd.sizeOf214,
  v127 := Tryd.zeroValue214,
  t146 := Tryd.underlying210,
  a146 := Tryd.isAgg210,
  z146 := Tryd.sizeOf210,
  v146 := Tryd.zeroValue210,
  t148 := Tryd.underlying212,
  a148 := Tryd.isAgg212,
  z148 := Tryd.sizeOf212,
  v148 := Tryd.zeroValue212,
  t164 := Tryd.underlying215,
  a164 := Tryd.isAgg215,
  z164 := Tryd.sizeOf215,
  v164 := Tryd.zeroValue215 }
def ren171 : Ren := ⟨fun x => match x with | 171 => 142 | 243 => 154 | 246 => 164 | 283 => 165 | 284 => 166 | 285 => 167 | 286 => 168 | 129 => 170 | 317 => 169 | 318 => 171 | 319 => 172 | 320 => 173 | 337 => 174 | 338 => 175 | n => n, fun x => match x with | 3 => 3 | 9 => 9 | 2 => 2 | 4 => 4 | 171 => 219 | 0 => 0 | 53 => 138 | 37 => 22 | 5 => 5 | 173 => 222 | 212 => 226 | 51 => 209 | 20 => 20 | 213 => 227 | 46 => 167 | 232 => 230 | 233 => 231 | n => n, fun x => match x with | 17 => 2 | 18 => 3 | 19 => 4 | n => n⟩
theorem lays171 : LaysM.n171 Tryd.prog ren171 := {
  mixed := by kernel_rfl,
  f129 := Tryd.func170.trans (congrArg some (by kernel_rfl)),
  f171 := Tryd.func142.trans (congrArg some (by kernel_rfl)),
  f243 := Tryd.func154.trans (congrArg some (by kernel_rfl)),
  f246 := Tryd.func164.trans (congrArg some (by kernel_rfl)),
  f283 := Tryd.func165.trans (congrArg some (by kernel_rfl)),
  f284 := Tryd.func166.trans (congrArg some (by kernel_rfl)),
  f285 := Tryd.func167.trans (congrArg some (by kernel_rfl)),
  f286 := Tryd.func168.trans (congrArg some (by kernel_rfl)),
  f317 := Tryd.func169.trans (congrArg some (by kernel_rfl)),
  f318 := Tryd.func171.trans (congrArg some (by kernel_rfl)),
  f319 := Tryd.func172.trans (congrArg some (by kernel_rfl)),
  f320 := Tryd.func173.trans (congrArg some (by kernel_rfl)),
  f337 := Tryd.func174.trans (congrArg some (by kernel_rfl)),
  f338 := Tryd.func175.trans (congrArg some (by kernel_rfl)),
  t0 := Tryd.underlying0,
  a0 := Tryd.isAgg0,
  z0 := Tryd.sizeOf0,
  v0 := Tryd.zeroValue0,
  t2 := Tryd.underlying2,
  a2 := Tryd.isAgg2,
  z2 := Tryd.sizeOf2,
  v2 := Tryd.zeroValue2,
  t3 := Tryd.underlying3,
  a3 := Tryd.isAgg3,
  z3 := Tryd.sizeOf3,
  v3 := Tryd.zeroValue3,
  t4 := Tryd.underlying4,
  a4 := Tryd.isAgg4,
  z4 := Tryd.sizeOf4,
  v4 := Tryd.zeroValue4,
  t5 := Tryd.underlying5,
  a5 := Tryd.isAgg5,
  z5 := Tryd.sizeOf5,
  v5 := Tryd.zeroValue5,
  t9 := Tryd.underlying9,
  a9 := Tryd.isAgg9,
  z9 := Tryd.sizeOf9,
  v9 := Tryd.zeroValue9,
  t20 := Tryd.underlying20,
  a20 := Tryd.isAgg20,
  z20 := Tryd.sizeOf20,
  v20 := Tryd.zeroValue20,
  t37 := Tryd.underlying22,
  a37 := Tryd.isAgg22,
  z37 := Tryd.sizeOf22,
  v37 := Tryd.zeroValue22,
  t46 := Tryd.underlying167,
  a46 := Tryd.isAgg167,
  z46 := Tryd.sizeOf167,
  v46 := Tryd.zeroValue167,
  t51 := Tryd.underlying209,
  a51 := Tryd.isAgg209,
  z51 := Tryd.sizeOf209,
  v51 := Tryd.zeroValue209,
  t53 := Tryd.underlying138,
  a53 := Tryd.isAgg138,
  z53 := Tryd.sizeOf138,
  v53 := Tryd.zeroValue138,
  t171 := Tryd.underlying219,
  a171 := Tryd.isAgg219,
  z171 := Tryd.sizeOf219,
  v171 := Tryd.zeroValue219,
  t173 := Tryd.underlying222,
  a173 := Tryd.isAgg222,
  z173 := Tryd.sizeOf222,
  v173 := Tryd.zeroValue222,
  t212 := Tryd.underlying226,
  a212 := Tryd.isAgg226,
  z212 := Tryd.sizeOf226,
  v212 := Tryd.zeroValue226,
  t213 := Tryd.underlying227,
  a213 := Tryd.isAgg227,
  z213 := Tryd.sizeOf227,
  t232 := Tryd.underlying230,
  a232 := Tryd.isAgg230,
  z232 := Tryd.sizeOf230,
  v232 := Tryd.zeroValue230,
  t233 := Tryd.underlying231,
  a233 := Tryd.isAgg231,
  z233 := Tryd.sizeOf231,
  v233 := Tryd.zeroValue231,
  g17 := by kernel_rfl,
  g18 := by kernel_rfl,
  g19 := by kernel_rfl,
  i0 := by kernel_rfl,
  i2 := by kernel_rfl,
  i3 := by kernel_rfl,
  i4 := by kernel_rfl,
  i5 := by kernel_rfl,
  i9 := by kernel_rfl,
  i20 := by kernel_rfl,
  i37 := by kernel_rfl,
  i46 := by kernel_rfl,
  i51 := by kernel_rfl,
  i53 := by kernel_rfl,
  i171 := by kernel_rfl,
  i173 := by kernel_rfl,
  i212 := by kernel_rfl,
  i232 := by kernel_rfl,
  i233 := by kernel_rfl,
  m17 := by kernel_rfl,
  m18 := by kernel_rfl,
  m19 := by kernel_rfl }
end Go.Proofs.YtbgokfhcgcoipaaDoor
namespace Go.Proofs.YtbgokfhcgcoipaaDoor
open Go Go.Proofs.YtbgokfhcgcoipaaDoor.Sx
theorem enc_ok {z : Int} (h : (digs z.natAbs).length <= 50) : intOk (enc z) = true := by rw [<- icap_fit h]; exact icap_ok z
end Go.Proofs.YtbgokfhcgcoipaaDoor
namespace Go.Proofs.YtbgokfhcgcoipaaDoor
open Go Go.Proofs.YtbgokfhcgcoipaaDoor.Sx
theorem decOk_parts {b : Bool} {z : List Int} {s : Int} (h : decOk [.bool b, .ints z, .int s] = true) : intOk [.bool b, .ints z] = true /\ natOk z = true /\ Limbs z /\ z.length <= 6 /\ 0 <= s /\ s <= 30 := by
  simp only [decOk, Bool.and_eq_true, decide_eq_true_eq] at h
  obtain ⟨⟨h1, h2⟩, h3⟩ := h
  have h4 : natOk z = true := by
    have := h1
    simp only [intOk, Bool.and_eq_true] at this
    exact this.1
  exact ⟨h1, h4, (natOk_spec.1 h4).1.1, h2, h3⟩
end Go.Proofs.YtbgokfhcgcoipaaDoor
