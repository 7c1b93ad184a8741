/-
  A row pushed onto a slice of structs of one's own.
-/
import Derived.Test.YtfbmjimhjlmhkaaDoorSxMark
namespace Go.Proofs.YtfbmjimhjlmhkaaDoor.Sx
open Go Go.RowKit
set_option linter.unusedVariables false
set_option linter.unusedSimpArgs false

/-- append of one row onto a row of one's own: where it lies then -/
theorem Own.push1 {P : Program} {w : World} {B : Nat} {t e : TypeId} {z : Value} {size bytes : Nat} {p : Option Addr} {n c r : Nat} {xs news : List Value} (h : Own w B e size p n c xs)
    (hT : sliceT P t e z size bytes) (hb : B ≤ w.heap.size) (hr : Blk w r e news) (hl : news.length = size) (h1 : ∀ u ∈ news, u.oneCell' = true)
    (hbytes : (n + 1) * bytes ≤ 140737488355328) (hby : 1 ≤ bytes) :
    ∃ p' c' w', Appends P [t, t] [.slice p n c, .slice (some ⟨r, 0, none⟩) 1 1] (.slice p' (n + 1) c') w w' ∧ Own w' B e size p' (n + 1) c' (xs ++ news) ∧ Chg (p.map (·.block)).toList w w' ∧
      (p'.map (·.block) = p.map (·.block) ∨ ∀ q, p'.map (·.block) = some q → w.heap.size ≤ q) := by
  obtain ⟨hu, hi, hz, hs⟩ := hT
  cases hinf : P.info? e with
  | none => rw [hinf] at hi; cases hi
  | some i =>
    rw [hinf] at hi
    simp only [Option.map_some, Option.some.injEq, Prod.mk.injEq] at hi
    have hnm : n + 1 ≤ maxLen := by
      have : n + 1 ≤ (n + 1) * bytes := Nat.le_mul_of_pos_right _ hby
      simp only [maxLen]; omega
    have hcells : ∀ j u, news[j]? = some u → w.cell? ((⟨r, 0, none⟩ : Addr).add j) = some u := fun j u hj => by rw [addr_add, Nat.zero_add, hr.cell, hj]
    obtain ⟨v', w', hrun, hown, hgr, _⟩ := run_append_own (P := P) w B t 0 e i z size bytes hu hinf hi.1 hi.2.1 hi.2.2 hz hs (.slice p n c) n xs h ⟨r, 0, none⟩ 1 1 news (by rw [hl, Nat.one_mul]) hcells h1 hnm hbytes hb
    have hv : ∃ p' c', v' = .slice p' (n + 1) c' := by
      rcases hown.2 with ⟨e1, e2⟩ | ⟨g, cap, cur, e1, _⟩
      · omega
      · exact ⟨_, _, e1⟩
    obtain ⟨p', c', rfl⟩ := hv
    have hob : (Value.slice p n c).ownBlock = p.map (·.block) := by cases p <;> rfl
    refine ⟨p', c', w', hrun, hown, ⟨hgr.os, hgr.tape, hgr.output, hgr.size, fun k hk hn => hgr.block k hk ?_⟩, ?_⟩
    · rw [hob]; intro e; rw [← e] at hn; simp at hn
    have hrun : (Builtin.append_ #[t, t] 0 #[.slice p n c, .slice (some ⟨r, 0, none⟩) 1 1]).run P w = .ok (.slice p' (n + 1) c') w' := hrun
    rcases h.2 with ⟨e1, e2⟩ | ⟨g, cap, cur, e1, hB, hg, h3, h4, h5, h6⟩
    · simp only [Value.slice.injEq] at e1
      obtain ⟨rfl, rfl, rfl⟩ := e1
      have h0 := run_append_nil (P := P) w t 0 e i z hu hinf hi.1 ⟨r, 0, none⟩ 1 1 news (by rw [hl, hi.2.1, Nat.one_mul]) hcells (by omega) (by omega) (by rw [hi.2.2]; omega)
      rw [h0] at hrun
      injection hrun with hv _
      simp only [Value.slice.injEq] at hv
      exact .inr fun q hq => by rw [← hv.1] at hq; simp at hq; omega
    · simp only [Value.slice.injEq] at e1
      obtain ⟨rfl, _, rfl⟩ := e1
      by_cases hroom : n + 1 ≤ c
      · have hsz : n * i.size + news.length ≤ cur.size := by
          have : (n + 1) * size ≤ c * size := Nat.mul_le_mul_right _ hroom
          rw [hi.2.1, hl, h5, Nat.succ_mul] at *
          omega
        have h0 := run_append_room (P := P) w t 0 e i hu hinf g n c cur hg ⟨r, 0, none⟩ 1 1 news (by rw [hl, hi.2.1, Nat.one_mul]) hcells h1 hroom hsz
        rw [h0] at hrun
        injection hrun with hv _
        simp only [Value.slice.injEq] at hv
        exact .inl (by rw [← hv.1])
      · have holds : ∀ j v, xs[j]? = some v → w.cell? ((⟨g, 0, none⟩ : Addr).add j) = some v := World.ownsRow.cells h rfl
        have hfit : Builtin.nextslicecap (n + 1) c * i.bytes ≤ 281474976710656 := by
          rw [hi.2.2]; exact growslice_fits (by omega) hbytes
        have h0 := run_append_grow (P := P) w t 0 e i z hu hinf hi.1 ⟨g, 0, none⟩ n c xs (by rw [h.len, hi.2.1]) holds ⟨r, 0, none⟩ 1 1 news (by rw [hl, hi.2.1, Nat.one_mul]) hcells (by omega) (by simp only [maxLen] at hnm; omega) hfit
        rw [h0] at hrun
        injection hrun with hv _
        simp only [Value.slice.injEq] at hv
        exact .inr fun q hq => by rw [← hv.1] at hq; simp at hq; omega

theorem OwnRows.fresh {w w' : World} {B : Nat} {e : TypeId} {k r : Nat} (hn : New w (.cells ⟨[]⟩ e (0, 0)) r w') (hb : B ≤ w.heap.size) : OwnRows w' B e k (some ⟨r, 0, none⟩) 0 0 [] [r] :=
  ⟨rfl, [], [], trivial, Own.of_blk0 hn.blk (by have := hn.r_eq; omega) (by simp) (by decide), by simp, by simp⟩

/-- a row with what it holds, all new, pushed -/
theorem OwnRows.push {P : Program} {w : World} {B : Nat} {t e : TypeId} {z : Value} {k bytes : Nat} {p : Option Addr} {n c r : Nat} {l : List (List D0)} {f fx : List Nat} {cs : List Value} {x : List D0} (h : OwnRows w B e k p n c l f)
    (hT : sliceT P t e z k bytes) (hb : B ≤ w.heap.size) (hr : Blk w r e cs) (hl : cs.length = k) (ho : Owns w B cs x fx) (hfx : fx.Nodup) (hdis : ∀ q ∈ fx, q ∉ f)
    (hbytes : (n + 1) * bytes ≤ 140737488355328) (hby : 1 ≤ bytes) :
    ∃ p' c' w' f', Appends P [t, t] [.slice p n c, .slice (some ⟨r, 0, none⟩) 1 1] (.slice p' (n + 1) c') w w' ∧ OwnRows w' B e k p' (n + 1) c' (l ++ [x]) f' ∧ Chg (p.map (·.block)).toList w w' ∧
      (∀ w0, Ext w0 w → w0.heap.size ≤ B → Ext w0 w') := by
  obtain ⟨hln, css, fs, ha, hown, rfl, hnd⟩ := h
  obtain ⟨p', c', w', hrun, hown', hch, hp⟩ := hown.push1 hT hb hr hl ho.reps.cells1 hbytes hby
  have hpl : ∀ q ∈ (p.map (·.block)).toList, B ≤ q := fun q hq => (World.ownsRow.lt hown q (by cases p <;> simp_all [Value.ownBlock])).1
  have hnd1 := (List.nodup_append.1 hnd)
  have hpin : ∀ q ∈ fs.flatten, q ∉ (p.map (·.block)).toList := fun q hq hm => hnd1.2.2 q hm q hq rfl
  have hpx : ∀ q ∈ fx, q ∉ (p.map (·.block)).toList := fun q hq hm => hdis q hq (List.mem_append_left _ hm)
  have hlt : ∀ q ∈ fs.flatten ++ fx, q < w.heap.size := fun q hq => by
    rcases List.mem_append.1 hq with hq | hq
    · exact (ha.lt q hq).2
    · exact (ho.lt q hq).2
  refine ⟨p', c', w', (p'.map (·.block)).toList ++ (fs ++ [fx]).flatten, hrun, ⟨by simp [hln], css ++ [cs], fs ++ [fx], (ha.chg hch hpin).snoc hl (ho.chg hch hpx), by simpa using hown', rfl, ?_⟩, hch, fun w0 hx hb0 => hx.chg hch fun q hq => Nat.le_trans hb0 (hpl q hq)⟩
  have e : (fs ++ [fx]).flatten = fs.flatten ++ fx := by simp
  rw [e, List.nodup_append]
  refine ⟨by cases p' <;> simp, ?_, ?_⟩
  · rw [List.nodup_append]
    exact ⟨hnd1.2.1, hfx, fun a ha b hb e => hdis b hb (by rw [← e]; exact List.mem_append_right _ ha)⟩
  · intro a ha b hb hab
    subst hab
    have hpa := opt_mem ha
    rcases hp with hp | hp
    · rw [hp] at hpa
      have ham : a ∈ (p.map (·.block)).toList := mem_opt hpa
      rcases List.mem_append.1 hb with hb | hb
      · exact hpin a hb ham
      · exact hpx a hb ham
    · have := hp a hpa
      have := hlt a hb
      omega

end Go.Proofs.YtfbmjimhjlmhkaaDoor.Sx
