/-
  Contracts of the laws' marks at slices of structs, printed by a program of mine.
-/
import Derived.Test.YtfbmjimhjlmhkaaDoorDMark
import Derived.Test.YtfbmjimhjlmhkaaDoorDS
namespace Go.Proofs.YtfbmjimhjlmhkaaDoor
open Go Go.Proofs.YtfbmjimhjlmhkaaDoor.Sx
set_option linter.unusedVariables false
set_option linter.unusedSimpArgs false

theorem laws_markTaxSumS_c {w : World} {B : Nat} {e : TypeId} {p : Option Addr} {n c : Nat} {l : List (List D0)} {f : List Nat} {k : Int} (h : OwnRows w B e 9 p n c l f) (hc : ∀ x ∈ l, x.map D0.code = [.bool, .ints, .int, .str, .bool, .ints, .str, .bool, .ints]) (h0 : 0 ≤ k) (h1 : k + cntL l ≤ 1000000000000000000) :
    Ret P n_laws_markTaxSumS [.slice p n c, .int .i64 k] w fun v w' => v = .int .i64 (k + cntL l) ∧ OwnRows w' B e 9 p n c (markL l k) f ∧ Chg f w w' := by
  have hz := h.1; have hcap := h.rows.2.1; have hcm := h.rows.2.2.1
  refine laws_markTaxSumS_ret ?_
  unfold laws_markTaxSumS
  refine ⟨fun k1 i wr => ∃ j : Nat, i = j ∧ j ≤ n ∧ k1 = k + cntL (l.take j) ∧ OwnRows wr B e 9 p n c (markL (l.take j) k ++ l.drop j) f ∧ Chg f w wr, fun _ i _ => n - i.toNat, ⟨0, rfl, by omega, by simp [cntL], by simpa [markL] using h, Chg.refl _ _⟩, ?_⟩
  intro junk wr k1 i ⟨j, hij, hj, hk1, ho, hch⟩
  subst hij
  refine ifD (fun hlt => ?_) (fun hge => ?_)
  · have hjl : j < l.length := by omega
    obtain ⟨x, hxe⟩ : ∃ x, l[j]? = some x := ⟨_, List.getElem?_eq_getElem hjl⟩
    have hcode := hc x (List.mem_of_getElem? hxe)
    obtain ⟨hct, hcle⟩ := cntL_row hxe
    have hcn := cntL_nonneg (l.take j)
    obtain ⟨b, xs, cs, zs, fi, hp, hB, hA, hk, blk, ow, ndf, hbf, hbm, hfm, back⟩ := ho.focus (markL_at hxe)
    subst hp
    obtain ⟨a0, us, es, rfl, rfl, ow2, hcode2⟩ := ow.consBool hcode
    clear ow hcode; have ow := ow2; have hcode := hcode2; clear ow2 hcode2
    obtain ⟨a1p, a1n, a1c, a1z, us, es, f1, rfl, rfl, rfl, o1, ow2, hcode2⟩ := ow.consInts hcode
    clear ow hcode; have ow := ow2; have hcode := hcode2; clear ow2 hcode2
    obtain ⟨a2, us, es, rfl, rfl, ow2, hcode2⟩ := ow.consInt hcode
    clear ow hcode; have ow := ow2; have hcode := hcode2; clear ow2 hcode2
    obtain ⟨a3, us, es, rfl, rfl, ow2, hcode2⟩ := ow.consStr hcode
    clear ow hcode; have ow := ow2; have hcode := hcode2; clear ow2 hcode2
    obtain ⟨a4, us, es, rfl, rfl, ow2, hcode2⟩ := ow.consBool hcode
    clear ow hcode; have ow := ow2; have hcode := hcode2; clear ow2 hcode2
    obtain ⟨a5p, a5n, a5c, a5z, us, es, f5, rfl, rfl, rfl, o5, ow2, hcode2⟩ := ow.consInts hcode
    clear ow hcode; have ow := ow2; have hcode := hcode2; clear ow2 hcode2
    obtain ⟨a6, us, es, rfl, rfl, ow2, hcode2⟩ := ow.consStr hcode
    clear ow hcode; have ow := ow2; have hcode := hcode2; clear ow2 hcode2
    obtain ⟨a7, us, es, rfl, rfl, ow2, hcode2⟩ := ow.consBool hcode
    clear ow hcode; have ow := ow2; have hcode := hcode2; clear ow2 hcode2
    obtain ⟨a8p, a8n, a8c, a8z, us, es, f8, rfl, rfl, rfl, o8, ow2, hcode2⟩ := ow.consInts hcode
    clear ow hcode; have ow := ow2; have hcode := hcode2; clear ow2 hcode2
    obtain ⟨rfl, rfl, rfl⟩ := ow.done hcode
    simp only [cnts, D0.cnt] at hct hcle
    have z1 : a1z.length = a1n := by have := o1.len; simpa using this
    have z5 : a5z.length = a5n := by have := o5.len; simpa using this
    have z8 : a8z.length = a8n := by have := o8.len; simpa using this
    have m1 : ∀ q, a1p.map (·.block) = some q → q ∈ ((a1p.map (·.block)).toList ++ ((a5p.map (·.block)).toList ++ ((a8p.map (·.block)).toList ++ ([] : List Nat)))) := fun q hq => List.mem_append_left _ (mem_opt hq)
    have u1 : ∀ {W : World} {W2 : World} {zs : List Value}, Own W B T_int 1 a1p a1n a1c zs → Chg [b] W W2 → Own W2 B T_int 1 a1p a1n a1c zs := fun o ch => o.chg ch (fun q hq hm => hbf (List.mem_singleton.1 hm ▸ m1 q hq))
    have m5 : ∀ q, a5p.map (·.block) = some q → q ∈ ((a1p.map (·.block)).toList ++ ((a5p.map (·.block)).toList ++ ((a8p.map (·.block)).toList ++ ([] : List Nat)))) := fun q hq => List.mem_append_right _ (List.mem_append_left _ (mem_opt hq))
    have u5 : ∀ {W : World} {W2 : World} {zs : List Value}, Own W B T_int 1 a5p a5n a5c zs → Chg [b] W W2 → Own W2 B T_int 1 a5p a5n a5c zs := fun o ch => o.chg ch (fun q hq hm => hbf (List.mem_singleton.1 hm ▸ m5 q hq))
    have m8 : ∀ q, a8p.map (·.block) = some q → q ∈ ((a1p.map (·.block)).toList ++ ((a5p.map (·.block)).toList ++ ((a8p.map (·.block)).toList ++ ([] : List Nat)))) := fun q hq => List.mem_append_right _ (List.mem_append_right _ (List.mem_append_left _ (mem_opt hq)))
    have u8 : ∀ {W : World} {W2 : World} {zs : List Value}, Own W B T_int 1 a8p a8n a8c zs → Chg [b] W W2 → Own W2 B T_int 1 a8p a8n a8c zs := fun o ch => o.chg ch (fun q hq hm => hbf (List.mem_singleton.1 hm ▸ m8 q hq))
    have x1 := (List.nodup_append.1 ndf).2.2; have nd1 := (List.nodup_append.1 ndf).2.1
    have x5 := (List.nodup_append.1 nd1).2.2; have nd5 := (List.nodup_append.1 nd1).2.1
    have d1_5 : ∀ q, a1p.map (·.block) = some q → q ∉ (a5p.map (·.block)).toList := fun q hq hm => x1 q (mem_opt hq) q (List.mem_append_left _ hm) rfl
    have d5_1 : ∀ q, a5p.map (·.block) = some q → q ∉ (a1p.map (·.block)).toList := fun q hq hm => x1 q hm q (List.mem_append_left _ (mem_opt hq)) rfl
    have d1_8 : ∀ q, a1p.map (·.block) = some q → q ∉ (a8p.map (·.block)).toList := fun q hq hm => x1 q (mem_opt hq) q (List.mem_append_right _ (List.mem_append_left _ hm)) rfl
    have d8_1 : ∀ q, a8p.map (·.block) = some q → q ∉ (a1p.map (·.block)).toList := fun q hq hm => x1 q hm q (List.mem_append_right _ (List.mem_append_left _ (mem_opt hq))) rfl
    have d5_8 : ∀ q, a5p.map (·.block) = some q → q ∉ (a8p.map (·.block)).toList := fun q hq hm => x5 q (mem_opt hq) q (List.mem_append_left _ hm) rfl
    have d8_5 : ∀ q, a8p.map (·.block) = some q → q ∉ (a5p.map (·.block)).toList := fun q hq hm => x5 q hm q (List.mem_append_left _ (mem_opt hq)) rfl
    have chT : Chg (b :: ((a1p.map (·.block)).toList ++ ((a5p.map (·.block)).toList ++ ((a8p.map (·.block)).toList ++ ([] : List Nat))))) wr wr := Chg.refl _ _
    have sub1 : ∀ q ∈ [b], q ∈ b :: ((a1p.map (·.block)).toList ++ ((a5p.map (·.block)).toList ++ ((a8p.map (·.block)).toList ++ ([] : List Nat)))) := fun q hq => by rw [List.mem_singleton.1 hq]; exact List.mem_cons_self
    refine ⟨by decide, _, rfl, ⟨by omega, by omega⟩, ?_⟩
    rw [Int.tmod_eq_emod_of_nonneg (show (0 : Int) ≤ k1 by omega)]
    obtain ⟨w1, st, blk2, ch, sz⟩ := blk.storeMid (P := P) (t := T_bool) (v := .bool (decide ((k1) % 3 = 0))) hA 0 (by simp) (by kernel_rfl) rfl rfl
    have blk : Blk w1 b e (xs ++ [.bool (decide ((k1) % 3 = 0)), .slice a1p a1n a1c, .int .i64 a2, .string a3, .bool a4, .slice a5p a5n a5c, .string a6, .bool a7, .slice a8p a8n a8c] ++ zs) := blk2; clear blk2
    have chT := chT.trans (ch.mono sub1)
    have o1 := u1 o1 ch
    have o5 := u5 o5 ch
    have o8 := u8 o8 ch
    refine ⟨w1, (by simp only [addr_add, Int.toNat_natCast, Nat.zero_add, Nat.add_zero]; exact st), exW ⟨by omega, by omega⟩ ?_⟩
    refine ⟨⟨by omega, by omega⟩, _, _, _, (by simp only [addr_add, Int.toNat_natCast, Nat.zero_add, Nat.add_zero]; exact (blk.segMid hA).loadAt 1 rfl (by kernel_rfl) rfl), ?_⟩
    refine Ret.at (laws_markIntS_c o1 (by omega) (by omega)) ?_
    rintro v w2 ⟨hv, on, ch⟩
    subst hv
    have blk := blk.chg ch (fun hm => hbf (m1 _ (opt_mem hm)))
    have chT := chT.trans (ch.mono (fun q hq => List.mem_cons_of_mem _ (m1 q (opt_mem hq))))
    have o5 := o5.chg ch d5_1
    have o8 := o8.chg ch d8_1
    have o1 := on; clear on
    refine ⟨_, rfl, ?_⟩
    obtain ⟨w3, st, blk2, ch, sz⟩ := blk.storeMid (P := P) (t := T_int) (v := .int .i64 (k1 + 1 + (a1n : Nat))) hA 2 (by simp) (by kernel_rfl) rfl rfl
    have blk : Blk w3 b e (xs ++ [.bool (decide ((k1) % 3 = 0)), .slice a1p a1n a1c, .int .i64 (k1 + 1 + (a1n : Nat)), .string a3, .bool a4, .slice a5p a5n a5c, .string a6, .bool a7, .slice a8p a8n a8c] ++ zs) := blk2; clear blk2
    have chT := chT.trans (ch.mono sub1)
    have o1 := u1 o1 ch
    have o5 := u5 o5 ch
    have o8 := u8 o8 ch
    refine ⟨⟨by omega, by omega⟩, w3, (by simp only [addr_add, Int.toNat_natCast, Nat.zero_add, Nat.add_zero]; exact st), exW ⟨by omega, by omega⟩ ?_⟩
    refine Ret.at (laws_markText_c (by omega) _) ?_
    rintro v w4 ⟨hv, y⟩
    subst hv
    have blk := blk.ext y; have chT := chT.trans y.toChg
    have o1 := o1.ext y
    have o5 := o5.ext y
    have o8 := o8.ext y
    obtain ⟨w5, st, blk2, ch, sz⟩ := blk.storeMid (P := P) (t := T_string) (v := .string (mtext (k1 + 1 + (a1n : Nat) + 1))) hA 3 (by simp) (by kernel_rfl) rfl rfl
    have blk : Blk w5 b e (xs ++ [.bool (decide ((k1) % 3 = 0)), .slice a1p a1n a1c, .int .i64 (k1 + 1 + (a1n : Nat)), .string (mtext (k1 + 1 + (a1n : Nat) + 1)), .bool a4, .slice a5p a5n a5c, .string a6, .bool a7, .slice a8p a8n a8c] ++ zs) := blk2; clear blk2
    have chT := chT.trans (ch.mono sub1)
    have o1 := u1 o1 ch
    have o5 := u5 o5 ch
    have o8 := u8 o8 ch
    refine ⟨_, rfl, ⟨by omega, by omega⟩, w5, (by simp only [addr_add, Int.toNat_natCast, Nat.zero_add, Nat.add_zero]; exact st), exW ⟨by omega, by omega⟩ ?_⟩
    refine ⟨by decide, _, rfl, ⟨by omega, by omega⟩, ?_⟩
    rw [Int.tmod_eq_emod_of_nonneg (show (0 : Int) ≤ k1 + 1 + (a1n : Nat) + 1 + 1 by omega)]
    obtain ⟨w6, st, blk2, ch, sz⟩ := blk.storeMid (P := P) (t := T_bool) (v := .bool (decide ((k1 + 1 + (a1n : Nat) + 1 + 1) % 3 = 0))) hA 4 (by simp) (by kernel_rfl) rfl rfl
    have blk : Blk w6 b e (xs ++ [.bool (decide ((k1) % 3 = 0)), .slice a1p a1n a1c, .int .i64 (k1 + 1 + (a1n : Nat)), .string (mtext (k1 + 1 + (a1n : Nat) + 1)), .bool (decide ((k1 + 1 + (a1n : Nat) + 1 + 1) % 3 = 0)), .slice a5p a5n a5c, .string a6, .bool a7, .slice a8p a8n a8c] ++ zs) := blk2; clear blk2
    have chT := chT.trans (ch.mono sub1)
    have o1 := u1 o1 ch
    have o5 := u5 o5 ch
    have o8 := u8 o8 ch
    refine ⟨w6, (by simp only [addr_add, Int.toNat_natCast, Nat.zero_add, Nat.add_zero]; exact st), exW ⟨by omega, by omega⟩ ?_⟩
    refine ⟨⟨by omega, by omega⟩, _, _, _, (by simp only [addr_add, Int.toNat_natCast, Nat.zero_add, Nat.add_zero]; exact (blk.segMid hA).loadAt 5 rfl (by kernel_rfl) rfl), ?_⟩
    refine Ret.at (laws_markIntS_c o5 (by omega) (by omega)) ?_
    rintro v w7 ⟨hv, on, ch⟩
    subst hv
    have blk := blk.chg ch (fun hm => hbf (m5 _ (opt_mem hm)))
    have chT := chT.trans (ch.mono (fun q hq => List.mem_cons_of_mem _ (m5 q (opt_mem hq))))
    have o1 := o1.chg ch d1_5
    have o8 := o8.chg ch d8_5
    have o5 := on; clear on
    refine ⟨_, rfl, ?_⟩
    refine Ret.at (laws_markText_c (by omega) _) ?_
    rintro v w8 ⟨hv, y⟩
    subst hv
    have blk := blk.ext y; have chT := chT.trans y.toChg
    have o1 := o1.ext y
    have o5 := o5.ext y
    have o8 := o8.ext y
    obtain ⟨w9, st, blk2, ch, sz⟩ := blk.storeMid (P := P) (t := T_string) (v := .string (mtext (k1 + 1 + (a1n : Nat) + 1 + 1 + 1 + (a5n : Nat)))) hA 6 (by simp) (by kernel_rfl) rfl rfl
    have blk : Blk w9 b e (xs ++ [.bool (decide ((k1) % 3 = 0)), .slice a1p a1n a1c, .int .i64 (k1 + 1 + (a1n : Nat)), .string (mtext (k1 + 1 + (a1n : Nat) + 1)), .bool (decide ((k1 + 1 + (a1n : Nat) + 1 + 1) % 3 = 0)), .slice a5p a5n a5c, .string (mtext (k1 + 1 + (a1n : Nat) + 1 + 1 + 1 + (a5n : Nat))), .bool a7, .slice a8p a8n a8c] ++ zs) := blk2; clear blk2
    have chT := chT.trans (ch.mono sub1)
    have o1 := u1 o1 ch
    have o5 := u5 o5 ch
    have o8 := u8 o8 ch
    refine ⟨_, rfl, ⟨by omega, by omega⟩, w9, (by simp only [addr_add, Int.toNat_natCast, Nat.zero_add, Nat.add_zero]; exact st), exW ⟨by omega, by omega⟩ ?_⟩
    refine ⟨by decide, _, rfl, ⟨by omega, by omega⟩, ?_⟩
    rw [Int.tmod_eq_emod_of_nonneg (show (0 : Int) ≤ k1 + 1 + (a1n : Nat) + 1 + 1 + 1 + (a5n : Nat) + 1 by omega)]
    obtain ⟨w10, st, blk2, ch, sz⟩ := blk.storeMid (P := P) (t := T_bool) (v := .bool (decide ((k1 + 1 + (a1n : Nat) + 1 + 1 + 1 + (a5n : Nat) + 1) % 3 = 0))) hA 7 (by simp) (by kernel_rfl) rfl rfl
    have blk : Blk w10 b e (xs ++ [.bool (decide ((k1) % 3 = 0)), .slice a1p a1n a1c, .int .i64 (k1 + 1 + (a1n : Nat)), .string (mtext (k1 + 1 + (a1n : Nat) + 1)), .bool (decide ((k1 + 1 + (a1n : Nat) + 1 + 1) % 3 = 0)), .slice a5p a5n a5c, .string (mtext (k1 + 1 + (a1n : Nat) + 1 + 1 + 1 + (a5n : Nat))), .bool (decide ((k1 + 1 + (a1n : Nat) + 1 + 1 + 1 + (a5n : Nat) + 1) % 3 = 0)), .slice a8p a8n a8c] ++ zs) := blk2; clear blk2
    have chT := chT.trans (ch.mono sub1)
    have o1 := u1 o1 ch
    have o5 := u5 o5 ch
    have o8 := u8 o8 ch
    refine ⟨w10, (by simp only [addr_add, Int.toNat_natCast, Nat.zero_add, Nat.add_zero]; exact st), exW ⟨by omega, by omega⟩ ?_⟩
    refine ⟨⟨by omega, by omega⟩, _, _, _, (by simp only [addr_add, Int.toNat_natCast, Nat.zero_add, Nat.add_zero]; exact (blk.segMid hA).loadAt 8 rfl (by kernel_rfl) rfl), ?_⟩
    refine Ret.at (laws_markIntS_c o8 (by omega) (by omega)) ?_
    rintro v w11 ⟨hv, on, ch⟩
    subst hv
    have blk := blk.chg ch (fun hm => hbf (m8 _ (opt_mem hm)))
    have chT := chT.trans (ch.mono (fun q hq => List.mem_cons_of_mem _ (m8 q (opt_mem hq))))
    have o1 := o1.chg ch d1_8
    have o5 := o5.chg ch d5_8
    have o8 := on; clear on
    refine ⟨_, rfl, ?_⟩
    refine exW ⟨by omega, by omega⟩ ⟨⟨j + 1, by omega, by omega, by omega, ?_, hch.trans (chT.mono (fun q hq => ?_))⟩, ?_⟩
    · rw [← markL_set hxe, ← hk1]
      have e : marks [.bool a0, .ints a1z, .int a2, .str a3, .bool a4, .ints a5z, .str a6, .bool a7, .ints a8z] k1 = [.bool (decide ((k1) % 3 = 0)), .ints (mkI a1n (k1 + 1)), .int (k1 + 1 + (a1n : Nat)), .str (mtext (k1 + 1 + (a1n : Nat) + 1)), .bool (decide ((k1 + 1 + (a1n : Nat) + 1 + 1) % 3 = 0)), .ints (mkI a5n (k1 + 1 + (a1n : Nat) + 1 + 1 + 1)), .str (mtext (k1 + 1 + (a1n : Nat) + 1 + 1 + 1 + (a5n : Nat))), .bool (decide ((k1 + 1 + (a1n : Nat) + 1 + 1 + 1 + (a5n : Nat) + 1) % 3 = 0)), .ints (mkI a8n (k1 + 1 + (a1n : Nat) + 1 + 1 + 1 + (a5n : Nat) + 1 + 1))] := by simp only [marks, D0.mark, D0.cnt, z1, z5, z8] <;> rfl
      rw [e]
      exact back _ [.bool (decide ((k1) % 3 = 0)), .slice a1p a1n a1c, .int .i64 (k1 + 1 + (a1n : Nat)), .string (mtext (k1 + 1 + (a1n : Nat) + 1)), .bool (decide ((k1 + 1 + (a1n : Nat) + 1 + 1) % 3 = 0)), .slice a5p a5n a5c, .string (mtext (k1 + 1 + (a1n : Nat) + 1 + 1 + 1 + (a5n : Nat))), .bool (decide ((k1 + 1 + (a1n : Nat) + 1 + 1 + 1 + (a5n : Nat) + 1) % 3 = 0)), .slice a8p a8n a8c] _ chT rfl blk (Owns.append (Owns.bool _ _ _) (Owns.append (Owns.ints o1) (Owns.append (Owns.int _ _ _) (Owns.append (Owns.str _ _ _) (Owns.append (Owns.bool _ _ _) (Owns.append (Owns.ints o5) (Owns.append (Owns.str _ _ _) (Owns.append (Owns.bool _ _ _) (Owns.append (Owns.ints o8) (Owns.nil _ _))))))))))
    · rcases List.mem_cons.1 hq with h | h
      · rw [h]; exact hbm
      · exact hfm q h
    · show n - ((j : Int) + 1).toNat < n - (j : Int).toNat
      omega
  · have hjn : j = n := by omega
    subst hjn
    rw [List.take_of_length_le (by omega), List.drop_of_length_le (by omega), List.append_nil] at ho
    rw [List.take_of_length_le (by omega)] at hk1
    exact ⟨by rw [hk1], ho, hch⟩

theorem laws_markRowS_c {w : World} {B : Nat} {e : TypeId} {p : Option Addr} {n c : Nat} {l : List (List D0)} {f : List Nat} {k : Int} (h : OwnRows w B e 9 p n c l f) (hc : ∀ x ∈ l, x.map D0.code = [.str, .bool, .ints, .str, .bool, .ints, .str, .bool, .ints]) (h0 : 0 ≤ k) (h1 : k + cntL l ≤ 1000000000000000000) :
    Ret P n_laws_markRowS [.slice p n c, .int .i64 k] w fun v w' => v = .int .i64 (k + cntL l) ∧ OwnRows w' B e 9 p n c (markL l k) f ∧ Chg f w w' := by
  have hz := h.1; have hcap := h.rows.2.1; have hcm := h.rows.2.2.1
  refine laws_markRowS_ret ?_
  unfold laws_markRowS
  refine ⟨fun k1 i wr => ∃ j : Nat, i = j ∧ j ≤ n ∧ k1 = k + cntL (l.take j) ∧ OwnRows wr B e 9 p n c (markL (l.take j) k ++ l.drop j) f ∧ Chg f w wr, fun _ i _ => n - i.toNat, ⟨0, rfl, by omega, by simp [cntL], by simpa [markL] using h, Chg.refl _ _⟩, ?_⟩
  intro junk wr k1 i ⟨j, hij, hj, hk1, ho, hch⟩
  subst hij
  refine ifD (fun hlt => ?_) (fun hge => ?_)
  · have hjl : j < l.length := by omega
    obtain ⟨x, hxe⟩ : ∃ x, l[j]? = some x := ⟨_, List.getElem?_eq_getElem hjl⟩
    have hcode := hc x (List.mem_of_getElem? hxe)
    obtain ⟨hct, hcle⟩ := cntL_row hxe
    have hcn := cntL_nonneg (l.take j)
    obtain ⟨b, xs, cs, zs, fi, hp, hB, hA, hk, blk, ow, ndf, hbf, hbm, hfm, back⟩ := ho.focus (markL_at hxe)
    subst hp
    obtain ⟨a0, us, es, rfl, rfl, ow2, hcode2⟩ := ow.consStr hcode
    clear ow hcode; have ow := ow2; have hcode := hcode2; clear ow2 hcode2
    obtain ⟨a1, us, es, rfl, rfl, ow2, hcode2⟩ := ow.consBool hcode
    clear ow hcode; have ow := ow2; have hcode := hcode2; clear ow2 hcode2
    obtain ⟨a2p, a2n, a2c, a2z, us, es, f2, rfl, rfl, rfl, o2, ow2, hcode2⟩ := ow.consInts hcode
    clear ow hcode; have ow := ow2; have hcode := hcode2; clear ow2 hcode2
    obtain ⟨a3, us, es, rfl, rfl, ow2, hcode2⟩ := ow.consStr hcode
    clear ow hcode; have ow := ow2; have hcode := hcode2; clear ow2 hcode2
    obtain ⟨a4, us, es, rfl, rfl, ow2, hcode2⟩ := ow.consBool hcode
    clear ow hcode; have ow := ow2; have hcode := hcode2; clear ow2 hcode2
    obtain ⟨a5p, a5n, a5c, a5z, us, es, f5, rfl, rfl, rfl, o5, ow2, hcode2⟩ := ow.consInts hcode
    clear ow hcode; have ow := ow2; have hcode := hcode2; clear ow2 hcode2
    obtain ⟨a6, us, es, rfl, rfl, ow2, hcode2⟩ := ow.consStr hcode
    clear ow hcode; have ow := ow2; have hcode := hcode2; clear ow2 hcode2
    obtain ⟨a7, us, es, rfl, rfl, ow2, hcode2⟩ := ow.consBool hcode
    clear ow hcode; have ow := ow2; have hcode := hcode2; clear ow2 hcode2
    obtain ⟨a8p, a8n, a8c, a8z, us, es, f8, rfl, rfl, rfl, o8, ow2, hcode2⟩ := ow.consInts hcode
    clear ow hcode; have ow := ow2; have hcode := hcode2; clear ow2 hcode2
    obtain ⟨rfl, rfl, rfl⟩ := ow.done hcode
    simp only [cnts, D0.cnt] at hct hcle
    have z2 : a2z.length = a2n := by have := o2.len; simpa using this
    have z5 : a5z.length = a5n := by have := o5.len; simpa using this
    have z8 : a8z.length = a8n := by have := o8.len; simpa using this
    have m2 : ∀ q, a2p.map (·.block) = some q → q ∈ ((a2p.map (·.block)).toList ++ ((a5p.map (·.block)).toList ++ ((a8p.map (·.block)).toList ++ ([] : List Nat)))) := fun q hq => List.mem_append_left _ (mem_opt hq)
    have u2 : ∀ {W : World} {W2 : World} {zs : List Value}, Own W B T_int 1 a2p a2n a2c zs → Chg [b] W W2 → Own W2 B T_int 1 a2p a2n a2c zs := fun o ch => o.chg ch (fun q hq hm => hbf (List.mem_singleton.1 hm ▸ m2 q hq))
    have m5 : ∀ q, a5p.map (·.block) = some q → q ∈ ((a2p.map (·.block)).toList ++ ((a5p.map (·.block)).toList ++ ((a8p.map (·.block)).toList ++ ([] : List Nat)))) := fun q hq => List.mem_append_right _ (List.mem_append_left _ (mem_opt hq))
    have u5 : ∀ {W : World} {W2 : World} {zs : List Value}, Own W B T_int 1 a5p a5n a5c zs → Chg [b] W W2 → Own W2 B T_int 1 a5p a5n a5c zs := fun o ch => o.chg ch (fun q hq hm => hbf (List.mem_singleton.1 hm ▸ m5 q hq))
    have m8 : ∀ q, a8p.map (·.block) = some q → q ∈ ((a2p.map (·.block)).toList ++ ((a5p.map (·.block)).toList ++ ((a8p.map (·.block)).toList ++ ([] : List Nat)))) := fun q hq => List.mem_append_right _ (List.mem_append_right _ (List.mem_append_left _ (mem_opt hq)))
    have u8 : ∀ {W : World} {W2 : World} {zs : List Value}, Own W B T_int 1 a8p a8n a8c zs → Chg [b] W W2 → Own W2 B T_int 1 a8p a8n a8c zs := fun o ch => o.chg ch (fun q hq hm => hbf (List.mem_singleton.1 hm ▸ m8 q hq))
    have x2 := (List.nodup_append.1 ndf).2.2; have nd2 := (List.nodup_append.1 ndf).2.1
    have x5 := (List.nodup_append.1 nd2).2.2; have nd5 := (List.nodup_append.1 nd2).2.1
    have d2_5 : ∀ q, a2p.map (·.block) = some q → q ∉ (a5p.map (·.block)).toList := fun q hq hm => x2 q (mem_opt hq) q (List.mem_append_left _ hm) rfl
    have d5_2 : ∀ q, a5p.map (·.block) = some q → q ∉ (a2p.map (·.block)).toList := fun q hq hm => x2 q hm q (List.mem_append_left _ (mem_opt hq)) rfl
    have d2_8 : ∀ q, a2p.map (·.block) = some q → q ∉ (a8p.map (·.block)).toList := fun q hq hm => x2 q (mem_opt hq) q (List.mem_append_right _ (List.mem_append_left _ hm)) rfl
    have d8_2 : ∀ q, a8p.map (·.block) = some q → q ∉ (a2p.map (·.block)).toList := fun q hq hm => x2 q hm q (List.mem_append_right _ (List.mem_append_left _ (mem_opt hq))) rfl
    have d5_8 : ∀ q, a5p.map (·.block) = some q → q ∉ (a8p.map (·.block)).toList := fun q hq hm => x5 q (mem_opt hq) q (List.mem_append_left _ hm) rfl
    have d8_5 : ∀ q, a8p.map (·.block) = some q → q ∉ (a5p.map (·.block)).toList := fun q hq hm => x5 q hm q (List.mem_append_left _ (mem_opt hq)) rfl
    have chT : Chg (b :: ((a2p.map (·.block)).toList ++ ((a5p.map (·.block)).toList ++ ((a8p.map (·.block)).toList ++ ([] : List Nat))))) wr wr := Chg.refl _ _
    have sub1 : ∀ q ∈ [b], q ∈ b :: ((a2p.map (·.block)).toList ++ ((a5p.map (·.block)).toList ++ ((a8p.map (·.block)).toList ++ ([] : List Nat)))) := fun q hq => by rw [List.mem_singleton.1 hq]; exact List.mem_cons_self
    refine Ret.at (laws_markText_c (by omega) _) ?_
    rintro v w1 ⟨hv, y⟩
    subst hv
    have blk := blk.ext y; have chT := chT.trans y.toChg
    have o2 := o2.ext y
    have o5 := o5.ext y
    have o8 := o8.ext y
    obtain ⟨w2, st, blk2, ch, sz⟩ := blk.storeMid (P := P) (t := T_string) (v := .string (mtext (k1))) hA 0 (by simp) (by kernel_rfl) rfl rfl
    have blk : Blk w2 b e (xs ++ [.string (mtext (k1)), .bool a1, .slice a2p a2n a2c, .string a3, .bool a4, .slice a5p a5n a5c, .string a6, .bool a7, .slice a8p a8n a8c] ++ zs) := blk2; clear blk2
    have chT := chT.trans (ch.mono sub1)
    have o2 := u2 o2 ch
    have o5 := u5 o5 ch
    have o8 := u8 o8 ch
    refine ⟨_, rfl, ⟨by omega, by omega⟩, w2, (by simp only [addr_add, Int.toNat_natCast, Nat.zero_add, Nat.add_zero]; exact st), exW ⟨by omega, by omega⟩ ?_⟩
    refine ⟨by decide, _, rfl, ⟨by omega, by omega⟩, ?_⟩
    rw [Int.tmod_eq_emod_of_nonneg (show (0 : Int) ≤ k1 + 1 by omega)]
    obtain ⟨w3, st, blk2, ch, sz⟩ := blk.storeMid (P := P) (t := T_bool) (v := .bool (decide ((k1 + 1) % 3 = 0))) hA 1 (by simp) (by kernel_rfl) rfl rfl
    have blk : Blk w3 b e (xs ++ [.string (mtext (k1)), .bool (decide ((k1 + 1) % 3 = 0)), .slice a2p a2n a2c, .string a3, .bool a4, .slice a5p a5n a5c, .string a6, .bool a7, .slice a8p a8n a8c] ++ zs) := blk2; clear blk2
    have chT := chT.trans (ch.mono sub1)
    have o2 := u2 o2 ch
    have o5 := u5 o5 ch
    have o8 := u8 o8 ch
    refine ⟨w3, (by simp only [addr_add, Int.toNat_natCast, Nat.zero_add, Nat.add_zero]; exact st), exW ⟨by omega, by omega⟩ ?_⟩
    refine ⟨⟨by omega, by omega⟩, _, _, _, (by simp only [addr_add, Int.toNat_natCast, Nat.zero_add, Nat.add_zero]; exact (blk.segMid hA).loadAt 2 rfl (by kernel_rfl) rfl), ?_⟩
    refine Ret.at (laws_markIntS_c o2 (by omega) (by omega)) ?_
    rintro v w4 ⟨hv, on, ch⟩
    subst hv
    have blk := blk.chg ch (fun hm => hbf (m2 _ (opt_mem hm)))
    have chT := chT.trans (ch.mono (fun q hq => List.mem_cons_of_mem _ (m2 q (opt_mem hq))))
    have o5 := o5.chg ch d5_2
    have o8 := o8.chg ch d8_2
    have o2 := on; clear on
    refine ⟨_, rfl, ?_⟩
    refine Ret.at (laws_markText_c (by omega) _) ?_
    rintro v w5 ⟨hv, y⟩
    subst hv
    have blk := blk.ext y; have chT := chT.trans y.toChg
    have o2 := o2.ext y
    have o5 := o5.ext y
    have o8 := o8.ext y
    obtain ⟨w6, st, blk2, ch, sz⟩ := blk.storeMid (P := P) (t := T_string) (v := .string (mtext (k1 + 1 + 1 + (a2n : Nat)))) hA 3 (by simp) (by kernel_rfl) rfl rfl
    have blk : Blk w6 b e (xs ++ [.string (mtext (k1)), .bool (decide ((k1 + 1) % 3 = 0)), .slice a2p a2n a2c, .string (mtext (k1 + 1 + 1 + (a2n : Nat))), .bool a4, .slice a5p a5n a5c, .string a6, .bool a7, .slice a8p a8n a8c] ++ zs) := blk2; clear blk2
    have chT := chT.trans (ch.mono sub1)
    have o2 := u2 o2 ch
    have o5 := u5 o5 ch
    have o8 := u8 o8 ch
    refine ⟨_, rfl, ⟨by omega, by omega⟩, w6, (by simp only [addr_add, Int.toNat_natCast, Nat.zero_add, Nat.add_zero]; exact st), exW ⟨by omega, by omega⟩ ?_⟩
    refine ⟨by decide, _, rfl, ⟨by omega, by omega⟩, ?_⟩
    rw [Int.tmod_eq_emod_of_nonneg (show (0 : Int) ≤ k1 + 1 + 1 + (a2n : Nat) + 1 by omega)]
    obtain ⟨w7, st, blk2, ch, sz⟩ := blk.storeMid (P := P) (t := T_bool) (v := .bool (decide ((k1 + 1 + 1 + (a2n : Nat) + 1) % 3 = 0))) hA 4 (by simp) (by kernel_rfl) rfl rfl
    have blk : Blk w7 b e (xs ++ [.string (mtext (k1)), .bool (decide ((k1 + 1) % 3 = 0)), .slice a2p a2n a2c, .string (mtext (k1 + 1 + 1 + (a2n : Nat))), .bool (decide ((k1 + 1 + 1 + (a2n : Nat) + 1) % 3 = 0)), .slice a5p a5n a5c, .string a6, .bool a7, .slice a8p a8n a8c] ++ zs) := blk2; clear blk2
    have chT := chT.trans (ch.mono sub1)
    have o2 := u2 o2 ch
    have o5 := u5 o5 ch
    have o8 := u8 o8 ch
    refine ⟨w7, (by simp only [addr_add, Int.toNat_natCast, Nat.zero_add, Nat.add_zero]; exact st), exW ⟨by omega, by omega⟩ ?_⟩
    refine ⟨⟨by omega, by omega⟩, _, _, _, (by simp only [addr_add, Int.toNat_natCast, Nat.zero_add, Nat.add_zero]; exact (blk.segMid hA).loadAt 5 rfl (by kernel_rfl) rfl), ?_⟩
    refine Ret.at (laws_markIntS_c o5 (by omega) (by omega)) ?_
    rintro v w8 ⟨hv, on, ch⟩
    subst hv
    have blk := blk.chg ch (fun hm => hbf (m5 _ (opt_mem hm)))
    have chT := chT.trans (ch.mono (fun q hq => List.mem_cons_of_mem _ (m5 q (opt_mem hq))))
    have o2 := o2.chg ch d2_5
    have o8 := o8.chg ch d8_5
    have o5 := on; clear on
    refine ⟨_, rfl, ?_⟩
    refine Ret.at (laws_markText_c (by omega) _) ?_
    rintro v w9 ⟨hv, y⟩
    subst hv
    have blk := blk.ext y; have chT := chT.trans y.toChg
    have o2 := o2.ext y
    have o5 := o5.ext y
    have o8 := o8.ext y
    obtain ⟨w10, st, blk2, ch, sz⟩ := blk.storeMid (P := P) (t := T_string) (v := .string (mtext (k1 + 1 + 1 + (a2n : Nat) + 1 + 1 + (a5n : Nat)))) hA 6 (by simp) (by kernel_rfl) rfl rfl
    have blk : Blk w10 b e (xs ++ [.string (mtext (k1)), .bool (decide ((k1 + 1) % 3 = 0)), .slice a2p a2n a2c, .string (mtext (k1 + 1 + 1 + (a2n : Nat))), .bool (decide ((k1 + 1 + 1 + (a2n : Nat) + 1) % 3 = 0)), .slice a5p a5n a5c, .string (mtext (k1 + 1 + 1 + (a2n : Nat) + 1 + 1 + (a5n : Nat))), .bool a7, .slice a8p a8n a8c] ++ zs) := blk2; clear blk2
    have chT := chT.trans (ch.mono sub1)
    have o2 := u2 o2 ch
    have o5 := u5 o5 ch
    have o8 := u8 o8 ch
    refine ⟨_, rfl, ⟨by omega, by omega⟩, w10, (by simp only [addr_add, Int.toNat_natCast, Nat.zero_add, Nat.add_zero]; exact st), exW ⟨by omega, by omega⟩ ?_⟩
    refine ⟨by decide, _, rfl, ⟨by omega, by omega⟩, ?_⟩
    rw [Int.tmod_eq_emod_of_nonneg (show (0 : Int) ≤ k1 + 1 + 1 + (a2n : Nat) + 1 + 1 + (a5n : Nat) + 1 by omega)]
    obtain ⟨w11, st, blk2, ch, sz⟩ := blk.storeMid (P := P) (t := T_bool) (v := .bool (decide ((k1 + 1 + 1 + (a2n : Nat) + 1 + 1 + (a5n : Nat) + 1) % 3 = 0))) hA 7 (by simp) (by kernel_rfl) rfl rfl
    have blk : Blk w11 b e (xs ++ [.string (mtext (k1)), .bool (decide ((k1 + 1) % 3 = 0)), .slice a2p a2n a2c, .string (mtext (k1 + 1 + 1 + (a2n : Nat))), .bool (decide ((k1 + 1 + 1 + (a2n : Nat) + 1) % 3 = 0)), .slice a5p a5n a5c, .string (mtext (k1 + 1 + 1 + (a2n : Nat) + 1 + 1 + (a5n : Nat))), .bool (decide ((k1 + 1 + 1 + (a2n : Nat) + 1 + 1 + (a5n : Nat) + 1) % 3 = 0)), .slice a8p a8n a8c] ++ zs) := blk2; clear blk2
    have chT := chT.trans (ch.mono sub1)
    have o2 := u2 o2 ch
    have o5 := u5 o5 ch
    have o8 := u8 o8 ch
    refine ⟨w11, (by simp only [addr_add, Int.toNat_natCast, Nat.zero_add, Nat.add_zero]; exact st), exW ⟨by omega, by omega⟩ ?_⟩
    refine ⟨⟨by omega, by omega⟩, _, _, _, (by simp only [addr_add, Int.toNat_natCast, Nat.zero_add, Nat.add_zero]; exact (blk.segMid hA).loadAt 8 rfl (by kernel_rfl) rfl), ?_⟩
    refine Ret.at (laws_markIntS_c o8 (by omega) (by omega)) ?_
    rintro v w12 ⟨hv, on, ch⟩
    subst hv
    have blk := blk.chg ch (fun hm => hbf (m8 _ (opt_mem hm)))
    have chT := chT.trans (ch.mono (fun q hq => List.mem_cons_of_mem _ (m8 q (opt_mem hq))))
    have o2 := o2.chg ch d2_8
    have o5 := o5.chg ch d5_8
    have o8 := on; clear on
    refine ⟨_, rfl, ?_⟩
    refine exW ⟨by omega, by omega⟩ ⟨⟨j + 1, by omega, by omega, by omega, ?_, hch.trans (chT.mono (fun q hq => ?_))⟩, ?_⟩
    · rw [← markL_set hxe, ← hk1]
      have e : marks [.str a0, .bool a1, .ints a2z, .str a3, .bool a4, .ints a5z, .str a6, .bool a7, .ints a8z] k1 = [.str (mtext (k1)), .bool (decide ((k1 + 1) % 3 = 0)), .ints (mkI a2n (k1 + 1 + 1)), .str (mtext (k1 + 1 + 1 + (a2n : Nat))), .bool (decide ((k1 + 1 + 1 + (a2n : Nat) + 1) % 3 = 0)), .ints (mkI a5n (k1 + 1 + 1 + (a2n : Nat) + 1 + 1)), .str (mtext (k1 + 1 + 1 + (a2n : Nat) + 1 + 1 + (a5n : Nat))), .bool (decide ((k1 + 1 + 1 + (a2n : Nat) + 1 + 1 + (a5n : Nat) + 1) % 3 = 0)), .ints (mkI a8n (k1 + 1 + 1 + (a2n : Nat) + 1 + 1 + (a5n : Nat) + 1 + 1))] := by simp only [marks, D0.mark, D0.cnt, z2, z5, z8] <;> rfl
      rw [e]
      exact back _ [.string (mtext (k1)), .bool (decide ((k1 + 1) % 3 = 0)), .slice a2p a2n a2c, .string (mtext (k1 + 1 + 1 + (a2n : Nat))), .bool (decide ((k1 + 1 + 1 + (a2n : Nat) + 1) % 3 = 0)), .slice a5p a5n a5c, .string (mtext (k1 + 1 + 1 + (a2n : Nat) + 1 + 1 + (a5n : Nat))), .bool (decide ((k1 + 1 + 1 + (a2n : Nat) + 1 + 1 + (a5n : Nat) + 1) % 3 = 0)), .slice a8p a8n a8c] _ chT rfl blk (Owns.append (Owns.str _ _ _) (Owns.append (Owns.bool _ _ _) (Owns.append (Owns.ints o2) (Owns.append (Owns.str _ _ _) (Owns.append (Owns.bool _ _ _) (Owns.append (Owns.ints o5) (Owns.append (Owns.str _ _ _) (Owns.append (Owns.bool _ _ _) (Owns.append (Owns.ints o8) (Owns.nil _ _))))))))))
    · rcases List.mem_cons.1 hq with h | h
      · rw [h]; exact hbm
      · exact hfm q h
    · show n - ((j : Int) + 1).toNat < n - (j : Int).toNat
      omega
  · have hjn : j = n := by omega
    subst hjn
    rw [List.take_of_length_le (by omega), List.drop_of_length_le (by omega), List.append_nil] at ho
    rw [List.take_of_length_le (by omega)] at hk1
    exact ⟨by rw [hk1], ho, hch⟩

theorem laws_markAcctS_c {w : World} {B : Nat} {e : TypeId} {p : Option Addr} {n c : Nat} {l : List (List D0)} {f : List Nat} {k : Int} (h : OwnRows w B e 4 p n c l f) (hc : ∀ x ∈ l, x.map D0.code = [.str, .str, .bool, .ints]) (h0 : 0 ≤ k) (h1 : k + cntL l ≤ 1000000000000000000) :
    Ret P n_laws_markAcctS [.slice p n c, .int .i64 k] w fun v w' => v = .int .i64 (k + cntL l) ∧ OwnRows w' B e 4 p n c (markL l k) f ∧ Chg f w w' := by
  have hz := h.1; have hcap := h.rows.2.1; have hcm := h.rows.2.2.1
  refine laws_markAcctS_ret ?_
  unfold laws_markAcctS
  refine ⟨fun k1 i wr => ∃ j : Nat, i = j ∧ j ≤ n ∧ k1 = k + cntL (l.take j) ∧ OwnRows wr B e 4 p n c (markL (l.take j) k ++ l.drop j) f ∧ Chg f w wr, fun _ i _ => n - i.toNat, ⟨0, rfl, by omega, by simp [cntL], by simpa [markL] using h, Chg.refl _ _⟩, ?_⟩
  intro junk wr k1 i ⟨j, hij, hj, hk1, ho, hch⟩
  subst hij
  refine ifD (fun hlt => ?_) (fun hge => ?_)
  · have hjl : j < l.length := by omega
    obtain ⟨x, hxe⟩ : ∃ x, l[j]? = some x := ⟨_, List.getElem?_eq_getElem hjl⟩
    have hcode := hc x (List.mem_of_getElem? hxe)
    obtain ⟨hct, hcle⟩ := cntL_row hxe
    have hcn := cntL_nonneg (l.take j)
    obtain ⟨b, xs, cs, zs, fi, hp, hB, hA, hk, blk, ow, ndf, hbf, hbm, hfm, back⟩ := ho.focus (markL_at hxe)
    subst hp
    obtain ⟨a0, us, es, rfl, rfl, ow2, hcode2⟩ := ow.consStr hcode
    clear ow hcode; have ow := ow2; have hcode := hcode2; clear ow2 hcode2
    obtain ⟨a1, us, es, rfl, rfl, ow2, hcode2⟩ := ow.consStr hcode
    clear ow hcode; have ow := ow2; have hcode := hcode2; clear ow2 hcode2
    obtain ⟨a2, us, es, rfl, rfl, ow2, hcode2⟩ := ow.consBool hcode
    clear ow hcode; have ow := ow2; have hcode := hcode2; clear ow2 hcode2
    obtain ⟨a3p, a3n, a3c, a3z, us, es, f3, rfl, rfl, rfl, o3, ow2, hcode2⟩ := ow.consInts hcode
    clear ow hcode; have ow := ow2; have hcode := hcode2; clear ow2 hcode2
    obtain ⟨rfl, rfl, rfl⟩ := ow.done hcode
    simp only [cnts, D0.cnt] at hct hcle
    have z3 : a3z.length = a3n := by have := o3.len; simpa using this
    have m3 : ∀ q, a3p.map (·.block) = some q → q ∈ ((a3p.map (·.block)).toList ++ ([] : List Nat)) := fun q hq => List.mem_append_left _ (mem_opt hq)
    have u3 : ∀ {W : World} {W2 : World} {zs : List Value}, Own W B T_int 1 a3p a3n a3c zs → Chg [b] W W2 → Own W2 B T_int 1 a3p a3n a3c zs := fun o ch => o.chg ch (fun q hq hm => hbf (List.mem_singleton.1 hm ▸ m3 q hq))
    have chT : Chg (b :: ((a3p.map (·.block)).toList ++ ([] : List Nat))) wr wr := Chg.refl _ _
    have sub1 : ∀ q ∈ [b], q ∈ b :: ((a3p.map (·.block)).toList ++ ([] : List Nat)) := fun q hq => by rw [List.mem_singleton.1 hq]; exact List.mem_cons_self
    refine Ret.at (laws_markText_c (by omega) _) ?_
    rintro v w1 ⟨hv, y⟩
    subst hv
    have blk := blk.ext y; have chT := chT.trans y.toChg
    have o3 := o3.ext y
    obtain ⟨w2, st, blk2, ch, sz⟩ := blk.storeMid (P := P) (t := T_string) (v := .string (mtext (k1))) hA 0 (by simp) (by kernel_rfl) rfl rfl
    have blk : Blk w2 b e (xs ++ [.string (mtext (k1)), .string a1, .bool a2, .slice a3p a3n a3c] ++ zs) := blk2; clear blk2
    have chT := chT.trans (ch.mono sub1)
    have o3 := u3 o3 ch
    refine ⟨_, rfl, ⟨by omega, by omega⟩, w2, (by simp only [addr_add, Int.toNat_natCast, Nat.zero_add, Nat.add_zero]; exact st), exW ⟨by omega, by omega⟩ ?_⟩
    refine Ret.at (laws_markText_c (by omega) _) ?_
    rintro v w3 ⟨hv, y⟩
    subst hv
    have blk := blk.ext y; have chT := chT.trans y.toChg
    have o3 := o3.ext y
    obtain ⟨w4, st, blk2, ch, sz⟩ := blk.storeMid (P := P) (t := T_string) (v := .string (mtext (k1 + 1))) hA 1 (by simp) (by kernel_rfl) rfl rfl
    have blk : Blk w4 b e (xs ++ [.string (mtext (k1)), .string (mtext (k1 + 1)), .bool a2, .slice a3p a3n a3c] ++ zs) := blk2; clear blk2
    have chT := chT.trans (ch.mono sub1)
    have o3 := u3 o3 ch
    refine ⟨_, rfl, ⟨by omega, by omega⟩, w4, (by simp only [addr_add, Int.toNat_natCast, Nat.zero_add, Nat.add_zero]; exact st), exW ⟨by omega, by omega⟩ ?_⟩
    refine ⟨by decide, _, rfl, ⟨by omega, by omega⟩, ?_⟩
    rw [Int.tmod_eq_emod_of_nonneg (show (0 : Int) ≤ k1 + 1 + 1 by omega)]
    obtain ⟨w5, st, blk2, ch, sz⟩ := blk.storeMid (P := P) (t := T_bool) (v := .bool (decide ((k1 + 1 + 1) % 3 = 0))) hA 2 (by simp) (by kernel_rfl) rfl rfl
    have blk : Blk w5 b e (xs ++ [.string (mtext (k1)), .string (mtext (k1 + 1)), .bool (decide ((k1 + 1 + 1) % 3 = 0)), .slice a3p a3n a3c] ++ zs) := blk2; clear blk2
    have chT := chT.trans (ch.mono sub1)
    have o3 := u3 o3 ch
    refine ⟨w5, (by simp only [addr_add, Int.toNat_natCast, Nat.zero_add, Nat.add_zero]; exact st), exW ⟨by omega, by omega⟩ ?_⟩
    refine ⟨⟨by omega, by omega⟩, _, _, _, (by simp only [addr_add, Int.toNat_natCast, Nat.zero_add, Nat.add_zero]; exact (blk.segMid hA).loadAt 3 rfl (by kernel_rfl) rfl), ?_⟩
    refine Ret.at (laws_markIntS_c o3 (by omega) (by omega)) ?_
    rintro v w6 ⟨hv, on, ch⟩
    subst hv
    have blk := blk.chg ch (fun hm => hbf (m3 _ (opt_mem hm)))
    have chT := chT.trans (ch.mono (fun q hq => List.mem_cons_of_mem _ (m3 q (opt_mem hq))))
    have o3 := on; clear on
    refine ⟨_, rfl, ?_⟩
    refine exW ⟨by omega, by omega⟩ ⟨⟨j + 1, by omega, by omega, by omega, ?_, hch.trans (chT.mono (fun q hq => ?_))⟩, ?_⟩
    · rw [← markL_set hxe, ← hk1]
      have e : marks [.str a0, .str a1, .bool a2, .ints a3z] k1 = [.str (mtext (k1)), .str (mtext (k1 + 1)), .bool (decide ((k1 + 1 + 1) % 3 = 0)), .ints (mkI a3n (k1 + 1 + 1 + 1))] := by simp only [marks, D0.mark, D0.cnt, z3] <;> rfl
      rw [e]
      exact back _ [.string (mtext (k1)), .string (mtext (k1 + 1)), .bool (decide ((k1 + 1 + 1) % 3 = 0)), .slice a3p a3n a3c] _ chT rfl blk (Owns.append (Owns.str _ _ _) (Owns.append (Owns.str _ _ _) (Owns.append (Owns.bool _ _ _) (Owns.append (Owns.ints o3) (Owns.nil _ _)))))
    · rcases List.mem_cons.1 hq with h | h
      · rw [h]; exact hbm
      · exact hfm q h
    · show n - ((j : Int) + 1).toNat < n - (j : Int).toNat
      omega
  · have hjn : j = n := by omega
    subst hjn
    rw [List.take_of_length_le (by omega), List.drop_of_length_le (by omega), List.append_nil] at ho
    rw [List.take_of_length_le (by omega)] at hk1
    exact ⟨by rw [hk1], ho, hch⟩

theorem laws_markLegS_c {w : World} {B : Nat} {e : TypeId} {p : Option Addr} {n c : Nat} {l : List (List D0)} {f : List Nat} {k : Int} (h : OwnRows w B e 4 p n c l f) (hc : ∀ x ∈ l, x.map D0.code = [.str, .str, .bool, .ints]) (h0 : 0 ≤ k) (h1 : k + cntL l ≤ 1000000000000000000) :
    Ret P n_laws_markLegS [.slice p n c, .int .i64 k] w fun v w' => v = .int .i64 (k + cntL l) ∧ OwnRows w' B e 4 p n c (markL l k) f ∧ Chg f w w' := by
  have hz := h.1; have hcap := h.rows.2.1; have hcm := h.rows.2.2.1
  refine laws_markLegS_ret ?_
  unfold laws_markLegS
  refine ⟨fun k1 i wr => ∃ j : Nat, i = j ∧ j ≤ n ∧ k1 = k + cntL (l.take j) ∧ OwnRows wr B e 4 p n c (markL (l.take j) k ++ l.drop j) f ∧ Chg f w wr, fun _ i _ => n - i.toNat, ⟨0, rfl, by omega, by simp [cntL], by simpa [markL] using h, Chg.refl _ _⟩, ?_⟩
  intro junk wr k1 i ⟨j, hij, hj, hk1, ho, hch⟩
  subst hij
  refine ifD (fun hlt => ?_) (fun hge => ?_)
  · have hjl : j < l.length := by omega
    obtain ⟨x, hxe⟩ : ∃ x, l[j]? = some x := ⟨_, List.getElem?_eq_getElem hjl⟩
    have hcode := hc x (List.mem_of_getElem? hxe)
    obtain ⟨hct, hcle⟩ := cntL_row hxe
    have hcn := cntL_nonneg (l.take j)
    obtain ⟨b, xs, cs, zs, fi, hp, hB, hA, hk, blk, ow, ndf, hbf, hbm, hfm, back⟩ := ho.focus (markL_at hxe)
    subst hp
    obtain ⟨a0, us, es, rfl, rfl, ow2, hcode2⟩ := ow.consStr hcode
    clear ow hcode; have ow := ow2; have hcode := hcode2; clear ow2 hcode2
    obtain ⟨a1, us, es, rfl, rfl, ow2, hcode2⟩ := ow.consStr hcode
    clear ow hcode; have ow := ow2; have hcode := hcode2; clear ow2 hcode2
    obtain ⟨a2, us, es, rfl, rfl, ow2, hcode2⟩ := ow.consBool hcode
    clear ow hcode; have ow := ow2; have hcode := hcode2; clear ow2 hcode2
    obtain ⟨a3p, a3n, a3c, a3z, us, es, f3, rfl, rfl, rfl, o3, ow2, hcode2⟩ := ow.consInts hcode
    clear ow hcode; have ow := ow2; have hcode := hcode2; clear ow2 hcode2
    obtain ⟨rfl, rfl, rfl⟩ := ow.done hcode
    simp only [cnts, D0.cnt] at hct hcle
    have z3 : a3z.length = a3n := by have := o3.len; simpa using this
    have m3 : ∀ q, a3p.map (·.block) = some q → q ∈ ((a3p.map (·.block)).toList ++ ([] : List Nat)) := fun q hq => List.mem_append_left _ (mem_opt hq)
    have u3 : ∀ {W : World} {W2 : World} {zs : List Value}, Own W B T_int 1 a3p a3n a3c zs → Chg [b] W W2 → Own W2 B T_int 1 a3p a3n a3c zs := fun o ch => o.chg ch (fun q hq hm => hbf (List.mem_singleton.1 hm ▸ m3 q hq))
    have chT : Chg (b :: ((a3p.map (·.block)).toList ++ ([] : List Nat))) wr wr := Chg.refl _ _
    have sub1 : ∀ q ∈ [b], q ∈ b :: ((a3p.map (·.block)).toList ++ ([] : List Nat)) := fun q hq => by rw [List.mem_singleton.1 hq]; exact List.mem_cons_self
    refine Ret.at (laws_markText_c (by omega) _) ?_
    rintro v w1 ⟨hv, y⟩
    subst hv
    have blk := blk.ext y; have chT := chT.trans y.toChg
    have o3 := o3.ext y
    obtain ⟨w2, st, blk2, ch, sz⟩ := blk.storeMid (P := P) (t := T_string) (v := .string (mtext (k1))) hA 0 (by simp) (by kernel_rfl) rfl rfl
    have blk : Blk w2 b e (xs ++ [.string (mtext (k1)), .string a1, .bool a2, .slice a3p a3n a3c] ++ zs) := blk2; clear blk2
    have chT := chT.trans (ch.mono sub1)
    have o3 := u3 o3 ch
    refine ⟨_, rfl, ⟨by omega, by omega⟩, w2, (by simp only [addr_add, Int.toNat_natCast, Nat.zero_add, Nat.add_zero]; exact st), exW ⟨by omega, by omega⟩ ?_⟩
    refine Ret.at (laws_markText_c (by omega) _) ?_
    rintro v w3 ⟨hv, y⟩
    subst hv
    have blk := blk.ext y; have chT := chT.trans y.toChg
    have o3 := o3.ext y
    obtain ⟨w4, st, blk2, ch, sz⟩ := blk.storeMid (P := P) (t := T_string) (v := .string (mtext (k1 + 1))) hA 1 (by simp) (by kernel_rfl) rfl rfl
    have blk : Blk w4 b e (xs ++ [.string (mtext (k1)), .string (mtext (k1 + 1)), .bool a2, .slice a3p a3n a3c] ++ zs) := blk2; clear blk2
    have chT := chT.trans (ch.mono sub1)
    have o3 := u3 o3 ch
    refine ⟨_, rfl, ⟨by omega, by omega⟩, w4, (by simp only [addr_add, Int.toNat_natCast, Nat.zero_add, Nat.add_zero]; exact st), exW ⟨by omega, by omega⟩ ?_⟩
    refine ⟨by decide, _, rfl, ⟨by omega, by omega⟩, ?_⟩
    rw [Int.tmod_eq_emod_of_nonneg (show (0 : Int) ≤ k1 + 1 + 1 by omega)]
    obtain ⟨w5, st, blk2, ch, sz⟩ := blk.storeMid (P := P) (t := T_bool) (v := .bool (decide ((k1 + 1 + 1) % 3 = 0))) hA 2 (by simp) (by kernel_rfl) rfl rfl
    have blk : Blk w5 b e (xs ++ [.string (mtext (k1)), .string (mtext (k1 + 1)), .bool (decide ((k1 + 1 + 1) % 3 = 0)), .slice a3p a3n a3c] ++ zs) := blk2; clear blk2
    have chT := chT.trans (ch.mono sub1)
    have o3 := u3 o3 ch
    refine ⟨w5, (by simp only [addr_add, Int.toNat_natCast, Nat.zero_add, Nat.add_zero]; exact st), exW ⟨by omega, by omega⟩ ?_⟩
    refine ⟨⟨by omega, by omega⟩, _, _, _, (by simp only [addr_add, Int.toNat_natCast, Nat.zero_add, Nat.add_zero]; exact (blk.segMid hA).loadAt 3 rfl (by kernel_rfl) rfl), ?_⟩
    refine Ret.at (laws_markIntS_c o3 (by omega) (by omega)) ?_
    rintro v w6 ⟨hv, on, ch⟩
    subst hv
    have blk := blk.chg ch (fun hm => hbf (m3 _ (opt_mem hm)))
    have chT := chT.trans (ch.mono (fun q hq => List.mem_cons_of_mem _ (m3 q (opt_mem hq))))
    have o3 := on; clear on
    refine ⟨_, rfl, ?_⟩
    refine exW ⟨by omega, by omega⟩ ⟨⟨j + 1, by omega, by omega, by omega, ?_, hch.trans (chT.mono (fun q hq => ?_))⟩, ?_⟩
    · rw [← markL_set hxe, ← hk1]
      have e : marks [.str a0, .str a1, .bool a2, .ints a3z] k1 = [.str (mtext (k1)), .str (mtext (k1 + 1)), .bool (decide ((k1 + 1 + 1) % 3 = 0)), .ints (mkI a3n (k1 + 1 + 1 + 1))] := by simp only [marks, D0.mark, D0.cnt, z3] <;> rfl
      rw [e]
      exact back _ [.string (mtext (k1)), .string (mtext (k1 + 1)), .bool (decide ((k1 + 1 + 1) % 3 = 0)), .slice a3p a3n a3c] _ chT rfl blk (Owns.append (Owns.str _ _ _) (Owns.append (Owns.str _ _ _) (Owns.append (Owns.bool _ _ _) (Owns.append (Owns.ints o3) (Owns.nil _ _)))))
    · rcases List.mem_cons.1 hq with h | h
      · rw [h]; exact hbm
      · exact hfm q h
    · show n - ((j : Int) + 1).toNat < n - (j : Int).toNat
      omega
  · have hjn : j = n := by omega
    subst hjn
    rw [List.take_of_length_le (by omega), List.drop_of_length_le (by omega), List.append_nil] at ho
    rw [List.take_of_length_le (by omega)] at hk1
    exact ⟨by rw [hk1], ho, hch⟩

theorem laws_heldLegS_c {w : World} {p : Option Addr} {n c : Nat} {l : List (List D0)} {k : Int} (h : RowsR w 4 p n c (markL l k)) (hc : ∀ x ∈ l, x.map D0.code = [.str, .str, .bool, .ints]) (h0 : 0 ≤ k) (h1 : k + cntL l ≤ 1000000000000000000) :
    Ret P n_laws_heldLegS [.slice p n c, .int .i64 k] w fun v w' => v = .int .i64 (k + cntL l) ∧ Ext w w' := by
  have hz : l.length = n := by have := h.1; rwa [markL_len] at this
  have hcap := h.2.1; have hcm := h.2.2.1
  refine laws_heldLegS_ret ?_
  unfold laws_heldLegS
  refine ⟨fun k1 i wr => ∃ j : Nat, i = j ∧ j ≤ n ∧ k1 = k + cntL (l.take j) ∧ Ext w wr, fun _ i _ => n - i.toNat, ⟨0, rfl, by omega, by simp [cntL], Ext.refl _⟩, ?_⟩
  intro junk wr k1 i ⟨j, hij, hj, hk1, hx⟩
  subst hij
  refine ifD (fun hlt => ?_) (fun hge => ?_)
  · have hjl : j < l.length := by omega
    obtain ⟨x, hxe⟩ : ∃ x, l[j]? = some x := ⟨_, List.getElem?_eq_getElem hjl⟩
    have hcode := hc x (List.mem_of_getElem? hxe)
    obtain ⟨hct, hcle⟩ := cntL_row hxe
    have hcn := cntL_nonneg (l.take j)
    obtain ⟨b, off, hp, hs⟩ := (h.ext hx).2.2.2 (by omega)
    subst hp
    obtain ⟨cs, hk, hr, hsg⟩ := hs j _ (markL_get l k j x hxe)
    rw [← hk1] at hr
    obtain ⟨s0, es, rfl, hcode2⟩ := code_str hcode
    clear hcode; have hcode := hcode2; clear hcode2
    obtain ⟨s1, es, rfl, hcode2⟩ := code_str hcode
    clear hcode; have hcode := hcode2; clear hcode2
    obtain ⟨s2, es, rfl, hcode2⟩ := code_bool hcode
    clear hcode; have hcode := hcode2; clear hcode2
    obtain ⟨z3, es, rfl, hcode2⟩ := code_ints hcode
    clear hcode; have hcode := hcode2; clear hcode2
    have hn := code_nil hcode; subst hn
    simp only [marks, D0.mark, D0.cnt] at hr
    simp only [cnts, D0.cnt] at hct hcle
    obtain ⟨a0, us, es, rfl, hd, hr2, hc2⟩ := hr.str rfl
    cases hd
    clear hr hc2; have hr := hr2; clear hr2
    obtain ⟨a1, us, es, rfl, hd, hr2, hc2⟩ := hr.str rfl
    cases hd
    clear hr hc2; have hr := hr2; clear hr2
    obtain ⟨a2, us, es, rfl, hd, hr2, hc2⟩ := hr.bool rfl
    cases hd
    clear hr hc2; have hr := hr2; clear hr2
    obtain ⟨a3p, a3n, a3c, a3z, us, es, rfl, hd, g3, hr2, hc2⟩ := hr.ints rfl
    cases hd
    clear hr hc2; have hr := hr2; clear hr2
    obtain ⟨hv, _⟩ := hr.done rfl
    subst hv
    have y3 : z3.length = a3n := by have := g3.1; rwa [mkI_len] at this
    rw [y3] at g3
    have X : Ext wr wr := Ext.refl _
    have D := Ext.drew wr; have X := X.trans D
    refine ⟨⟨by omega, by omega⟩, _, fun W' hW => (by simp only [addr_add, Int.toNat_natCast, Nat.zero_add, Nat.add_zero]; exact (hsg.ext (X.trans hW)).loadAt 0 rfl (by kernel_rfl) rfl), ?_⟩
    refine Ret.at (laws_markText_c (by omega) _) ?_
    rintro v w1 ⟨hv, y⟩
    subst hv
    have X := X.trans y
    refine ⟨_, rfl, y, ifD (fun hne => absurd rfl hne) (fun _ => exW ⟨by omega, by omega⟩ ?_)⟩
    have D := Ext.drew w1; have X := X.trans D
    refine ⟨⟨by omega, by omega⟩, _, fun W' hW => (by simp only [addr_add, Int.toNat_natCast, Nat.zero_add, Nat.add_zero]; exact (hsg.ext (X.trans hW)).loadAt 1 rfl (by kernel_rfl) rfl), ?_⟩
    refine Ret.at (laws_markText_c (by omega) _) ?_
    rintro v w2 ⟨hv, y⟩
    subst hv
    have X := X.trans y
    refine ⟨_, rfl, y, ifD (fun hne => absurd rfl hne) (fun _ => exW ⟨by omega, by omega⟩ ?_)⟩
    refine ⟨⟨by omega, by omega⟩, _, (by simp only [addr_add, Int.toNat_natCast, Nat.zero_add, Nat.add_zero]; exact (hsg.ext X).loadAt 2 rfl (by kernel_rfl) rfl), by decide, _, rfl, ?_⟩
    rw [Int.tmod_eq_emod_of_nonneg (show (0 : Int) ≤ k1 + 1 + 1 by omega)]
    refine ⟨fun h => absurd h (bne_no rfl), fun _ => exW ⟨by omega, by omega⟩ ?_⟩
    refine ⟨⟨by omega, by omega⟩, _, _, _, (by simp only [addr_add, Int.toNat_natCast, Nat.zero_add, Nat.add_zero]; exact (hsg.ext X).loadAt 3 rfl (by kernel_rfl) rfl), ?_⟩
    refine Ret.at (laws_heldIntS_c (n := a3n) (k := k1 + 1 + 1 + 1) (by have := g3.ext X;  exact this) (by omega) (by omega)) ?_
    rintro v w3 ⟨hv, y⟩
    subst hv
    have X := X.trans y
    refine ⟨_, rfl, ifD (fun h => absurd h (by omega)) (fun _ => ?_)⟩
    refine exW ⟨by omega, by omega⟩ ⟨⟨j + 1, by omega, by omega, by omega, hx.trans X⟩, ?_⟩
    show n - ((j : Int) + 1).toNat < n - (j : Int).toNat
    omega
  · have hjn : j = n := by omega
    subst hjn
    rw [List.take_of_length_le (by omega)] at hk1
    exact ⟨by rw [hk1], hx⟩

end Go.Proofs.YtfbmjimhjlmhkaaDoor
