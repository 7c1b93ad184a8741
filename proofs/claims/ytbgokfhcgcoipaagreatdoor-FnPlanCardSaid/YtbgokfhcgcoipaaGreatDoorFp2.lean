/-
  Parts of the proof of fnPlan_holds: G2, G5, G6, G7, G8, G9, G10.
  Conditions: none.
-/
import Derived.Test.YtbgokfhcgcoipaaGreatDoorFp1
set_option linter.unusedVariables false

namespace Go.Proofs.YtbgokfhcgcoipaaGreatDoor
variable {w : World} {R : Value -> World -> Prop}
open Go Go.Proofs.YtbgokfhcgcoipaaGreatDoor.Sx
set_option maxRecDepth 100000
def laws_FnPlan (a0 : Option Addr) (a1 a2 : Nat) (w : World) (R : Value -> World -> Prop) : Prop :=
 ((decide ((1048576 : Int) < ((a1 : Nat) : Int))) = true ->
 R (.bool true) w) /\
 ((decide ((1048576 : Int) < ((a1 : Nat) : Int))) = false ->
 Calls P 14 ⟨[.slice a0 a1 a2, (.string (S [69, 85, 82]))]⟩ w fun e wv =>
 ∃ a3 a4 a5 a6 a7, e = .returned (.agg #[.string a3, .bool a4, .slice a5 a6 a7]) /\
 ∀ r a8, New wv (.cells ⟨[.string ByteArray.empty, .bool false, .slice none 0 0]⟩ 33 (0, 0)) r a8 ->
 ∃ wv_2, Stores P 33 ⟨r, 0, none⟩ (.agg #[.string a3, .bool a4, .slice a5 a6 a7]) a8 wv_2 /\
 Calls P 15 ⟨[.slice a0 a1 a2]⟩ wv_2 fun a9 aa =>
 ∃ ab ac ae af ag, a9 = .returned (.agg #[.bool ab, .slice ac ae af, .int .i64 ag]) /\
 ∀ ah ai, New aa (.cells ⟨[.bool false, .slice none 0 0, .int .i64 0]⟩ 36 (0, 0)) ah ai ->
 ∃ wv_5, Stores P 36 ⟨ah, 0, none⟩ (.agg #[.bool ab, .slice ac ae af, .int .i64 ag]) ai wv_5 /\
 Calls P 17 ⟨[.slice a0 a1 a2, .int .i64 5000]⟩ wv_5 fun aj ak =>
 ∃ al, aj = .returned (.int .i64 al) /\
 Calls P 16 ⟨[(.string (S [69, 85, 82])), .int .i64 al]⟩ ak fun am an =>
 ∃ ao ap aq ar au av, am = .returned (.tuple #[.agg #[.string ao, .bool ap, .slice aq ar au], .bool av]) /\
 ∀ aw ax, New an (.cells ⟨[.string ByteArray.empty, .bool false, .slice none 0 0]⟩ 33 (0, 0)) aw ax ->
 ∃ wv_9, Stores P 33 ⟨aw, 0, none⟩ (.agg #[.string ao, .bool ap, .slice aq ar au]) ax wv_9 /\
 Calls P 18 ⟨[.slice a0 a1 a2]⟩ wv_9 fun ay az =>
 ∃ b0, ay = .returned (.int .i64 b0) /\
 Calls P 17 ⟨[.slice a0 a1 a2, .int .i64 24]⟩ az fun b1 b2 =>
 ∃ b3, b1 = .returned (.int .i64 b3) /\
 ∃ b4 : Int, b4 = IntKind.wrap .i64 (1 + b3) /\ ∃ b5 b6 b7 b8 b9, Loads P 33 ⟨r, 0, none⟩ (.agg #[.string b5, .bool b6, .slice b7 b8 b9]) b2 /\ ∃ ba bb bc bd be, Loads P 36 ⟨ah, 0, none⟩ (.agg #[.bool ba, .slice bb bc bd, .int .i64 be]) b2 /\ ∃ bf bg bh bi bj, Loads P 33 ⟨aw, 0, none⟩ (.agg #[.string bf, .bool bg, .slice bh bi bj]) b2 /\ Calls P 19 ⟨[.agg #[.string b5, .bool b6, .slice b7 b8 b9], .agg #[.bool ba, .slice bb bc bd, .int .i64 be], .agg #[.string bf, .bool bg, .slice bh bi bj], .int .i64 b4, .int .i64 b0]⟩ b2 fun bk bl =>
 ∃ bm bn bo bp, bk = .returned (.tuple #[.slice bm bn bo, .bool bp]) /\
 Calls P 20 ⟨[(.string (S [69, 85, 82])), .slice bm bn bo]⟩ bl fun bq br =>
 ∃ bs bt bu bv bw bx bz c0 c1 c2 c3, bq = .returned (.tuple #[.agg #[.string bs, .bool bt, .slice bu bv bw], .agg #[.string bx, .bool bz, .slice c0 c1 c2], .bool c3]) /\
 ∀ c4 c5, New br (.cells ⟨[.string ByteArray.empty, .bool false, .slice none 0 0]⟩ 33 (0, 0)) c4 c5 ->
 ∀ c6 c7, New c5 (.cells ⟨[.string ByteArray.empty, .bool false, .slice none 0 0]⟩ 33 (0, 0)) c6 c7 ->
 ∃ wv_16, Stores P 33 ⟨c4, 0, none⟩ (.agg #[.string bs, .bool bt, .slice bu bv bw]) c7 wv_16 /\
 ∃ wv_17, Stores P 33 ⟨c6, 0, none⟩ (.agg #[.string bx, .bool bz, .slice c0 c1 c2]) wv_16 wv_17 /\
 ∃ c8 c9 ca cb cc, Loads P 33 ⟨r, 0, none⟩ (.agg #[.string c8, .bool c9, .slice ca cb cc]) wv_17 /\ ∀ cd ce, New wv_17 (.cells ⟨[.string ByteArray.empty, .bool false, .slice none 0 0]⟩ 33 (0, 0)) cd ce ->
 ∃ wv_19, Stores P 33 ⟨cd, 0, none⟩ (.agg #[.string c8, .bool c9, .slice ca cb cc]) ce wv_19 /\
 ∃ (cf : Int -> World -> Prop) (mu : Int -> World -> Nat), cf 0 wv_19 /\
 ∀ (cg : Fr) (ch : World) (ci : Int), cf ci ch ->
 ((decide ((ci : Int) < ((bn : Nat) : Int))) = true ->
 (0 <= (ci : Int) /\ (ci : Int) < (bn : Nat)) /\ ptrS bm fun ad => ∃ cj ck cl cm cn co cp cq cr cs ct cu cv cw cx, Loads P 48 (ad.add (ci.toNat * 9)) (.agg #[.string cj, .bool ck, .slice cl cm cn, .string co, .bool cp, .slice cq cr cs, .string ct, .bool cu, .slice cv cw cx]) ch /\ ∀ cy cz, New ch (.cells ⟨[.string ByteArray.empty, .bool false, .slice none 0 0, .string ByteArray.empty, .bool false, .slice none 0 0, .string ByteArray.empty, .bool false, .slice none 0 0]⟩ 48 (0, 0)) cy cz ->
 ∃ wv_22, Stores P 48 ⟨cy, 0, none⟩ (.agg #[.string cj, .bool ck, .slice cl cm cn, .string co, .bool cp, .slice cq cr cs, .string ct, .bool cu, .slice cv cw cx]) cz wv_22 /\
 ∃ d0 d1 d2 d3 d4, Loads P 33 ⟨cd, 0, none⟩ (.agg #[.string d0, .bool d1, .slice d2 d3 d4]) wv_22 /\ ∃ d5 d6 d7 d8 d9, Loads P 36 ⟨ah, 0, none⟩ (.agg #[.bool d5, .slice d6 d7 d8, .int .i64 d9]) wv_22 /\ ∃ da db dc dd de, Loads P 33 ⟨aw, 0, none⟩ (.agg #[.string da, .bool db, .slice dc dd de]) wv_22 /\ Calls P 21 ⟨[.agg #[.string d0, .bool d1, .slice d2 d3 d4], .agg #[.bool d5, .slice d6 d7 d8, .int .i64 d9], .agg #[.string da, .bool db, .slice dc dd de], .int .i64 b0]⟩ wv_22 fun df dg =>
 ∃ dh di dj dk dl dm dn dp dq dr ds dt du dv dw dx, df = .returned (.tuple #[.agg #[.string dh, .bool di, .slice dj dk dl, .string dm, .bool dn, .slice dp dq dr, .string ds, .bool dt, .slice du dv dw], .bool dx]) /\
 ∀ dy dz, New dg (.cells ⟨[.string ByteArray.empty, .bool false, .slice none 0 0, .string ByteArray.empty, .bool false, .slice none 0 0, .string ByteArray.empty, .bool false, .slice none 0 0]⟩ 48 (0, 0)) dy dz ->
 ∃ wv_25, Stores P 48 ⟨dy, 0, none⟩ (.agg #[.string dh, .bool di, .slice dj dk dl, .string dm, .bool dn, .slice dp dq dr, .string ds, .bool dt, .slice du dv dw]) dz wv_25 /\
 ((!dx) = true ->
 (true = true ->
 (true = true ->
 R (.bool false) wv_25.drew) /\
 (true = false ->
 ∃ e0 e1 e2 e3 e4, Loads P 33 ((⟨cy, 0, none⟩ : Addr).add 6) (.agg #[.string e0, .bool e1, .slice e2 e3 e4]) wv_25.drew /\ ∃ wv_26, Stores P 33 ⟨cd, 0, none⟩ (.agg #[.string e0, .bool e1, .slice e2 e3 e4]) wv_25.drew wv_26 /\
 ∃ e5 : Int, e5 = IntKind.wrap .i64 (ci + 1) /\ cf e5 wv_26 /\ mu e5 wv_26 < mu ci ch)) /\
 (true = false ->
 ∃ e6, (∀ wv_27, Ext wv_25.drew wv_27 -> Loads P 4 ((((⟨cy, 0, none⟩ : Addr).add 6).add 1).add 0) (.bool e6) wv_27) /\ (e6 = true ->
 R (.bool false) wv_25.drew) /\
 (e6 = false ->
 ∃ e7 e8 e9 ea eb, Loads P 33 ((⟨cy, 0, none⟩ : Addr).add 6) (.agg #[.string e7, .bool e8, .slice e9 ea eb]) wv_25.drew /\ ∃ wv_28, Stores P 33 ⟨cd, 0, none⟩ (.agg #[.string e7, .bool e8, .slice e9 ea eb]) wv_25.drew wv_28 /\
 ∃ ec : Int, ec = IntKind.wrap .i64 (ci + 1) /\ cf ec wv_28 /\ mu ec wv_28 < mu ci ch))) /\
 ((!dx) = false ->
 ∃ ed ee ef eg eh ei ej ek el em en eo ep eq er, (∀ wv_29, Ext wv_25.drew wv_29 -> Loads P 48 ⟨cy, 0, none⟩ (.agg #[.string ed, .bool ee, .slice ef eg eh, .string ei, .bool ej, .slice ek el em, .string en, .bool eo, .slice ep eq er]) wv_29) /\ Calls P 22 ⟨[.agg #[.string ed, .bool ee, .slice ef eg eh, .string ei, .bool ej, .slice ek el em, .string en, .bool eo, .slice ep eq er]]⟩ wv_25.drew fun es et =>
 ∃ eu, es = .returned (.string eu) /\
 Ext wv_25.drew et /\ ∃ ev ew ex ey ez f0 f1 f2 f3 f4 f5 f6 f7 f8 f9, (∀ wv_31, Ext wv_25.drew wv_31 -> Loads P 48 ⟨dy, 0, none⟩ (.agg #[.string ev, .bool ew, .slice ex ey ez, .string f0, .bool f1, .slice f2 f3 f4, .string f5, .bool f6, .slice f7 f8 f9]) wv_31) /\ Calls P 22 ⟨[.agg #[.string ev, .bool ew, .slice ex ey ez, .string f0, .bool f1, .slice f2 f3 f4, .string f5, .bool f6, .slice f7 f8 f9]]⟩ et fun fa fb =>
 ∃ fc, fa = .returned (.string fc) /\
 ((decide (eu ≠ fc)) = true ->
 (true = true ->
 R (.bool false) fb) /\
 (true = false ->
 ∃ fd fe ff fg fh, Loads P 33 ((⟨cy, 0, none⟩ : Addr).add 6) (.agg #[.string fd, .bool fe, .slice ff fg fh]) fb /\ ∃ wv_33, Stores P 33 ⟨cd, 0, none⟩ (.agg #[.string fd, .bool fe, .slice ff fg fh]) fb wv_33 /\
 ∃ fi : Int, fi = IntKind.wrap .i64 (ci + 1) /\ cf fi wv_33 /\ mu fi wv_33 < mu ci ch)) /\
 ((decide (eu ≠ fc)) = false ->
 ∃ fj, (∀ wv_34, Ext fb wv_34 -> Loads P 4 ((((⟨cy, 0, none⟩ : Addr).add 6).add 1).add 0) (.bool fj) wv_34) /\ (fj = true ->
 R (.bool false) fb) /\
 (fj = false ->
 ∃ fk fl fm fn fo, Loads P 33 ((⟨cy, 0, none⟩ : Addr).add 6) (.agg #[.string fk, .bool fl, .slice fm fn fo]) fb /\ ∃ wv_35, Stores P 33 ⟨cd, 0, none⟩ (.agg #[.string fk, .bool fl, .slice fm fn fo]) fb wv_35 /\
 ∃ fp : Int, fp = IntKind.wrap .i64 (ci + 1) /\ cf fp wv_35 /\ mu fp wv_35 < mu ci ch)))) /\
 ((decide ((ci : Int) < ((bn : Nat) : Int))) = false ->
 ∃ fq fr fs ft fu, Loads P 33 ⟨r, 0, none⟩ (.agg #[.string fq, .bool fr, .slice fs ft fu]) ch /\ ∃ fv fw fx fy fz, Loads P 33 ⟨c4, 0, none⟩ (.agg #[.string fv, .bool fw, .slice fx fy fz]) ch /\ Calls P 23 ⟨[.agg #[.string fq, .bool fr, .slice fs ft fu], .agg #[.string fv, .bool fw, .slice fx fy fz]]⟩ ch fun g0 g1 =>
 ∃ g2 g3 g4 g5 g6 g7, g0 = .returned (.tuple #[.agg #[.string g2, .bool g3, .slice g4 g5 g6], .bool g7]) /\
 ∀ g8 g9, New g1 (.cells ⟨[.string ByteArray.empty, .bool false, .slice none 0 0]⟩ 33 (0, 0)) g8 g9 ->
 ∃ wv_38, Stores P 33 ⟨g8, 0, none⟩ (.agg #[.string g2, .bool g3, .slice g4 g5 g6]) g9 wv_38 /\
 ∃ ga gb gc gd ge, Loads P 33 ⟨c6, 0, none⟩ (.agg #[.string ga, .bool gb, .slice gc gd ge]) wv_38 /\ ∃ gf gg gh gi gj, Loads P 33 ⟨cd, 0, none⟩ (.agg #[.string gf, .bool gg, .slice gh gi gj]) wv_38 /\ Calls P 23 ⟨[.agg #[.string ga, .bool gb, .slice gc gd ge], .agg #[.string gf, .bool gg, .slice gh gi gj]]⟩ wv_38 fun gk gl =>
 ∃ gm gn go gp gq gr, gk = .returned (.tuple #[.agg #[.string gm, .bool gn, .slice go gp gq], .bool gr]) /\
 ∀ gs gt, New gl (.cells ⟨[.string ByteArray.empty, .bool false, .slice none 0 0]⟩ 33 (0, 0)) gs gt ->
 ∃ wv_41, Stores P 33 ⟨gs, 0, none⟩ (.agg #[.string gm, .bool gn, .slice go gp gq]) gt wv_41 /\
 (bp = true ->
 (c3 = true ->
 (g7 = true ->
 (gr = true ->
 ∃ gu gv gw gx gy, Loads P 33 ⟨g8, 0, none⟩ (.agg #[.string gu, .bool gv, .slice gw gx gy]) wv_41 /\ ∃ gz h0 h1 h2 h3, Loads P 33 ⟨gs, 0, none⟩ (.agg #[.string gz, .bool h0, .slice h1 h2 h3]) wv_41 /\ Calls P 24 ⟨[.agg #[.string gu, .bool gv, .slice gw gx gy], .agg #[.string gz, .bool h0, .slice h1 h2 h3]]⟩ wv_41 fun h4 h5 =>
 ∃ h6, h4 = .returned (.bool h6) /\
 (h6 = true ->
 ((decide ((((bn : Nat) : Int) : Int) <= b4)) = true ->
 ((decide ((((bn : Nat) : Int) : Int) = b4)) = true ->
 (true = true ->
 Calls P 26 ⟨[.slice bm bn bo]⟩ h5 fun h7 h8 =>
 ∃ h9, h7 = .returned (.bool h9) /\
 ((decide ((0 : Int) < ((bn : Nat) : Int))) = true ->
 ∃ ha hb hc hd, Loads P 31 ((⟨cd, 0, none⟩ : Addr).add 1) (.agg #[.bool ha, .slice hb hc hd]) h8 /\ Calls P 25 ⟨[.agg #[.bool ha, .slice hb hc hd]]⟩ h8 fun he hf =>
 ∃ hg, he = .returned (.int .i64 hg) /\
 R (.bool (h9 == (decide ((hg : Int) = 0)))) hf) /\
 ((decide ((0 : Int) < ((bn : Nat) : Int))) = false ->
 R (.bool (h9 == false)) h8)) /\
 (true = false ->
 R (.bool false) h5)) /\
 ((decide ((((bn : Nat) : Int) : Int) = b4)) = false ->
 ∃ hh hi hj hk, Loads P 31 ((⟨cd, 0, none⟩ : Addr).add 1) (.agg #[.bool hh, .slice hi hj hk]) h5 /\ Calls P 25 ⟨[.agg #[.bool hh, .slice hi hj hk]]⟩ h5 fun hl hm =>
 ∃ hn, hl = .returned (.int .i64 hn) /\
 ((decide ((hn : Int) = 0)) = true ->
 Calls P 26 ⟨[.slice bm bn bo]⟩ hm fun ho hp =>
 ∃ hq, ho = .returned (.bool hq) /\
 ((decide ((0 : Int) < ((bn : Nat) : Int))) = true ->
 ∃ hr hs ht hu, Loads P 31 ((⟨cd, 0, none⟩ : Addr).add 1) (.agg #[.bool hr, .slice hs ht hu]) hp /\ Calls P 25 ⟨[.agg #[.bool hr, .slice hs ht hu]]⟩ hp fun hv hw =>
 ∃ hx, hv = .returned (.int .i64 hx) /\
 R (.bool (hq == (decide ((hx : Int) = 0)))) hw) /\
 ((decide ((0 : Int) < ((bn : Nat) : Int))) = false ->
 R (.bool (hq == false)) hp)) /\
 ((decide ((hn : Int) = 0)) = false ->
 R (.bool false) hm))) /\
 ((decide ((((bn : Nat) : Int) : Int) <= b4)) = false ->
 (false = true ->
 Calls P 26 ⟨[.slice bm bn bo]⟩ h5 fun hy hz =>
 ∃ i0, hy = .returned (.bool i0) /\
 ((decide ((0 : Int) < ((bn : Nat) : Int))) = true ->
 ∃ i1 i2 i3 i4, Loads P 31 ((⟨cd, 0, none⟩ : Addr).add 1) (.agg #[.bool i1, .slice i2 i3 i4]) hz /\ Calls P 25 ⟨[.agg #[.bool i1, .slice i2 i3 i4]]⟩ hz fun i5 i6 =>
 ∃ i7, i5 = .returned (.int .i64 i7) /\
 R (.bool (i0 == (decide ((i7 : Int) = 0)))) i6) /\
 ((decide ((0 : Int) < ((bn : Nat) : Int))) = false ->
 R (.bool (i0 == false)) hz)) /\
 (false = false ->
 R (.bool false) h5))) /\
 (h6 = false ->
 (false = true ->
 ((decide ((((bn : Nat) : Int) : Int) = b4)) = true ->
 (true = true ->
 Calls P 26 ⟨[.slice bm bn bo]⟩ h5 fun i8 i9 =>
 ∃ ia, i8 = .returned (.bool ia) /\
 ((decide ((0 : Int) < ((bn : Nat) : Int))) = true ->
 ∃ ib ic id ie, Loads P 31 ((⟨cd, 0, none⟩ : Addr).add 1) (.agg #[.bool ib, .slice ic id ie]) i9 /\ Calls P 25 ⟨[.agg #[.bool ib, .slice ic id ie]]⟩ i9 fun ig ih =>
 ∃ ii, ig = .returned (.int .i64 ii) /\
 R (.bool (ia == (decide ((ii : Int) = 0)))) ih) /\
 ((decide ((0 : Int) < ((bn : Nat) : Int))) = false ->
 R (.bool (ia == false)) i9)) /\
 (true = false ->
 R (.bool false) h5)) /\
 ((decide ((((bn : Nat) : Int) : Int) = b4)) = false ->
 ∃ ij ik il im, Loads P 31 ((⟨cd, 0, none⟩ : Addr).add 1) (.agg #[.bool ij, .slice ik il im]) h5 /\ Calls P 25 ⟨[.agg #[.bool ij, .slice ik il im]]⟩ h5 fun io ip =>
 ∃ iq, io = .returned (.int .i64 iq) /\
 ((decide ((iq : Int) = 0)) = true ->
 Calls P 26 ⟨[.slice bm bn bo]⟩ ip fun ir it =>
 ∃ iu, ir = .returned (.bool iu) /\
 ((decide ((0 : Int) < ((bn : Nat) : Int))) = true ->
 ∃ iv iw ix iy, Loads P 31 ((⟨cd, 0, none⟩ : Addr).add 1) (.agg #[.bool iv, .slice iw ix iy]) it /\ Calls P 25 ⟨[.agg #[.bool iv, .slice iw ix iy]]⟩ it fun iz j0 =>
 ∃ j1, iz = .returned (.int .i64 j1) /\
 R (.bool (iu == (decide ((j1 : Int) = 0)))) j0) /\
 ((decide ((0 : Int) < ((bn : Nat) : Int))) = false ->
 R (.bool (iu == false)) it)) /\
 ((decide ((iq : Int) = 0)) = false ->
 R (.bool false) ip))) /\
 (false = false ->
 (false = true ->
 Calls P 26 ⟨[.slice bm bn bo]⟩ h5 fun j2 j3 =>
 ∃ j4, j2 = .returned (.bool j4) /\
 ((decide ((0 : Int) < ((bn : Nat) : Int))) = true ->
 ∃ j5 j6 j7 j8, Loads P 31 ((⟨cd, 0, none⟩ : Addr).add 1) (.agg #[.bool j5, .slice j6 j7 j8]) j3 /\ Calls P 25 ⟨[.agg #[.bool j5, .slice j6 j7 j8]]⟩ j3 fun j9 ja =>
 ∃ jb, j9 = .returned (.int .i64 jb) /\
 R (.bool (j4 == (decide ((jb : Int) = 0)))) ja) /\
 ((decide ((0 : Int) < ((bn : Nat) : Int))) = false ->
 R (.bool (j4 == false)) j3)) /\
 (false = false ->
 R (.bool false) h5)))) /\
 (gr = false ->
 (false = true ->
 ((decide ((((bn : Nat) : Int) : Int) <= b4)) = true ->
 ((decide ((((bn : Nat) : Int) : Int) = b4)) = true ->
 (true = true ->
 Calls P 26 ⟨[.slice bm bn bo]⟩ wv_41 fun jc jd =>
 ∃ je, jc = .returned (.bool je) /\
 ((decide ((0 : Int) < ((bn : Nat) : Int))) = true ->
 ∃ jf jg jh ji, Loads P 31 ((⟨cd, 0, none⟩ : Addr).add 1) (.agg #[.bool jf, .slice jg jh ji]) jd /\ Calls P 25 ⟨[.agg #[.bool jf, .slice jg jh ji]]⟩ jd fun jj jk =>
 ∃ jl, jj = .returned (.int .i64 jl) /\
 R (.bool (je == (decide ((jl : Int) = 0)))) jk) /\
 ((decide ((0 : Int) < ((bn : Nat) : Int))) = false ->
 R (.bool (je == false)) jd)) /\
 (true = false ->
 R (.bool false) wv_41)) /\
 ((decide ((((bn : Nat) : Int) : Int) = b4)) = false ->
 ∃ jm jn jo jp, Loads P 31 ((⟨cd, 0, none⟩ : Addr).add 1) (.agg #[.bool jm, .slice jn jo jp]) wv_41 /\ Calls P 25 ⟨[.agg #[.bool jm, .slice jn jo jp]]⟩ wv_41 fun jq jr =>
 ∃ js, jq = .returned (.int .i64 js) /\
 ((decide ((js : Int) = 0)) = true ->
 Calls P 26 ⟨[.slice bm bn bo]⟩ jr fun jt ju =>
 ∃ jv, jt = .returned (.bool jv) /\
 ((decide ((0 : Int) < ((bn : Nat) : Int))) = true ->
 ∃ jw jx jy jz, Loads P 31 ((⟨cd, 0, none⟩ : Addr).add 1) (.agg #[.bool jw, .slice jx jy jz]) ju /\ Calls P 25 ⟨[.agg #[.bool jw, .slice jx jy jz]]⟩ ju fun k0 k1 =>
 ∃ k2, k0 = .returned (.int .i64 k2) /\
 R (.bool (jv == (decide ((k2 : Int) = 0)))) k1) /\
 ((decide ((0 : Int) < ((bn : Nat) : Int))) = false ->
 R (.bool (jv == false)) ju)) /\
 ((decide ((js : Int) = 0)) = false ->
 R (.bool false) jr))) /\
 ((decide ((((bn : Nat) : Int) : Int) <= b4)) = false ->
 (false = true ->
 Calls P 26 ⟨[.slice bm bn bo]⟩ wv_41 fun k3 k4 =>
 ∃ k5, k3 = .returned (.bool k5) /\
 ((decide ((0 : Int) < ((bn : Nat) : Int))) = true ->
 ∃ k6 k7 k8 k9, Loads P 31 ((⟨cd, 0, none⟩ : Addr).add 1) (.agg #[.bool k6, .slice k7 k8 k9]) k4 /\ Calls P 25 ⟨[.agg #[.bool k6, .slice k7 k8 k9]]⟩ k4 fun ka kb =>
 ∃ kc, ka = .returned (.int .i64 kc) /\
 R (.bool (k5 == (decide ((kc : Int) = 0)))) kb) /\
 ((decide ((0 : Int) < ((bn : Nat) : Int))) = false ->
 R (.bool (k5 == false)) k4)) /\
 (false = false ->
 R (.bool false) wv_41))) /\
 (false = false ->
 (false = true ->
 ((decide ((((bn : Nat) : Int) : Int) = b4)) = true ->
 (true = true ->
 Calls P 26 ⟨[.slice bm bn bo]⟩ wv_41 fun kd ke =>
 ∃ kf, kd = .returned (.bool kf) /\
 ((decide ((0 : Int) < ((bn : Nat) : Int))) = true ->
 ∃ kg kh ki kj, Loads P 31 ((⟨cd, 0, none⟩ : Addr).add 1) (.agg #[.bool kg, .slice kh ki kj]) ke /\ Calls P 25 ⟨[.agg #[.bool kg, .slice kh ki kj]]⟩ ke fun kk kl =>
 ∃ km, kk = .returned (.int .i64 km) /\
 R (.bool (kf == (decide ((km : Int) = 0)))) kl) /\
 ((decide ((0 : Int) < ((bn : Nat) : Int))) = false ->
 R (.bool (kf == false)) ke)) /\
 (true = false ->
 R (.bool false) wv_41)) /\
 ((decide ((((bn : Nat) : Int) : Int) = b4)) = false ->
 ∃ kn ko kp kq, Loads P 31 ((⟨cd, 0, none⟩ : Addr).add 1) (.agg #[.bool kn, .slice ko kp kq]) wv_41 /\ Calls P 25 ⟨[.agg #[.bool kn, .slice ko kp kq]]⟩ wv_41 fun kr ks =>
 ∃ kt, kr = .returned (.int .i64 kt) /\
 ((decide ((kt : Int) = 0)) = true ->
 Calls P 26 ⟨[.slice bm bn bo]⟩ ks fun ku kv =>
 ∃ kw, ku = .returned (.bool kw) /\
 ((decide ((0 : Int) < ((bn : Nat) : Int))) = true ->
 ∃ kx ky kz l0, Loads P 31 ((⟨cd, 0, none⟩ : Addr).add 1) (.agg #[.bool kx, .slice ky kz l0]) kv /\ Calls P 25 ⟨[.agg #[.bool kx, .slice ky kz l0]]⟩ kv fun l1 l2 =>
 ∃ l3, l1 = .returned (.int .i64 l3) /\
 R (.bool (kw == (decide ((l3 : Int) = 0)))) l2) /\
 ((decide ((0 : Int) < ((bn : Nat) : Int))) = false ->
 R (.bool (kw == false)) kv)) /\
 ((decide ((kt : Int) = 0)) = false ->
 R (.bool false) ks))) /\
 (false = false ->
 (false = true ->
 Calls P 26 ⟨[.slice bm bn bo]⟩ wv_41 fun l4 l5 =>
 ∃ l6, l4 = .returned (.bool l6) /\
 ((decide ((0 : Int) < ((bn : Nat) : Int))) = true ->
 ∃ l7 l8 l9 la, Loads P 31 ((⟨cd, 0, none⟩ : Addr).add 1) (.agg #[.bool l7, .slice l8 l9 la]) l5 /\ Calls P 25 ⟨[.agg #[.bool l7, .slice l8 l9 la]]⟩ l5 fun lb lc =>
 ∃ ld, lb = .returned (.int .i64 ld) /\
 R (.bool (l6 == (decide ((ld : Int) = 0)))) lc) /\
 ((decide ((0 : Int) < ((bn : Nat) : Int))) = false ->
 R (.bool (l6 == false)) l5)) /\
 (false = false ->
 R (.bool false) wv_41))))) /\
 (g7 = false ->
 (false = true ->
 ∃ le lf lg lh li, Loads P 33 ⟨g8, 0, none⟩ (.agg #[.string le, .bool lf, .slice lg lh li]) wv_41 /\ ∃ lj lk ll lm ln, Loads P 33 ⟨gs, 0, none⟩ (.agg #[.string lj, .bool lk, .slice ll lm ln]) wv_41 /\ Calls P 24 ⟨[.agg #[.string le, .bool lf, .slice lg lh li], .agg #[.string lj, .bool lk, .slice ll lm ln]]⟩ wv_41 fun lo lp =>
 ∃ lq, lo = .returned (.bool lq) /\
 (lq = true ->
 ((decide ((((bn : Nat) : Int) : Int) <= b4)) = true ->
 ((decide ((((bn : Nat) : Int) : Int) = b4)) = true ->
 (true = true ->
 Calls P 26 ⟨[.slice bm bn bo]⟩ lp fun lr ls =>
 ∃ lt, lr = .returned (.bool lt) /\
 ((decide ((0 : Int) < ((bn : Nat) : Int))) = true ->
 ∃ lu lv lw lx, Loads P 31 ((⟨cd, 0, none⟩ : Addr).add 1) (.agg #[.bool lu, .slice lv lw lx]) ls /\ Calls P 25 ⟨[.agg #[.bool lu, .slice lv lw lx]]⟩ ls fun ly lz =>
 ∃ m0, ly = .returned (.int .i64 m0) /\
 R (.bool (lt == (decide ((m0 : Int) = 0)))) lz) /\
 ((decide ((0 : Int) < ((bn : Nat) : Int))) = false ->
 R (.bool (lt == false)) ls)) /\
 (true = false ->
 R (.bool false) lp)) /\
 ((decide ((((bn : Nat) : Int) : Int) = b4)) = false ->
 ∃ m1 m2 m3 m4, Loads P 31 ((⟨cd, 0, none⟩ : Addr).add 1) (.agg #[.bool m1, .slice m2 m3 m4]) lp /\ Calls P 25 ⟨[.agg #[.bool m1, .slice m2 m3 m4]]⟩ lp fun m5 m6 =>
 ∃ m7, m5 = .returned (.int .i64 m7) /\
 ((decide ((m7 : Int) = 0)) = true ->
 Calls P 26 ⟨[.slice bm bn bo]⟩ m6 fun m8 m9 =>
 ∃ ma, m8 = .returned (.bool ma) /\
 ((decide ((0 : Int) < ((bn : Nat) : Int))) = true ->
 ∃ mb mc md me, Loads P 31 ((⟨cd, 0, none⟩ : Addr).add 1) (.agg #[.bool mb, .slice mc md me]) m9 /\ Calls P 25 ⟨[.agg #[.bool mb, .slice mc md me]]⟩ m9 fun mf mg =>
 ∃ mh, mf = .returned (.int .i64 mh) /\
 R (.bool (ma == (decide ((mh : Int) = 0)))) mg) /\
 ((decide ((0 : Int) < ((bn : Nat) : Int))) = false ->
 R (.bool (ma == false)) m9)) /\
 ((decide ((m7 : Int) = 0)) = false ->
 R (.bool false) m6))) /\
 ((decide ((((bn : Nat) : Int) : Int) <= b4)) = false ->
 (false = true ->
 Calls P 26 ⟨[.slice bm bn bo]⟩ lp fun mi mj =>
 ∃ mk, mi = .returned (.bool mk) /\
 ((decide ((0 : Int) < ((bn : Nat) : Int))) = true ->
 ∃ ml mm mn mo, Loads P 31 ((⟨cd, 0, none⟩ : Addr).add 1) (.agg #[.bool ml, .slice mm mn mo]) mj /\ Calls P 25 ⟨[.agg #[.bool ml, .slice mm mn mo]]⟩ mj fun mp mq =>
 ∃ mr, mp = .returned (.int .i64 mr) /\
 R (.bool (mk == (decide ((mr : Int) = 0)))) mq) /\
 ((decide ((0 : Int) < ((bn : Nat) : Int))) = false ->
 R (.bool (mk == false)) mj)) /\
 (false = false ->
 R (.bool false) lp))) /\
 (lq = false ->
 (false = true ->
 ((decide ((((bn : Nat) : Int) : Int) = b4)) = true ->
 (true = true ->
 Calls P 26 ⟨[.slice bm bn bo]⟩ lp fun ms mt =>
 ∃ mv, ms = .returned (.bool mv) /\
 ((decide ((0 : Int) < ((bn : Nat) : Int))) = true ->
 ∃ mw mx my mz, Loads P 31 ((⟨cd, 0, none⟩ : Addr).add 1) (.agg #[.bool mw, .slice mx my mz]) mt /\ Calls P 25 ⟨[.agg #[.bool mw, .slice mx my mz]]⟩ mt fun n0 n1 =>
 ∃ n2, n0 = .returned (.int .i64 n2) /\
 R (.bool (mv == (decide ((n2 : Int) = 0)))) n1) /\
 ((decide ((0 : Int) < ((bn : Nat) : Int))) = false ->
 R (.bool (mv == false)) mt)) /\
 (true = false ->
 R (.bool false) lp)) /\
 ((decide ((((bn : Nat) : Int) : Int) = b4)) = false ->
 ∃ n3 n4 n5 n6, Loads P 31 ((⟨cd, 0, none⟩ : Addr).add 1) (.agg #[.bool n3, .slice n4 n5 n6]) lp /\ Calls P 25 ⟨[.agg #[.bool n3, .slice n4 n5 n6]]⟩ lp fun n7 n8 =>
 ∃ n9, n7 = .returned (.int .i64 n9) /\
 ((decide ((n9 : Int) = 0)) = true ->
 Calls P 26 ⟨[.slice bm bn bo]⟩ n8 fun na nb =>
 ∃ nc, na = .returned (.bool nc) /\
 ((decide ((0 : Int) < ((bn : Nat) : Int))) = true ->
 ∃ nd ne nf ng, Loads P 31 ((⟨cd, 0, none⟩ : Addr).add 1) (.agg #[.bool nd, .slice ne nf ng]) nb /\ Calls P 25 ⟨[.agg #[.bool nd, .slice ne nf ng]]⟩ nb fun nh ni =>
 ∃ nj, nh = .returned (.int .i64 nj) /\
 R (.bool (nc == (decide ((nj : Int) = 0)))) ni) /\
 ((decide ((0 : Int) < ((bn : Nat) : Int))) = false ->
 R (.bool (nc == false)) nb)) /\
 ((decide ((n9 : Int) = 0)) = false ->
 R (.bool false) n8))) /\
 (false = false ->
 (false = true ->
 Calls P 26 ⟨[.slice bm bn bo]⟩ lp fun nk nl =>
 ∃ nm, nk = .returned (.bool nm) /\
 ((decide ((0 : Int) < ((bn : Nat) : Int))) = true ->
 ∃ nn np nq nr, Loads P 31 ((⟨cd, 0, none⟩ : Addr).add 1) (.agg #[.bool nn, .slice np nq nr]) nl /\ Calls P 25 ⟨[.agg #[.bool nn, .slice np nq nr]]⟩ nl fun ns nt =>
 ∃ nu, ns = .returned (.int .i64 nu) /\
 R (.bool (nm == (decide ((nu : Int) = 0)))) nt) /\
 ((decide ((0 : Int) < ((bn : Nat) : Int))) = false ->
 R (.bool (nm == false)) nl)) /\
 (false = false ->
 R (.bool false) lp)))) /\
 (false = false ->
 (false = true ->
 ((decide ((((bn : Nat) : Int) : Int) <= b4)) = true ->
 ((decide ((((bn : Nat) : Int) : Int) = b4)) = true ->
 (true = true ->
 Calls P 26 ⟨[.slice bm bn bo]⟩ wv_41 fun nv nw =>
 ∃ nx, nv = .returned (.bool nx) /\
 ((decide ((0 : Int) < ((bn : Nat) : Int))) = true ->
 ∃ ny nz o0 o1, Loads P 31 ((⟨cd, 0, none⟩ : Addr).add 1) (.agg #[.bool ny, .slice nz o0 o1]) nw /\ Calls P 25 ⟨[.agg #[.bool ny, .slice nz o0 o1]]⟩ nw fun o2 o3 =>
 ∃ o4, o2 = .returned (.int .i64 o4) /\
 R (.bool (nx == (decide ((o4 : Int) = 0)))) o3) /\
 ((decide ((0 : Int) < ((bn : Nat) : Int))) = false ->
 R (.bool (nx == false)) nw)) /\
 (true = false ->
 R (.bool false) wv_41)) /\
 ((decide ((((bn : Nat) : Int) : Int) = b4)) = false ->
 ∃ o5 o6 o7 o8, Loads P 31 ((⟨cd, 0, none⟩ : Addr).add 1) (.agg #[.bool o5, .slice o6 o7 o8]) wv_41 /\ Calls P 25 ⟨[.agg #[.bool o5, .slice o6 o7 o8]]⟩ wv_41 fun o9 oa =>
 ∃ ob, o9 = .returned (.int .i64 ob) /\
 ((decide ((ob : Int) = 0)) = true ->
 Calls P 26 ⟨[.slice bm bn bo]⟩ oa fun oc od =>
 ∃ oe, oc = .returned (.bool oe) /\
 ((decide ((0 : Int) < ((bn : Nat) : Int))) = true ->
 ∃ og oh oi oj, Loads P 31 ((⟨cd, 0, none⟩ : Addr).add 1) (.agg #[.bool og, .slice oh oi oj]) od /\ Calls P 25 ⟨[.agg #[.bool og, .slice oh oi oj]]⟩ od fun ok ol =>
 ∃ om, ok = .returned (.int .i64 om) /\
 R (.bool (oe == (decide ((om : Int) = 0)))) ol) /\
 ((decide ((0 : Int) < ((bn : Nat) : Int))) = false ->
 R (.bool (oe == false)) od)) /\
 ((decide ((ob : Int) = 0)) = false ->
 R (.bool false) oa))) /\
 ((decide ((((bn : Nat) : Int) : Int) <= b4)) = false ->
 (false = true ->
 Calls P 26 ⟨[.slice bm bn bo]⟩ wv_41 fun oo op =>
 ∃ oq, oo = .returned (.bool oq) /\
 ((decide ((0 : Int) < ((bn : Nat) : Int))) = true ->
 ∃ os ot ou ov, Loads P 31 ((⟨cd, 0, none⟩ : Addr).add 1) (.agg #[.bool os, .slice ot ou ov]) op /\ Calls P 25 ⟨[.agg #[.bool os, .slice ot ou ov]]⟩ op fun ow ox =>
 ∃ oy, ow = .returned (.int .i64 oy) /\
 R (.bool (oq == (decide ((oy : Int) = 0)))) ox) /\
 ((decide ((0 : Int) < ((bn : Nat) : Int))) = false ->
 R (.bool (oq == false)) op)) /\
 (false = false ->
 R (.bool false) wv_41))) /\
 (false = false ->
 (false = true ->
 ((decide ((((bn : Nat) : Int) : Int) = b4)) = true ->
 (true = true ->
 Calls P 26 ⟨[.slice bm bn bo]⟩ wv_41 fun oz p0 =>
 ∃ p1, oz = .returned (.bool p1) /\
 ((decide ((0 : Int) < ((bn : Nat) : Int))) = true ->
 ∃ p2 p3 p4 p5, Loads P 31 ((⟨cd, 0, none⟩ : Addr).add 1) (.agg #[.bool p2, .slice p3 p4 p5]) p0 /\ Calls P 25 ⟨[.agg #[.bool p2, .slice p3 p4 p5]]⟩ p0 fun p6 p7 =>
 ∃ p8, p6 = .returned (.int .i64 p8) /\
 R (.bool (p1 == (decide ((p8 : Int) = 0)))) p7) /\
 ((decide ((0 : Int) < ((bn : Nat) : Int))) = false ->
 R (.bool (p1 == false)) p0)) /\
 (true = false ->
 R (.bool false) wv_41)) /\
 ((decide ((((bn : Nat) : Int) : Int) = b4)) = false ->
 ∃ p9 pa pb pc, Loads P 31 ((⟨cd, 0, none⟩ : Addr).add 1) (.agg #[.bool p9, .slice pa pb pc]) wv_41 /\ Calls P 25 ⟨[.agg #[.bool p9, .slice pa pb pc]]⟩ wv_41 fun pd pe =>
 ∃ pf, pd = .returned (.int .i64 pf) /\
 ((decide ((pf : Int) = 0)) = true ->
 Calls P 26 ⟨[.slice bm bn bo]⟩ pe fun pg ph =>
 ∃ pi, pg = .returned (.bool pi) /\
 ((decide ((0 : Int) < ((bn : Nat) : Int))) = true ->
 ∃ pj pk pl pm, Loads P 31 ((⟨cd, 0, none⟩ : Addr).add 1) (.agg #[.bool pj, .slice pk pl pm]) ph /\ Calls P 25 ⟨[.agg #[.bool pj, .slice pk pl pm]]⟩ ph fun pn po =>
 ∃ pp, pn = .returned (.int .i64 pp) /\
 R (.bool (pi == (decide ((pp : Int) = 0)))) po) /\
 ((decide ((0 : Int) < ((bn : Nat) : Int))) = false ->
 R (.bool (pi == false)) ph)) /\
 ((decide ((pf : Int) = 0)) = false ->
 R (.bool false) pe))) /\
 (false = false ->
 (false = true ->
 Calls P 26 ⟨[.slice bm bn bo]⟩ wv_41 fun pq pr =>
 ∃ ps, pq = .returned (.bool ps) /\
 ((decide ((0 : Int) < ((bn : Nat) : Int))) = true ->
 ∃ pt pu pv pw, Loads P 31 ((⟨cd, 0, none⟩ : Addr).add 1) (.agg #[.bool pt, .slice pu pv pw]) pr /\ Calls P 25 ⟨[.agg #[.bool pt, .slice pu pv pw]]⟩ pr fun px py =>
 ∃ pz, px = .returned (.int .i64 pz) /\
 R (.bool (ps == (decide ((pz : Int) = 0)))) py) /\
 ((decide ((0 : Int) < ((bn : Nat) : Int))) = false ->
 R (.bool (ps == false)) pr)) /\
 (false = false ->
 R (.bool false) wv_41)))))) /\
 (c3 = false ->
 (false = true ->
 (gr = true ->
 ∃ q0 q1 q2 q3 q4, Loads P 33 ⟨g8, 0, none⟩ (.agg #[.string q0, .bool q1, .slice q2 q3 q4]) wv_41 /\ ∃ q5 q6 q7 q8 q9, Loads P 33 ⟨gs, 0, none⟩ (.agg #[.string q5, .bool q6, .slice q7 q8 q9]) wv_41 /\ Calls P 24 ⟨[.agg #[.string q0, .bool q1, .slice q2 q3 q4], .agg #[.string q5, .bool q6, .slice q7 q8 q9]]⟩ wv_41 fun qa qb =>
 ∃ qc, qa = .returned (.bool qc) /\
 (qc = true ->
 ((decide ((((bn : Nat) : Int) : Int) <= b4)) = true ->
 ((decide ((((bn : Nat) : Int) : Int) = b4)) = true ->
 (true = true ->
 Calls P 26 ⟨[.slice bm bn bo]⟩ qb fun qd qe =>
 ∃ qf, qd = .returned (.bool qf) /\
 ((decide ((0 : Int) < ((bn : Nat) : Int))) = true ->
 ∃ qg qh qi qj, Loads P 31 ((⟨cd, 0, none⟩ : Addr).add 1) (.agg #[.bool qg, .slice qh qi qj]) qe /\ Calls P 25 ⟨[.agg #[.bool qg, .slice qh qi qj]]⟩ qe fun qk ql =>
 ∃ qm, qk = .returned (.int .i64 qm) /\
 R (.bool (qf == (decide ((qm : Int) = 0)))) ql) /\
 ((decide ((0 : Int) < ((bn : Nat) : Int))) = false ->
 R (.bool (qf == false)) qe)) /\
 (true = false ->
 R (.bool false) qb)) /\
 ((decide ((((bn : Nat) : Int) : Int) = b4)) = false ->
 ∃ qn qo qp qq, Loads P 31 ((⟨cd, 0, none⟩ : Addr).add 1) (.agg #[.bool qn, .slice qo qp qq]) qb /\ Calls P 25 ⟨[.agg #[.bool qn, .slice qo qp qq]]⟩ qb fun qr qs =>
 ∃ qt, qr = .returned (.int .i64 qt) /\
 ((decide ((qt : Int) = 0)) = true ->
 Calls P 26 ⟨[.slice bm bn bo]⟩ qs fun qu qv =>
 ∃ qw, qu = .returned (.bool qw) /\
 ((decide ((0 : Int) < ((bn : Nat) : Int))) = true ->
 ∃ qx qy qz r0, Loads P 31 ((⟨cd, 0, none⟩ : Addr).add 1) (.agg #[.bool qx, .slice qy qz r0]) qv /\ Calls P 25 ⟨[.agg #[.bool qx, .slice qy qz r0]]⟩ qv fun r1 r2 =>
 ∃ r3, r1 = .returned (.int .i64 r3) /\
 R (.bool (qw == (decide ((r3 : Int) = 0)))) r2) /\
 ((decide ((0 : Int) < ((bn : Nat) : Int))) = false ->
 R (.bool (qw == false)) qv)) /\
 ((decide ((qt : Int) = 0)) = false ->
 R (.bool false) qs))) /\
 ((decide ((((bn : Nat) : Int) : Int) <= b4)) = false ->
 (false = true ->
 Calls P 26 ⟨[.slice bm bn bo]⟩ qb fun r4 r5 =>
 ∃ r6, r4 = .returned (.bool r6) /\
 ((decide ((0 : Int) < ((bn : Nat) : Int))) = true ->
 ∃ r7 r8 r9 ra, Loads P 31 ((⟨cd, 0, none⟩ : Addr).add 1) (.agg #[.bool r7, .slice r8 r9 ra]) r5 /\ Calls P 25 ⟨[.agg #[.bool r7, .slice r8 r9 ra]]⟩ r5 fun rb rc =>
 ∃ rd, rb = .returned (.int .i64 rd) /\
 R (.bool (r6 == (decide ((rd : Int) = 0)))) rc) /\
 ((decide ((0 : Int) < ((bn : Nat) : Int))) = false ->
 R (.bool (r6 == false)) r5)) /\
 (false = false ->
 R (.bool false) qb))) /\
 (qc = false ->
 (false = true ->
 ((decide ((((bn : Nat) : Int) : Int) = b4)) = true ->
 (true = true ->
 Calls P 26 ⟨[.slice bm bn bo]⟩ qb fun re rf =>
 ∃ rg, re = .returned (.bool rg) /\
 ((decide ((0 : Int) < ((bn : Nat) : Int))) = true ->
 ∃ rh ri rj rk, Loads P 31 ((⟨cd, 0, none⟩ : Addr).add 1) (.agg #[.bool rh, .slice ri rj rk]) rf /\ Calls P 25 ⟨[.agg #[.bool rh, .slice ri rj rk]]⟩ rf fun rl rm =>
 ∃ rn, rl = .returned (.int .i64 rn) /\
 R (.bool (rg == (decide ((rn : Int) = 0)))) rm) /\
 ((decide ((0 : Int) < ((bn : Nat) : Int))) = false ->
 R (.bool (rg == false)) rf)) /\
 (true = false ->
 R (.bool false) qb)) /\
 ((decide ((((bn : Nat) : Int) : Int) = b4)) = false ->
 ∃ ro rp rq rr, Loads P 31 ((⟨cd, 0, none⟩ : Addr).add 1) (.agg #[.bool ro, .slice rp rq rr]) qb /\ Calls P 25 ⟨[.agg #[.bool ro, .slice rp rq rr]]⟩ qb fun rs rt =>
 ∃ ru, rs = .returned (.int .i64 ru) /\
 ((decide ((ru : Int) = 0)) = true ->
 Calls P 26 ⟨[.slice bm bn bo]⟩ rt fun rv rw =>
 ∃ rx, rv = .returned (.bool rx) /\
 ((decide ((0 : Int) < ((bn : Nat) : Int))) = true ->
 ∃ ry rz s0 s1, Loads P 31 ((⟨cd, 0, none⟩ : Addr).add 1) (.agg #[.bool ry, .slice rz s0 s1]) rw /\ Calls P 25 ⟨[.agg #[.bool ry, .slice rz s0 s1]]⟩ rw fun s2 s3 =>
 ∃ s4, s2 = .returned (.int .i64 s4) /\
 R (.bool (rx == (decide ((s4 : Int) = 0)))) s3) /\
 ((decide ((0 : Int) < ((bn : Nat) : Int))) = false ->
 R (.bool (rx == false)) rw)) /\
 ((decide ((ru : Int) = 0)) = false ->
 R (.bool false) rt))) /\
 (false = false ->
 (false = true ->
 Calls P 26 ⟨[.slice bm bn bo]⟩ qb fun s5 s6 =>
 ∃ s7, s5 = .returned (.bool s7) /\
 ((decide ((0 : Int) < ((bn : Nat) : Int))) = true ->
 ∃ s8 s9 sa sb, Loads P 31 ((⟨cd, 0, none⟩ : Addr).add 1) (.agg #[.bool s8, .slice s9 sa sb]) s6 /\ Calls P 25 ⟨[.agg #[.bool s8, .slice s9 sa sb]]⟩ s6 fun sc sd =>
 ∃ se, sc = .returned (.int .i64 se) /\
 R (.bool (s7 == (decide ((se : Int) = 0)))) sd) /\
 ((decide ((0 : Int) < ((bn : Nat) : Int))) = false ->
 R (.bool (s7 == false)) s6)) /\
 (false = false ->
 R (.bool false) qb)))) /\
 (gr = false ->
 (false = true ->
 ((decide ((((bn : Nat) : Int) : Int) <= b4)) = true ->
 ((decide ((((bn : Nat) : Int) : Int) = b4)) = true ->
 (true = true ->
 Calls P 26 ⟨[.slice bm bn bo]⟩ wv_41 fun sf sg =>
 ∃ sh, sf = .returned (.bool sh) /\
 ((decide ((0 : Int) < ((bn : Nat) : Int))) = true ->
 ∃ si sj sk sl, Loads P 31 ((⟨cd, 0, none⟩ : Addr).add 1) (.agg #[.bool si, .slice sj sk sl]) sg /\ Calls P 25 ⟨[.agg #[.bool si, .slice sj sk sl]]⟩ sg fun sm sn =>
 ∃ so, sm = .returned (.int .i64 so) /\
 R (.bool (sh == (decide ((so : Int) = 0)))) sn) /\
 ((decide ((0 : Int) < ((bn : Nat) : Int))) = false ->
 R (.bool (sh == false)) sg)) /\
 (true = false ->
 R (.bool false) wv_41)) /\
 ((decide ((((bn : Nat) : Int) : Int) = b4)) = false ->
 ∃ sp sq sr ss, Loads P 31 ((⟨cd, 0, none⟩ : Addr).add 1) (.agg #[.bool sp, .slice sq sr ss]) wv_41 /\ Calls P 25 ⟨[.agg #[.bool sp, .slice sq sr ss]]⟩ wv_41 fun st su =>
 ∃ sv, st = .returned (.int .i64 sv) /\
 ((decide ((sv : Int) = 0)) = true ->
 Calls P 26 ⟨[.slice bm bn bo]⟩ su fun sw sx =>
 ∃ sy, sw = .returned (.bool sy) /\
 ((decide ((0 : Int) < ((bn : Nat) : Int))) = true ->
 ∃ sz t0 t1 t2, Loads P 31 ((⟨cd, 0, none⟩ : Addr).add 1) (.agg #[.bool sz, .slice t0 t1 t2]) sx /\ Calls P 25 ⟨[.agg #[.bool sz, .slice t0 t1 t2]]⟩ sx fun t3 t4 =>
 ∃ t5, t3 = .returned (.int .i64 t5) /\
 R (.bool (sy == (decide ((t5 : Int) = 0)))) t4) /\
 ((decide ((0 : Int) < ((bn : Nat) : Int))) = false ->
 R (.bool (sy == false)) sx)) /\
 ((decide ((sv : Int) = 0)) = false ->
 R (.bool false) su))) /\
 ((decide ((((bn : Nat) : Int) : Int) <= b4)) = false ->
 (false = true ->
 Calls P 26 ⟨[.slice bm bn bo]⟩ wv_41 fun t6 t7 =>
 ∃ t8, t6 = .returned (.bool t8) /\
 ((decide ((0 : Int) < ((bn : Nat) : Int))) = true ->
 ∃ t9 ta tb tc, Loads P 31 ((⟨cd, 0, none⟩ : Addr).add 1) (.agg #[.bool t9, .slice ta tb tc]) t7 /\ Calls P 25 ⟨[.agg #[.bool t9, .slice ta tb tc]]⟩ t7 fun td te =>
 ∃ tf, td = .returned (.int .i64 tf) /\
 R (.bool (t8 == (decide ((tf : Int) = 0)))) te) /\
 ((decide ((0 : Int) < ((bn : Nat) : Int))) = false ->
 R (.bool (t8 == false)) t7)) /\
 (false = false ->
 R (.bool false) wv_41))) /\
 (false = false ->
 (false = true ->
 ((decide ((((bn : Nat) : Int) : Int) = b4)) = true ->
 (true = true ->
 Calls P 26 ⟨[.slice bm bn bo]⟩ wv_41 fun tg th =>
 ∃ ti, tg = .returned (.bool ti) /\
 ((decide ((0 : Int) < ((bn : Nat) : Int))) = true ->
 ∃ tj tk tl tm, Loads P 31 ((⟨cd, 0, none⟩ : Addr).add 1) (.agg #[.bool tj, .slice tk tl tm]) th /\ Calls P 25 ⟨[.agg #[.bool tj, .slice tk tl tm]]⟩ th fun tn tp =>
 ∃ tq, tn = .returned (.int .i64 tq) /\
 R (.bool (ti == (decide ((tq : Int) = 0)))) tp) /\
 ((decide ((0 : Int) < ((bn : Nat) : Int))) = false ->
 R (.bool (ti == false)) th)) /\
 (true = false ->
 R (.bool false) wv_41)) /\
 ((decide ((((bn : Nat) : Int) : Int) = b4)) = false ->
 ∃ tr ts tt tu, Loads P 31 ((⟨cd, 0, none⟩ : Addr).add 1) (.agg #[.bool tr, .slice ts tt tu]) wv_41 /\ Calls P 25 ⟨[.agg #[.bool tr, .slice ts tt tu]]⟩ wv_41 fun tv tw =>
 ∃ tx, tv = .returned (.int .i64 tx) /\
 ((decide ((tx : Int) = 0)) = true ->
 Calls P 26 ⟨[.slice bm bn bo]⟩ tw fun ty tz =>
 ∃ u0, ty = .returned (.bool u0) /\
 ((decide ((0 : Int) < ((bn : Nat) : Int))) = true ->
 ∃ u1 u2 u3 u4, Loads P 31 ((⟨cd, 0, none⟩ : Addr).add 1) (.agg #[.bool u1, .slice u2 u3 u4]) tz /\ Calls P 25 ⟨[.agg #[.bool u1, .slice u2 u3 u4]]⟩ tz fun u5 u6 =>
 ∃ u7, u5 = .returned (.int .i64 u7) /\
 R (.bool (u0 == (decide ((u7 : Int) = 0)))) u6) /\
 ((decide ((0 : Int) < ((bn : Nat) : Int))) = false ->
 R (.bool (u0 == false)) tz)) /\
 ((decide ((tx : Int) = 0)) = false ->
 R (.bool false) tw))) /\
 (false = false ->
 (false = true ->
 Calls P 26 ⟨[.slice bm bn bo]⟩ wv_41 fun u8 u9 =>
 ∃ ua, u8 = .returned (.bool ua) /\
 ((decide ((0 : Int) < ((bn : Nat) : Int))) = true ->
 ∃ ub uc ud ue, Loads P 31 ((⟨cd, 0, none⟩ : Addr).add 1) (.agg #[.bool ub, .slice uc ud ue]) u9 /\ Calls P 25 ⟨[.agg #[.bool ub, .slice uc ud ue]]⟩ u9 fun uf ug =>
 ∃ uh, uf = .returned (.int .i64 uh) /\
 R (.bool (ua == (decide ((uh : Int) = 0)))) ug) /\
 ((decide ((0 : Int) < ((bn : Nat) : Int))) = false ->
 R (.bool (ua == false)) u9)) /\
 (false = false ->
 R (.bool false) wv_41))))) /\
 (false = false ->
 (false = true ->
 ∃ ui uj uk ul um, Loads P 33 ⟨g8, 0, none⟩ (.agg #[.string ui, .bool uj, .slice uk ul um]) wv_41 /\ ∃ un uo up uq ur, Loads P 33 ⟨gs, 0, none⟩ (.agg #[.string un, .bool uo, .slice up uq ur]) wv_41 /\ Calls P 24 ⟨[.agg #[.string ui, .bool uj, .slice uk ul um], .agg #[.string un, .bool uo, .slice up uq ur]]⟩ wv_41 fun us ut =>
 ∃ uu, us = .returned (.bool uu) /\
 (uu = true ->
 ((decide ((((bn : Nat) : Int) : Int) <= b4)) = true ->
 ((decide ((((bn : Nat) : Int) : Int) = b4)) = true ->
 (true = true ->
 Calls P 26 ⟨[.slice bm bn bo]⟩ ut fun uv uw =>
 ∃ ux, uv = .returned (.bool ux) /\
 ((decide ((0 : Int) < ((bn : Nat) : Int))) = true ->
 ∃ uy uz v0 v1, Loads P 31 ((⟨cd, 0, none⟩ : Addr).add 1) (.agg #[.bool uy, .slice uz v0 v1]) uw /\ Calls P 25 ⟨[.agg #[.bool uy, .slice uz v0 v1]]⟩ uw fun v2 v3 =>
 ∃ v4, v2 = .returned (.int .i64 v4) /\
 R (.bool (ux == (decide ((v4 : Int) = 0)))) v3) /\
 ((decide ((0 : Int) < ((bn : Nat) : Int))) = false ->
 R (.bool (ux == false)) uw)) /\
 (true = false ->
 R (.bool false) ut)) /\
 ((decide ((((bn : Nat) : Int) : Int) = b4)) = false ->
 ∃ v5 v6 v7 v8, Loads P 31 ((⟨cd, 0, none⟩ : Addr).add 1) (.agg #[.bool v5, .slice v6 v7 v8]) ut /\ Calls P 25 ⟨[.agg #[.bool v5, .slice v6 v7 v8]]⟩ ut fun v9 va =>
 ∃ vb, v9 = .returned (.int .i64 vb) /\
 ((decide ((vb : Int) = 0)) = true ->
 Calls P 26 ⟨[.slice bm bn bo]⟩ va fun vc vd =>
 ∃ ve, vc = .returned (.bool ve) /\
 ((decide ((0 : Int) < ((bn : Nat) : Int))) = true ->
 ∃ vf vg vh vi, Loads P 31 ((⟨cd, 0, none⟩ : Addr).add 1) (.agg #[.bool vf, .slice vg vh vi]) vd /\ Calls P 25 ⟨[.agg #[.bool vf, .slice vg vh vi]]⟩ vd fun vj vk =>
 ∃ vl, vj = .returned (.int .i64 vl) /\
 R (.bool (ve == (decide ((vl : Int) = 0)))) vk) /\
 ((decide ((0 : Int) < ((bn : Nat) : Int))) = false ->
 R (.bool (ve == false)) vd)) /\
 ((decide ((vb : Int) = 0)) = false ->
 R (.bool false) va))) /\
 ((decide ((((bn : Nat) : Int) : Int) <= b4)) = false ->
 (false = true ->
 Calls P 26 ⟨[.slice bm bn bo]⟩ ut fun vm vn =>
 ∃ vo, vm = .returned (.bool vo) /\
 ((decide ((0 : Int) < ((bn : Nat) : Int))) = true ->
 ∃ vp vq vr vs, Loads P 31 ((⟨cd, 0, none⟩ : Addr).add 1) (.agg #[.bool vp, .slice vq vr vs]) vn /\ Calls P 25 ⟨[.agg #[.bool vp, .slice vq vr vs]]⟩ vn fun vt vu =>
 ∃ vv, vt = .returned (.int .i64 vv) /\
 R (.bool (vo == (decide ((vv : Int) = 0)))) vu) /\
 ((decide ((0 : Int) < ((bn : Nat) : Int))) = false ->
 R (.bool (vo == false)) vn)) /\
 (false = false ->
 R (.bool false) ut))) /\
 (uu = false ->
 (false = true ->
 ((decide ((((bn : Nat) : Int) : Int) = b4)) = true ->
 (true = true ->
 Calls P 26 ⟨[.slice bm bn bo]⟩ ut fun vw vx =>
 ∃ vy, vw = .returned (.bool vy) /\
 ((decide ((0 : Int) < ((bn : Nat) : Int))) = true ->
 ∃ vz x0 x1 x2, Loads P 31 ((⟨cd, 0, none⟩ : Addr).add 1) (.agg #[.bool vz, .slice x0 x1 x2]) vx /\ Calls P 25 ⟨[.agg #[.bool vz, .slice x0 x1 x2]]⟩ vx fun x3 x4 =>
 ∃ x5, x3 = .returned (.int .i64 x5) /\
 R (.bool (vy == (decide ((x5 : Int) = 0)))) x4) /\
 ((decide ((0 : Int) < ((bn : Nat) : Int))) = false ->
 R (.bool (vy == false)) vx)) /\
 (true = false ->
 R (.bool false) ut)) /\
 ((decide ((((bn : Nat) : Int) : Int) = b4)) = false ->
 ∃ x6 x7 x8 x9, Loads P 31 ((⟨cd, 0, none⟩ : Addr).add 1) (.agg #[.bool x6, .slice x7 x8 x9]) ut /\ Calls P 25 ⟨[.agg #[.bool x6, .slice x7 x8 x9]]⟩ ut fun xa xb =>
 ∃ xc, xa = .returned (.int .i64 xc) /\
 ((decide ((xc : Int) = 0)) = true ->
 Calls P 26 ⟨[.slice bm bn bo]⟩ xb fun xd xe =>
 ∃ xf, xd = .returned (.bool xf) /\
 ((decide ((0 : Int) < ((bn : Nat) : Int))) = true ->
 ∃ xg xh xi xj, Loads P 31 ((⟨cd, 0, none⟩ : Addr).add 1) (.agg #[.bool xg, .slice xh xi xj]) xe /\ Calls P 25 ⟨[.agg #[.bool xg, .slice xh xi xj]]⟩ xe fun xk xl =>
 ∃ xm, xk = .returned (.int .i64 xm) /\
 R (.bool (xf == (decide ((xm : Int) = 0)))) xl) /\
 ((decide ((0 : Int) < ((bn : Nat) : Int))) = false ->
 R (.bool (xf == false)) xe)) /\
 ((decide ((xc : Int) = 0)) = false ->
 R (.bool false) xb))) /\
 (false = false ->
 (false = true ->
 Calls P 26 ⟨[.slice bm bn bo]⟩ ut fun xn xo =>
 ∃ xp, xn = .returned (.bool xp) /\
 ((decide ((0 : Int) < ((bn : Nat) : Int))) = true ->
 ∃ xq xr xs xt, Loads P 31 ((⟨cd, 0, none⟩ : Addr).add 1) (.agg #[.bool xq, .slice xr xs xt]) xo /\ Calls P 25 ⟨[.agg #[.bool xq, .slice xr xs xt]]⟩ xo fun xu xv =>
 ∃ xw, xu = .returned (.int .i64 xw) /\
 R (.bool (xp == (decide ((xw : Int) = 0)))) xv) /\
 ((decide ((0 : Int) < ((bn : Nat) : Int))) = false ->
 R (.bool (xp == false)) xo)) /\
 (false = false ->
 R (.bool false) ut)))) /\
 (false = false ->
 (false = true ->
 ((decide ((((bn : Nat) : Int) : Int) <= b4)) = true ->
 ((decide ((((bn : Nat) : Int) : Int) = b4)) = true ->
 (true = true ->
 Calls P 26 ⟨[.slice bm bn bo]⟩ wv_41 fun xx xy =>
 ∃ xz, xx = .returned (.bool xz) /\
 ((decide ((0 : Int) < ((bn : Nat) : Int))) = true ->
 ∃ y0 y1 y2 y3, Loads P 31 ((⟨cd, 0, none⟩ : Addr).add 1) (.agg #[.bool y0, .slice y1 y2 y3]) xy /\ Calls P 25 ⟨[.agg #[.bool y0, .slice y1 y2 y3]]⟩ xy fun y4 y5 =>
 ∃ y6, y4 = .returned (.int .i64 y6) /\
 R (.bool (xz == (decide ((y6 : Int) = 0)))) y5) /\
 ((decide ((0 : Int) < ((bn : Nat) : Int))) = false ->
 R (.bool (xz == false)) xy)) /\
 (true = false ->
 R (.bool false) wv_41)) /\
 ((decide ((((bn : Nat) : Int) : Int) = b4)) = false ->
 ∃ y7 y8 y9 ya, Loads P 31 ((⟨cd, 0, none⟩ : Addr).add 1) (.agg #[.bool y7, .slice y8 y9 ya]) wv_41 /\ Calls P 25 ⟨[.agg #[.bool y7, .slice y8 y9 ya]]⟩ wv_41 fun yb yc =>
 ∃ yd, yb = .returned (.int .i64 yd) /\
 ((decide ((yd : Int) = 0)) = true ->
 Calls P 26 ⟨[.slice bm bn bo]⟩ yc fun ye yf =>
 ∃ yg, ye = .returned (.bool yg) /\
 ((decide ((0 : Int) < ((bn : Nat) : Int))) = true ->
 ∃ yh yi yj yk, Loads P 31 ((⟨cd, 0, none⟩ : Addr).add 1) (.agg #[.bool yh, .slice yi yj yk]) yf /\ Calls P 25 ⟨[.agg #[.bool yh, .slice yi yj yk]]⟩ yf fun yl ym =>
 ∃ yn, yl = .returned (.int .i64 yn) /\
 R (.bool (yg == (decide ((yn : Int) = 0)))) ym) /\
 ((decide ((0 : Int) < ((bn : Nat) : Int))) = false ->
 R (.bool (yg == false)) yf)) /\
 ((decide ((yd : Int) = 0)) = false ->
 R (.bool false) yc))) /\
 ((decide ((((bn : Nat) : Int) : Int) <= b4)) = false ->
 (false = true ->
 Calls P 26 ⟨[.slice bm bn bo]⟩ wv_41 fun yo yp =>
 ∃ yq, yo = .returned (.bool yq) /\
 ((decide ((0 : Int) < ((bn : Nat) : Int))) = true ->
 ∃ yr ys yt yu, Loads P 31 ((⟨cd, 0, none⟩ : Addr).add 1) (.agg #[.bool yr, .slice ys yt yu]) yp /\ Calls P 25 ⟨[.agg #[.bool yr, .slice ys yt yu]]⟩ yp fun yv yw =>
 ∃ yx, yv = .returned (.int .i64 yx) /\
 R (.bool (yq == (decide ((yx : Int) = 0)))) yw) /\
 ((decide ((0 : Int) < ((bn : Nat) : Int))) = false ->
 R (.bool (yq == false)) yp)) /\
 (false = false ->
 R (.bool false) wv_41))) /\
 (false = false ->
 (false = true ->
 ((decide ((((bn : Nat) : Int) : Int) = b4)) = true ->
 (true = true ->
 Calls P 26 ⟨[.slice bm bn bo]⟩ wv_41 fun yy yz =>
 ∃ z0, yy = .returned (.bool z0) /\
 ((decide ((0 : Int) < ((bn : Nat) : Int))) = true ->
 ∃ z1 z2 z3 z4, Loads P 31 ((⟨cd, 0, none⟩ : Addr).add 1) (.agg #[.bool z1, .slice z2 z3 z4]) yz /\ Calls P 25 ⟨[.agg #[.bool z1, .slice z2 z3 z4]]⟩ yz fun z5 z6 =>
 ∃ z7, z5 = .returned (.int .i64 z7) /\
 R (.bool (z0 == (decide ((z7 : Int) = 0)))) z6) /\
 ((decide ((0 : Int) < ((bn : Nat) : Int))) = false ->
 R (.bool (z0 == false)) yz)) /\
 (true = false ->
 R (.bool false) wv_41)) /\
 ((decide ((((bn : Nat) : Int) : Int) = b4)) = false ->
 ∃ z8 z9 za zb, Loads P 31 ((⟨cd, 0, none⟩ : Addr).add 1) (.agg #[.bool z8, .slice z9 za zb]) wv_41 /\ Calls P 25 ⟨[.agg #[.bool z8, .slice z9 za zb]]⟩ wv_41 fun zc zd =>
 ∃ ze, zc = .returned (.int .i64 ze) /\
 ((decide ((ze : Int) = 0)) = true ->
 Calls P 26 ⟨[.slice bm bn bo]⟩ zd fun zf zg =>
 ∃ zh, zf = .returned (.bool zh) /\
 ((decide ((0 : Int) < ((bn : Nat) : Int))) = true ->
 ∃ zi zj zk zl, Loads P 31 ((⟨cd, 0, none⟩ : Addr).add 1) (.agg #[.bool zi, .slice zj zk zl]) zg /\ Calls P 25 ⟨[.agg #[.bool zi, .slice zj zk zl]]⟩ zg fun zm zn =>
 ∃ zo, zm = .returned (.int .i64 zo) /\
 R (.bool (zh == (decide ((zo : Int) = 0)))) zn) /\
 ((decide ((0 : Int) < ((bn : Nat) : Int))) = false ->
 R (.bool (zh == false)) zg)) /\
 ((decide ((ze : Int) = 0)) = false ->
 R (.bool false) zd))) /\
 (false = false ->
 (false = true ->
 Calls P 26 ⟨[.slice bm bn bo]⟩ wv_41 fun zp zq =>
 ∃ zr, zp = .returned (.bool zr) /\
 ((decide ((0 : Int) < ((bn : Nat) : Int))) = true ->
 ∃ zs zt zu zv, Loads P 31 ((⟨cd, 0, none⟩ : Addr).add 1) (.agg #[.bool zs, .slice zt zu zv]) zq /\ Calls P 25 ⟨[.agg #[.bool zs, .slice zt zu zv]]⟩ zq fun zw zx =>
 ∃ zy, zw = .returned (.int .i64 zy) /\
 R (.bool (zr == (decide ((zy : Int) = 0)))) zx) /\
 ((decide ((0 : Int) < ((bn : Nat) : Int))) = false ->
 R (.bool (zr == false)) zq)) /\
 (false = false ->
 R (.bool false) wv_41))))))) /\
 (bp = false ->
 (false = true ->
 (g7 = true ->
 (gr = true ->
 ∃ zz A0 A1 A2 A3, Loads P 33 ⟨g8, 0, none⟩ (.agg #[.string zz, .bool A0, .slice A1 A2 A3]) wv_41 /\ ∃ A4 A5 A6 A7 A8, Loads P 33 ⟨gs, 0, none⟩ (.agg #[.string A4, .bool A5, .slice A6 A7 A8]) wv_41 /\ Calls P 24 ⟨[.agg #[.string zz, .bool A0, .slice A1 A2 A3], .agg #[.string A4, .bool A5, .slice A6 A7 A8]]⟩ wv_41 fun A9 Aa =>
 ∃ Ab, A9 = .returned (.bool Ab) /\
 (Ab = true ->
 ((decide ((((bn : Nat) : Int) : Int) <= b4)) = true ->
 ((decide ((((bn : Nat) : Int) : Int) = b4)) = true ->
 (true = true ->
 Calls P 26 ⟨[.slice bm bn bo]⟩ Aa fun Ac Ad =>
 ∃ Ae, Ac = .returned (.bool Ae) /\
 ((decide ((0 : Int) < ((bn : Nat) : Int))) = true ->
 ∃ Af Ag Ah Ai, Loads P 31 ((⟨cd, 0, none⟩ : Addr).add 1) (.agg #[.bool Af, .slice Ag Ah Ai]) Ad /\ Calls P 25 ⟨[.agg #[.bool Af, .slice Ag Ah Ai]]⟩ Ad fun Aj Ak =>
 ∃ Al, Aj = .returned (.int .i64 Al) /\
 R (.bool (Ae == (decide ((Al : Int) = 0)))) Ak) /\
 ((decide ((0 : Int) < ((bn : Nat) : Int))) = false ->
 R (.bool (Ae == false)) Ad)) /\
 (true = false ->
 R (.bool false) Aa)) /\
 ((decide ((((bn : Nat) : Int) : Int) = b4)) = false ->
 ∃ Am An Ao Ap, Loads P 31 ((⟨cd, 0, none⟩ : Addr).add 1) (.agg #[.bool Am, .slice An Ao Ap]) Aa /\ Calls P 25 ⟨[.agg #[.bool Am, .slice An Ao Ap]]⟩ Aa fun Aq Ar =>
 ∃ As, Aq = .returned (.int .i64 As) /\
 ((decide ((As : Int) = 0)) = true ->
 Calls P 26 ⟨[.slice bm bn bo]⟩ Ar fun At Au =>
 ∃ Av, At = .returned (.bool Av) /\
 ((decide ((0 : Int) < ((bn : Nat) : Int))) = true ->
 ∃ Aw Ax Ay Az, Loads P 31 ((⟨cd, 0, none⟩ : Addr).add 1) (.agg #[.bool Aw, .slice Ax Ay Az]) Au /\ Calls P 25 ⟨[.agg #[.bool Aw, .slice Ax Ay Az]]⟩ Au fun B0 B1 =>
 ∃ B2, B0 = .returned (.int .i64 B2) /\
 R (.bool (Av == (decide ((B2 : Int) = 0)))) B1) /\
 ((decide ((0 : Int) < ((bn : Nat) : Int))) = false ->
 R (.bool (Av == false)) Au)) /\
 ((decide ((As : Int) = 0)) = false ->
 R (.bool false) Ar))) /\
 ((decide ((((bn : Nat) : Int) : Int) <= b4)) = false ->
 (false = true ->
 Calls P 26 ⟨[.slice bm bn bo]⟩ Aa fun B3 B4 =>
 ∃ B5, B3 = .returned (.bool B5) /\
 ((decide ((0 : Int) < ((bn : Nat) : Int))) = true ->
 ∃ B6 B7 B8 B9, Loads P 31 ((⟨cd, 0, none⟩ : Addr).add 1) (.agg #[.bool B6, .slice B7 B8 B9]) B4 /\ Calls P 25 ⟨[.agg #[.bool B6, .slice B7 B8 B9]]⟩ B4 fun Ba Bb =>
 ∃ Bc, Ba = .returned (.int .i64 Bc) /\
 R (.bool (B5 == (decide ((Bc : Int) = 0)))) Bb) /\
 ((decide ((0 : Int) < ((bn : Nat) : Int))) = false ->
 R (.bool (B5 == false)) B4)) /\
 (false = false ->
 R (.bool false) Aa))) /\
 (Ab = false ->
 (false = true ->
 ((decide ((((bn : Nat) : Int) : Int) = b4)) = true ->
 (true = true ->
 Calls P 26 ⟨[.slice bm bn bo]⟩ Aa fun Bd Be =>
 ∃ Bf, Bd = .returned (.bool Bf) /\
 ((decide ((0 : Int) < ((bn : Nat) : Int))) = true ->
 ∃ Bg Bh Bi Bj, Loads P 31 ((⟨cd, 0, none⟩ : Addr).add 1) (.agg #[.bool Bg, .slice Bh Bi Bj]) Be /\ Calls P 25 ⟨[.agg #[.bool Bg, .slice Bh Bi Bj]]⟩ Be fun Bk Bl =>
 ∃ Bm, Bk = .returned (.int .i64 Bm) /\
 R (.bool (Bf == (decide ((Bm : Int) = 0)))) Bl) /\
 ((decide ((0 : Int) < ((bn : Nat) : Int))) = false ->
 R (.bool (Bf == false)) Be)) /\
 (true = false ->
 R (.bool false) Aa)) /\
 ((decide ((((bn : Nat) : Int) : Int) = b4)) = false ->
 ∃ Bn Bo Bp Bq, Loads P 31 ((⟨cd, 0, none⟩ : Addr).add 1) (.agg #[.bool Bn, .slice Bo Bp Bq]) Aa /\ Calls P 25 ⟨[.agg #[.bool Bn, .slice Bo Bp Bq]]⟩ Aa fun Br Bs =>
 ∃ Bt, Br = .returned (.int .i64 Bt) /\
 ((decide ((Bt : Int) = 0)) = true ->
 Calls P 26 ⟨[.slice bm bn bo]⟩ Bs fun Bu Bv =>
 ∃ Bw, Bu = .returned (.bool Bw) /\
 ((decide ((0 : Int) < ((bn : Nat) : Int))) = true ->
 ∃ Bx By Bz C0, Loads P 31 ((⟨cd, 0, none⟩ : Addr).add 1) (.agg #[.bool Bx, .slice By Bz C0]) Bv /\ Calls P 25 ⟨[.agg #[.bool Bx, .slice By Bz C0]]⟩ Bv fun C1 C2 =>
 ∃ C3, C1 = .returned (.int .i64 C3) /\
 R (.bool (Bw == (decide ((C3 : Int) = 0)))) C2) /\
 ((decide ((0 : Int) < ((bn : Nat) : Int))) = false ->
 R (.bool (Bw == false)) Bv)) /\
 ((decide ((Bt : Int) = 0)) = false ->
 R (.bool false) Bs))) /\
 (false = false ->
 (false = true ->
 Calls P 26 ⟨[.slice bm bn bo]⟩ Aa fun C4 C5 =>
 ∃ C6, C4 = .returned (.bool C6) /\
 ((decide ((0 : Int) < ((bn : Nat) : Int))) = true ->
 ∃ C7 C8 C9 Ca, Loads P 31 ((⟨cd, 0, none⟩ : Addr).add 1) (.agg #[.bool C7, .slice C8 C9 Ca]) C5 /\ Calls P 25 ⟨[.agg #[.bool C7, .slice C8 C9 Ca]]⟩ C5 fun Cb Cc =>
 ∃ Cd, Cb = .returned (.int .i64 Cd) /\
 R (.bool (C6 == (decide ((Cd : Int) = 0)))) Cc) /\
 ((decide ((0 : Int) < ((bn : Nat) : Int))) = false ->
 R (.bool (C6 == false)) C5)) /\
 (false = false ->
 R (.bool false) Aa)))) /\
 (gr = false ->
 (false = true ->
 ((decide ((((bn : Nat) : Int) : Int) <= b4)) = true ->
 ((decide ((((bn : Nat) : Int) : Int) = b4)) = true ->
 (true = true ->
 Calls P 26 ⟨[.slice bm bn bo]⟩ wv_41 fun Ce Cf =>
 ∃ Cg, Ce = .returned (.bool Cg) /\
 ((decide ((0 : Int) < ((bn : Nat) : Int))) = true ->
 ∃ Ch Ci Cj Ck, Loads P 31 ((⟨cd, 0, none⟩ : Addr).add 1) (.agg #[.bool Ch, .slice Ci Cj Ck]) Cf /\ Calls P 25 ⟨[.agg #[.bool Ch, .slice Ci Cj Ck]]⟩ Cf fun Cl Cm =>
 ∃ Cn, Cl = .returned (.int .i64 Cn) /\
 R (.bool (Cg == (decide ((Cn : Int) = 0)))) Cm) /\
 ((decide ((0 : Int) < ((bn : Nat) : Int))) = false ->
 R (.bool (Cg == false)) Cf)) /\
 (true = false ->
 R (.bool false) wv_41)) /\
 ((decide ((((bn : Nat) : Int) : Int) = b4)) = false ->
 ∃ Co Cp Cq Cr, Loads P 31 ((⟨cd, 0, none⟩ : Addr).add 1) (.agg #[.bool Co, .slice Cp Cq Cr]) wv_41 /\ Calls P 25 ⟨[.agg #[.bool Co, .slice Cp Cq Cr]]⟩ wv_41 fun Cs Ct =>
 ∃ Cu, Cs = .returned (.int .i64 Cu) /\
 ((decide ((Cu : Int) = 0)) = true ->
 Calls P 26 ⟨[.slice bm bn bo]⟩ Ct fun Cv Cw =>
 ∃ Cx, Cv = .returned (.bool Cx) /\
 ((decide ((0 : Int) < ((bn : Nat) : Int))) = true ->
 ∃ Cy Cz D0 D1, Loads P 31 ((⟨cd, 0, none⟩ : Addr).add 1) (.agg #[.bool Cy, .slice Cz D0 D1]) Cw /\ Calls P 25 ⟨[.agg #[.bool Cy, .slice Cz D0 D1]]⟩ Cw fun D2 D3 =>
 ∃ D4, D2 = .returned (.int .i64 D4) /\
 R (.bool (Cx == (decide ((D4 : Int) = 0)))) D3) /\
 ((decide ((0 : Int) < ((bn : Nat) : Int))) = false ->
 R (.bool (Cx == false)) Cw)) /\
 ((decide ((Cu : Int) = 0)) = false ->
 R (.bool false) Ct))) /\
 ((decide ((((bn : Nat) : Int) : Int) <= b4)) = false ->
 (false = true ->
 Calls P 26 ⟨[.slice bm bn bo]⟩ wv_41 fun D5 D6 =>
 ∃ D7, D5 = .returned (.bool D7) /\
 ((decide ((0 : Int) < ((bn : Nat) : Int))) = true ->
 ∃ D8 D9 Da Db, Loads P 31 ((⟨cd, 0, none⟩ : Addr).add 1) (.agg #[.bool D8, .slice D9 Da Db]) D6 /\ Calls P 25 ⟨[.agg #[.bool D8, .slice D9 Da Db]]⟩ D6 fun Dc Dd =>
 ∃ De, Dc = .returned (.int .i64 De) /\
 R (.bool (D7 == (decide ((De : Int) = 0)))) Dd) /\
 ((decide ((0 : Int) < ((bn : Nat) : Int))) = false ->
 R (.bool (D7 == false)) D6)) /\
 (false = false ->
 R (.bool false) wv_41))) /\
 (false = false ->
 (false = true ->
 ((decide ((((bn : Nat) : Int) : Int) = b4)) = true ->
 (true = true ->
 Calls P 26 ⟨[.slice bm bn bo]⟩ wv_41 fun Df Dg =>
 ∃ Dh, Df = .returned (.bool Dh) /\
 ((decide ((0 : Int) < ((bn : Nat) : Int))) = true ->
 ∃ Di Dj Dk Dl, Loads P 31 ((⟨cd, 0, none⟩ : Addr).add 1) (.agg #[.bool Di, .slice Dj Dk Dl]) Dg /\ Calls P 25 ⟨[.agg #[.bool Di, .slice Dj Dk Dl]]⟩ Dg fun Dm Dn =>
 ∃ Do, Dm = .returned (.int .i64 Do) /\
 R (.bool (Dh == (decide ((Do : Int) = 0)))) Dn) /\
 ((decide ((0 : Int) < ((bn : Nat) : Int))) = false ->
 R (.bool (Dh == false)) Dg)) /\
 (true = false ->
 R (.bool false) wv_41)) /\
 ((decide ((((bn : Nat) : Int) : Int) = b4)) = false ->
 ∃ Dp Dq Dr Ds, Loads P 31 ((⟨cd, 0, none⟩ : Addr).add 1) (.agg #[.bool Dp, .slice Dq Dr Ds]) wv_41 /\ Calls P 25 ⟨[.agg #[.bool Dp, .slice Dq Dr Ds]]⟩ wv_41 fun Dt Du =>
 ∃ Dv, Dt = .returned (.int .i64 Dv) /\
 ((decide ((Dv : Int) = 0)) = true ->
 Calls P 26 ⟨[.slice bm bn bo]⟩ Du fun Dw Dx =>
 ∃ Dy, Dw = .returned (.bool Dy) /\
 ((decide ((0 : Int) < ((bn : Nat) : Int))) = true ->
 ∃ Dz E0 E1 E2, Loads P 31 ((⟨cd, 0, none⟩ : Addr).add 1) (.agg #[.bool Dz, .slice E0 E1 E2]) Dx /\ Calls P 25 ⟨[.agg #[.bool Dz, .slice E0 E1 E2]]⟩ Dx fun E3 E4 =>
 ∃ E5, E3 = .returned (.int .i64 E5) /\
 R (.bool (Dy == (decide ((E5 : Int) = 0)))) E4) /\
 ((decide ((0 : Int) < ((bn : Nat) : Int))) = false ->
 R (.bool (Dy == false)) Dx)) /\
 ((decide ((Dv : Int) = 0)) = false ->
 R (.bool false) Du))) /\
 (false = false ->
 (false = true ->
 Calls P 26 ⟨[.slice bm bn bo]⟩ wv_41 fun E6 E7 =>
 ∃ E8, E6 = .returned (.bool E8) /\
 ((decide ((0 : Int) < ((bn : Nat) : Int))) = true ->
 ∃ E9 Ea Eb Ec, Loads P 31 ((⟨cd, 0, none⟩ : Addr).add 1) (.agg #[.bool E9, .slice Ea Eb Ec]) E7 /\ Calls P 25 ⟨[.agg #[.bool E9, .slice Ea Eb Ec]]⟩ E7 fun Ed Ee =>
 ∃ Ef, Ed = .returned (.int .i64 Ef) /\
 R (.bool (E8 == (decide ((Ef : Int) = 0)))) Ee) /\
 ((decide ((0 : Int) < ((bn : Nat) : Int))) = false ->
 R (.bool (E8 == false)) E7)) /\
 (false = false ->
 R (.bool false) wv_41))))) /\
 (g7 = false ->
 (false = true ->
 ∃ Eg Eh Ei Ej Ek, Loads P 33 ⟨g8, 0, none⟩ (.agg #[.string Eg, .bool Eh, .slice Ei Ej Ek]) wv_41 /\ ∃ El Em En Eo Ep, Loads P 33 ⟨gs, 0, none⟩ (.agg #[.string El, .bool Em, .slice En Eo Ep]) wv_41 /\ Calls P 24 ⟨[.agg #[.string Eg, .bool Eh, .slice Ei Ej Ek], .agg #[.string El, .bool Em, .slice En Eo Ep]]⟩ wv_41 fun Eq Er =>
 ∃ Es, Eq = .returned (.bool Es) /\
 (Es = true ->
 ((decide ((((bn : Nat) : Int) : Int) <= b4)) = true ->
 ((decide ((((bn : Nat) : Int) : Int) = b4)) = true ->
 (true = true ->
 Calls P 26 ⟨[.slice bm bn bo]⟩ Er fun Et Eu =>
 ∃ Ev, Et = .returned (.bool Ev) /\
 ((decide ((0 : Int) < ((bn : Nat) : Int))) = true ->
 ∃ Ew Ex Ey Ez, Loads P 31 ((⟨cd, 0, none⟩ : Addr).add 1) (.agg #[.bool Ew, .slice Ex Ey Ez]) Eu /\ Calls P 25 ⟨[.agg #[.bool Ew, .slice Ex Ey Ez]]⟩ Eu fun G0 G1 =>
 ∃ G2, G0 = .returned (.int .i64 G2) /\
 R (.bool (Ev == (decide ((G2 : Int) = 0)))) G1) /\
 ((decide ((0 : Int) < ((bn : Nat) : Int))) = false ->
 R (.bool (Ev == false)) Eu)) /\
 (true = false ->
 R (.bool false) Er)) /\
 ((decide ((((bn : Nat) : Int) : Int) = b4)) = false ->
 ∃ G3 G4 G5 G6, Loads P 31 ((⟨cd, 0, none⟩ : Addr).add 1) (.agg #[.bool G3, .slice G4 G5 G6]) Er /\ Calls P 25 ⟨[.agg #[.bool G3, .slice G4 G5 G6]]⟩ Er fun G7 G8 =>
 ∃ G9, G7 = .returned (.int .i64 G9) /\
 ((decide ((G9 : Int) = 0)) = true ->
 Calls P 26 ⟨[.slice bm bn bo]⟩ G8 fun Ga Gb =>
 ∃ Gc, Ga = .returned (.bool Gc) /\
 ((decide ((0 : Int) < ((bn : Nat) : Int))) = true ->
 ∃ Gd Ge Gf Gg, Loads P 31 ((⟨cd, 0, none⟩ : Addr).add 1) (.agg #[.bool Gd, .slice Ge Gf Gg]) Gb /\ Calls P 25 ⟨[.agg #[.bool Gd, .slice Ge Gf Gg]]⟩ Gb fun Gh Gi =>
 ∃ Gj, Gh = .returned (.int .i64 Gj) /\
 R (.bool (Gc == (decide ((Gj : Int) = 0)))) Gi) /\
 ((decide ((0 : Int) < ((bn : Nat) : Int))) = false ->
 R (.bool (Gc == false)) Gb)) /\
 ((decide ((G9 : Int) = 0)) = false ->
 R (.bool false) G8))) /\
 ((decide ((((bn : Nat) : Int) : Int) <= b4)) = false ->
 (false = true ->
 Calls P 26 ⟨[.slice bm bn bo]⟩ Er fun Gk Gl =>
 ∃ Gm, Gk = .returned (.bool Gm) /\
 ((decide ((0 : Int) < ((bn : Nat) : Int))) = true ->
 ∃ Gn Go Gp Gq, Loads P 31 ((⟨cd, 0, none⟩ : Addr).add 1) (.agg #[.bool Gn, .slice Go Gp Gq]) Gl /\ Calls P 25 ⟨[.agg #[.bool Gn, .slice Go Gp Gq]]⟩ Gl fun Gr Gs =>
 ∃ Gt, Gr = .returned (.int .i64 Gt) /\
 R (.bool (Gm == (decide ((Gt : Int) = 0)))) Gs) /\
 ((decide ((0 : Int) < ((bn : Nat) : Int))) = false ->
 R (.bool (Gm == false)) Gl)) /\
 (false = false ->
 R (.bool false) Er))) /\
 (Es = false ->
 (false = true ->
 ((decide ((((bn : Nat) : Int) : Int) = b4)) = true ->
 (true = true ->
 Calls P 26 ⟨[.slice bm bn bo]⟩ Er fun Gu Gv =>
 ∃ Gw, Gu = .returned (.bool Gw) /\
 ((decide ((0 : Int) < ((bn : Nat) : Int))) = true ->
 ∃ Gx Gy Gz H0, Loads P 31 ((⟨cd, 0, none⟩ : Addr).add 1) (.agg #[.bool Gx, .slice Gy Gz H0]) Gv /\ Calls P 25 ⟨[.agg #[.bool Gx, .slice Gy Gz H0]]⟩ Gv fun H1 H2 =>
 ∃ H3, H1 = .returned (.int .i64 H3) /\
 R (.bool (Gw == (decide ((H3 : Int) = 0)))) H2) /\
 ((decide ((0 : Int) < ((bn : Nat) : Int))) = false ->
 R (.bool (Gw == false)) Gv)) /\
 (true = false ->
 R (.bool false) Er)) /\
 ((decide ((((bn : Nat) : Int) : Int) = b4)) = false ->
 ∃ H4 H5 H6 H7, Loads P 31 ((⟨cd, 0, none⟩ : Addr).add 1) (.agg #[.bool H4, .slice H5 H6 H7]) Er /\ Calls P 25 ⟨[.agg #[.bool H4, .slice H5 H6 H7]]⟩ Er fun H8 H9 =>
 ∃ Ha, H8 = .returned (.int .i64 Ha) /\
 ((decide ((Ha : Int) = 0)) = true ->
 Calls P 26 ⟨[.slice bm bn bo]⟩ H9 fun Hb Hc =>
 ∃ Hd, Hb = .returned (.bool Hd) /\
 ((decide ((0 : Int) < ((bn : Nat) : Int))) = true ->
 ∃ He Hf Hg Hh, Loads P 31 ((⟨cd, 0, none⟩ : Addr).add 1) (.agg #[.bool He, .slice Hf Hg Hh]) Hc /\ Calls P 25 ⟨[.agg #[.bool He, .slice Hf Hg Hh]]⟩ Hc fun Hi Hj =>
 ∃ Hk, Hi = .returned (.int .i64 Hk) /\
 R (.bool (Hd == (decide ((Hk : Int) = 0)))) Hj) /\
 ((decide ((0 : Int) < ((bn : Nat) : Int))) = false ->
 R (.bool (Hd == false)) Hc)) /\
 ((decide ((Ha : Int) = 0)) = false ->
 R (.bool false) H9))) /\
 (false = false ->
 (false = true ->
 Calls P 26 ⟨[.slice bm bn bo]⟩ Er fun Hl Hm =>
 ∃ Hn, Hl = .returned (.bool Hn) /\
 ((decide ((0 : Int) < ((bn : Nat) : Int))) = true ->
 ∃ Ho Hp Hq Hr, Loads P 31 ((⟨cd, 0, none⟩ : Addr).add 1) (.agg #[.bool Ho, .slice Hp Hq Hr]) Hm /\ Calls P 25 ⟨[.agg #[.bool Ho, .slice Hp Hq Hr]]⟩ Hm fun Hs Ht =>
 ∃ Hu, Hs = .returned (.int .i64 Hu) /\
 R (.bool (Hn == (decide ((Hu : Int) = 0)))) Ht) /\
 ((decide ((0 : Int) < ((bn : Nat) : Int))) = false ->
 R (.bool (Hn == false)) Hm)) /\
 (false = false ->
 R (.bool false) Er)))) /\
 (false = false ->
 (false = true ->
 ((decide ((((bn : Nat) : Int) : Int) <= b4)) = true ->
 ((decide ((((bn : Nat) : Int) : Int) = b4)) = true ->
 (true = true ->
 Calls P 26 ⟨[.slice bm bn bo]⟩ wv_41 fun Hv Hw =>
 ∃ Hx, Hv = .returned (.bool Hx) /\
 ((decide ((0 : Int) < ((bn : Nat) : Int))) = true ->
 ∃ Hy Hz J0 J1, Loads P 31 ((⟨cd, 0, none⟩ : Addr).add 1) (.agg #[.bool Hy, .slice Hz J0 J1]) Hw /\ Calls P 25 ⟨[.agg #[.bool Hy, .slice Hz J0 J1]]⟩ Hw fun J2 J3 =>
 ∃ J4, J2 = .returned (.int .i64 J4) /\
 R (.bool (Hx == (decide ((J4 : Int) = 0)))) J3) /\
 ((decide ((0 : Int) < ((bn : Nat) : Int))) = false ->
 R (.bool (Hx == false)) Hw)) /\
 (true = false ->
 R (.bool false) wv_41)) /\
 ((decide ((((bn : Nat) : Int) : Int) = b4)) = false ->
 ∃ J5 J6 J7 J8, Loads P 31 ((⟨cd, 0, none⟩ : Addr).add 1) (.agg #[.bool J5, .slice J6 J7 J8]) wv_41 /\ Calls P 25 ⟨[.agg #[.bool J5, .slice J6 J7 J8]]⟩ wv_41 fun J9 Ja =>
 ∃ Jb, J9 = .returned (.int .i64 Jb) /\
 ((decide ((Jb : Int) = 0)) = true ->
 Calls P 26 ⟨[.slice bm bn bo]⟩ Ja fun Jc Jd =>
 ∃ Je, Jc = .returned (.bool Je) /\
 ((decide ((0 : Int) < ((bn : Nat) : Int))) = true ->
 ∃ Jf Jg Jh Ji, Loads P 31 ((⟨cd, 0, none⟩ : Addr).add 1) (.agg #[.bool Jf, .slice Jg Jh Ji]) Jd /\ Calls P 25 ⟨[.agg #[.bool Jf, .slice Jg Jh Ji]]⟩ Jd fun Jj Jk =>
 ∃ Jl, Jj = .returned (.int .i64 Jl) /\
 R (.bool (Je == (decide ((Jl : Int) = 0)))) Jk) /\
 ((decide ((0 : Int) < ((bn : Nat) : Int))) = false ->
 R (.bool (Je == false)) Jd)) /\
 ((decide ((Jb : Int) = 0)) = false ->
 R (.bool false) Ja))) /\
 ((decide ((((bn : Nat) : Int) : Int) <= b4)) = false ->
 (false = true ->
 Calls P 26 ⟨[.slice bm bn bo]⟩ wv_41 fun Jm Jn =>
 ∃ Jo, Jm = .returned (.bool Jo) /\
 ((decide ((0 : Int) < ((bn : Nat) : Int))) = true ->
 ∃ Jp Jq Jr Js, Loads P 31 ((⟨cd, 0, none⟩ : Addr).add 1) (.agg #[.bool Jp, .slice Jq Jr Js]) Jn /\ Calls P 25 ⟨[.agg #[.bool Jp, .slice Jq Jr Js]]⟩ Jn fun Jt Ju =>
 ∃ Jv, Jt = .returned (.int .i64 Jv) /\
 R (.bool (Jo == (decide ((Jv : Int) = 0)))) Ju) /\
 ((decide ((0 : Int) < ((bn : Nat) : Int))) = false ->
 R (.bool (Jo == false)) Jn)) /\
 (false = false ->
 R (.bool false) wv_41))) /\
 (false = false ->
 (false = true ->
 ((decide ((((bn : Nat) : Int) : Int) = b4)) = true ->
 (true = true ->
 Calls P 26 ⟨[.slice bm bn bo]⟩ wv_41 fun Jw Jx =>
 ∃ Jy, Jw = .returned (.bool Jy) /\
 ((decide ((0 : Int) < ((bn : Nat) : Int))) = true ->
 ∃ Jz K0 K1 K2, Loads P 31 ((⟨cd, 0, none⟩ : Addr).add 1) (.agg #[.bool Jz, .slice K0 K1 K2]) Jx /\ Calls P 25 ⟨[.agg #[.bool Jz, .slice K0 K1 K2]]⟩ Jx fun K3 K4 =>
 ∃ K5, K3 = .returned (.int .i64 K5) /\
 R (.bool (Jy == (decide ((K5 : Int) = 0)))) K4) /\
 ((decide ((0 : Int) < ((bn : Nat) : Int))) = false ->
 R (.bool (Jy == false)) Jx)) /\
 (true = false ->
 R (.bool false) wv_41)) /\
 ((decide ((((bn : Nat) : Int) : Int) = b4)) = false ->
 ∃ K6 K7 K8 K9, Loads P 31 ((⟨cd, 0, none⟩ : Addr).add 1) (.agg #[.bool K6, .slice K7 K8 K9]) wv_41 /\ Calls P 25 ⟨[.agg #[.bool K6, .slice K7 K8 K9]]⟩ wv_41 fun Ka Kb =>
 ∃ Kc, Ka = .returned (.int .i64 Kc) /\
 ((decide ((Kc : Int) = 0)) = true ->
 Calls P 26 ⟨[.slice bm bn bo]⟩ Kb fun Kd Ke =>
 ∃ Kf, Kd = .returned (.bool Kf) /\
 ((decide ((0 : Int) < ((bn : Nat) : Int))) = true ->
 ∃ Kg Kh Ki Kj, Loads P 31 ((⟨cd, 0, none⟩ : Addr).add 1) (.agg #[.bool Kg, .slice Kh Ki Kj]) Ke /\ Calls P 25 ⟨[.agg #[.bool Kg, .slice Kh Ki Kj]]⟩ Ke fun Kk Kl =>
 ∃ Km, Kk = .returned (.int .i64 Km) /\
 R (.bool (Kf == (decide ((Km : Int) = 0)))) Kl) /\
 ((decide ((0 : Int) < ((bn : Nat) : Int))) = false ->
 R (.bool (Kf == false)) Ke)) /\
 ((decide ((Kc : Int) = 0)) = false ->
 R (.bool false) Kb))) /\
 (false = false ->
 (false = true ->
 Calls P 26 ⟨[.slice bm bn bo]⟩ wv_41 fun Kn Ko =>
 ∃ Kp, Kn = .returned (.bool Kp) /\
 ((decide ((0 : Int) < ((bn : Nat) : Int))) = true ->
 ∃ Kq Kr Ks Kt, Loads P 31 ((⟨cd, 0, none⟩ : Addr).add 1) (.agg #[.bool Kq, .slice Kr Ks Kt]) Ko /\ Calls P 25 ⟨[.agg #[.bool Kq, .slice Kr Ks Kt]]⟩ Ko fun Ku Kv =>
 ∃ Kw, Ku = .returned (.int .i64 Kw) /\
 R (.bool (Kp == (decide ((Kw : Int) = 0)))) Kv) /\
 ((decide ((0 : Int) < ((bn : Nat) : Int))) = false ->
 R (.bool (Kp == false)) Ko)) /\
 (false = false ->
 R (.bool false) wv_41)))))) /\
 (false = false ->
 (false = true ->
 (gr = true ->
 ∃ Kx Ky Kz L0 L1, Loads P 33 ⟨g8, 0, none⟩ (.agg #[.string Kx, .bool Ky, .slice Kz L0 L1]) wv_41 /\ ∃ L2 L3 L4 L5 L6, Loads P 33 ⟨gs, 0, none⟩ (.agg #[.string L2, .bool L3, .slice L4 L5 L6]) wv_41 /\ Calls P 24 ⟨[.agg #[.string Kx, .bool Ky, .slice Kz L0 L1], .agg #[.string L2, .bool L3, .slice L4 L5 L6]]⟩ wv_41 fun L7 L8 =>
 ∃ L9, L7 = .returned (.bool L9) /\
 (L9 = true ->
 ((decide ((((bn : Nat) : Int) : Int) <= b4)) = true ->
 ((decide ((((bn : Nat) : Int) : Int) = b4)) = true ->
 (true = true ->
 Calls P 26 ⟨[.slice bm bn bo]⟩ L8 fun La Lb =>
 ∃ Lc, La = .returned (.bool Lc) /\
 ((decide ((0 : Int) < ((bn : Nat) : Int))) = true ->
 ∃ Ld Le Lf Lg, Loads P 31 ((⟨cd, 0, none⟩ : Addr).add 1) (.agg #[.bool Ld, .slice Le Lf Lg]) Lb /\ Calls P 25 ⟨[.agg #[.bool Ld, .slice Le Lf Lg]]⟩ Lb fun Lh Li =>
 ∃ Lj, Lh = .returned (.int .i64 Lj) /\
 R (.bool (Lc == (decide ((Lj : Int) = 0)))) Li) /\
 ((decide ((0 : Int) < ((bn : Nat) : Int))) = false ->
 R (.bool (Lc == false)) Lb)) /\
 (true = false ->
 R (.bool false) L8)) /\
 ((decide ((((bn : Nat) : Int) : Int) = b4)) = false ->
 ∃ Lk Ll Lm Ln, Loads P 31 ((⟨cd, 0, none⟩ : Addr).add 1) (.agg #[.bool Lk, .slice Ll Lm Ln]) L8 /\ Calls P 25 ⟨[.agg #[.bool Lk, .slice Ll Lm Ln]]⟩ L8 fun Lo Lp =>
 ∃ Lq, Lo = .returned (.int .i64 Lq) /\
 ((decide ((Lq : Int) = 0)) = true ->
 Calls P 26 ⟨[.slice bm bn bo]⟩ Lp fun Lr Ls =>
 ∃ Lt, Lr = .returned (.bool Lt) /\
 ((decide ((0 : Int) < ((bn : Nat) : Int))) = true ->
 ∃ Lu Lv Lw Lx, Loads P 31 ((⟨cd, 0, none⟩ : Addr).add 1) (.agg #[.bool Lu, .slice Lv Lw Lx]) Ls /\ Calls P 25 ⟨[.agg #[.bool Lu, .slice Lv Lw Lx]]⟩ Ls fun Ly Lz =>
 ∃ M0, Ly = .returned (.int .i64 M0) /\
 R (.bool (Lt == (decide ((M0 : Int) = 0)))) Lz) /\
 ((decide ((0 : Int) < ((bn : Nat) : Int))) = false ->
 R (.bool (Lt == false)) Ls)) /\
 ((decide ((Lq : Int) = 0)) = false ->
 R (.bool false) Lp))) /\
 ((decide ((((bn : Nat) : Int) : Int) <= b4)) = false ->
 (false = true ->
 Calls P 26 ⟨[.slice bm bn bo]⟩ L8 fun M1 M2 =>
 ∃ M3, M1 = .returned (.bool M3) /\
 ((decide ((0 : Int) < ((bn : Nat) : Int))) = true ->
 ∃ M4 M5 M6 M7, Loads P 31 ((⟨cd, 0, none⟩ : Addr).add 1) (.agg #[.bool M4, .slice M5 M6 M7]) M2 /\ Calls P 25 ⟨[.agg #[.bool M4, .slice M5 M6 M7]]⟩ M2 fun M8 M9 =>
 ∃ Ma, M8 = .returned (.int .i64 Ma) /\
 R (.bool (M3 == (decide ((Ma : Int) = 0)))) M9) /\
 ((decide ((0 : Int) < ((bn : Nat) : Int))) = false ->
 R (.bool (M3 == false)) M2)) /\
 (false = false ->
 R (.bool false) L8))) /\
 (L9 = false ->
 (false = true ->
 ((decide ((((bn : Nat) : Int) : Int) = b4)) = true ->
 (true = true ->
 Calls P 26 ⟨[.slice bm bn bo]⟩ L8 fun Mb Mc =>
 ∃ Md, Mb = .returned (.bool Md) /\
 ((decide ((0 : Int) < ((bn : Nat) : Int))) = true ->
 ∃ Me Mf Mg Mh, Loads P 31 ((⟨cd, 0, none⟩ : Addr).add 1) (.agg #[.bool Me, .slice Mf Mg Mh]) Mc /\ Calls P 25 ⟨[.agg #[.bool Me, .slice Mf Mg Mh]]⟩ Mc fun Mi Mj =>
 ∃ Mk, Mi = .returned (.int .i64 Mk) /\
 R (.bool (Md == (decide ((Mk : Int) = 0)))) Mj) /\
 ((decide ((0 : Int) < ((bn : Nat) : Int))) = false ->
 R (.bool (Md == false)) Mc)) /\
 (true = false ->
 R (.bool false) L8)) /\
 ((decide ((((bn : Nat) : Int) : Int) = b4)) = false ->
 ∃ Ml Mm Mn Mo, Loads P 31 ((⟨cd, 0, none⟩ : Addr).add 1) (.agg #[.bool Ml, .slice Mm Mn Mo]) L8 /\ Calls P 25 ⟨[.agg #[.bool Ml, .slice Mm Mn Mo]]⟩ L8 fun Mp Mq =>
 ∃ Mr, Mp = .returned (.int .i64 Mr) /\
 ((decide ((Mr : Int) = 0)) = true ->
 Calls P 26 ⟨[.slice bm bn bo]⟩ Mq fun Ms Mt =>
 ∃ Mu, Ms = .returned (.bool Mu) /\
 ((decide ((0 : Int) < ((bn : Nat) : Int))) = true ->
 ∃ Mv Mw Mx My, Loads P 31 ((⟨cd, 0, none⟩ : Addr).add 1) (.agg #[.bool Mv, .slice Mw Mx My]) Mt /\ Calls P 25 ⟨[.agg #[.bool Mv, .slice Mw Mx My]]⟩ Mt fun Mz N0 =>
 ∃ N1, Mz = .returned (.int .i64 N1) /\
 R (.bool (Mu == (decide ((N1 : Int) = 0)))) N0) /\
 ((decide ((0 : Int) < ((bn : Nat) : Int))) = false ->
 R (.bool (Mu == false)) Mt)) /\
 ((decide ((Mr : Int) = 0)) = false ->
 R (.bool false) Mq))) /\
 (false = false ->
 (false = true ->
 Calls P 26 ⟨[.slice bm bn bo]⟩ L8 fun N2 N3 =>
 ∃ N4, N2 = .returned (.bool N4) /\
 ((decide ((0 : Int) < ((bn : Nat) : Int))) = true ->
 ∃ N5 N6 N7 N8, Loads P 31 ((⟨cd, 0, none⟩ : Addr).add 1) (.agg #[.bool N5, .slice N6 N7 N8]) N3 /\ Calls P 25 ⟨[.agg #[.bool N5, .slice N6 N7 N8]]⟩ N3 fun N9 Na =>
 ∃ Nb, N9 = .returned (.int .i64 Nb) /\
 R (.bool (N4 == (decide ((Nb : Int) = 0)))) Na) /\
 ((decide ((0 : Int) < ((bn : Nat) : Int))) = false ->
 R (.bool (N4 == false)) N3)) /\
 (false = false ->
 R (.bool false) L8)))) /\
 (gr = false ->
 (false = true ->
 ((decide ((((bn : Nat) : Int) : Int) <= b4)) = true ->
 ((decide ((((bn : Nat) : Int) : Int) = b4)) = true ->
 (true = true ->
 Calls P 26 ⟨[.slice bm bn bo]⟩ wv_41 fun Nc Nd =>
 ∃ Ne, Nc = .returned (.bool Ne) /\
 ((decide ((0 : Int) < ((bn : Nat) : Int))) = true ->
 ∃ Nf Ng Nh Ni, Loads P 31 ((⟨cd, 0, none⟩ : Addr).add 1) (.agg #[.bool Nf, .slice Ng Nh Ni]) Nd /\ Calls P 25 ⟨[.agg #[.bool Nf, .slice Ng Nh Ni]]⟩ Nd fun Nj Nk =>
 ∃ Nl, Nj = .returned (.int .i64 Nl) /\
 R (.bool (Ne == (decide ((Nl : Int) = 0)))) Nk) /\
 ((decide ((0 : Int) < ((bn : Nat) : Int))) = false ->
 R (.bool (Ne == false)) Nd)) /\
 (true = false ->
 R (.bool false) wv_41)) /\
 ((decide ((((bn : Nat) : Int) : Int) = b4)) = false ->
 ∃ Nm Nn No Np, Loads P 31 ((⟨cd, 0, none⟩ : Addr).add 1) (.agg #[.bool Nm, .slice Nn No Np]) wv_41 /\ Calls P 25 ⟨[.agg #[.bool Nm, .slice Nn No Np]]⟩ wv_41 fun Nq Nr =>
 ∃ Ns, Nq = .returned (.int .i64 Ns) /\
 ((decide ((Ns : Int) = 0)) = true ->
 Calls P 26 ⟨[.slice bm bn bo]⟩ Nr fun Nt Nu =>
 ∃ Nv, Nt = .returned (.bool Nv) /\
 ((decide ((0 : Int) < ((bn : Nat) : Int))) = true ->
 ∃ Nw Nx Ny Nz, Loads P 31 ((⟨cd, 0, none⟩ : Addr).add 1) (.agg #[.bool Nw, .slice Nx Ny Nz]) Nu /\ Calls P 25 ⟨[.agg #[.bool Nw, .slice Nx Ny Nz]]⟩ Nu fun O0 O1 =>
 ∃ O2, O0 = .returned (.int .i64 O2) /\
 R (.bool (Nv == (decide ((O2 : Int) = 0)))) O1) /\
 ((decide ((0 : Int) < ((bn : Nat) : Int))) = false ->
 R (.bool (Nv == false)) Nu)) /\
 ((decide ((Ns : Int) = 0)) = false ->
 R (.bool false) Nr))) /\
 ((decide ((((bn : Nat) : Int) : Int) <= b4)) = false ->
 (false = true ->
 Calls P 26 ⟨[.slice bm bn bo]⟩ wv_41 fun O3 O4 =>
 ∃ O5, O3 = .returned (.bool O5) /\
 ((decide ((0 : Int) < ((bn : Nat) : Int))) = true ->
 ∃ O6 O7 O8 O9, Loads P 31 ((⟨cd, 0, none⟩ : Addr).add 1) (.agg #[.bool O6, .slice O7 O8 O9]) O4 /\ Calls P 25 ⟨[.agg #[.bool O6, .slice O7 O8 O9]]⟩ O4 fun Oa Ob =>
 ∃ Oc, Oa = .returned (.int .i64 Oc) /\
 R (.bool (O5 == (decide ((Oc : Int) = 0)))) Ob) /\
 ((decide ((0 : Int) < ((bn : Nat) : Int))) = false ->
 R (.bool (O5 == false)) O4)) /\
 (false = false ->
 R (.bool false) wv_41))) /\
 (false = false ->
 (false = true ->
 ((decide ((((bn : Nat) : Int) : Int) = b4)) = true ->
 (true = true ->
 Calls P 26 ⟨[.slice bm bn bo]⟩ wv_41 fun Od Oe =>
 ∃ Of, Od = .returned (.bool Of) /\
 ((decide ((0 : Int) < ((bn : Nat) : Int))) = true ->
 ∃ Og Oh Oi Oj, Loads P 31 ((⟨cd, 0, none⟩ : Addr).add 1) (.agg #[.bool Og, .slice Oh Oi Oj]) Oe /\ Calls P 25 ⟨[.agg #[.bool Og, .slice Oh Oi Oj]]⟩ Oe fun Ok Ol =>
 ∃ Om, Ok = .returned (.int .i64 Om) /\
 R (.bool (Of == (decide ((Om : Int) = 0)))) Ol) /\
 ((decide ((0 : Int) < ((bn : Nat) : Int))) = false ->
 R (.bool (Of == false)) Oe)) /\
 (true = false ->
 R (.bool false) wv_41)) /\
 ((decide ((((bn : Nat) : Int) : Int) = b4)) = false ->
 ∃ On Oo Op Oq, Loads P 31 ((⟨cd, 0, none⟩ : Addr).add 1) (.agg #[.bool On, .slice Oo Op Oq]) wv_41 /\ Calls P 25 ⟨[.agg #[.bool On, .slice Oo Op Oq]]⟩ wv_41 fun Or Os =>
 ∃ Ot, Or = .returned (.int .i64 Ot) /\
 ((decide ((Ot : Int) = 0)) = true ->
 Calls P 26 ⟨[.slice bm bn bo]⟩ Os fun Ou Ov =>
 ∃ Ow, Ou = .returned (.bool Ow) /\
 ((decide ((0 : Int) < ((bn : Nat) : Int))) = true ->
 ∃ Ox Oy Oz Q0, Loads P 31 ((⟨cd, 0, none⟩ : Addr).add 1) (.agg #[.bool Ox, .slice Oy Oz Q0]) Ov /\ Calls P 25 ⟨[.agg #[.bool Ox, .slice Oy Oz Q0]]⟩ Ov fun Q1 Q2 =>
 ∃ Q3, Q1 = .returned (.int .i64 Q3) /\
 R (.bool (Ow == (decide ((Q3 : Int) = 0)))) Q2) /\
 ((decide ((0 : Int) < ((bn : Nat) : Int))) = false ->
 R (.bool (Ow == false)) Ov)) /\
 ((decide ((Ot : Int) = 0)) = false ->
 R (.bool false) Os))) /\
 (false = false ->
 (false = true ->
 Calls P 26 ⟨[.slice bm bn bo]⟩ wv_41 fun Q4 Q5 =>
 ∃ Q6, Q4 = .returned (.bool Q6) /\
 ((decide ((0 : Int) < ((bn : Nat) : Int))) = true ->
 ∃ Q7 Q8 Q9 Qa, Loads P 31 ((⟨cd, 0, none⟩ : Addr).add 1) (.agg #[.bool Q7, .slice Q8 Q9 Qa]) Q5 /\ Calls P 25 ⟨[.agg #[.bool Q7, .slice Q8 Q9 Qa]]⟩ Q5 fun Qb Qc =>
 ∃ Qd, Qb = .returned (.int .i64 Qd) /\
 R (.bool (Q6 == (decide ((Qd : Int) = 0)))) Qc) /\
 ((decide ((0 : Int) < ((bn : Nat) : Int))) = false ->
 R (.bool (Q6 == false)) Q5)) /\
 (false = false ->
 R (.bool false) wv_41))))) /\
 (false = false ->
 (false = true ->
 ∃ Qe Qf Qg Qh Qi, Loads P 33 ⟨g8, 0, none⟩ (.agg #[.string Qe, .bool Qf, .slice Qg Qh Qi]) wv_41 /\ ∃ Qj Qk Ql Qm Qn, Loads P 33 ⟨gs, 0, none⟩ (.agg #[.string Qj, .bool Qk, .slice Ql Qm Qn]) wv_41 /\ Calls P 24 ⟨[.agg #[.string Qe, .bool Qf, .slice Qg Qh Qi], .agg #[.string Qj, .bool Qk, .slice Ql Qm Qn]]⟩ wv_41 fun Qo Qp =>
 ∃ Qq, Qo = .returned (.bool Qq) /\
 (Qq = true ->
 ((decide ((((bn : Nat) : Int) : Int) <= b4)) = true ->
 ((decide ((((bn : Nat) : Int) : Int) = b4)) = true ->
 (true = true ->
 Calls P 26 ⟨[.slice bm bn bo]⟩ Qp fun Qr Qs =>
 ∃ Qt, Qr = .returned (.bool Qt) /\
 ((decide ((0 : Int) < ((bn : Nat) : Int))) = true ->
 ∃ Qu Qv Qw Qx, Loads P 31 ((⟨cd, 0, none⟩ : Addr).add 1) (.agg #[.bool Qu, .slice Qv Qw Qx]) Qs /\ Calls P 25 ⟨[.agg #[.bool Qu, .slice Qv Qw Qx]]⟩ Qs fun Qy Qz =>
 ∃ S0, Qy = .returned (.int .i64 S0) /\
 R (.bool (Qt == (decide ((S0 : Int) = 0)))) Qz) /\
 ((decide ((0 : Int) < ((bn : Nat) : Int))) = false ->
 R (.bool (Qt == false)) Qs)) /\
 (true = false ->
 R (.bool false) Qp)) /\
 ((decide ((((bn : Nat) : Int) : Int) = b4)) = false ->
 ∃ S1 S2 S3 S4, Loads P 31 ((⟨cd, 0, none⟩ : Addr).add 1) (.agg #[.bool S1, .slice S2 S3 S4]) Qp /\ Calls P 25 ⟨[.agg #[.bool S1, .slice S2 S3 S4]]⟩ Qp fun S5 S6 =>
 ∃ S7, S5 = .returned (.int .i64 S7) /\
 ((decide ((S7 : Int) = 0)) = true ->
 Calls P 26 ⟨[.slice bm bn bo]⟩ S6 fun S8 S9 =>
 ∃ Sa, S8 = .returned (.bool Sa) /\
 ((decide ((0 : Int) < ((bn : Nat) : Int))) = true ->
 ∃ Sb Sc Sd Se, Loads P 31 ((⟨cd, 0, none⟩ : Addr).add 1) (.agg #[.bool Sb, .slice Sc Sd Se]) S9 /\ Calls P 25 ⟨[.agg #[.bool Sb, .slice Sc Sd Se]]⟩ S9 fun Sf Sg =>
 ∃ Sh, Sf = .returned (.int .i64 Sh) /\
 R (.bool (Sa == (decide ((Sh : Int) = 0)))) Sg) /\
 ((decide ((0 : Int) < ((bn : Nat) : Int))) = false ->
 R (.bool (Sa == false)) S9)) /\
 ((decide ((S7 : Int) = 0)) = false ->
 R (.bool false) S6))) /\
 ((decide ((((bn : Nat) : Int) : Int) <= b4)) = false ->
 (false = true ->
 Calls P 26 ⟨[.slice bm bn bo]⟩ Qp fun Si Sj =>
 ∃ Sk, Si = .returned (.bool Sk) /\
 ((decide ((0 : Int) < ((bn : Nat) : Int))) = true ->
 ∃ Sl Sm Sn So, Loads P 31 ((⟨cd, 0, none⟩ : Addr).add 1) (.agg #[.bool Sl, .slice Sm Sn So]) Sj /\ Calls P 25 ⟨[.agg #[.bool Sl, .slice Sm Sn So]]⟩ Sj fun Sp Sq =>
 ∃ Sr, Sp = .returned (.int .i64 Sr) /\
 R (.bool (Sk == (decide ((Sr : Int) = 0)))) Sq) /\
 ((decide ((0 : Int) < ((bn : Nat) : Int))) = false ->
 R (.bool (Sk == false)) Sj)) /\
 (false = false ->
 R (.bool false) Qp))) /\
 (Qq = false ->
 (false = true ->
 ((decide ((((bn : Nat) : Int) : Int) = b4)) = true ->
 (true = true ->
 Calls P 26 ⟨[.slice bm bn bo]⟩ Qp fun Ss St =>
 ∃ Su, Ss = .returned (.bool Su) /\
 ((decide ((0 : Int) < ((bn : Nat) : Int))) = true ->
 ∃ Sv Sw Sx Sy, Loads P 31 ((⟨cd, 0, none⟩ : Addr).add 1) (.agg #[.bool Sv, .slice Sw Sx Sy]) St /\ Calls P 25 ⟨[.agg #[.bool Sv, .slice Sw Sx Sy]]⟩ St fun Sz T0 =>
 ∃ T1, Sz = .returned (.int .i64 T1) /\
 R (.bool (Su == (decide ((T1 : Int) = 0)))) T0) /\
 ((decide ((0 : Int) < ((bn : Nat) : Int))) = false ->
 R (.bool (Su == false)) St)) /\
 (true = false ->
 R (.bool false) Qp)) /\
 ((decide ((((bn : Nat) : Int) : Int) = b4)) = false ->
 ∃ T2 T3 T4 T5, Loads P 31 ((⟨cd, 0, none⟩ : Addr).add 1) (.agg #[.bool T2, .slice T3 T4 T5]) Qp /\ Calls P 25 ⟨[.agg #[.bool T2, .slice T3 T4 T5]]⟩ Qp fun T6 T7 =>
 ∃ T8, T6 = .returned (.int .i64 T8) /\
 ((decide ((T8 : Int) = 0)) = true ->
 Calls P 26 ⟨[.slice bm bn bo]⟩ T7 fun T9 Ta =>
 ∃ Tb, T9 = .returned (.bool Tb) /\
 ((decide ((0 : Int) < ((bn : Nat) : Int))) = true ->
 ∃ Tc Td Te Tf, Loads P 31 ((⟨cd, 0, none⟩ : Addr).add 1) (.agg #[.bool Tc, .slice Td Te Tf]) Ta /\ Calls P 25 ⟨[.agg #[.bool Tc, .slice Td Te Tf]]⟩ Ta fun Tg Th =>
 ∃ Ti, Tg = .returned (.int .i64 Ti) /\
 R (.bool (Tb == (decide ((Ti : Int) = 0)))) Th) /\
 ((decide ((0 : Int) < ((bn : Nat) : Int))) = false ->
 R (.bool (Tb == false)) Ta)) /\
 ((decide ((T8 : Int) = 0)) = false ->
 R (.bool false) T7))) /\
 (false = false ->
 (false = true ->
 Calls P 26 ⟨[.slice bm bn bo]⟩ Qp fun Tj Tk =>
 ∃ Tl, Tj = .returned (.bool Tl) /\
 ((decide ((0 : Int) < ((bn : Nat) : Int))) = true ->
 ∃ Tm Tn To Tp, Loads P 31 ((⟨cd, 0, none⟩ : Addr).add 1) (.agg #[.bool Tm, .slice Tn To Tp]) Tk /\ Calls P 25 ⟨[.agg #[.bool Tm, .slice Tn To Tp]]⟩ Tk fun Tq Tr =>
 ∃ Ts, Tq = .returned (.int .i64 Ts) /\
 R (.bool (Tl == (decide ((Ts : Int) = 0)))) Tr) /\
 ((decide ((0 : Int) < ((bn : Nat) : Int))) = false ->
 R (.bool (Tl == false)) Tk)) /\
 (false = false ->
 R (.bool false) Qp)))) /\
 (false = false ->
 (false = true ->
 ((decide ((((bn : Nat) : Int) : Int) <= b4)) = true ->
 ((decide ((((bn : Nat) : Int) : Int) = b4)) = true ->
 (true = true ->
 Calls P 26 ⟨[.slice bm bn bo]⟩ wv_41 fun Tt Tu =>
 ∃ Tv, Tt = .returned (.bool Tv) /\
 ((decide ((0 : Int) < ((bn : Nat) : Int))) = true ->
 ∃ Tw Tx Ty Tz, Loads P 31 ((⟨cd, 0, none⟩ : Addr).add 1) (.agg #[.bool Tw, .slice Tx Ty Tz]) Tu /\ Calls P 25 ⟨[.agg #[.bool Tw, .slice Tx Ty Tz]]⟩ Tu fun U0 U1 =>
 ∃ U2, U0 = .returned (.int .i64 U2) /\
 R (.bool (Tv == (decide ((U2 : Int) = 0)))) U1) /\
 ((decide ((0 : Int) < ((bn : Nat) : Int))) = false ->
 R (.bool (Tv == false)) Tu)) /\
 (true = false ->
 R (.bool false) wv_41)) /\
 ((decide ((((bn : Nat) : Int) : Int) = b4)) = false ->
 ∃ U3 U4 U5 U6, Loads P 31 ((⟨cd, 0, none⟩ : Addr).add 1) (.agg #[.bool U3, .slice U4 U5 U6]) wv_41 /\ Calls P 25 ⟨[.agg #[.bool U3, .slice U4 U5 U6]]⟩ wv_41 fun U7 U8 =>
 ∃ U9, U7 = .returned (.int .i64 U9) /\
 ((decide ((U9 : Int) = 0)) = true ->
 Calls P 26 ⟨[.slice bm bn bo]⟩ U8 fun Ua Ub =>
 ∃ Uc, Ua = .returned (.bool Uc) /\
 ((decide ((0 : Int) < ((bn : Nat) : Int))) = true ->
 ∃ Ud Ue Uf Ug, Loads P 31 ((⟨cd, 0, none⟩ : Addr).add 1) (.agg #[.bool Ud, .slice Ue Uf Ug]) Ub /\ Calls P 25 ⟨[.agg #[.bool Ud, .slice Ue Uf Ug]]⟩ Ub fun Uh Ui =>
 ∃ Uj, Uh = .returned (.int .i64 Uj) /\
 R (.bool (Uc == (decide ((Uj : Int) = 0)))) Ui) /\
 ((decide ((0 : Int) < ((bn : Nat) : Int))) = false ->
 R (.bool (Uc == false)) Ub)) /\
 ((decide ((U9 : Int) = 0)) = false ->
 R (.bool false) U8))) /\
 ((decide ((((bn : Nat) : Int) : Int) <= b4)) = false ->
 (false = true ->
 Calls P 26 ⟨[.slice bm bn bo]⟩ wv_41 fun Uk Ul =>
 ∃ Um, Uk = .returned (.bool Um) /\
 ((decide ((0 : Int) < ((bn : Nat) : Int))) = true ->
 ∃ Un Uo Up Uq, Loads P 31 ((⟨cd, 0, none⟩ : Addr).add 1) (.agg #[.bool Un, .slice Uo Up Uq]) Ul /\ Calls P 25 ⟨[.agg #[.bool Un, .slice Uo Up Uq]]⟩ Ul fun Ur Us =>
 ∃ Ut, Ur = .returned (.int .i64 Ut) /\
 R (.bool (Um == (decide ((Ut : Int) = 0)))) Us) /\
 ((decide ((0 : Int) < ((bn : Nat) : Int))) = false ->
 R (.bool (Um == false)) Ul)) /\
 (false = false ->
 R (.bool false) wv_41))) /\
 (false = false ->
 (false = true ->
 ((decide ((((bn : Nat) : Int) : Int) = b4)) = true ->
 (true = true ->
 Calls P 26 ⟨[.slice bm bn bo]⟩ wv_41 fun Uu Uv =>
 ∃ Uw, Uu = .returned (.bool Uw) /\
 ((decide ((0 : Int) < ((bn : Nat) : Int))) = true ->
 ∃ Ux Uy Uz V0, Loads P 31 ((⟨cd, 0, none⟩ : Addr).add 1) (.agg #[.bool Ux, .slice Uy Uz V0]) Uv /\ Calls P 25 ⟨[.agg #[.bool Ux, .slice Uy Uz V0]]⟩ Uv fun V1 V2 =>
 ∃ V3, V1 = .returned (.int .i64 V3) /\
 R (.bool (Uw == (decide ((V3 : Int) = 0)))) V2) /\
 ((decide ((0 : Int) < ((bn : Nat) : Int))) = false ->
 R (.bool (Uw == false)) Uv)) /\
 (true = false ->
 R (.bool false) wv_41)) /\
 ((decide ((((bn : Nat) : Int) : Int) = b4)) = false ->
 ∃ V4 V5 V6 V7, Loads P 31 ((⟨cd, 0, none⟩ : Addr).add 1) (.agg #[.bool V4, .slice V5 V6 V7]) wv_41 /\ Calls P 25 ⟨[.agg #[.bool V4, .slice V5 V6 V7]]⟩ wv_41 fun V8 V9 =>
 ∃ Va, V8 = .returned (.int .i64 Va) /\
 ((decide ((Va : Int) = 0)) = true ->
 Calls P 26 ⟨[.slice bm bn bo]⟩ V9 fun Vb Vc =>
 ∃ Vd, Vb = .returned (.bool Vd) /\
 ((decide ((0 : Int) < ((bn : Nat) : Int))) = true ->
 ∃ Ve Vf Vg Vh, Loads P 31 ((⟨cd, 0, none⟩ : Addr).add 1) (.agg #[.bool Ve, .slice Vf Vg Vh]) Vc /\ Calls P 25 ⟨[.agg #[.bool Ve, .slice Vf Vg Vh]]⟩ Vc fun Vi Vj =>
 ∃ Vk, Vi = .returned (.int .i64 Vk) /\
 R (.bool (Vd == (decide ((Vk : Int) = 0)))) Vj) /\
 ((decide ((0 : Int) < ((bn : Nat) : Int))) = false ->
 R (.bool (Vd == false)) Vc)) /\
 ((decide ((Va : Int) = 0)) = false ->
 R (.bool false) V9))) /\
 (false = false ->
 (false = true ->
 Calls P 26 ⟨[.slice bm bn bo]⟩ wv_41 fun Vl Vm =>
 ∃ Vn, Vl = .returned (.bool Vn) /\
 ((decide ((0 : Int) < ((bn : Nat) : Int))) = true ->
 ∃ Vo Vp Vq Vr, Loads P 31 ((⟨cd, 0, none⟩ : Addr).add 1) (.agg #[.bool Vo, .slice Vp Vq Vr]) Vm /\ Calls P 25 ⟨[.agg #[.bool Vo, .slice Vp Vq Vr]]⟩ Vm fun Vs Vt =>
 ∃ Vu, Vs = .returned (.int .i64 Vu) /\
 R (.bool (Vn == (decide ((Vu : Int) = 0)))) Vt) /\
 ((decide ((0 : Int) < ((bn : Nat) : Int))) = false ->
 R (.bool (Vn == false)) Vm)) /\
 (false = false ->
 R (.bool false) wv_41)))))))))
theorem laws_FnPlan_ret {a : Option Addr} {a0 a1 : Nat} (h : laws_FnPlan a a0 a1 w R) : Ret P 4 [.slice a a0 a1] w R := Ret.of_fsem Tryz.func4 rfl (Eq.mp (show _ = fsem P Tryz.f4 (fun k => cond (Nat.beq k 13) [(59, .one (.int .i64))] ([])) _ R w from by kernel_rfl) h)
end Go.Proofs.YtbgokfhcgcoipaaGreatDoor
namespace Go.Proofs.YtbgokfhcgcoipaaGreatDoor
variable {w : World} {R : Value -> World -> Prop}
open Go Go.Proofs.YtbgokfhcgcoipaaGreatDoor.Sx
set_option maxRecDepth 100000
def spec_MakeAmount (a0 : Option Addr) (a1 a2 : Nat) (cur : ByteArray) (w : World) (R : Value -> World -> Prop) : Prop :=
 ∀ r wv, New w (.cells ⟨[.string ByteArray.empty, .bool false, .slice none 0 0]⟩ 33 (0, 0)) r wv ->
 Calls P 81 ⟨[.slice a0 a1 a2]⟩ wv fun e a3 =>
 ∃ t7, e = .returned (.pointer t7) /\
 ptrS t7 fun ad => ∃ a4, Loads P 3 (ad.add 2) (.int .i64 a4) a3 /\ ∃ a5 : Int, a5 = IntKind.wrap .i64 (a4 + 31) /\ ptrS t7 fun a6 => ∃ wv_2, Stores P 3 (a6.add 2) (.int .i64 a5) a3 wv_2 /\
 Calls P 83 ⟨[(.pointer t7), .int .i64 30000]⟩ wv_2 fun a7 a8 =>
 ∃ a9, a7 = .returned (.int .i64 a9) /\
 Calls P 82 ⟨[.int .i64 a9]⟩ a8 fun aa ab =>
 ∃ ac ae af ag, aa = .returned (.agg #[.bool ac, .slice ae af ag]) /\
 ∃ wv_5, Stores P 33 ⟨r, 0, none⟩ (.agg #[.string cur, .bool ac, .slice ae af ag]) ab wv_5 /\
 ∃ r0 r1 ah ai aj, Loads P 33 ⟨r, 0, none⟩ (.agg #[.string r0, .bool r1, .slice ah ai aj]) wv_5 /\ R (.agg #[.string r0, .bool r1, .slice ah ai aj]) wv_5
theorem spec_MakeAmount_ret {a : Option Addr} {a0 a1 : Nat} {a2 : ByteArray} (h : spec_MakeAmount a a0 a1 a2 w R) : Ret P 14 [.slice a a0 a1, .string a2] w R := Ret.of_fsem Tryz.func14 rfl (Eq.mp (show _ = fsem P Tryz.f14 (fun k => []) _ R w from by kernel_rfl) h)
def spec_MakeRate (a0 : Option Addr) (a1 a2 : Nat) (w : World) (R : Value -> World -> Prop) : Prop :=
 ∀ r wv, New w (.cells ⟨[.bool false, .slice none 0 0, .int .i64 0]⟩ 36 (0, 0)) r wv ->
 Calls P 81 ⟨[.slice a0 a1 a2]⟩ wv fun e a3 =>
 ∃ t5, e = .returned (.pointer t5) /\
 ptrS t5 fun ad => ∃ a4, Loads P 3 (ad.add 2) (.int .i64 a4) a3 /\ ∃ a5 : Int, a5 = IntKind.wrap .i64 (a4 + 7) /\ ptrS t5 fun a6 => ∃ wv_2, Stores P 3 (a6.add 2) (.int .i64 a5) a3 wv_2 /\
 Calls P 84 ⟨[(.pointer t5)]⟩ wv_2 fun a7 a8 =>
 ∃ a9 aa ab ac ae, a7 = .returned (.agg #[.bool a9, .slice aa ab ac, .int .i64 ae]) /\
 ∃ wv_4, Stores P 36 ⟨r, 0, none⟩ (.agg #[.bool a9, .slice aa ab ac, .int .i64 ae]) a8 wv_4 /\
 ∃ r0 af ag ah r2, Loads P 36 ⟨r, 0, none⟩ (.agg #[.bool r0, .slice af ag ah, .int .i64 r2]) wv_4 /\ R (.agg #[.bool r0, .slice af ag ah, .int .i64 r2]) wv_4
theorem spec_MakeRate_ret {a : Option Addr} {a0 a1 : Nat} (h : spec_MakeRate a a0 a1 w R) : Ret P 15 [.slice a a0 a1] w R := Ret.of_fsem Tryz.func15 rfl (Eq.mp (show _ = fsem P Tryz.f15 (fun k => []) _ R w from by kernel_rfl) h)
def impl_MoneyOf (cur : ByteArray) (n : Int) (w : World) (R : Value -> World -> Prop) : Prop :=
 ∀ r wv, New w (.cells ⟨[.string ByteArray.empty, .bool false, .slice none 0 0]⟩ 33 (0, 0)) r wv ->
 Calls P 32 ⟨[.int .i64 n]⟩ wv fun e a0 =>
 ∃ a1 a2 a3 a4, e = .returned (.agg #[.bool a1, .slice a2 a3 a4]) /\
 Calls P 85 ⟨[.string cur, .agg #[.bool a1, .slice a2 a3 a4]]⟩ a0 fun a5 a6 =>
 ∃ a7 a8 a9 aa ab t9, a5 = .returned (.tuple #[.agg #[.string a7, .bool a8, .slice a9 aa ab], .bool t9]) /\
 ∃ wv_3, Stores P 33 ⟨r, 0, none⟩ (.agg #[.string a7, .bool a8, .slice a9 aa ab]) a6 wv_3 /\
 ∃ r0 r1 ac ae af, Loads P 33 ⟨r, 0, none⟩ (.agg #[.string r0, .bool r1, .slice ac ae af]) wv_3 /\ R (.tuple #[.agg #[.string r0, .bool r1, .slice ac ae af], .bool t9]) wv_3
theorem impl_MoneyOf_ret {a : ByteArray} {n : Int} (h : impl_MoneyOf a n w R) : Ret P 16 [.string a, .int .i64 n] w R := Ret.of_fsem Tryz.func16 rfl (Eq.mp (show _ = fsem P Tryz.f16 (fun k => []) _ R w from by kernel_rfl) h)
def spec_MakeNum (a0 : Option Addr) (a1 a2 : Nat) (n : Int) (w : World) (R : Value -> World -> Prop) : Prop :=
 Calls P 81 ⟨[.slice a0 a1 a2]⟩ w fun e wv =>
 ∃ t7, e = .returned (.pointer t7) /\
 ptrS t7 fun ad => ∃ a3, Loads P 3 (ad.add 2) (.int .i64 a3) wv /\ ∃ a4 : Int, a4 = IntKind.wrap .i64 (a3 + 777) /\ ptrS t7 fun a5 => ∃ wv_1, Stores P 3 (a5.add 2) (.int .i64 a4) wv wv_1 /\
 Calls P 83 ⟨[(.pointer t7), .int .i64 n]⟩ wv_1 fun a6 a7 =>
 ∃ a8, a6 = .returned (.int .i64 a8) /\
 R (.int .i64 a8) a7
theorem spec_MakeNum_ret {a : Option Addr} {a0 a1 : Nat} {n : Int} (h : spec_MakeNum a a0 a1 n w R) : Ret P 17 [.slice a a0 a1, .int .i64 n] w R := Ret.of_fsem Tryz.func17 rfl (Eq.mp (show _ = fsem P Tryz.f17 (fun k => []) _ R w from by kernel_rfl) h)
def spec_MakeMode (a0 : Option Addr) (a1 a2 : Nat) (w : World) (R : Value -> World -> Prop) : Prop :=
 Calls P 81 ⟨[.slice a0 a1 a2]⟩ w fun e wv =>
 ∃ t5, e = .returned (.pointer t5) /\
 ptrS t5 fun ad => ∃ a3, Loads P 3 (ad.add 2) (.int .i64 a3) wv /\ ∃ a4 : Int, a4 = IntKind.wrap .i64 (a3 + 13) /\ ptrS t5 fun a5 => ∃ wv_1, Stores P 3 (a5.add 2) (.int .i64 a4) wv wv_1 /\
 Calls P 83 ⟨[(.pointer t5), .int .i64 7]⟩ wv_1 fun a6 a7 =>
 ∃ a8, a6 = .returned (.int .i64 a8) /\
 R (.int .i64 a8) a7
theorem spec_MakeMode_ret {a : Option Addr} {a0 a1 : Nat} (h : spec_MakeMode a a0 a1 w R) : Ret P 18 [.slice a a0 a1] w R := Ret.of_fsem Tryz.func18 rfl (Eq.mp (show _ = fsem P Tryz.f18 (fun k => []) _ R w from by kernel_rfl) h)
def impl_PlanSums (cur : ByteArray) (a0 : Option Addr) (a1 a2 : Nat) (w : World) (R : Value -> World -> Prop) : Prop :=
 ∀ r wv, New w (.cells ⟨[.string ByteArray.empty, .bool false, .slice none 0 0]⟩ 33 (0, 0)) r wv ->
 ∀ a3 a4, New wv (.cells ⟨[.string ByteArray.empty, .bool false, .slice none 0 0]⟩ 33 (0, 0)) a3 a4 ->
 ∀ a5 a6, New a4 (.cells ⟨[]⟩ 33 (0, 0)) a5 a6 ->
 ∀ a7 a8, New a6 (.cells ⟨[]⟩ 33 (0, 0)) a7 a8 ->
 ∃ (a9 : Option Addr -> Nat -> Nat -> Option Addr -> Nat -> Nat -> Int -> World -> Prop) (mu : Option Addr -> Nat -> Nat -> Option Addr -> Nat -> Nat -> Int -> World -> Nat), a9 (some ⟨a5, 0, none⟩) 0 0 (some ⟨a7, 0, none⟩) 0 0 0 a8 /\
 ∀ (aa : Fr) (ab : World) (ac : Option Addr) (ae af : Nat) (ag : Option Addr) (ah ai : Nat) (aj : Int), a9 ac ae af ag ah ai aj ab ->
 ((decide ((aj : Int) < ((a1 : Nat) : Int))) = true ->
 (0 <= (aj : Int) /\ (aj : Int) < (a1 : Nat)) /\ ptrS a0 fun ad => ∃ ak al am an ao ap aq ar au av aw ax ay az b0, Loads P 48 (ad.add (aj.toNat * 9)) (.agg #[.string ak, .bool al, .slice am an ao, .string ap, .bool aq, .slice ar au av, .string aw, .bool ax, .slice ay az b0]) ab /\ ∀ b1 b2, New ab (.cells ⟨[.string ByteArray.empty, .bool false, .slice none 0 0, .string ByteArray.empty, .bool false, .slice none 0 0, .string ByteArray.empty, .bool false, .slice none 0 0]⟩ 48 (0, 0)) b1 b2 ->
 ∃ wv_6, Stores P 48 ⟨b1, 0, none⟩ (.agg #[.string ak, .bool al, .slice am an ao, .string ap, .bool aq, .slice ar au av, .string aw, .bool ax, .slice ay az b0]) b2 wv_6 /\
 ∃ b3 b4 b5 b6 b7, Loads P 33 ((⟨b1, 0, none⟩ : Addr).add 0) (.agg #[.string b3, .bool b4, .slice b5 b6 b7]) wv_6 /\ ∀ b8 b9, New wv_6 (.cells ⟨[.string b3, .bool b4, .slice b5 b6 b7]⟩ 33 (0, 0)) b8 b9 ->
 ∃ ba bb bc bd, Appends P [114, 114] [.slice ac ae af, (.slice (some ⟨b8, 0, none⟩) 1 1)] (.slice ba bb bc) b9 bd /\
 ∃ be bf bg bh bi, Loads P 33 ((⟨b1, 0, none⟩ : Addr).add 3) (.agg #[.string be, .bool bf, .slice bg bh bi]) bd /\ ∀ bj bk, New bd (.cells ⟨[.string be, .bool bf, .slice bg bh bi]⟩ 33 (0, 0)) bj bk ->
 ∃ bl bm bn bo, Appends P [114, 114] [.slice ag ah ai, (.slice (some ⟨bj, 0, none⟩) 1 1)] (.slice bl bm bn) bk bo /\
 ∃ bp : Int, bp = IntKind.wrap .i64 (aj + 1) /\ a9 ba bb bc bl bm bn bp bo /\ mu ba bb bc bl bm bn bp bo < mu ac ae af ag ah ai aj ab) /\
 ((decide ((aj : Int) < ((a1 : Nat) : Int))) = false ->
 Calls P 89 ⟨[.string cur, .slice ac ae af]⟩ ab fun e bq =>
 ∃ br bs bt bu bv bw, e = .returned (.tuple #[.agg #[.string br, .bool bs, .slice bt bu bv], .bool bw]) /\
 ∀ bx bz, New bq (.cells ⟨[.string ByteArray.empty, .bool false, .slice none 0 0]⟩ 33 (0, 0)) bx bz ->
 ∃ wv_13, Stores P 33 ⟨bx, 0, none⟩ (.agg #[.string br, .bool bs, .slice bt bu bv]) bz wv_13 /\
 Calls P 89 ⟨[.string cur, .slice ag ah ai]⟩ wv_13 fun c0 c1 =>
 ∃ c2 c3 c4 c5 c6 c7, c0 = .returned (.tuple #[.agg #[.string c2, .bool c3, .slice c4 c5 c6], .bool c7]) /\
 ∀ c8 c9, New c1 (.cells ⟨[.string ByteArray.empty, .bool false, .slice none 0 0]⟩ 33 (0, 0)) c8 c9 ->
 ∃ wv_16, Stores P 33 ⟨c8, 0, none⟩ (.agg #[.string c2, .bool c3, .slice c4 c5 c6]) c9 wv_16 /\
 ((!bw) = true ->
 (true = true ->
 ∃ wv_17, Stores P 33 ⟨r, 0, none⟩ (.agg #[.string ByteArray.empty, .bool false, .slice none 0 0]) wv_16 wv_17 /\
 ∃ wv_18, Stores P 33 ⟨a3, 0, none⟩ (.agg #[.string ByteArray.empty, .bool false, .slice none 0 0]) wv_17 wv_18 /\
 ∃ r0 r1 ca cb cc, Loads P 33 ⟨r, 0, none⟩ (.agg #[.string r0, .bool r1, .slice ca cb cc]) wv_18 /\ ∃ r0_1 r1_1 cd ce cf, Loads P 33 ⟨a3, 0, none⟩ (.agg #[.string r0_1, .bool r1_1, .slice cd ce cf]) wv_18 /\ R (.tuple #[.agg #[.string r0, .bool r1, .slice ca cb cc], .agg #[.string r0_1, .bool r1_1, .slice cd ce cf], .bool false]) wv_18) /\
 (true = false ->
 ∃ blks : List Nat, ∃ cg ch ci cj ck, (∀ wv_19, EX blks wv_16.drew wv_19 -> Loads P 33 ⟨bx, 0, none⟩ (.agg #[.string cg, .bool ch, .slice ci cj ck]) wv_19) /\ ∃ cl cm cn co cp, (∀ wv_20, EX blks wv_16.drew wv_20 -> Loads P 33 ⟨c8, 0, none⟩ (.agg #[.string cl, .bool cm, .slice cn co cp]) wv_20) /\ ∃ wv_21, Stores P 33 ⟨r, 0, none⟩ (.agg #[.string cg, .bool ch, .slice ci cj ck]) wv_16.drew wv_21 /\
 EX blks wv_16.drew wv_21 /\ ∃ wv_22, Stores P 33 ⟨a3, 0, none⟩ (.agg #[.string cl, .bool cm, .slice cn co cp]) wv_21 wv_22 /\
 ∃ r0_2 r1_2 cq cr cs, Loads P 33 ⟨r, 0, none⟩ (.agg #[.string r0_2, .bool r1_2, .slice cq cr cs]) wv_22 /\ ∃ r0_3 r1_3 ct cu cv, Loads P 33 ⟨a3, 0, none⟩ (.agg #[.string r0_3, .bool r1_3, .slice ct cu cv]) wv_22 /\ R (.tuple #[.agg #[.string r0_2, .bool r1_2, .slice cq cr cs], .agg #[.string r0_3, .bool r1_3, .slice ct cu cv], .bool true]) wv_22)) /\
 ((!bw) = false ->
 ((!c7) = true ->
 ∃ wv_23, Stores P 33 ⟨r, 0, none⟩ (.agg #[.string ByteArray.empty, .bool false, .slice none 0 0]) wv_16 wv_23 /\
 ∃ wv_24, Stores P 33 ⟨a3, 0, none⟩ (.agg #[.string ByteArray.empty, .bool false, .slice none 0 0]) wv_23 wv_24 /\
 ∃ r0_4 r1_4 cw cx cy, Loads P 33 ⟨r, 0, none⟩ (.agg #[.string r0_4, .bool r1_4, .slice cw cx cy]) wv_24 /\ ∃ r0_5 r1_5 cz d0 d1, Loads P 33 ⟨a3, 0, none⟩ (.agg #[.string r0_5, .bool r1_5, .slice cz d0 d1]) wv_24 /\ R (.tuple #[.agg #[.string r0_4, .bool r1_4, .slice cw cx cy], .agg #[.string r0_5, .bool r1_5, .slice cz d0 d1], .bool false]) wv_24) /\
 ((!c7) = false ->
 ∃ blks_1 : List Nat, ∃ d2 d3 d4 d5 d6, (∀ wv_25, EX blks_1 wv_16.drew wv_25 -> Loads P 33 ⟨bx, 0, none⟩ (.agg #[.string d2, .bool d3, .slice d4 d5 d6]) wv_25) /\ ∃ d7 d8 d9 da db, (∀ wv_26, EX blks_1 wv_16.drew wv_26 -> Loads P 33 ⟨c8, 0, none⟩ (.agg #[.string d7, .bool d8, .slice d9 da db]) wv_26) /\ ∃ wv_27, Stores P 33 ⟨r, 0, none⟩ (.agg #[.string d2, .bool d3, .slice d4 d5 d6]) wv_16.drew wv_27 /\
 EX blks_1 wv_16.drew wv_27 /\ ∃ wv_28, Stores P 33 ⟨a3, 0, none⟩ (.agg #[.string d7, .bool d8, .slice d9 da db]) wv_27 wv_28 /\
 ∃ r0_6 r1_6 dc dd de, Loads P 33 ⟨r, 0, none⟩ (.agg #[.string r0_6, .bool r1_6, .slice dc dd de]) wv_28 /\ ∃ r0_7 r1_7 df dg dh, Loads P 33 ⟨a3, 0, none⟩ (.agg #[.string r0_7, .bool r1_7, .slice df dg dh]) wv_28 /\ R (.tuple #[.agg #[.string r0_6, .bool r1_6, .slice dc dd de], .agg #[.string r0_7, .bool r1_7, .slice df dg dh], .bool true]) wv_28)))
theorem impl_PlanSums_ret {a : ByteArray} {a0 : Option Addr} {a1 a2 : Nat} (h : impl_PlanSums a a0 a1 a2 w R) : Ret P 20 [.string a, .slice a0 a1 a2] w R := Ret.of_fsem Tryz.func20 rfl (Eq.mp (show _ = fsem P Tryz.f20 (fun k => cond (Nat.beq k 4) [(7, .one .slice), (8, .one .slice), (19, .one (.int .i64))] ([])) _ R w from by kernel_rfl) h)
end Go.Proofs.YtbgokfhcgcoipaaGreatDoor
namespace Go.Proofs.YtbgokfhcgcoipaaGreatDoor
variable {w : World} {R : Value -> World -> Prop}
open Go Go.Proofs.YtbgokfhcgcoipaaGreatDoor.Sx
set_option maxRecDepth 100000
def impl_NextRow_j1 (a0 a1 : Nat) (a2 a3 : Nat) (a4 : World) (R : Value -> World -> Prop) : Prop :=
 ∃ a5 a6 a7 a8 a9, Loads P 33 ⟨a3, 0, none⟩ (.agg #[.string a5, .bool a6, .slice a7 a8 a9]) a4 /\ ∃ aa ab ac ae af, Loads P 33 ⟨a0, 0, none⟩ (.agg #[.string aa, .bool ab, .slice ac ae af]) a4 /\ Calls P 91 ⟨[.agg #[.string a5, .bool a6, .slice a7 a8 a9], .agg #[.string aa, .bool ab, .slice ac ae af]]⟩ a4 fun ag ah =>
 ∃ ai aj ak al am an, ag = .returned (.tuple #[.agg #[.string ai, .bool aj, .slice ak al am], .bool an]) /\
 ∀ ao ap, New ah (.cells ⟨[.string ByteArray.empty, .bool false, .slice none 0 0]⟩ 33 (0, 0)) ao ap ->
 ∃ wv_20, Stores P 33 ⟨ao, 0, none⟩ (.agg #[.string ai, .bool aj, .slice ak al am]) ap wv_20 /\
 ((!an) = true ->
 ∃ wv_21, Stores P 48 ⟨a1, 0, none⟩ (.agg #[.string ByteArray.empty, .bool false, .slice none 0 0, .string ByteArray.empty, .bool false, .slice none 0 0, .string ByteArray.empty, .bool false, .slice none 0 0]) wv_20 wv_21 /\
 ∃ r0_4 r1_3 aq ar au r3_3 r4_3 av aw ax r6_3 r7_3 ay az b0, Loads P 48 ⟨a1, 0, none⟩ (.agg #[.string r0_4, .bool r1_3, .slice aq ar au, .string r3_3, .bool r4_3, .slice av aw ax, .string r6_3, .bool r7_3, .slice ay az b0]) wv_21 /\ R (.tuple #[.agg #[.string r0_4, .bool r1_3, .slice aq ar au, .string r3_3, .bool r4_3, .slice av aw ax, .string r6_3, .bool r7_3, .slice ay az b0], .bool false]) wv_21) /\
 ((!an) = false ->
 ∃ b1 b2 b3 b4 b5, (∀ wv_22, Ext wv_20.drew wv_22 -> Loads P 33 ⟨a2, 0, none⟩ (.agg #[.string b1, .bool b2, .slice b3 b4 b5]) wv_22) /\ ∃ b6 b7 b8 b9 ba, (∀ wv_23, Ext wv_20.drew wv_23 -> Loads P 33 ⟨a0, 0, none⟩ (.agg #[.string b6, .bool b7, .slice b8 b9 ba]) wv_23) /\ Calls P 88 ⟨[.agg #[.string b6, .bool b7, .slice b8 b9 ba]]⟩ wv_20.drew fun bb bc =>
 ∃ bd be bf bg bh, bb = .returned (.agg #[.string bd, .bool be, .slice bf bg bh]) /\
 Ext wv_20.drew bc /\ ∃ bi bj bk bl bm, (∀ wv_25, Ext wv_20.drew wv_25 -> Loads P 33 ⟨ao, 0, none⟩ (.agg #[.string bi, .bool bj, .slice bk bl bm]) wv_25) /\ ∃ wv_26, Stores P 48 ⟨a1, 0, none⟩ (.agg #[.string b1, .bool b2, .slice b3 b4 b5, .string bd, .bool be, .slice bf bg bh, .string bi, .bool bj, .slice bk bl bm]) bc wv_26 /\
 ∃ r0_5 r1_4 bn bo bp r3_4 r4_4 bq br bs r6_4 r7_4 bt bu bv, Loads P 48 ⟨a1, 0, none⟩ (.agg #[.string r0_5, .bool r1_4, .slice bn bo bp, .string r3_4, .bool r4_4, .slice bq br bs, .string r6_4, .bool r7_4, .slice bt bu bv]) wv_26 /\ R (.tuple #[.agg #[.string r0_5, .bool r1_4, .slice bn bo bp, .string r3_4, .bool r4_4, .slice bq br bs, .string r6_4, .bool r7_4, .slice bt bu bv], .bool true]) wv_26)
def impl_NextRow_j0 (mode : Int) (r a0 : Nat) (a1 a2 : Nat) (W : World) (R : Value -> World -> Prop) : Prop :=
 ∃ a3 a4 a5 a6 a7, Loads P 33 ⟨r, 0, none⟩ (.agg #[.string a3, .bool a4, .slice a5 a6 a7]) W /\ ∃ a8 a9 aa ab ac, Loads P 36 ⟨a0, 0, none⟩ (.agg #[.bool a8, .slice a9 aa ab, .int .i64 ac]) W /\ Calls P 36 ⟨[.agg #[.string a3, .bool a4, .slice a5 a6 a7], .agg #[.bool a8, .slice a9 aa ab, .int .i64 ac], .int .i64 mode]⟩ W fun ae af =>
 ∃ ag ah ai aj ak al am an ao ap aq ar au, ae = .returned (.tuple #[.agg #[.string ag, .bool ah, .slice ai aj ak], .agg #[.bool al, .slice am an ao, .slice ap aq ar], .bool au]) /\
 ∀ av aw, New af (.cells ⟨[.string ByteArray.empty, .bool false, .slice none 0 0]⟩ 33 (0, 0)) av aw ->
 ∀ ax ay, New aw (.cells ⟨[.bool false, .slice none 0 0, .slice none 0 0]⟩ 60 (0, 0)) ax ay ->
 ∃ wv_9, Stores P 33 ⟨av, 0, none⟩ (.agg #[.string ag, .bool ah, .slice ai aj ak]) ay wv_9 /\
 ∃ wv_10, Stores P 60 ⟨ax, 0, none⟩ (.agg #[.bool al, .slice am an ao, .slice ap aq ar]) wv_9 wv_10 /\
 ((!au) = true ->
 ∃ wv_11, Stores P 48 ⟨a2, 0, none⟩ (.agg #[.string ByteArray.empty, .bool false, .slice none 0 0, .string ByteArray.empty, .bool false, .slice none 0 0, .string ByteArray.empty, .bool false, .slice none 0 0]) wv_10 wv_11 /\
 ∃ r0_2 r1_1 az b0 b1 r3_1 r4_1 b2 b3 b4 r6_1 r7_1 b5 b6 b7, Loads P 48 ⟨a2, 0, none⟩ (.agg #[.string r0_2, .bool r1_1, .slice az b0 b1, .string r3_1, .bool r4_1, .slice b2 b3 b4, .string r6_1, .bool r7_1, .slice b5 b6 b7]) wv_11 /\ R (.tuple #[.agg #[.string r0_2, .bool r1_1, .slice az b0 b1, .string r3_1, .bool r4_1, .slice b2 b3 b4, .string r6_1, .bool r7_1, .slice b5 b6 b7], .bool false]) wv_11) /\
 ((!au) = false ->
 ∃ b8 b9 ba bb bc, Loads P 33 ⟨r, 0, none⟩ (.agg #[.string b8, .bool b9, .slice ba bb bc]) wv_10 /\ ∃ bd be bf bg bh, Loads P 33 ⟨av, 0, none⟩ (.agg #[.string bd, .bool be, .slice bf bg bh]) wv_10 /\ Calls P 23 ⟨[.agg #[.string b8, .bool b9, .slice ba bb bc], .agg #[.string bd, .bool be, .slice bf bg bh]]⟩ wv_10 fun bi bj =>
 ∃ bk bl bm bn bo bp, bi = .returned (.tuple #[.agg #[.string bk, .bool bl, .slice bm bn bo], .bool bp]) /\
 ∀ bq br, New bj (.cells ⟨[.string ByteArray.empty, .bool false, .slice none 0 0]⟩ 33 (0, 0)) bq br ->
 ∃ wv_14, Stores P 33 ⟨bq, 0, none⟩ (.agg #[.string bk, .bool bl, .slice bm bn bo]) br wv_14 /\
 ((!bp) = true ->
 ∃ wv_15, Stores P 48 ⟨a2, 0, none⟩ (.agg #[.string ByteArray.empty, .bool false, .slice none 0 0, .string ByteArray.empty, .bool false, .slice none 0 0, .string ByteArray.empty, .bool false, .slice none 0 0]) wv_14 wv_15 /\
 ∃ r0_3 r1_2 bs bt bu r3_2 r4_2 bv bw bx r6_2 r7_2 bz c0 c1, Loads P 48 ⟨a2, 0, none⟩ (.agg #[.string r0_3, .bool r1_2, .slice bs bt bu, .string r3_2, .bool r4_2, .slice bv bw bx, .string r6_2, .bool r7_2, .slice bz c0 c1]) wv_15 /\ R (.tuple #[.agg #[.string r0_3, .bool r1_2, .slice bs bt bu, .string r3_2, .bool r4_2, .slice bv bw bx, .string r6_2, .bool r7_2, .slice bz c0 c1], .bool false]) wv_15) /\
 ((!bp) = false ->
 ∃ c2 c3 c4 c5, Loads P 31 ((⟨bq, 0, none⟩ : Addr).add 1) (.agg #[.bool c2, .slice c3 c4 c5]) wv_14 /\ ∃ c6 c7 c8 c9, Loads P 31 ((⟨a1, 0, none⟩ : Addr).add 1) (.agg #[.bool c6, .slice c7 c8 c9]) wv_14 /\ Calls P 90 ⟨[.agg #[.bool c2, .slice c3 c4 c5], .agg #[.bool c6, .slice c7 c8 c9]]⟩ wv_14 fun ca cb =>
 ∃ cc, ca = .returned (.int .i64 cc) /\
 ((decide ((cc : Int) < 0)) = true ->
 ∃ cd ce cf cg ch, Loads P 33 ⟨bq, 0, none⟩ (.agg #[.string cd, .bool ce, .slice cf cg ch]) cb /\ ∃ wv_17, Stores P 33 ⟨a1, 0, none⟩ (.agg #[.string cd, .bool ce, .slice cf cg ch]) cb wv_17 /\
 impl_NextRow_j1 a1 a2 av bq wv_17 R) /\
 ((decide ((cc : Int) < 0)) = false ->
 impl_NextRow_j1 a1 a2 av bq cb R)))
abbrev impl_NextRow_z0 (q : Nat) (x : World) (R : Value -> World -> Prop) : Prop :=
 ∃ y, Stores P 48 ⟨q, 0, none⟩ (.agg #[.string ByteArray.empty, .bool false, .slice none 0 0, .string ByteArray.empty, .bool false, .slice none 0 0, .string ByteArray.empty, .bool false, .slice none 0 0]) x y /\ ∃ r0_1 r1 au av aw r3 r4 ax ay az r6 r7 b0 b1 b2, Loads P 48 ⟨q, 0, none⟩ (.agg #[.string r0_1, .bool r1, .slice au av aw, .string r3, .bool r4, .slice ax ay az, .string r6, .bool r7, .slice b0 b1 b2]) y /\ R (.tuple #[.agg #[.string r0_1, .bool r1, .slice au av aw, .string r3, .bool r4, .slice ax ay az, .string r6, .bool r7, .slice b0 b1 b2], .bool false]) y
def impl_NextRow (left0 : ByteArray) (left1 : Bool) (a0 : Option Addr) (a1 a2 : Nat) (r0 : Bool) (a3 : Option Addr) (a4 a5 : Nat) (r2 : Int) (pay0 : ByteArray) (pay1 : Bool) (a6 : Option Addr) (a7 a8 : Nat) (mode : Int) (w : World) (R : Value -> World -> Prop) : Prop :=
 ∀ r wv, New w (.cells ⟨[.string left0, .bool left1, .slice a0 a1 a2]⟩ 33 (0, 0)) r wv ->
 ∀ a9 aa, New wv (.cells ⟨[.bool r0, .slice a3 a4 a5, .int .i64 r2]⟩ 36 (0, 0)) a9 aa ->
 ∀ ab ac, New aa (.cells ⟨[.string pay0, .bool pay1, .slice a6 a7 a8]⟩ 33 (0, 0)) ab ac ->
 ∀ ae af, New ac (.cells ⟨[.string ByteArray.empty, .bool false, .slice none 0 0, .string ByteArray.empty, .bool false, .slice none 0 0, .string ByteArray.empty, .bool false, .slice none 0 0]⟩ 48 (0, 0)) ae af ->
 ∃ ag ah ai aj ak, Loads P 33 ⟨r, 0, none⟩ (.agg #[.string ag, .bool ah, .slice ai aj ak]) af /\ ∃ al am an ao ap, Loads P 33 ⟨ab, 0, none⟩ (.agg #[.string al, .bool am, .slice an ao ap]) af /\ Calls P 86 ⟨[.agg #[.string ag, .bool ah, .slice ai aj ak], .agg #[.string al, .bool am, .slice an ao ap]]⟩ af fun e aq =>
 ∃ ar, e = .returned (.bool ar) /\
 ((!ar) = true ->
 (true = true ->
 (true = true ->
 impl_NextRow_z0 ae aq R) /\
 (true = false ->
 impl_NextRow_j0 mode r a9 ab ae aq R)) /\
 (true = false ->
 ∃ b3, Loads P 4 (((⟨ab, 0, none⟩ : Addr).add 1).add 0) (.bool b3) aq /\ (b3 = true ->
 impl_NextRow_z0 ae aq R) /\
 (b3 = false ->
 impl_NextRow_j0 mode r a9 ab ae aq R))) /\
 ((!ar) = false ->
 ∃ bd, Loads P 4 (((⟨r, 0, none⟩ : Addr).add 1).add 0) (.bool bd) aq /\ (bd = true ->
 (true = true ->
 impl_NextRow_z0 ae aq R) /\
 (true = false ->
 impl_NextRow_j0 mode r a9 ab ae aq R)) /\
 (bd = false ->
 ∃ bn, Loads P 4 (((⟨ab, 0, none⟩ : Addr).add 1).add 0) (.bool bn) aq /\ (bn = true ->
 impl_NextRow_z0 ae aq R) /\
 (bn = false ->
 impl_NextRow_j0 mode r a9 ab ae aq R)))
theorem impl_NextRow_ret {a : ByteArray} {a0 : Bool} {a1 : Option Addr} {a2 a3 : Nat} {r0 : Bool} {a4 : Option Addr} {a5 a6 : Nat} {r2 : Int} {a7 : ByteArray} {a8 : Bool} {a9 : Option Addr} {b b0 : Nat} {b1 : Int} (h : impl_NextRow a a0 a1 a2 a3 r0 a4 a5 a6 r2 a7 a8 a9 b b0 b1 w R) : Ret P 21 [.agg #[.string a, .bool a0, .slice a1 a2 a3], .agg #[.bool r0, .slice a4 a5 a6, .int .i64 r2], .agg #[.string a7, .bool a8, .slice a9 b b0], .int .i64 b1] w R := Ret.of_fsem Tryz.func21 rfl (Eq.mp (show _ = fsem P Tryz.f21 (fun k => []) _ R w from by kernel_rfl) h)
def impl_RowText (x0 : ByteArray) (x1 : Bool) (a0 : Option Addr) (a1 a2 : Nat) (x3 : ByteArray) (x4 : Bool) (a3 : Option Addr) (a4 a5 : Nat) (x6 : ByteArray) (x7 : Bool) (a6 : Option Addr) (a7 a8 : Nat) (w : World) (R : Value -> World -> Prop) : Prop :=
 ∀ r wv, New w (.cells ⟨[.string x0, .bool x1, .slice a0 a1 a2, .string x3, .bool x4, .slice a3 a4 a5, .string x6, .bool x7, .slice a6 a7 a8]⟩ 48 (0, 0)) r wv ->
 ∃ a9 aa ab ac ae, (∀ wv_1, Ext wv.drew wv_1 -> Loads P 33 ((⟨r, 0, none⟩ : Addr).add 0) (.agg #[.string a9, .bool aa, .slice ab ac ae]) wv_1) /\ Calls P 93 ⟨[.agg #[.string a9, .bool aa, .slice ab ac ae]]⟩ wv.drew fun e af =>
 ∃ t5, e = .returned (.string t5) /\
 Ext wv.drew af /\ ∃ ag ah ai aj ak, (∀ wv_3, Ext wv.drew wv_3 -> Loads P 33 ((⟨r, 0, none⟩ : Addr).add 3) (.agg #[.string ag, .bool ah, .slice ai aj ak]) wv_3) /\ Calls P 93 ⟨[.agg #[.string ag, .bool ah, .slice ai aj ak]]⟩ af fun al am =>
 ∃ t8, al = .returned (.string t8) /\
 Ext af am /\ ∃ an ao ap aq ar, (∀ wv_5, Ext wv.drew wv_5 -> Loads P 33 ((⟨r, 0, none⟩ : Addr).add 6) (.agg #[.string an, .bool ao, .slice ap aq ar]) wv_5) /\ Calls P 93 ⟨[.agg #[.string an, .bool ao, .slice ap aq ar]]⟩ am fun au av =>
 ∃ aw, au = .returned (.string aw) /\
 ∀ ax ay, New av (.cells ⟨[.string t5, .string t8, .string aw]⟩ 9 (0, 0)) ax ay ->
 Calls P 92 ⟨[(.slice (some ⟨ax, 0, none⟩) 3 3), (.string (S [32, 124, 32]))]⟩ ay fun az b0 =>
 ∃ b1, az = .returned (.string b1) /\
 R (.string b1) b0
theorem impl_RowText_ret {x0 : ByteArray} {x1 : Bool} {a : Option Addr} {a0 a1 : Nat} {x3 : ByteArray} {x4 : Bool} {a2 : Option Addr} {a3 a4 : Nat} {x6 : ByteArray} {x7 : Bool} {a5 : Option Addr} {a6 a7 : Nat} (h : impl_RowText x0 x1 a a0 a1 x3 x4 a2 a3 a4 x6 x7 a5 a6 a7 w R) : Ret P 22 [.agg #[.string x0, .bool x1, .slice a a0 a1, .string x3, .bool x4, .slice a2 a3 a4, .string x6, .bool x7, .slice a5 a6 a7]] w R := Ret.of_fsem Tryz.func22 rfl (Eq.mp (show _ = fsem P Tryz.f22 (fun k => []) _ R w from by kernel_rfl) h)
def impl_MoneyAdd (m0 : ByteArray) (m1 : Bool) (a0 : Option Addr) (a1 a2 : Nat) (n0 : ByteArray) (n1 : Bool) (a3 : Option Addr) (a4 a5 : Nat) (w : World) (R : Value -> World -> Prop) : Prop :=
 ∀ r wv, New w (.cells ⟨[.string m0, .bool m1, .slice a0 a1 a2]⟩ 33 (0, 0)) r wv ->
 ∀ a6 a7, New wv (.cells ⟨[.string n0, .bool n1, .slice a3 a4 a5]⟩ 33 (0, 0)) a6 a7 ->
 ∀ a8 a9, New a7 (.cells ⟨[.string ByteArray.empty, .bool false, .slice none 0 0]⟩ 33 (0, 0)) a8 a9 ->
 ∃ aa ab ac ae af, Loads P 33 ⟨r, 0, none⟩ (.agg #[.string aa, .bool ab, .slice ac ae af]) a9 /\ ∃ ag ah ai aj ak, Loads P 33 ⟨a6, 0, none⟩ (.agg #[.string ag, .bool ah, .slice ai aj ak]) a9 /\ Calls P 86 ⟨[.agg #[.string aa, .bool ab, .slice ac ae af], .agg #[.string ag, .bool ah, .slice ai aj ak]]⟩ a9 fun e al =>
 ∃ t8, e = .returned (.bool t8) /\
 ((!t8) = true ->
 ∃ wv_4, Stores P 33 ⟨a8, 0, none⟩ (.agg #[.string ByteArray.empty, .bool false, .slice none 0 0]) al wv_4 /\
 ∃ r0 r1 am an ao, Loads P 33 ⟨a8, 0, none⟩ (.agg #[.string r0, .bool r1, .slice am an ao]) wv_4 /\ R (.tuple #[.agg #[.string r0, .bool r1, .slice am an ao], .bool false]) wv_4) /\
 ((!t8) = false ->
 ∃ ap, (∀ wv_5, Ext al.drew wv_5 -> Loads P 9 ((⟨r, 0, none⟩ : Addr).add 0) (.string ap) wv_5) /\ ∃ aq ar au av, (∀ wv_6, Ext al.drew wv_6 -> Loads P 31 ((⟨r, 0, none⟩ : Addr).add 1) (.agg #[.bool aq, .slice ar au av]) wv_6) /\ ∃ aw ax ay az, (∀ wv_7, Ext al.drew wv_7 -> Loads P 31 ((⟨a6, 0, none⟩ : Addr).add 1) (.agg #[.bool aw, .slice ax ay az]) wv_7) /\ Calls P 94 ⟨[.agg #[.bool aq, .slice ar au av], .agg #[.bool aw, .slice ax ay az]]⟩ al.drew fun b0 b1 =>
 ∃ b2 b3 b4 b5, b0 = .returned (.agg #[.bool b2, .slice b3 b4 b5]) /\
 Ext al.drew b1 /\ Calls P 85 ⟨[.string ap, .agg #[.bool b2, .slice b3 b4 b5]]⟩ b1 fun b6 b7 =>
 ∃ b8 b9 ba bb bc bd, b6 = .returned (.tuple #[.agg #[.string b8, .bool b9, .slice ba bb bc], .bool bd]) /\
 ∃ wv_10, Stores P 33 ⟨a8, 0, none⟩ (.agg #[.string b8, .bool b9, .slice ba bb bc]) b7 wv_10 /\
 ∃ r0_1 r1_1 be bf bg, Loads P 33 ⟨a8, 0, none⟩ (.agg #[.string r0_1, .bool r1_1, .slice be bf bg]) wv_10 /\ R (.tuple #[.agg #[.string r0_1, .bool r1_1, .slice be bf bg], .bool bd]) wv_10)
theorem impl_MoneyAdd_ret {m0 : ByteArray} {m1 : Bool} {a : Option Addr} {a0 a1 : Nat} {n0 : ByteArray} {n1 : Bool} {a2 : Option Addr} {a3 a4 : Nat} (h : impl_MoneyAdd m0 m1 a a0 a1 n0 n1 a2 a3 a4 w R) : Ret P 23 [.agg #[.string m0, .bool m1, .slice a a0 a1], .agg #[.string n0, .bool n1, .slice a2 a3 a4]] w R := Ret.of_fsem Tryz.func23 rfl (Eq.mp (show _ = fsem P Tryz.f23 (fun k => []) _ R w from by kernel_rfl) h)
def impl_MoneySame (m0 : ByteArray) (m1 : Bool) (a0 : Option Addr) (a1 a2 : Nat) (n0 : ByteArray) (n1 : Bool) (a3 : Option Addr) (a4 a5 : Nat) (w : World) (R : Value -> World -> Prop) : Prop :=
 ∀ r wv, New w (.cells ⟨[.string m0, .bool m1, .slice a0 a1 a2]⟩ 33 (0, 0)) r wv ->
 ∀ a6 a7, New wv (.cells ⟨[.string n0, .bool n1, .slice a3 a4 a5]⟩ 33 (0, 0)) a6 a7 ->
 ∃ t6, Loads P 9 ((⟨r, 0, none⟩ : Addr).add 0) (.string t6) a7 /\ ∃ t8, Loads P 9 ((⟨a6, 0, none⟩ : Addr).add 0) (.string t8) a7 /\ ((decide (t6 = t8)) = true ->
 ∃ a8 a9 aa ab, Loads P 31 ((⟨r, 0, none⟩ : Addr).add 1) (.agg #[.bool a8, .slice a9 aa ab]) a7 /\ ∃ ac ae af ag, Loads P 31 ((⟨a6, 0, none⟩ : Addr).add 1) (.agg #[.bool ac, .slice ae af ag]) a7 /\ Calls P 95 ⟨[.agg #[.bool a8, .slice a9 aa ab], .agg #[.bool ac, .slice ae af ag]]⟩ a7 fun e ah =>
 ∃ ai, e = .returned (.bool ai) /\
 R (.bool ai) ah) /\
 ((decide (t6 = t8)) = false ->
 R (.bool false) a7)
theorem impl_MoneySame_ret {m0 : ByteArray} {m1 : Bool} {a : Option Addr} {a0 a1 : Nat} {n0 : ByteArray} {n1 : Bool} {a2 : Option Addr} {a3 a4 : Nat} (h : impl_MoneySame m0 m1 a a0 a1 n0 n1 a2 a3 a4 w R) : Ret P 24 [.agg #[.string m0, .bool m1, .slice a a0 a1], .agg #[.string n0, .bool n1, .slice a2 a3 a4]] w R := Ret.of_fsem Tryz.func24 rfl (Eq.mp (show _ = fsem P Tryz.f24 (fun k => []) _ R w from by kernel_rfl) h)
def impl_IntSign (x0 : Bool) (a0 : Option Addr) (a1 a2 : Nat) (w : World) (R : Value -> World -> Prop) : Prop :=
 ∀ r wv, New w (.cells ⟨[.bool x0, .slice a0 a1 a2]⟩ 31 (0, 0)) r wv ->
 ∃ a3 a4 a5 a6, Loads P 31 ⟨r, 0, none⟩ (.agg #[.bool a3, .slice a4 a5 a6]) wv /\ Calls P 96 ⟨[.agg #[.bool a3, .slice a4 a5 a6]]⟩ wv fun e a7 =>
 ∃ t4, e = .returned (.bool t4) /\
 ((!t4) = true ->
 R (.int .i64 0) a7) /\
 ((!t4) = false ->
 ∃ a8 a9 aa ab, Loads P 31 ⟨r, 0, none⟩ (.agg #[.bool a8, .slice a9 aa ab]) a7 /\ Calls P 97 ⟨[.agg #[.bool a8, .slice a9 aa ab]]⟩ a7 fun ac ae =>
 ∃ t7, ac = .returned (.int .i64 t7) /\
 R (.int .i64 t7) ae)
theorem impl_IntSign_ret {x0 : Bool} {a : Option Addr} {a0 a1 : Nat} (h : impl_IntSign x0 a a0 a1 w R) : Ret P 25 [.agg #[.bool x0, .slice a a0 a1]] w R := Ret.of_fsem Tryz.func25 rfl (Eq.mp (show _ = fsem P Tryz.f25 (fun k => []) _ R w from by kernel_rfl) h)
def impl_PlanDone (a0 : Option Addr) (a1 a2 : Nat) (w : World) (R : Value -> World -> Prop) : Prop :=
 ((decide ((0 : Int) < ((a1 : Nat) : Int))) = true ->
 ∃ a3 : Int, a3 = IntKind.wrap .i64 (((a1 : Nat) : Int) - 1) /\ (0 <= (a3 : Int) /\ (a3 : Int) < (a1 : Nat)) /\ ptrS a0 fun ad => ∃ a4 a5 a6 a7 a8, Loads P 33 ((ad.add (a3.toNat * 9)).add 6) (.agg #[.string a4, .bool a5, .slice a6 a7 a8]) w /\ Calls P 98 ⟨[.agg #[.string a4, .bool a5, .slice a6 a7 a8]]⟩ w fun e wv =>
 ∃ a9, e = .returned (.bool a9) /\
 R (.bool a9) wv) /\
 ((decide ((0 : Int) < ((a1 : Nat) : Int))) = false ->
 R (.bool false) w)
theorem impl_PlanDone_ret {a : Option Addr} {a0 a1 : Nat} (h : impl_PlanDone a a0 a1 w R) : Ret P 26 [.slice a a0 a1] w R := Ret.of_fsem Tryz.func26 rfl (Eq.mp (show _ = fsem P Tryz.f26 (fun k => []) _ R w from by kernel_rfl) h)
def impl_RatAdd (r0 : Bool) (a0 : Option Addr) (a1 a2 : Nat) (a3 : Option Addr) (a4 a5 : Nat) (s0 : Bool) (a6 : Option Addr) (a7 a8 : Nat) (a9 : Option Addr) (aa ab : Nat) (w : World) (R : Value -> World -> Prop) : Prop :=
 ∀ r wv, New w (.cells ⟨[.bool r0, .slice a0 a1 a2, .slice a3 a4 a5]⟩ 60 (0, 0)) r wv ->
 ∀ ac ae, New wv (.cells ⟨[.bool s0, .slice a6 a7 a8, .slice a9 aa ab]⟩ 60 (0, 0)) ac ae ->
 ∀ af ag, New ae (.cells ⟨[.bool false, .slice none 0 0, .slice none 0 0]⟩ 60 (0, 0)) af ag ->
 ∃ ah ai aj ak al am an, Loads P 60 ⟨r, 0, none⟩ (.agg #[.bool ah, .slice ai aj ak, .slice al am an]) ag /\ ∃ ao ap aq ar au av aw, Loads P 60 ⟨ac, 0, none⟩ (.agg #[.bool ao, .slice ap aq ar, .slice au av aw]) ag /\ Calls P 106 ⟨[.agg #[.bool ah, .slice ai aj ak, .slice al am an], .agg #[.bool ao, .slice ap aq ar, .slice au av aw]]⟩ ag fun e ax =>
 ∃ ay, e = .returned (.bool ay) /\
 ((!ay) = true ->
 ∃ wv_4, Stores P 60 ⟨af, 0, none⟩ (.agg #[.bool false, .slice none 0 0, .slice none 0 0]) ax wv_4 /\
 ∃ r0_1 az b0 b1 b2 b3 b4, Loads P 60 ⟨af, 0, none⟩ (.agg #[.bool r0_1, .slice az b0 b1, .slice b2 b3 b4]) wv_4 /\ R (.tuple #[.agg #[.bool r0_1, .slice az b0 b1, .slice b2 b3 b4], .bool false]) wv_4) /\
 ((!ay) = false ->
 ∃ b5 b6 b7 b8 b9 ba bb, (∀ wv_5, Ext ax.drew wv_5 -> Loads P 60 ⟨r, 0, none⟩ (.agg #[.bool b5, .slice b6 b7 b8, .slice b9 ba bb]) wv_5) /\ ∃ bc bd be bf bg bh bi, (∀ wv_6, Ext ax.drew wv_6 -> Loads P 60 ⟨ac, 0, none⟩ (.agg #[.bool bc, .slice bd be bf, .slice bg bh bi]) wv_6) /\ ∃ bj bk bl, (∀ wv_7, Ext ax.drew.drew wv_7 -> Loads P 29 ((⟨ac, 0, none⟩ : Addr).add 2) (.slice bj bk bl) wv_7) /\ CallW P (.func (.func 107) #[.agg #[.bool b5, .slice b6 b7 b8, .slice b9 ba bb]] #[]) [.slice bj bk bl] ax.drew.drew fun bm bn =>
 ∃ bo bp bq br, bm = .returned (.agg #[.bool bo, .slice bp bq br]) /\
 Ext ax.drew.drew bn /\ ∃ bs bt bu, (∀ wv_9, Ext ax.drew.drew wv_9 -> Loads P 29 ((⟨r, 0, none⟩ : Addr).add 2) (.slice bs bt bu) wv_9) /\ CallW P (.func (.func 107) #[.agg #[.bool bc, .slice bd be bf, .slice bg bh bi]] #[]) [.slice bs bt bu] bn fun bv bw =>
 ∃ bx bz c0 c1, bv = .returned (.agg #[.bool bx, .slice bz c0 c1]) /\
 Ext bn bw /\ Calls P 94 ⟨[.agg #[.bool bo, .slice bp bq br], .agg #[.bool bx, .slice bz c0 c1]]⟩ bw fun c2 c3 =>
 ∃ c4 c5 c6 c7, c2 = .returned (.agg #[.bool c4, .slice c5 c6 c7]) /\
 Ext bw c3 /\ ∃ c8 c9 ca, (∀ wv_12, Ext ax.drew.drew wv_12 -> Loads P 29 ((⟨r, 0, none⟩ : Addr).add 2) (.slice c8 c9 ca) wv_12) /\ ∃ cb cc cd, (∀ wv_13, Ext ax.drew.drew wv_13 -> Loads P 29 ((⟨ac, 0, none⟩ : Addr).add 2) (.slice cb cc cd) wv_13) /\ Calls P 109 ⟨[.slice c8 c9 ca, .slice cb cc cd]⟩ c3 fun ce cf =>
 ∃ cg ch ci, ce = .returned (.slice cg ch ci) /\
 Calls P 108 ⟨[.agg #[.bool c4, .slice c5 c6 c7], .slice cg ch ci]⟩ cf fun cj ck =>
 ∃ cl cm cn co cp cq cr cs, cj = .returned (.tuple #[.agg #[.bool cl, .slice cm cn co, .slice cp cq cr], .bool cs]) /\
 ∃ wv_16, Stores P 60 ⟨af, 0, none⟩ (.agg #[.bool cl, .slice cm cn co, .slice cp cq cr]) ck wv_16 /\
 ∃ r0_2 ct cu cv cw cx cy, Loads P 60 ⟨af, 0, none⟩ (.agg #[.bool r0_2, .slice ct cu cv, .slice cw cx cy]) wv_16 /\ R (.tuple #[.agg #[.bool r0_2, .slice ct cu cv, .slice cw cx cy], .bool cs]) wv_16)
theorem impl_RatAdd_ret {r0 : Bool} {a : Option Addr} {a0 a1 : Nat} {a2 : Option Addr} {a3 a4 : Nat} {s0 : Bool} {a5 : Option Addr} {a6 a7 : Nat} {a8 : Option Addr} {a9 b : Nat} (h : impl_RatAdd r0 a a0 a1 a2 a3 a4 s0 a5 a6 a7 a8 a9 b w R) : Ret P 30 [.agg #[.bool r0, .slice a a0 a1, .slice a2 a3 a4], .agg #[.bool s0, .slice a5 a6 a7, .slice a8 a9 b]] w R := Ret.of_fsem Tryz.func30 rfl (Eq.mp (show _ = fsem P Tryz.f30 (fun k => []) _ R w from by kernel_rfl) h)
def impl_RatInt (x0 : Bool) (a0 : Option Addr) (a1 a2 : Nat) (w : World) (R : Value -> World -> Prop) : Prop :=
 ∀ r wv, New w (.cells ⟨[.bool x0, .slice a0 a1 a2]⟩ 31 (0, 0)) r wv ->
 ∀ a3 a4, New wv (.cells ⟨[.bool false, .slice none 0 0, .slice none 0 0]⟩ 60 (0, 0)) a3 a4 ->
 ∃ a5 a6 a7 a8, (∀ wv_2, Ext a4.drew wv_2 -> Loads P 31 ⟨r, 0, none⟩ (.agg #[.bool a5, .slice a6 a7 a8]) wv_2) /\ Calls P 32 ⟨[.int .i64 1]⟩ a4.drew fun e a9 =>
 ∃ aa ab ac ae, e = .returned (.agg #[.bool aa, .slice ab ac ae]) /\
 Ext a4.drew a9 /\ Calls P 110 ⟨[.agg #[.bool a5, .slice a6 a7 a8], .agg #[.bool aa, .slice ab ac ae]]⟩ a9 fun af ag =>
 ∃ ah ai aj ak al am an t6, af = .returned (.tuple #[.agg #[.bool ah, .slice ai aj ak, .slice al am an], .bool t6]) /\
 ∃ wv_5, Stores P 60 ⟨a3, 0, none⟩ (.agg #[.bool ah, .slice ai aj ak, .slice al am an]) ag wv_5 /\
 ∃ r0 ao ap aq ar au av, Loads P 60 ⟨a3, 0, none⟩ (.agg #[.bool r0, .slice ao ap aq, .slice ar au av]) wv_5 /\ R (.tuple #[.agg #[.bool r0, .slice ao ap aq, .slice ar au av], .bool t6]) wv_5
theorem impl_RatInt_ret {x0 : Bool} {a : Option Addr} {a0 a1 : Nat} (h : impl_RatInt x0 a a0 a1 w R) : Ret P 31 [.agg #[.bool x0, .slice a a0 a1]] w R := Ret.of_fsem Tryz.func31 rfl (Eq.mp (show _ = fsem P Tryz.f31 (fun k => []) _ R w from by kernel_rfl) h)
def impl_IntOf (n : Int) (w : World) (R : Value -> World -> Prop) : Prop :=
 ∀ r wv, New w (.cells ⟨[.bool false, .slice none 0 0]⟩ 31 (0, 0)) r wv ->
 ((decide ((n : Int) < 0)) = true ->
 ∃ t6 : Int, t6 = IntKind.wrap .u64 n /\ ∃ t7 : Int, t7 = IntKind.wrap .u64 (0 - t6) /\ Calls P 111 ⟨[.int .u64 t7]⟩ wv fun e a0 =>
 ∃ a1 a2 a3, e = .returned (.slice a1 a2 a3) /\
 ∃ wv_2, Stores P 31 ⟨r, 0, none⟩ (.agg #[.bool true, .slice a1 a2 a3]) a0 wv_2 /\
 ∃ r0 a4 a5 a6, Loads P 31 ⟨r, 0, none⟩ (.agg #[.bool r0, .slice a4 a5 a6]) wv_2 /\ R (.agg #[.bool r0, .slice a4 a5 a6]) wv_2) /\
 ((decide ((n : Int) < 0)) = false ->
 ∃ a7 : Int, a7 = IntKind.wrap .u64 n /\ Calls P 111 ⟨[.int .u64 a7]⟩ wv fun a8 a9 =>
 ∃ aa ab ac, a8 = .returned (.slice aa ab ac) /\
 ∃ wv_4, Stores P 31 ⟨r, 0, none⟩ (.agg #[.bool false, .slice aa ab ac]) a9 wv_4 /\
 ∃ r0_1 ae af ag, Loads P 31 ⟨r, 0, none⟩ (.agg #[.bool r0_1, .slice ae af ag]) wv_4 /\ R (.agg #[.bool r0_1, .slice ae af ag]) wv_4)
theorem impl_IntOf_ret {n : Int} (h : impl_IntOf n w R) : Ret P 32 [.int .i64 n] w R := Ret.of_fsem Tryz.func32 rfl (Eq.mp (show _ = fsem P Tryz.f32 (fun k => []) _ R w from by kernel_rfl) h)
def impl_DecRat (d0 : Bool) (a0 : Option Addr) (a1 a2 : Nat) (d2 : Int) (w : World) (R : Value -> World -> Prop) : Prop :=
 ∀ r wv, New w (.cells ⟨[.bool d0, .slice a0 a1 a2, .int .i64 d2]⟩ 36 (0, 0)) r wv ->
 ∀ a3 a4, New wv (.cells ⟨[.bool false, .slice none 0 0, .slice none 0 0]⟩ 60 (0, 0)) a3 a4 ->
 ∃ a5 a6 a7 a8 a9, Loads P 36 ⟨r, 0, none⟩ (.agg #[.bool a5, .slice a6 a7 a8, .int .i64 a9]) a4 /\ Calls P 112 ⟨[.agg #[.bool a5, .slice a6 a7 a8, .int .i64 a9]]⟩ a4 fun e aa =>
 ∃ t6, e = .returned (.bool t6) /\
 ((!t6) = true ->
 ∃ wv_3, Stores P 60 ⟨a3, 0, none⟩ (.agg #[.bool false, .slice none 0 0, .slice none 0 0]) aa wv_3 /\
 ∃ r0 ab ac ae af ag ah, Loads P 60 ⟨a3, 0, none⟩ (.agg #[.bool r0, .slice ab ac ae, .slice af ag ah]) wv_3 /\ R (.agg #[.bool r0, .slice ab ac ae, .slice af ag ah]) wv_3) /\
 ((!t6) = false ->
 ∃ ai aj ak al, (∀ wv_4, Ext aa.drew wv_4 -> Loads P 31 ((⟨r, 0, none⟩ : Addr).add 0) (.agg #[.bool ai, .slice aj ak al]) wv_4) /\ ∃ am, (∀ wv_5, Ext aa.drew wv_5 -> Loads P 3 ((⟨r, 0, none⟩ : Addr).add 2) (.int .i64 am) wv_5) /\ ∀ (ss : List (Option Nat)) (an : World), Fl [.cells ⟨[.bool false, .slice none 0 0, .slice none 0 0]⟩ 60 (0, 0)] [none] aa.drew ss an ->
 Calls P 113 ⟨[.int .i64 am]⟩ an fun ao ap =>
 ∃ aq ar au, ao = .returned (.slice aq ar au) /\
 Ext an ap /\ ∀ (ss_1 : List (Option Nat)) (av : World), Fl [.cells ⟨[.bool false, .slice none 0 0, .slice none 0 0]⟩ 60 (0, 0)] ss ap ss_1 av ->
 Calls P 108 ⟨[.agg #[.bool ai, .slice aj ak al], .slice aq ar au]⟩ av fun aw ax =>
 ∃ ay az b0 b1 b2 b3 b4 b5, aw = .returned (.tuple #[.agg #[.bool ay, .slice az b0 b1, .slice b2 b3 b4], .bool b5]) /\
 ∀ (ss_2 : List (Option Nat)) (b6 : World) (b7 : Nat), Fl [.cells ⟨[.bool false, .slice none 0 0, .slice none 0 0]⟩ 60 (0, 0)] ss_1 ax ss_2 b6 -> ss_2[0]? = some (some b7) ->
 ∃ wv_11, Stores P 60 ⟨b7, 0, none⟩ (.agg #[.bool ay, .slice az b0 b1, .slice b2 b3 b4]) b6 wv_11 /\
 ∃ b8 b9 ba bb bc bd be, Loads P 60 ⟨b7, 0, none⟩ (.agg #[.bool b8, .slice b9 ba bb, .slice bc bd be]) wv_11 /\ ∃ wv_12, Stores P 60 ⟨a3, 0, none⟩ (.agg #[.bool b8, .slice b9 ba bb, .slice bc bd be]) wv_11 wv_12 /\
 ∃ r0_1 bf bg bh bi bj bk, Loads P 60 ⟨a3, 0, none⟩ (.agg #[.bool r0_1, .slice bf bg bh, .slice bi bj bk]) wv_12 /\ R (.agg #[.bool r0_1, .slice bf bg bh, .slice bi bj bk]) wv_12)
theorem impl_DecRat_ret {d0 : Bool} {a : Option Addr} {a0 a1 : Nat} {d2 : Int} (h : impl_DecRat d0 a a0 a1 d2 w R) : Ret P 33 [.agg #[.bool d0, .slice a a0 a1, .int .i64 d2]] w R := Ret.of_fsem Tryz.func33 rfl (Eq.mp (show _ = fsem P Tryz.f33 (fun k => []) _ R w from by kernel_rfl) h)
def impl_RatMul (r0 : Bool) (a0 : Option Addr) (a1 a2 : Nat) (a3 : Option Addr) (a4 a5 : Nat) (s0 : Bool) (a6 : Option Addr) (a7 a8 : Nat) (a9 : Option Addr) (aa ab : Nat) (w : World) (R : Value -> World -> Prop) : Prop :=
 ∀ r wv, New w (.cells ⟨[.bool r0, .slice a0 a1 a2, .slice a3 a4 a5]⟩ 60 (0, 0)) r wv ->
 ∀ ac ae, New wv (.cells ⟨[.bool s0, .slice a6 a7 a8, .slice a9 aa ab]⟩ 60 (0, 0)) ac ae ->
 ∀ af ag, New ae (.cells ⟨[.bool false, .slice none 0 0, .slice none 0 0]⟩ 60 (0, 0)) af ag ->
 ∃ ah ai aj ak al am an, Loads P 60 ⟨r, 0, none⟩ (.agg #[.bool ah, .slice ai aj ak, .slice al am an]) ag /\ ∃ ao ap aq ar au av aw, Loads P 60 ⟨ac, 0, none⟩ (.agg #[.bool ao, .slice ap aq ar, .slice au av aw]) ag /\ Calls P 106 ⟨[.agg #[.bool ah, .slice ai aj ak, .slice al am an], .agg #[.bool ao, .slice ap aq ar, .slice au av aw]]⟩ ag fun e ax =>
 ∃ t8, e = .returned (.bool t8) /\
 ((!t8) = true ->
 ∃ wv_4, Stores P 60 ⟨af, 0, none⟩ (.agg #[.bool false, .slice none 0 0, .slice none 0 0]) ax wv_4 /\
 ∃ r0_1 ay az b0 b1 b2 b3, Loads P 60 ⟨af, 0, none⟩ (.agg #[.bool r0_1, .slice ay az b0, .slice b1 b2 b3]) wv_4 /\ R (.tuple #[.agg #[.bool r0_1, .slice ay az b0, .slice b1 b2 b3], .bool false]) wv_4) /\
 ((!t8) = false ->
 ∃ b4 b5 b6 b7, (∀ wv_5, Ext ax.drew wv_5 -> Loads P 31 ((⟨r, 0, none⟩ : Addr).add 0) (.agg #[.bool b4, .slice b5 b6 b7]) wv_5) /\ ∃ b8 b9 ba bb, (∀ wv_6, Ext ax.drew wv_6 -> Loads P 31 ((⟨ac, 0, none⟩ : Addr).add 0) (.agg #[.bool b8, .slice b9 ba bb]) wv_6) /\ Calls P 114 ⟨[.agg #[.bool b4, .slice b5 b6 b7], .agg #[.bool b8, .slice b9 ba bb]]⟩ ax.drew fun bc bd =>
 ∃ be bf bg bh, bc = .returned (.agg #[.bool be, .slice bf bg bh]) /\
 Ext ax.drew bd /\ ∃ bi bj bk, (∀ wv_8, Ext ax.drew wv_8 -> Loads P 29 ((⟨r, 0, none⟩ : Addr).add 2) (.slice bi bj bk) wv_8) /\ ∃ bl bm bn, (∀ wv_9, Ext ax.drew wv_9 -> Loads P 29 ((⟨ac, 0, none⟩ : Addr).add 2) (.slice bl bm bn) wv_9) /\ Calls P 109 ⟨[.slice bi bj bk, .slice bl bm bn]⟩ bd fun bo bp =>
 ∃ bq br bs, bo = .returned (.slice bq br bs) /\
 Calls P 108 ⟨[.agg #[.bool be, .slice bf bg bh], .slice bq br bs]⟩ bp fun bt bu =>
 ∃ bv bw bx bz c0 c1 c2 c3, bt = .returned (.tuple #[.agg #[.bool bv, .slice bw bx bz, .slice c0 c1 c2], .bool c3]) /\
 ∃ wv_12, Stores P 60 ⟨af, 0, none⟩ (.agg #[.bool bv, .slice bw bx bz, .slice c0 c1 c2]) bu wv_12 /\
 ∃ r0_2 c4 c5 c6 c7 c8 c9, Loads P 60 ⟨af, 0, none⟩ (.agg #[.bool r0_2, .slice c4 c5 c6, .slice c7 c8 c9]) wv_12 /\ R (.tuple #[.agg #[.bool r0_2, .slice c4 c5 c6, .slice c7 c8 c9], .bool c3]) wv_12)
theorem impl_RatMul_ret {r0 : Bool} {a : Option Addr} {a0 a1 : Nat} {a2 : Option Addr} {a3 a4 : Nat} {s0 : Bool} {a5 : Option Addr} {a6 a7 : Nat} {a8 : Option Addr} {a9 b : Nat} (h : impl_RatMul r0 a a0 a1 a2 a3 a4 s0 a5 a6 a7 a8 a9 b w R) : Ret P 34 [.agg #[.bool r0, .slice a a0 a1, .slice a2 a3 a4], .agg #[.bool s0, .slice a5 a6 a7, .slice a8 a9 b]] w R := Ret.of_fsem Tryz.func34 rfl (Eq.mp (show _ = fsem P Tryz.f34 (fun k => []) _ R w from by kernel_rfl) h)
def impl_MoneyRat (m0 : ByteArray) (m1 : Bool) (a0 : Option Addr) (a1 a2 : Nat) (w : World) (R : Value -> World -> Prop) : Prop :=
 ∀ r wv, New w (.cells ⟨[.string m0, .bool m1, .slice a0 a1 a2]⟩ 33 (0, 0)) r wv ->
 ∀ a3 a4, New wv (.cells ⟨[.bool false, .slice none 0 0, .slice none 0 0]⟩ 60 (0, 0)) a3 a4 ->
 ∃ a5 a6 a7 a8 a9, Loads P 33 ⟨r, 0, none⟩ (.agg #[.string a5, .bool a6, .slice a7 a8 a9]) a4 /\ Calls P 102 ⟨[.agg #[.string a5, .bool a6, .slice a7 a8 a9]]⟩ a4 fun e aa =>
 ∃ t4, e = .returned (.bool t4) /\
 ((!t4) = true ->
 ∃ wv_3, Stores P 60 ⟨a3, 0, none⟩ (.agg #[.bool false, .slice none 0 0, .slice none 0 0]) aa wv_3 /\
 ∃ r0 ab ac ae af ag ah, Loads P 60 ⟨a3, 0, none⟩ (.agg #[.bool r0, .slice ab ac ae, .slice af ag ah]) wv_3 /\ R (.agg #[.bool r0, .slice ab ac ae, .slice af ag ah]) wv_3) /\
 ((!t4) = false ->
 ∃ ai aj ak al, Loads P 31 ((⟨r, 0, none⟩ : Addr).add 1) (.agg #[.bool ai, .slice aj ak al]) aa /\ Calls P 115 ⟨[.agg #[.bool ai, .slice aj ak al]]⟩ aa fun am an =>
 ∃ ao ap aq ar, am = .returned (.agg #[.bool ao, .slice ap aq ar]) /\
 ∀ au av, New an (.cells ⟨[.int .i64 1]⟩ 3 (0, 0)) au av ->
 ∃ wv_6, Stores P 60 ⟨a3, 0, none⟩ (.agg #[.bool ao, .slice ap aq ar, (.slice (some ⟨au, 0, none⟩) 1 1)]) av wv_6 /\
 ∃ r0_1 aw ax ay az b0 b1, Loads P 60 ⟨a3, 0, none⟩ (.agg #[.bool r0_1, .slice aw ax ay, .slice az b0 b1]) wv_6 /\ R (.agg #[.bool r0_1, .slice aw ax ay, .slice az b0 b1]) wv_6)
theorem impl_MoneyRat_ret {m0 : ByteArray} {m1 : Bool} {a : Option Addr} {a0 a1 : Nat} (h : impl_MoneyRat m0 m1 a a0 a1 w R) : Ret P 35 [.agg #[.string m0, .bool m1, .slice a a0 a1]] w R := Ret.of_fsem Tryz.func35 rfl (Eq.mp (show _ = fsem P Tryz.f35 (fun k => []) _ R w from by kernel_rfl) h)
end Go.Proofs.YtbgokfhcgcoipaaGreatDoor
namespace Go.Proofs.YtbgokfhcgcoipaaGreatDoor
variable {w : World} {R : Value -> World -> Prop}
open Go Go.Proofs.YtbgokfhcgcoipaaGreatDoor.Sx
set_option maxRecDepth 100000
def impl_TaxOn_j0 (mode : Int) (r a0 : Nat) (a1 a2 : Nat) (W : World) (R : Value -> World -> Prop) : Prop :=
 ∃ a3 a4 a5 a6 a7, (∀ wv_7, Ext W.drew wv_7 -> Loads P 33 ⟨r, 0, none⟩ (.agg #[.string a3, .bool a4, .slice a5 a6 a7]) wv_7) /\ ∀ (ss : List (Option Nat)) (a8 : World), Fl [.cells ⟨[.bool false, .slice none 0 0, .slice none 0 0]⟩ 60 (0, 0)] [none] W.drew ss a8 ->
 Calls P 35 ⟨[.agg #[.string a3, .bool a4, .slice a5 a6 a7]]⟩ a8 fun a9 aa =>
 ∃ ab ac ae af ag ah ai, a9 = .returned (.agg #[.bool ab, .slice ac ae af, .slice ag ah ai]) /\
 Ext a8 aa /\ ∃ aj ak al am an, (∀ wv_10, Ext W.drew wv_10 -> Loads P 36 ⟨a0, 0, none⟩ (.agg #[.bool aj, .slice ak al am, .int .i64 an]) wv_10) /\ ∀ (ss_1 : List (Option Nat)) (ao : World), Fl [.cells ⟨[.bool false, .slice none 0 0, .slice none 0 0]⟩ 60 (0, 0)] ss aa ss_1 ao ->
 Calls P 33 ⟨[.agg #[.bool aj, .slice ak al am, .int .i64 an]]⟩ ao fun ap aq =>
 ∃ ar au av aw ax ay az, ap = .returned (.agg #[.bool ar, .slice au av aw, .slice ax ay az]) /\
 ∀ (ss_2 : List (Option Nat)) (b0 : World), Fl [.cells ⟨[.bool false, .slice none 0 0, .slice none 0 0]⟩ 60 (0, 0)] ss_1 aq ss_2 b0 ->
 Calls P 34 ⟨[.agg #[.bool ab, .slice ac ae af, .slice ag ah ai], .agg #[.bool ar, .slice au av aw, .slice ax ay az]]⟩ b0 fun b1 b2 =>
 ∃ b3 b4 b5 b6 b7 b8 b9 ba, b1 = .returned (.tuple #[.agg #[.bool b3, .slice b4 b5 b6, .slice b7 b8 b9], .bool ba]) /\
 ∀ (ss_3 : List (Option Nat)) (bb : World) (bc : Nat), Fl [.cells ⟨[.bool false, .slice none 0 0, .slice none 0 0]⟩ 60 (0, 0)] ss_2 b2 ss_3 bb -> ss_3[0]? = some (some bc) ->
 ∃ wv_16, Stores P 60 ⟨bc, 0, none⟩ (.agg #[.bool b3, .slice b4 b5 b6, .slice b7 b8 b9]) bb wv_16 /\
 ((!ba) = true ->
 ∃ wv_17, Stores P 33 ⟨a1, 0, none⟩ (.agg #[.string ByteArray.empty, .bool false, .slice none 0 0]) wv_16 wv_17 /\
 ∃ wv_18, Stores P 60 ⟨a2, 0, none⟩ (.agg #[.bool false, .slice none 0 0, .slice none 0 0]) wv_17 wv_18 /\
 ∃ r0_3 r1_1 bd be bf, Loads P 33 ⟨a1, 0, none⟩ (.agg #[.string r0_3, .bool r1_1, .slice bd be bf]) wv_18 /\ ∃ r0_4 bg bh bi bj bk bl, Loads P 60 ⟨a2, 0, none⟩ (.agg #[.bool r0_4, .slice bg bh bi, .slice bj bk bl]) wv_18 /\ R (.tuple #[.agg #[.string r0_3, .bool r1_1, .slice bd be bf], .agg #[.bool r0_4, .slice bg bh bi, .slice bj bk bl], .bool false]) wv_18) /\
 ((!ba) = false ->
 ∃ bm, Loads P 9 ((⟨r, 0, none⟩ : Addr).add 0) (.string bm) wv_16 /\ ∃ bn bo bp bq br bs bt, Loads P 60 ⟨bc, 0, none⟩ (.agg #[.bool bn, .slice bo bp bq, .slice br bs bt]) wv_16 /\ Calls P 105 ⟨[.string bm, .agg #[.bool bn, .slice bo bp bq, .slice br bs bt], .int .i64 mode]⟩ wv_16 fun bu bv =>
 ∃ bw bx bz c0 c1 c2 c3 c4 c5 c6 c7 c8 c9, bu = .returned (.tuple #[.agg #[.string bw, .bool bx, .slice bz c0 c1], .agg #[.bool c2, .slice c3 c4 c5, .slice c6 c7 c8], .bool c9]) /\
 ∃ wv_20, Stores P 33 ⟨a1, 0, none⟩ (.agg #[.string bw, .bool bx, .slice bz c0 c1]) bv wv_20 /\
 ∃ wv_21, Stores P 60 ⟨a2, 0, none⟩ (.agg #[.bool c2, .slice c3 c4 c5, .slice c6 c7 c8]) wv_20 wv_21 /\
 ∃ r0_5 r1_2 ca cb cc, Loads P 33 ⟨a1, 0, none⟩ (.agg #[.string r0_5, .bool r1_2, .slice ca cb cc]) wv_21 /\ ∃ r0_6 cd ce cf cg ch ci, Loads P 60 ⟨a2, 0, none⟩ (.agg #[.bool r0_6, .slice cd ce cf, .slice cg ch ci]) wv_21 /\ R (.tuple #[.agg #[.string r0_5, .bool r1_2, .slice ca cb cc], .agg #[.bool r0_6, .slice cd ce cf, .slice cg ch ci], .bool c9]) wv_21)
def impl_TaxOn (net0 : ByteArray) (net1 : Bool) (a0 : Option Addr) (a1 a2 : Nat) (r0 : Bool) (a3 : Option Addr) (a4 a5 : Nat) (r2 mode : Int) (w : World) (R : Value -> World -> Prop) : Prop :=
 ∀ r wv, New w (.cells ⟨[.string net0, .bool net1, .slice a0 a1 a2]⟩ 33 (0, 0)) r wv ->
 ∀ a6 a7, New wv (.cells ⟨[.bool r0, .slice a3 a4 a5, .int .i64 r2]⟩ 36 (0, 0)) a6 a7 ->
 ∀ a8 a9, New a7 (.cells ⟨[.string ByteArray.empty, .bool false, .slice none 0 0]⟩ 33 (0, 0)) a8 a9 ->
 ∀ aa ab, New a9 (.cells ⟨[.bool false, .slice none 0 0, .slice none 0 0]⟩ 60 (0, 0)) aa ab ->
 ∃ ac ae af ag ah, Loads P 33 ⟨r, 0, none⟩ (.agg #[.string ac, .bool ae, .slice af ag ah]) ab /\ Calls P 102 ⟨[.agg #[.string ac, .bool ae, .slice af ag ah]]⟩ ab fun e ai =>
 ∃ aj, e = .returned (.bool aj) /\
 ((!aj) = true ->
 (true = true ->
 ∃ wv_5, Stores P 33 ⟨a8, 0, none⟩ (.agg #[.string ByteArray.empty, .bool false, .slice none 0 0]) ai wv_5 /\
 ∃ wv_6, Stores P 60 ⟨aa, 0, none⟩ (.agg #[.bool false, .slice none 0 0, .slice none 0 0]) wv_5 wv_6 /\
 ∃ r0_1 r1 ak al am, Loads P 33 ⟨a8, 0, none⟩ (.agg #[.string r0_1, .bool r1, .slice ak al am]) wv_6 /\ ∃ r0_2 an ao ap aq ar au, Loads P 60 ⟨aa, 0, none⟩ (.agg #[.bool r0_2, .slice an ao ap, .slice aq ar au]) wv_6 /\ R (.tuple #[.agg #[.string r0_1, .bool r1, .slice ak al am], .agg #[.bool r0_2, .slice an ao ap, .slice aq ar au], .bool false]) wv_6) /\
 (true = false ->
 impl_TaxOn_j0 mode r a6 a8 aa ai R)) /\
 ((!aj) = false ->
 ∃ av aw ax ay az, Loads P 36 ⟨a6, 0, none⟩ (.agg #[.bool av, .slice aw ax ay, .int .i64 az]) ai /\ Calls P 103 ⟨[.agg #[.bool av, .slice aw ax ay, .int .i64 az]]⟩ ai fun b0 b1 =>
 ∃ b2, b0 = .returned (.bool b2) /\
 ((!b2) = true ->
 ∃ wv_23, Stores P 33 ⟨a8, 0, none⟩ (.agg #[.string ByteArray.empty, .bool false, .slice none 0 0]) b1 wv_23 /\
 ∃ wv_24, Stores P 60 ⟨aa, 0, none⟩ (.agg #[.bool false, .slice none 0 0, .slice none 0 0]) wv_23 wv_24 /\
 ∃ r0_7 r1_3 b3 b4 b5, Loads P 33 ⟨a8, 0, none⟩ (.agg #[.string r0_7, .bool r1_3, .slice b3 b4 b5]) wv_24 /\ ∃ r0_8 b6 b7 b8 b9 ba bb, Loads P 60 ⟨aa, 0, none⟩ (.agg #[.bool r0_8, .slice b6 b7 b8, .slice b9 ba bb]) wv_24 /\ R (.tuple #[.agg #[.string r0_7, .bool r1_3, .slice b3 b4 b5], .agg #[.bool r0_8, .slice b6 b7 b8, .slice b9 ba bb], .bool false]) wv_24) /\
 ((!b2) = false ->
 impl_TaxOn_j0 mode r a6 a8 aa b1 R))
theorem impl_TaxOn_ret {a : ByteArray} {a0 : Bool} {a1 : Option Addr} {a2 a3 : Nat} {r0 : Bool} {a4 : Option Addr} {a5 a6 : Nat} {r2 a7 : Int} (h : impl_TaxOn a a0 a1 a2 a3 r0 a4 a5 a6 r2 a7 w R) : Ret P 36 [.agg #[.string a, .bool a0, .slice a1 a2 a3], .agg #[.bool r0, .slice a4 a5 a6, .int .i64 r2], .int .i64 a7] w R := Ret.of_fsem Tryz.func36 rfl (Eq.mp (show _ = fsem P Tryz.f36 (fun k => []) _ R w from by kernel_rfl) h)
def impl_DecCmp_j0 (r a0 : Nat) (W : World) (R : Value -> World -> Prop) : Prop :=
 ∃ a1, Loads P 3 ((⟨r, 0, none⟩ : Addr).add 2) (.int .i64 a1) W /\ ∃ a2, Loads P 3 ((⟨a0, 0, none⟩ : Addr).add 2) (.int .i64 a2) W /\ ∃ a3 : Int, a3 = (if a2 > a1 then a2 else a1) /\ Calls P 123 ⟨[.int .i64 a3]⟩ W fun a4 a5 =>
 ∃ (a6 : Value), a4 = .returned a6 /\
 ∃ a7 a8 a9 aa ab, (∀ wv_4, Ext a5.drew wv_4 -> Loads P 36 ⟨r, 0, none⟩ (.agg #[.bool a7, .slice a8 a9 aa, .int .i64 ab]) wv_4) /\ CallW P a6 [.agg #[.bool a7, .slice a8 a9 aa, .int .i64 ab]] a5.drew fun ac ae =>
 ∃ af ag ah ai, ac = .returned (.agg #[.bool af, .slice ag ah ai]) /\
 Ext a5.drew ae /\ ∃ aj ak al am an, (∀ wv_6, Ext a5.drew wv_6 -> Loads P 36 ⟨a0, 0, none⟩ (.agg #[.bool aj, .slice ak al am, .int .i64 an]) wv_6) /\ CallW P a6 [.agg #[.bool aj, .slice ak al am, .int .i64 an]] ae fun ao ap =>
 ∃ aq ar au av, ao = .returned (.agg #[.bool aq, .slice ar au av]) /\
 Calls P 90 ⟨[.agg #[.bool af, .slice ag ah ai], .agg #[.bool aq, .slice ar au av]]⟩ ap fun aw ax =>
 ∃ ay, aw = .returned (.int .i64 ay) /\
 R (.int .i64 ay) ax
def impl_DecCmp (d0 : Bool) (a0 : Option Addr) (a1 a2 : Nat) (d2 : Int) (e0 : Bool) (a3 : Option Addr) (a4 a5 : Nat) (e2 : Int) (w : World) (R : Value -> World -> Prop) : Prop :=
 ∀ r wv, New w (.cells ⟨[.bool d0, .slice a0 a1 a2, .int .i64 d2]⟩ 36 (0, 0)) r wv ->
 ∀ a6 a7, New wv (.cells ⟨[.bool e0, .slice a3 a4 a5, .int .i64 e2]⟩ 36 (0, 0)) a6 a7 ->
 ∃ a8 a9 aa ab ac, Loads P 36 ⟨r, 0, none⟩ (.agg #[.bool a8, .slice a9 aa ab, .int .i64 ac]) a7 /\ Calls P 112 ⟨[.agg #[.bool a8, .slice a9 aa ab, .int .i64 ac]]⟩ a7 fun e ae =>
 ∃ t7, e = .returned (.bool t7) /\
 ((!t7) = true ->
 (true = true ->
 R (.int .i64 0) ae) /\
 (true = false ->
 impl_DecCmp_j0 r a6 ae R)) /\
 ((!t7) = false ->
 ∃ af ag ah ai aj, Loads P 36 ⟨a6, 0, none⟩ (.agg #[.bool af, .slice ag ah ai, .int .i64 aj]) ae /\ Calls P 112 ⟨[.agg #[.bool af, .slice ag ah ai, .int .i64 aj]]⟩ ae fun ak al =>
 ∃ am, ak = .returned (.bool am) /\
 ((!am) = true ->
 R (.int .i64 0) al) /\
 ((!am) = false ->
 impl_DecCmp_j0 r a6 al R))
theorem impl_DecCmp_ret {d0 : Bool} {a : Option Addr} {a0 a1 : Nat} {d2 : Int} {e0 : Bool} {a2 : Option Addr} {a3 a4 : Nat} {e2 : Int} (h : impl_DecCmp d0 a a0 a1 d2 e0 a2 a3 a4 e2 w R) : Ret P 41 [.agg #[.bool d0, .slice a a0 a1, .int .i64 d2], .agg #[.bool e0, .slice a2 a3 a4, .int .i64 e2]] w R := Ret.of_fsem Tryz.func41 rfl (Eq.mp (show _ = fsem P Tryz.f41 (fun k => []) _ R w from by kernel_rfl) h)
def impl_RatSub (r0 : Bool) (a0 : Option Addr) (a1 a2 : Nat) (a3 : Option Addr) (a4 a5 : Nat) (s0 : Bool) (a6 : Option Addr) (a7 a8 : Nat) (a9 : Option Addr) (aa ab : Nat) (w : World) (R : Value -> World -> Prop) : Prop :=
 ∀ r wv, New w (.cells ⟨[.bool r0, .slice a0 a1 a2, .slice a3 a4 a5]⟩ 60 (0, 0)) r wv ->
 ∀ ac ae, New wv (.cells ⟨[.bool s0, .slice a6 a7 a8, .slice a9 aa ab]⟩ 60 (0, 0)) ac ae ->
 ∀ af ag, New ae (.cells ⟨[.bool false, .slice none 0 0, .slice none 0 0]⟩ 60 (0, 0)) af ag ->
 ∃ ah ai aj ak al am an, Loads P 60 ⟨r, 0, none⟩ (.agg #[.bool ah, .slice ai aj ak, .slice al am an]) ag /\ ∃ ao ap aq ar au av aw, Loads P 60 ⟨ac, 0, none⟩ (.agg #[.bool ao, .slice ap aq ar, .slice au av aw]) ag /\ Calls P 106 ⟨[.agg #[.bool ah, .slice ai aj ak, .slice al am an], .agg #[.bool ao, .slice ap aq ar, .slice au av aw]]⟩ ag fun e ax =>
 ∃ t8, e = .returned (.bool t8) /\
 ((!t8) = true ->
 ∃ wv_4, Stores P 60 ⟨af, 0, none⟩ (.agg #[.bool false, .slice none 0 0, .slice none 0 0]) ax wv_4 /\
 ∃ r0_1 ay az b0 b1 b2 b3, Loads P 60 ⟨af, 0, none⟩ (.agg #[.bool r0_1, .slice ay az b0, .slice b1 b2 b3]) wv_4 /\ R (.tuple #[.agg #[.bool r0_1, .slice ay az b0, .slice b1 b2 b3], .bool false]) wv_4) /\
 ((!t8) = false ->
 ∃ b4 b5 b6 b7 b8 b9 ba, (∀ wv_5, Ext ax.drew wv_5 -> Loads P 60 ⟨r, 0, none⟩ (.agg #[.bool b4, .slice b5 b6 b7, .slice b8 b9 ba]) wv_5) /\ ∃ bb bc bd be bf bg bh, (∀ wv_6, Ext ax.drew wv_6 -> Loads P 60 ⟨ac, 0, none⟩ (.agg #[.bool bb, .slice bc bd be, .slice bf bg bh]) wv_6) /\ Calls P 130 ⟨[.agg #[.bool bb, .slice bc bd be, .slice bf bg bh]]⟩ ax.drew fun bi bj =>
 ∃ bk bl bm bn bo bp bq, bi = .returned (.agg #[.bool bk, .slice bl bm bn, .slice bo bp bq]) /\
 Ext ax.drew bj /\ Calls P 30 ⟨[.agg #[.bool b4, .slice b5 b6 b7, .slice b8 b9 ba], .agg #[.bool bk, .slice bl bm bn, .slice bo bp bq]]⟩ bj fun br bs =>
 ∃ bt bu bv bw bx bz c0 c1, br = .returned (.tuple #[.agg #[.bool bt, .slice bu bv bw, .slice bx bz c0], .bool c1]) /\
 ∃ wv_9, Stores P 60 ⟨af, 0, none⟩ (.agg #[.bool bt, .slice bu bv bw, .slice bx bz c0]) bs wv_9 /\
 ∃ r0_2 c2 c3 c4 c5 c6 c7, Loads P 60 ⟨af, 0, none⟩ (.agg #[.bool r0_2, .slice c2 c3 c4, .slice c5 c6 c7]) wv_9 /\ R (.tuple #[.agg #[.bool r0_2, .slice c2 c3 c4, .slice c5 c6 c7], .bool c1]) wv_9)
theorem impl_RatSub_ret {r0 : Bool} {a : Option Addr} {a0 a1 : Nat} {a2 : Option Addr} {a3 a4 : Nat} {s0 : Bool} {a5 : Option Addr} {a6 a7 : Nat} {a8 : Option Addr} {a9 b : Nat} (h : impl_RatSub r0 a a0 a1 a2 a3 a4 s0 a5 a6 a7 a8 a9 b w R) : Ret P 45 [.agg #[.bool r0, .slice a a0 a1, .slice a2 a3 a4], .agg #[.bool s0, .slice a5 a6 a7, .slice a8 a9 b]] w R := Ret.of_fsem Tryz.func45 rfl (Eq.mp (show _ = fsem P Tryz.f45 (fun k => []) _ R w from by kernel_rfl) h)
end Go.Proofs.YtbgokfhcgcoipaaGreatDoor
namespace Go.Proofs.YtbgokfhcgcoipaaGreatDoor
variable {w : World} {R : Value -> World -> Prop}
open Go Go.Proofs.YtbgokfhcgcoipaaGreatDoor.Sx
set_option maxRecDepth 100000
def spec_l01New_j0 (a0 : Option Addr) (a1 : Nat) (wv : World) (a2 : Int -> Int -> World -> Prop) (mu : Int -> Int -> World -> Nat) (h i : Int) (W : World) (R : Value -> World -> Prop) : Prop :=
 ∃ a3 : Int, a3 = IntKind.wrap .i64 (h * 41) /\ (0 <= (i : Int) /\ (i : Int) < (a1 : Nat)) /\ ptrS a0 fun ad => ∃ a4, Loads P 5 (ad.add (i.toNat * 1)) (.int .u8 a4) W /\ ∃ a5 : Int, a5 = IntKind.wrap .i64 a4 /\ ∃ a6 : Int, a6 = IntKind.wrap .i64 (a3 + a5) /\ ∃ a7 : Int, a7 = IntKind.wrap .i64 (a6 + 7) /\ ∃ a8 : Int, a8 = IntKind.wrap .i64 (BitVec.ofInt (IntKind.bits .i64) a7 &&& BitVec.ofInt (IntKind.bits .i64) 1073741823).toNat /\ ∃ a9 : Int, a9 = IntKind.wrap .i64 (i + 1) /\ a2 a8 a9 W /\ mu a8 a9 W < mu h i wv
def spec_l01New (a0 : Option Addr) (a1 a2 : Nat) (w : World) (R : Value -> World -> Prop) : Prop :=
 ∃ t7 : Int, t7 = IntKind.wrap .i64 (1616 + ((a1 : Nat) : Int)) /\ ∃ (a3 : Int -> Int -> World -> Prop) (mu : Int -> Int -> World -> Nat), a3 t7 0 w /\
 ∀ (a4 : Fr) (wv : World) (h i : Int), a3 h i wv ->
 ((decide ((i : Int) < ((a1 : Nat) : Int))) = true ->
 ((decide ((i : Int) < 4000)) = true ->
 spec_l01New_j0 a0 a1 wv a3 mu h i wv R) /\
 ((decide ((i : Int) < 4000)) = false ->
 ∀ r a5, New wv (.cells ⟨[.slice a0 a1 a2, .int .i64 0, .int .i64 h]⟩ 126 (0, 0)) r a5 ->
 R (.pointer (some ⟨r, 0, none⟩)) a5)) /\
 ((decide ((i : Int) < ((a1 : Nat) : Int))) = false ->
 (false = true ->
 spec_l01New_j0 a0 a1 wv a3 mu h i wv R) /\
 (false = false ->
 ∀ a6 a7, New wv (.cells ⟨[.slice a0 a1 a2, .int .i64 0, .int .i64 h]⟩ 126 (0, 0)) a6 a7 ->
 R (.pointer (some ⟨a6, 0, none⟩)) a7))
theorem spec_l01New_ret {a : Option Addr} {a0 a1 : Nat} (h : spec_l01New a a0 a1 w R) : Ret P 81 [.slice a a0 a1] w R := Ret.of_fsem Tryz.func81 rfl (Eq.mp (show _ = fsem P Tryz.f81 (fun k => cond (Nat.beq k 4) [(3, .one (.int .i64)), (4, .one (.int .i64))] ([])) _ R w from by kernel_rfl) h)
def spec_IntOf (n : Int) (w : World) (R : Value -> World -> Prop) : Prop :=
 ∀ r wv, New w (.cells ⟨[.bool false, .slice none 0 0]⟩ 31 (0, 0)) r wv ->
 ((decide ((n : Int) = (-9223372036854775808))) = true ->
 ∀ a0 a1, New wv (.cells ⟨[.int .i64 854775808, .int .i64 223372036, .int .i64 9]⟩ 3 (0, 0)) a0 a1 ->
 Calls P 164 ⟨[.bool true, (.slice (some ⟨a0, 0, none⟩) 3 3)]⟩ a1 fun e a2 =>
 ∃ a3 a4 a5 a6, e = .returned (.agg #[.bool a3, .slice a4 a5 a6]) /\
 ∃ wv_3, Stores P 31 ⟨r, 0, none⟩ (.agg #[.bool a3, .slice a4 a5 a6]) a2 wv_3 /\
 ∃ r0 a7 a8 a9, Loads P 31 ⟨r, 0, none⟩ (.agg #[.bool r0, .slice a7 a8 a9]) wv_3 /\ R (.agg #[.bool r0, .slice a7 a8 a9]) wv_3) /\
 ((decide ((n : Int) = (-9223372036854775808))) = false ->
 ((decide ((n : Int) < 0)) = true ->
 ∃ aa : Int, aa = IntKind.wrap .i64 (0 - n) /\ Calls P 165 ⟨[.int .i64 aa]⟩ wv fun ab ac =>
 ∃ ae af ag, ab = .returned (.slice ae af ag) /\
 Calls P 164 ⟨[.bool true, .slice ae af ag]⟩ ac fun ah ai =>
 ∃ aj ak al am, ah = .returned (.agg #[.bool aj, .slice ak al am]) /\
 ∃ wv_6, Stores P 31 ⟨r, 0, none⟩ (.agg #[.bool aj, .slice ak al am]) ai wv_6 /\
 ∃ r0_1 an ao ap, Loads P 31 ⟨r, 0, none⟩ (.agg #[.bool r0_1, .slice an ao ap]) wv_6 /\ R (.agg #[.bool r0_1, .slice an ao ap]) wv_6) /\
 ((decide ((n : Int) < 0)) = false ->
 Calls P 165 ⟨[.int .i64 n]⟩ wv fun aq ar =>
 ∃ au av aw, aq = .returned (.slice au av aw) /\
 Calls P 164 ⟨[.bool false, .slice au av aw]⟩ ar fun ax ay =>
 ∃ az b0 b1 b2, ax = .returned (.agg #[.bool az, .slice b0 b1 b2]) /\
 ∃ wv_9, Stores P 31 ⟨r, 0, none⟩ (.agg #[.bool az, .slice b0 b1 b2]) ay wv_9 /\
 ∃ r0_2 b3 b4 b5, Loads P 31 ⟨r, 0, none⟩ (.agg #[.bool r0_2, .slice b3 b4 b5]) wv_9 /\ R (.agg #[.bool r0_2, .slice b3 b4 b5]) wv_9))
theorem spec_IntOf_ret {n : Int} (h : spec_IntOf n w R) : Ret P 82 [.int .i64 n] w R := Ret.of_fsem Tryz.func82 rfl (Eq.mp (show _ = fsem P Tryz.f82 (fun k => []) _ R w from by kernel_rfl) h)
def spec_l01Below (c : Option Addr) (n : Int) (w : World) (R : Value -> World -> Prop) : Prop :=
 ((decide ((n : Int) <= 0)) = true ->
 R (.int .i64 0) w) /\
 ((decide ((n : Int) <= 0)) = false ->
 ((decide ((n : Int) <= 256)) = true ->
 Calls P 166 ⟨[(.pointer c)]⟩ w fun e wv =>
 ∃ a0, e = .returned (.int .i64 a0) /\
 (n : Int) ≠ 0 /\ ∃ a1 : Int, a1 = Int.tmod a0 n /\ R (.int .i64 a1) wv) /\
 ((decide ((n : Int) <= 256)) = false ->
 Calls P 166 ⟨[(.pointer c)]⟩ w fun a2 a3 =>
 ∃ a4, a2 = .returned (.int .i64 a4) /\
 Calls P 166 ⟨[(.pointer c)]⟩ a3 fun a5 a6 =>
 ∃ a7, a5 = .returned (.int .i64 a7) /\
 Calls P 166 ⟨[(.pointer c)]⟩ a6 fun a8 a9 =>
 ∃ aa, a8 = .returned (.int .i64 aa) /\
 Calls P 166 ⟨[(.pointer c)]⟩ a9 fun ab ac =>
 ∃ ae, ab = .returned (.int .i64 ae) /\
 ∃ af : Int, af = IntKind.wrap .i64 (a4 * 16777216) /\ ∃ ag : Int, ag = IntKind.wrap .i64 (a7 * 65536) /\ ∃ ah : Int, ah = IntKind.wrap .i64 (af + ag) /\ ∃ ai : Int, ai = IntKind.wrap .i64 (aa * 256) /\ ∃ aj : Int, aj = IntKind.wrap .i64 (ah + ai) /\ ∃ ak : Int, ak = IntKind.wrap .i64 (aj + ae) /\ (n : Int) ≠ 0 /\ ∃ al : Int, al = Int.tmod ak n /\ R (.int .i64 al) ac))
theorem spec_l01Below_ret {c : Option Addr} {n : Int} (h : spec_l01Below c n w R) : Ret P 83 [.pointer c, .int .i64 n] w R := Ret.of_fsem Tryz.func83 rfl (Eq.mp (show _ = fsem P Tryz.f83 (fun k => []) _ R w from by kernel_rfl) h)
def spec_l13Rate (c : Option Addr) (w : World) (R : Value -> World -> Prop) : Prop :=
 ∀ r wv, New w (.cells ⟨[.bool false, .slice none 0 0, .int .i64 0]⟩ 36 (0, 0)) r wv ->
 ∀ a0 a1, New wv (.cells ⟨[.int .i64 0, .int .i64 1, .int .i64 25, .int .i64 77, .int .i64 81, .int .i64 190, .int .i64 200, .int .i64 1000]⟩ 3 (0, 0)) a0 a1 ->
 Calls P 167 ⟨[(.pointer c), (.slice (some ⟨a0, 0, none⟩) 8 8)]⟩ a1 fun e a2 =>
 ∃ t5, e = .returned (.int .i64 t5) /\
 Calls P 82 ⟨[.int .i64 t5]⟩ a2 fun a3 a4 =>
 ∃ a5 a6 a7 a8, a3 = .returned (.agg #[.bool a5, .slice a6 a7 a8]) /\
 ∀ a9 aa, New a4 (.cells ⟨[.int .i64 3, .int .i64 3, .int .i64 4]⟩ 3 (0, 0)) a9 aa ->
 Calls P 167 ⟨[(.pointer c), (.slice (some ⟨a9, 0, none⟩) 3 3)]⟩ aa fun ab ac =>
 ∃ t9, ab = .returned (.int .i64 t9) /\
 ∃ wv_6, Stores P 36 ⟨r, 0, none⟩ (.agg #[.bool a5, .slice a6 a7 a8, .int .i64 t9]) ac wv_6 /\
 ∃ r0 ae af ag r2, Loads P 36 ⟨r, 0, none⟩ (.agg #[.bool r0, .slice ae af ag, .int .i64 r2]) wv_6 /\ R (.agg #[.bool r0, .slice ae af ag, .int .i64 r2]) wv_6
theorem spec_l13Rate_ret {c : Option Addr} (h : spec_l13Rate c w R) : Ret P 84 [.pointer c] w R := Ret.of_fsem Tryz.func84 rfl (Eq.mp (show _ = fsem P Tryz.f84 (fun k => []) _ R w from by kernel_rfl) h)
def impl_moneyOf (cur : ByteArray) (units0 : Bool) (a0 : Option Addr) (a1 a2 : Nat) (w : World) (R : Value -> World -> Prop) : Prop :=
 ∀ r wv, New w (.cells ⟨[.bool units0, .slice a0 a1 a2]⟩ 31 (0, 0)) r wv ->
 ∀ a3 a4, New wv (.cells ⟨[.string ByteArray.empty, .bool false, .slice none 0 0]⟩ 33 (0, 0)) a3 a4 ->
 ∃ a5 a6 a7 a8, Loads P 31 ⟨r, 0, none⟩ (.agg #[.bool a5, .slice a6 a7 a8]) a4 /\ ∀ a9 aa, New a4 (.cells ⟨[.string ByteArray.empty, .bool false, .slice none 0 0]⟩ 33 (0, 0)) a9 aa ->
 ∃ wv_3, Stores P 33 ⟨a9, 0, none⟩ (.agg #[.string cur, .bool a5, .slice a6 a7 a8]) aa wv_3 /\
 ∃ ab ac ae af ag, Loads P 33 ⟨a9, 0, none⟩ (.agg #[.string ab, .bool ac, .slice ae af ag]) wv_3 /\ Calls P 102 ⟨[.agg #[.string ab, .bool ac, .slice ae af ag]]⟩ wv_3 fun e ah =>
 ∃ ai, e = .returned (.bool ai) /\
 (ai = true ->
 ∃ aj ak al am an, Loads P 33 ⟨a9, 0, none⟩ (.agg #[.string aj, .bool ak, .slice al am an]) ah /\ ∃ wv_5, Stores P 33 ⟨a3, 0, none⟩ (.agg #[.string aj, .bool ak, .slice al am an]) ah wv_5 /\
 ∃ r0 r1 ao ap aq, Loads P 33 ⟨a3, 0, none⟩ (.agg #[.string r0, .bool r1, .slice ao ap aq]) wv_5 /\ R (.tuple #[.agg #[.string r0, .bool r1, .slice ao ap aq], .bool true]) wv_5) /\
 (ai = false ->
 ∃ wv_6, Stores P 33 ⟨a3, 0, none⟩ (.agg #[.string ByteArray.empty, .bool false, .slice none 0 0]) ah wv_6 /\
 ∃ r0_1 r1_1 ar au av, Loads P 33 ⟨a3, 0, none⟩ (.agg #[.string r0_1, .bool r1_1, .slice ar au av]) wv_6 /\ R (.tuple #[.agg #[.string r0_1, .bool r1_1, .slice ar au av], .bool false]) wv_6)
theorem impl_moneyOf_ret {a : ByteArray} {a0 : Bool} {a1 : Option Addr} {a2 a3 : Nat} (h : impl_moneyOf a a0 a1 a2 a3 w R) : Ret P 85 [.string a, .agg #[.bool a0, .slice a1 a2 a3]] w R := Ret.of_fsem Tryz.func85 rfl (Eq.mp (show _ = fsem P Tryz.f85 (fun k => []) _ R w from by kernel_rfl) h)
def impl_alike (m0 : ByteArray) (m1 : Bool) (a0 : Option Addr) (a1 a2 : Nat) (n0 : ByteArray) (n1 : Bool) (a3 : Option Addr) (a4 a5 : Nat) (w : World) (R : Value -> World -> Prop) : Prop :=
 ∀ r wv, New w (.cells ⟨[.string m0, .bool m1, .slice a0 a1 a2]⟩ 33 (0, 0)) r wv ->
 ∀ a6 a7, New wv (.cells ⟨[.string n0, .bool n1, .slice a3 a4 a5]⟩ 33 (0, 0)) a6 a7 ->
 ∃ a8 a9 aa ab ac, Loads P 33 ⟨r, 0, none⟩ (.agg #[.string a8, .bool a9, .slice aa ab ac]) a7 /\ Calls P 102 ⟨[.agg #[.string a8, .bool a9, .slice aa ab ac]]⟩ a7 fun e ae =>
 ∃ t6, e = .returned (.bool t6) /\
 (t6 = true ->
 ∃ af ag ah ai aj, Loads P 33 ⟨a6, 0, none⟩ (.agg #[.string af, .bool ag, .slice ah ai aj]) ae /\ Calls P 102 ⟨[.agg #[.string af, .bool ag, .slice ah ai aj]]⟩ ae fun ak al =>
 ∃ t9, ak = .returned (.bool t9) /\
 (t9 = true ->
 ∃ am, Loads P 9 ((⟨r, 0, none⟩ : Addr).add 0) (.string am) al /\ ∃ an, Loads P 9 ((⟨a6, 0, none⟩ : Addr).add 0) (.string an) al /\ R (.bool (decide (am = an))) al) /\
 (t9 = false ->
 R (.bool false) al)) /\
 (t6 = false ->
 (false = true ->
 ∃ ao, Loads P 9 ((⟨r, 0, none⟩ : Addr).add 0) (.string ao) ae /\ ∃ ap, Loads P 9 ((⟨a6, 0, none⟩ : Addr).add 0) (.string ap) ae /\ R (.bool (decide (ao = ap))) ae) /\
 (false = false ->
 R (.bool false) ae))
theorem impl_alike_ret {m0 : ByteArray} {m1 : Bool} {a : Option Addr} {a0 a1 : Nat} {n0 : ByteArray} {n1 : Bool} {a2 : Option Addr} {a3 a4 : Nat} (h : impl_alike m0 m1 a a0 a1 n0 n1 a2 a3 a4 w R) : Ret P 86 [.agg #[.string m0, .bool m1, .slice a a0 a1], .agg #[.string n0, .bool n1, .slice a2 a3 a4]] w R := Ret.of_fsem Tryz.func86 rfl (Eq.mp (show _ = fsem P Tryz.f86 (fun k => []) _ R w from by kernel_rfl) h)
def impl_moneyCopy (m0 : ByteArray) (m1 : Bool) (a0 : Option Addr) (a1 a2 : Nat) (w : World) (R : Value -> World -> Prop) : Prop :=
 ∀ r wv, New w (.cells ⟨[.string m0, .bool m1, .slice a0 a1 a2]⟩ 33 (0, 0)) r wv ->
 ∀ a3 a4, New wv (.cells ⟨[.string ByteArray.empty, .bool false, .slice none 0 0]⟩ 33 (0, 0)) a3 a4 ->
 ∃ a5 a6 a7, Loads P 29 (((⟨r, 0, none⟩ : Addr).add 1).add 1) (.slice a5 a6 a7) a4 /\ (0 <= (((a6 : Nat) : Int) : Int) /\ (((a6 : Nat) : Int) : Int) <= ((a6 : Nat) : Int) /\ ((8 : Nat) : Int) * ((a6 : Nat) : Int) <= 281474976710656) /\
 ∀ a8 a9, New a4 (.cells ⟨zeroRow (.int .i64 0) (a6 * 1)⟩ 3 (0, 0)) a8 a9 ->
 ∃ aa ab ac, Loads P 29 (((⟨r, 0, none⟩ : Addr).add 1).add 1) (.slice aa ab ac) a9 /\ ∃ ae af, Copies P [29, 29] [(.slice (some ⟨a8, 0, none⟩) a6 a6), .slice aa ab ac] (.int .i64 ae) a9 af /\
 ∃ ag, (∀ wv_4, Ext af.drew wv_4 -> Loads P 9 ((⟨r, 0, none⟩ : Addr).add 0) (.string ag) wv_4) /\ ∃ ah, (∀ wv_5, Ext af.drew wv_5 -> Loads P 4 (((⟨r, 0, none⟩ : Addr).add 1).add 0) (.bool ah) wv_5) /\ (0 <= (((a6 : Nat) : Int) : Int) /\ (((a6 : Nat) : Int) : Int) <= (a6 : Nat)) /\ (0 <= (((a6 : Nat) : Int) : Int) /\ (((a6 : Nat) : Int) : Int) <= (a6 : Nat)) /\ ∃ wv_6, Stores P 33 ⟨a3, 0, none⟩ (.agg #[.string ag, .bool ah, (.slice (sub (some ⟨a8, 0, none⟩) 0 a6 1) (a6 - 0) (a6 - 0))]) af.drew wv_6 /\
 ∃ r0 r1 ai aj ak, Loads P 33 ⟨a3, 0, none⟩ (.agg #[.string r0, .bool r1, .slice ai aj ak]) wv_6 /\ R (.agg #[.string r0, .bool r1, .slice ai aj ak]) wv_6
theorem impl_moneyCopy_ret {m0 : ByteArray} {m1 : Bool} {a : Option Addr} {a0 a1 : Nat} (h : impl_moneyCopy m0 m1 a a0 a1 w R) : Ret P 88 [.agg #[.string m0, .bool m1, .slice a a0 a1]] w R := Ret.of_fsem Tryz.func88 rfl (Eq.mp (show _ = fsem P Tryz.f88 (fun k => []) _ R w from by kernel_rfl) h)
def impl_MoneySum (cur : ByteArray) (a0 : Option Addr) (a1 a2 : Nat) (w : World) (R : Value -> World -> Prop) : Prop :=
 ∀ r wv, New w (.cells ⟨[.string ByteArray.empty, .bool false, .slice none 0 0]⟩ 33 (0, 0)) r wv ->
 ∀ a3 a4, New wv (.cells ⟨[.bool false, .slice none 0 0]⟩ 31 (0, 0)) a3 a4 ->
 ∃ wv_2, Stores P 31 ⟨a3, 0, none⟩ (.agg #[.bool false, .slice none 0 0]) a4 wv_2 /\
 ∃ (a5 : Int -> World -> Prop) (mu : Int -> World -> Nat), a5 0 wv_2 /\
 ∀ (a6 : Fr) (a7 : World) (a8 : Int), a5 a8 a7 ->
 ((decide ((a8 : Int) < ((a1 : Nat) : Int))) = true ->
 (0 <= (a8 : Int) /\ (a8 : Int) < (a1 : Nat)) /\ ptrS a0 fun ad => ∃ a9 aa ab ac ae, Loads P 33 (ad.add (a8.toNat * 3)) (.agg #[.string a9, .bool aa, .slice ab ac ae]) a7 /\ ∀ af ag, New a7 (.cells ⟨[.string ByteArray.empty, .bool false, .slice none 0 0]⟩ 33 (0, 0)) af ag ->
 ∃ wv_5, Stores P 33 ⟨af, 0, none⟩ (.agg #[.string a9, .bool aa, .slice ab ac ae]) ag wv_5 /\
 ∃ ah ai aj ak al, Loads P 33 ⟨af, 0, none⟩ (.agg #[.string ah, .bool ai, .slice aj ak al]) wv_5 /\ Calls P 102 ⟨[.agg #[.string ah, .bool ai, .slice aj ak al]]⟩ wv_5 fun e am =>
 ∃ an, e = .returned (.bool an) /\
 ((!an) = true ->
 (true = true ->
 ∃ wv_7, Stores P 33 ⟨r, 0, none⟩ (.agg #[.string ByteArray.empty, .bool false, .slice none 0 0]) am wv_7 /\
 ∃ r0 r1 ao ap aq, Loads P 33 ⟨r, 0, none⟩ (.agg #[.string r0, .bool r1, .slice ao ap aq]) wv_7 /\ R (.tuple #[.agg #[.string r0, .bool r1, .slice ao ap aq], .bool false]) wv_7) /\
 (true = false ->
 ∃ ar au av aw, Loads P 31 ⟨a3, 0, none⟩ (.agg #[.bool ar, .slice au av aw]) am /\ ∃ ax ay az b0, Loads P 31 ((⟨af, 0, none⟩ : Addr).add 1) (.agg #[.bool ax, .slice ay az b0]) am /\ Calls P 94 ⟨[.agg #[.bool ar, .slice au av aw], .agg #[.bool ax, .slice ay az b0]]⟩ am fun b1 b2 =>
 ∃ b3 b4 b5 b6, b1 = .returned (.agg #[.bool b3, .slice b4 b5 b6]) /\
 ∃ wv_9, Stores P 31 ⟨a3, 0, none⟩ (.agg #[.bool b3, .slice b4 b5 b6]) b2 wv_9 /\
 ∃ b7 : Int, b7 = IntKind.wrap .i64 (a8 + 1) /\ a5 b7 wv_9 /\ mu b7 wv_9 < mu a8 a7)) /\
 ((!an) = false ->
 ∃ b8, Loads P 9 ((⟨af, 0, none⟩ : Addr).add 0) (.string b8) am /\ ((decide (b8 ≠ cur)) = true ->
 ∃ wv_10, Stores P 33 ⟨r, 0, none⟩ (.agg #[.string ByteArray.empty, .bool false, .slice none 0 0]) am wv_10 /\
 ∃ r0_1 r1_1 b9 ba bb, Loads P 33 ⟨r, 0, none⟩ (.agg #[.string r0_1, .bool r1_1, .slice b9 ba bb]) wv_10 /\ R (.tuple #[.agg #[.string r0_1, .bool r1_1, .slice b9 ba bb], .bool false]) wv_10) /\
 ((decide (b8 ≠ cur)) = false ->
 ∃ bc bd be bf, Loads P 31 ⟨a3, 0, none⟩ (.agg #[.bool bc, .slice bd be bf]) am /\ ∃ bg bh bi bj, Loads P 31 ((⟨af, 0, none⟩ : Addr).add 1) (.agg #[.bool bg, .slice bh bi bj]) am /\ Calls P 94 ⟨[.agg #[.bool bc, .slice bd be bf], .agg #[.bool bg, .slice bh bi bj]]⟩ am fun bk bl =>
 ∃ bm bn bo bp, bk = .returned (.agg #[.bool bm, .slice bn bo bp]) /\
 ∃ wv_12, Stores P 31 ⟨a3, 0, none⟩ (.agg #[.bool bm, .slice bn bo bp]) bl wv_12 /\
 ∃ bq : Int, bq = IntKind.wrap .i64 (a8 + 1) /\ a5 bq wv_12 /\ mu bq wv_12 < mu a8 a7))) /\
 ((decide ((a8 : Int) < ((a1 : Nat) : Int))) = false ->
 ∃ br bs bt bu, Loads P 31 ⟨a3, 0, none⟩ (.agg #[.bool br, .slice bs bt bu]) a7 /\ Calls P 85 ⟨[.string cur, .agg #[.bool br, .slice bs bt bu]]⟩ a7 fun bv bw =>
 ∃ bx bz c0 c1 c2 c3, bv = .returned (.tuple #[.agg #[.string bx, .bool bz, .slice c0 c1 c2], .bool c3]) /\
 ∃ wv_14, Stores P 33 ⟨r, 0, none⟩ (.agg #[.string bx, .bool bz, .slice c0 c1 c2]) bw wv_14 /\
 ∃ r0_2 r1_2 c4 c5 c6, Loads P 33 ⟨r, 0, none⟩ (.agg #[.string r0_2, .bool r1_2, .slice c4 c5 c6]) wv_14 /\ R (.tuple #[.agg #[.string r0_2, .bool r1_2, .slice c4 c5 c6], .bool c3]) wv_14)
theorem impl_MoneySum_ret {a : ByteArray} {a0 : Option Addr} {a1 a2 : Nat} (h : impl_MoneySum a a0 a1 a2 w R) : Ret P 89 [.string a, .slice a0 a1 a2] w R := Ret.of_fsem Tryz.func89 rfl (Eq.mp (show _ = fsem P Tryz.f89 (fun k => cond (Nat.beq k 4) [(12, .one (.int .i64))] ([])) _ R w from by kernel_rfl) h)
def impl_intCmp (x0 : Bool) (a0 : Option Addr) (a1 a2 : Nat) (y0 : Bool) (a3 : Option Addr) (a4 a5 : Nat) (w : World) (R : Value -> World -> Prop) : Prop :=
 ∀ r wv, New w (.cells ⟨[.bool x0, .slice a0 a1 a2]⟩ 31 (0, 0)) r wv ->
 ∀ a6 a7, New wv (.cells ⟨[.bool y0, .slice a3 a4 a5]⟩ 31 (0, 0)) a6 a7 ->
 ∃ a8 a9 aa ab, (∀ wv_2, Ext a7.drew wv_2 -> Loads P 31 ⟨r, 0, none⟩ (.agg #[.bool a8, .slice a9 aa ab]) wv_2) /\ ∃ ac ae af ag, (∀ wv_3, Ext a7.drew wv_3 -> Loads P 31 ⟨a6, 0, none⟩ (.agg #[.bool ac, .slice ae af ag]) wv_3) /\ Calls P 148 ⟨[.agg #[.bool ac, .slice ae af ag]]⟩ a7.drew fun e ah =>
 ∃ ai aj ak al, e = .returned (.agg #[.bool ai, .slice aj ak al]) /\
 Ext a7.drew ah /\ Calls P 94 ⟨[.agg #[.bool a8, .slice a9 aa ab], .agg #[.bool ai, .slice aj ak al]]⟩ ah fun am an =>
 ∃ ao ap aq ar, am = .returned (.agg #[.bool ao, .slice ap aq ar]) /\
 Calls P 97 ⟨[.agg #[.bool ao, .slice ap aq ar]]⟩ an fun au av =>
 ∃ t9, au = .returned (.int .i64 t9) /\
 R (.int .i64 t9) av
theorem impl_intCmp_ret {x0 : Bool} {a : Option Addr} {a0 a1 : Nat} {y0 : Bool} {a2 : Option Addr} {a3 a4 : Nat} (h : impl_intCmp x0 a a0 a1 y0 a2 a3 a4 w R) : Ret P 90 [.agg #[.bool x0, .slice a a0 a1], .agg #[.bool y0, .slice a2 a3 a4]] w R := Ret.of_fsem Tryz.func90 rfl (Eq.mp (show _ = fsem P Tryz.f90 (fun k => []) _ R w from by kernel_rfl) h)
def impl_MoneySub (m0 : ByteArray) (m1 : Bool) (a0 : Option Addr) (a1 a2 : Nat) (n0 : ByteArray) (n1 : Bool) (a3 : Option Addr) (a4 a5 : Nat) (w : World) (R : Value -> World -> Prop) : Prop :=
 ∀ r wv, New w (.cells ⟨[.string m0, .bool m1, .slice a0 a1 a2]⟩ 33 (0, 0)) r wv ->
 ∀ a6 a7, New wv (.cells ⟨[.string n0, .bool n1, .slice a3 a4 a5]⟩ 33 (0, 0)) a6 a7 ->
 ∀ a8 a9, New a7 (.cells ⟨[.string ByteArray.empty, .bool false, .slice none 0 0]⟩ 33 (0, 0)) a8 a9 ->
 ∃ aa ab ac ae af, Loads P 33 ⟨r, 0, none⟩ (.agg #[.string aa, .bool ab, .slice ac ae af]) a9 /\ ∃ ag ah ai aj ak, Loads P 33 ⟨a6, 0, none⟩ (.agg #[.string ag, .bool ah, .slice ai aj ak]) a9 /\ Calls P 86 ⟨[.agg #[.string aa, .bool ab, .slice ac ae af], .agg #[.string ag, .bool ah, .slice ai aj ak]]⟩ a9 fun e al =>
 ∃ t8, e = .returned (.bool t8) /\
 ((!t8) = true ->
 ∃ wv_4, Stores P 33 ⟨a8, 0, none⟩ (.agg #[.string ByteArray.empty, .bool false, .slice none 0 0]) al wv_4 /\
 ∃ r0 r1 am an ao, Loads P 33 ⟨a8, 0, none⟩ (.agg #[.string r0, .bool r1, .slice am an ao]) wv_4 /\ R (.tuple #[.agg #[.string r0, .bool r1, .slice am an ao], .bool false]) wv_4) /\
 ((!t8) = false ->
 ∃ ap, (∀ wv_5, Ext al.drew wv_5 -> Loads P 9 ((⟨r, 0, none⟩ : Addr).add 0) (.string ap) wv_5) /\ ∃ aq ar au av, (∀ wv_6, Ext al.drew wv_6 -> Loads P 31 ((⟨r, 0, none⟩ : Addr).add 1) (.agg #[.bool aq, .slice ar au av]) wv_6) /\ ∃ aw ax ay az, (∀ wv_7, Ext al.drew wv_7 -> Loads P 31 ((⟨a6, 0, none⟩ : Addr).add 1) (.agg #[.bool aw, .slice ax ay az]) wv_7) /\ Calls P 148 ⟨[.agg #[.bool aw, .slice ax ay az]]⟩ al.drew fun b0 b1 =>
 ∃ b2 b3 b4 b5, b0 = .returned (.agg #[.bool b2, .slice b3 b4 b5]) /\
 Ext al.drew b1 /\ Calls P 94 ⟨[.agg #[.bool aq, .slice ar au av], .agg #[.bool b2, .slice b3 b4 b5]]⟩ b1 fun b6 b7 =>
 ∃ b8 b9 ba bb, b6 = .returned (.agg #[.bool b8, .slice b9 ba bb]) /\
 Ext b1 b7 /\ Calls P 85 ⟨[.string ap, .agg #[.bool b8, .slice b9 ba bb]]⟩ b7 fun bc bd =>
 ∃ be bf bg bh bi bj, bc = .returned (.tuple #[.agg #[.string be, .bool bf, .slice bg bh bi], .bool bj]) /\
 ∃ wv_11, Stores P 33 ⟨a8, 0, none⟩ (.agg #[.string be, .bool bf, .slice bg bh bi]) bd wv_11 /\
 ∃ r0_1 r1_1 bk bl bm, Loads P 33 ⟨a8, 0, none⟩ (.agg #[.string r0_1, .bool r1_1, .slice bk bl bm]) wv_11 /\ R (.tuple #[.agg #[.string r0_1, .bool r1_1, .slice bk bl bm], .bool bj]) wv_11)
theorem impl_MoneySub_ret {m0 : ByteArray} {m1 : Bool} {a : Option Addr} {a0 a1 : Nat} {n0 : ByteArray} {n1 : Bool} {a2 : Option Addr} {a3 a4 : Nat} (h : impl_MoneySub m0 m1 a a0 a1 n0 n1 a2 a3 a4 w R) : Ret P 91 [.agg #[.string m0, .bool m1, .slice a a0 a1], .agg #[.string n0, .bool n1, .slice a2 a3 a4]] w R := Ret.of_fsem Tryz.func91 rfl (Eq.mp (show _ = fsem P Tryz.f91 (fun k => []) _ R w from by kernel_rfl) h)
def impl_Join (a0 : Option Addr) (a1 a2 : Nat) (byv : ByteArray) (w : World) (R : Value -> World -> Prop) : Prop :=
 Calls P 168 ⟨[.slice a0 a1 a2, .string byv]⟩ w fun e wv =>
 ∃ t7, e = .returned (.string t7) /\
 R (.string t7) wv
theorem impl_Join_ret {a : Option Addr} {a0 a1 : Nat} {a2 : ByteArray} (h : impl_Join a a0 a1 a2 w R) : Ret P 92 [.slice a a0 a1, .string a2] w R := Ret.of_fsem Tryz.func92 rfl (Eq.mp (show _ = fsem P Tryz.f92 (fun k => []) _ R w from by kernel_rfl) h)
def impl_MoneyText (m0 : ByteArray) (m1 : Bool) (a0 : Option Addr) (a1 a2 : Nat) (w : World) (R : Value -> World -> Prop) : Prop :=
 ∀ r wv, New w (.cells ⟨[.string m0, .bool m1, .slice a0 a1 a2]⟩ 33 (0, 0)) r wv ->
 ∃ a3 a4 a5 a6 a7, Loads P 33 ⟨r, 0, none⟩ (.agg #[.string a3, .bool a4, .slice a5 a6 a7]) wv /\ Calls P 102 ⟨[.agg #[.string a3, .bool a4, .slice a5 a6 a7]]⟩ wv fun e a8 =>
 ∃ t4, e = .returned (.bool t4) /\
 ((!t4) = true ->
 R (.string (S [])) a8) /\
 ((!t4) = false ->
 ∃ t7, (∀ wv_2, Ext a8.drew wv_2 -> Loads P 9 ((⟨r, 0, none⟩ : Addr).add 0) (.string t7) wv_2) /\ t7.size + (S [32]).size <= 9223372036854775807 /\ ∃ t8 : ByteArray, t8 = t7 ++ (S [32]) /\ ∃ a9 aa ab ac, (∀ wv_3, Ext a8.drew wv_3 -> Loads P 31 ((⟨r, 0, none⟩ : Addr).add 1) (.agg #[.bool a9, .slice aa ab ac]) wv_3) /\ ∃ ae, (∀ wv_4, Ext a8.drew wv_4 -> Loads P 9 ((⟨r, 0, none⟩ : Addr).add 0) (.string ae) wv_4) /\ Calls P 169 ⟨[.string ae]⟩ a8.drew fun af ag =>
 ∃ ah, af = .returned (.int .i64 ah) /\
 Ext a8.drew ag /\ Calls P 119 ⟨[.agg #[.bool a9, .slice aa ab ac, .int .i64 ah]]⟩ ag fun ai aj =>
 ∃ ak, ai = .returned (.string ak) /\
 Ext ag aj /\ t8.size + ak.size <= 9223372036854775807 /\ ∃ al : ByteArray, al = t8 ++ ak /\ R (.string al) aj)
theorem impl_MoneyText_ret {m0 : ByteArray} {m1 : Bool} {a : Option Addr} {a0 a1 : Nat} (h : impl_MoneyText m0 m1 a a0 a1 w R) : Ret P 93 [.agg #[.string m0, .bool m1, .slice a a0 a1]] w R := Ret.of_fsem Tryz.func93 rfl (Eq.mp (show _ = fsem P Tryz.f93 (fun k => []) _ R w from by kernel_rfl) h)
def impl_intAdd_j0 (r a0 a1 : Nat) (W : World) (R : Value -> World -> Prop) : Prop :=
 ∃ a2, (∀ wv_12, Ext W.drew wv_12 -> Loads P 4 ((⟨r, 0, none⟩ : Addr).add 0) (.bool a2) wv_12) /\ ∃ a3 a4 a5, (∀ wv_13, Ext W.drew wv_13 -> Loads P 29 ((⟨r, 0, none⟩ : Addr).add 1) (.slice a3 a4 a5) wv_13) /\ ∃ a6 a7 a8, (∀ wv_14, Ext W.drew wv_14 -> Loads P 29 ((⟨a0, 0, none⟩ : Addr).add 1) (.slice a6 a7 a8) wv_14) /\ Calls P 129 ⟨[.slice a3 a4 a5, .slice a6 a7 a8]⟩ W.drew fun a9 aa =>
 ∃ ab ac ae, a9 = .returned (.slice ab ac ae) /\
 Ext W.drew aa /\ Calls P 170 ⟨[.bool a2, .slice ab ac ae]⟩ aa fun af ag =>
 ∃ ah ai aj ak, af = .returned (.agg #[.bool ah, .slice ai aj ak]) /\
 ∃ wv_17, Stores P 31 ⟨a1, 0, none⟩ (.agg #[.bool ah, .slice ai aj ak]) ag wv_17 /\
 ∃ r0_1 al am an, Loads P 31 ⟨a1, 0, none⟩ (.agg #[.bool r0_1, .slice al am an]) wv_17 /\ R (.agg #[.bool r0_1, .slice al am an]) wv_17
def impl_intAdd (x0 : Bool) (a0 : Option Addr) (a1 a2 : Nat) (y0 : Bool) (a3 : Option Addr) (a4 a5 : Nat) (w : World) (R : Value -> World -> Prop) : Prop :=
 ∀ r wv, New w (.cells ⟨[.bool x0, .slice a0 a1 a2]⟩ 31 (0, 0)) r wv ->
 ∀ a6 a7, New wv (.cells ⟨[.bool y0, .slice a3 a4 a5]⟩ 31 (0, 0)) a6 a7 ->
 ∀ a8 a9, New a7 (.cells ⟨[.bool false, .slice none 0 0]⟩ 31 (0, 0)) a8 a9 ->
 ∃ t6, Loads P 4 ((⟨r, 0, none⟩ : Addr).add 0) (.bool t6) a9 /\ ∃ t8, Loads P 4 ((⟨a6, 0, none⟩ : Addr).add 0) (.bool t8) a9 /\ ((t6 == t8) = true ->
 ∃ aa, (∀ wv_3, Ext a9.drew wv_3 -> Loads P 4 ((⟨r, 0, none⟩ : Addr).add 0) (.bool aa) wv_3) /\ ∃ ab ac ae, (∀ wv_4, Ext a9.drew wv_4 -> Loads P 29 ((⟨r, 0, none⟩ : Addr).add 1) (.slice ab ac ae) wv_4) /\ ∃ af ag ah, (∀ wv_5, Ext a9.drew wv_5 -> Loads P 29 ((⟨a6, 0, none⟩ : Addr).add 1) (.slice af ag ah) wv_5) /\ Calls P 171 ⟨[.slice ab ac ae, .slice af ag ah]⟩ a9.drew fun e ai =>
 ∃ aj ak al, e = .returned (.slice aj ak al) /\
 Ext a9.drew ai /\ Calls P 170 ⟨[.bool aa, .slice aj ak al]⟩ ai fun am an =>
 ∃ ao ap aq ar, am = .returned (.agg #[.bool ao, .slice ap aq ar]) /\
 ∃ wv_8, Stores P 31 ⟨a8, 0, none⟩ (.agg #[.bool ao, .slice ap aq ar]) an wv_8 /\
 ∃ r0 au av aw, Loads P 31 ⟨a8, 0, none⟩ (.agg #[.bool r0, .slice au av aw]) wv_8 /\ R (.agg #[.bool r0, .slice au av aw]) wv_8) /\
 ((t6 == t8) = false ->
 ∃ ax ay az, Loads P 29 ((⟨r, 0, none⟩ : Addr).add 1) (.slice ax ay az) a9 /\ ∃ b0 b1 b2, Loads P 29 ((⟨a6, 0, none⟩ : Addr).add 1) (.slice b0 b1 b2) a9 /\ Calls P 127 ⟨[.slice ax ay az, .slice b0 b1 b2]⟩ a9 fun b3 b4 =>
 ∃ b5, b3 = .returned (.int .i64 b5) /\
 ((decide ((b5 : Int) < 0)) = true ->
 ∃ b6 b7 b8 b9, Loads P 31 ⟨a6, 0, none⟩ (.agg #[.bool b6, .slice b7 b8 b9]) b4 /\ ∃ ba bb bc bd, Loads P 31 ⟨r, 0, none⟩ (.agg #[.bool ba, .slice bb bc bd]) b4 /\ ∃ wv_10, Stores P 31 ⟨r, 0, none⟩ (.agg #[.bool b6, .slice b7 b8 b9]) b4 wv_10 /\
 ∃ wv_11, Stores P 31 ⟨a6, 0, none⟩ (.agg #[.bool ba, .slice bb bc bd]) wv_10 wv_11 /\
 impl_intAdd_j0 r a6 a8 wv_11 R) /\
 ((decide ((b5 : Int) < 0)) = false ->
 impl_intAdd_j0 r a6 a8 b4 R))
theorem impl_intAdd_ret {x0 : Bool} {a : Option Addr} {a0 a1 : Nat} {y0 : Bool} {a2 : Option Addr} {a3 a4 : Nat} (h : impl_intAdd x0 a a0 a1 y0 a2 a3 a4 w R) : Ret P 94 [.agg #[.bool x0, .slice a a0 a1], .agg #[.bool y0, .slice a2 a3 a4]] w R := Ret.of_fsem Tryz.func94 rfl (Eq.mp (show _ = fsem P Tryz.f94 (fun k => []) _ R w from by kernel_rfl) h)
def impl_intSame (x0 : Bool) (a0 : Option Addr) (a1 a2 : Nat) (y0 : Bool) (a3 : Option Addr) (a4 a5 : Nat) (w : World) (R : Value -> World -> Prop) : Prop :=
 ∀ r wv, New w (.cells ⟨[.bool x0, .slice a0 a1 a2]⟩ 31 (0, 0)) r wv ->
 ∀ a6 a7, New wv (.cells ⟨[.bool y0, .slice a3 a4 a5]⟩ 31 (0, 0)) a6 a7 ->
 ∃ t6, Loads P 4 ((⟨r, 0, none⟩ : Addr).add 0) (.bool t6) a7 /\ ∃ t8, Loads P 4 ((⟨a6, 0, none⟩ : Addr).add 0) (.bool t8) a7 /\ ((t6 == t8) = true ->
 ∃ a8 a9 aa, Loads P 29 ((⟨r, 0, none⟩ : Addr).add 1) (.slice a8 a9 aa) a7 /\ ∃ ab ac ae, Loads P 29 ((⟨a6, 0, none⟩ : Addr).add 1) (.slice ab ac ae) a7 /\ Calls P 172 ⟨[.slice a8 a9 aa, .slice ab ac ae]⟩ a7 fun e af =>
 ∃ ag, e = .returned (.bool ag) /\
 R (.bool ag) af) /\
 ((t6 == t8) = false ->
 R (.bool false) a7)
theorem impl_intSame_ret {x0 : Bool} {a : Option Addr} {a0 a1 : Nat} {y0 : Bool} {a2 : Option Addr} {a3 a4 : Nat} (h : impl_intSame x0 a a0 a1 y0 a2 a3 a4 w R) : Ret P 95 [.agg #[.bool x0, .slice a a0 a1], .agg #[.bool y0, .slice a2 a3 a4]] w R := Ret.of_fsem Tryz.func95 rfl (Eq.mp (show _ = fsem P Tryz.f95 (fun k => []) _ R w from by kernel_rfl) h)
def impl_IntOk (x0 : Bool) (a0 : Option Addr) (a1 a2 : Nat) (w : World) (R : Value -> World -> Prop) : Prop :=
 ∀ r wv, New w (.cells ⟨[.bool x0, .slice a0 a1 a2]⟩ 31 (0, 0)) r wv ->
 ∃ a3 a4 a5, Loads P 29 ((⟨r, 0, none⟩ : Addr).add 1) (.slice a3 a4 a5) wv /\ Calls P 173 ⟨[.slice a3 a4 a5]⟩ wv fun e a6 =>
 ∃ t5, e = .returned (.bool t5) /\
 (t5 = true ->
 ∃ t8, Loads P 4 ((⟨r, 0, none⟩ : Addr).add 0) (.bool t8) a6 /\ ((!t8) = true ->
 R (.bool true) a6) /\
 ((!t8) = false ->
 ∃ a7 a8 a9, Loads P 29 ((⟨r, 0, none⟩ : Addr).add 1) (.slice a7 a8 a9) a6 /\ R (.bool (decide ((0 : Int) < ((a8 : Nat) : Int)))) a6)) /\
 (t5 = false ->
 R (.bool false) a6)
theorem impl_IntOk_ret {x0 : Bool} {a : Option Addr} {a0 a1 : Nat} (h : impl_IntOk x0 a a0 a1 w R) : Ret P 96 [.agg #[.bool x0, .slice a a0 a1]] w R := Ret.of_fsem Tryz.func96 rfl (Eq.mp (show _ = fsem P Tryz.f96 (fun k => []) _ R w from by kernel_rfl) h)
def impl_intSign (x0 : Bool) (a0 : Option Addr) (a1 a2 : Nat) (w : World) (R : Value -> World -> Prop) : Prop :=
 ∀ r wv, New w (.cells ⟨[.bool x0, .slice a0 a1 a2]⟩ 31 (0, 0)) r wv ->
 ∃ a3 a4 a5, Loads P 29 ((⟨r, 0, none⟩ : Addr).add 1) (.slice a3 a4 a5) wv /\ ((decide ((((a4 : Nat) : Int) : Int) = 0)) = true ->
 R (.int .i64 0) wv) /\
 ((decide ((((a4 : Nat) : Int) : Int) = 0)) = false ->
 ∃ a6, Loads P 4 ((⟨r, 0, none⟩ : Addr).add 0) (.bool a6) wv /\ (a6 = true ->
 R (.int .i64 (-1)) wv) /\
 (a6 = false ->
 R (.int .i64 1) wv))
theorem impl_intSign_ret {x0 : Bool} {a : Option Addr} {a0 a1 : Nat} (h : impl_intSign x0 a a0 a1 w R) : Ret P 97 [.agg #[.bool x0, .slice a a0 a1]] w R := Ret.of_fsem Tryz.func97 rfl (Eq.mp (show _ = fsem P Tryz.f97 (fun k => []) _ R w from by kernel_rfl) h)
def impl_isZero (m0 : ByteArray) (m1 : Bool) (a0 : Option Addr) (a1 a2 : Nat) (w : World) (R : Value -> World -> Prop) : Prop :=
 ∀ r wv, New w (.cells ⟨[.string m0, .bool m1, .slice a0 a1 a2]⟩ 33 (0, 0)) r wv ->
 ∃ a3 a4 a5 a6, Loads P 31 ((⟨r, 0, none⟩ : Addr).add 1) (.agg #[.bool a3, .slice a4 a5 a6]) wv /\ Calls P 96 ⟨[.agg #[.bool a3, .slice a4 a5 a6]]⟩ wv fun e a7 =>
 ∃ t5, e = .returned (.bool t5) /\
 (t5 = true ->
 ∃ a8 a9 aa, Loads P 29 (((⟨r, 0, none⟩ : Addr).add 1).add 1) (.slice a8 a9 aa) a7 /\ R (.bool (decide ((((a9 : Nat) : Int) : Int) = 0))) a7) /\
 (t5 = false ->
 R (.bool false) a7)
theorem impl_isZero_ret {m0 : ByteArray} {m1 : Bool} {a : Option Addr} {a0 a1 : Nat} (h : impl_isZero m0 m1 a a0 a1 w R) : Ret P 98 [.agg #[.string m0, .bool m1, .slice a a0 a1]] w R := Ret.of_fsem Tryz.func98 rfl (Eq.mp (show _ = fsem P Tryz.f98 (fun k => []) _ R w from by kernel_rfl) h)
def impl_MoneyOk (m0 : ByteArray) (m1 : Bool) (a0 : Option Addr) (a1 a2 : Nat) (w : World) (R : Value -> World -> Prop) : Prop :=
 ∀ r wv, New w (.cells ⟨[.string m0, .bool m1, .slice a0 a1 a2]⟩ 33 (0, 0)) r wv ->
 ∃ t4, Loads P 9 ((⟨r, 0, none⟩ : Addr).add 0) (.string t4) wv /\ Calls P 177 ⟨[.string t4]⟩ wv fun e a3 =>
 ∃ t5, e = .returned (.bool t5) /\
 (t5 = true ->
 ∃ a4 a5 a6 a7, Loads P 31 ((⟨r, 0, none⟩ : Addr).add 1) (.agg #[.bool a4, .slice a5 a6 a7]) a3 /\ Calls P 96 ⟨[.agg #[.bool a4, .slice a5 a6 a7]]⟩ a3 fun a8 a9 =>
 ∃ t9, a8 = .returned (.bool t9) /\
 (t9 = true ->
 ∃ aa ab ac, Loads P 29 (((⟨r, 0, none⟩ : Addr).add 1).add 1) (.slice aa ab ac) a9 /\ R (.bool (decide ((((ab : Nat) : Int) : Int) <= 4))) a9) /\
 (t9 = false ->
 R (.bool false) a9)) /\
 (t5 = false ->
 (false = true ->
 ∃ ae af ag, Loads P 29 (((⟨r, 0, none⟩ : Addr).add 1).add 1) (.slice ae af ag) a3 /\ R (.bool (decide ((((af : Nat) : Int) : Int) <= 4))) a3) /\
 (false = false ->
 R (.bool false) a3))
theorem impl_MoneyOk_ret {m0 : ByteArray} {m1 : Bool} {a : Option Addr} {a0 a1 : Nat} (h : impl_MoneyOk m0 m1 a a0 a1 w R) : Ret P 102 [.agg #[.string m0, .bool m1, .slice a a0 a1]] w R := Ret.of_fsem Tryz.func102 rfl (Eq.mp (show _ = fsem P Tryz.f102 (fun k => []) _ R w from by kernel_rfl) h)
def impl_TaxRateOk (r0 : Bool) (a0 : Option Addr) (a1 a2 : Nat) (r2 : Int) (w : World) (R : Value -> World -> Prop) : Prop :=
 ∀ r wv, New w (.cells ⟨[.bool r0, .slice a0 a1 a2, .int .i64 r2]⟩ 36 (0, 0)) r wv ->
 ∃ a3 a4 a5 a6 a7, (∀ wv_1, Ext wv.drew wv_1 -> Loads P 36 ⟨r, 0, none⟩ (.agg #[.bool a3, .slice a4 a5 a6, .int .i64 a7]) wv_1) /\ Calls P 112 ⟨[.agg #[.bool a3, .slice a4 a5 a6, .int .i64 a7]]⟩ wv.drew fun e a8 =>
 ∃ t4, e = .returned (.bool t4) /\
 (t4 = true ->
 ∃ a9 aa ab, (∀ wv_3, Ext a8 wv_3 -> Loads P 29 (((⟨r, 0, none⟩ : Addr).add 0).add 1) (.slice a9 aa ab) wv_3) /\ ((decide ((((aa : Nat) : Int) : Int) <= 1)) = true ->
 ∃ ac, (∀ wv_4, Ext a8 wv_4 -> Loads P 4 (((⟨r, 0, none⟩ : Addr).add 0).add 0) (.bool ac) wv_4) /\ ((!ac) = true ->
 ∃ ae af ag ah ai, (∀ wv_5, Ext a8 wv_5 -> Loads P 36 ⟨r, 0, none⟩ (.agg #[.bool ae, .slice af ag ah, .int .i64 ai]) wv_5) /\ Calls P 32 ⟨[.int .i64 1]⟩ a8 fun aj ak =>
 ∃ al am an ao, aj = .returned (.agg #[.bool al, .slice am an ao]) /\
 Ext a8 ak /\ Calls P 41 ⟨[.agg #[.bool ae, .slice af ag ah, .int .i64 ai], .agg #[.bool al, .slice am an ao, .int .i64 0]]⟩ ak fun ap aq =>
 ∃ ar, ap = .returned (.int .i64 ar) /\
 R (.bool (decide ((ar : Int) <= 0))) aq) /\
 ((!ac) = false ->
 R (.bool false) a8)) /\
 ((decide ((((aa : Nat) : Int) : Int) <= 1)) = false ->
 (false = true ->
 ∃ au av aw ax ay, (∀ wv_8, Ext a8 wv_8 -> Loads P 36 ⟨r, 0, none⟩ (.agg #[.bool au, .slice av aw ax, .int .i64 ay]) wv_8) /\ Calls P 32 ⟨[.int .i64 1]⟩ a8 fun az b0 =>
 ∃ b1 b2 b3 b4, az = .returned (.agg #[.bool b1, .slice b2 b3 b4]) /\
 Ext a8 b0 /\ Calls P 41 ⟨[.agg #[.bool au, .slice av aw ax, .int .i64 ay], .agg #[.bool b1, .slice b2 b3 b4, .int .i64 0]]⟩ b0 fun b5 b6 =>
 ∃ b7, b5 = .returned (.int .i64 b7) /\
 R (.bool (decide ((b7 : Int) <= 0))) b6) /\
 (false = false ->
 R (.bool false) a8))) /\
 (t4 = false ->
 (false = true ->
 ∃ b8, (∀ wv_11, Ext a8 wv_11 -> Loads P 4 (((⟨r, 0, none⟩ : Addr).add 0).add 0) (.bool b8) wv_11) /\ ((!b8) = true ->
 ∃ b9 ba bb bc bd, (∀ wv_12, Ext a8 wv_12 -> Loads P 36 ⟨r, 0, none⟩ (.agg #[.bool b9, .slice ba bb bc, .int .i64 bd]) wv_12) /\ Calls P 32 ⟨[.int .i64 1]⟩ a8 fun be bf =>
 ∃ bg bh bi bj, be = .returned (.agg #[.bool bg, .slice bh bi bj]) /\
 Ext a8 bf /\ Calls P 41 ⟨[.agg #[.bool b9, .slice ba bb bc, .int .i64 bd], .agg #[.bool bg, .slice bh bi bj, .int .i64 0]]⟩ bf fun bk bl =>
 ∃ bm, bk = .returned (.int .i64 bm) /\
 R (.bool (decide ((bm : Int) <= 0))) bl) /\
 ((!b8) = false ->
 R (.bool false) a8)) /\
 (false = false ->
 (false = true ->
 ∃ bn bo bp bq br, (∀ wv_15, Ext a8 wv_15 -> Loads P 36 ⟨r, 0, none⟩ (.agg #[.bool bn, .slice bo bp bq, .int .i64 br]) wv_15) /\ Calls P 32 ⟨[.int .i64 1]⟩ a8 fun bs bt =>
 ∃ bu bv bw bx, bs = .returned (.agg #[.bool bu, .slice bv bw bx]) /\
 Ext a8 bt /\ Calls P 41 ⟨[.agg #[.bool bn, .slice bo bp bq, .int .i64 br], .agg #[.bool bu, .slice bv bw bx, .int .i64 0]]⟩ bt fun bz c0 =>
 ∃ c1, bz = .returned (.int .i64 c1) /\
 R (.bool (decide ((c1 : Int) <= 0))) c0) /\
 (false = false ->
 R (.bool false) a8)))
theorem impl_TaxRateOk_ret {r0 : Bool} {a : Option Addr} {a0 a1 : Nat} {r2 : Int} (h : impl_TaxRateOk r0 a a0 a1 r2 w R) : Ret P 103 [.agg #[.bool r0, .slice a a0 a1, .int .i64 r2]] w R := Ret.of_fsem Tryz.func103 rfl (Eq.mp (show _ = fsem P Tryz.f103 (fun k => []) _ R w from by kernel_rfl) h)
end Go.Proofs.YtbgokfhcgcoipaaGreatDoor
namespace Go.Proofs.YtbgokfhcgcoipaaGreatDoor
variable {w : World} {R : Value -> World -> Prop}
open Go Go.Proofs.YtbgokfhcgcoipaaGreatDoor.Sx
set_option maxRecDepth 100000
def impl_RatMoney (cur : ByteArray) (r0 : Bool) (a0 : Option Addr) (a1 a2 : Nat) (a3 : Option Addr) (a4 a5 : Nat) (mode : Int) (w : World) (R : Value -> World -> Prop) : Prop :=
 ∀ r wv, New w (.cells ⟨[.bool r0, .slice a0 a1 a2, .slice a3 a4 a5]⟩ 60 (0, 0)) r wv ->
 ∀ a6 a7, New wv (.cells ⟨[.string ByteArray.empty, .bool false, .slice none 0 0]⟩ 33 (0, 0)) a6 a7 ->
 ∀ a8 a9, New a7 (.cells ⟨[.bool false, .slice none 0 0, .slice none 0 0]⟩ 60 (0, 0)) a8 a9 ->
 ∃ aa ab ac ae af ag ah, Loads P 60 ⟨r, 0, none⟩ (.agg #[.bool aa, .slice ab ac ae, .slice af ag ah]) a9 /\ Calls P 178 ⟨[.agg #[.bool aa, .slice ab ac ae, .slice af ag ah], .int .i64 mode]⟩ a9 fun e ai =>
 ∃ aj ak al am an ao ap aq ar au av aw, e = .returned (.tuple #[.agg #[.bool aj, .slice ak al am], .agg #[.bool an, .slice ao ap aq, .slice ar au av], .bool aw]) /\
 ∀ ax ay, New ai (.cells ⟨[.bool false, .slice none 0 0]⟩ 31 (0, 0)) ax ay ->
 ∀ az b0, New ay (.cells ⟨[.bool false, .slice none 0 0, .slice none 0 0]⟩ 60 (0, 0)) az b0 ->
 ∃ wv_6, Stores P 31 ⟨ax, 0, none⟩ (.agg #[.bool aj, .slice ak al am]) b0 wv_6 /\
 ∃ wv_7, Stores P 60 ⟨az, 0, none⟩ (.agg #[.bool an, .slice ao ap aq, .slice ar au av]) wv_6 wv_7 /\
 ((!aw) = true ->
 ∃ wv_8, Stores P 33 ⟨a6, 0, none⟩ (.agg #[.string ByteArray.empty, .bool false, .slice none 0 0]) wv_7 wv_8 /\
 ∃ wv_9, Stores P 60 ⟨a8, 0, none⟩ (.agg #[.bool false, .slice none 0 0, .slice none 0 0]) wv_8 wv_9 /\
 ∃ r0_1 r1 b1 b2 b3, Loads P 33 ⟨a6, 0, none⟩ (.agg #[.string r0_1, .bool r1, .slice b1 b2 b3]) wv_9 /\ ∃ r0_2 b4 b5 b6 b7 b8 b9, Loads P 60 ⟨a8, 0, none⟩ (.agg #[.bool r0_2, .slice b4 b5 b6, .slice b7 b8 b9]) wv_9 /\ R (.tuple #[.agg #[.string r0_1, .bool r1, .slice b1 b2 b3], .agg #[.bool r0_2, .slice b4 b5 b6, .slice b7 b8 b9], .bool false]) wv_9) /\
 ((!aw) = false ->
 ∃ ba bb bc bd, Loads P 31 ⟨ax, 0, none⟩ (.agg #[.bool ba, .slice bb bc bd]) wv_7 /\ Calls P 85 ⟨[.string cur, .agg #[.bool ba, .slice bb bc bd]]⟩ wv_7 fun be bf =>
 ∃ bg bh bi bj bk bl, be = .returned (.tuple #[.agg #[.string bg, .bool bh, .slice bi bj bk], .bool bl]) /\
 ∀ bm bn, New bf (.cells ⟨[.string ByteArray.empty, .bool false, .slice none 0 0]⟩ 33 (0, 0)) bm bn ->
 ∃ wv_12, Stores P 33 ⟨bm, 0, none⟩ (.agg #[.string bg, .bool bh, .slice bi bj bk]) bn wv_12 /\
 ((!bl) = true ->
 ∃ wv_13, Stores P 33 ⟨a6, 0, none⟩ (.agg #[.string ByteArray.empty, .bool false, .slice none 0 0]) wv_12 wv_13 /\
 ∃ wv_14, Stores P 60 ⟨a8, 0, none⟩ (.agg #[.bool false, .slice none 0 0, .slice none 0 0]) wv_13 wv_14 /\
 ∃ r0_3 r1_1 bo bp bq, Loads P 33 ⟨a6, 0, none⟩ (.agg #[.string r0_3, .bool r1_1, .slice bo bp bq]) wv_14 /\ ∃ r0_4 br bs bt bu bv bw, Loads P 60 ⟨a8, 0, none⟩ (.agg #[.bool r0_4, .slice br bs bt, .slice bu bv bw]) wv_14 /\ R (.tuple #[.agg #[.string r0_3, .bool r1_1, .slice bo bp bq], .agg #[.bool r0_4, .slice br bs bt, .slice bu bv bw], .bool false]) wv_14) /\
 ((!bl) = false ->
 ∃ blks : List Nat, ∃ bx bz c0 c1 c2, (∀ wv_15, EX blks wv_12.drew wv_15 -> Loads P 33 ⟨bm, 0, none⟩ (.agg #[.string bx, .bool bz, .slice c0 c1 c2]) wv_15) /\ ∃ c3 c4 c5 c6 c7 c8 c9, (∀ wv_16, EX blks wv_12.drew wv_16 -> Loads P 60 ⟨az, 0, none⟩ (.agg #[.bool c3, .slice c4 c5 c6, .slice c7 c8 c9]) wv_16) /\ ∃ wv_17, Stores P 33 ⟨a6, 0, none⟩ (.agg #[.string bx, .bool bz, .slice c0 c1 c2]) wv_12.drew wv_17 /\
 EX blks wv_12.drew wv_17 /\ ∃ wv_18, Stores P 60 ⟨a8, 0, none⟩ (.agg #[.bool c3, .slice c4 c5 c6, .slice c7 c8 c9]) wv_17 wv_18 /\
 ∃ r0_5 r1_2 ca cb cc, Loads P 33 ⟨a6, 0, none⟩ (.agg #[.string r0_5, .bool r1_2, .slice ca cb cc]) wv_18 /\ ∃ r0_6 cd ce cf cg ch ci, Loads P 60 ⟨a8, 0, none⟩ (.agg #[.bool r0_6, .slice cd ce cf, .slice cg ch ci]) wv_18 /\ R (.tuple #[.agg #[.string r0_5, .bool r1_2, .slice ca cb cc], .agg #[.bool r0_6, .slice cd ce cf, .slice cg ch ci], .bool true]) wv_18))
theorem impl_RatMoney_ret {a : ByteArray} {r0 : Bool} {a0 : Option Addr} {a1 a2 : Nat} {a3 : Option Addr} {a4 a5 : Nat} {a6 : Int} (h : impl_RatMoney a r0 a0 a1 a2 a3 a4 a5 a6 w R) : Ret P 105 [.string a, .agg #[.bool r0, .slice a0 a1 a2, .slice a3 a4 a5], .int .i64 a6] w R := Ret.of_fsem Tryz.func105 rfl (Eq.mp (show _ = fsem P Tryz.f105 (fun k => []) _ R w from by kernel_rfl) h)
def impl_ratsOk (r0 : Bool) (a0 : Option Addr) (a1 a2 : Nat) (a3 : Option Addr) (a4 a5 : Nat) (s0 : Bool) (a6 : Option Addr) (a7 a8 : Nat) (a9 : Option Addr) (aa ab : Nat) (w : World) (R : Value -> World -> Prop) : Prop :=
 ∀ r wv, New w (.cells ⟨[.bool r0, .slice a0 a1 a2, .slice a3 a4 a5]⟩ 60 (0, 0)) r wv ->
 ∀ ac ae, New wv (.cells ⟨[.bool s0, .slice a6 a7 a8, .slice a9 aa ab]⟩ 60 (0, 0)) ac ae ->
 ∃ af ag ah ai aj ak al, Loads P 60 ⟨r, 0, none⟩ (.agg #[.bool af, .slice ag ah ai, .slice aj ak al]) ae /\ Calls P 132 ⟨[.agg #[.bool af, .slice ag ah ai, .slice aj ak al]]⟩ ae fun e am =>
 ∃ t6, e = .returned (.bool t6) /\
 (t6 = true ->
 ∃ an ao ap aq ar au av, Loads P 60 ⟨ac, 0, none⟩ (.agg #[.bool an, .slice ao ap aq, .slice ar au av]) am /\ Calls P 132 ⟨[.agg #[.bool an, .slice ao ap aq, .slice ar au av]]⟩ am fun aw ax =>
 ∃ t9, aw = .returned (.bool t9) /\
 R (.bool t9) ax) /\
 (t6 = false ->
 R (.bool false) am)
theorem impl_ratsOk_ret {r0 : Bool} {a : Option Addr} {a0 a1 : Nat} {a2 : Option Addr} {a3 a4 : Nat} {s0 : Bool} {a5 : Option Addr} {a6 a7 : Nat} {a8 : Option Addr} {a9 b : Nat} (h : impl_ratsOk r0 a a0 a1 a2 a3 a4 s0 a5 a6 a7 a8 a9 b w R) : Ret P 106 [.agg #[.bool r0, .slice a a0 a1, .slice a2 a3 a4], .agg #[.bool s0, .slice a5 a6 a7, .slice a8 a9 b]] w R := Ret.of_fsem Tryz.func106 rfl (Eq.mp (show _ = fsem P Tryz.f106 (fun k => []) _ R w from by kernel_rfl) h)
def impl_Rat_num (r0 : Bool) (a0 : Option Addr) (a1 a2 : Nat) (a3 : Option Addr) (a4 a5 : Nat) (a6 : Option Addr) (a7 a8 : Nat) (w : World) (R : Value -> World -> Prop) : Prop :=
 ∀ r wv, New w (.cells ⟨[.bool r0, .slice a0 a1 a2, .slice a3 a4 a5]⟩ 60 (0, 0)) r wv ->
 ∀ a9 aa, New wv (.cells ⟨[.bool false, .slice none 0 0]⟩ 31 (0, 0)) a9 aa ->
 ∃ t7, (∀ wv_2, Ext aa.drew wv_2 -> Loads P 4 (((⟨r, 0, none⟩ : Addr).add 0).add 0) (.bool t7) wv_2) /\ ∃ ab ac ae, (∀ wv_3, Ext aa.drew wv_3 -> Loads P 29 (((⟨r, 0, none⟩ : Addr).add 0).add 1) (.slice ab ac ae) wv_3) /\ Calls P 109 ⟨[.slice ab ac ae, .slice a6 a7 a8]⟩ aa.drew fun e af =>
 ∃ ag ah ai, e = .returned (.slice ag ah ai) /\
 Ext aa.drew af /\ Calls P 170 ⟨[.bool t7, .slice ag ah ai]⟩ af fun aj ak =>
 ∃ al am an ao, aj = .returned (.agg #[.bool al, .slice am an ao]) /\
 ∃ wv_6, Stores P 31 ⟨a9, 0, none⟩ (.agg #[.bool al, .slice am an ao]) ak wv_6 /\
 ∃ r0_1 ap aq ar, Loads P 31 ⟨a9, 0, none⟩ (.agg #[.bool r0_1, .slice ap aq ar]) wv_6 /\ R (.agg #[.bool r0_1, .slice ap aq ar]) wv_6
theorem impl_Rat_num_ret {r0 : Bool} {a : Option Addr} {a0 a1 : Nat} {a2 : Option Addr} {a3 a4 : Nat} {a5 : Option Addr} {a6 a7 : Nat} (h : impl_Rat_num r0 a a0 a1 a2 a3 a4 a5 a6 a7 w R) : Ret P 107 [.agg #[.bool r0, .slice a a0 a1, .slice a2 a3 a4], .slice a5 a6 a7] w R := Ret.of_fsem Tryz.func107 rfl (Eq.mp (show _ = fsem P Tryz.f107 (fun k => []) _ R w from by kernel_rfl) h)
def impl_reduce (num0 : Bool) (a0 : Option Addr) (a1 a2 : Nat) (a3 : Option Addr) (a4 a5 : Nat) (w : World) (R : Value -> World -> Prop) : Prop :=
 ∀ r wv, New w (.cells ⟨[.bool num0, .slice a0 a1 a2]⟩ 31 (0, 0)) r wv ->
 ∀ a6 a7, New wv (.cells ⟨[.bool false, .slice none 0 0, .slice none 0 0]⟩ 60 (0, 0)) a6 a7 ->
 ∃ a8 a9 aa, Loads P 29 ((⟨r, 0, none⟩ : Addr).add 1) (.slice a8 a9 aa) a7 /\ Calls P 179 ⟨[.slice a8 a9 aa, .slice a3 a4 a5]⟩ a7 fun e ab =>
 ∃ ac ae af, e = .returned (.slice ac ae af) /\
 ∃ ag ah ai, Loads P 29 ((⟨r, 0, none⟩ : Addr).add 1) (.slice ag ah ai) ab /\ Calls P 180 ⟨[.slice ag ah ai, .slice ac ae af]⟩ ab fun aj ak =>
 ∃ al am an ao ap aq, aj = .returned (.tuple #[.slice al am an, .slice ao ap aq]) /\
 Calls P 180 ⟨[.slice a3 a4 a5, .slice ac ae af]⟩ ak fun ar au =>
 ∃ av aw ax ay az b0, ar = .returned (.tuple #[.slice av aw ax, .slice ay az b0]) /\
 ((decide ((18 : Int) < ((am : Nat) : Int))) = true ->
 (true = true ->
 ∃ wv_5, Stores P 60 ⟨a6, 0, none⟩ (.agg #[.bool false, .slice none 0 0, .slice none 0 0]) au wv_5 /\
 ∃ r0 b1 b2 b3 b4 b5 b6, Loads P 60 ⟨a6, 0, none⟩ (.agg #[.bool r0, .slice b1 b2 b3, .slice b4 b5 b6]) wv_5 /\ R (.tuple #[.agg #[.bool r0, .slice b1 b2 b3, .slice b4 b5 b6], .bool false]) wv_5) /\
 (true = false ->
 ∃ b7, Loads P 4 ((⟨r, 0, none⟩ : Addr).add 0) (.bool b7) au /\ Calls P 170 ⟨[.bool b7, .slice al am an]⟩ au fun b8 b9 =>
 ∃ ba bb bc bd, b8 = .returned (.agg #[.bool ba, .slice bb bc bd]) /\
 ∃ wv_7, Stores P 60 ⟨a6, 0, none⟩ (.agg #[.bool ba, .slice bb bc bd, .slice av aw ax]) b9 wv_7 /\
 ∃ r0_1 be bf bg bh bi bj, Loads P 60 ⟨a6, 0, none⟩ (.agg #[.bool r0_1, .slice be bf bg, .slice bh bi bj]) wv_7 /\ R (.tuple #[.agg #[.bool r0_1, .slice be bf bg, .slice bh bi bj], .bool true]) wv_7)) /\
 ((decide ((18 : Int) < ((am : Nat) : Int))) = false ->
 ((decide ((18 : Int) < ((aw : Nat) : Int))) = true ->
 ∃ wv_8, Stores P 60 ⟨a6, 0, none⟩ (.agg #[.bool false, .slice none 0 0, .slice none 0 0]) au wv_8 /\
 ∃ r0_2 bk bl bm bn bo bp, Loads P 60 ⟨a6, 0, none⟩ (.agg #[.bool r0_2, .slice bk bl bm, .slice bn bo bp]) wv_8 /\ R (.tuple #[.agg #[.bool r0_2, .slice bk bl bm, .slice bn bo bp], .bool false]) wv_8) /\
 ((decide ((18 : Int) < ((aw : Nat) : Int))) = false ->
 ∃ bq, Loads P 4 ((⟨r, 0, none⟩ : Addr).add 0) (.bool bq) au /\ Calls P 170 ⟨[.bool bq, .slice al am an]⟩ au fun br bs =>
 ∃ bt bu bv bw, br = .returned (.agg #[.bool bt, .slice bu bv bw]) /\
 ∃ wv_10, Stores P 60 ⟨a6, 0, none⟩ (.agg #[.bool bt, .slice bu bv bw, .slice av aw ax]) bs wv_10 /\
 ∃ r0_3 bx bz c0 c1 c2 c3, Loads P 60 ⟨a6, 0, none⟩ (.agg #[.bool r0_3, .slice bx bz c0, .slice c1 c2 c3]) wv_10 /\ R (.tuple #[.agg #[.bool r0_3, .slice bx bz c0, .slice c1 c2 c3], .bool true]) wv_10))
theorem impl_reduce_ret {a : Bool} {a0 : Option Addr} {a1 a2 : Nat} {a3 : Option Addr} {a4 a5 : Nat} (h : impl_reduce a a0 a1 a2 a3 a4 a5 w R) : Ret P 108 [.agg #[.bool a, .slice a0 a1 a2], .slice a3 a4 a5] w R := Ret.of_fsem Tryz.func108 rfl (Eq.mp (show _ = fsem P Tryz.f108 (fun k => []) _ R w from by kernel_rfl) h)
def impl_natMul (a0 : Option Addr) (a1 a2 : Nat) (a3 : Option Addr) (a4 a5 : Nat) (w : World) (R : Value -> World -> Prop) : Prop :=
 ∃ a6 : Int, a6 = IntKind.wrap .i64 (((a1 : Nat) : Int) + ((a4 : Nat) : Int)) /\ ∃ a7 : Int, a7 = IntKind.wrap .i64 (a6 + 1) /\ (0 <= (a7 : Int) /\ (a7 : Int) <= a7 /\ ((8 : Nat) : Int) * a7 <= 281474976710656) /\
 ∀ r wv, New w (.cells ⟨zeroRow (.int .i64 0) (a7.toNat * 1)⟩ 3 (0, 0)) r wv ->
 ∃ (a8 : Int -> World -> Prop) (mu : Int -> World -> Nat), a8 0 wv /\
 ∀ (a9 : Fr) (aa : World) (ab : Int), a8 ab aa ->
 ((decide ((ab : Int) < ((a1 : Nat) : Int))) = true ->
 (0 <= (ab : Int) /\ (ab : Int) < (a1 : Nat)) /\ ptrS a0 fun ad => ∃ ac, Loads P 3 (ad.add (ab.toNat * 1)) (.int .i64 ac) aa /\ ∃ (ae : Int -> Int -> World -> Prop) (af : Int -> Int -> World -> Nat), ae 0 0 aa /\
 ∀ (ag : Fr) (ah : World) (carry ai : Int), ae carry ai ah ->
 ((decide ((ai : Int) < ((a4 : Nat) : Int))) = true ->
 (0 <= (ai : Int) /\ (ai : Int) < (a4 : Nat)) /\ ptrS a3 fun aj => ∃ ak, Loads P 3 (aj.add (ai.toNat * 1)) (.int .i64 ak) ah /\ ∃ al : Int, al = IntKind.wrap .i64 (ab + ai) /\ (0 <= (al : Int) /\ (al : Int) < (a7.toNat : Nat)) /\ ∃ am, Loads P 3 ((⟨r, 0, none⟩ : Addr).add (al.toNat * 1)) (.int .i64 am) ah /\ ∃ an : Int, an = IntKind.wrap .i64 (ac * ak) /\ ∃ ao : Int, ao = IntKind.wrap .i64 (am + an) /\ ∃ ap : Int, ap = IntKind.wrap .i64 (carry + ao) /\ ∃ aq : Int, aq = IntKind.wrap .i64 (ab + ai) /\ (1000000000 : Int) ≠ 0 /\ ∃ ar : Int, ar = Int.tmod ap 1000000000 /\ (0 <= (aq : Int) /\ (aq : Int) < (a7.toNat : Nat)) /\ ∃ wv_3, Stores P 3 ((⟨r, 0, none⟩ : Addr).add (aq.toNat * 1)) (.int .i64 ar) ah wv_3 /\
 (1000000000 : Int) ≠ 0 /\ ∃ au : Int, au = IntKind.wrap .i64 (Int.tdiv ap 1000000000) /\ ∃ av : Int, av = IntKind.wrap .i64 (ai + 1) /\ ae au av wv_3 /\ af au av wv_3 < af carry ai ah) /\
 ((decide ((ai : Int) < ((a4 : Nat) : Int))) = false ->
 ∃ aw : Int, aw = IntKind.wrap .i64 (ab + ((a4 : Nat) : Int)) /\ ∃ (ax : Int -> Int -> World -> Prop) (ay : Int -> Int -> World -> Nat), ax carry aw ah /\
 ∀ (az : Fr) (b0 : World) (carry_1 k : Int), ax carry_1 k b0 ->
 ((decide ((0 : Int) < carry_1)) = true ->
 (0 <= (k : Int) /\ (k : Int) < (a7.toNat : Nat)) /\ ∃ b1, Loads P 3 ((⟨r, 0, none⟩ : Addr).add (k.toNat * 1)) (.int .i64 b1) b0 /\ ∃ b2 : Int, b2 = IntKind.wrap .i64 (carry_1 + b1) /\ (1000000000 : Int) ≠ 0 /\ ∃ b3 : Int, b3 = Int.tmod b2 1000000000 /\ (0 <= (k : Int) /\ (k : Int) < (a7.toNat : Nat)) /\ ∃ wv_5, Stores P 3 ((⟨r, 0, none⟩ : Addr).add (k.toNat * 1)) (.int .i64 b3) b0 wv_5 /\
 (1000000000 : Int) ≠ 0 /\ ∃ b4 : Int, b4 = IntKind.wrap .i64 (Int.tdiv b2 1000000000) /\ ∃ b5 : Int, b5 = IntKind.wrap .i64 (k + 1) /\ ax b4 b5 wv_5 /\ ay b4 b5 wv_5 < ay carry_1 k b0) /\
 ((decide ((0 : Int) < carry_1)) = false ->
 ∃ b6 : Int, b6 = IntKind.wrap .i64 (ab + 1) /\ a8 b6 b0 /\ mu b6 b0 < mu ab aa))) /\
 ((decide ((ab : Int) < ((a1 : Nat) : Int))) = false ->
 Calls P 181 ⟨[(.slice (some ⟨r, 0, none⟩) a7.toNat a7.toNat)]⟩ aa fun e b7 =>
 ∃ b8 b9 ba, e = .returned (.slice b8 b9 ba) /\
 R (.slice b8 b9 ba) b7)
theorem impl_natMul_ret {a : Option Addr} {a0 a1 : Nat} {a2 : Option Addr} {a3 a4 : Nat} (h : impl_natMul a a0 a1 a2 a3 a4 w R) : Ret P 109 [.slice a a0 a1, .slice a2 a3 a4] w R := Ret.of_fsem Tryz.func109 rfl (Eq.mp (show _ = fsem P Tryz.f109 (fun k => cond (Nat.beq k 4) [(21, .one (.int .i64))] (cond (Nat.beq k 8) [(8, .one (.int .i64)), (28, .one (.int .i64))] (cond (Nat.beq k 15) [(8, .one (.int .i64)), (11, .one (.int .i64))] ([])))) _ R w from by kernel_rfl) h)
def impl_RatMake_j0 (r a0 a1 : Nat) (W : World) (R : Value -> World -> Prop) : Prop :=
 ∃ a2, (∀ wv_5, Ext W.drew wv_5 -> Loads P 4 ((⟨r, 0, none⟩ : Addr).add 0) (.bool a2) wv_5) /\ ∃ a3, (∀ wv_6, Ext W.drew wv_6 -> Loads P 4 ((⟨a0, 0, none⟩ : Addr).add 0) (.bool a3) wv_6) /\ ∃ a4 a5 a6, (∀ wv_7, Ext W.drew wv_7 -> Loads P 29 ((⟨r, 0, none⟩ : Addr).add 1) (.slice a4 a5 a6) wv_7) /\ Calls P 170 ⟨[(.bool (!(a2 == a3))), .slice a4 a5 a6]⟩ W.drew fun a7 a8 =>
 ∃ a9 aa ab ac, a7 = .returned (.agg #[.bool a9, .slice aa ab ac]) /\
 Ext W.drew a8 /\ ∃ ae af ag, (∀ wv_9, Ext W.drew wv_9 -> Loads P 29 ((⟨a0, 0, none⟩ : Addr).add 1) (.slice ae af ag) wv_9) /\ Calls P 108 ⟨[.agg #[.bool a9, .slice aa ab ac], .slice ae af ag]⟩ a8 fun ah ai =>
 ∃ aj ak al am an ao ap aq, ah = .returned (.tuple #[.agg #[.bool aj, .slice ak al am, .slice an ao ap], .bool aq]) /\
 ∃ wv_11, Stores P 60 ⟨a1, 0, none⟩ (.agg #[.bool aj, .slice ak al am, .slice an ao ap]) ai wv_11 /\
 ∃ r0_1 ar au av aw ax ay, Loads P 60 ⟨a1, 0, none⟩ (.agg #[.bool r0_1, .slice ar au av, .slice aw ax ay]) wv_11 /\ R (.tuple #[.agg #[.bool r0_1, .slice ar au av, .slice aw ax ay], .bool aq]) wv_11
def impl_RatMake (num0 : Bool) (a0 : Option Addr) (a1 a2 : Nat) (den0 : Bool) (a3 : Option Addr) (a4 a5 : Nat) (w : World) (R : Value -> World -> Prop) : Prop :=
 ∀ r wv, New w (.cells ⟨[.bool num0, .slice a0 a1 a2]⟩ 31 (0, 0)) r wv ->
 ∀ a6 a7, New wv (.cells ⟨[.bool den0, .slice a3 a4 a5]⟩ 31 (0, 0)) a6 a7 ->
 ∀ a8 a9, New a7 (.cells ⟨[.bool false, .slice none 0 0, .slice none 0 0]⟩ 60 (0, 0)) a8 a9 ->
 ∃ aa ab ac ae, Loads P 31 ⟨r, 0, none⟩ (.agg #[.bool aa, .slice ab ac ae]) a9 /\ ∃ af ag ah ai, Loads P 31 ⟨a6, 0, none⟩ (.agg #[.bool af, .slice ag ah ai]) a9 /\ Calls P 142 ⟨[.agg #[.bool aa, .slice ab ac ae], .agg #[.bool af, .slice ag ah ai]]⟩ a9 fun e aj =>
 ∃ t8, e = .returned (.bool t8) /\
 ((!t8) = true ->
 (true = true ->
 ∃ wv_4, Stores P 60 ⟨a8, 0, none⟩ (.agg #[.bool false, .slice none 0 0, .slice none 0 0]) aj wv_4 /\
 ∃ r0 ak al am an ao ap, Loads P 60 ⟨a8, 0, none⟩ (.agg #[.bool r0, .slice ak al am, .slice an ao ap]) wv_4 /\ R (.tuple #[.agg #[.bool r0, .slice ak al am, .slice an ao ap], .bool false]) wv_4) /\
 (true = false ->
 impl_RatMake_j0 r a6 a8 aj R)) /\
 ((!t8) = false ->
 ∃ aq ar au, Loads P 29 ((⟨a6, 0, none⟩ : Addr).add 1) (.slice aq ar au) aj /\ ((decide ((((ar : Nat) : Int) : Int) = 0)) = true ->
 ∃ wv_12, Stores P 60 ⟨a8, 0, none⟩ (.agg #[.bool false, .slice none 0 0, .slice none 0 0]) aj wv_12 /\
 ∃ r0_2 av aw ax ay az b0, Loads P 60 ⟨a8, 0, none⟩ (.agg #[.bool r0_2, .slice av aw ax, .slice ay az b0]) wv_12 /\ R (.tuple #[.agg #[.bool r0_2, .slice av aw ax, .slice ay az b0], .bool false]) wv_12) /\
 ((decide ((((ar : Nat) : Int) : Int) = 0)) = false ->
 impl_RatMake_j0 r a6 a8 aj R))
theorem impl_RatMake_ret {a : Bool} {a0 : Option Addr} {a1 a2 : Nat} {a3 : Bool} {a4 : Option Addr} {a5 a6 : Nat} (h : impl_RatMake a a0 a1 a2 a3 a4 a5 a6 w R) : Ret P 110 [.agg #[.bool a, .slice a0 a1 a2], .agg #[.bool a3, .slice a4 a5 a6]] w R := Ret.of_fsem Tryz.func110 rfl (Eq.mp (show _ = fsem P Tryz.f110 (fun k => []) _ R w from by kernel_rfl) h)
def impl_natOf (n : Int) (w : World) (R : Value -> World -> Prop) : Prop :=
 ∀ r wv, New w (.cells ⟨[]⟩ 3 (0, 0)) r wv ->
 ∃ (a0 : Int -> Option Addr -> Nat -> Nat -> World -> Prop) (mu : Int -> Option Addr -> Nat -> Nat -> World -> Nat), a0 n (some ⟨r, 0, none⟩) 0 0 wv /\
 ∀ (a1 : Fr) (a2 : World) (n_1 : Int) (a3 : Option Addr) (a4 a5 : Nat), a0 n_1 a3 a4 a5 a2 ->
 ((decide ((0 : Int) < n_1)) = true ->
 (1000000000 : Int) ≠ 0 /\ ∃ t9 : Int, t9 = Int.tmod n_1 1000000000 /\ ∃ a6 : Int, a6 = IntKind.wrap .i64 t9 /\ ∀ a7 a8, New a2 (.cells ⟨[.int .i64 a6]⟩ 3 (0, 0)) a7 a8 ->
 ∃ a9 aa ab ac, Appends P [29, 29] [.slice a3 a4 a5, (.slice (some ⟨a7, 0, none⟩) 1 1)] (.slice a9 aa ab) a8 ac /\
 (1000000000 : Int) ≠ 0 /\ ∃ ae : Int, ae = IntKind.wrap .u64 (Int.tdiv n_1 1000000000) /\ a0 ae a9 aa ab ac /\ mu ae a9 aa ab ac < mu n_1 a3 a4 a5 a2) /\
 ((decide ((0 : Int) < n_1)) = false ->
 R (.slice a3 a4 a5) a2)
theorem impl_natOf_ret {n : Int} (h : impl_natOf n w R) : Ret P 111 [.int .u64 n] w R := Ret.of_fsem Tryz.func111 rfl (Eq.mp (show _ = fsem P Tryz.f111 (fun k => cond (Nat.beq k 3) [(0, .one (.int .u64)), (3, .one .slice)] ([])) _ R w from by kernel_rfl) h)
def impl_DecOk (d0 : Bool) (a0 : Option Addr) (a1 a2 : Nat) (d2 : Int) (w : World) (R : Value -> World -> Prop) : Prop :=
 ∀ r wv, New w (.cells ⟨[.bool d0, .slice a0 a1 a2, .int .i64 d2]⟩ 36 (0, 0)) r wv ->
 ∃ a3 a4 a5 a6, Loads P 31 ((⟨r, 0, none⟩ : Addr).add 0) (.agg #[.bool a3, .slice a4 a5 a6]) wv /\ Calls P 96 ⟨[.agg #[.bool a3, .slice a4 a5 a6]]⟩ wv fun e a7 =>
 ∃ t5, e = .returned (.bool t5) /\
 (t5 = true ->
 ∃ a8 a9 aa, Loads P 29 (((⟨r, 0, none⟩ : Addr).add 0).add 1) (.slice a8 a9 aa) a7 /\ ((decide ((((a9 : Nat) : Int) : Int) <= 6)) = true ->
 ∃ ab, Loads P 3 ((⟨r, 0, none⟩ : Addr).add 2) (.int .i64 ab) a7 /\ Calls P 182 ⟨[.int .i64 ab]⟩ a7 fun ac ae =>
 ∃ af, ac = .returned (.bool af) /\
 R (.bool af) ae) /\
 ((decide ((((a9 : Nat) : Int) : Int) <= 6)) = false ->
 R (.bool false) a7)) /\
 (t5 = false ->
 (false = true ->
 ∃ ag, Loads P 3 ((⟨r, 0, none⟩ : Addr).add 2) (.int .i64 ag) a7 /\ Calls P 182 ⟨[.int .i64 ag]⟩ a7 fun ah ai =>
 ∃ aj, ah = .returned (.bool aj) /\
 R (.bool aj) ai) /\
 (false = false ->
 R (.bool false) a7))
theorem impl_DecOk_ret {d0 : Bool} {a : Option Addr} {a0 a1 : Nat} {d2 : Int} (h : impl_DecOk d0 a a0 a1 d2 w R) : Ret P 112 [.agg #[.bool d0, .slice a a0 a1, .int .i64 d2]] w R := Ret.of_fsem Tryz.func112 rfl (Eq.mp (show _ = fsem P Tryz.f112 (fun k => []) _ R w from by kernel_rfl) h)
def impl_natTen (k : Int) (w : World) (R : Value -> World -> Prop) : Prop :=
 (9 : Int) ≠ 0 /\ ∃ t6 : Int, t6 = IntKind.wrap .i64 (Int.tdiv k 9) /\ (9 : Int) ≠ 0 /\ ∃ t8 : Int, t8 = IntKind.wrap .i64 (Int.tdiv k 9) /\ ∃ t9 : Int, t9 = IntKind.wrap .i64 (t8 + 1) /\ (0 <= (t6 : Int) /\ (t6 : Int) <= t9 /\ ((8 : Nat) : Int) * t9 <= 281474976710656) /\
 ∀ r wv, New w (.cells ⟨zeroRow (.int .i64 0) (t9.toNat * 1)⟩ 3 (0, 0)) r wv ->
 (9 : Int) ≠ 0 /\ ∃ a0 : Int, a0 = Int.tmod k 9 /\ ∃ (a1 : Int -> Int -> World -> Prop) (mu : Int -> Int -> World -> Nat), a1 1 0 wv /\
 ∀ (a2 : Fr) (a3 : World) (top a4 : Int), a1 top a4 a3 ->
 ((decide ((a4 : Int) < a0)) = true ->
 ∃ a5 : Int, a5 = IntKind.wrap .i64 (top * 10) /\ ∃ a6 : Int, a6 = IntKind.wrap .i64 (a4 + 1) /\ a1 a5 a6 a3 /\ mu a5 a6 a3 < mu top a4 a3) /\
 ((decide ((a4 : Int) < a0)) = false ->
 ∀ a7 a8, New a3 (.cells ⟨[.int .i64 top]⟩ 3 (0, 0)) a7 a8 ->
 ∃ a9 aa ab ac, Appends P [29, 29] [(.slice (some ⟨r, 0, none⟩) t6.toNat t9.toNat), (.slice (some ⟨a7, 0, none⟩) 1 1)] (.slice a9 aa ab) a8 ac /\
 R (.slice a9 aa ab) ac)
theorem impl_natTen_ret {k : Int} (h : impl_natTen k w R) : Ret P 113 [.int .i64 k] w R := Ret.of_fsem Tryz.func113 rfl (Eq.mp (show _ = fsem P Tryz.f113 (fun k => cond (Nat.beq k 5) [(4, .one (.int .i64)), (13, .one (.int .i64))] ([])) _ R w from by kernel_rfl) h)
def impl_intMul (x0 : Bool) (a0 : Option Addr) (a1 a2 : Nat) (y0 : Bool) (a3 : Option Addr) (a4 a5 : Nat) (w : World) (R : Value -> World -> Prop) : Prop :=
 ∀ r wv, New w (.cells ⟨[.bool x0, .slice a0 a1 a2]⟩ 31 (0, 0)) r wv ->
 ∀ a6 a7, New wv (.cells ⟨[.bool y0, .slice a3 a4 a5]⟩ 31 (0, 0)) a6 a7 ->
 ∀ a8 a9, New a7 (.cells ⟨[.bool false, .slice none 0 0]⟩ 31 (0, 0)) a8 a9 ->
 ∃ t6, (∀ wv_3, Ext a9.drew wv_3 -> Loads P 4 ((⟨r, 0, none⟩ : Addr).add 0) (.bool t6) wv_3) /\ ∃ t8, (∀ wv_4, Ext a9.drew wv_4 -> Loads P 4 ((⟨a6, 0, none⟩ : Addr).add 0) (.bool t8) wv_4) /\ ∃ aa ab ac, (∀ wv_5, Ext a9.drew wv_5 -> Loads P 29 ((⟨r, 0, none⟩ : Addr).add 1) (.slice aa ab ac) wv_5) /\ ∃ ae af ag, (∀ wv_6, Ext a9.drew wv_6 -> Loads P 29 ((⟨a6, 0, none⟩ : Addr).add 1) (.slice ae af ag) wv_6) /\ Calls P 109 ⟨[.slice aa ab ac, .slice ae af ag]⟩ a9.drew fun e ah =>
 ∃ ai aj ak, e = .returned (.slice ai aj ak) /\
 Ext a9.drew ah /\ Calls P 170 ⟨[(.bool (!(t6 == t8))), .slice ai aj ak]⟩ ah fun al am =>
 ∃ an ao ap aq, al = .returned (.agg #[.bool an, .slice ao ap aq]) /\
 ∃ wv_9, Stores P 31 ⟨a8, 0, none⟩ (.agg #[.bool an, .slice ao ap aq]) am wv_9 /\
 ∃ r0 ar au av, Loads P 31 ⟨a8, 0, none⟩ (.agg #[.bool r0, .slice ar au av]) wv_9 /\ R (.agg #[.bool r0, .slice ar au av]) wv_9
theorem impl_intMul_ret {x0 : Bool} {a : Option Addr} {a0 a1 : Nat} {y0 : Bool} {a2 : Option Addr} {a3 a4 : Nat} (h : impl_intMul x0 a a0 a1 y0 a2 a3 a4 w R) : Ret P 114 [.agg #[.bool x0, .slice a a0 a1], .agg #[.bool y0, .slice a2 a3 a4]] w R := Ret.of_fsem Tryz.func114 rfl (Eq.mp (show _ = fsem P Tryz.f114 (fun k => []) _ R w from by kernel_rfl) h)
def impl_intCopy (x0 : Bool) (a0 : Option Addr) (a1 a2 : Nat) (w : World) (R : Value -> World -> Prop) : Prop :=
 ∀ r wv, New w (.cells ⟨[.bool x0, .slice a0 a1 a2]⟩ 31 (0, 0)) r wv ->
 ∀ a3 a4, New wv (.cells ⟨[.bool false, .slice none 0 0]⟩ 31 (0, 0)) a3 a4 ->
 ∃ t4, (∀ wv_2, Ext a4.drew wv_2 -> Loads P 4 ((⟨r, 0, none⟩ : Addr).add 0) (.bool t4) wv_2) /\ ∃ a5 a6 a7, (∀ wv_3, Ext a4.drew wv_3 -> Loads P 29 ((⟨r, 0, none⟩ : Addr).add 1) (.slice a5 a6 a7) wv_3) /\ Calls P 183 ⟨[.slice a5 a6 a7]⟩ a4.drew fun e a8 =>
 ∃ a9 aa ab, e = .returned (.slice a9 aa ab) /\
 Ext a4.drew a8 /\ ∃ wv_5, Stores P 31 ⟨a3, 0, none⟩ (.agg #[.bool t4, .slice a9 aa ab]) a8 wv_5 /\
 ∃ r0 ac ae af, Loads P 31 ⟨a3, 0, none⟩ (.agg #[.bool r0, .slice ac ae af]) wv_5 /\ R (.agg #[.bool r0, .slice ac ae af]) wv_5
theorem impl_intCopy_ret {x0 : Bool} {a : Option Addr} {a0 a1 : Nat} (h : impl_intCopy x0 a a0 a1 w R) : Ret P 115 [.agg #[.bool x0, .slice a a0 a1]] w R := Ret.of_fsem Tryz.func115 rfl (Eq.mp (show _ = fsem P Tryz.f115 (fun k => []) _ R w from by kernel_rfl) h)
def impl_DecText_j1 (text_1 : ByteArray) (a0 : World) (R : Value -> World -> Prop) : Prop :=
 R (.string text_1) a0
def impl_DecText_j0 (r : Nat) (text : ByteArray) (W : World) (R : Value -> World -> Prop) : Prop :=
 ∃ a0, Loads P 4 (((⟨r, 0, none⟩ : Addr).add 0).add 0) (.bool a0) W /\ (a0 = true ->
 (S [45]).size + text.size <= 9223372036854775807 /\ ∃ a1 : ByteArray, a1 = (S [45]) ++ text /\ impl_DecText_j1 a1 W R) /\
 (a0 = false ->
 impl_DecText_j1 text W R)
def impl_DecText (d0 : Bool) (a0 : Option Addr) (a1 a2 : Nat) (d2 : Int) (w : World) (R : Value -> World -> Prop) : Prop :=
 ∀ r wv, New w (.cells ⟨[.bool d0, .slice a0 a1 a2, .int .i64 d2]⟩ 36 (0, 0)) r wv ->
 ∃ a3 a4 a5 a6 a7, Loads P 36 ⟨r, 0, none⟩ (.agg #[.bool a3, .slice a4 a5 a6, .int .i64 a7]) wv /\ Calls P 112 ⟨[.agg #[.bool a3, .slice a4 a5 a6, .int .i64 a7]]⟩ wv fun e a8 =>
 ∃ t6, e = .returned (.bool t6) /\
 ((!t6) = true ->
 R (.string (S [])) a8) /\
 ((!t6) = false ->
 ∃ a9 aa ab, (∀ wv_2, Ext a8.drew wv_2 -> Loads P 29 (((⟨r, 0, none⟩ : Addr).add 0).add 1) (.slice a9 aa ab) wv_2) /\ Calls P 188 ⟨[.slice a9 aa ab]⟩ a8.drew fun ac ae =>
 ∃ af, ac = .returned (.string af) /\
 Ext a8.drew ae /\ ∃ ag, (∀ wv_4, Ext a8.drew wv_4 -> Loads P 3 ((⟨r, 0, none⟩ : Addr).add 2) (.int .i64 ag) wv_4) /\ ∃ ah : Int, ah = IntKind.wrap .i64 (ag + 1) /\ Calls P 187 ⟨[.string af, .int .i64 ah]⟩ ae fun ai aj =>
 ∃ ak, ai = .returned (.string ak) /\
 ∃ al, Loads P 3 ((⟨r, 0, none⟩ : Addr).add 2) (.int .i64 al) aj /\ ((decide ((0 : Int) < al)) = true ->
 ∃ am, Loads P 3 ((⟨r, 0, none⟩ : Addr).add 2) (.int .i64 am) aj /\ ∃ an : Int, an = IntKind.wrap .i64 (((ak.size : Nat) : Int) - am) /\ (0 <= (an : Int) /\ (an : Int) <= (ak.size : Nat)) /\ (ak.extract 0 an.toNat).size + (S [46]).size <= 9223372036854775807 /\ ∃ ao : ByteArray, ao = (ak.extract 0 an.toNat) ++ (S [46]) /\ (0 <= (an : Int) /\ (an : Int) <= (ak.size : Nat)) /\ ao.size + (ak.extract an.toNat ak.size).size <= 9223372036854775807 /\ ∃ ap : ByteArray, ap = ao ++ (ak.extract an.toNat ak.size) /\ impl_DecText_j0 r ap aj.drew R) /\
 ((decide ((0 : Int) < al)) = false ->
 impl_DecText_j0 r ak aj R))
theorem impl_DecText_ret {d0 : Bool} {a : Option Addr} {a0 a1 : Nat} {d2 : Int} (h : impl_DecText d0 a a0 a1 d2 w R) : Ret P 119 [.agg #[.bool d0, .slice a a0 a1, .int .i64 d2]] w R := Ret.of_fsem Tryz.func119 rfl (Eq.mp (show _ = fsem P Tryz.f119 (fun k => []) _ R w from by kernel_rfl) h)
def impl_scaled (scale : Int) (w : World) (R : Value -> World -> Prop) : Prop :=
 ∀ r wv, New w (.cells ⟨[.int .i64 scale]⟩ 3 (0, 0)) r wv ->
 R (.func (.func 195) #[] #[(.pointer (some ⟨r, 0, none⟩))]) wv
theorem impl_scaled_ret {a : Int} (h : impl_scaled a w R) : Ret P 123 [.int .i64 a] w R := Ret.of_fsem Tryz.func123 rfl (Eq.mp (show _ = fsem P Tryz.f123 (fun k => []) _ R w from by kernel_rfl) h)
def impl_natCmp (a0 : Option Addr) (a1 a2 : Nat) (a3 : Option Addr) (a4 a5 : Nat) (w : World) (R : Value -> World -> Prop) : Prop :=
 ((decide ((((a1 : Nat) : Int) : Int) ≠ ((a4 : Nat) : Int))) = true ->
 ((decide ((((a1 : Nat) : Int) : Int) < ((a4 : Nat) : Int))) = true ->
 R (.int .i64 (-1)) w) /\
 ((decide ((((a1 : Nat) : Int) : Int) < ((a4 : Nat) : Int))) = false ->
 R (.int .i64 1) w)) /\
 ((decide ((((a1 : Nat) : Int) : Int) ≠ ((a4 : Nat) : Int))) = false ->
 ∃ a6 : Int, a6 = IntKind.wrap .i64 (((a1 : Nat) : Int) - 1) /\ ∃ (a7 : Int -> World -> Prop) (mu : Int -> World -> Nat), a7 a6 w /\
 ∀ (a8 : Fr) (wv : World) (i : Int), a7 i wv ->
 ((decide ((0 : Int) <= i)) = true ->
 (0 <= (i : Int) /\ (i : Int) < (a1 : Nat)) /\ ptrS a0 fun ad => ∃ a9, (∀ wv_1, Ext wv.drew wv_1 -> Loads P 3 (ad.add (i.toNat * 1)) (.int .i64 a9) wv_1) /\ (0 <= (i : Int) /\ (i : Int) < (a4 : Nat)) /\ ptrS a3 fun aa => ∃ ab, (∀ wv_2, Ext wv.drew wv_2 -> Loads P 3 (aa.add (i.toNat * 1)) (.int .i64 ab) wv_2) /\ ((decide ((a9 : Int) ≠ ab)) = true ->
 (0 <= (i : Int) /\ (i : Int) < (a1 : Nat)) /\ ptrS a0 fun ac => ∃ ae, (∀ wv_3, Ext wv.drew.drew wv_3 -> Loads P 3 (ac.add (i.toNat * 1)) (.int .i64 ae) wv_3) /\ (0 <= (i : Int) /\ (i : Int) < (a4 : Nat)) /\ ptrS a3 fun af => ∃ ag, (∀ wv_4, Ext wv.drew.drew wv_4 -> Loads P 3 (af.add (i.toNat * 1)) (.int .i64 ag) wv_4) /\ ((decide ((ae : Int) < ag)) = true ->
 R (.int .i64 (-1)) wv.drew.drew) /\
 ((decide ((ae : Int) < ag)) = false ->
 R (.int .i64 1) wv.drew.drew)) /\
 ((decide ((a9 : Int) ≠ ab)) = false ->
 ∃ ah : Int, ah = IntKind.wrap .i64 (i - 1) /\ a7 ah wv.drew /\ mu ah wv.drew < mu i wv)) /\
 ((decide ((0 : Int) <= i)) = false ->
 R (.int .i64 0) wv))
theorem impl_natCmp_ret {a : Option Addr} {a0 a1 : Nat} {a2 : Option Addr} {a3 a4 : Nat} (h : impl_natCmp a a0 a1 a2 a3 a4 w R) : Ret P 127 [.slice a a0 a1, .slice a2 a3 a4] w R := Ret.of_fsem Tryz.func127 rfl (Eq.mp (show _ = fsem P Tryz.f127 (fun k => cond (Nat.beq k 7) [(5, .one (.int .i64))] ([])) _ R w from by kernel_rfl) h)
def impl_NatOf (n : Int) (w : World) (R : Value -> World -> Prop) : Prop :=
 ((decide ((n : Int) < 0)) = true ->
 R (.slice none 0 0) w) /\
 ((decide ((n : Int) < 0)) = false ->
 ∃ t6 : Int, t6 = IntKind.wrap .u64 n /\ Calls P 111 ⟨[.int .u64 t6]⟩ w fun e wv =>
 ∃ a0 a1 a2, e = .returned (.slice a0 a1 a2) /\
 R (.slice a0 a1 a2) wv)
theorem impl_NatOf_ret {n : Int} (h : impl_NatOf n w R) : Ret P 128 [.int .i64 n] w R := Ret.of_fsem Tryz.func128 rfl (Eq.mp (show _ = fsem P Tryz.f128 (fun k => []) _ R w from by kernel_rfl) h)
def impl_natSub_j1 (a0 r : Nat) (a1 : World) (a2 : Int -> Int -> World -> Prop) (mu : Int -> Int -> World -> Nat) (borrow a3 : Int) (borrow_1 n_1 : Int) (a4 : World) (R : Value -> World -> Prop) : Prop :=
 (0 <= (a3 : Int) /\ (a3 : Int) < (a0 : Nat)) /\ ∃ wv_2, Stores P 3 ((⟨r, 0, none⟩ : Addr).add (a3.toNat * 1)) (.int .i64 n_1) a4 wv_2 /\
 ∃ a5 : Int, a5 = IntKind.wrap .i64 (a3 + 1) /\ a2 borrow_1 a5 wv_2 /\ mu borrow_1 a5 wv_2 < mu borrow a3 a1
def impl_natSub_j0 (a0 r : Nat) (a1 : World) (a2 : Int -> Int -> World -> Prop) (mu : Int -> Int -> World -> Nat) (borrow a3 n : Int) (W : World) (R : Value -> World -> Prop) : Prop :=
 ((decide ((n : Int) < 0)) = true ->
 ∃ a4 : Int, a4 = IntKind.wrap .i64 (n + 1000000000) /\ impl_natSub_j1 a0 r a1 a2 mu borrow a3 1 a4 W R) /\
 ((decide ((n : Int) < 0)) = false ->
 impl_natSub_j1 a0 r a1 a2 mu borrow a3 0 n W R)
def impl_natSub (a0 : Option Addr) (a1 a2 : Nat) (a3 : Option Addr) (a4 a5 : Nat) (w : World) (R : Value -> World -> Prop) : Prop :=
 (0 <= (((a1 : Nat) : Int) : Int) /\ (((a1 : Nat) : Int) : Int) <= ((a1 : Nat) : Int) /\ ((8 : Nat) : Int) * ((a1 : Nat) : Int) <= 281474976710656) /\
 ∀ r wv, New w (.cells ⟨zeroRow (.int .i64 0) (a1 * 1)⟩ 3 (0, 0)) r wv ->
 ∃ (a6 : Int -> Int -> World -> Prop) (mu : Int -> Int -> World -> Nat), a6 0 0 wv /\
 ∀ (a7 : Fr) (a8 : World) (borrow a9 : Int), a6 borrow a9 a8 ->
 ((decide ((a9 : Int) < ((a1 : Nat) : Int))) = true ->
 (0 <= (a9 : Int) /\ (a9 : Int) < (a1 : Nat)) /\ ptrS a0 fun ad => ∃ aa, Loads P 3 (ad.add (a9.toNat * 1)) (.int .i64 aa) a8 /\ ∃ ab : Int, ab = IntKind.wrap .i64 (aa - borrow) /\ ((decide ((a9 : Int) < ((a4 : Nat) : Int))) = true ->
 (0 <= (a9 : Int) /\ (a9 : Int) < (a4 : Nat)) /\ ptrS a3 fun ac => ∃ ae, Loads P 3 (ac.add (a9.toNat * 1)) (.int .i64 ae) a8 /\ ∃ af : Int, af = IntKind.wrap .i64 (ab - ae) /\ impl_natSub_j0 a1 r a8 a6 mu borrow a9 af a8 R) /\
 ((decide ((a9 : Int) < ((a4 : Nat) : Int))) = false ->
 impl_natSub_j0 a1 r a8 a6 mu borrow a9 ab a8 R)) /\
 ((decide ((a9 : Int) < ((a1 : Nat) : Int))) = false ->
 Calls P 181 ⟨[(.slice (some ⟨r, 0, none⟩) a1 a1)]⟩ a8 fun e ag =>
 ∃ ah ai aj, e = .returned (.slice ah ai aj) /\
 R (.slice ah ai aj) ag)
theorem impl_natSub_ret {a : Option Addr} {a0 a1 : Nat} {a2 : Option Addr} {a3 a4 : Nat} (h : impl_natSub a a0 a1 a2 a3 a4 w R) : Ret P 129 [.slice a a0 a1, .slice a2 a3 a4] w R := Ret.of_fsem Tryz.func129 rfl (Eq.mp (show _ = fsem P Tryz.f129 (fun k => cond (Nat.beq k 5) [(6, .one (.int .i64)), (14, .one (.int .i64))] ([])) _ R w from by kernel_rfl) h)
def impl_ratNeg (r0 : Bool) (a0 : Option Addr) (a1 a2 : Nat) (a3 : Option Addr) (a4 a5 : Nat) (w : World) (R : Value -> World -> Prop) : Prop :=
 ∀ r wv, New w (.cells ⟨[.bool r0, .slice a0 a1 a2, .slice a3 a4 a5]⟩ 60 (0, 0)) r wv ->
 ∀ a6 a7, New wv (.cells ⟨[.bool false, .slice none 0 0, .slice none 0 0]⟩ 60 (0, 0)) a6 a7 ->
 ∃ a8 a9 aa ab, (∀ wv_2, Ext a7.drew wv_2 -> Loads P 31 ((⟨r, 0, none⟩ : Addr).add 0) (.agg #[.bool a8, .slice a9 aa ab]) wv_2) /\ Calls P 148 ⟨[.agg #[.bool a8, .slice a9 aa ab]]⟩ a7.drew fun e ac =>
 ∃ ae af ag ah, e = .returned (.agg #[.bool ae, .slice af ag ah]) /\
 Ext a7.drew ac /\ ∃ ai aj ak, (∀ wv_4, Ext a7.drew wv_4 -> Loads P 29 ((⟨r, 0, none⟩ : Addr).add 2) (.slice ai aj ak) wv_4) /\ Calls P 183 ⟨[.slice ai aj ak]⟩ ac fun al am =>
 ∃ an ao ap, al = .returned (.slice an ao ap) /\
 ∃ wv_6, Stores P 60 ⟨a6, 0, none⟩ (.agg #[.bool ae, .slice af ag ah, .slice an ao ap]) am wv_6 /\
 ∃ r0_1 aq ar au av aw ax, Loads P 60 ⟨a6, 0, none⟩ (.agg #[.bool r0_1, .slice aq ar au, .slice av aw ax]) wv_6 /\ R (.agg #[.bool r0_1, .slice aq ar au, .slice av aw ax]) wv_6
theorem impl_ratNeg_ret {r0 : Bool} {a : Option Addr} {a0 a1 : Nat} {a2 : Option Addr} {a3 a4 : Nat} (h : impl_ratNeg r0 a a0 a1 a2 a3 a4 w R) : Ret P 130 [.agg #[.bool r0, .slice a a0 a1, .slice a2 a3 a4]] w R := Ret.of_fsem Tryz.func130 rfl (Eq.mp (show _ = fsem P Tryz.f130 (fun k => []) _ R w from by kernel_rfl) h)
def impl_IntText (n : Int) (w : World) (R : Value -> World -> Prop) : Prop :=
 Calls P 162 ⟨[.int .i64 n]⟩ w fun e wv =>
 ∃ t4, e = .returned (.string t4) /\
 R (.string t4) wv
theorem impl_IntText_ret {n : Int} (h : impl_IntText n w R) : Ret P 131 [.int .i64 n] w R := Ret.of_fsem Tryz.func131 rfl (Eq.mp (show _ = fsem P Tryz.f131 (fun k => []) _ R w from by kernel_rfl) h)
end Go.Proofs.YtbgokfhcgcoipaaGreatDoor
namespace Go.Proofs.YtbgokfhcgcoipaaGreatDoor
variable {w : World} {R : Value -> World -> Prop}
open Go Go.Proofs.YtbgokfhcgcoipaaGreatDoor.Sx
set_option maxRecDepth 100000
def impl_RatOk_j0 (r : Nat) (W : World) (R : Value -> World -> Prop) : Prop :=
 ∃ a0 a1 a2, Loads P 29 (((⟨r, 0, none⟩ : Addr).add 0).add 1) (.slice a0 a1 a2) W /\ ∃ a3 a4 a5, Loads P 29 ((⟨r, 0, none⟩ : Addr).add 2) (.slice a3 a4 a5) W /\ Calls P 179 ⟨[.slice a0 a1 a2, .slice a3 a4 a5]⟩ W fun a6 a7 =>
 ∃ a8 a9 aa, a6 = .returned (.slice a8 a9 aa) /\
 ((decide ((((a9 : Nat) : Int) : Int) = 1)) = true ->
 (0 <= (0 : Int) /\ (0 : Int) < (a9 : Nat)) /\ ptrS a8 fun ad => ∃ ab, Loads P 3 (ad.add (0 * 1)) (.int .i64 ab) a7 /\ R (.bool (decide ((ab : Int) = 1))) a7) /\
 ((decide ((((a9 : Nat) : Int) : Int) = 1)) = false ->
 R (.bool false) a7)
def impl_RatOk (r0 : Bool) (a0 : Option Addr) (a1 a2 : Nat) (a3 : Option Addr) (a4 a5 : Nat) (w : World) (R : Value -> World -> Prop) : Prop :=
 ∀ r wv, New w (.cells ⟨[.bool r0, .slice a0 a1 a2, .slice a3 a4 a5]⟩ 60 (0, 0)) r wv ->
 ∃ a6 a7 a8 a9, Loads P 31 ((⟨r, 0, none⟩ : Addr).add 0) (.agg #[.bool a6, .slice a7 a8 a9]) wv /\ Calls P 96 ⟨[.agg #[.bool a6, .slice a7 a8 a9]]⟩ wv fun e aa =>
 ∃ t6, e = .returned (.bool t6) /\
 ((!t6) = true ->
 (true = true ->
 (true = true ->
 (true = true ->
 (true = true ->
 R (.bool false) aa) /\
 (true = false ->
 impl_RatOk_j0 r aa R)) /\
 (true = false ->
 ∃ ab ac ae, Loads P 29 (((⟨r, 0, none⟩ : Addr).add 0).add 1) (.slice ab ac ae) aa /\ ((decide ((18 : Int) < ((ac : Nat) : Int))) = true ->
 R (.bool false) aa) /\
 ((decide ((18 : Int) < ((ac : Nat) : Int))) = false ->
 impl_RatOk_j0 r aa R))) /\
 (true = false ->
 ∃ af ag ah, Loads P 29 ((⟨r, 0, none⟩ : Addr).add 2) (.slice af ag ah) aa /\ ((decide ((18 : Int) < ((ag : Nat) : Int))) = true ->
 (true = true ->
 R (.bool false) aa) /\
 (true = false ->
 impl_RatOk_j0 r aa R)) /\
 ((decide ((18 : Int) < ((ag : Nat) : Int))) = false ->
 ∃ ai aj ak, Loads P 29 (((⟨r, 0, none⟩ : Addr).add 0).add 1) (.slice ai aj ak) aa /\ ((decide ((18 : Int) < ((aj : Nat) : Int))) = true ->
 R (.bool false) aa) /\
 ((decide ((18 : Int) < ((aj : Nat) : Int))) = false ->
 impl_RatOk_j0 r aa R)))) /\
 (true = false ->
 ∃ al am an, Loads P 29 ((⟨r, 0, none⟩ : Addr).add 2) (.slice al am an) aa /\ ((decide ((((am : Nat) : Int) : Int) = 0)) = true ->
 (true = true ->
 (true = true ->
 R (.bool false) aa) /\
 (true = false ->
 impl_RatOk_j0 r aa R)) /\
 (true = false ->
 ∃ ao ap aq, Loads P 29 (((⟨r, 0, none⟩ : Addr).add 0).add 1) (.slice ao ap aq) aa /\ ((decide ((18 : Int) < ((ap : Nat) : Int))) = true ->
 R (.bool false) aa) /\
 ((decide ((18 : Int) < ((ap : Nat) : Int))) = false ->
 impl_RatOk_j0 r aa R))) /\
 ((decide ((((am : Nat) : Int) : Int) = 0)) = false ->
 ∃ ar au av, Loads P 29 ((⟨r, 0, none⟩ : Addr).add 2) (.slice ar au av) aa /\ ((decide ((18 : Int) < ((au : Nat) : Int))) = true ->
 (true = true ->
 R (.bool false) aa) /\
 (true = false ->
 impl_RatOk_j0 r aa R)) /\
 ((decide ((18 : Int) < ((au : Nat) : Int))) = false ->
 ∃ aw ax ay, Loads P 29 (((⟨r, 0, none⟩ : Addr).add 0).add 1) (.slice aw ax ay) aa /\ ((decide ((18 : Int) < ((ax : Nat) : Int))) = true ->
 R (.bool false) aa) /\
 ((decide ((18 : Int) < ((ax : Nat) : Int))) = false ->
 impl_RatOk_j0 r aa R))))) /\
 ((!t6) = false ->
 ∃ az b0 b1, Loads P 29 ((⟨r, 0, none⟩ : Addr).add 2) (.slice az b0 b1) aa /\ Calls P 173 ⟨[.slice az b0 b1]⟩ aa fun b2 b3 =>
 ∃ b4, b2 = .returned (.bool b4) /\
 ((!b4) = true ->
 (true = true ->
 (true = true ->
 (true = true ->
 R (.bool false) b3) /\
 (true = false ->
 impl_RatOk_j0 r b3 R)) /\
 (true = false ->
 ∃ b5 b6 b7, Loads P 29 (((⟨r, 0, none⟩ : Addr).add 0).add 1) (.slice b5 b6 b7) b3 /\ ((decide ((18 : Int) < ((b6 : Nat) : Int))) = true ->
 R (.bool false) b3) /\
 ((decide ((18 : Int) < ((b6 : Nat) : Int))) = false ->
 impl_RatOk_j0 r b3 R))) /\
 (true = false ->
 ∃ b8 b9 ba, Loads P 29 ((⟨r, 0, none⟩ : Addr).add 2) (.slice b8 b9 ba) b3 /\ ((decide ((18 : Int) < ((b9 : Nat) : Int))) = true ->
 (true = true ->
 R (.bool false) b3) /\
 (true = false ->
 impl_RatOk_j0 r b3 R)) /\
 ((decide ((18 : Int) < ((b9 : Nat) : Int))) = false ->
 ∃ bb bc bd, Loads P 29 (((⟨r, 0, none⟩ : Addr).add 0).add 1) (.slice bb bc bd) b3 /\ ((decide ((18 : Int) < ((bc : Nat) : Int))) = true ->
 R (.bool false) b3) /\
 ((decide ((18 : Int) < ((bc : Nat) : Int))) = false ->
 impl_RatOk_j0 r b3 R)))) /\
 ((!b4) = false ->
 ∃ be bf bg, Loads P 29 ((⟨r, 0, none⟩ : Addr).add 2) (.slice be bf bg) b3 /\ ((decide ((((bf : Nat) : Int) : Int) = 0)) = true ->
 (true = true ->
 (true = true ->
 R (.bool false) b3) /\
 (true = false ->
 impl_RatOk_j0 r b3 R)) /\
 (true = false ->
 ∃ bh bi bj, Loads P 29 (((⟨r, 0, none⟩ : Addr).add 0).add 1) (.slice bh bi bj) b3 /\ ((decide ((18 : Int) < ((bi : Nat) : Int))) = true ->
 R (.bool false) b3) /\
 ((decide ((18 : Int) < ((bi : Nat) : Int))) = false ->
 impl_RatOk_j0 r b3 R))) /\
 ((decide ((((bf : Nat) : Int) : Int) = 0)) = false ->
 ∃ bk bl bm, Loads P 29 ((⟨r, 0, none⟩ : Addr).add 2) (.slice bk bl bm) b3 /\ ((decide ((18 : Int) < ((bl : Nat) : Int))) = true ->
 (true = true ->
 R (.bool false) b3) /\
 (true = false ->
 impl_RatOk_j0 r b3 R)) /\
 ((decide ((18 : Int) < ((bl : Nat) : Int))) = false ->
 ∃ bn bo bp, Loads P 29 (((⟨r, 0, none⟩ : Addr).add 0).add 1) (.slice bn bo bp) b3 /\ ((decide ((18 : Int) < ((bo : Nat) : Int))) = true ->
 R (.bool false) b3) /\
 ((decide ((18 : Int) < ((bo : Nat) : Int))) = false ->
 impl_RatOk_j0 r b3 R)))))
theorem impl_RatOk_ret {r0 : Bool} {a : Option Addr} {a0 a1 : Nat} {a2 : Option Addr} {a3 a4 : Nat} (h : impl_RatOk r0 a a0 a1 a2 a3 a4 w R) : Ret P 132 [.agg #[.bool r0, .slice a a0 a1, .slice a2 a3 a4]] w R := Ret.of_fsem Tryz.func132 rfl (Eq.mp (show _ = fsem P Tryz.f132 (fun k => []) _ R w from by kernel_rfl) h)
def impl_intsOk (x0 : Bool) (a0 : Option Addr) (a1 a2 : Nat) (y0 : Bool) (a3 : Option Addr) (a4 a5 : Nat) (w : World) (R : Value -> World -> Prop) : Prop :=
 ∀ r wv, New w (.cells ⟨[.bool x0, .slice a0 a1 a2]⟩ 31 (0, 0)) r wv ->
 ∀ a6 a7, New wv (.cells ⟨[.bool y0, .slice a3 a4 a5]⟩ 31 (0, 0)) a6 a7 ->
 ∃ a8 a9 aa ab, Loads P 31 ⟨r, 0, none⟩ (.agg #[.bool a8, .slice a9 aa ab]) a7 /\ Calls P 96 ⟨[.agg #[.bool a8, .slice a9 aa ab]]⟩ a7 fun e ac =>
 ∃ t6, e = .returned (.bool t6) /\
 (t6 = true ->
 ∃ ae af ag ah, Loads P 31 ⟨a6, 0, none⟩ (.agg #[.bool ae, .slice af ag ah]) ac /\ Calls P 96 ⟨[.agg #[.bool ae, .slice af ag ah]]⟩ ac fun ai aj =>
 ∃ t9, ai = .returned (.bool t9) /\
 R (.bool t9) aj) /\
 (t6 = false ->
 R (.bool false) ac)
theorem impl_intsOk_ret {x0 : Bool} {a : Option Addr} {a0 a1 : Nat} {y0 : Bool} {a2 : Option Addr} {a3 a4 : Nat} (h : impl_intsOk x0 a a0 a1 y0 a2 a3 a4 w R) : Ret P 142 [.agg #[.bool x0, .slice a a0 a1], .agg #[.bool y0, .slice a2 a3 a4]] w R := Ret.of_fsem Tryz.func142 rfl (Eq.mp (show _ = fsem P Tryz.f142 (fun k => []) _ R w from by kernel_rfl) h)
def impl_intNeg (x0 : Bool) (a0 : Option Addr) (a1 a2 : Nat) (w : World) (R : Value -> World -> Prop) : Prop :=
 ∀ r wv, New w (.cells ⟨[.bool x0, .slice a0 a1 a2]⟩ 31 (0, 0)) r wv ->
 ∀ a3 a4, New wv (.cells ⟨[.bool false, .slice none 0 0]⟩ 31 (0, 0)) a3 a4 ->
 ∃ t4, (∀ wv_2, Ext a4.drew wv_2 -> Loads P 4 ((⟨r, 0, none⟩ : Addr).add 0) (.bool t4) wv_2) /\ ∃ a5 a6 a7, (∀ wv_3, Ext a4.drew wv_3 -> Loads P 29 ((⟨r, 0, none⟩ : Addr).add 1) (.slice a5 a6 a7) wv_3) /\ Calls P 183 ⟨[.slice a5 a6 a7]⟩ a4.drew fun e a8 =>
 ∃ a9 aa ab, e = .returned (.slice a9 aa ab) /\
 Ext a4.drew a8 /\ Calls P 170 ⟨[(.bool (!t4)), .slice a9 aa ab]⟩ a8 fun ac ae =>
 ∃ af ag ah ai, ac = .returned (.agg #[.bool af, .slice ag ah ai]) /\
 ∃ wv_6, Stores P 31 ⟨a3, 0, none⟩ (.agg #[.bool af, .slice ag ah ai]) ae wv_6 /\
 ∃ r0 aj ak al, Loads P 31 ⟨a3, 0, none⟩ (.agg #[.bool r0, .slice aj ak al]) wv_6 /\ R (.agg #[.bool r0, .slice aj ak al]) wv_6
theorem impl_intNeg_ret {x0 : Bool} {a : Option Addr} {a0 a1 : Nat} (h : impl_intNeg x0 a a0 a1 w R) : Ret P 148 [.agg #[.bool x0, .slice a a0 a1]] w R := Ret.of_fsem Tryz.func148 rfl (Eq.mp (show _ = fsem P Tryz.f148 (fun k => []) _ R w from by kernel_rfl) h)
def strconv_Itoa (i : Int) (w : World) (R : Value -> World -> Prop) : Prop :=
 Calls P 223 ⟨[.int .i64 i]⟩ w fun e wv =>
 ∃ t4, e = .returned (.string t4) /\
 R (.string t4) wv
end Go.Proofs.YtbgokfhcgcoipaaGreatDoor
