import Derived.Test.YtodkhgofmgaafaaGreatDoorM8
import Derived.Test.YtodkhgofmgaafaaGreatDoorM5
import Derived.Test.YtodkhgofmgaafaaGreatDoorM3
import Derived.ProofKit
import Derived.OpenShut
import Derived.Lib.LaidU8
import Derived.Lay
import Derived.MakeChecks
import Derived.ChangeSlices
import Derived.ChangeSame
import Derived.ChangeStays
namespace Go.Proofs.YtodkhgofmgaafaaGreatDoor.Av
open Go
set_option linter.all false
set_option maxRecDepth 3000
section
variable (p : Nat) (hp1 : 1 ≤ p) (hp2 : p ≤ 2) (k1 k2 : List B8) (tag : B8) (h1 : Rows 15 16 k1) (h2 : Rows 15 16 k2) (ht : tag.length = 32) (y : WSt) (i : Nat) (hi : i ≤ 20) (hy : y.ok i) (a : ActW) (ha : a.ok) (hk : a.kd % 8 = 2) (hx : a.x = none)
include p hp1 hp2 k1 k2 tag h1 h2 ht y i hi hy a ha hk hx
set_option maxHeartbeats 4000000 in
theorem tP (hc : 65535 < a.n.toNat ∨ y.N < 512 * (8 + a.n.toNat * p) ∨ 32768 < 512 * (8 + a.n.toNat * p) + 512 * p) :
  ∃ y' : WSt, y'.ok (i + 1) ∧ AC Tryz.prog 7 [.ptr 0 [], cT 11 a] 12 (woM p k1 k2 tag y a.bs) (woO p k1 k2 tag y y') := by
 obtain ⟨S, S2, N, N2, cap, cap2, ls, rl, st, rf⟩ := y
 have hTa := ha.ty 11
 have hcls := hy.cls
 have hok := hy
 obtain ⟨hs, hs2, hn, hn2, hl5, hll, hrll, hst, hrfn, hrf, _⟩ := hy
 dsimp only at hcls hs hs2 hn hn2 hl5 hll hrll hst hrfn hrf
 have hT := aM (c := 8) (p := p) h1 h2 ht
 have hr32 := ha.r
 have hbs := ha.b
 have hxk := ha.x
 have hnd := ha.nd
 obtain ⟨kd, an, bs, x, nd, wh, ar, r⟩ := a
 dsimp only at hk hr32 hbs hxk hnd
 obtain ⟨k, hbk⟩ : ∃ k, bs.length = k := ⟨_, rfl⟩
 dsimp only [cT] at hTa
 rw [hbk] at hTa hbs hxk
 dsimp only at hc
 have hx : x = none := hx
 subst hx
 obtain ⟨e, he, hei, hp, hd⟩ := aIW p hp1 hp2 k1 k2 tag h1 h2 ht S S2 N N2 cap cap2 ls rl st hs hn hl5 (by omega) (by omega) an hc
 have hef : decide (e = 0) = false := decide_eq_false he
 refine ⟨⟨S, S2, N, N2, cap, cap2, ls, rl, st, rf⟩, hok.mono, ?_⟩
 have fM : Is (fun z : BitVec 32 × B8 => ((13, some ⟨gU, aB z.1 z.2, true⟩) :: (12, some ⟨eA, D.node [.u8 kd, .u32 an, slD 11 k none, nd.D, .u8 wh, aB ar r], true⟩) :: woM p k1 k2 tag ⟨S, S2, N, N2, cap, cap2, ls, rl, st, rf⟩ bs : Mem)) := is _
 rcases hcls with ⟨rfl, rfl, rfl⟩ | ⟨rfl, rfl, r0, rs, rfl⟩ | ⟨l0, ls, q0, rl, r0, rs, rfl, rfl, rfl⟩
 all_goals
  dsimp only [woM, woO, woW, dvW, cT, rfL, aT, oT, cX, dU, oL, eG, rfM, rfN, loN, rlN, List.nil_append, List.cons_append, List.map_nil, List.map_cons]
  rw [hbk]
  clear hok hs hs2 hn hn2 hl5 hll hrll hst ha hxk hbs hp1 hp2 ht hnd hc
  simp only [List.length_cons, List.length_nil] at hrfn
  refine acA tab mix Tryz.func7 ⟨[5], []⟩ ?_
  refine EffG.mk (And.intro hTa ?_)
  refine go ?_
  refine fR fM (is wh) (is (ar, r)) hr32 hrf (fun za zr hz => ?_)
  iterate 5 (refine brN ?_ (h := decide_eq_false (fun e => absurd (hk.symm.trans e) (by decide))); refine go ?_)
  iterate 2 (refine brN ?_ (h := decide_eq_false (fun e => absurd (hk.symm.trans e) (by decide))); refine go ?_)
  refine qD hp [1, 2, 3, 4, 5, 6, 7, 8] ?_
  refine yO hd [11, 9] ?_
  repeat first | refine go1 ?_ | refine Br.no hef ?_ | refine Br.yes (eO _ _) ?_ | refine Br.yes rfl ?_
  refine kT [0, 1, 2, 3, 4, 5, 6, 7, 8, 9, 10, 11, 2, 3, 10, 4, 9]
set_option maxHeartbeats 4000000 in
theorem yJ (hc : a.n.toNat ≤ 65535 ∧ 512 * (8 + a.n.toNat * p) ≤ y.N ∧ 512 * (8 + a.n.toNat * p) + 512 * p ≤ 32768 ∧ 512 * (8 + a.n.toNat * p) + 512 * p ≤ y.N) :
  ∃ y' : WSt, y'.ok (i + 1) ∧ AC Tryz.prog 7 [.ptr 0 [], cT 11 a] 12 (woM p k1 k2 tag y a.bs) (woO p k1 k2 tag y y') := by
 obtain ⟨S, S2, N, N2, cap, cap2, ls, rl, st, rf⟩ := y
 have hTa := ha.ty 11
 have hcls := hy.cls
 have hok := hy
 obtain ⟨hs, hs2, hn, hn2, hl5, hll, hrll, hst, hrfn, hrf, _⟩ := hy
 dsimp only at hcls hs hs2 hn hn2 hl5 hll hrll hst hrfn hrf
 have hT := aM (c := 8) (p := p) h1 h2 ht
 have hr32 := ha.r
 have hbs := ha.b
 have hxk := ha.x
 have hnd := ha.nd
 obtain ⟨kd, an, bs, x, nd, wh, ar, r⟩ := a
 dsimp only at hk hr32 hbs hxk hnd
 obtain ⟨k, hbk⟩ : ∃ k, bs.length = k := ⟨_, rfl⟩
 dsimp only [cT] at hTa
 rw [hbk] at hTa hbs hxk
 dsimp only at hc
 obtain ⟨q, hqn⟩ : ∃ q, q = 8 + an.toNat * p := ⟨_, rfl⟩
 rw [← hqn] at hc
 obtain ⟨hAn, hq, hf, hcl⟩ := hc
 have hx : x = none := hx
 subst hx
 have hp := rO 8 p hp1 hp2 tag k1 k2 32768 N cap N2 cap2 ls st S an q hqn (by decide) (by decide) ht hl5 hs hAn hcl hn (by decide) (by omega) (by omega)
 have hd := jH 8 32768 p k1 k2 tag an q hqn h1 h2 ht (by decide) (by decide) hp1 hp2 hAn S S2 rl st (by omega) (by decide) (by omega) (by omega) hf (by omega)
 have hQl : (zB (512 * p)).length = 512 * p := List.length_replicate
 generalize (zB (512 * p)) = Q at hp hd hQl
 have hy := aP Q
 generalize b7 Q = sm at hp hd hy
 have hTl := aU (S := S) (B := Q) (p := 512 * q)
 generalize aV S Q (512 * q) = T at hp hd hTl
 have hTl2 : T.length = N := by rw [hTl, hs, hQl]; omega
 have h5 := kA T q p hp1 hp2 (by omega)
 obtain ⟨la, ll, el, ell⟩ := cS ls (loP T q p) (d9 T q p hp1 hp2) hp1
 obtain ⟨ra, rll, er, erl⟩ := cS rl (rlP T q p) (d8 T q p hp1 hp2) hp1
 rw [el, ell] at hp
 rw [er, erl] at hd
 refine ⟨⟨T, S2, N, N2, cap, cap2, la :: ll, ra :: rll, st + 1, rf ++ [(an + 1, sm)]⟩, hok.put (rlo' := []) _ hp1 hp2 hTl2 (by omega) el ell h5 erl hy, ?_⟩
 have fM : Is (fun z : BitVec 32 × B8 => ((13, some ⟨gU, aB z.1 z.2, true⟩) :: (12, some ⟨eA, D.node [.u8 kd, .u32 an, slD 11 k none, nd.D, .u8 wh, aB ar r], true⟩) :: woM p k1 k2 tag ⟨S, S2, N, N2, cap, cap2, ls, rl, st, rf⟩ bs : Mem)) := is _
 rcases hcls with ⟨rfl, rfl, rfl⟩ | ⟨rfl, rfl, r0, rs, rfl⟩ | ⟨l0, ls, q0, rl, r0, rs, rfl, rfl, rfl⟩
 all_goals
  dsimp only [woM, woO, woW, dvW, cT, rfL, aT, oT, cX, dU, oL, eG, rfM, rfN, loN, rlN, List.nil_append, List.cons_append, List.map_nil, List.map_cons]
  rw [hbk]
  try rw [show (rs ++ [(an + 1, sm)]).length = rs.length + 1 from List.length_append]
  clear hok hs hs2 hn hn2 hl5 hll hrll hst ha hxk hbs hp1 hp2 ht hnd hQl hTl hTl2 hqn hq hcl h5 el er hAn hf ell erl
  simp only [List.length_cons, List.length_nil] at hrfn
  refine acA tab mix Tryz.func7 ⟨[5], []⟩ ?_
  refine EffG.mk (And.intro hTa ?_)
  refine go ?_
  refine fR fM (is wh) (is (ar, r)) hr32 hrf (fun za zr hz => ?_)
  iterate 5 (refine brN ?_ (h := decide_eq_false (fun e => absurd (hk.symm.trans e) (by decide))); refine go ?_)
  iterate 2 (refine brN ?_ (h := decide_eq_false (fun e => absurd (hk.symm.trans e) (by decide))); refine go ?_)
  refine qD hp [1, 2, 3, 4, 5, 6, 7, 8] ?_
  refine aBV hd [11, 9] ?_
  first
   |have hty := fE (r0 := r0) (rs := rs) (x := (an + 1, sm)) hrf hy
    refine ⟨0, ?_⟩
    refine EffG.mk (And.intro ?_ ?_)
    ·(repeat' (first | exact hty | exact trivial | refine And.intro ?_ ?_)) <;> (first | omega | (simp only [aH, okP, xT, D.ren, D.isCell, Option.getD, List.length_set, List.length_take, List.length_drop, List.length_append, List.length_replicate, List.length_map, List.length_cons, List.length_nil, Option.map, j7, List.nil_append, D.pre, Out.pre] <;> omega) | exact hty | with_reducible rfl | decide)
    repeat first | refine go1 ?_ | refine Br.yes (eO _ _) ?_ | refine Br.yes rfl ?_
    refine kT [0, 1, 2, 3, 4, 5, 6, 7, 8, 9, 10, 11, 2, 3, 19, 16, 17] (h3 := (by (repeat' (first | exact trivial | refine And.intro ⟨_, rfl, rfl, ?_, id⟩ ?_ | refine And.intro ⟨_, rfl, rfl, ?_, fun _ => rfl⟩ ?_)) <;> (first | rfl | exact (Pure.ren _).symm | exact (Pure.ren _).trans (Pure.ren _).symm | (simp only [D.ren, D.rens, aL, aC]; rfl) | (refine Eq.trans ?_ (Pure.ren _).symm; exact i5 r0 rs (an + 1, sm)))))
   |refine ⟨1, ?_⟩
    repeat first | refine go1 ?_ | refine Br.yes (eO _ _) ?_ | refine Br.yes rfl ?_
    refine kT [0, 1, 2, 3, 4, 5, 6, 7, 8, 9, 10, 11, 2, 3, 19, 16, 17]
set_option maxHeartbeats 4000000 in
theorem yI (hc : a.n.toNat ≤ 65535 ∧ 512 * (8 + a.n.toNat * p) ≤ y.N ∧ 512 * (8 + a.n.toNat * p) + 512 * p ≤ 32768 ∧ y.N < 512 * (8 + a.n.toNat * p) + 512 * p) :
  ∃ y' : WSt, y'.ok (i + 1) ∧ AC Tryz.prog 7 [.ptr 0 [], cT 11 a] 12 (woM p k1 k2 tag y a.bs) (woO p k1 k2 tag y y') := by
 obtain ⟨S, S2, N, N2, cap, cap2, ls, rl, st, rf⟩ := y
 have hTa := ha.ty 11
 have hcls := hy.cls
 have hok := hy
 obtain ⟨hs, hs2, hn, hn2, hl5, hll, hrll, hst, hrfn, hrf, _⟩ := hy
 dsimp only at hcls hs hs2 hn hn2 hl5 hll hrll hst hrfn hrf
 have hT := aM (c := 8) (p := p) h1 h2 ht
 have hr32 := ha.r
 have hbs := ha.b
 have hxk := ha.x
 have hnd := ha.nd
 obtain ⟨kd, an, bs, x, nd, wh, ar, r⟩ := a
 dsimp only at hk hr32 hbs hxk hnd
 obtain ⟨k, hbk⟩ : ∃ k, bs.length = k := ⟨_, rfl⟩
 dsimp only [cT] at hTa
 rw [hbk] at hTa hbs hxk
 dsimp only at hc
 obtain ⟨q, hqn⟩ : ∃ q, q = 8 + an.toNat * p := ⟨_, rfl⟩
 rw [← hqn] at hc
 obtain ⟨hAn, hq, hf, hcl⟩ := hc
 have hx : x = none := hx
 subst hx
 have hp := rN 8 p hp1 hp2 tag k1 k2 32768 N cap N2 cap2 ls st S an q hqn (by decide) (by decide) ht hl5 hs hAn hcl hq hf hn (by decide) (by omega) (by omega)
 have hd := jH 8 32768 p k1 k2 tag an q hqn h1 h2 ht (by decide) (by decide) hp1 hp2 hAn S S2 rl st (by omega) (by decide) (by omega) (by omega) hf (by omega)
 have hQl : (zB (512 * p)).length = 512 * p := List.length_replicate
 generalize (zB (512 * p)) = Q at hp hd hQl
 have hy := aP Q
 generalize b7 Q = sm at hp hd hy
 have hTl := aU (S := S) (B := Q) (p := 512 * q)
 generalize aV S Q (512 * q) = T at hp hd hTl
 have hTl2 : T.length = 512 * q + 512 * p := by rw [hTl, hs, hQl]; omega
 have h5 := kA T q p hp1 hp2 (by omega)
 obtain ⟨la, ll, el, ell⟩ := cS ls (loP T q p) (d9 T q p hp1 hp2) hp1
 obtain ⟨ra, rll, er, erl⟩ := cS rl (rlP T q p) (d8 T q p hp1 hp2) hp1
 rw [el, ell] at hp
 rw [er, erl] at hd
 refine ⟨⟨T, S2, 512 * q + 512 * p, N2, none, cap2, la :: ll, ra :: rll, st + 1, rf ++ [(an + 1, sm)]⟩, hok.put (rlo' := []) _ hp1 hp2 hTl2 (by omega) el ell h5 erl hy, ?_⟩
 have fM : Is (fun z : BitVec 32 × B8 => ((13, some ⟨gU, aB z.1 z.2, true⟩) :: (12, some ⟨eA, D.node [.u8 kd, .u32 an, slD 11 k none, nd.D, .u8 wh, aB ar r], true⟩) :: woM p k1 k2 tag ⟨S, S2, N, N2, cap, cap2, ls, rl, st, rf⟩ bs : Mem)) := is _
 rcases hcls with ⟨rfl, rfl, rfl⟩ | ⟨rfl, rfl, r0, rs, rfl⟩ | ⟨l0, ls, q0, rl, r0, rs, rfl, rfl, rfl⟩
 all_goals
  dsimp only [woM, woO, woW, dvW, cT, rfL, aT, oT, cX, dU, oL, eG, rfM, rfN, loN, rlN, List.nil_append, List.cons_append, List.map_nil, List.map_cons]
  rw [hbk]
  try rw [show (rs ++ [(an + 1, sm)]).length = rs.length + 1 from List.length_append]
  clear hok hs hs2 hn hn2 hl5 hll hrll hst ha hxk hbs hp1 hp2 ht hnd hQl hTl hTl2 hqn hq hcl h5 el er hAn hf ell erl
  simp only [List.length_cons, List.length_nil] at hrfn
  refine acA tab mix Tryz.func7 ⟨[5], []⟩ ?_
  refine EffG.mk (And.intro hTa ?_)
  refine go ?_
  refine fR fM (is wh) (is (ar, r)) hr32 hrf (fun za zr hz => ?_)
  iterate 5 (refine brN ?_ (h := decide_eq_false (fun e => absurd (hk.symm.trans e) (by decide))); refine go ?_)
  iterate 2 (refine brN ?_ (h := decide_eq_false (fun e => absurd (hk.symm.trans e) (by decide))); refine go ?_)
  refine qD hp [1, 2, 3, 4, 5, 6, 7, 8] ?_
  refine aBV hd [11, 9] ?_
  first
   |have hty := fE (r0 := r0) (rs := rs) (x := (an + 1, sm)) hrf hy
    refine ⟨0, ?_⟩
    refine EffG.mk (And.intro ?_ ?_)
    ·(repeat' (first | exact hty | exact trivial | refine And.intro ?_ ?_)) <;> (first | omega | (simp only [aH, okP, xT, D.ren, D.isCell, Option.getD, List.length_set, List.length_take, List.length_drop, List.length_append, List.length_replicate, List.length_map, List.length_cons, List.length_nil, Option.map, j7, List.nil_append, D.pre, Out.pre] <;> omega) | exact hty | with_reducible rfl | decide)
    repeat first | refine go1 ?_ | refine Br.yes (eO _ _) ?_ | refine Br.yes rfl ?_
    refine kT [0, 1, 2, 3, 4, 5, 6, 7, 8, 9, 10, 11, 16, 3, 20, 17, 18] (h3 := (by (repeat' (first | exact trivial | refine And.intro ⟨_, rfl, rfl, ?_, id⟩ ?_ | refine And.intro ⟨_, rfl, rfl, ?_, fun _ => rfl⟩ ?_)) <;> (first | rfl | exact (Pure.ren _).symm | exact (Pure.ren _).trans (Pure.ren _).symm | (simp only [D.ren, D.rens, aL, aC]; rfl) | (refine Eq.trans ?_ (Pure.ren _).symm; exact i5 r0 rs (an + 1, sm)))))
   |refine ⟨1, ?_⟩
    repeat first | refine go1 ?_ | refine Br.yes (eO _ _) ?_ | refine Br.yes rfl ?_
    refine kT [0, 1, 2, 3, 4, 5, 6, 7, 8, 9, 10, 11, 16, 3, 20, 17, 18]
end
section
variable (p : Nat) (hp1 : 1 ≤ p) (hp2 : p ≤ 2) (k1 k2 : List B8) (tag : B8) (h1 : Rows 15 16 k1) (h2 : Rows 15 16 k2) (ht : tag.length = 32) (S S2 : B8) (N N2 : Nat) (cap cap2 : Option Nat) (ls : List Lo) (rl : List RLo) (st : Nat) (hs : S.length = N) (hn : N ≤ 32768) (a : BitVec 32) (r : B8) (hr : r.length = 32)
include p hp1 hp2 k1 k2 tag h1 h2 ht S S2 N N2 cap cap2 ls rl st hs hn a r hr
theorem aJp :
  (∃ e : Int, AC Tryz.prog 12 [.ptr 4 [], aB a r] 8 (fJ 8 p tag k1 k2 32768 N cap N2 cap2 ls st S) ⟨.tup [.nilslice, .i64 e], [], []⟩ ∧
    AC Tryz.prog 16 [eC 8 p k1 k2 tag, bU 32768 S S2 (aT 0 rl) st, aB a r] 1 gBK ⟨.tup [.nilslice, .i64 e], [], []⟩) ∨
  (∃ O : B8, O.length = 512 * p ∧ AC Tryz.prog 12 [.ptr 4 [], aB a r] 8 (fJ 8 p tag k1 k2 32768 N cap N2 cap2 ls st S) ⟨.tup [.slice 8 [] 0 (512 * p) none, .i64 0], [], [(.row .cell, .u8s O)]⟩ ∧
    AC Tryz.prog 16 [eC 8 p k1 k2 tag, bU 32768 S S2 (aT 0 rl) st, aB a r] 1 gBK ⟨.tup [.slice 1 [] 0 (512 * p) none, .i64 0], [], [(.row .cell, .u8s O)]⟩) := by
 by_cases hA : a.toNat = 0 ∨ 65536 < a.toNat
 ·have hp := aEh a r hr hA
  have hd := aAX 8 32768 p k1 k2 tag a r hr h1 h2 ht hA S S2 (aT 0 rl) (bD 0 rl) st
  refine .inl ⟨2, AC.lift hp [4] 8 _ trivial, hd⟩
 ·obtain ⟨q, hq⟩ : ∃ q, q = 8 + (a - 1).toNat * p := ⟨_, rfl⟩
  by_cases hR : N < 512 * q + 512 * p
  ·exact .inl ⟨40, aEe 8 p hp1 hp2 tag k1 k2 32768 N cap N2 cap2 ls st S a r q hq (by decide) (by decide) ht hr hs (by omega) (by omega) (by omega) hR, aAU 8 32768 p k1 k2 tag a r hr h1 h2 ht q hq (by decide) (by decide) hp1 hp2 (by omega) (by omega) S S2 (aT 0 rl) (bD 0 rl) st (by omega) (by omega)⟩
  ·by_cases he : bY tag a (cY S q p) = r
   ·exact .inr ⟨_, pP k2 (by rw [cY, List.length_take, List.length_drop]; omega), aEg 8 p hp1 hp2 tag k1 k2 32768 N cap N2 cap2 ls st S a r q h1 h2 hq (by decide) (by decide) ht hr hs (by omega) (by omega) (by omega) (by omega) he, aAW 8 32768 p k1 k2 tag a r hr h1 h2 ht q hq (by decide) (by decide) hp1 hp2 (by omega) (by omega) S S2 (aT 0 rl) (bD 0 rl) st (by omega) (by omega) he⟩
   ·exact .inl ⟨40, aEf 8 p hp1 hp2 tag k1 k2 32768 N cap N2 cap2 ls st S a r q hq (by decide) (by decide) ht hr hs (by omega) (by omega) (by omega) (by omega) he, aAV 8 32768 p k1 k2 tag a r hr h1 h2 ht q hq (by decide) (by decide) hp1 hp2 (by omega) (by omega) S S2 (aT 0 rl) (bD 0 rl) st (by omega) (by omega) he⟩
theorem aJn :
  (∃ e : Int, AC Tryz.prog 19 [.ptr 4 [], aB a r] 8 (fJ 8 p tag k1 k2 32768 N cap N2 cap2 ls st S) ⟨.tup [.nilslice, .i64 e], [], []⟩ ∧
    AC Tryz.prog 20 [eC 8 p k1 k2 tag, bU 32768 S S2 (aT 0 rl) st, aB a r] 1 [gK] ⟨.tup [.nilslice, .i64 e], [], []⟩) ∨
  (∃ O : B8, O.length = 512 * p ∧ AC Tryz.prog 19 [.ptr 4 [], aB a r] 8 (fJ 8 p tag k1 k2 32768 N cap N2 cap2 ls st S) ⟨.tup [.slice 8 [] 0 (512 * p) none, .i64 0], [], [(.row .cell, .u8s O)]⟩ ∧
    AC Tryz.prog 20 [eC 8 p k1 k2 tag, bU 32768 S S2 (aT 0 rl) st, aB a r] 1 [gK] ⟨.tup [.slice 1 [] 0 (512 * p) none, .i64 0], [], [(.row .cell, .u8s O)]⟩) := by
 by_cases hA : a.toNat = 0 ∨ 65536 < a.toNat
 ·have hp := aEQ a r hr hA
  have hd := aAD 8 32768 p k1 k2 tag a r hr h1 h2 ht hA S S2 (aT 0 rl) (bD 0 rl) st
  refine .inl ⟨2, AC.lift hp [4] 8 _ trivial, hd⟩
 ·obtain ⟨q, hq⟩ : ∃ q, q = 8 + (a - 1).toNat * p := ⟨_, rfl⟩
  by_cases hR : N < 512 * q + 512 * p
  ·exact .inl ⟨40, aEN 8 p hp1 hp2 tag k1 k2 32768 N cap N2 cap2 ls st S a r q hq (by decide) (by decide) ht hr hs (by omega) (by omega) (by omega) hR, aAA 8 32768 p k1 k2 tag a r hr h1 h2 ht q hq (by decide) (by decide) hp1 hp2 (by omega) (by omega) S S2 (aT 0 rl) (bD 0 rl) st (by omega) (by omega)⟩
  ·by_cases he : b7 (cY S q p) = r
   ·exact .inr ⟨_, by rw [cY, List.length_take, List.length_drop]; omega, aEP 8 p hp1 hp2 tag k1 k2 32768 N cap N2 cap2 ls st S a r q hq (by decide) (by decide) ht hr hs (by omega) (by omega) (by omega) (by omega) he, aAC 8 32768 p k1 k2 tag a r hr h1 h2 ht q hq (by decide) (by decide) hp1 hp2 (by omega) (by omega) S S2 (aT 0 rl) (bD 0 rl) st (by omega) (by omega) he⟩
   ·exact .inl ⟨40, aEO 8 p hp1 hp2 tag k1 k2 32768 N cap N2 cap2 ls st S a r q hq (by decide) (by decide) ht hr hs (by omega) (by omega) (by omega) (by omega) he, aAB 8 32768 p k1 k2 tag a r hr h1 h2 ht q hq (by decide) (by decide) hp1 hp2 (by omega) (by omega) S S2 (aT 0 rl) (bD 0 rl) st (by omega) (by omega) he⟩
end
def node0S : NodeS := ⟨0, 0, 0, 0, 0, 0, 0, 0, zB 32, zB 32, zB 32, zB 32, zB 32, zB 32, zB 32, zB 32⟩
theorem nP : node0S.ok := ⟨rfl, rfl, rfl, rfl, rfl, rfl, rfl, rfl⟩
theorem aGJ {Q : B8} (p : Nat) (h : 288 ≤ Q.length) : ∃ X : NodeS, X.ok ∧ ∃ e : Int, pR Q p = (X.D, e) := by
 unfold pR
 cases aGw Q || !eH Q 288 (512 * p - 288)
 ·obtain ⟨a0, a1, a2, a3, a4, a5, a6, a7, s0, s1, s2, s3, s4, s5, s6, s7, hG, l0, l1, l2, l3, l4, l5, l6, l7⟩ := qT (Q := Q) h
  exact ⟨⟨a0, a1, a2, a3, a4, a5, a6, a7, s0, s1, s2, s3, s4, s5, s6, s7⟩, ⟨l0, l1, l2, l3, l4, l5, l6, l7⟩, 0, by rw [cond_false, hG]⟩
 ·exact ⟨node0S, nP, 40, rfl⟩
section
variable (p : Nat) (hp1 : 1 ≤ p) (hp2 : p ≤ 2) (k1 k2 : List B8) (tag : B8) (h1 : Rows 15 16 k1) (h2 : Rows 15 16 k2) (ht : tag.length = 32)
include p hp1 hp2 k1 k2 tag h1 h2 ht
theorem aJo (S S2 : B8) (N N2 : Nat) (cap cap2 : Option Nat) (ls : List Lo) (rl : List RLo) (st : Nat) (hs : S.length = N) (hn : N ≤ 32768) (a : BitVec 32) (r : B8) (hr : r.length = 32) :
  ∃ X : NodeS, X.ok ∧ ∃ e : Int, AC Tryz.prog 17 [.ptr 4 [], aB a r] 8 (fJ 8 p tag k1 k2 32768 N cap N2 cap2 ls st S) ⟨.tup [X.D, .i64 e], [], []⟩ ∧
    AC Tryz.prog 18 [eC 8 p k1 k2 tag, bU 32768 S S2 (aT 0 rl) st, aB a r] 1 [gK] ⟨.tup [X.D, .i64 e], [], []⟩ := by
 by_cases hA : a.toNat = 0 ∨ 65536 < a.toNat
 ·have hp := aEW a r hr hA
  have hd := aAI 8 32768 p k1 k2 tag a r hr h1 h2 ht hA S S2 (aT 0 rl) (bD 0 rl) st
  exact ⟨node0S, nP, 2, AC.lift hp [4] 8 _ trivial, hd⟩
 ·obtain ⟨q, hq⟩ : ∃ q, q = 8 + (a - 1).toNat * p := ⟨_, rfl⟩
  by_cases hR : N < 512 * q + 512 * p
  ·exact ⟨node0S, nP, 40, aET 8 p hp1 hp2 tag k1 k2 32768 N cap N2 cap2 ls st S a r q hq (by decide) (by decide) ht hr hs (by omega) (by omega) (by omega) hR, aAF 8 32768 p k1 k2 tag a r hr h1 h2 ht q hq (by decide) (by decide) hp1 hp2 (by omega) (by omega) S S2 (aT 0 rl) (bD 0 rl) st (by omega) (by omega)⟩
  ·by_cases he : dL (cY S q p) = r
   ·have hp := aEV 8 p hp1 hp2 tag k1 k2 32768 N cap N2 cap2 ls st S a r q hq (by decide) (by decide) ht hr hs (by omega) (by omega) (by omega) (by omega) he
    have hd := aAH 8 32768 p k1 k2 tag a r hr h1 h2 ht q hq (by decide) (by decide) hp1 hp2 (by omega) (by omega) S S2 (aT 0 rl) (bD 0 rl) st (by omega) (by omega) he
    obtain ⟨X, hX, e, hE⟩ := aGJ (Q := cY S q p) p (by rw [cY, List.length_take, List.length_drop]; omega)
    rw [hE] at hp hd
    exact ⟨X, hX, e, hp, hd⟩
   ·exact ⟨node0S, nP, 40, aEU 8 p hp1 hp2 tag k1 k2 32768 N cap N2 cap2 ls st S a r q hq (by decide) (by decide) ht hr hs (by omega) (by omega) (by omega) (by omega) he, aAG 8 32768 p k1 k2 tag a r hr h1 h2 ht q hq (by decide) (by decide) hp1 hp2 (by omega) (by omega) S S2 (aT 0 rl) (bD 0 rl) st (by omega) (by omega) he⟩
section
variable (y : WSt) (i : Nat) (hi : i ≤ 20) (hy : y.ok i) (a : ActW) (ha : a.ok)
include y i hi hy a ha
set_option maxHeartbeats 4000000 in
theorem yM (hk : a.kd % 8 = 3) :
  ∃ y' : WSt, y'.ok (i + 1) ∧ AC Tryz.prog 7 [.ptr 0 [], cT 11 a] 12 (woM p k1 k2 tag y a.bs) (woO p k1 k2 tag y y') := by
 obtain ⟨S, S2, N, N2, cap, cap2, ls, rl, st, rf⟩ := y
 have hTa := ha.ty 11
 have hcls := hy.cls
 have hok := hy
 obtain ⟨hs, hs2, hn, hn2, hl5, hll, hrll, hst, hrfn, hrf, _⟩ := hy
 dsimp only at hcls hs hs2 hn hn2 hl5 hll hrll hst hrfn hrf
 have hT := aM (c := 8) (p := p) h1 h2 ht
 have hr32 := ha.r
 have hbs := ha.b
 have hxk := ha.x
 have hnd := ha.nd
 obtain ⟨kd, an, bs, x, nd, wh, ar, r⟩ := a
 dsimp only at hk hr32 hbs hxk hnd
 obtain ⟨k, hbk⟩ : ∃ k, bs.length = k := ⟨_, rfl⟩
 dsimp only [cT] at hTa
 rw [hbk] at hTa hbs hxk
 have hget := aJp p hp1 hp2 k1 k2 tag h1 h2 ht S S2 N N2 cap cap2 ls rl st hs hn
 refine ⟨⟨S, S2, N, N2, cap, cap2, ls, rl, st, rf⟩, hok.mono, ?_⟩
 have fM : Is (fun z : BitVec 32 × B8 => ((13, some ⟨gU, aB z.1 z.2, true⟩) :: (12, some ⟨eA, D.node [.u8 kd, .u32 an, slD 11 k x, nd.D, .u8 wh, aB ar r], true⟩) :: woM p k1 k2 tag ⟨S, S2, N, N2, cap, cap2, ls, rl, st, rf⟩ bs : Mem)) := is _
 rcases hcls with ⟨rfl, rfl, rfl⟩ | ⟨rfl, rfl, r0, rs, rfl⟩ | ⟨l0, ls, q0, rl, r0, rs, rfl, rfl, rfl⟩
 all_goals
  dsimp only [woM, woO, woW, dvW, cT, rfL, aT, oT, cX, dU, oL, eG, rfM, rfN, loN, rlN, List.nil_append, List.cons_append, List.map_nil, List.map_cons]
  rw [hbk]
  clear hok hs hs2 hn hn2 hl5 hll hrll hst ha hxk hbs hp1 ht hnd
  simp only [List.length_cons, List.length_nil] at hrfn
  refine acA tab mix Tryz.func7 ⟨[5], []⟩ ?_
  refine EffG.mk (And.intro hTa ?_)
  refine go ?_
  refine fR fM (is wh) (is (ar, r)) hr32 hrf (fun za zr hz => ?_)
  refine brY ?_ (h := decide_eq_true hk)
  refine go ?_
  rcases hget za zr hz with ⟨e, hp, hd⟩ | ⟨O, hOl, hp, hd⟩
  ·clear hget
   refine bG hp [1, 2, 3, 4, 5, 6, 7, 8] ?_
   refine yO hd [9] ?_
   repeat first | refine go1 ?_ | refine Br.yes rfl ?_ | refine Br.yes (decide_eq_true rfl) ?_
   refine kT [0, 1, 2, 3, 4, 5, 6, 7, 8, 9, 10, 11, 2, 3, 10, 4, 9]
  ·clear hget
   refine bG hp [1, 2, 3, 4, 5, 6, 7, 8] ?_
   refine yO hd [9] ?_
   repeat first | refine go1 ?_ | refine Br.yes rfl ?_ | refine Br.yes (decide_eq_true rfl) ?_
   refine kT [0, 1, 2, 3, 4, 5, 6, 7, 8, 9, 10, 11, 2, 3, 10, 4, 9]
set_option maxHeartbeats 4000000 in
theorem yL (hk : a.kd % 8 = 4) :
  ∃ y' : WSt, y'.ok (i + 1) ∧ AC Tryz.prog 7 [.ptr 0 [], cT 11 a] 12 (woM p k1 k2 tag y a.bs) (woO p k1 k2 tag y y') := by
 obtain ⟨S, S2, N, N2, cap, cap2, ls, rl, st, rf⟩ := y
 have hTa := ha.ty 11
 have hcls := hy.cls
 have hok := hy
 obtain ⟨hs, hs2, hn, hn2, hl5, hll, hrll, hst, hrfn, hrf, _⟩ := hy
 dsimp only at hcls hs hs2 hn hn2 hl5 hll hrll hst hrfn hrf
 have hT := aM (c := 8) (p := p) h1 h2 ht
 have hr32 := ha.r
 have hbs := ha.b
 have hxk := ha.x
 have hnd := ha.nd
 obtain ⟨kd, an, bs, x, nd, wh, ar, r⟩ := a
 dsimp only at hk hr32 hbs hxk hnd
 obtain ⟨k, hbk⟩ : ∃ k, bs.length = k := ⟨_, rfl⟩
 dsimp only [cT] at hTa
 rw [hbk] at hTa hbs hxk
 have hget := aJo p hp1 hp2 k1 k2 tag h1 h2 ht S S2 N N2 cap cap2 ls rl st hs hn
 refine ⟨⟨S, S2, N, N2, cap, cap2, ls, rl, st, rf⟩, hok.mono, ?_⟩
 have fM : Is (fun z : BitVec 32 × B8 => ((13, some ⟨gU, aB z.1 z.2, true⟩) :: (12, some ⟨eA, D.node [.u8 kd, .u32 an, slD 11 k x, nd.D, .u8 wh, aB ar r], true⟩) :: woM p k1 k2 tag ⟨S, S2, N, N2, cap, cap2, ls, rl, st, rf⟩ bs : Mem)) := is _
 rcases hcls with ⟨rfl, rfl, rfl⟩ | ⟨rfl, rfl, r0, rs, rfl⟩ | ⟨l0, ls, q0, rl, r0, rs, rfl, rfl, rfl⟩
 all_goals
  dsimp only [woM, woO, woW, dvW, cT, rfL, aT, oT, cX, dU, oL, eG, rfM, rfN, loN, rlN, List.nil_append, List.cons_append, List.map_nil, List.map_cons]
  rw [hbk]
  clear hok hs hs2 hn hn2 hl5 hll hrll hst ha hxk hbs hp1 hp2 ht hnd
  simp only [List.length_cons, List.length_nil] at hrfn
  refine acA tab mix Tryz.func7 ⟨[5], []⟩ ?_
  refine EffG.mk (And.intro hTa ?_)
  refine go ?_
  refine fR fM (is wh) (is (ar, r)) hr32 hrf (fun za zr hz => ?_)
  iterate 1 (refine brN ?_ (h := decide_eq_false (fun e => absurd (hk.symm.trans e) (by decide))); refine go ?_)
  refine brY ?_ (h := decide_eq_true hk)
  refine go ?_
  obtain ⟨X, hX, e, hp, hd⟩ := hget za zr hz
  obtain ⟨g0, g1, g2, g3, g4, g5, g6, g7⟩ := hX
  clear hget
  obtain ⟨a0, a1, a2, a3, a4, a5, a6, a7, s0, s1, s2, s3, s4, s5, s6, s7⟩ := X
  dsimp only [NodeS.D] at hp hd g0 g1 g2 g3 g4 g5 g6 g7
  refine bK hp [1, 2, 3, 4, 5, 6, 7, 8] ?_
  repeat first | refine go1 ?_ | (refine EffG.mk (And.intro ?_ ?_); focus (((repeat' (first | assumption | exact trivial | refine And.intro ?_ ?_)) <;> first | rfl | omega); done))
  refine yO hd [9] ?_
  repeat first | refine go1 ?_ | (refine EffG.mk (And.intro ?_ ?_); focus (((repeat' (first | assumption | exact trivial | refine And.intro ?_ ?_)) <;> first | rfl | omega); done)) | refine Br.yes (nodeeq _ _ _ _ _ _ _ _ _ _ _ _ _ _ _ _) ?_ | refine Br.yes rfl ?_
  refine kT [0, 1, 2, 3, 4, 5, 6, 7, 8, 9, 10, 11, 2, 3, 10, 4, 9]
end
end
set_option maxHeartbeats 4000000 in
theorem yK (p : Nat) (hp1 : 1 ≤ p) (hp2 : p ≤ 2) (k1 k2 : List B8) (tag : B8) (h1 : Rows 15 16 k1) (h2 : Rows 15 16 k2) (ht : tag.length = 32) (y : WSt) (i : Nat) (hi : i ≤ 20) (hy : y.ok i) (a : ActW) (ha : a.ok) (hk : a.kd % 8 = 5) :
  ∃ y' : WSt, y'.ok (i + 1) ∧ AC Tryz.prog 7 [.ptr 0 [], cT 11 a] 12 (woM p k1 k2 tag y a.bs) (woO p k1 k2 tag y y') := by
 obtain ⟨S, S2, N, N2, cap, cap2, ls, rl, st, rf⟩ := y
 have hTa := ha.ty 11
 have hcls := hy.cls
 have hok := hy
 obtain ⟨hs, hs2, hn, hn2, hl5, hll, hrll, hst, hrfn, hrf, _⟩ := hy
 dsimp only at hcls hs hs2 hn hn2 hl5 hll hrll hst hrfn hrf
 have hT := aM (c := 8) (p := p) h1 h2 ht
 have hr32 := ha.r
 have hbs := ha.b
 have hxk := ha.x
 have hnd := ha.nd
 obtain ⟨kd, an, bs, x, nd, wh, ar, r⟩ := a
 dsimp only at hk hr32 hbs hxk hnd
 obtain ⟨k, hbk⟩ : ∃ k, bs.length = k := ⟨_, rfl⟩
 dsimp only [cT] at hTa
 rw [hbk] at hTa hbs hxk
 have hget := aJn p hp1 hp2 k1 k2 tag h1 h2 ht S S2 N N2 cap cap2 ls rl st hs hn
 refine ⟨⟨S, S2, N, N2, cap, cap2, ls, rl, st, rf⟩, hok.mono, ?_⟩
 have fM : Is (fun z : BitVec 32 × B8 => ((13, some ⟨gU, aB z.1 z.2, true⟩) :: (12, some ⟨eA, D.node [.u8 kd, .u32 an, slD 11 k x, nd.D, .u8 wh, aB ar r], true⟩) :: woM p k1 k2 tag ⟨S, S2, N, N2, cap, cap2, ls, rl, st, rf⟩ bs : Mem)) := is _
 obtain ⟨M1, hM1⟩ : ∃ M1 : Mem, M1 = woM p k1 k2 tag ⟨S, S2, N, N2, cap, cap2, ls, rl, st, rf⟩ bs := ⟨_, rfl⟩
 rcases hcls with ⟨rfl, rfl, rfl⟩ | ⟨rfl, rfl, r0, rs, rfl⟩ | ⟨l0, ls, q0, rl, r0, rs, rfl, rfl, rfl⟩
 all_goals
  dsimp only [woM, woO, woW, dvW, cT, rfL, aT, oT, cX, dU, oL, eG, rfM, rfN, loN, rlN, List.nil_append, List.cons_append, List.map_nil, List.map_cons]
  rw [hbk]
  clear hok hs hs2 hn hn2 hl5 hll hrll hst ha hxk hbs hp1 ht hnd
  simp only [List.length_cons, List.length_nil] at hrfn
  refine acA tab mix Tryz.func7 ⟨[5], []⟩ ?_
  refine EffG.mk (And.intro hTa ?_)
  refine go ?_
  refine fR fM (is wh) (is (ar, r)) hr32 hrf (fun za zr hz => ?_)
  iterate 2 (refine brN ?_ (h := decide_eq_false (fun e => absurd (hk.symm.trans e) (by decide))); refine go ?_)
  refine brY ?_ (h := decide_eq_true hk)
  refine go ?_
  rcases hget za zr hz with ⟨e, hp, hd⟩ | ⟨O, hOl, hp, hd⟩
  ·clear hget
   refine bG hp [1, 2, 3, 4, 5, 6, 7, 8] ?_
   refine yO hd [9] ?_
   repeat first | refine go1 ?_ | refine Br.yes rfl ?_ | refine Br.yes (decide_eq_true rfl) ?_
   refine aX Unit (fun _ => [(15, .nilslice), (19, .bool true), (20, .i64 (0 : Nat))]) (fun _ => M1) 12 (fun _ => True) (fun _ => 0) () [0, 1, 2, 3, 4, 5, 6, 7, 8, 9, 10, 11] trivial ?_ ?_
   all_goals subst hM1
   ·exact aDo
   rintro ⟨⟩ _
   refine gob ?_
   refine kT [0, 1, 2, 3, 4, 5, 6, 7, 8, 9, 10, 11, 2, 3, 10, 4, 9]
  ·clear hget
   refine bG hp [1, 2, 3, 4, 5, 6, 7, 8] ?_
   refine yO hd [9] ?_
   repeat first | refine go1 ?_ | refine Br.yes rfl ?_ | refine Br.yes (decide_eq_true rfl) ?_
   refine aX (Nat × B8) (fun z => [(15, .slice 12 [] 0 (512 * p) none), (19, .bool true), (20, .i64 z.1)]) (fun z => (12, some ⟨.row .cell, .u8s z.2, true⟩) :: M1) 13
    (fun z => z.1 ≤ 512 * p ∧ z.2.length = 512 * p) (fun z => 512 * p - z.1) (0, O) [0, 1, 2, 3, 4, 5, 6, 7, 8, 9, 10, 11, 14] ⟨Nat.zero_le _, hOl⟩ ?_ ?_
   all_goals subst hM1
   ·exact aDo
   rintro ⟨k0, Z⟩ ⟨hk0, hZ⟩
   have hk0 : k0 ≤ 512 * p := hk0
   have hZ : Z.length = 512 * p := hZ
   refine go ?_
   refine Br.split (fun hh => ?_) (fun hh => ?_)
   ·have hk1 : k0 < 512 * p := by have := of_decide_eq_true hh; omega
    clear hh
    refine go ?_
    refine bB (k0 + 1, Z.set (0 + ((k0 : Nat) : Int).toNat) (Z.getD (0 + ((k0 : Nat) : Int).toNat) 0 + BitVec.ofNat 8 (Int.toNat 1))) [0, 1, 2, 3, 4, 5, 6, 7, 8, 9, 10, 11, 12] aDo (h1 := ⟨hk1, by show (Z.set (0 + ((k0 : Nat) : Int).toNat) (Z.getD (0 + ((k0 : Nat) : Int).toNat) 0 + BitVec.ofNat 8 (Int.toNat 1))).length = 512 * p; rw [List.length_set]; exact hZ⟩) (h2 := by show 512 * p - (k0 + 1) < 512 * p - k0; omega)
   ·refine go ?_
    refine kT [0, 1, 2, 3, 4, 5, 6, 7, 8, 9, 10, 11, 2, 3, 10, 4, 9]
def aDb (c p : Nat) : B8 := vE c p ++ List.replicate (512 - 13) 0
def lO (c p : Nat) : Bool := !(((aI2 (aDb c p) 9).getD 0 0 == 0) && ((aI2 (aDb c p) 9).getD 1 0 == 0) && ((aI2 (aDb c p) 9).getD 2 0 == 0))
def aG6 (f : Nat → Bool) (a : Nat) : Nat → Bool
 |0 => true
 |n + 1 => f (a + n) && aG6 f a n
theorem jB {f : Nat → Bool} {a : Nat} : ∀ {n : Nat}, aG6 f a n = true → ∀ c, a ≤ c → c < a + n → f c = true
 |0, _, c, h1, h2 => by omega
 |n + 1, h, c, h1, h2 => by
  simp only [aG6, Bool.and_eq_true] at h
  by_cases e : c = a + n
  ·rw [e]; exact h.1
  ·exact jB h.2 c h1 (by omega)
theorem aG5 {c p : Nat} (h : lO c p = true) : ¬ dI (vE c p ++ List.replicate (512 - 13) 0) = List.replicate 32 0 := fun e => by
 have e2 : aI2 (aDb c p) 9 = List.replicate 32 0 := by
  rw [← e, w5 _ 9 (by simp [i0, zN])]; rfl
 rw [lO, e2] at h
 exact absurd h (by decide)
theorem aJr : aG6 (fun c => lO c 1) 1 16 = true := by kernel_rfl
theorem aID : aG6 (fun c => lO c 1) 17 16 = true := by kernel_rfl
theorem aIC : aG6 (fun c => lO c 1) 33 16 = true := by kernel_rfl
theorem aIB : aG6 (fun c => lO c 1) 49 16 = true := by kernel_rfl
theorem aJq : aG6 (fun c => lO c 2) 1 16 = true := by kernel_rfl
theorem aIA : aG6 (fun c => lO c 2) 17 16 = true := by kernel_rfl
theorem aHz : aG6 (fun c => lO c 2) 33 16 = true := by kernel_rfl
theorem aHy : aG6 (fun c => lO c 2) 49 16 = true := by kernel_rfl
theorem geo_nz (c p : Nat) (hc : 1 ≤ c) (hc2 : c ≤ 64) (hp : 1 ≤ p) (hp2 : p ≤ 2) : ¬ dI (vE c p ++ List.replicate (512 - 13) 0) = List.replicate 32 0 := by
 refine aG5 ?_
 rcases (by omega : p = 1 ∨ p = 2) with rfl | rfl
 ·rcases (by omega : c < 17 ∨ 17 ≤ c ∧ c < 33 ∨ 33 ≤ c ∧ c < 49 ∨ 49 ≤ c ∧ c < 65) with h | h | h | h
  ·exact jB aJr c (by omega) (by omega)
  ·exact jB aID c (by omega) (by omega)
  ·exact jB aIC c (by omega) (by omega)
  ·exact jB aIB c (by omega) (by omega)
 ·rcases (by omega : c < 17 ∨ 17 ≤ c ∧ c < 33 ∨ 33 ≤ c ∧ c < 49 ∨ 49 ≤ c ∧ c < 65) with h | h | h | h
  ·exact jB aJq c (by omega) (by omega)
  ·exact jB aIA c (by omega) (by omega)
  ·exact jB aHz c (by omega) (by omega)
  ·exact jB aHy c (by omega) (by omega)
theorem kind8 (k : BitVec 8) : k % 8 = 0 ∨ k % 8 = 1 ∨ k % 8 = 2 ∨ k % 8 = 3 ∨ k % 8 = 4 ∨ k % 8 = 5 ∨ k % 8 = 6 ∨ k % 8 = 7 := by
 have h : (k % 8).toNat < 8 := by rw [BitVec.toNat_umod]; exact Nat.mod_lt _ (by decide)
 have e : ∀ j, j < 8 → (k % 8).toNat = j → k % 8 = BitVec.ofNat 8 j := fun j hj e => BitVec.eq_of_toNat_eq (by rw [e, BitVec.toNat_ofNat]; omega)
 rcases (by omega : (k % 8).toNat = 0 ∨ (k % 8).toNat = 1 ∨ (k % 8).toNat = 2 ∨ (k % 8).toNat = 3 ∨ (k % 8).toNat = 4 ∨ (k % 8).toNat = 5 ∨ (k % 8).toNat = 6 ∨ (k % 8).toNat = 7) with h | h | h | h | h | h | h | h
 ·exact .inl (e _ (by decide) h)
 ·exact .inr (.inl (e _ (by decide) h))
 ·exact .inr (.inr (.inl (e _ (by decide) h)))
 ·exact .inr (.inr (.inr (.inl (e _ (by decide) h))))
 ·exact .inr (.inr (.inr (.inr (.inl (e _ (by decide) h)))))
 ·exact .inr (.inr (.inr (.inr (.inr (.inl (e _ (by decide) h))))))
 ·exact .inr (.inr (.inr (.inr (.inr (.inr (.inl (e _ (by decide) h)))))))
 ·exact .inr (.inr (.inr (.inr (.inr (.inr (.inr (e _ (by decide) h)))))))
theorem do_ac (p : Nat) (hp1 : 1 ≤ p) (hp2 : p ≤ 2) (k1 k2 : List B8) (tag : B8) (h1 : Rows 15 16 k1) (h2 : Rows 15 16 k2) (ht : tag.length = 32) (y : WSt) (i : Nat) (hi : i ≤ 20) (hy : y.ok i) (a : ActW) (ha : a.ok) :
  ∃ y' : WSt, y'.ok (i + 1) ∧ AC Tryz.prog 7 [.ptr 0 [], cT 11 a] 12 (woM p k1 k2 tag y a.bs) (woO p k1 k2 tag y y') := by
 have hx : (∃ c, a.x = some c) ∨ a.x = none := by
  cases a.x with
  |none => exact .inr rfl
  |some c => exact .inl ⟨c, rfl⟩
 rcases kind8 a.kd with hk | hk | hk | hk | hk | hk | hk | hk
 ·by_cases hb : 65535 < a.n.toNat ∨ a.bs.length ≠ 512 * p ∨ y.N < 512 * (8 + a.n.toNat * p) ∨ 32768 < 512 * (8 + a.n.toNat * p) + 512 * p
  ·exact u9 p hp1 hp2 k1 k2 tag h1 h2 ht y i hi hy a ha hk hb
  ·by_cases hg : 512 * (8 + a.n.toNat * p) + 512 * p ≤ y.N
   ·exact aBM p hp1 hp2 k1 k2 tag h1 h2 ht y i hi hy a ha hk ⟨by omega, by omega, by omega, by omega, hg⟩
   ·exact aBL p hp1 hp2 k1 k2 tag h1 h2 ht y i hi hy a ha hk ⟨by omega, by omega, by omega, by omega, by omega⟩
 ·by_cases hb : 65535 < a.n.toNat ∨ y.N < 512 * (8 + a.n.toNat * p) ∨ 32768 < 512 * (8 + a.n.toNat * p) + 512 * p
  ·exact u7 p hp1 hp2 k1 k2 tag h1 h2 ht y i hi hy a ha hk hb
  ·by_cases hg : 512 * (8 + a.n.toNat * p) + 512 * p ≤ y.N
   ·exact aBG p hp1 hp2 k1 k2 tag h1 h2 ht y i hi hy a ha hk ⟨by omega, by omega, by omega, hg⟩
   ·exact aBF p hp1 hp2 k1 k2 tag h1 h2 ht y i hi hy a ha hk ⟨by omega, by omega, by omega, by omega⟩
 ·rcases hx with hx | hx
  ·by_cases hb : 65535 < a.n.toNat ∨ 512 * p < a.bs.length ∨ y.N < 512 * (8 + a.n.toNat * p) ∨ 32768 < 512 * (8 + a.n.toNat * p) + 512 * p
   ·exact u6 p hp1 hp2 k1 k2 tag h1 h2 ht y i hi hy a ha hk hx hb
   ·by_cases hg : 512 * (8 + a.n.toNat * p) + 512 * p ≤ y.N
    ·exact aBE p hp1 hp2 k1 k2 tag h1 h2 ht y i hi hy a ha hk hx ⟨by omega, by omega, by omega, by omega, hg⟩
    ·exact aBD p hp1 hp2 k1 k2 tag h1 h2 ht y i hi hy a ha hk hx ⟨by omega, by omega, by omega, by omega, by omega⟩
  ·by_cases hb : 65535 < a.n.toNat ∨ y.N < 512 * (8 + a.n.toNat * p) ∨ 32768 < 512 * (8 + a.n.toNat * p) + 512 * p
   ·exact tP p hp1 hp2 k1 k2 tag h1 h2 ht y i hi hy a ha hk hx hb
   ·by_cases hg : 512 * (8 + a.n.toNat * p) + 512 * p ≤ y.N
    ·exact yJ p hp1 hp2 k1 k2 tag h1 h2 ht y i hi hy a ha hk hx ⟨by omega, by omega, by omega, hg⟩
    ·exact yI p hp1 hp2 k1 k2 tag h1 h2 ht y i hi hy a ha hk hx ⟨by omega, by omega, by omega, by omega⟩
 ·exact yM p hp1 hp2 k1 k2 tag h1 h2 ht y i hi hy a ha hk
 ·exact yL p hp1 hp2 k1 k2 tag h1 h2 ht y i hi hy a ha hk
 ·exact yK p hp1 hp2 k1 k2 tag h1 h2 ht y i hi hy a ha hk
 ·have hpl : (a.n % 20000#32).toNat < 20000 := by rw [BitVec.toNat_umod]; exact Nat.mod_lt _ (by decide)
  have hal := ha.b
  by_cases hN : y.N < (a.n % 20000#32).toNat ∨ 32768 < (a.n % 20000#32).toNat + a.bs.length
  ·exact aC6 p hp1 hp2 k1 k2 tag h1 h2 ht y i hi hy a ha hk hN hpl
  ·by_cases hz : a.bs.length = 0
   ·exact aC5 p hp1 hp2 k1 k2 tag h1 h2 ht y i hi hy a ha hk (by omega) hz
   ·by_cases g1 : (a.n % 20000#32).toNat + a.bs.length ≤ y.N <;> by_cases g2 : (a.n % 20000#32).toNat + a.bs.length ≤ y.N2
    ·exact aBK p hp1 hp2 k1 k2 tag h1 h2 ht y i hi hy a ha hk (by omega) ⟨by omega, by omega, g1, g2⟩
    ·exact aBJ p hp1 hp2 k1 k2 tag h1 h2 ht y i hi hy a ha hk (by omega) ⟨by omega, by omega, g1, by omega⟩
    ·exact aBI p hp1 hp2 k1 k2 tag h1 h2 ht y i hi hy a ha hk (by omega) ⟨by omega, by omega, by omega, g2⟩
    ·exact aBH p hp1 hp2 k1 k2 tag h1 h2 ht y i hi hy a ha hk (by omega) ⟨by omega, by omega, by omega, by omega⟩
 ·exact aE7 p hp1 hp2 k1 k2 tag h1 h2 ht y i hi hy a ha hk
theorem aGP (per : BitVec 8) (K : B8) (hK : K.length = 32) (p : Nat) (hp : p = 1 + per.toNat % 2) :
  AC Tryz.prog 6 [.u8 per, .u8s K] 0 gRBK
   ⟨.node [.ptr 0 [], .ptr 3 [], bU 32768 (zB 16384) (zB 16384) .nilslice 0, eC 8 p (bO (fH K t7)) (bO (fH K t6)) (fH K qG), .nilslice], [],
    [(tDv, dvD 32768 16384 none 16384 none .nilslice 0), (.row .cell, .u8s (zB 16384)), (.row .cell, .u8s (zB 16384)), (tSp, aGr 0 4 8 p (fH K qG)), (tX, .node [.ptr 5 [], .ptr 6 []]), (tC, cH (bO (fH K t7))), (tC, cH (bO (fH K t6)))]⟩ := by
 have hb := aDk
 have hn := aHI 8 p K (by decide) (by decide) (by omega) (by omega) hK (geo_nz 8 p (by decide) (by decide) (by omega) (by omega))
 have hr := aFc 8 p K hK
 have hdn := aH4 32768 (by decide)
 have q0 : Int.tmod ((per.toNat : Nat) : Int) 2 = ((per.toNat % 2 : Nat) : Int) := (Int.ofNat_tmod per.toNat 2).symm
 have q1 : (1 : Int) + ((per.toNat % 2 : Nat) : Int) = ((p : Nat) : Int) := by omega
 have y1 := cK (fH K t7) (aW _ _)
 have y2 := cK (fH K t6) (aW _ _)
 have y3 := aW K qG
 generalize bO (fH K t7) = k1 at hn hr y1 ⊢
 generalize bO (fH K t6) = k2 at hn hr y2 ⊢
 generalize fH K qG = tag at hn hr y3 ⊢
 have hT := aM (c := 8) (p := p) y1 y2 y3
 have hdl := aFr 32768 (zB 16384) (by rw [List.length_replicate]; decide)
 have hze : List.take (Int.toNat 16384) (List.drop 0 (List.replicate (Int.toNat 16384) (0 : BitVec 8))) = zB 16384 := by
  rw [show Int.toNat 16384 = 16384 from rfl, List.drop_zero, List.take_of_length_le (by rw [List.length_replicate]; exact Nat.le_refl _)]
 have hz : (zB 16384).length = 16384 := List.length_replicate
 generalize zB 16384 = Z at hb hdl hze hz ⊢
 have hm : per.toNat % 2 < 2 := Nat.mod_lt _ (by decide)
 clear hp
 generalize per.toNat % 2 = m at q0 q1 hm
 refine acA tab mix Tryz.func6 {} ?_
 repeat first | rw [q0] | rw [q1] | refine go1 ?_
 refine bG hb [] ?_
 refine bG hn [3] ?_
 refine bG hdn [] ?_
 refine bK hdl [] ?_ (hargs := by show [bU 32768 [] [] .nilslice 0, D.str (List.take (Int.toNat 16384) (List.drop 0 (List.replicate (Int.toNat 16384) 0)))] = [bU 32768 [] [] .nilslice 0, D.str Z]; rw [hze])
 clear hze
 refine go ?_
 refine aIT hr [] (eC 8 p k1 k2 tag) ?_ (hr := by simp only [D.rens, D.ren, aC])
 refine go ?_
 refine EffG.mk (And.intro ?_ ?_)
 ·(repeat' (first | assumption | exact trivial | refine And.intro ?_ ?_)) <;> first | rfl | omega
 refine go ?_
 refine EffG.mk (And.intro ?_ ?_)
 ·(repeat' (first | assumption | exact trivial | refine And.intro ?_ ?_)) <;> first | rfl | omega
 refine go ?_
 refine aI [3, 4, 5, 6, 7, 8, 9] (h1 := by simp only [D.ren, D.rens, aC]; rfl)
structure ActW.okr (a : ActW) : Prop where
 x : a.x = none → a.bs.length = 0
 nd : a.nd.ok
 r : a.r.length = 32
def a0W : ActW := ⟨0, 0, [], none, node0S, 0, 0, List.replicate 32 0⟩
def eP : Nat → List ActW → List D
 |_, [] => []
 |n, a :: r => cT n a :: eP (n + 1) r
theorem kN : ∀ (A : List ActW) (n : Nat), (eP n A).length = A.length
 |[], _ => rfl
 |a :: r, n => by rw [eP, List.length_cons, List.length_cons, kN r]
theorem iN : ∀ (A : List ActW) (n i : Nat), i < A.length → qS (eP n A) i = cT (n + i) (A.getD i a0W)
 |[], _, _, h => absurd h (Nat.not_lt_zero _)
 |a :: r, n, 0, _ => rfl
 |a :: r, n, i + 1, h => by
  have := iN r (n + 1) i (by simpa using h)
  rw [show n + 1 + i = n + (i + 1) by omega] at this
  exact this
theorem e9 (s : Nat → Nat) (n : Nat) (a : ActW) : (cT n a).ren s = cT (s n) a := by
 show D.node [_, _, (slD n _ _).ren s, _, _, _] = _
 rw [aL]
 rfl
theorem sL (s : Nat → Nat) (m : Nat) (hs : ∀ i, i < m → s i = i) : ∀ (A : List ActW) (n : Nat), n + A.length ≤ m → D.rens s (eP n A) = eP n A
 |[], _, _ => rfl
 |a :: r, n, h => by
  have h : n + (r.length + 1) ≤ m := h
  show (cT n a).ren s :: D.rens s (eP (n + 1) r) = cT n a :: eP (n + 1) r
  rw [sL s m hs r (n + 1) (by omega), e9, hs n (by omega)]
theorem n9 {A : List ActW} {i : Nat} (h : i < A.length) : A.getD i a0W ∈ A := by
 rw [List.getD_eq_getElem?_getD, List.getElem?_eq_getElem h]
 exact List.getElem_mem h
def yC (A : List ActW) : Nat → Nat
 |0 => 0
 |i + 1 => yC A i + min (A.getD i a0W).bs.length 20001
theorem aGc (A : List ActW) : ∀ i, yC A i ≤ 20001 * i
 |0 => Nat.le_refl _
 |i + 1 => by
  have := aGc A i
  show yC A i + min _ 20001 ≤ 20001 * (i + 1)
  omega
theorem aAx (A : List ActW) (i : Nat) : ∀ d, yC A i ≤ yC A (i + d)
 |0 => Nat.le_refl _
 |d + 1 => Nat.le_trans (aAx A i d) (Nat.le_add_right _ _)
theorem aJu {A : List ActW} {k i : Nat} (h : yC A k ≤ 20000) (hi : i < k) : (A.getD i a0W).bs.length ≤ 20000 := by
 have h1 := aAx A (i + 1) (k - (i + 1))
 rw [show i + 1 + (k - (i + 1)) = k by omega] at h1
 have h2 : yC A (i + 1) = yC A i + min (A.getD i a0W).bs.length 20001 := rfl
 omega
theorem aC1 (k cap : Nat) (hk : 20 < k) : AC Tryz.prog 4 [.slice 0 [] 0 k (some cap)] 1 [] ⟨.bool false, [], []⟩ := by
 refine acA tab mix Tryz.func4 {} ?_
 refine gob ?_
 refine aI [0]
theorem aE6 : AC Tryz.prog 4 [.nilslice] 0 [] ⟨.bool true, [], []⟩ := by
 refine acA tab mix Tryz.func4 ⟨[], [5]⟩ ?_
 refine gob ?_
 refine oI 1 ?_
 refine gob ?_
 refine aI []
theorem aJs : ∀ i, i < 21 → sig 21 0 0 [0, 1, 2, 3, 4, 5, 6, 7, 8, 9, 10, 11, 12, 13, 14, 15, 16, 17, 18, 19, 20] i = i := by decide
theorem aIk (A : List ActW) (k cap : Nat) (hk : A.length = k) (hk2 : k ≤ 20) (hok : ∀ a ∈ A, a.okr) (b : Bool) (hb : decide ((yC A k : Int) ≤ 20000) = b) :
  AC Tryz.prog 4 [.slice 0 [] 0 k (some cap)] 21 [(0, some ⟨.row eA, .node (eP 1 A), false⟩)] ⟨.bool b, [], []⟩ := by
 have hlenA := kN A 1
 have hrA := sL _ _ aJs A 1 (by omega)
 refine acA tab mix Tryz.func4 {} ?_
 refine gob ?_
 refine aX Nat (fun i => [(0, .slice 0 [] 0 k (some cap)), (3, .i64 (yC A i)), (4, .i64 i)]) (fun _ => [(0, some ⟨.row eA, .node (eP 1 A), false⟩)]) 21
  (fun i => i ≤ k) (fun i => k - i) 0 [0, 1, 2, 3, 4, 5, 6, 7, 8, 9, 10, 11, 12, 13, 14, 15, 16, 17, 18, 19, 20] (Nat.zero_le _) (aK (h3 := ⟨⟨_, rfl, rfl, congrArg D.node hrA.symm, id⟩, trivial⟩)) ?_
 intro i hi
 have hfl := aGc A i
 refine go ?_
 refine Br.split (fun hh => ?_) (fun hh => ?_)
 ·have hi : i < k := by have := of_decide_eq_true hh; omega
  have hn := iN A 1 i (by omega)
  have hst : yC A (i + 1) = yC A i + min (A.getD i a0W).bs.length 20001 := rfl
  have hox := (hok _ (n9 (A := A) (i := i) (by omega))).x
  generalize A.getD i a0W = a at hn hst hox
  obtain ⟨kd, an, bs, x, nd, wh, ar, r⟩ := a
  have hox : x = none → bs.length = 0 := hox
  have hst : yC A (i + 1) = yC A i + min bs.length 20001 := hst
  have hq : ((yC A i : Nat) : Int) + min ((bs.length : Nat) : Int) 20001 = ((yC A (i + 1) : Nat) : Int) := by omega
  have hn' : qS (eP 1 A) (0 + ((i : Nat) : Int).toNat) = cT (1 + i) ⟨kd, an, bs, x, nd, wh, ar, r⟩ := by rw [Nat.zero_add]; exact hn
  clear hh hst hn
  iterate 5 (first | refine go1 ?_)
  refine aCU (slD (1 + i) bs.length x) rfl rfl rfl rfl rfl (by show c8 (qS (eP 1 A) (0 + ((i : Nat) : Int).toNat)) [.fld 2] = _; rw [hn']; rfl) ?_ ?_
  ·refine ⟨?_, ?_⟩
   ·show 0 + ((i : Nat) : Int).toNat < (eP 1 A).length
    rw [hlenA, Nat.zero_add]
    show i < A.length
    omega
   ·show okP (qS (eP 1 A) (0 + ((i : Nat) : Int).toNat)) [.fld 2]
    rw [hn']
    exact trivial
  refine lenS (k := 1 + i) (n := bs.length) (x := x) rfl rfl rfl rfl hox rfl rfl ?_
  repeat first | rw [hq] | refine go1 ?_
  refine bB (i + 1) [0, 1, 2, 3, 4, 5, 6, 7, 8, 9, 10, 11, 12, 13, 14, 15, 16, 17, 18, 19, 20] (aK (h3 := ⟨⟨_, rfl, rfl, congrArg D.node hrA.symm, id⟩, trivial⟩)) (h1 := hi) (h2 := by omega)
 ·obtain rfl : i = k := by have := of_decide_eq_false hh; omega
  clear hh
  refine go ?_
  refine aI [0, 1, 2, 3, 4, 5, 6, 7, 8, 9, 10, 11, 12, 13, 14, 15, 16, 17, 18, 19, 20] (h1 := congrArg D.bool hb) (h3 := ⟨⟨_, rfl, rfl, congrArg D.node hrA.symm, id⟩, trivial⟩)
abbrev datW (A : List ActW) : Mem := [(1, some ⟨.row .cell, .u8s (A.getD 0 a0W).bs, false⟩), (2, some ⟨.row .cell, .u8s (A.getD 1 a0W).bs, false⟩), (3, some ⟨.row .cell, .u8s (A.getD 2 a0W).bs, false⟩), (4, some ⟨.row .cell, .u8s (A.getD 3 a0W).bs, false⟩), (5, some ⟨.row .cell, .u8s (A.getD 4 a0W).bs, false⟩), (6, some ⟨.row .cell, .u8s (A.getD 5 a0W).bs, false⟩), (7, some ⟨.row .cell, .u8s (A.getD 6 a0W).bs, false⟩), (8, some ⟨.row .cell, .u8s (A.getD 7 a0W).bs, false⟩), (9, some ⟨.row .cell, .u8s (A.getD 8 a0W).bs, false⟩), (10, some ⟨.row .cell, .u8s (A.getD 9 a0W).bs, false⟩), (11, some ⟨.row .cell, .u8s (A.getD 10 a0W).bs, false⟩), (12, some ⟨.row .cell, .u8s (A.getD 11 a0W).bs, false⟩), (13, some ⟨.row .cell, .u8s (A.getD 12 a0W).bs, false⟩), (14, some ⟨.row .cell, .u8s (A.getD 13 a0W).bs, false⟩), (15, some ⟨.row .cell, .u8s (A.getD 14 a0W).bs, false⟩), (16, some ⟨.row .cell, .u8s (A.getD 15 a0W).bs, false⟩), (17, some ⟨.row .cell, .u8s (A.getD 16 a0W).bs, false⟩), (18, some ⟨.row .cell, .u8s (A.getD 17 a0W).bs, false⟩), (19, some ⟨.row .cell, .u8s (A.getD 18 a0W).bs, false⟩), (20, some ⟨.row .cell, .u8s (A.getD 19 a0W).bs, false⟩)]
abbrev aDS (A : List ActW) : Mem := (0, some ⟨.row eA, .node (eP 1 A), false⟩) :: (datW A ++ gRBK)
abbrev plW (p : Nat) (k1 k2 : List B8) (tag S S2 : B8) (lo rf : D) (st : Nat) : D := .node [.ptr 22 [], .ptr 26 [], bU 32768 S S2 lo st, eC 8 p k1 k2 tag, rf]
abbrev plM (p : Nat) (k1 k2 : List B8) (tag : B8) (A : List ActW) (y : WSt) : Mem :=
 cX 25 y.ls ++ (oL 30 y.rl ++ (rfM 31 y.rf ++ ([(21, some ⟨tW, plW p k1 k2 tag y.S y.S2 (aT 30 y.rl) (rfL 31 y.rf) y.st, true⟩), (22, some ⟨tDv, dvW 23 24 y.N y.cap y.N2 y.cap2 (oT 25 y.ls) y.st, true⟩),
  (23, some ⟨.row .cell, .u8s y.S, true⟩), (24, some ⟨.row .cell, .u8s y.S2, true⟩), (26, some ⟨tSp, aGr 22 27 8 p tag, true⟩), (27, some ⟨tX, .node [.ptr 28 [], .ptr 29 []], true⟩), (28, some ⟨tC, cH k1, true⟩), (29, some ⟨tC, cH k2, true⟩),
  (0, some ⟨.row eA, .node (eP 1 A), false⟩)] ++ (datW A ++ gRBK))))
theorem fixG {m : Nat} {s : Nat → Nat} (h : ∀ i, i < m → s i = i) (A : List ActW) (hA : 1 + A.length ≤ m) : D.rens s (eP 1 A) = eP 1 A := sL s m h A 1 hA
theorem fixS0 : ∀ i, i < 21 → sig 32 0 0 [0, 1, 2, 3, 4, 5, 6, 7, 8, 9, 10, 11, 12, 13, 14, 15, 16, 17, 18, 19, 20, 29, 22, 23, 24, 0, 25, 26, 27, 28, 0, 0] i = i := by decide
theorem fixS1 : ∀ i, i < 21 → sig 32 0 0 [0, 1, 2, 3, 4, 5, 6, 7, 8, 9, 10, 11, 12, 13, 14, 15, 16, 17, 18, 19, 20, 21, 22, 32, 33, 35, 26, 27, 28, 29, 36, 34] i = i := by decide
theorem fixSF : ∀ i, i < 21 → sig 21 22 0 [0, 1, 2, 3, 4, 5, 6, 7, 8, 9, 10, 11, 12, 13, 14, 15, 16, 17, 18, 19, 20] i = i := by decide
section
variable (per : BitVec 8) (K : B8) (hK : K.length = 32)
include per K hK
theorem sS (k cap : Nat) (hk : 20 < k) :
  AC Tryz.prog 3 [.u8 per, .u8s K, .slice 0 [] 0 k (some cap)] 1 [gR] ⟨.bool true, [], []⟩ := by
 have haw := lH
 have hf := aC1 k cap hk
 refine acA tab mix Tryz.func3 {} ?_
 refine gob ?_
 refine aA hf [0] ?_
 refine aA haw [] ?_
 refine aI [0]
theorem sR (A : List ActW) (k cap : Nat) (hk : A.length = k) (hk2 : k ≤ 20) (hok : ∀ a ∈ A, a.okr) (hm : 20000 < yC A k) :
  AC Tryz.prog 3 [.u8 per, .u8s K, .slice 0 [] 0 k (some cap)] 21 (aDS A) ⟨.bool true, [], []⟩ := by
 have haw := lH
 have hf := aIk A k cap hk hk2 hok false (decide_eq_false (by omega))
 have hrA := fixG aJs A (by omega)
 have hrF := fixG fixSF A (by omega)
 clear hm hok
 refine acA tab mix Tryz.func3 {} ?_
 refine gob ?_
 refine aA hf [0, 1, 2, 3, 4, 5, 6, 7, 8, 9, 10, 11, 12, 13, 14, 15, 16, 17, 18, 19, 20] ?_ (hm := ⟨⟨_, rfl, rfl, congrArg D.node hrF.symm, id⟩, trivial⟩)
 refine aA haw [] ?_
 refine aI [0, 1, 2, 3, 4, 5, 6, 7, 8, 9, 10, 11, 12, 13, 14, 15, 16, 17, 18, 19, 20] (h3 := ?_)
 (repeat' (first | exact trivial | refine And.intro ⟨_, rfl, rfl, ?_, id⟩ ?_ | refine And.intro ⟨_, rfl, rfl, ?_, fun _ => rfl⟩ ?_)) <;> first | rfl | exact (Pure.ren _).symm | exact congrArg D.node hrA.symm
set_option maxHeartbeats 16000000 in
theorem u0 :
  AC Tryz.prog 3 [.u8 per, .u8s K, .nilslice] 0 gRBK ⟨.bool true, [], []⟩ := by
 have haw := lH
 obtain ⟨p, hp⟩ : ∃ p, p = 1 + per.toNat % 2 := ⟨_, rfl⟩
 have hp1 : 1 ≤ p := by omega
 have hp2 : p ≤ 2 := by omega
 have hmd := aGP per K hK p hp
 have y1 := cK (fH K t7) (aW _ _)
 have y2 := cK (fH K t6) (aW _ _)
 have y3 := aW K qG
 generalize bO (fH K t7) = k1 at hmd y1
 generalize bO (fH K t6) = k2 at hmd y2
 generalize fH K qG = tag at hmd y3
 have hT := aM (c := 8) (p := p) y1 y2 y3
 have hZ : (zB 16384).length = 16384 := List.length_replicate
 generalize zB 16384 = Z at hmd hZ
 clear hp
 have hf := aE6
 refine acA tab mix Tryz.func3 ⟨[], [7]⟩ ?_
 refine gob ?_
 refine aA hf [] ?_
 refine aIT hmd [] (.node [.ptr 1 [], .ptr 4 [], bU 32768 Z Z .nilslice 0, eC 8 p k1 k2 tag, .nilslice]) ?_ (hr := by simp only [D.rens, D.ren, aC]; rfl)
 refine go ?_
 refine EffG.mk (And.intro ?_ ?_)
 ·(repeat' (first | assumption | exact trivial | refine And.intro ?_ ?_)) <;> first | rfl | omega
 refine gob ?_
 refine oI 1 ?_
 refine gob ?_
 refine aA haw [] ?_
 refine aI []
set_option maxHeartbeats 16000000 in
theorem aEK (A : List ActW) (k cap : Nat) (hk : A.length = k) (hk2 : k ≤ 20) (hok : ∀ a ∈ A, a.okr) (hm : yC A k ≤ 20000) :
  AC Tryz.prog 3 [.u8 per, .u8s K, .slice 0 [] 0 k (some cap)] 21 (aDS A) ⟨.bool true, [], []⟩ := by
 have haw := lH
 obtain ⟨p, hp⟩ : ∃ p, p = 1 + per.toNat % 2 := ⟨_, rfl⟩
 have hp1 : 1 ≤ p := by omega
 have hp2 : p ≤ 2 := by omega
 have hmd := aGP per K hK p hp
 have y1 := cK (fH K t7) (aW _ _)
 have y2 := cK (fH K t6) (aW _ _)
 have y3 := aW K qG
 generalize bO (fH K t7) = k1 at hmd y1
 generalize bO (fH K t6) = k2 at hmd y2
 generalize fH K qG = tag at hmd y3
 have hT := aM (c := 8) (p := p) y1 y2 y3
 have hZ : (zB 16384).length = 16384 := List.length_replicate
 generalize zB 16384 = Z at hmd hZ
 clear hp
 have hf := aIk A k cap hk hk2 hok true (decide_eq_true (by omega))
 have hrA := fixG aJs A (by omega)
 have hrF := fixG fixSF A (by omega)
 have hr0 := fixG fixS0 A (by omega)
 have hr1 := fixG fixS1 A (by omega)
 have hlenA := kN A 1
 refine acA tab mix Tryz.func3 {} ?_
 refine gob ?_
 refine aA hf [0, 1, 2, 3, 4, 5, 6, 7, 8, 9, 10, 11, 12, 13, 14, 15, 16, 17, 18, 19, 20] ?_ (hm := ⟨⟨_, rfl, rfl, congrArg D.node hrF.symm, id⟩, trivial⟩)
 refine aIT hmd [] (.node [.ptr 22 [], .ptr 25 [], bU 32768 Z Z .nilslice 0, eC 8 p k1 k2 tag, .nilslice]) ?_ (hr := by simp only [D.rens, D.ren, aC]; rfl)
 refine go ?_
 refine EffG.mk (And.intro ?_ ?_)
 ·(repeat' (first | assumption | exact trivial | refine And.intro ?_ ?_)) <;> first | rfl | omega
 refine gob ?_
 refine aX (Nat × WSt) (fun z => [(2, .slice 0 [] 0 k (some cap)), (7, .ptr 21 []), (8, .i64 z.1)]) (fun z => plM p k1 k2 tag A z.2) 32
  (fun z => z.1 ≤ k ∧ z.2.ok z.1) (fun z => k - z.1) (0, ⟨Z, Z, 16384, 16384, none, none, [], [], 0, []⟩) [0, 1, 2, 3, 4, 5, 6, 7, 8, 9, 10, 11, 12, 13, 14, 15, 16, 17, 18, 19, 20, 29, 22, 23, 24, 0, 25, 26, 27, 28, 0, 0] ⟨Nat.zero_le _, ⟨hZ, hZ, (show (16384 : Nat) ≤ 32768 by decide), (show (16384 : Nat) ≤ 32768 by decide), (fun _ h => by simp at h), Nat.zero_le _, Nat.zero_le _, Nat.zero_le _, Nat.zero_le _, (fun _ h => by simp at h), .inl ⟨rfl, rfl⟩⟩⟩ (aK (h3 := ?_)) ?_
 ·(repeat' (first | exact trivial | refine And.intro ⟨_, rfl, rfl, ?_, id⟩ ?_ | refine And.intro ⟨_, rfl, rfl, ?_, fun _ => rfl⟩ ?_)) <;> (first | rfl | exact (Pure.ren _).symm | exact (Pure.ren _).trans (Pure.ren _).symm | (simp only [D.ren, D.rens, aL, aC]; rfl) | exact congrArg D.node hr0.symm)
 clear hr0 hrF hf hmd hZ hT
 rintro ⟨i, y⟩ hI
 obtain ⟨hi, hy⟩ := hI
 have hi : i ≤ k := hi
 have hy : y.ok i := hy
 have hdo := fun hik : i < k => do_ac p hp1 hp2 k1 k2 tag y1 y2 y3 y i (by omega) hy (A.getD i a0W) ⟨(hok _ (n9 (by omega))).x, (hok _ (n9 (by omega))).nd, (hok _ (n9 (by omega))).r, aJu hm hik⟩
 have hcls := hy.cls
 obtain ⟨S, S2, N, N2, cap1, cap2, ls, rl, st, rf⟩ := y
 clear hy
 dsimp only at hcls
 rcases hcls with ⟨rfl, rfl, rfl⟩ | ⟨rfl, rfl, r0, rs, rfl⟩ | ⟨l0, ls, q0, rl, r0, rs, rfl, rfl, rfl⟩
 ·refine go ?_
  refine Br.split (fun hh => ?_) (fun hh => ?_)
  ·have hik : i < k := by have := of_decide_eq_true hh; omega
   obtain ⟨y', hy', hdo⟩ := hdo hik
   have hcs : i = 0 ∨ i = 1 ∨ i = 2 ∨ i = 3 ∨ i = 4 ∨ i = 5 ∨ i = 6 ∨ i = 7 ∨ i = 8 ∨ i = 9 ∨ i = 10 ∨ i = 11 ∨ i = 12 ∨ i = 13 ∨ i = 14 ∨ i = 15 ∨ i = 16 ∨ i = 17 ∨ i = 18 ∨ i = 19 := by omega
   have hget : get (plM p k1 k2 tag A ⟨S, S2, N, N2, cap1, cap2, [], [], st, []⟩) (1 + i) = some ⟨.row .cell, .u8s (A.getD i a0W).bs, false⟩ := by
    rcases hcs with rfl | rfl | rfl | rfl | rfl | rfl | rfl | rfl | rfl | rfl | rfl | rfl | rfl | rfl | rfl | rfl | rfl | rfl | rfl | rfl <;> rfl
   have hn := iN A 1 i (by omega)
   have hn' : qS (eP 1 A) (0 + ((i : Nat) : Int).toNat) = cT (1 + i) (A.getD i a0W) := by rw [Nat.zero_add]; exact hn
   clear hn hh
   iterate 3 (first | refine go1 ?_)
   refine aCU (cT (1 + i) (A.getD i a0W)) rfl rfl rfl rfl rfl (by show c8 (qS (eP 1 A) (0 + ((i : Nat) : Int).toNat)) [] = _; rw [hn']; rfl) ⟨(by show 0 + ((i : Nat) : Int).toNat < (eP 1 A).length; rw [hlenA, Nat.zero_add]; show i < A.length; omega), trivial⟩ ?_
   clear hn'
   have hcl2 := hy'.cls
   obtain ⟨T, T2, M, M2, dap1, dap2, ms, sl, su, sf⟩ := y'
   have hs' : T.length = M := hy'.s
   have hm' : M ≤ 32768 := hy'.n
   dsimp only at hcl2
   have hne : (!decide (List.take M (List.drop 0 T) = T)) = false := by rw [List.drop_zero, List.take_of_length_le (by omega), decide_eq_true rfl]; rfl
   rcases hcl2 with ⟨rfl, rfl, rfl⟩ | ⟨rfl, rfl, f0, fs, rfl⟩ | ⟨m0, ms, s0, sl, f0, fs, rfl, rfl, rfl⟩
   ·have hby := eJ 32768 M dap1 M2 dap2 [] su T hs' (by omega)
    refine bK hdo [21, 22, 23, 24, 25, 26, 27, 28, 29, 30, 31, 1 + i] ?_ (hargs := by simp only [D.rens, D.ren, aL, e9]; rfl) (hm := by (repeat' (first | exact trivial | refine And.intro ⟨_, hget, rfl, rfl, fun h => nomatch h⟩ ?_ | refine And.intro ⟨_, rfl, rfl, ?_, id⟩ ?_ | refine And.intro ⟨_, rfl, rfl, ?_, fun _ => rfl⟩ ?_)) <;> (first | rfl | exact (Pure.ren _).symm | (simp only [D.ren, D.rens, aL, aC]; rfl))) (hn := by rcases hcs with rfl | rfl | rfl | rfl | rfl | rfl | rfl | rfl | rfl | rfl | rfl | rfl | rfl | rfl | rfl | rfl | rfl | rfl | rfl | rfl <;> rfl)
    repeat first | refine EffG.mk (obA ?_) | refine obA ?_ | refine Br.no rfl ?_ | refine Br.yes rfl ?_
    refine bK hby [22, 32, 33, 33] ?_
    repeat first | refine EffG.mk (obA ?_) | refine obA ?_ | refine Br.no hne ?_ | refine Br.no rfl ?_ | refine Br.yes rfl ?_ | refine lG (by first | kernel_rfl | (rcases hcs with rfl | rfl | rfl | rfl | rfl | rfl | rfl | rfl | rfl | rfl | rfl | rfl | rfl | rfl | rfl | rfl | rfl | rfl | rfl | rfl <;> kernel_rfl)) ?_
    refine bB (i + 1, ⟨T, T2, M, M2, dap1, dap2, [], [], su, []⟩) [0, 1, 2, 3, 4, 5, 6, 7, 8, 9, 10, 11, 12, 13, 14, 15, 16, 17, 18, 19, 20, 21, 22, 32, 33, 35, 26, 27, 28, 29, 36, 34] (aK (h3 := ?_)) (h1 := ⟨hik, hy'⟩) (h2 := by show k - (i + 1) < k - i; omega)
    (repeat' (first | exact trivial | refine And.intro ⟨_, rfl, rfl, ?_, id⟩ ?_ | refine And.intro ⟨_, rfl, rfl, ?_, fun _ => rfl⟩ ?_)) <;> (first | rfl | exact (Pure.ren _).symm | exact (Pure.ren _).trans (Pure.ren _).symm | (simp only [D.ren, D.rens, aL, aC]; rfl) | exact congrArg D.node hr1.symm)
   ·have hby := eJ 32768 M dap1 M2 dap2 [] su T hs' (by omega)
    refine bK hdo [21, 22, 23, 24, 25, 26, 27, 28, 29, 30, 31, 1 + i] ?_ (hargs := by simp only [D.rens, D.ren, aL, e9]; rfl) (hm := by (repeat' (first | exact trivial | refine And.intro ⟨_, hget, rfl, rfl, fun h => nomatch h⟩ ?_ | refine And.intro ⟨_, rfl, rfl, ?_, id⟩ ?_ | refine And.intro ⟨_, rfl, rfl, ?_, fun _ => rfl⟩ ?_)) <;> (first | rfl | exact (Pure.ren _).symm | (simp only [D.ren, D.rens, aL, aC]; rfl))) (hn := by rcases hcs with rfl | rfl | rfl | rfl | rfl | rfl | rfl | rfl | rfl | rfl | rfl | rfl | rfl | rfl | rfl | rfl | rfl | rfl | rfl | rfl <;> rfl)
    repeat first | refine EffG.mk (obA ?_) | refine obA ?_ | refine Br.no rfl ?_ | refine Br.yes rfl ?_
    refine bK hby [22, 32, 33, 33] ?_
    repeat first | refine EffG.mk (obA ?_) | refine obA ?_ | refine Br.no hne ?_ | refine Br.no rfl ?_ | refine Br.yes rfl ?_ | refine lG (by first | kernel_rfl | (rcases hcs with rfl | rfl | rfl | rfl | rfl | rfl | rfl | rfl | rfl | rfl | rfl | rfl | rfl | rfl | rfl | rfl | rfl | rfl | rfl | rfl <;> kernel_rfl)) ?_
    refine bB (i + 1, ⟨T, T2, M, M2, dap1, dap2, [], [], su, (f0 :: fs)⟩) [0, 1, 2, 3, 4, 5, 6, 7, 8, 9, 10, 11, 12, 13, 14, 15, 16, 17, 18, 19, 20, 21, 22, 32, 33, 35, 26, 27, 28, 29, 36, 34] (aK (h3 := ?_)) (h1 := ⟨hik, hy'⟩) (h2 := by show k - (i + 1) < k - i; omega)
    (repeat' (first | exact trivial | refine And.intro ⟨_, rfl, rfl, ?_, id⟩ ?_ | refine And.intro ⟨_, rfl, rfl, ?_, fun _ => rfl⟩ ?_)) <;> (first | rfl | exact (Pure.ren _).symm | exact (Pure.ren _).trans (Pure.ren _).symm | (simp only [D.ren, D.rens, aL, aC]; rfl) | exact congrArg D.node hr1.symm)
   ·have hby := eJ 32768 M dap1 M2 dap2 (m0 :: ms) su T hs' (by omega)
    refine bK hdo [21, 22, 23, 24, 25, 26, 27, 28, 29, 30, 31, 1 + i] ?_ (hargs := by simp only [D.rens, D.ren, aL, e9]; rfl) (hm := by (repeat' (first | exact trivial | refine And.intro ⟨_, hget, rfl, rfl, fun h => nomatch h⟩ ?_ | refine And.intro ⟨_, rfl, rfl, ?_, id⟩ ?_ | refine And.intro ⟨_, rfl, rfl, ?_, fun _ => rfl⟩ ?_)) <;> (first | rfl | exact (Pure.ren _).symm | (simp only [D.ren, D.rens, aL, aC]; rfl))) (hn := by rcases hcs with rfl | rfl | rfl | rfl | rfl | rfl | rfl | rfl | rfl | rfl | rfl | rfl | rfl | rfl | rfl | rfl | rfl | rfl | rfl | rfl <;> rfl)
    repeat first | refine EffG.mk (obA ?_) | refine obA ?_ | refine Br.no rfl ?_ | refine Br.yes rfl ?_
    refine bK hby [22, 32, 33, 35] ?_
    repeat first | refine EffG.mk (obA ?_) | refine obA ?_ | refine Br.no hne ?_ | refine Br.no rfl ?_ | refine Br.yes rfl ?_ | refine lG (by first | kernel_rfl | (rcases hcs with rfl | rfl | rfl | rfl | rfl | rfl | rfl | rfl | rfl | rfl | rfl | rfl | rfl | rfl | rfl | rfl | rfl | rfl | rfl | rfl <;> kernel_rfl)) ?_
    refine bB (i + 1, ⟨T, T2, M, M2, dap1, dap2, (m0 :: ms), (s0 :: sl), su, (f0 :: fs)⟩) [0, 1, 2, 3, 4, 5, 6, 7, 8, 9, 10, 11, 12, 13, 14, 15, 16, 17, 18, 19, 20, 21, 22, 32, 33, 35, 26, 27, 28, 29, 36, 34] (aK (h3 := ?_)) (h1 := ⟨hik, hy'⟩) (h2 := by show k - (i + 1) < k - i; omega)
    (repeat' (first | exact trivial | refine And.intro ⟨_, rfl, rfl, ?_, id⟩ ?_ | refine And.intro ⟨_, rfl, rfl, ?_, fun _ => rfl⟩ ?_)) <;> (first | rfl | exact (Pure.ren _).symm | exact (Pure.ren _).trans (Pure.ren _).symm | (simp only [D.ren, D.rens, aL, aC]; rfl) | exact congrArg D.node hr1.symm)
  ·obtain rfl : i = k := by have := of_decide_eq_false hh; omega
   clear hh hdo
   refine gob ?_
   refine aA haw [] ?_
   refine aI [0, 1, 2, 3, 4, 5, 6, 7, 8, 9, 10, 11, 12, 13, 14, 15, 16, 17, 18, 19, 20] (h3 := ?_)
   (repeat' (first | exact trivial | refine And.intro ⟨_, rfl, rfl, ?_, id⟩ ?_ | refine And.intro ⟨_, rfl, rfl, ?_, fun _ => rfl⟩ ?_)) <;> (first | rfl | exact (Pure.ren _).symm | exact (Pure.ren _).trans (Pure.ren _).symm | (simp only [D.ren, D.rens, aL, aC]; rfl) | exact congrArg D.node hrA.symm)
 ·refine go ?_
  refine Br.split (fun hh => ?_) (fun hh => ?_)
  ·have hik : i < k := by have := of_decide_eq_true hh; omega
   obtain ⟨y', hy', hdo⟩ := hdo hik
   have hcs : i = 0 ∨ i = 1 ∨ i = 2 ∨ i = 3 ∨ i = 4 ∨ i = 5 ∨ i = 6 ∨ i = 7 ∨ i = 8 ∨ i = 9 ∨ i = 10 ∨ i = 11 ∨ i = 12 ∨ i = 13 ∨ i = 14 ∨ i = 15 ∨ i = 16 ∨ i = 17 ∨ i = 18 ∨ i = 19 := by omega
   have hget : get (plM p k1 k2 tag A ⟨S, S2, N, N2, cap1, cap2, [], [], st, r0 :: rs⟩) (1 + i) = some ⟨.row .cell, .u8s (A.getD i a0W).bs, false⟩ := by
    rcases hcs with rfl | rfl | rfl | rfl | rfl | rfl | rfl | rfl | rfl | rfl | rfl | rfl | rfl | rfl | rfl | rfl | rfl | rfl | rfl | rfl <;> rfl
   have hn := iN A 1 i (by omega)
   have hn' : qS (eP 1 A) (0 + ((i : Nat) : Int).toNat) = cT (1 + i) (A.getD i a0W) := by rw [Nat.zero_add]; exact hn
   clear hn hh
   iterate 3 (first | refine go1 ?_)
   refine aCU (cT (1 + i) (A.getD i a0W)) rfl rfl rfl rfl rfl (by show c8 (qS (eP 1 A) (0 + ((i : Nat) : Int).toNat)) [] = _; rw [hn']; rfl) ⟨(by show 0 + ((i : Nat) : Int).toNat < (eP 1 A).length; rw [hlenA, Nat.zero_add]; show i < A.length; omega), trivial⟩ ?_
   clear hn'
   have hcl2 := hy'.cls
   obtain ⟨T, T2, M, M2, dap1, dap2, ms, sl, su, sf⟩ := y'
   have hs' : T.length = M := hy'.s
   have hm' : M ≤ 32768 := hy'.n
   dsimp only at hcl2
   have hne : (!decide (List.take M (List.drop 0 T) = T)) = false := by rw [List.drop_zero, List.take_of_length_le (by omega), decide_eq_true rfl]; rfl
   rcases hcl2 with ⟨rfl, rfl, rfl⟩ | ⟨rfl, rfl, f0, fs, rfl⟩ | ⟨m0, ms, s0, sl, f0, fs, rfl, rfl, rfl⟩
   ·have hby := eJ 32768 M dap1 M2 dap2 [] su T hs' (by omega)
    refine bK hdo [21, 22, 23, 24, 25, 26, 27, 28, 29, 30, 31, 1 + i] ?_ (hargs := by simp only [D.rens, D.ren, aL, e9]; rfl) (hm := by (repeat' (first | exact trivial | refine And.intro ⟨_, hget, rfl, rfl, fun h => nomatch h⟩ ?_ | refine And.intro ⟨_, rfl, rfl, ?_, id⟩ ?_ | refine And.intro ⟨_, rfl, rfl, ?_, fun _ => rfl⟩ ?_)) <;> (first | rfl | exact (Pure.ren _).symm | (simp only [D.ren, D.rens, aL, aC]; rfl))) (hn := by rcases hcs with rfl | rfl | rfl | rfl | rfl | rfl | rfl | rfl | rfl | rfl | rfl | rfl | rfl | rfl | rfl | rfl | rfl | rfl | rfl | rfl <;> rfl)
    repeat first | refine EffG.mk (obA ?_) | refine obA ?_ | refine Br.no rfl ?_ | refine Br.yes rfl ?_
    refine bK hby [22, 32, 33, 33] ?_
    repeat first | refine EffG.mk (obA ?_) | refine obA ?_ | refine Br.no hne ?_ | refine Br.no rfl ?_ | refine Br.yes rfl ?_ | refine lG (by first | kernel_rfl | (rcases hcs with rfl | rfl | rfl | rfl | rfl | rfl | rfl | rfl | rfl | rfl | rfl | rfl | rfl | rfl | rfl | rfl | rfl | rfl | rfl | rfl <;> kernel_rfl)) ?_
    refine bB (i + 1, ⟨T, T2, M, M2, dap1, dap2, [], [], su, []⟩) [0, 1, 2, 3, 4, 5, 6, 7, 8, 9, 10, 11, 12, 13, 14, 15, 16, 17, 18, 19, 20, 21, 22, 32, 33, 35, 26, 27, 28, 29, 36, 34] (aK (h3 := ?_)) (h1 := ⟨hik, hy'⟩) (h2 := by show k - (i + 1) < k - i; omega)
    (repeat' (first | exact trivial | refine And.intro ⟨_, rfl, rfl, ?_, id⟩ ?_ | refine And.intro ⟨_, rfl, rfl, ?_, fun _ => rfl⟩ ?_)) <;> (first | rfl | exact (Pure.ren _).symm | exact (Pure.ren _).trans (Pure.ren _).symm | (simp only [D.ren, D.rens, aL, aC]; rfl) | exact congrArg D.node hr1.symm)
   ·have hby := eJ 32768 M dap1 M2 dap2 [] su T hs' (by omega)
    refine bK hdo [21, 22, 23, 24, 25, 26, 27, 28, 29, 30, 31, 1 + i] ?_ (hargs := by simp only [D.rens, D.ren, aL, e9]; rfl) (hm := by (repeat' (first | exact trivial | refine And.intro ⟨_, hget, rfl, rfl, fun h => nomatch h⟩ ?_ | refine And.intro ⟨_, rfl, rfl, ?_, id⟩ ?_ | refine And.intro ⟨_, rfl, rfl, ?_, fun _ => rfl⟩ ?_)) <;> (first | rfl | exact (Pure.ren _).symm | (simp only [D.ren, D.rens, aL, aC]; rfl))) (hn := by rcases hcs with rfl | rfl | rfl | rfl | rfl | rfl | rfl | rfl | rfl | rfl | rfl | rfl | rfl | rfl | rfl | rfl | rfl | rfl | rfl | rfl <;> rfl)
    repeat first | refine EffG.mk (obA ?_) | refine obA ?_ | refine Br.no rfl ?_ | refine Br.yes rfl ?_
    refine bK hby [22, 32, 33, 33] ?_
    repeat first | refine EffG.mk (obA ?_) | refine obA ?_ | refine Br.no hne ?_ | refine Br.no rfl ?_ | refine Br.yes rfl ?_ | refine lG (by first | kernel_rfl | (rcases hcs with rfl | rfl | rfl | rfl | rfl | rfl | rfl | rfl | rfl | rfl | rfl | rfl | rfl | rfl | rfl | rfl | rfl | rfl | rfl | rfl <;> kernel_rfl)) ?_
    refine bB (i + 1, ⟨T, T2, M, M2, dap1, dap2, [], [], su, (f0 :: fs)⟩) [0, 1, 2, 3, 4, 5, 6, 7, 8, 9, 10, 11, 12, 13, 14, 15, 16, 17, 18, 19, 20, 21, 22, 32, 33, 35, 26, 27, 28, 29, 36, 34] (aK (h3 := ?_)) (h1 := ⟨hik, hy'⟩) (h2 := by show k - (i + 1) < k - i; omega)
    (repeat' (first | exact trivial | refine And.intro ⟨_, rfl, rfl, ?_, id⟩ ?_ | refine And.intro ⟨_, rfl, rfl, ?_, fun _ => rfl⟩ ?_)) <;> (first | rfl | exact (Pure.ren _).symm | exact (Pure.ren _).trans (Pure.ren _).symm | (simp only [D.ren, D.rens, aL, aC]; rfl) | exact congrArg D.node hr1.symm)
   ·have hby := eJ 32768 M dap1 M2 dap2 (m0 :: ms) su T hs' (by omega)
    refine bK hdo [21, 22, 23, 24, 25, 26, 27, 28, 29, 30, 31, 1 + i] ?_ (hargs := by simp only [D.rens, D.ren, aL, e9]; rfl) (hm := by (repeat' (first | exact trivial | refine And.intro ⟨_, hget, rfl, rfl, fun h => nomatch h⟩ ?_ | refine And.intro ⟨_, rfl, rfl, ?_, id⟩ ?_ | refine And.intro ⟨_, rfl, rfl, ?_, fun _ => rfl⟩ ?_)) <;> (first | rfl | exact (Pure.ren _).symm | (simp only [D.ren, D.rens, aL, aC]; rfl))) (hn := by rcases hcs with rfl | rfl | rfl | rfl | rfl | rfl | rfl | rfl | rfl | rfl | rfl | rfl | rfl | rfl | rfl | rfl | rfl | rfl | rfl | rfl <;> rfl)
    repeat first | refine EffG.mk (obA ?_) | refine obA ?_ | refine Br.no rfl ?_ | refine Br.yes rfl ?_
    refine bK hby [22, 32, 33, 35] ?_
    repeat first | refine EffG.mk (obA ?_) | refine obA ?_ | refine Br.no hne ?_ | refine Br.no rfl ?_ | refine Br.yes rfl ?_ | refine lG (by first | kernel_rfl | (rcases hcs with rfl | rfl | rfl | rfl | rfl | rfl | rfl | rfl | rfl | rfl | rfl | rfl | rfl | rfl | rfl | rfl | rfl | rfl | rfl | rfl <;> kernel_rfl)) ?_
    refine bB (i + 1, ⟨T, T2, M, M2, dap1, dap2, (m0 :: ms), (s0 :: sl), su, (f0 :: fs)⟩) [0, 1, 2, 3, 4, 5, 6, 7, 8, 9, 10, 11, 12, 13, 14, 15, 16, 17, 18, 19, 20, 21, 22, 32, 33, 35, 26, 27, 28, 29, 36, 34] (aK (h3 := ?_)) (h1 := ⟨hik, hy'⟩) (h2 := by show k - (i + 1) < k - i; omega)
    (repeat' (first | exact trivial | refine And.intro ⟨_, rfl, rfl, ?_, id⟩ ?_ | refine And.intro ⟨_, rfl, rfl, ?_, fun _ => rfl⟩ ?_)) <;> (first | rfl | exact (Pure.ren _).symm | exact (Pure.ren _).trans (Pure.ren _).symm | (simp only [D.ren, D.rens, aL, aC]; rfl) | exact congrArg D.node hr1.symm)
  ·obtain rfl : i = k := by have := of_decide_eq_false hh; omega
   clear hh hdo
   refine gob ?_
   refine aA haw [] ?_
   refine aI [0, 1, 2, 3, 4, 5, 6, 7, 8, 9, 10, 11, 12, 13, 14, 15, 16, 17, 18, 19, 20] (h3 := ?_)
   (repeat' (first | exact trivial | refine And.intro ⟨_, rfl, rfl, ?_, id⟩ ?_ | refine And.intro ⟨_, rfl, rfl, ?_, fun _ => rfl⟩ ?_)) <;> (first | rfl | exact (Pure.ren _).symm | exact (Pure.ren _).trans (Pure.ren _).symm | (simp only [D.ren, D.rens, aL, aC]; rfl) | exact congrArg D.node hrA.symm)
 ·refine go ?_
  refine Br.split (fun hh => ?_) (fun hh => ?_)
  ·have hik : i < k := by have := of_decide_eq_true hh; omega
   obtain ⟨y', hy', hdo⟩ := hdo hik
   have hcs : i = 0 ∨ i = 1 ∨ i = 2 ∨ i = 3 ∨ i = 4 ∨ i = 5 ∨ i = 6 ∨ i = 7 ∨ i = 8 ∨ i = 9 ∨ i = 10 ∨ i = 11 ∨ i = 12 ∨ i = 13 ∨ i = 14 ∨ i = 15 ∨ i = 16 ∨ i = 17 ∨ i = 18 ∨ i = 19 := by omega
   have hget : get (plM p k1 k2 tag A ⟨S, S2, N, N2, cap1, cap2, l0 :: ls, q0 :: rl, st, r0 :: rs⟩) (1 + i) = some ⟨.row .cell, .u8s (A.getD i a0W).bs, false⟩ := by
    rcases hcs with rfl | rfl | rfl | rfl | rfl | rfl | rfl | rfl | rfl | rfl | rfl | rfl | rfl | rfl | rfl | rfl | rfl | rfl | rfl | rfl <;> rfl
   have hn := iN A 1 i (by omega)
   have hn' : qS (eP 1 A) (0 + ((i : Nat) : Int).toNat) = cT (1 + i) (A.getD i a0W) := by rw [Nat.zero_add]; exact hn
   clear hn hh
   iterate 3 (first | refine go1 ?_)
   refine aCU (cT (1 + i) (A.getD i a0W)) rfl rfl rfl rfl rfl (by show c8 (qS (eP 1 A) (0 + ((i : Nat) : Int).toNat)) [] = _; rw [hn']; rfl) ⟨(by show 0 + ((i : Nat) : Int).toNat < (eP 1 A).length; rw [hlenA, Nat.zero_add]; show i < A.length; omega), trivial⟩ ?_
   clear hn'
   have hcl2 := hy'.cls
   obtain ⟨T, T2, M, M2, dap1, dap2, ms, sl, su, sf⟩ := y'
   have hs' : T.length = M := hy'.s
   have hm' : M ≤ 32768 := hy'.n
   dsimp only at hcl2
   have hne : (!decide (List.take M (List.drop 0 T) = T)) = false := by rw [List.drop_zero, List.take_of_length_le (by omega), decide_eq_true rfl]; rfl
   rcases hcl2 with ⟨rfl, rfl, rfl⟩ | ⟨rfl, rfl, f0, fs, rfl⟩ | ⟨m0, ms, s0, sl, f0, fs, rfl, rfl, rfl⟩
   ·have hby := eJ 32768 M dap1 M2 dap2 [] su T hs' (by omega)
    refine bK hdo [21, 22, 23, 24, 25, 26, 27, 28, 29, 30, 31, 1 + i] ?_ (hargs := by simp only [D.rens, D.ren, aL, e9]; rfl) (hm := by (repeat' (first | exact trivial | refine And.intro ⟨_, hget, rfl, rfl, fun h => nomatch h⟩ ?_ | refine And.intro ⟨_, rfl, rfl, ?_, id⟩ ?_ | refine And.intro ⟨_, rfl, rfl, ?_, fun _ => rfl⟩ ?_)) <;> (first | rfl | exact (Pure.ren _).symm | (simp only [D.ren, D.rens, aL, aC]; rfl))) (hn := by rcases hcs with rfl | rfl | rfl | rfl | rfl | rfl | rfl | rfl | rfl | rfl | rfl | rfl | rfl | rfl | rfl | rfl | rfl | rfl | rfl | rfl <;> rfl)
    repeat first | refine EffG.mk (obA ?_) | refine obA ?_ | refine Br.no rfl ?_ | refine Br.yes rfl ?_
    refine bK hby [22, 32, 33, 33] ?_
    repeat first | refine EffG.mk (obA ?_) | refine obA ?_ | refine Br.no hne ?_ | refine Br.no rfl ?_ | refine Br.yes rfl ?_ | refine lG (by first | kernel_rfl | (rcases hcs with rfl | rfl | rfl | rfl | rfl | rfl | rfl | rfl | rfl | rfl | rfl | rfl | rfl | rfl | rfl | rfl | rfl | rfl | rfl | rfl <;> kernel_rfl)) ?_
    refine bB (i + 1, ⟨T, T2, M, M2, dap1, dap2, [], [], su, []⟩) [0, 1, 2, 3, 4, 5, 6, 7, 8, 9, 10, 11, 12, 13, 14, 15, 16, 17, 18, 19, 20, 21, 22, 32, 33, 35, 26, 27, 28, 29, 36, 34] (aK (h3 := ?_)) (h1 := ⟨hik, hy'⟩) (h2 := by show k - (i + 1) < k - i; omega)
    (repeat' (first | exact trivial | refine And.intro ⟨_, rfl, rfl, ?_, id⟩ ?_ | refine And.intro ⟨_, rfl, rfl, ?_, fun _ => rfl⟩ ?_)) <;> (first | rfl | exact (Pure.ren _).symm | exact (Pure.ren _).trans (Pure.ren _).symm | (simp only [D.ren, D.rens, aL, aC]; rfl) | exact congrArg D.node hr1.symm)
   ·have hby := eJ 32768 M dap1 M2 dap2 [] su T hs' (by omega)
    refine bK hdo [21, 22, 23, 24, 25, 26, 27, 28, 29, 30, 31, 1 + i] ?_ (hargs := by simp only [D.rens, D.ren, aL, e9]; rfl) (hm := by (repeat' (first | exact trivial | refine And.intro ⟨_, hget, rfl, rfl, fun h => nomatch h⟩ ?_ | refine And.intro ⟨_, rfl, rfl, ?_, id⟩ ?_ | refine And.intro ⟨_, rfl, rfl, ?_, fun _ => rfl⟩ ?_)) <;> (first | rfl | exact (Pure.ren _).symm | (simp only [D.ren, D.rens, aL, aC]; rfl))) (hn := by rcases hcs with rfl | rfl | rfl | rfl | rfl | rfl | rfl | rfl | rfl | rfl | rfl | rfl | rfl | rfl | rfl | rfl | rfl | rfl | rfl | rfl <;> rfl)
    repeat first | refine EffG.mk (obA ?_) | refine obA ?_ | refine Br.no rfl ?_ | refine Br.yes rfl ?_
    refine bK hby [22, 32, 33, 33] ?_
    repeat first | refine EffG.mk (obA ?_) | refine obA ?_ | refine Br.no hne ?_ | refine Br.no rfl ?_ | refine Br.yes rfl ?_ | refine lG (by first | kernel_rfl | (rcases hcs with rfl | rfl | rfl | rfl | rfl | rfl | rfl | rfl | rfl | rfl | rfl | rfl | rfl | rfl | rfl | rfl | rfl | rfl | rfl | rfl <;> kernel_rfl)) ?_
    refine bB (i + 1, ⟨T, T2, M, M2, dap1, dap2, [], [], su, (f0 :: fs)⟩) [0, 1, 2, 3, 4, 5, 6, 7, 8, 9, 10, 11, 12, 13, 14, 15, 16, 17, 18, 19, 20, 21, 22, 32, 33, 35, 26, 27, 28, 29, 36, 34] (aK (h3 := ?_)) (h1 := ⟨hik, hy'⟩) (h2 := by show k - (i + 1) < k - i; omega)
    (repeat' (first | exact trivial | refine And.intro ⟨_, rfl, rfl, ?_, id⟩ ?_ | refine And.intro ⟨_, rfl, rfl, ?_, fun _ => rfl⟩ ?_)) <;> (first | rfl | exact (Pure.ren _).symm | exact (Pure.ren _).trans (Pure.ren _).symm | (simp only [D.ren, D.rens, aL, aC]; rfl) | exact congrArg D.node hr1.symm)
   ·have hby := eJ 32768 M dap1 M2 dap2 (m0 :: ms) su T hs' (by omega)
    refine bK hdo [21, 22, 23, 24, 25, 26, 27, 28, 29, 30, 31, 1 + i] ?_ (hargs := by simp only [D.rens, D.ren, aL, e9]; rfl) (hm := by (repeat' (first | exact trivial | refine And.intro ⟨_, hget, rfl, rfl, fun h => nomatch h⟩ ?_ | refine And.intro ⟨_, rfl, rfl, ?_, id⟩ ?_ | refine And.intro ⟨_, rfl, rfl, ?_, fun _ => rfl⟩ ?_)) <;> (first | rfl | exact (Pure.ren _).symm | (simp only [D.ren, D.rens, aL, aC]; rfl))) (hn := by rcases hcs with rfl | rfl | rfl | rfl | rfl | rfl | rfl | rfl | rfl | rfl | rfl | rfl | rfl | rfl | rfl | rfl | rfl | rfl | rfl | rfl <;> rfl)
    repeat first | refine EffG.mk (obA ?_) | refine obA ?_ | refine Br.no rfl ?_ | refine Br.yes rfl ?_
    refine bK hby [22, 32, 33, 35] ?_
    repeat first | refine EffG.mk (obA ?_) | refine obA ?_ | refine Br.no hne ?_ | refine Br.no rfl ?_ | refine Br.yes rfl ?_ | refine lG (by first | kernel_rfl | (rcases hcs with rfl | rfl | rfl | rfl | rfl | rfl | rfl | rfl | rfl | rfl | rfl | rfl | rfl | rfl | rfl | rfl | rfl | rfl | rfl | rfl <;> kernel_rfl)) ?_
    refine bB (i + 1, ⟨T, T2, M, M2, dap1, dap2, (m0 :: ms), (s0 :: sl), su, (f0 :: fs)⟩) [0, 1, 2, 3, 4, 5, 6, 7, 8, 9, 10, 11, 12, 13, 14, 15, 16, 17, 18, 19, 20, 21, 22, 32, 33, 35, 26, 27, 28, 29, 36, 34] (aK (h3 := ?_)) (h1 := ⟨hik, hy'⟩) (h2 := by show k - (i + 1) < k - i; omega)
    (repeat' (first | exact trivial | refine And.intro ⟨_, rfl, rfl, ?_, id⟩ ?_ | refine And.intro ⟨_, rfl, rfl, ?_, fun _ => rfl⟩ ?_)) <;> (first | rfl | exact (Pure.ren _).symm | exact (Pure.ren _).trans (Pure.ren _).symm | (simp only [D.ren, D.rens, aL, aC]; rfl) | exact congrArg D.node hr1.symm)
  ·obtain rfl : i = k := by have := of_decide_eq_false hh; omega
   clear hh hdo
   refine gob ?_
   refine aA haw [] ?_
   refine aI [0, 1, 2, 3, 4, 5, 6, 7, 8, 9, 10, 11, 12, 13, 14, 15, 16, 17, 18, 19, 20] (h3 := ?_)
   (repeat' (first | exact trivial | refine And.intro ⟨_, rfl, rfl, ?_, id⟩ ?_ | refine And.intro ⟨_, rfl, rfl, ?_, fun _ => rfl⟩ ?_)) <;> (first | rfl | exact (Pure.ren _).symm | exact (Pure.ren _).trans (Pure.ren _).symm | (simp only [D.ren, D.rens, aL, aC]; rfl) | exact congrArg D.node hrA.symm)
end
end Go.Proofs.YtodkhgofmgaafaaGreatDoor.Av
namespace Go.Proofs.YtodkhgofmgaafaaGreatDoor.Av
open Go Go.ChangeShapes Go.WideShapes
set_option linter.all false
set_option maxRecDepth 3000
theorem aJG {P : Program} {W : World} {name : String} {g t e n : Nat} (hg : P.globalNamed name = some g) (hty : (P.globals[g]?).map (·.type) = some t) (ht : P.underlying t = some (.array n e)) (he : P.underlying e = some (.int .u8))
  (hc : P.cellsOf e = 1) (hs : P.cellsOf t = n) {l : B8} (hl : l.length = n) (h : Lib.VarReads P W name (.agg (l.map fun b => .lit (.int .u8 b.toNat)))) :
  SatE (fun _ => none) ⟨.arr n .cell, .u8s l, false⟩ ⟨g, 0, n, .arr n .cell⟩ W := by
 obtain ⟨g', t', cs, fuel, p, q1, q2, q3, q4⟩ := h
 obtain rfl := Option.some.inj (hg.symm.trans q1)
 obtain rfl := Option.some.inj (hty.symm.trans q2)
 have hcs : cs.toList = (l.map fun b => (b.toNat : Int)).map fun z => Value.int .u8 z := by
  have q5 : DataW.trod (fun _ => ()) P W 0 (fun _ => true) false fuel t cs.toList = some (Lib.tabData .u8 (l.map fun b => (b.toNat : Int)), p) := by
   rw [q4]; unfold Lib.tabData; rw [List.map_map]; rfl
  exact Lib.cells_of_tab ht he hc hs q5
 simp only [World.var?, hg, Option.bind_some] at q3
 split at q3 <;> try contradiction
 rename_i C T fr hC
 cases q3
 have hlen : cs.size = n := by
  have := congrArg List.length hcs
  simpa [hl] using this
 refine ⟨rfl, ?_, hl, cs, T, fr, [], cs.toList, [], hC, by simp, rfl, hlen, ?_, fun h => by cases h⟩
 ·exact trivial
 ·rw [hcs, List.map_map]
  show All2 _ (l.map D.u8) _
  have : ∀ l : B8, All2 (RepS (fun _ => none)) (l.map D.u8) (l.map ((fun z => Value.int .u8 z) ∘ fun b => (b.toNat : Int))) := by
   intro l
   induction l with
   |nil => trivial
   |cons a r ih => exact ⟨rfl, ih⟩
  exact this l
theorem aAK {ρ : Env} {n : Int} (h : (Lit.int .u8 n).wf = true) : Rep ρ (.u8 (BitVec.ofNat 8 n.toNat)) (.int .u8 n) := by
 simp only [Lit.wf, Bool.and_eq_true, decide_eq_true_eq] at h
 have h1 : (0 : Int) ≤ n := h.1
 have h2 : n < 256 := by
  have := h.2
  have e : IntKind.u8.max = 255 := by decide
  omega
 show Value.int _ _ = .int _ _
 congr 1
 simp; omega
theorem kC {W W' : World} (ho : W'.os = W.os) (hp : W'.output = W.output) (hs : ∀ b, b < W.heap.size → W'.heap[b]? = W.heap[b]?) (may : MemPlace → Prop) : W.keptBut W' may := by
 refine ⟨ho, hp, fun i hi => ?_⟩
 rw [hs i hi]
 split
 ·rename_i h1 h2
  rw [h1] at h2; cases h2
  exact ⟨rfl, rfl, rfl, fun _ _ => rfl⟩
 ·rename_i h1 h2
  rw [h1] at h2; cases h2
  exact .inr ⟨rfl, rfl⟩
 ·rfl
section
variable {H : Type} {enc : TypeId × Value → H} {P : Program}
theorem sZ {α β : Type} {f g : α → Option (β × List MemPlace)} : ∀ {l : List α} {r : List (β × List MemPlace)}, l.mapM f = some r → (∀ x y, x ∈ l → f x = some y → y.2 = [] ∧ g x = some y) → l.mapM g = some r ∧ r.flatMap (·.2) = []
 |[], r, h, _ => by
  simp at h; subst h; exact ⟨rfl, rfl⟩
 |a :: l, r, h, hfg => by
  rw [List.mapM_cons] at h ⊢
  simp only [bind, Option.bind_eq_some_iff, pure, Option.some.injEq] at h
  obtain ⟨y, hy, ys, hys, rfl⟩ := h
  obtain ⟨h1, h2⟩ := hfg a y (by simp) hy
  obtain ⟨h3, h4⟩ := sZ hys (fun x y hx => hfg x y (List.mem_cons_of_mem _ hx))
  rw [h2, h3]
  exact ⟨rfl, by rw [List.flatMap_cons, h1, h4]; rfl⟩
theorem aHd {t e : TypeId} {n : Nat} (ht : P.underlying t = some (.array n e)) (he : P.underlying e = some (.int .u8)) (hc : P.cellsOf e = 1) (hs : P.cellsOf t = n) {r : Reach} {b0 base : Nat} {W : World} {v : Value} {d : DataW H} {ps : List MemPlace}
  {sp : Nat → Bool} {held : Bool} (hval : Value.okWide P W r b0 t v) (hd : DataW.Trod enc P W base sp held t v d ps) :
  ∃ l : B8, l.length = n ∧ ps = [] ∧ (∀ ρ, Rep ρ (.u8s l) v) ∧ ∀ (W' : World) (base' : Nat) (sp' : Nat → Bool) (held' : Bool), DataW.Trod enc P W' base' sp' held' t v d [] := by
 simp only [Value.okWide, ht] at hval
 obtain ⟨xs, rfl, hn, _⟩ := hval
 obtain ⟨fuel, hf⟩ := hd
 have hcells : (Value.agg xs).cells.toList = xs.toList := by simp [Value.cells]
 rw [hcells] at hf
 obtain ⟨ys, m, rfl, hx, hl, hys, hi⟩ := DataW.trod_array ht hf
 have hcell : ∀ i, i < n → ∃ a, (xs.toList.drop (i * P.cellsOf e)).take (P.cellsOf e) = [.int .u8 a] ∧ (Lit.int .u8 a).wf = true := by
  intro i hin
  have h := hi i hin
  rw [List.getElem?_eq_getElem (by omega)] at h
  obtain ⟨a, h1, _, h2⟩ := DataW.trod_int he h
  exact ⟨a, h1, h2⟩
 have hget : ∀ i, i < n → ∃ a, xs.toList[i]? = some (.int .u8 a) ∧ (Lit.int .u8 a).wf = true := by
  intro i hin
  obtain ⟨a, h1, h2⟩ := hcell i hin
  rw [hc, Nat.mul_one] at h1
  refine ⟨a, ?_, h2⟩
  have := congrArg (·[0]?) h1
  simpa [List.getElem?_take, List.getElem?_drop] using this
 have hlen : xs.toList.length = n := by rw [hl, hs]
 have key : ∀ (cs : List Value), (∀ i, i < cs.length → ∃ a, cs[i]? = some (.int .u8 a) ∧ (Lit.int .u8 a).wf = true) → ∃ l : B8, l.length = cs.length ∧ ∀ ρ, All2 (RepS ρ) (l.map D.u8) cs := by
  intro cs
  induction cs with
  |nil => intro _; exact ⟨[], rfl, fun _ => trivial⟩
  |cons c cs ih =>
   intro h
   obtain ⟨a, h1, h2⟩ := h 0 (by simp)
   simp at h1; subst h1
   obtain ⟨l, h3, h4⟩ := ih (fun i hi => by simpa using h (i + 1) (by simpa using hi))
   exact ⟨BitVec.ofNat 8 a.toNat :: l, by simp [h3], fun ρ => ⟨aAK (ρ := ρ) h2, h4 ρ⟩⟩
 obtain ⟨l, h1, h2⟩ := key xs.toList (by rw [hlen]; exact hget)
 have hstay : ∀ (W' : World) (base' : Nat) (sp' : Nat → Bool) (held' : Bool), DataW.trod enc P W' base' sp' held' (m + 1) t xs.toList = some (d, ps) ∧ ps = [] := by
  intro W' base' sp' held'
  unfold DataW.trod at hf ⊢
  rw [ht] at hf ⊢
  simp only [hl, if_true, Option.map_eq_some_iff] at hf ⊢
  obtain ⟨zs, hz, hzx⟩ := hf
  obtain ⟨h3, h4⟩ := sZ (g := fun i => DataW.trod enc P W' base' sp' held' m e ((xs.toList.drop (i * P.cellsOf e)).take (P.cellsOf e))) hz (fun i y _ hy => by
   obtain ⟨a, e1, e2, e3⟩ := DataW.trod_int he hy
   rw [e2]
   refine ⟨rfl, ?_⟩
   rw [e1]
   cases m with
   |zero => simp [DataW.trod] at hy
   |succ m => simp [DataW.trod, he, e3])
  refine ⟨⟨zs, h3, hzx⟩, ?_⟩
  have := congrArg Prod.snd hzx
  exact this.symm.trans h4
 refine ⟨l, by rw [h1, hlen], (hstay W 0 sp held).2, fun ρ => ⟨xs.toList, by simp, h2 ρ⟩, fun W' base' sp' held' => ?_⟩
 obtain ⟨h5, h6⟩ := hstay W' base' sp' held'
 refine ⟨m + 1, ?_⟩
 rw [hcells, h5, h6]
end
end Go.Proofs.YtodkhgofmgaafaaGreatDoor.Av
namespace Go.Proofs.YtodkhgofmgaafaaGreatDoor.Av
open Go Go.ChangeShapes Go.WideShapes
set_option linter.all false
set_option maxRecDepth 3000
section
variable {H : Type} {enc : TypeId × Value → H} {P : Program}
theorem aBx {w : World} {b row cells : Nat} (h : w.shape? b = some (row, cells)) : ∃ C t fr, w.heap[b]? = some (.cells C t fr) := by
 unfold World.shape? at h
 split at h
 ·rename_i C t fr hC
  exact ⟨C, t, fr, hC⟩
 ·cases h
end
section
variable {H : Type} {enc : TypeId × Value → H} {P : Program}
theorem aHA {t e : TypeId} {n : Nat} (ht : P.underlying t = some (.array n e)) (he : P.underlying e = some (.int .u8)) (hc : P.cellsOf e = 1) (hs : P.cellsOf t = n) {base : Nat} {W : World} {cs : List Value} {y : DataW H × List MemPlace}
  {sp : Nat → Bool} {held : Bool} {fuel : Nat} (hf : DataW.trod enc P W base sp held fuel t cs = some y) :
  y.2 = [] ∧ (∃ l : B8, l.length = n ∧ ∀ ρ, All2 (RepS ρ) (l.map D.u8) cs) ∧ ∀ (W' : World) (base' : Nat) (sp' : Nat → Bool) (held' : Bool), DataW.trod enc P W' base' sp' held' fuel t cs = some y := by
 obtain ⟨ys, m, rfl, hx, hl, hys, hi⟩ := DataW.trod_array ht hf
 have hget : ∀ i, i < n → ∃ a, cs[i]? = some (.int .u8 a) ∧ (Lit.int .u8 a).wf = true := by
  intro i hin
  have h := hi i hin
  rw [List.getElem?_eq_getElem (by omega)] at h
  obtain ⟨a, h1, _, h2⟩ := DataW.trod_int he h
  rw [hc, Nat.mul_one] at h1
  refine ⟨a, ?_, h2⟩
  have := congrArg (·[0]?) h1
  simpa [List.getElem?_take, List.getElem?_drop] using this
 have hlen : cs.length = n := by rw [hl, hs]
 have key : ∀ (cs : List Value), (∀ i, i < cs.length → ∃ a, cs[i]? = some (.int .u8 a) ∧ (Lit.int .u8 a).wf = true) → ∃ l : B8, l.length = cs.length ∧ ∀ ρ, All2 (RepS ρ) (l.map D.u8) cs := by
  intro cs
  induction cs with
  |nil => intro _; exact ⟨[], rfl, fun _ => trivial⟩
  |cons c cs ih =>
   intro h
   obtain ⟨a, h1, h2⟩ := h 0 (by simp)
   simp at h1; subst h1
   obtain ⟨l, h3, h4⟩ := ih (fun i hi => by simpa using h (i + 1) (by simpa using hi))
   exact ⟨BitVec.ofNat 8 a.toNat :: l, by simp [h3], fun ρ => ⟨aAK (ρ := ρ) h2, h4 ρ⟩⟩
 obtain ⟨l, h1, h2⟩ := key cs (by rw [hlen]; exact hget)
 have hstay : ∀ (W' : World) (base' : Nat) (sp' : Nat → Bool) (held' : Bool), DataW.trod enc P W' base' sp' held' (m + 1) t cs = some y ∧ y.2 = [] := by
  intro W' base' sp' held'
  unfold DataW.trod at hf ⊢
  rw [ht] at hf ⊢
  simp only [hl, if_true, Option.map_eq_some_iff] at hf ⊢
  obtain ⟨zs, hz, hzx⟩ := hf
  obtain ⟨h3, h4⟩ := sZ (g := fun i => DataW.trod enc P W' base' sp' held' m e ((cs.drop (i * P.cellsOf e)).take (P.cellsOf e))) hz (fun i y _ hy => by
   obtain ⟨a, e1, e2, e3⟩ := DataW.trod_int he hy
   rw [e2]
   refine ⟨rfl, ?_⟩
   rw [e1]
   cases m with
   |zero => simp [DataW.trod] at hy
   |succ m => simp [DataW.trod, he, e3])
  refine ⟨⟨zs, h3, hzx⟩, ?_⟩
  rw [← hzx]; exact h4
 exact ⟨(hstay W 0 sp held).2, ⟨l, by rw [h1, hlen], h2⟩, fun W' base' sp' held' => (hstay W' base' sp' held').1⟩
theorem aJV {ρ : Env} {n : Int} (h : (Lit.int .u64 n).wf = true) : Rep ρ (.u64 (BitVec.ofNat 64 n.toNat)) (.int .u64 n) := by
 simp only [Lit.wf, Bool.and_eq_true, decide_eq_true_eq] at h
 have h1 : (0 : Int) ≤ n := h.1
 have h2 : n < 18446744073709551616 := by
  have := h.2
  have e : IntKind.u64.max = 18446744073709551615 := by decide
  omega
 show Value.int _ _ = .int _ _
 congr 1
 simp; omega
end
section
variable {H : Type} {enc : TypeId × Value → H} {P : Program}
theorem l8 {f : Func} {s : ChangeSpec} {apart fresh handsOn : Bool} {W W' : World} {args : Array Value} {v : Value} {ds gs : List (DataW H)} {before : List MemPlace}
  (hW : DataW.Whole enc P f.params.toList s.vars apart W args.toList ds gs before)
  (hres : ∀ (b : Nat) (sp : Nat → Bool) (hd : Bool), DataW.TrodAll enc P W' b sp hd f.resultTypes.toList (v.resultList f.resultTypes.size) (s.fn H (ds ++ gs)).results [])
  (hargs : ∀ sp : Nat → Bool, (∀ p ∈ before, sp p.block = true) → DataW.TrodAll enc P W' 0 sp true f.params.toList args.toList (s.fn H (ds ++ gs)).args before)
  (hvars : ∀ sp : Nat → Bool, DataW.TrodVars enc P W' sp s.vars (s.fn H (ds ++ gs)).vars [])
  (hk : W.keptBut W' (fun _ => False)) : s.post enc P f apart fresh handsOn false W args v W' :=
 ⟨ds, gs, before, [], before, [], hW, hres _ _ _, hargs _ (fun p hp => by simpa using hW.lt p hp), hvars _, World.keptBut_mono (fun _ h => h.elim) hk, (fun h => nomatch h)⟩
end
end Go.Proofs.YtodkhgofmgaafaaGreatDoor.Av
namespace Go.Proofs.YtodkhgofmgaafaaGreatDoor.Av
open Go Go.ChangeShapes Go.WideShapes
set_option linter.all false
set_option maxRecDepth 3000
theorem aCq {P : Program} {W : World} {name : String} {g t e n : Nat} (hg : P.globalNamed name = some g) (hty : (P.globals[g]?).map (·.type) = some t) (ht : P.underlying t = some (.array n e)) (he : P.underlying e = some (.int .u32))
  (hc : P.cellsOf e = 1) (hs : P.cellsOf t = n) {l : List (BitVec 32)} (hl : l.length = n) (h : Lib.VarReads P W name (.agg (l.map fun b => .lit (.int .u32 b.toNat)))) :
  SatE (fun _ => none) ⟨.arr n .cell, .u32s l, false⟩ ⟨g, 0, n, .arr n .cell⟩ W := by
 obtain ⟨g', t', cs, fuel, p, q1, q2, q3, q4⟩ := h
 obtain rfl := Option.some.inj (hg.symm.trans q1)
 obtain rfl := Option.some.inj (hty.symm.trans q2)
 have hcs : cs.toList = (l.map fun b => (b.toNat : Int)).map fun z => Value.int .u32 z := by
  have q5 : DataW.trod (fun _ => ()) P W 0 (fun _ => true) false fuel t cs.toList = some (Lib.tabData .u32 (l.map fun b => (b.toNat : Int)), p) := by
   rw [q4]; unfold Lib.tabData; rw [List.map_map]; rfl
  exact Lib.cells_of_tab ht he hc hs q5
 simp only [World.var?, hg, Option.bind_some] at q3
 split at q3 <;> try contradiction
 rename_i C T fr hC
 cases q3
 have hlen : cs.size = n := by
  have := congrArg List.length hcs
  simpa [hl] using this
 refine ⟨rfl, trivial, hl, cs, T, fr, [], cs.toList, [], hC, by simp, rfl, hlen, ?_, fun h => by cases h⟩
 rw [hcs, List.map_map]
 show All2 _ (l.map D.u32) _
 have : ∀ l : List (BitVec 32), All2 (RepS (fun _ => none)) (l.map D.u32) (l.map ((fun z => Value.int .u32 z) ∘ fun b => (b.toNat : Int))) := by
  intro l
  induction l with
  |nil => trivial
  |cons a r ih => exact ⟨rfl, ih⟩
 exact this l
section
variable {H : Type} {enc : TypeId × Value → H} {P : Program}
end
end Go.Proofs.YtodkhgofmgaafaaGreatDoor.Av
namespace Go.Proofs.YtodkhgofmgaafaaGreatDoor.Av
open Go Go.ChangeShapes Go.WideShapes
set_option linter.all false
set_option maxRecDepth 3000
def aIS (F : TypeId → D → Prop) : List TypeId → List D → Prop
 |[], [] => True
 |t :: ts, d :: ds => F t d ∧ aIS F ts ds
 |_, _ => False
def aIc (P : Program) (e : TypeId) : Nat := match P.underlying e with
 |some (.int .u8) => 1
 |some (.int .u32) => 2
 |some (.int .u64) => 2
 |_ => 0
theorem aHi {P : Program} {e : TypeId} (h : aIc P e = 1) : P.underlying e = some (.int .u8) := by
 unfold aIc at h
 split at h
 ·assumption
 all_goals omega
def pZ (P : Program) : Nat → TypeId → D → Prop
 |0, _, _ => False
 |n + 1, t, x => match P.underlying t with
  |some .bool => ∃ b, x = .bool b
  |some (.int .u8) => ∃ b, x = .u8 b
  |some (.int .u16) => ∃ b, x = .u16 b
  |some (.int .u32) => ∃ b, x = .u32 b
  |some (.int .u64) => ∃ b, x = .u64 b
  |some (.int .i64) => ∃ b : Int, x = .i64 b ∧ -9223372036854775808 ≤ b ∧ b < 9223372036854775808
  |some (.array c e) => match aIc P e with
   |1 => ∃ l, x = .u8s l ∧ l.length = c
   |_ => ∃ l, x = .node l ∧ l.length = c ∧ gV (pZ P n e) l
  |some (.struct fs) => ∃ l, x = .node l ∧ aIS (pZ P n) (fs.toList.map (·.type)) l
  |_ => False
theorem aJX {ρ : Env} {n : Int} (h : (Lit.int .u16 n).wf = true) : Rep ρ (.u16 (BitVec.ofNat 16 n.toNat)) (.int .u16 n) := by
 simp only [Lit.wf, Bool.and_eq_true, decide_eq_true_eq] at h
 have h1 : (0 : Int) ≤ n := h.1
 have h2 : n < 65536 := by
  have := h.2
  have e : IntKind.u16.max = 65535 := by decide
  omega
 show Value.int _ _ = .int _ _
 congr 1
 simp; omega
theorem aJW {ρ : Env} {n : Int} (h : (Lit.int .u32 n).wf = true) : Rep ρ (.u32 (BitVec.ofNat 32 n.toNat)) (.int .u32 n) := by
 simp only [Lit.wf, Bool.and_eq_true, decide_eq_true_eq] at h
 have h1 : (0 : Int) ≤ n := h.1
 have h2 : n < 4294967296 := by
  have := h.2
  have e : IntKind.u32.max = 4294967295 := by decide
  omega
 show Value.int _ _ = .int _ _
 congr 1
 simp; omega
theorem aCI {n : Int} (h : (Lit.int .i64 n).wf = true) : -9223372036854775808 ≤ n ∧ n < 9223372036854775808 := by
 simp only [Lit.wf, Bool.and_eq_true, decide_eq_true_eq] at h
 have h1 : IntKind.i64.min ≤ n := h.1
 have e1 : IntKind.i64.min = -9223372036854775808 := by decide
 have e : IntKind.i64.max = 9223372036854775807 := by decide
 have h2 : n ≤ IntKind.i64.max := h.2
 omega
def aE0 (P : Program) : List Field → Nat → Nat → Bool
 |[], o, e => o == e
 |f :: fs, o, e => f.offset == o && aE0 P fs (o + P.cellsOf f.type) e
def o0 (P : Program) : Nat → TypeId → Bool
 |0, _ => false
 |n + 1, t => match P.underlying t with
  |some .bool => true
  |some (.int .u8) => true
  |some (.int .u16) => true
  |some (.int .u32) => true
  |some (.int .u64) => true
  |some (.int .i64) => true
  |some (.array c e) => match aIc P e with
   |0 => P.cellsOf t == c * P.cellsOf e && o0 P n e
   |1 => P.cellsOf e == 1 && P.cellsOf t == c
   |_ => false
  |some (.struct fs) => aE0 P fs.toList 0 (P.cellsOf t) && fs.toList.all (fun f => o0 P n f.type)
  |_ => false
section
variable {H : Type} {enc : TypeId × Value → H} {P : Program}
theorem j9 {α : Type} (F : TypeId → D → Prop) (g g' : α → Option (DataW H × List MemPlace)) (ty : α → TypeId) (eB : α → List Value) : ∀ (l : List α) (r : List (DataW H × List MemPlace)), l.mapM g = some r →
  (∀ a ∈ l, ∀ y, g a = some y → y.2 = [] ∧ g' a = some y ∧ ∃ d, F (ty a) d ∧ ∀ ρ, All2 (RepS ρ) d.flat (eB a)) →
  l.mapM g' = some r ∧ r.flatMap (·.2) = [] ∧ ∃ ds : List D, ds.length = l.length ∧ aIS F (l.map ty) ds ∧ ∀ ρ, All2 (RepS ρ) (D.flats ds) (l.flatMap eB)
 |[], r, h, _ => by
  simp at h; subst h
  exact ⟨rfl, rfl, [], rfl, trivial, fun _ => trivial⟩
 |a :: l, r, h, hg => by
  rw [List.mapM_cons] at h ⊢
  simp only [bind, Option.bind_eq_some_iff, pure, Option.some.injEq] at h
  obtain ⟨y, hy, ys, hys, rfl⟩ := h
  obtain ⟨h1, h2, d, h3, h4⟩ := hg a (by simp) y hy
  obtain ⟨k1, k2, ds, k3, k4, k5⟩ := j9 F g g' ty eB l ys hys (fun b hb => hg b (by simp [hb]))
  rw [h2, k1]
  refine ⟨rfl, by rw [List.flatMap_cons, h1, k2]; rfl, d :: ds, by simp [k3], ⟨h3, k4⟩, fun ρ => ?_⟩
  rw [List.flatMap_cons]
  exact (h4 ρ).append (k5 ρ)
theorem mK (cs : List Value) : ∀ (fs : List Field) (o e : Nat), aE0 P fs o e = true → e = cs.length → fs.flatMap (fun f => (cs.drop f.offset).take (P.cellsOf f.type)) = cs.drop o
 |[], o, e, h, he => by
  simp only [aE0, beq_iff_eq] at h
  rw [h, he, List.drop_length]; rfl
 |f :: fs, o, e, h, he => by
  simp only [aE0, Bool.and_eq_true, beq_iff_eq] at h
  rw [List.flatMap_cons, mK cs fs _ e h.2 he, h.1, ← List.drop_drop, List.take_append_drop]
theorem aBU (F : TypeId → D → Prop) (e : TypeId) : ∀ (n : Nat) (ds : List D), aIS F (List.replicate n e) ds → ds.length = n ∧ gV (F e) ds
 |0, [], _ => ⟨rfl, trivial⟩
 |n + 1, d :: ds, h => by
  obtain ⟨h1, h2⟩ := aBU F e n ds h.2
  exact ⟨by simp [h1], h.1, h2⟩
 |0, _ :: _, h => h.elim
 |n + 1, [], h => h.elim
theorem pO {α : Type} (c : Nat) : ∀ (n : Nat) (cs : List α), cs.length = n * c → (List.range n).flatMap (fun i => (cs.drop (i * c)).take c) = cs
 |0, cs, h => by
  have : cs = [] := List.length_eq_zero_iff.1 (by omega)
  rw [this]; rfl
 |n + 1, cs, h => by
  rw [List.range_succ_eq_map, List.flatMap_cons, List.flatMap_map]
  have e := pO c n (cs.drop c) (by rw [List.length_drop, h, Nat.add_mul]; omega)
  have : (fun i => ((cs.drop c).drop (i * c)).take c) = (fun i => (cs.drop ((i + 1) * c)).take c) := by
   funext i
   rw [List.drop_drop]
   congr 2
   rw [Nat.add_mul]; omega
  rw [this] at e
  rw [Nat.zero_mul, List.drop_zero, e, List.take_append_drop]
theorem aFC : ∀ (n : Nat) {t : TypeId} (_ : o0 P n t = true) {W : World} {base fuel : Nat} {sp : Nat → Bool} {held : Bool} {cs : List Value} {y : DataW H × List MemPlace}, DataW.trod enc P W base sp held fuel t cs = some y →
  y.2 = [] ∧ (∃ d, pZ P n t d ∧ ∀ ρ, All2 (RepS ρ) d.flat cs) ∧ ∀ (W' : World) (base' : Nat) (sp' : Nat → Bool) (held' : Bool), DataW.trod enc P W' base' sp' held' fuel t cs = some y := by
 intro n
 induction n with
 |zero => intro t h; cases h
 |succ n ih =>
  intro t h W base fuel sp held cs y hd
  cases hu : P.underlying t with
  |none => simp [o0, hu] at h
  |some T =>
   have int : ∀ {k : IntKind} (_ : T = .int k) (_ : ∀ z, (Lit.int k z).wf = true → ∃ d, pZ P (n + 1) t d ∧ ∀ ρ, All2 (RepS ρ) d.flat [.int k z]),
     y.2 = [] ∧ (∃ d, pZ P (n + 1) t d ∧ ∀ ρ, All2 (RepS ρ) d.flat cs) ∧ ∀ (W' : World) (base' : Nat) (sp' : Nat → Bool) (held' : Bool), DataW.trod enc P W' base' sp' held' fuel t cs = some y := by
    intro k hT h1
    subst hT
    obtain ⟨a, rfl, rfl, e3⟩ := DataW.trod_int hu hd
    refine ⟨rfl, h1 a e3, fun W' base' sp' held' => ?_⟩
    cases fuel with
    |zero => simp [DataW.trod] at hd
    |succ m => simp [DataW.trod, hu, e3]
   cases T with
   |bool =>
    obtain ⟨b, rfl, rfl⟩ := DataW.trod_bool hu hd
    refine ⟨rfl, ⟨.bool b, by simp only [pZ, hu]; exact ⟨b, rfl⟩, fun ρ => ⟨rfl, trivial⟩⟩, fun W' base' sp' held' => ?_⟩
    cases fuel with
    |zero => simp [DataW.trod] at hd
    |succ m => simp [DataW.trod, hu]
   |int k =>
    cases k with
    |u8 => exact int rfl fun z hz => ⟨.u8 (BitVec.ofNat 8 z.toNat), by simp only [pZ, hu]; exact ⟨_, rfl⟩, fun ρ => ⟨aAK (ρ := ρ) hz, trivial⟩⟩
    |u16 => exact int rfl fun z hz => ⟨.u16 (BitVec.ofNat 16 z.toNat), by simp only [pZ, hu]; exact ⟨_, rfl⟩, fun ρ => ⟨aJX (ρ := ρ) hz, trivial⟩⟩
    |u32 => exact int rfl fun z hz => ⟨.u32 (BitVec.ofNat 32 z.toNat), by simp only [pZ, hu]; exact ⟨_, rfl⟩, fun ρ => ⟨aJW (ρ := ρ) hz, trivial⟩⟩
    |u64 => exact int rfl fun z hz => ⟨.u64 (BitVec.ofNat 64 z.toNat), by simp only [pZ, hu]; exact ⟨_, rfl⟩, fun ρ => ⟨aJV (ρ := ρ) hz, trivial⟩⟩
    |i64 => exact int rfl fun z hz => ⟨.i64 z, by simp only [pZ, hu]; exact ⟨_, rfl, (aCI hz).1, (aCI hz).2⟩, fun ρ => ⟨(show Value.int .i64 z = .int .i64 z ∧ _ from ⟨rfl, aCI hz⟩), trivial⟩⟩
    |_ => simp [o0, hu] at h
   |array c e =>
    by_cases he : aIc P e = 1
    ·simp only [o0, hu, he, Bool.and_eq_true, beq_iff_eq] at h
     obtain ⟨h1, ⟨l, h2, h3⟩, h4⟩ := aHA hu (aHi he) h.1 h.2 hd
     exact ⟨h1, ⟨.u8s l, by simp only [pZ, hu, he]; exact ⟨l, rfl, h2⟩, h3⟩, h4⟩
    ·have he0 : aIc P e = 0 := by
      simp only [o0, hu] at h
      split at h
      ·assumption
      ·contradiction
      ·cases h
     simp only [o0, hu, he0, Bool.and_eq_true, beq_iff_eq] at h
     cases fuel with
     |zero => simp [DataW.trod] at hd
     |succ m =>
      have hd0 := hd
      unfold DataW.trod at hd
      rw [hu] at hd
      simp only at hd
      split at hd
      rotate_left
      ·cases hd
      rename_i hlen
      rw [Option.map_eq_some_iff] at hd
      obtain ⟨xs, hx, rfl⟩ := hd
      have hs : cs.length = c * P.cellsOf e := by rw [hlen, h.1]
      obtain ⟨_, k2, ds, k3, k4, k5⟩ := j9 (pZ P n) _ (fun i => DataW.trod enc P W base sp held m e ((cs.drop (i * P.cellsOf e)).take (P.cellsOf e))) (fun _ => e) (fun i => (cs.drop (i * P.cellsOf e)).take (P.cellsOf e)) _ _ hx (fun i _ z hz => by
       obtain ⟨h1, h2, h3⟩ := ih h.2 hz
       exact ⟨h1, hz, h2⟩)
      rw [List.map_const', List.length_range] at k4
      obtain ⟨k6, k7⟩ := aBU (pZ P n) e c ds k4
      refine ⟨k2, ⟨.node ds, ?_, fun ρ => ?_⟩, fun W' base' sp' held' => ?_⟩
      ·simp only [pZ, hu, he0]
       exact ⟨ds, rfl, k6, k7⟩
      ·have := k5 ρ
       rw [pO _ _ cs hs] at this
       exact this
      ·obtain ⟨j1, _⟩ := j9 (pZ P n) _ (fun i => DataW.trod enc P W' base' sp' held' m e ((cs.drop (i * P.cellsOf e)).take (P.cellsOf e))) (fun _ => e) (fun i => (cs.drop (i * P.cellsOf e)).take (P.cellsOf e)) _ _ hx (fun i _ z hz => by
        obtain ⟨h1, h2, h3⟩ := ih h.2 hz
        exact ⟨h1, h3 W' base' sp' held', h2⟩)
       unfold DataW.trod
       rw [hu]
       simp only
       rw [if_pos hlen, j1]
       rfl
   |struct fs =>
    simp only [o0, hu, Bool.and_eq_true, List.all_eq_true] at h
    cases fuel with
    |zero => simp [DataW.trod] at hd
    |succ m =>
     have hd0 := hd
     unfold DataW.trod at hd
     rw [hu] at hd
     simp only at hd
     split at hd
     rotate_left
     ·cases hd
     rename_i hlen
     rw [Option.map_eq_some_iff] at hd
     obtain ⟨xs, hx, rfl⟩ := hd
     obtain ⟨_, k2, ds, k3, k4, k5⟩ := j9 (pZ P n) _ (fun f => DataW.trod enc P W base sp held m f.type ((cs.drop f.offset).take (P.cellsOf f.type))) (fun f => f.type) (fun f => (cs.drop f.offset).take (P.cellsOf f.type)) _ _ hx (fun f hf z hz => by
      obtain ⟨h1, h2, h3⟩ := ih (h.2 f hf) hz
      exact ⟨h1, hz, h2⟩)
     refine ⟨k2, ⟨.node ds, ?_, fun ρ => ?_⟩, fun W' base' sp' held' => ?_⟩
     ·unfold pZ
      rw [hu]
      exact ⟨ds, rfl, k4⟩
     ·have := k5 ρ
      rw [mK cs fs.toList 0 _ h.1 hlen.symm] at this
      exact this
     ·obtain ⟨j1, _⟩ := j9 (pZ P n) _ (fun f => DataW.trod enc P W' base' sp' held' m f.type ((cs.drop f.offset).take (P.cellsOf f.type))) (fun f => f.type) (fun f => (cs.drop f.offset).take (P.cellsOf f.type)) _ _ hx (fun f hf z hz => by
       obtain ⟨h1, h2, h3⟩ := ih (h.2 f hf) hz
       exact ⟨h1, h3 W' base' sp' held', h2⟩)
      unfold DataW.trod
      rw [hu]
      simp only
      rw [if_pos hlen, j1]
      rfl
   |_ => simp [o0, hu] at h
end
end Go.Proofs.YtodkhgofmgaafaaGreatDoor.Av
namespace Go.Proofs.YtodkhgofmgaafaaGreatDoor.Av
open Go Go.ChangeShapes Go.WideShapes
set_option linter.all false
set_option maxRecDepth 3000
theorem aHP {e : Ent} {L : Loc} {W : World} (h : SatE (fun _ => none) e L W) : SatE (fun _ => none) ⟨.row .cell, .u8s [], false⟩ ⟨L.blk, 0, L.n, .row .cell⟩ W := by
 obtain ⟨q1, q2, q3, C, t, fr, pre, front, tail, q4, q5, q6, q7, q8, q9⟩ := h
 exact ⟨rfl, trivial, trivial, C, t, fr, [], [], C.toList, q4, by simp, rfl, q7, trivial, fun h => by cases h⟩
end Go.Proofs.YtodkhgofmgaafaaGreatDoor.Av
namespace Go.Proofs.YtodkhgofmgaafaaGreatDoor.Av
open Go Go.ChangeShapes Go.WideShapes
set_option linter.all false
set_option maxRecDepth 3000
section
variable {H : Type} {enc : TypeId × Value → H} {P : Program}
end
end Go.Proofs.YtodkhgofmgaafaaGreatDoor.Av
namespace Go.Proofs.YtodkhgofmgaafaaGreatDoor.Av
open Go Go.ChangeShapes Go.WideShapes
set_option linter.all false
set_option maxRecDepth 3000
theorem kK {P : Program} {f : Nat} {args : List D} {m0 : Mem} {np : Nat} (hnp : np ≤ 1000) (h : AC P f args np m0 ⟨.bool true, [], []⟩) {W : World} {vals : List Value} {loc : Nat → Loc} (hv : All2 (Rep (fun i => if i < np then some (loc i) else none)) args vals)
  (hm : ∀ i e, get m0 i = some e → e.rw = false ∧ ((i < np ∧ SatE (fun i => if i < np then some (loc i) else none) e (loc i) W) ∨ ∃ g, i = gid g ∧ ∃ L : Loc, (L.blk = g ∧ L.base = 0) ∧ SatE (fun _ => none) e L W)) :
  Calls P f vals.toArray W fun e W' => e = .returned (.bool true) ∧ W'.os = W.os ∧ W'.output = W.output ∧ W.heap.size ≤ W'.heap.size ∧ ∀ b, b < W.heap.size → W'.heap[b]? = W.heap[b]? := by
 have hgi : ∀ {a b : Nat}, gid a = gid b → a = b := fun h => by unfold gid at h; omega
 have hg0 : ∀ g, ¬ gid g < np := fun g => by unfold gid; omega
 have hm2 : ∀ i e, get m0 i = some e → ¬ i < np → ∃ g, i = gid g ∧ ∃ L : Loc, (L.blk = g ∧ L.base = 0) ∧ SatE (fun _ => none) e L W := fun i e hi h0 => by
  rcases (hm i e hi).2 with ⟨h1, _⟩ | h1
  ·exact absurd h1 h0
  ·exact h1
 let ρ0 : Env := fun i => if h0 : i < np then some (loc i) else @dite _ (∃ e, get m0 i = some e) (Classical.propDecidable _) (fun hi => some (hm2 i hi.choose hi.choose_spec h0).choose_spec.2.choose) (fun _ => none)
 have hle : Env.le (fun _ => none) ρ0 := fun i L h => by cases h
 have hle0 : Env.le (fun i => if i < np then some (loc i) else none) ρ0 := fun i L h => by
  have h : (if i < np then some (loc i) else none) = some L := h
  split at h
  ·rename_i h0
   show dite _ _ _ = _
   rw [dif_pos h0]; exact h
  ·cases h
 have h00 : ∀ i, i < np → ρ0 i = some (loc i) := fun i h => dif_pos h
 have hρ : ∀ i e, get m0 i = some e → ¬ i < np → ∃ g L, i = gid g ∧ ρ0 i = some L ∧ (L.blk = g ∧ L.base = 0) ∧ SatE (fun _ => none) e L W := fun i e hi h0 => by
  have hx : ∃ e, get m0 i = some e := ⟨e, hi⟩
  have he : hx.choose = e := Option.some.inj (hx.choose_spec.symm.trans hi)
  have hs := (hm2 i hx.choose hx.choose_spec h0).choose_spec.2.choose_spec
  have hg := (hm2 i hx.choose hx.choose_spec h0).choose_spec.1
  refine ⟨_, _, hg, (dif_neg h0).trans (dif_pos hx), hs.1, ?_⟩
  have h2 := hs.2
  generalize (hm2 i hx.choose hx.choose_spec h0).choose_spec.2.choose = L at h2
  rw [he] at h2
  exact h2
 have hno : ∀ i L, ρ0 i = some L → ¬ i < np → ∃ e, get m0 i = some e := fun i L hi h0 => by
  by_cases hx : ∃ e, get m0 i = some e
  ·exact hx
  ·have : ρ0 i = none := (dif_neg h0).trans (dif_neg hx)
   rw [this] at hi; cases hi
 have hsat : ∀ i e, get m0 i = some e → ∃ L, ρ0 i = some L ∧ SatE ρ0 e L W := fun i e hi => by
  by_cases h0 : i < np
  ·rcases (hm i e hi).2 with ⟨_, h1⟩ | ⟨g, h1, _⟩
   ·exact ⟨loc i, h00 i h0, h1.mono hle0⟩
   ·exact absurd (h1 ▸ h0) (hg0 g)
  ·obtain ⟨g', L', h1, h2, h3, h4⟩ := hρ i e hi h0
   exact ⟨L', h2, h4.mono hle⟩
 refine (h.2 ρ0 W vals (hv.mono fun a b hab => Rep.mono hle0 hab)
  ⟨fun g L h' => ?_, hsat, fun i j ei ej Li Lj hi hj hne hr => ?_, fun i e L' hi hr => ?_, fun _ _ _ => rfl, Nat.le_refl _, rfl, rfl, rfl⟩ (fun i hi => ?_)).mono fun e W' ⟨v, ρ', he, _, _, hr, hI⟩ => ?_
 ·obtain ⟨e, he⟩ := hno _ _ h' (hg0 g)
  obtain ⟨g', L', h1, h2, h3, _⟩ := hρ _ e he (hg0 g)
  rw [h'] at h2; cases h2
  rw [hgi h1]; exact h3
 ·rw [(hm i ei hi).1] at hr; cases hr
 ·rw [(hm i e hi).1] at hr; cases hr
 ·by_cases h0 : i < np
  ·exact .inl h0
  ·cases hL : ρ0 i with
   |none => exact absurd hL hi
   |some L =>
    obtain ⟨e, he⟩ := hno _ _ hL h0
    obtain ⟨g', L', h1, _⟩ := hρ _ e he h0
    right; rw [h1]; unfold gid; omega
 ·have hr : v = .bool true := hr
  subst hr
  refine ⟨he, hI.os, hI.out, hI.size, fun b hb => hI.ext b hb (fun ⟨i, e, L', h1, h2, _⟩ => ?_)⟩
  rw [(hm i e h1).1] at h2; cases h2
section
variable {H : Type} {enc : TypeId × Value → H} {P : Program}
def aFQ (P : Program) : Bool := (List.range P.types.size).all fun t => match P.underlying t with
 |some (.slice e) => Nat.blt 0 (P.cellsOf e)
 |_ => true
theorem zO (h : aFQ P = true) {t e : TypeId} (ht : t < P.types.size) (hu : P.underlying t = some (.slice e)) : 0 < P.cellsOf e := by
 have := List.all_eq_true.1 h t (List.mem_range.2 ht)
 rw [hu] at this
 have this : Nat.blt 0 (P.cellsOf e) = true := this
 rw [fP] at this
 simpa using this
theorem nB (hl : laidOutB P = true) (hm : mapsRowed P = true) (hs : aFQ P = true) {W W' : World} (hW : ∀ b, b < W.heap.size → W'.heap[b]? = W.heap[b]?) {sp : Nat → Bool} :
  ∀ {ts : List TypeId} {vs : List Value} {ds : List (DataW H)} {ps : List MemPlace}, (∀ t ∈ ts, t < P.types.size) → DataW.TrodAll enc P W 0 (fun _ => true) true ts vs ds ps → (∀ p ∈ ps, sp p.block = true) → DataW.TrodAll enc P W' 0 sp true ts vs ds ps
 |[], [], [], ps, _, h, _ => h
 |t :: ts, v :: vs, d :: ds, ps, ht, h, hp => by
  obtain ⟨p, q, ⟨fuel, h1⟩, h2, rfl⟩ := h
  have K := kids_rows hl hm
  have hgood := DataW.trod_good K (fun h => by cases h) fuel t _ _ (ht t (by simp)) h1
  refine ⟨p, q, ⟨fuel, DataW.trod_stays K (fun ht hu => zO hs ht hu) (fun h => by cases h) (ht t (by simp)) h1 (fun x hx => ?_) (fun x hx => hp x (List.mem_append_left _ hx))⟩,
   nB hl hm hs hW (fun t' ht' => ht t' (by simp [ht'])) h2 (fun x hx => hp x (List.mem_append_right _ hx)), rfl⟩
  have hg := hgood x hx
  cases x with
  |cell b off =>
   obtain ⟨v', h3, _⟩ := hg
   have hb : b < W.heap.size := by
    rcases Nat.lt_or_ge b W.heap.size with h | h
    ·exact h
    ·simp only [World.cell?] at h3
     rw [Array.getElem?_eq_none h] at h3; cases h3
   show W'.cell? _ = W.cell? _
   simp only [World.cell?, hW b hb]
  |map b =>
   obtain ⟨es, c, h3⟩ := hg
   have hb : b < W.heap.size := by
    rcases Nat.lt_or_ge b W.heap.size with h | h
    ·exact h
    ·rw [Array.getElem?_eq_none h] at h3; cases h3
   exact hW b hb
 |[], [], _ :: _, _, _, h, _ => h.elim
 |[], _ :: _, _, _, _, h, _ => h.elim
 |_ :: _, [], _, _, _, h, _ => h.elim
 |_ :: _, _ :: _, [], _, _, h, _ => h.elim
theorem aHe {t e : TypeId} (ht : P.underlying t = some (.slice e)) (he : P.underlying e = some (.int .u8)) (hc : P.cellsOf e = 1) {W : World} {fuel : Nat} {cs : List Value} {y : DataW H × List MemPlace} {L9 : Loc}
  (h9 : SatE (fun _ => none) ⟨.row .cell, .u8s [], false⟩ L9 W) (hd : DataW.trod enc P W 0 (fun _ => true) true fuel t cs = some y) :
  ∃ (l : B8) (L : Loc) (x : Option Nat), (x = none → l.length = 0) ∧ SatE (fun _ => none) ⟨.row .cell, .u8s l, false⟩ L W ∧ (∀ (ρ : Env) (i : Nat), ρ i = some L → All2 (RepS ρ) (slD i l.length x).flat cs) := by
 rcases open_ints ht he hc hd with ⟨rfl, hx⟩ | ⟨a, len, cap, zs, rfl, _, hl, hm, hz, hx, hcell, hwz⟩
 ·exact ⟨[], L9, none, fun _ => rfl, h9, fun ρ i _ => ⟨rfl, trivial⟩⟩
 simp only [if_true] at hz
 by_cases h0 : cap = 0
 ·have : len = 0 := by omega
  subst this h0
  refine ⟨[], L9, some 0, fun _ => rfl, h9, fun ρ i hρ => ⟨⟨L9, hρ, .row .cell, .cell, a, 0, ?_, rfl, rfl, Nat.le_refl _, by omega, fun k hk => (by cases hk; rfl), fun h => absurd h (Nat.lt_irrefl 0)⟩, trivial⟩⟩
  rw [h9.ty]; rfl
 ·obtain ⟨ab, ao, spot⟩ := a
  have h1 := hcell 0 (by omega)
  have hspot : spot = none := by
   simp only [World.cell?] at h1
   split at h1
   ·split at h1
    ·cases h1
    ·rename_i h2
     have h2 : spot.isSome = false := by simpa [Addr.add] using h2
     cases spot with
     |none => rfl
     |some _ => cases h2
   ·cases h1
  subst hspot
  obtain ⟨C, T, fr, hC⟩ : ∃ C T fr, W.heap[ab]? = some (.cells C T fr) := by
   simp only [World.cell?] at h1
   split at h1
   ·rename_i C T fr hC
    exact ⟨C, T, fr, hC⟩
   ·cases h1
  have hcell' : ∀ i, i < cap → C[ao + i]? = some (.int .u8 (zs.getD i 0)) := by
   intro i hi
   have := hcell i (by omega)
   rw [Addr.add_lit] at this
   simpa [World.cell?, hC] using this
  have hbd : ao + cap ≤ C.size := by
   have := hcell' (cap - 1) (by omega)
   rcases Nat.lt_or_ge (ao + (cap - 1)) C.size with h | h
   ·omega
   ·rw [Array.getElem?_eq_none h] at this; cases this
  let l : B8 := (zs.take len).map fun n => BitVec.ofNat 8 n.toNat
  have hll : l.length = len := by simp [l]; omega
  refine ⟨l, ⟨ab, ao, C.size, .row .cell⟩, some cap, (fun h => nomatch h), ⟨rfl, trivial, trivial, C, T, fr, C.toList.take ao, (C.toList.drop ao).take len, C.toList.drop (ao + len), hC, dV C.toList ao len, ?_, rfl, ?_, fun h => by cases h⟩, fun ρ i hρ => ⟨?_, trivial⟩⟩
  ·rw [List.length_take, Array.length_toList]
   show min ao C.size = ao
   omega
  ·show All2 _ (l.map D.u8) _
   have key : ∀ (n : Nat) (zs : List Int) (cs : List Value), n ≤ zs.length → (∀ z ∈ zs, (Lit.int .u8 z).wf = true) → (∀ i, i < n → cs[i]? = some (.int .u8 (zs.getD i 0))) → cs.length = n →
     All2 (RepS (fun _ => none)) (((zs.take n).map fun n => BitVec.ofNat 8 n.toNat).map D.u8) cs := by
    intro n
    induction n with
    |zero =>
     intro zs cs _ _ _ hlen
     have : cs = [] := List.eq_nil_of_length_eq_zero hlen
     subst this
     exact trivial
    |succ n ih =>
     intro zs cs hn hw hcs hlen
     match zs, cs, hn, hlen with
     |z :: zs, c :: cs, hn, hlen =>
      have h0 := hcs 0 (by omega)
      simp at h0
      subst h0
      refine ⟨aAK (ρ := fun _ => none) (hw z (by simp)), ih zs cs (by simpa using hn) (fun x hx => hw x (List.mem_cons_of_mem _ hx)) (fun i hi => ?_) (by simpa using hlen)⟩
      simpa using hcs (i + 1) (by omega)
   refine key len zs _ (by omega) hwz (fun i hi => ?_) ?_
   ·rw [List.getElem?_take, if_pos hi, List.getElem?_drop, Array.getElem?_toList]
    exact hcell' i (by omega)
   ·rw [List.length_take, List.length_drop, Array.length_toList]; omega
  ·refine ⟨_, hρ, .row .cell, .cell, ⟨ab, ao, none⟩, cap, rfl, rfl, by rw [hll], by omega, by unfold maxLen at hm; omega, fun k hk => by cases hk; rfl, fun h0 => ?_⟩
   simp only [aQ, Ty.size]
   exact ⟨by simp, by omega⟩
end
end Go.Proofs.YtodkhgofmgaafaaGreatDoor.Av
namespace Go.Proofs.YtodkhgofmgaafaaGreatDoor.Av
open Go Go.ChangeShapes Go.WideShapes
set_option linter.all false
set_option maxRecDepth 3000
def aCW (P : Program) (t : TypeId) : Bool := match P.underlying t with
 |some (.slice e) => (match P.underlying e with
  |some (.int .u8) => P.cellsOf e == 1
  |_ => false)
 |_ => false
theorem aGX {P : Program} {t : TypeId} (h : aCW P t = true) : ∃ e, P.underlying t = some (.slice e) ∧ P.underlying e = some (.int .u8) ∧ P.cellsOf e = 1 := by
 unfold aCW at h
 split at h
 ·rename_i e hu
  split at h
  ·rename_i he
   exact ⟨e, hu, he, by simpa using h⟩
  ·cases h
 ·cases h
def aB8 (P : Program) (k : Nat) : Nat → List B8 → List TypeId → List D → Prop
 |_, bl, [], [] => bl = []
 |n, bl, t :: ts, d :: ds => match aCW P t with
  |true => match bl with
   |l :: bl' => (∃ x, (x = none → l.length = 0) ∧ d = slD n l.length x) ∧ aB8 P k (n + 1) bl' ts ds
   |[] => False
  |false => pZ P k t d ∧ aB8 P k n bl ts ds
 |_, _, _, _ => False
theorem mY {P : Program} {k : Nat} : ∀ {ts : List TypeId} {n : Nat} {bl : List B8} {ds : List D}, aB8 P k n bl ts ds → ds.length = ts.length
 |[], _, _, [], _ => rfl
 |t :: ts, n, bl, d :: ds, h => by
  unfold aB8 at h
  split at h
  ·cases bl with
   |nil => exact h.elim
   |cons l bl => rw [List.length_cons, List.length_cons, mY h.2]
  ·rw [List.length_cons, List.length_cons, mY h.2]
 |[], _, bl, _ :: _, h => by unfold aB8 at h; exact h.elim
 |_ :: _, _, bl, [], h => by unfold aB8 at h; exact h.elim
def mixT (P : Program) (k : Nat) (t : TypeId) : Bool := match P.underlying t with
 |some (.struct fs) => aE0 P fs.toList 0 (P.cellsOf t) && fs.toList.all (fun f => aCW P f.type || o0 P k f.type)
 |_ => false
def jI (P : Program) (t : TypeId) : List TypeId := match P.underlying t with
 |some (.struct fs) => fs.toList.map (·.type)
 |_ => []
section
variable {H : Type} {enc : TypeId × Value → H} {P : Program}
theorem mP (k : Nat) {W : World} {L9 : Loc} {m : Nat} (h9 : SatE (fun _ => none) ⟨.row .cell, .u8s [], false⟩ L9 W) (eB : Field → List Value) :
  ∀ (l : List Field) (r : List (DataW H × List MemPlace)) (n : Nat), l.mapM (fun f => DataW.trod enc P W 0 (fun _ => true) true m f.type (eB f)) = some r → (∀ f ∈ l, (aCW P f.type || o0 P k f.type) = true) →
  ∃ (bl : List (B8 × Loc)) (ds : List D), aB8 P k n (bl.map (·.1)) (l.map (·.type)) ds ∧ bl.length = (l.filter fun f => aCW P f.type).length ∧ (∀ p ∈ bl, SatE (fun _ => none) ⟨.row .cell, .u8s p.1, false⟩ p.2 W) ∧
   ∀ ρ : Env, (∀ (j : Nat) p, bl[j]? = some p → ρ (n + j) = some p.2) → All2 (RepS ρ) (D.flats ds) (l.flatMap eB)
 |[], r, n, _, _ => ⟨[], [], rfl, rfl, (fun _ h => nomatch h), fun _ _ => trivial⟩
 |f :: l, r, n, h, hf => by
  rw [List.mapM_cons] at h
  simp only [bind, Option.bind_eq_some_iff, pure, Option.some.injEq] at h
  obtain ⟨y, hy, ys, hys, rfl⟩ := h
  cases hb : aCW P f.type with
  |true =>
   obtain ⟨e, h1, h2, h3⟩ := aGX hb
   obtain ⟨by_, L, x, hx, hs, hr⟩ := aHe h1 h2 h3 h9 hy
   obtain ⟨bl, ds, k1, k2, k3, k4⟩ := mP k h9 eB l ys (n + 1) hys (fun g hg => hf g (by simp [hg]))
   refine ⟨(by_, L) :: bl, slD n by_.length x :: ds, ?_, ?_, ?_, ?_⟩
   ·simp only [List.map_cons, aB8, hb]
    exact ⟨⟨x, hx, rfl⟩, k1⟩
   ·simp [hb, k2]
   ·intro p hp
    rcases List.mem_cons.1 hp with rfl | hp
    ·exact hs
    ·exact k3 p hp
   ·intro ρ hρ
    rw [List.flatMap_cons]
    refine (hr ρ n (hρ 0 _ rfl)).append (k4 ρ fun j p hj => ?_)
    have := hρ (j + 1) p (by simpa using hj)
    rw [← this]; congr 1; omega
  |false =>
   have hfl : o0 P k f.type = true := by
    have := hf f (by simp)
    rw [hb, Bool.false_or] at this; exact this
   obtain ⟨_, ⟨d, h2, h3⟩, _⟩ := aFC k hfl hy
   obtain ⟨bl, ds, k1, k2, k3, k4⟩ := mP k h9 eB l ys n hys (fun g hg => hf g (by simp [hg]))
   refine ⟨bl, d :: ds, ?_, ?_, k3, fun ρ hρ => ?_⟩
   ·simp only [List.map_cons, aB8, hb]
    exact ⟨h2, k1⟩
   ·simp [hb, k2]
   ·rw [List.flatMap_cons]
    exact (h3 ρ).append (k4 ρ hρ)
theorem aCL (k : Nat) {t : TypeId} (ht : mixT P k t = true) {W : World} {L9 : Loc} {fuel : Nat} {cs : List Value} {y : DataW H × List MemPlace} (h9 : SatE (fun _ => none) ⟨.row .cell, .u8s [], false⟩ L9 W)
  (hd : DataW.trod enc P W 0 (fun _ => true) true fuel t cs = some y) (n : Nat) :
  ∃ (bl : List (B8 × Loc)) (ds : List D), aB8 P k n (bl.map (·.1)) (jI P t) ds ∧ bl.length = ((jI P t).filter (aCW P)).length ∧ (∀ p ∈ bl, SatE (fun _ => none) ⟨.row .cell, .u8s p.1, false⟩ p.2 W) ∧
   ∀ ρ : Env, (∀ (j : Nat) p, bl[j]? = some p → ρ (n + j) = some p.2) → All2 (RepS ρ) (D.flats ds) cs := by
 unfold mixT at ht
 split at ht
 rotate_left
 ·cases ht
 rename_i fs hu
 simp only [Bool.and_eq_true, List.all_eq_true] at ht
 cases fuel with
 |zero => simp [DataW.trod] at hd
 |succ m =>
  unfold DataW.trod at hd
  rw [hu] at hd
  simp only at hd
  split at hd
  rotate_left
  ·cases hd
  rename_i hlen
  rw [Option.map_eq_some_iff] at hd
  obtain ⟨xs, hx, rfl⟩ := hd
  obtain ⟨bl, ds, k1, k2, k3, k4⟩ := mP k h9 (fun f => (cs.drop f.offset).take (P.cellsOf f.type)) fs.toList xs n hx ht.2
  have hft : jI P t = fs.toList.map (·.type) := by unfold jI; rw [hu]
  refine ⟨bl, ds, by rw [hft]; exact k1, ?_, k3, fun ρ hρ => ?_⟩
  ·rw [k2, hft, List.filter_map, List.length_map]; rfl
  ·have := k4 ρ hρ
   rw [mK cs fs.toList 0 _ ht.1 hlen.symm] at this
   exact this
structure RowO where
 bl : List (B8 × Loc)
 ds : List D
theorem pL (k : Nat) {e : TypeId} (he : mixT P k e = true) {W : World} {L9 : Loc} {m : Nat} (h9 : SatE (fun _ => none) ⟨.row .cell, .u8s [], false⟩ L9 W) (ab ao : Nat) (hp : 0 < P.cellsOf e) (c : Nat)
  (hc : c = ((jI P e).filter (aCW P)).length) : ∀ (len n : Nat) (o : Nat) (elems : List (DataW H × List MemPlace)), elems.length = len →
  (∀ i, i < len → (W.cells? 0 ((⟨ab, ao, none⟩ : Addr).add ((o + i) * P.cellsOf e)) (P.cellsOf e)).bind (DataW.trod enc P W 0 (fun _ => true) true m e) = elems[i]?) →
  ∃ (rows : List RowO) (cells : List Value), rows.length = len ∧ cells.length = len * P.cellsOf e ∧ (∀ j, j < len * P.cellsOf e → W.cell? ⟨ab, ao + (o * P.cellsOf e + j), none⟩ = cells[j]?) ∧
   (∀ (i : Nat) r, rows[i]? = some r → aB8 P k (n + i * c) (r.bl.map (·.1)) (jI P e) r.ds ∧ r.bl.length = c ∧ ∀ p ∈ r.bl, SatE (fun _ => none) ⟨.row .cell, .u8s p.1, false⟩ p.2 W) ∧
   ∀ ρ : Env, (∀ (i j : Nat) r p, rows[i]? = some r → r.bl[j]? = some p → ρ (n + i * c + j) = some p.2) → All2 (RepS ρ) (D.flats (rows.map fun r => .node r.ds)) cells
 |0, n, o, elems, _, _ => ⟨[], [], rfl, by simp, fun j hj => absurd hj (by simp), fun i r h => by simp at h, fun _ _ => trivial⟩
 |len + 1, n, o, elems, hl, hel => by
  match elems, hl with
  |x :: elems, hl =>
   have h0 := hel 0 (by omega)
   rw [Nat.add_zero] at h0
   simp only [List.getElem?_cons_zero] at h0
   rw [Option.bind_eq_some_iff] at h0
   obtain ⟨cs, hcs, hx⟩ := h0
   obtain ⟨_, hcl, hcell⟩ := World.cells?_some hcs
   obtain ⟨bl, ds, k1, k2, k3, k4⟩ := aCL k he h9 hx n
   obtain ⟨rows, cells, j1, j2, j3, j4, j5⟩ := pL k he h9 ab ao hp c hc len (n + c) (o + 1) elems (by simpa using hl) (fun i hi => by
    have := hel (i + 1) (by omega)
    rw [List.getElem?_cons_succ] at this
    rw [← this, show o + 1 + i = o + (i + 1) by omega])
   refine ⟨⟨bl, ds⟩ :: rows, cs ++ cells, by simp [j1], by rw [List.length_append, hcl, j2, Nat.add_mul]; omega, fun j hj => ?_, fun i r hr => ?_, fun ρ hρ => ?_⟩
   ·by_cases hjc : j < P.cellsOf e
    ·rw [List.getElem?_append_left (by omega)]
     have := hcell j hjc
     rw [← this, Addr.add_lit, Addr.add_lit, Nat.add_assoc]
    ·rw [List.getElem?_append_right (by omega), hcl]
     have := j3 (j - P.cellsOf e) (by rw [Nat.add_mul] at hj; omega)
     rw [← this]
     congr 2
     rw [Nat.add_mul]; omega
   ·cases i with
    |zero =>
     simp only [List.getElem?_cons_zero, Option.some.injEq] at hr
     subst hr
     rw [Nat.zero_mul, Nat.add_zero]
     exact ⟨k1, by rw [hc]; exact k2, k3⟩
    |succ i =>
     rw [List.getElem?_cons_succ] at hr
     have := j4 i r hr
     rw [show n + (i + 1) * c = n + c + i * c by rw [Nat.add_mul]; omega]
     exact this
   ·refine (k4 ρ fun j p hj => ?_).append (j5 ρ fun i j r p hi hj => ?_)
    ·have := hρ 0 j _ p rfl hj
     rw [Nat.zero_mul, Nat.add_zero] at this
     exact this
    ·have := hρ (i + 1) j r p (by rw [List.getElem?_cons_succ]; exact hi) hj
     rw [← this]
     congr 1
     rw [Nat.add_mul]; omega
theorem aGC (k : Nat) {t e : TypeId} (ht : P.underlying t = some (.slice e)) (he : mixT P k e = true) (hp : 0 < P.cellsOf e) (c : Nat) (hc : c = ((jI P e).filter (aCW P)).length) (tE : Ty) (hg : tE.flatTy) (hsz : tE.size = P.cellsOf e)
  (hE : ∀ n bl ds, aB8 P k n bl (jI P e) ds → aH tE (.node ds)) {r : Reach} {b0 : Nat} {W : World} {v : Value} {d : DataW H} {ps : List MemPlace} {L9 : Loc}
  (h9 : SatE (fun _ => none) ⟨.row .cell, .u8s [], false⟩ L9 W) (hval : Value.okWide P W r b0 t v) (hd : DataW.Trod enc P W 0 (fun _ => true) true t v d ps) :
  v = .slice none 0 0 ∨ ∃ (rows : List RowO) (L : Loc) (cap : Nat), rows.length ≤ cap ∧ cap < 9223372036854775808 ∧
   (∀ (i : Nat) r, rows[i]? = some r → aB8 P k (1 + i * c) (r.bl.map (·.1)) (jI P e) r.ds ∧ r.bl.length = c ∧ ∀ p ∈ r.bl, SatE (fun _ => none) ⟨.row .cell, .u8s p.1, false⟩ p.2 W) ∧
   (∀ ρ : Env, (∀ (i j : Nat) r p, rows[i]? = some r → r.bl[j]? = some p → ρ (1 + i * c + j) = some p.2) → SatE ρ ⟨.row tE, .node (rows.map fun r => .node r.ds), false⟩ L W) ∧
   ∀ (ρ : Env) (i : Nat), ρ i = some L → Rep ρ (.slice i [] 0 rows.length (some cap)) v := by
 obtain ⟨fuel, hf⟩ := hd
 have hval' : Cell.okWide P W r b0 t v := by
  simp only [Value.okWide, ht] at hval; exact hval
 rcases DataW.trod_slice ht hf with ⟨hcs, hx⟩ | ⟨a, len, cap, elems, rest, n, _, hcs, _, _, hl, hm, hlen, hel, hsp, _⟩
 ·left
  cases v <;> simp_all [Value.cells]
  simp only [Cell.okWide, ht, Cell.ok] at hval'
 right
 have hv : v = .slice (some a) len cap := by
  cases v <;> simp_all [Value.cells]
  simp only [Cell.okWide, ht, Cell.ok] at hval'
 subst hv
 simp only [Cell.okWide, ht, Cell.ok] at hval'
 obtain ⟨_, _, _, hspot, row, cells, hsh, _⟩ := hval'
 obtain ⟨C, T, fr, hC⟩ := aBx hsh
 obtain ⟨ab, ao, spot⟩ := a
 have hspot : spot = none := hspot
 subst hspot
 have hC : W.heap[ab]? = some (.cells C T fr) := hC
 obtain ⟨rows, cells, j1, j2, j3, j4, j5⟩ := pL k he h9 ab ao hp c hc len 1 0 elems hlen (fun i hi => by
  have := hel i hi
  rw [← this, Nat.zero_add])
 have hcl : ∀ j, j < len * P.cellsOf e → C[ao + j]? = cells[j]? := fun j hj => by
  have := j3 j hj
  rw [Nat.zero_mul, Nat.zero_add] at this
  rw [← this]
  simp [World.cell?, hC]
 have hbd : 0 < cap → ao + cap * P.cellsOf e ≤ C.size := by
  intro h0
  obtain ⟨y, hy⟩ : ∃ y, (W.cells? 0 ((⟨ab, ao, none⟩ : Addr).add ((cap - 1) * P.cellsOf e)) (P.cellsOf e)).bind (DataW.trod enc P W 0 (fun _ => true) true n e) = some y := by
   by_cases h : cap - 1 < len
   ·rw [hel _ h]
    exact ⟨elems[cap - 1], by rw [List.getElem?_eq_getElem (by omega)]⟩
   ·obtain ⟨h1, h2⟩ := hsp rfl
    have := h2 (cap - 1 - len) (by omega)
    rw [show len + (cap - 1 - len) = cap - 1 by omega] at this
    rw [this]
    exact ⟨rest[cap - 1 - len], by rw [List.getElem?_eq_getElem (by omega)]⟩
  rw [Option.bind_eq_some_iff] at hy
  obtain ⟨cs, hcs, _⟩ := hy
  obtain ⟨_, h1, h2⟩ := World.cells?_some hcs
  have h3 := h2 (P.cellsOf e - 1) (by omega)
  rw [Addr.add_lit, Addr.add_lit, List.getElem?_eq_getElem (by omega)] at h3
  have h4 : C[ao + (cap - 1) * P.cellsOf e + (P.cellsOf e - 1)]? = some (cs[P.cellsOf e - 1]'(by omega)) := by
   rw [← h3]; simp [World.cell?, hC]
  have h5 : ao + (cap - 1) * P.cellsOf e + (P.cellsOf e - 1) < C.size := by
   rcases Nat.lt_or_ge (ao + (cap - 1) * P.cellsOf e + (P.cellsOf e - 1)) C.size with h | h
   ·exact h
   ·rw [Array.getElem?_eq_none h] at h4; cases h4
  have h6 : cap * P.cellsOf e = (cap - 1) * P.cellsOf e + P.cellsOf e := by
   conv => lhs; rw [show cap = (cap - 1) + 1 by omega]
   rw [Nat.add_mul, Nat.one_mul]
  omega
 let base : Nat := if cap = 0 then 0 else ao
 have hlc : len * P.cellsOf e ≤ cap * P.cellsOf e := Nat.mul_le_mul_right _ hl
 have hbase : base + len * P.cellsOf e ≤ C.size := by
  by_cases h : cap = 0
  ·have : len = 0 := by omega
   simp only [base, if_pos h]; subst this; rw [Nat.zero_mul]; omega
  ·simp only [base, if_neg h]
   have := hbd (by omega)
   omega
 have hfront : (C.toList.drop base).take (len * P.cellsOf e) = cells := by
  apply List.ext_getElem?
  intro j
  rw [List.getElem?_take]
  by_cases hj : j < len * P.cellsOf e
  ·have h : ¬ cap = 0 := by
    intro h
    have : len = 0 := by omega
    subst this
    rw [Nat.zero_mul] at hj; omega
   rw [if_pos hj, List.getElem?_drop, Array.getElem?_toList]
   simp only [base, if_neg h]
   exact hcl j hj
  ·rw [if_neg hj, List.getElem?_eq_none (by omega)]
 refine ⟨rows, ⟨ab, base, C.size, .row tE⟩, cap, by omega, by unfold maxLen at hm; omega, j4, fun ρ hρ => ⟨rfl, hg, ?_, C, T, fr, C.toList.take base, (C.toList.drop base).take (len * P.cellsOf e), C.toList.drop (base + len * P.cellsOf e), hC, dV C.toList base _, ?_, rfl, ?_, fun h => by cases h⟩, fun ρ i hρ => ?_⟩
 ·show gV (aH tE) _
  refine aY.2 fun d hd => ?_
  obtain ⟨r, hr, rfl⟩ := List.mem_map.1 hd
  obtain ⟨i, hi⟩ := List.getElem?_of_mem hr
  exact hE _ _ _ (j4 i r hi).1
 ·rw [List.length_take, Array.length_toList]
  show min base C.size = base
  omega
 ·show All2 (RepS ρ) (D.flats _) _
  rw [hfront]
  exact j5 ρ hρ
 ·refine ⟨_, hρ, .row tE, tE, ⟨ab, ao, none⟩, cap, rfl, rfl, by rw [j1], by omega, by unfold maxLen at hm; omega, fun k hk => by cases hk; rfl, fun h0 => ?_⟩
  have h : ¬ cap = 0 := by omega
  have := hbd h0
  simp only [base, if_neg h, aQ]
  rw [hsz]
  exact ⟨by simp, by rw [Nat.zero_add cap]; omega⟩
end
end Go.Proofs.YtodkhgofmgaafaaGreatDoor.Av
