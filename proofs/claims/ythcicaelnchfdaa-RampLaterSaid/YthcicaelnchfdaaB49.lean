/- A part of the proofs about the chapter of the ramps; it states no condition of its own. -/
import Derived.Test.YthcicaelnchfdaaB35
import Derived.Test.YthcicaelnchfdaaB36
import Derived.Test.YthcicaelnchfdaaB37
import Derived.Test.YthcicaelnchfdaaB48
set_option linter.unusedVariables false
set_option linter.unusedSimpArgs false
open Int renaming reduceLE → zA, reduceLT → zB, reduceToNat → zC, reduceNeg → zD
open Nat renaming reduceLT → zE, reduceEqDiff → zF, reduceAdd → zG, reduceSub → zH, reduceMul → zI, reduceLeDiff → zJ
/- Yards that are easier, and yards some minutes later, plain. -/
namespace Go.Proofs.Ythcicaelnchfdaa
structure Eas (y x : Ya) : Prop where
 nr : x.ramps.length = y.ramps.length
 nc : x.carts.length = y.carts.length
 sw : x.sweep ≤ y.sweep
 op : ∀ r : Int, (raAt x r).open_ ≤ (raAt y r).open_
 sh : ∀ r : Int, (raAt y r).shut ≤ (raAt x r).shut
 be : ∀ r : Int, (raAt y r).bears ≤ (raAt x r).bears
 fr : ∀ i, (ctAt x i).from_ ≤ (ctAt y i).from_
 un : ∀ i, (ctAt y i).until_ ≤ (ctAt x i).until_
 gr : ∀ i, (ctAt x i).grams ≤ (ctAt y i).grams
 hi : ∀ i, (ctAt x i).takes.hi ≤ (ctAt y i).takes.hi
 rs : ∀ i, (ctAt x i).ramps = (ctAt y i).ramps
theorem Eas.fe {y x : Ya} (h : Eas y x) {q : List St} (hq : Fe y q) : Fe x q := by
 refine ⟨hq.len.trans h.nc.symm, fun i hi => ?_, fun i hi => ?_, fun i hi => ?_, fun i hi => ?_, fun i hi => ?_, fun i hi => ?_, fun i k hi hk hne he => ?_⟩
 ·rw [h.rs]; exact hq.r i hi
 ·have := hq.br i hi; have := h.gr i; have := h.be (stAt q i).ramp; omega
 ·have := hq.f1 i hi; have := h.fr i; omega
 ·have := hq.f2 i hi; have := h.op (stAt q i).ramp; omega
 ·have := hq.f3 i hi; have := h.un i; have := h.hi i; omega
 ·have := hq.f4 i hi; have := h.sh (stAt q i).ramp; have := h.hi i; omega
 ·have a := hq.sep i k hi hk hne he
  have := h.hi i
  have := h.hi k
  have := h.sw
  omega
theorem Eas.only {y x : Ya} (h : Eas y x) {l : List Int} (hl : ChY y l) : Eas (onlyY y l) (onlyY x l) := by
 have at_ : ∀ (z : Ya) (i : Nat), ctAt (onlyY z l) i = if i < l.length then ctAt z (l.getD i 0).toNat else Ct0 := fun z i => by
  split
  ·rename_i hi
   rw [only_at' z l hi]
   simp [hi]
  ·rename_i hi
   unfold ctAt
   rw [List.getD_eq_getElem?_getD, List.getElem?_eq_none (by rw [only_len']; omega)]
   rfl
 refine ⟨h.nr, by rw [only_len', only_len'], h.sw, h.op, h.sh, h.be, fun i => ?_, fun i => ?_, fun i => ?_, fun i => ?_, fun i => ?_⟩ <;> rw [at_, at_] <;> split
 ·exact h.fr _
 ·exact Int.le_refl _
 ·exact h.un _
 ·exact Int.le_refl _
 ·exact h.gr _
 ·exact Int.le_refl _
 ·exact h.hi _
 ·exact Int.le_refl _
 ·exact h.rs _
 ·rfl
theorem Eas.can {y x : Ya} (h : Eas y x) (hy : YaV y) (hx : YaV x) (hs : (servedR y).isSome = true) : (servedR x).isSome = true := by
 obtain ⟨q, hq⟩ := Option.isSome_iff_exists.1 hs
 obtain ⟨z, hz, _⟩ := (servedR_best hx).2 q (h.fe ((servedR_best hy).1 q hq))
 rw [hz]; rfl
theorem Eas.last {y x : Ya} (h : Eas y x) (hy : YaV y) (hx : YaV x) {p q : List St} (hp : servedR y = some p) (hq : servedR x = some q) : lastV x q ≤ lastV y p := by
 have fe := (servedR_best hy).1 p hp
 obtain ⟨z, hz, hle⟩ := (servedR_best hx).2 p (h.fe fe)
 rw [hq] at hz
 cases hz
 have h1 : lastV x p ≤ lastV y p := by
  obtain ⟨a, b⟩ := lastV_le.1 (Int.le_refl (lastV y p))
  refine lastV_le.2 ⟨a, fun i hi hc => ?_⟩
  have := b i hi (by rw [← h.nc]; exact hc)
  have := h.hi i
  omega
 rcases hle with hle | ⟨hle, _⟩ <;> omega
/-! ### some minutes later -/
def latS (n : Int) (s : St) : St := { s with from_ := s.from_ + n }
def latR (n : Int) (r : Ra) : Ra := { r with open_ := r.open_ + n, shut := r.shut + n }
def latC (n : Int) (c : Ct) : Ct := { c with from_ := c.from_ + n, until_ := c.until_ + n }
def latY (n : Int) (y : Ya) : Ya := ⟨y.ramps.map (latR n), y.carts.map (latC n), y.sweep⟩
theorem lat_ra {n : Int} {y : Ya} {r : Int} (h0 : 0 ≤ r) (h : r < y.ramps.length) : raAt (latY n y) r = latR n (raAt y r) := by
 have := raAt_get h0 h
 unfold raAt latY
 simp only
 rw [List.getD_eq_getElem?_getD, List.getElem?_map, this]
 rfl
theorem lat_ct {n : Int} {y : Ya} {i : Nat} (h : i < y.carts.length) : ctAt (latY n y) i = latC n (ctAt y i) := by
 have := ctAt_get h
 conv => lhs; unfold ctAt latY
 simp only
 rw [List.getD_eq_getElem?_getD, List.getElem?_map, this]
 rfl
theorem lat_st {n : Int} {q : List St} {i : Nat} (h : i < q.length) : stAt (q.map (latS n)) i = latS n (stAt q i) := by
 have := stAt_get h
 conv => lhs; unfold stAt
 rw [List.getD_eq_getElem?_getD, List.getElem?_map, this]
 rfl
theorem lat_fe {n : Int} {y : Ya} (hy : YaV y) {q : List St} : Fe (latY n y) (q.map (latS n)) ↔ Fe y q := by
 have hnr : (latY n y).ramps.length = y.ramps.length := by simp [latY]
 have hnc : (latY n y).carts.length = y.carts.length := by simp [latY]
 have hrr : ∀ i, i < y.carts.length → ∀ r ∈ (ctAt y i).ramps, 0 ≤ r ∧ r < y.ramps.length := fun i hi r hr => (hy.ct _ (ctAt_mem hi)).r r hr
 constructor
 ·intro h
  have hl : q.length = y.carts.length := by have := h.len; rw [hnc] at this; simpa using this
  have hb : ∀ i, i < q.length → i < (q.map (latS n)).length ∧ i < y.carts.length := fun i hi => by simp; omega
  have hr : ∀ i, i < q.length → (stAt q i).ramp ∈ (ctAt y i).ramps := fun i hi => by
   have := h.r i (hb i hi).1
   rwa [lat_st hi, lat_ct (hb i hi).2] at this
  have hra : ∀ i (hi : i < q.length), raAt (latY n y) (stAt q i).ramp = latR n (raAt y (stAt q i).ramp) := fun i hi => by
   obtain ⟨a, b⟩ := hrr i (hb i hi).2 _ (hr i hi)
   exact lat_ra a b
  refine ⟨hl, hr, fun i hi => ?_, fun i hi => ?_, fun i hi => ?_, fun i hi => ?_, fun i hi => ?_, fun i k hi hk hne he => ?_⟩
  ·have := h.br i (hb i hi).1
   rw [lat_st hi, lat_ct (hb i hi).2] at this
   simp only [latS] at this
   rw [hra i hi] at this
   exact this
  ·have := h.f1 i (hb i hi).1
   rw [lat_st hi, lat_ct (hb i hi).2] at this
   simp only [latS, latC] at this
   omega
  ·have := h.f2 i (hb i hi).1
   rw [lat_st hi] at this
   simp only [latS] at this
   rw [hra i hi] at this
   simp only [latR] at this
   omega
  ·have := h.f3 i (hb i hi).1
   rw [lat_st hi, lat_ct (hb i hi).2] at this
   simp only [latS, latC] at this
   omega
  ·have := h.f4 i (hb i hi).1
   rw [lat_st hi, lat_ct (hb i hi).2] at this
   simp only [latS] at this
   rw [hra i hi] at this
   simp only [latR, latC] at this
   omega
  ·have := h.sep i k (hb i hi).1 (hb k hk).1 hne (by rw [lat_st hi, lat_st hk]; exact he)
   rw [lat_st hi, lat_st hk, lat_ct (hb i hi).2, lat_ct (hb k hk).2] at this
   simp only [latS, latC, latY] at this
   omega
 ·intro h
  have hl := h.len
  have hb : ∀ i, i < (q.map (latS n)).length → i < q.length ∧ i < y.carts.length := fun i hi => by simp at hi; omega
  have hra : ∀ i (hi : i < q.length), raAt (latY n y) (stAt q i).ramp = latR n (raAt y (stAt q i).ramp) := fun i hi => by
   obtain ⟨a, b⟩ := hrr i (by omega) _ (h.r i hi)
   exact lat_ra a b
  refine ⟨by rw [hnc]; simpa using hl, fun i hi => ?_, fun i hi => ?_, fun i hi => ?_, fun i hi => ?_, fun i hi => ?_, fun i hi => ?_, fun i k hi hk hne he => ?_⟩
  ·rw [lat_st (hb i hi).1, lat_ct (hb i hi).2]; exact h.r i (hb i hi).1
  ·rw [lat_st (hb i hi).1, lat_ct (hb i hi).2]
   simp only [latS]
   rw [hra i (hb i hi).1]
   exact h.br i (hb i hi).1
  ·rw [lat_st (hb i hi).1, lat_ct (hb i hi).2]
   have := h.f1 i (hb i hi).1
   simp only [latS, latC]
   omega
  ·rw [lat_st (hb i hi).1]
   simp only [latS]
   rw [hra i (hb i hi).1]
   have := h.f2 i (hb i hi).1
   simp only [latR]
   omega
  ·rw [lat_st (hb i hi).1, lat_ct (hb i hi).2]
   have := h.f3 i (hb i hi).1
   simp only [latS, latC]
   omega
  ·rw [lat_st (hb i hi).1, lat_ct (hb i hi).2]
   simp only [latS]
   rw [hra i (hb i hi).1]
   have := h.f4 i (hb i hi).1
   simp only [latR, latC]
   omega
  ·rw [lat_st (hb i hi).1, lat_st (hb k hk).1] at he ⊢
   rw [lat_ct (hb i hi).2, lat_ct (hb k hk).2]
   have := h.sep i k (hb i hi).1 (hb k hk).1 hne he
   simp only [latS, latC, latY]
   omega
theorem lat_un (n : Int) (q : List St) : ((q.map (latS (-n))).map (latS n)) = q := by
 rw [List.map_map]
 conv => rhs; rw [← List.map_id q]
 congr 1
 funext s
 show (⟨s.ramp, s.from_ + -n + n⟩ : St) = s
 rw [show s.from_ + -n + n = s.from_ by omega]
theorem lat_before {n : Int} : ∀ {a b : List St}, beforeB (a.map (latS n)) (b.map (latS n)) = beforeB a b
 | [], b => by simp [beforeB]
 | x :: a, [] => by simp [beforeB]
 | x :: a, z :: b => by
  have e : (latS n x = latS n z) = (x = z) := by
   apply propext
   constructor
   ·intro h
    have := congrArg St.ramp h
    have := congrArg St.from_ h
    simp only [latS] at *
    cases x; cases z
    simp only [St.mk.injEq] at *
    omega
   ·rintro rfl; rfl
  have e2 : sltB (latS n x) (latS n z) = sltB x z := by
   unfold sltB latS
   simp
  simp only [List.map_cons, beforeB, e, e2, lat_before]
theorem lat_last {n : Int} {y : Ya} {q : List St} (hn : 0 ≤ n) (hl : q.length = y.carts.length) (h0 : 0 < q.length) (hb : ∀ i, i < q.length → 0 ≤ (stAt q i).from_ + (ctAt y i).takes.hi) : lastV (latY n y) (q.map (latS n)) = lastV y q + n := by
 have hnc : (latY n y).carts.length = y.carts.length := by simp [latY]
 have key : ∀ m, lastV (latY n y) (q.map (latS n)) ≤ m ↔ lastV y q + n ≤ m := fun m => by
  rw [lastV_le]
  constructor
  ·intro ⟨a, b⟩
   have c : ∀ i, i < q.length → (stAt q i).from_ + (ctAt y i).takes.hi ≤ m - n := fun i hi => by
    have := b i (by simpa using hi) (by rw [hnc]; omega)
    rw [lat_st hi, lat_ct (by omega)] at this
    simp only [latS, latC] at this
    omega
   have : lastV y q ≤ m - n := lastV_le.2 ⟨by have := c 0 h0; have := hb 0 h0; omega, fun i hi _ => c i hi⟩
   omega
  ·intro h
   obtain ⟨a, b⟩ := lastV_le.1 (show lastV y q ≤ m - n by omega)
   refine ⟨by omega, fun i hi hc => ?_⟩
   have hi' : i < q.length := by simpa using hi
   rw [lat_st hi', lat_ct (by omega)]
   have := b i hi' (by omega)
   simp only [latS, latC]
   omega
 have h1 := (key _).1 (Int.le_refl _)
 have h2 := (key _).2 (Int.le_refl _)
 omega
theorem lat_served {n : Int} (hn : 0 ≤ n) {y : Ya} (hy : YaV y) (hx : YaV (latY n y)) : servedR (latY n y) = (servedR y).map fun p => p.map (latS n) := by
 cases h : servedR y with
 | none =>
  rw [Option.map_none]
  cases h2 : servedR (latY n y) with
  | none => rfl
  | some q =>
   have fe := (servedR_best hx).1 q h2
   rw [← lat_un n q] at fe
   obtain ⟨z, hz, _⟩ := (servedR_best hy).2 _ ((lat_fe hy).1 fe)
   rw [h] at hz; cases hz
 | some p =>
  have fe := (servedR_best hy).1 p h
  obtain ⟨q, hq, hle⟩ := (servedR_best hx).2 _ ((lat_fe (n := n) hy).2 fe)
  rw [hq, Option.map_some]
  have feq := (servedR_best hx).1 q hq
  rw [← lat_un n q] at feq
  have fe2 := (lat_fe hy).1 feq
  obtain ⟨z, hz, hle2⟩ := (servedR_best hy).2 _ fe2
  rw [h] at hz
  cases hz
  have hl1 := fe.len
  have hl2 := fe2.len
  have hlq : q.length = p.length := by rw [hl1]; simpa using hl2
  congr 1
  refine leP_anti (y := latY n y) (by simpa using hlq) hle ?_
  -- the other way round
  rcases Nat.eq_zero_or_pos p.length with h0 | h0
  ·have e1 : p = [] := List.length_eq_zero_iff.1 h0
   have e2 : q = [] := List.length_eq_zero_iff.1 (by omega)
   rw [e1, e2]; exact leP_refl _ _
  ·have b1 := lat_last (n := n) hn hl1 h0 (fun i hi => by have := fe.bd hy hi; omega)
   have b2 := lat_last (n := n) (q := q.map (latS (-n))) hn hl2 (by simp; omega) (fun i hi => by have := fe2.bd hy hi; omega)
   rw [lat_un] at b2
   have b3 := lat_before (n := n) (a := q.map (latS (-n))) (b := p)
   rw [lat_un] at b3
   unfold leP at hle2 ⊢
   rw [b1, b2, b3]
   rcases hle2 with hh | ⟨hh, hb⟩
   ·exact .inl (by omega)
   ·exact .inr ⟨by omega, hb⟩
end Go.Proofs.Ythcicaelnchfdaa

/- The law of all times later, on values. (Vm) -/
namespace Go.Proofs.Ythcicaelnchfdaa.Vm
open Go Go.Proofs
theorem lat_valid {m n : Int} {y : Ya} (md : MadeY 3 5 m y) (hm : m ≤ 60) (hn : 0 ≤ n ∧ n < 400) : YaV (latY n y) := by
 have h1 := md.n0
 have h2 := md.n1
 have h3 := md.m1
 have h4 := md.s0
 have h5 := md.s1
 refine ⟨by simpa [latY] using h1, by simp [latY]; omega, fun r hr => ?_, by simp [latY]; omega, fun c hc => ?_, h4, by show y.sweep ≤ 480; omega⟩
 ·obtain ⟨r0, h0, rfl⟩ := List.mem_map.1 hr
  have k := md.ra r0 h0
  have := k.o0
  have := k.os
  have := k.s1
  have := k.b0
  have := k.b1
  refine ⟨?_, ?_, ?_, ?_, ?_⟩ <;> simp only [latR] <;> omega
 ·obtain ⟨c0, h0, rfl⟩ := List.mem_map.1 hc
  have k := md.ct c0 h0
  have := k.f0
  have := k.fu
  have := k.u1
  have := k.h1
  have := k.g1
  refine ⟨?_, ?_, ?_, k.l0, k.lh, ?_, k.g0, ?_, by simpa [latY, latC] using k.r, k.asc⟩ <;> simp only [latC] <;> omega
theorem lat_only (n : Int) {y : Ya} {l : List Int} (hl : ChY y l) : onlyY (latY n y) l = latY n (onlyY y l) := by
 have e : (l.map fun k => ctAt (latY n y) k.toNat) = (l.map fun k => ctAt y k.toNat).map (latC n) := by
  rw [List.map_map]
  refine List.map_congr_left fun k hk => ?_
  have := hl.m k hk
  exact lat_ct (by omega)
 unfold onlyY
 rw [e]; rfl
theorem lat_stuck {n : Int} (hn : 0 ≤ n) {y : Ya} (hy : YaV y) (hx : YaV (latY n y)) : stuckT (latY n y) = stuckT y := by
 have hnc : (latY n y).carts.length = y.carts.length := by simp [latY]
 have hL : stuckL (latY n y) = stuckL y := by unfold stuckL; rw [hnc]
 have hcan : ∀ l ∈ stuckL y, canB (latY n y) l = canB y l := fun l hl => by
  unfold stuckL at hl
  obtain ⟨m, _, hm⟩ := List.mem_flatMap.1 hl
  obtain ⟨ch, _⟩ := choices_ch hm
  unfold canB
  have hv : YaV (latY n (onlyY y l)) := by
   rw [← lat_only n ch]
   exact ChY.ok ⟨fun z hz => by rw [hnc]; exact ch.m z hz, ch.asc⟩ hx
  rw [lat_only n ch, lat_served hn (ch.ok hy) hv]
  cases servedR (onlyY y l) <;> rfl
 have hf : (stuckL y).find? (fun l => !canB (latY n y) l) = (stuckL y).find? (fun l => !canB y l) := by
  generalize stuckL y = W at hcan
  induction W with
  | nil => rfl
  | cons a W ih =>
   rw [List.find?_cons, List.find?_cons, hcan a (by simp), ih fun l hl => hcan l (by simp [hl])]
 unfold stuckT
 rw [if_pos (yErr_ok.2 hx), if_pos (yErr_ok.2 hy), hL, hf]
attribute [local irreducible] castF castU fromF fromU oneF oneU yardS
set_option maxHeartbeats 16000000 in
set_option maxRecDepth 100000 in
theorem later_law_v (xs : List Int) (M : Mem) (hl : xs.length ≤ maxLen) : VC Try.prog 8 [intsV xs] M (fun r M' => M' = M ∧ r = vb true) := by
 refine VC_own' T_ok (f := 8) (fn := Try.f8) (by kernel_rfl) rfl Try.ntmps8 (by rfl) (by rfl) ?_
 ((repeat refine Ws ?_);refine W_regionE T_ok ?_; intro Kn hKn)
 ((simp (maxSteps := 1000000) only [VL,VM,↓VG,reduceIte,reduceCtorEq,zA,zB,zC,zD,zE,zF,zG,zH,zI,zJ]); rw [hKn];clear hKn Kn;simp only [QV,reduceIte,reduceCtorEq,Nat.reduceEqDiff])
 ((repeat refine Ws ?_);refine Wr ?_)
 simp (maxSteps := 1000000) only [VL,VM,↓VG,reduceIte,reduceCtorEq,zA,zB,zC,zD,zE,zF,zG,zH,zI,zJ]
 apply call_eq (f := 17) (fn := Try.f17) (by kernel_rfl) (by rfl)
 ·exact dieOf_v xs _ hl
 obtain ⟨H0, hH0⟩ : ∃ H0, H0 = M.H ++ [VObj.dead] := ⟨_, rfl⟩
 obtain ⟨d, hdd⟩ : ∃ d, d = M.H.length := ⟨_, rfl⟩
 have hd : d < H0.length := by rw [hH0, hdd]; simp
 have hlen0 : H0.length = M.H.length + 1 := by rw [hH0]; simp
 have tail : ∀ u L, DH H0 d u L = M.H ++ (.obj [uv u] :: L) := fun u L => by
  rw [hH0, hdd]
  exact DH_tail M u L
 rw [← hH0, ← hdd]
 generalize dieU xs = u0
 simp (maxSteps := 1000000) only [VL,VM,↓VG,reduceIte,reduceCtorEq,zA,zB,zC,zD,zE,zF,zG,zH,zI,zJ]
 have o1 := one2 (u := u0) (a := 9) (b := 60)
 ((repeat refine Ws ?_);refine Wr ?_)
 simp (maxSteps := 1000000) only [VL,VM,↓VG,reduceIte,reduceCtorEq,zA,zB,zC,zD,zE,zF,zG,zH,zI,zJ]
 apply call_eq (f := 19) (fn := Try.f19) (by kernel_rfl) (by rfl)
 ·exact one_c hd u0 [9, 60] M.lg (by simp) (by simp)
 generalize oneF u0 [9, 60] = m1 at o1 ⊢
 generalize oneU u0 [9, 60] = u1
 simp (maxSteps := 1000000) only [VL,VM,↓VG,reduceIte,reduceCtorEq,zA,zB,zC,zD,zE,zF,zG,zH,zI,zJ]
 apply call_eq (f := 18) (fn := Try.f18) (by kernel_rfl) (by rfl)
 ·exact yardOf_d hd u1 M.lg 3 5 m1 (by omega) (by omega) (by omega)
 have md := yardS_made (u := u1) (A := 3) (B := 5) (m := m1) (by omega) (by omega) (by omega)
 generalize yardS u1 3 5 m1 = y2 at md ⊢
 obtain ⟨y, u2⟩ := y2
 simp only at md ⊢
 have hm60 : m1 ≤ 60 := by omega
 have hy := md.V (by omega) (by omega) (by omega)
 have lens := md.len (by omega) (by omega)
 simp (maxSteps := 1000000) only [VL,VM,↓VG,reduceIte,reduceCtorEq,zA,zB,zC,zD,zE,zF,zG,zH,zI,zJ, DH_app hd, DH_len, DH_len0, DH_get hd, DH_get0 hd, DH_set hd, DH_set0 hd, DH_setd, DH_die hd]
 ((repeat refine Ws ?_);refine Wr ?_)
 simp (maxSteps := 1000000) only [VL,VM,↓VG,reduceIte,reduceCtorEq,zA,zB,zC,zD,zE,zF,zG,zH,zI,zJ, DH_app hd, DH_len, DH_len0, DH_get hd, DH_get0 hd, DH_set hd, DH_set0 hd, DH_setd, DH_die hd]
 have c1 := castF_range (u := u2) (n := 400) (by omega)
 apply call_eq (f := 33) (fn := Try.f33) (by kernel_rfl) (by rfl)
 ·exact cast_c hd u2 400 M.lg (by omega)
 generalize castF u2 400 = n at c1 ⊢
 generalize castU u2 400 = u3
 have hn : 0 ≤ n ∧ n < 400 := by omega
 clear c1
 simp (maxSteps := 1000000) only [VL,VM,↓VG,reduceIte,reduceCtorEq,zA,zB,zC,zD,zE,zF,zG,zH,zI,zJ, DH_app hd, DH_len, DH_len0, DH_get hd, DH_get0 hd, DH_set hd, DH_set0 hd, DH_setd, DH_die hd]
 ((repeat refine Ws ?_);refine Wr ?_)
 simp (maxSteps := 1000000) only [VL,VM,↓VG,reduceIte,reduceCtorEq,zA,zB,zC,zD,zE,zF,zG,zH,zI,zJ, DH_app hd, DH_len, DH_len0, DH_get hd, DH_get0 hd, DH_set hd, DH_set0 hd, DH_setd, DH_die hd]
 refine fn_call (f := 20) (fn := Try.f20) (by kernel_rfl) (by rfl) ?_
 refine (copyYard_own y _ lens.1 lens.2.1 lens.2.2).mono ?_
 rintro _ _ ⟨J, q, X, o1', o2', rfl, hX, rfl, hJq⟩
 have hH1 : ∀ L, (DH H0 d u3 L).length = H0.length + L.length := fun L => DH_len
 obtain ⟨L1, hL1⟩ : ∃ L1, L1 = VObj.obj (yardC y) :: .obj o1' :: .obj o2' :: .obj (raF y.ramps) :: J := ⟨_, rfl⟩
 obtain ⟨G, hG⟩ : ∃ G, G = H0 ++ L1 := ⟨_, rfl⟩
 have hGl : G.length = H0.length + (J.length + 4) := by rw [hG, hL1]; simp
 obtain ⟨rid, hrid⟩ : ∃ rid, rid = H0.length + 3 := ⟨_, rfl⟩
 obtain ⟨cid, hcid⟩ : ∃ cid, cid = H0.length + (1 + (3 + q)) := ⟨_, rfl⟩
 have hr : rid < G.length := by omega
 have hdr : d ≠ rid := by omega
 have hdl : d < G.length := by omega
 have hc : y.carts.length ≠ 0 → cid < G.length ∧ cid ≠ rid ∧ d ≠ cid := fun h => by
  have := (List.getElem?_eq_some_iff.1 (hJq h)).1
  omega
 have hself : GX G rid cid y.carts.length (raF y.ramps) (ctF y.carts) = G := GX_self (by rw [hG, hrid, hget, hL1]; rfl) fun h => by
  rw [hG, hcid, hget, hL1, show 1 + (3 + q) = q + 1 + 1 + 1 + 1 by omega]
  simp only [List.getElem?_cons_succ]
  exact hJq h
 have hX2 : ∀ e ∈ X, H0.length ≤ e.1 := fun e he => by
  have := hX e he
  simp only [hH1] at this
  omega
 have hcell := cvP_cell y.carts.length (H0.length + (1 + (3 + q)))
 simp (maxSteps := 1000000) only [VL,VM,↓VG,reduceIte,reduceCtorEq,zA,zB,zC,zD,zE,zF,zG,zH,zI,zJ, DH_app hd, DH_len, DH_len0, DH_get hd, DH_get0 hd, DH_set hd, DH_set0 hd, DH_setd, DH_die hd, hcell]
 rw [← hrid, ← hcid]
 obtain ⟨Y2, hY2, g2⟩ := addLg_Y (H0.length + (J.length + 4)) (rid :: refs (cvP y.carts.length cid)) (M.lg ++ X)
 rw [hY2, List.append_assoc]
 have hXY : ∀ e ∈ X ++ Y2, M.H.length ≤ e.1 := fun e he => by
  rcases List.mem_append.1 he with he | he
  ·have := hX2 e he; omega
  ·have := (g2 e he).1; omega
 generalize X ++ Y2 = XY at hXY ⊢
 have hmem : ∀ B, DH H0 d u3 (VObj.obj (yardC y) :: .obj o1' :: .obj o2' :: .obj (raF y.ramps) :: (J ++ [.obj B])) = DH (GX G rid cid y.carts.length (raF y.ramps) (ctF y.carts)) d u3 [.obj B] := fun B => by
  rw [hself, hG, hL1]
  unfold DH
  congr 1
  simp
 rw [hmem, ← hGl]
 have hGd : ∀ R C, d < (GX G rid cid y.carts.length R C).length := fun R C => by rw [GX_len]; exact hdl
 have gx : ∀ R C L, (DH (GX G rid cid y.carts.length R C) d u3 L)[G.length]? = L[0]? := fun R C L => by
  have := DH_get0 (hGd R C) (u := u3) (L := L)
  rwa [GX_len] at this
 have gr : ∀ R C L, (DH (GX G rid cid y.carts.length R C) d u3 L)[rid]? = some (.obj R) := fun R C L => GX_r hr hc hdr u3 R C L
 have grs : ∀ R C L R', (DH (GX G rid cid y.carts.length R C) d u3 L).set rid (.obj R') = DH (GX G rid cid y.carts.length R' C) d u3 L := fun R C L R' => GX_rs hr hc hdr u3 R C L R'
 have hyb : G[H0.length]? = some (.obj (yardC y)) := by rw [hG, hget0, hL1]; rfl
 have pre : ∀ i, i < M.H.length → G[i]? = M.H[i]? := fun i hi => by
  rw [hG, hH0, List.append_assoc, List.getElem?_append_left hi]
 ((repeat refine Ws ?_);refine Wr ?_)
 simp (maxSteps := 1000000) only [VL,VM,↓VG,reduceIte,reduceCtorEq,zA,zB,zC,zD,zE,zF,zG,zH,zI,zJ]
 ((repeat refine Ws ?_);refine W_block ?_; (repeat refine Ws ?_)); refine W_loopS (fun i : Nat => [(4, .ptr H0.length 0), (5, vi n), (6, .ptr G.length 0), (7, vi i)]) (fun i => ⟨DH (GX G rid cid y.carts.length (raF (mixL (latR n) y.ramps i)) (ctF y.carts)) d u3 [.obj [.bf rid 0 y.ramps.length 3, cvP y.carts.length cid, vi y.sweep]], M.lg ++ XY⟩) (fun i => y.ramps.length - i) (fun i => i ≤ y.ramps.length) 0 (Nat.zero_le _) ⟨rfl, rfl, rfl, rfl, trivial⟩ (by rw [mix_zero]) ?_
 intro i hi
 have k1 : -9223372036854775808 ≤ (i : Int) + 1 ∧ (i : Int) + 1 < 9223372036854775808 := by omega
 ((repeat refine Ws ?_);refine W_regionE T_ok ?_; intro Kn hKn)
 rcases Nat.lt_or_ge i y.ramps.length with hlt | hge
 ·have k2 : ((i : Int) < (y.ramps.length : Int)) = True := eq_true (by omega)
  have hx : y.ramps[i]? = some y.ramps[i] := List.getElem?_eq_getElem hlt
  have hrm := md.ra _ (List.getElem_mem hlt)
  generalize y.ramps[i] = r at hx hrm
  have v1 := hrm.o0
  have v2 := hrm.os
  have v3 := hrm.s1
  have hma := mix_at (latR n) y.ramps i hlt
  rw [hx] at hma
  have hms := mix_set (latR n) y.ramps i r hx
  have hml := mix_len (latR n) y.ramps i hi
  generalize mixL (latR n) y.ramps i = rs at hma hms hml ⊢
  obtain ⟨x0, x1, x2⟩ := raF_at rs i r hma
  have xp := raF_put2 rs i r (r.open_ + n) (r.shut + n) hma
  have xl : (raF rs).length = y.ramps.length * 3 := by rw [raF_len, hml]
  ((simp (maxSteps := 1000000) only [VL,VM,↓VG,reduceIte,reduceCtorEq,zA,zB,zC,zD,zE,zF,zG,zH,zI,zJ, gx, k2]); rw [hKn];clear hKn Kn;simp only [QV,reduceIte,reduceCtorEq,Nat.reduceEqDiff])
  ((repeat refine Ws ?_);refine Wt (by first|rfl|simp only [EV,zF,reduceIte]) ?_)
  (((repeat refine Ws ?_);refine W_skip ?_); simp only [QV,reduceIte,reduceCtorEq,Nat.reduceEqDiff])
  ((repeat refine Ws ?_);refine W_block ?_)
  ·skip
   (repeat refine Ws ?_)
   refine W_drawE T_ok [] (by kernel_rfl) (by kernel_rfl) ?_
   intro Kn hKn
   generalize hi : mkPlan _ = infs
   cbv at hi
   subst hi
   replace v1 : 0 ≤ r.open_ := v1
   have t1 : -9223372036854775808 ≤ r.open_ + n ∧ r.open_ + n < 9223372036854775808 := by omega
   have t2 : -9223372036854775808 ≤ r.shut + n ∧ r.shut + n < 9223372036854775808 := by omega
   have t3 : (i < y.ramps.length) = True := eq_true hlt
   have t4 : (i * 3 + 1 ≤ y.ramps.length * 3) = True := eq_true (by omega)
   have t5 : (i * 3 + 2 ≤ (List.take (i * 3) (raF rs)).length + ((List.drop (i * 3 + 1) (raF rs)).length + 1)) = True := eq_true (by
    rw [List.length_take, List.length_drop, xl]
    omega)
   ((simp (maxSteps := 1000000) only [VL,VM,↓VG,reduceIte,reduceCtorEq,zA,zB,zC,zD,zE,zF,zG,zH,zI,zJ, gx, gr, grs, x0, x1, t1, t2, t3, t4, t5, xl, xp]); rw [hKn];clear hKn Kn;simp only [QV,reduceIte,reduceCtorEq,Nat.reduceEqDiff])
   ((repeat refine Ws ?_);refine W_regionE T_ok ?_; intro Kn hKn)
   ((simp (maxSteps := 1000000) only [VL,VM,↓VG,reduceIte,reduceCtorEq,zA,zB,zC,zD,zE,zF,zG,zH,zI,zJ, k1]); rw [hKn];clear hKn Kn;simp only [QV,reduceIte,reduceCtorEq,Nat.reduceEqDiff])
   refine LoopK.mk (i + 1) (by omega) (by omega) ⟨rfl, rfl, rfl, rfl, trivial⟩ ?_
   rw [← hms]; rfl
 have k2 : ((i : Int) < (y.ramps.length : Int)) = False := eq_false (by omega)
 obtain rfl : i = y.ramps.length := by omega
 rw [mix_all]
 ((simp (maxSteps := 1000000) only [VL,VM,↓VG,reduceIte,reduceCtorEq,zA,zB,zC,zD,zE,zF,zG,zH,zI,zJ, gx, k2]); rw [hKn];clear hKn Kn;simp only [QV,reduceIte,reduceCtorEq,Nat.reduceEqDiff])
 ((repeat refine Ws ?_);refine Wf (by first|rfl|simp only [EV,zF,reduceIte]) ?_)
 (((repeat refine Ws ?_);refine W_exit ?_); simp only [QV,reduceIte,reduceCtorEq,Nat.reduceEqDiff])
 have hrl : (y.ramps.map (latR n)).length = y.ramps.length := by simp
 generalize hRs : y.ramps.map (latR n) = rs at hrl ⊢
 refine W_seq ?_
 refine W_then [(4, .ptr H0.length 0), (5, vi n), (6, .ptr G.length 0)] ⟨DH (GX G rid cid y.carts.length (raF rs) (ctF (y.carts.map (latC n)))) d u3 [.obj [.bf rid 0 y.ramps.length 3, cvP y.carts.length cid, vi y.sweep]], M.lg ++ XY⟩ ?_ ?_
 ·rcases Nat.eq_zero_or_pos y.carts.length with h0 | h0
  ·have hcv : cvP y.carts.length cid = .p (.sl 0 []) := by rw [cvP, if_pos h0]
   have hcs : y.carts = [] := List.length_eq_zero_iff.1 h0
   ((repeat refine Ws ?_);refine Wr ?_)
   simp (maxSteps := 1000000) only [VL,VM,↓VG,reduceIte,reduceCtorEq,zA,zB,zC,zD,zE,zF,zG,zH,zI,zJ]
   ((repeat refine Ws ?_);refine W_block ?_; (repeat refine Ws ?_)); refine W_loopS (fun _ : Unit => [(4, .ptr H0.length 0), (5, vi n), (6, .ptr G.length 0), (8, vi 0)]) (fun _ => ⟨DH (GX G rid cid y.carts.length (raF rs) (ctF y.carts)) d u3 [.obj [.bf rid 0 y.ramps.length 3, .p (.sl 0 []), vi y.sweep]], M.lg ++ XY⟩) (fun _ => 0) (fun _ => True) () trivial ⟨rfl, rfl, rfl, rfl, trivial⟩ (by rw [hcv]) ?_
   rintro _ _
   ((repeat refine Ws ?_);refine W_regionE T_ok ?_; intro Kn hKn)
   ((simp (maxSteps := 1000000) only [VL,VM,↓VG,reduceIte,reduceCtorEq,zA,zB,zC,zD,zE,zF,zG,zH,zI,zJ, gx, show ((0 : Int) < ((0 : Nat) : Int)) = False from eq_false (by omega), show ((0 : Int) < (([] : List (List PV)).length : Int)) = False from eq_false (by simp)]); rw [hKn];clear hKn Kn;simp only [QV,reduceIte,reduceCtorEq,Nat.reduceEqDiff])
   ((repeat refine Ws ?_);refine Wf (by first|rfl|simp only [EV,zF,reduceIte]) ?_)
   (((repeat refine Ws ?_);refine W_exit ?_); simp only [QV,reduceIte,reduceCtorEq,Nat.reduceEqDiff])
   refine ⟨trivial, trivial, ?_, rfl, rfl, rfl, trivial⟩
   rw [hcv, hcs]; rfl
  ·have hn0 : y.carts.length ≠ 0 := by omega
   have hcv : cvP y.carts.length cid = .bf cid 0 y.carts.length 6 := by rw [cvP, if_neg hn0]
   have gc : ∀ R C L, (DH (GX G rid cid y.carts.length R C) d u3 L)[cid]? = some (.obj C) := fun R C L => GX_c hc u3 R C L hn0
   have gcs : ∀ R C L C', (DH (GX G rid cid y.carts.length R C) d u3 L).set cid (.obj C') = DH (GX G rid cid y.carts.length R C') d u3 L := fun R C L C' => GX_cs hc u3 R C L hn0 C'
   rw [hcv]
   ((repeat refine Ws ?_);refine Wr ?_)
   simp (maxSteps := 1000000) only [VL,VM,↓VG,reduceIte,reduceCtorEq,zA,zB,zC,zD,zE,zF,zG,zH,zI,zJ]
   ((repeat refine Ws ?_);refine W_block ?_; (repeat refine Ws ?_)); refine W_loopS (fun i : Nat => [(4, .ptr H0.length 0), (5, vi n), (6, .ptr G.length 0), (8, vi i)]) (fun i => ⟨DH (GX G rid cid y.carts.length (raF rs) (ctF (mixL (latC n) y.carts i))) d u3 [.obj [.bf rid 0 y.ramps.length 3, .bf cid 0 y.carts.length 6, vi y.sweep]], M.lg ++ XY⟩) (fun i => y.carts.length - i) (fun i => i ≤ y.carts.length) 0 (Nat.zero_le _) ⟨rfl, rfl, rfl, rfl, trivial⟩ (by rw [mix_zero]) ?_
   intro i hi
   have k1 : -9223372036854775808 ≤ (i : Int) + 1 ∧ (i : Int) + 1 < 9223372036854775808 := by omega
   ((repeat refine Ws ?_);refine W_regionE T_ok ?_; intro Kn hKn)
   rcases Nat.lt_or_ge i y.carts.length with hlt | hge
   ·have k2 : ((i : Int) < (y.carts.length : Int)) = True := eq_true (by omega)
    have hx : y.carts[i]? = some y.carts[i] := List.getElem?_eq_getElem hlt
    have hrm := md.ct _ (List.getElem_mem hlt)
    generalize y.carts[i] = r at hx hrm
    have v1 := hrm.f0
    have v2 := hrm.fu
    have v3 := hrm.u1
    have hma := mix_at (latC n) y.carts i hlt
    rw [hx] at hma
    have hms := mix_set (latC n) y.carts i r hx
    have hml := mix_len (latC n) y.carts i hi
    generalize mixL (latC n) y.carts i = cs at hma hms hml ⊢
    obtain ⟨x0, x1, _, _, _⟩ := ctF_at cs i r hma
    have xp := ctF_put2 cs i r (r.from_ + n) (r.until_ + n) hma
    have xl : (ctF cs).length = y.carts.length * 6 := by rw [ctF_len, hml]
    ((simp (maxSteps := 1000000) only [VL,VM,↓VG,reduceIte,reduceCtorEq,zA,zB,zC,zD,zE,zF,zG,zH,zI,zJ, gx, k2]); rw [hKn];clear hKn Kn;simp only [QV,reduceIte,reduceCtorEq,Nat.reduceEqDiff])
    ((repeat refine Ws ?_);refine Wt (by first|rfl|simp only [EV,zF,reduceIte]) ?_)
    (((repeat refine Ws ?_);refine W_skip ?_); simp only [QV,reduceIte,reduceCtorEq,Nat.reduceEqDiff])
    ((repeat refine Ws ?_);refine W_block ?_)
    ·skip
     (repeat refine Ws ?_)
     refine W_drawE T_ok [] (by kernel_rfl) (by kernel_rfl) ?_
     intro Kn hKn
     generalize hi : mkPlan _ = infs
     cbv at hi
     subst hi
     replace v1 : 0 ≤ r.from_ := v1
     have t1 : -9223372036854775808 ≤ r.from_ + n ∧ r.from_ + n < 9223372036854775808 := by omega
     have t2 : -9223372036854775808 ≤ r.until_ + n ∧ r.until_ + n < 9223372036854775808 := by omega
     have t3 : (i < y.carts.length) = True := eq_true hlt
     have t4 : (i * 6 + 1 ≤ y.carts.length * 6) = True := eq_true (by omega)
     have t5 : (i * 6 + 2 ≤ (List.take (i * 6) (ctF cs)).length + ((List.drop (i * 6 + 1) (ctF cs)).length + 1)) = True := eq_true (by
      rw [List.length_take, List.length_drop, xl]
      omega)
     ((simp (maxSteps := 1000000) only [VL,VM,↓VG,reduceIte,reduceCtorEq,zA,zB,zC,zD,zE,zF,zG,zH,zI,zJ, gx, gc, gcs, x0, x1, t1, t2, t3, t4, t5, xl, xp]); rw [hKn];clear hKn Kn;simp only [QV,reduceIte,reduceCtorEq,Nat.reduceEqDiff])
     ((repeat refine Ws ?_);refine W_regionE T_ok ?_; intro Kn hKn)
     ((simp (maxSteps := 1000000) only [VL,VM,↓VG,reduceIte,reduceCtorEq,zA,zB,zC,zD,zE,zF,zG,zH,zI,zJ, k1]); rw [hKn];clear hKn Kn;simp only [QV,reduceIte,reduceCtorEq,Nat.reduceEqDiff])
     refine LoopK.mk (i + 1) (by omega) (by omega) ⟨rfl, rfl, rfl, rfl, trivial⟩ ?_
     rw [← hms]; rfl
   have k2 : ((i : Int) < (y.carts.length : Int)) = False := eq_false (by omega)
   obtain rfl : i = y.carts.length := by omega
   rw [mix_all]
   ((simp (maxSteps := 1000000) only [VL,VM,↓VG,reduceIte,reduceCtorEq,zA,zB,zC,zD,zE,zF,zG,zH,zI,zJ, gx, k2]); rw [hKn];clear hKn Kn;simp only [QV,reduceIte,reduceCtorEq,Nat.reduceEqDiff])
   ((repeat refine Ws ?_);refine Wf (by first|rfl|simp only [EV,zF,reduceIte]) ?_)
   (((repeat refine Ws ?_);refine W_exit ?_); simp only [QV,reduceIte,reduceCtorEq,Nat.reduceEqDiff])
   exact ⟨trivial, trivial, by first | trivial | rw [hcv], rfl, rfl, rfl, trivial⟩
 intro _ e' hS
 refine WCode.weak (e' := _) ?_ (Sub.ok hS)
 clear hS e'
 (repeat refine Ws ?_)
 refine W_frzY hr hc hdr hdl hrl (by simp) (fun Hf q1 q2 q3 => ?_)
 obtain ⟨L, hL⟩ : ∃ L, Hf = M.H ++ L := by
  refine ⟨Hf.drop M.H.length, ?_⟩
  have : Hf.take M.H.length = M.H := by
   refine List.ext_getElem? fun i => ?_
   rw [List.getElem?_take]
   split
   ·rename_i hi
    rw [q1 i (by omega) (fun h => by omega) (by omega), GX_o u3 _ _ _ (by omega) (fun h => by omega) (by omega) (by omega)]
    exact pre i hi
   ·rename_i hi
    rw [List.getElem?_eq_none (by omega)]
  conv => lhs; rw [← List.take_append_drop M.H.length Hf, this]
 have hb4 : (M.H ++ L)[H0.length]? = some (.obj (yardC y)) := by
  rw [← hL, q1 _ (by omega) (fun h => by omega) (by omega), GX_o u3 _ _ _ (by omega) (fun h => by omega) (by omega) (by omega)]
  exact hyb
 rw [hL] at q3 ⊢
 obtain ⟨x, hxd⟩ : ∃ x, x = latY n y := ⟨_, rfl⟩
 have hb6 : (M.H ++ L)[G.length]? = some (.obj (yardC x)) := by rw [q3, hxd, ← hRs]; rfl
 have hx : YaV x := by rw [hxd]; exact lat_valid md hm60 hn
 have hxl : x.ramps.length ≤ 1000000 ∧ x.carts.length ≤ 1000000 ∧ ∀ c ∈ x.carts, c.ramps.length ≤ 1000000 := by
  rw [hxd]
  refine ⟨by simp [latY]; exact lens.1, by simp [latY]; exact lens.2.1, fun c hc => ?_⟩
  obtain ⟨c0, h0, rfl⟩ := List.mem_map.1 hc
  exact lens.2.2 c0 h0
 have hsx := lat_served (n := n) hn.1 hy (hxd ▸ hx)
 rw [← hxd] at hsx
 have hst : stuckT x = stuckT y := by rw [hxd]; exact lat_stuck hn.1 hy (hxd ▸ hx)
 have hsl := stuckT_len (y := y) lens.2.1
 have es1 := sameInts_v (stuckT y).1 (stuckT y).1
 rw [decide_eq_true rfl] at es1
 clear q1 q2 q3 hmem gx gr grs hyb pre hself hJq hX2
 ((repeat refine Ws ?_);refine W_regionE T_ok ?_; intro Kn hKn)
 simp (maxSteps := 1000000) only [VL,VM,↓VG,reduceIte,reduceCtorEq,zA,zB,zC,zD,zE,zF,zG,zH,zI,zJ, hb4]
 apply call_eq (f := 21) (fn := Try.f21) (by kernel_rfl) (by rfl)
 ·exact pserve_v y _ lens.1 lens.2.1 lens.2.2
 rw [serveV]
 ((simp (maxSteps := 1000000) only [VL,VM,↓VG,reduceIte,reduceCtorEq,zA,zB,zC,zD,zE,zF,zG,zH,zI,zJ]); rw [hKn];clear hKn Kn;simp only [QV,reduceIte,reduceCtorEq,Nat.reduceEqDiff])
 ((repeat refine Ws ?_);refine W_regionE T_ok ?_; intro Kn hKn)
 simp (maxSteps := 1000000) only [VL,VM,↓VG,reduceIte,reduceCtorEq,zA,zB,zC,zD,zE,zF,zG,zH,zI,zJ, hb6]
 apply call_eq (f := 21) (fn := Try.f21) (by kernel_rfl) (by rfl)
 ·exact pserve_v x _ hxl.1 hxl.2.1 hxl.2.2
 rw [serveV]
 ((simp (maxSteps := 1000000) only [VL,VM,↓VG,reduceIte,reduceCtorEq,zA,zB,zC,zD,zE,zF,zG,zH,zI,zJ]); rw [hKn];clear hKn Kn;simp only [QV,reduceIte,reduceCtorEq,Nat.reduceEqDiff])
 ((repeat refine Ws ?_);refine W_regionE T_ok ?_; intro Kn hKn)
 simp (maxSteps := 1000000) only [VL,VM,↓VG,reduceIte,reduceCtorEq,zA,zB,zC,zD,zE,zF,zG,zH,zI,zJ, hb4]
 apply call_eq (f := 25) (fn := Try.f25) (by kernel_rfl) (by rfl)
 ·exact pstuck_v y _ lens.1 lens.2.1 lens.2.2
 ((simp (maxSteps := 1000000) only [VL,VM,↓VG,reduceIte,reduceCtorEq,zA,zB,zC,zD,zE,zF,zG,zH,zI,zJ]); rw [hKn];clear hKn Kn;simp only [QV,reduceIte,reduceCtorEq,Nat.reduceEqDiff])
 ((repeat refine Ws ?_);refine W_regionE T_ok ?_; intro Kn hKn)
 simp (maxSteps := 1000000) only [VL,VM,↓VG,reduceIte,reduceCtorEq,zA,zB,zC,zD,zE,zF,zG,zH,zI,zJ, hb6]
 apply call_eq (f := 25) (fn := Try.f25) (by kernel_rfl) (by rfl)
 ·exact pstuck_v x _ hxl.1 hxl.2.1 hxl.2.2
 rw [hst]
 ((simp (maxSteps := 1000000) only [VL,VM,↓VG,reduceIte,reduceCtorEq,zA,zB,zC,zD,zE,zF,zG,zH,zI,zJ]); rw [hKn];clear hKn Kn;simp only [QV,reduceIte,reduceCtorEq,Nat.reduceEqDiff])
 cases hs : servedR y with
 | none =>
  rw [hs, Option.map_none] at hsx
  rw [serve_none hy hs, serve_none hx hsx]
  ((repeat refine Ws ?_);refine W_regionE T_ok ?_; intro Kn hKn)
  simp (maxSteps := 1000000) only [VL,VM,↓VG,reduceIte,reduceCtorEq,zA,zB,zC,zD,zE,zF,zG,zH,zI,zJ, eq_self, decide_true, Bool.not_true]
  apply call_eq (f := 29) (fn := Try.f29) (by kernel_rfl) (by rfl)
  ·exact es1 _ hsl
  ((simp (maxSteps := 1000000) only [VL,VM,↓VG,reduceIte,reduceCtorEq,zA,zB,zC,zD,zE,zF,zG,zH,zI,zJ, eq_self, decide_true, Bool.not_true, show ((3 : Int) = 0) = False from eq_false (by decide)]); rw [hKn];clear hKn Kn;simp only [QV,reduceIte,reduceCtorEq,Nat.reduceEqDiff])
  ((repeat refine Ws ?_);refine Wf (by first|rfl|simp only [EV,zF,reduceIte]) ?_)
  (((repeat refine Ws ?_);refine W_skip ?_); simp only [QV,reduceIte,reduceCtorEq,Nat.reduceEqDiff])
  ((repeat refine Ws ?_);refine W_regionE T_ok ?_; intro Kn hKn)
  ((simp (maxSteps := 1000000) only [VL,VM,↓VG,reduceIte,reduceCtorEq,zA,zB,zC,zD,zE,zF,zG,zH,zI,zJ]); rw [hKn];clear hKn Kn;simp only [QV,reduceIte,reduceCtorEq,Nat.reduceEqDiff])
  ((repeat refine Ws ?_);refine W_block ?_; (repeat refine Ws ?_)); refine W_loopS (fun _ : Unit => [(9, stsV []), (19, vi 0)]) (fun _ => ⟨M.H ++ L, M.lg ++ XY⟩) (fun _ => 0) (fun _ => True) () trivial ⟨rfl, rfl, trivial⟩ rfl ?_
  rintro _ _
  ((repeat refine Ws ?_);refine W_regionE T_ok ?_; intro Kn hKn)
  ((simp (maxSteps := 1000000) only [VL,VM,↓VG,reduceIte,reduceCtorEq,zA,zB,zC,zD,zE,zF,zG,zH,zI,zJ, show ((0 : Int) < ((0 : Nat) : Int)) = False from eq_false (by omega), show ((0 : Int) < (([] : List St).length : Int)) = False from eq_false (by simp)]); rw [hKn];clear hKn Kn;simp only [QV,reduceIte,reduceCtorEq,Nat.reduceEqDiff])
  ((repeat refine Ws ?_);refine Wf (by first|rfl|simp only [EV,zF,reduceIte]) ?_)
  (((repeat refine Ws ?_);refine W_exit ?_); simp only [QV,reduceIte,reduceCtorEq,Nat.reduceEqDiff])
  ((repeat refine Ws ?_);refine W_regionE T_ok ?_; intro Kn hKn)
  simp (maxSteps := 1000000) only [VL,VM,↓VG,reduceIte,reduceCtorEq,zA,zB,zC,zD,zE,zF,zG,zH,zI,zJ]
  apply call_eq (f := 16) (fn := Try.f16) (by kernel_rfl) (by rfl)
  ·exact awake_v _
  ((simp (maxSteps := 1000000) only [VL,VM,↓VG,reduceIte,reduceCtorEq,zA,zB,zC,zD,zE,zF,zG,zH,zI,zJ]); rw [hKn];clear hKn Kn;simp only [QV,reduceIte,reduceCtorEq,Nat.reduceEqDiff])
  (repeat refine Ws ?_)
  refine W_ret ?_
  try simp only [thenQ, blockQ]
  exact own_ret1X hXY rfl rfl (by rfl)
 | some p =>
  rw [hs, Option.map_some] at hsx
  rw [serve_some hy hs, serve_some hx hsx]
  have fe := (servedR_best hy).1 p hs
  have hpl := fe.len
  have hbd := fun i hi => fe.bd hy (i := i) hi
  have hn3 := md.m1
  have hlst := last_bd hy fe
  have hl0 := lastV_nn y p
  have k5 : -9223372036854775808 ≤ lastV y p + n ∧ lastV y p + n < 9223372036854775808 := by omega
  have hql : (p.map (latS n)).length = p.length := by simp
  have hqa : ∀ i, i < p.length → ((p.map (latS n)).map stP)[i]? = some (stP (latS n (stAt p i))) := fun i hi => by
   have := map_at (f := stP) (stAt_get (p := p.map (latS n)) (by rw [hql]; exact hi))
   rw [lat_st hi] at this
   exact this
  have hlat : 0 < p.length → lastV x (p.map (latS n)) = lastV y p + n := fun h0 => by
   rw [hxd]
   exact lat_last hn.1 hpl h0 fun i hi => by have := hbd i hi; omega
  generalize lastV x (p.map (latS n)) = lx at hlat ⊢
  generalize p.map (latS n) = qq at hql hqa ⊢
  (repeat refine Ws ?_)
  refine W_then [(4, .ptr H0.length 0), (5, vi n), (9, stsV p), (12, stsV qq), (155, vb false)] ⟨M.H ++ L, M.lg ++ XY⟩ ?_ ?_
  ·((repeat refine Ws ?_);refine Wr ?_)
   simp (maxSteps := 1000000) only [VL,VM,↓VG,reduceIte,reduceCtorEq,zA,zB,zC,zD,zE,zF,zG,zH,zI,zJ, eq_self, decide_true, Bool.not_true]
   apply call_eq (f := 29) (fn := Try.f29) (by kernel_rfl) (by rfl)
   ·exact es1 _ hsl
   rcases Nat.eq_zero_or_pos p.length with h0 | h0
   ·have z1 : ((p.length : Int) = (qq.length : Int)) = True := eq_true (by omega)
    have z2 : ((0 : Int) < (p.length : Int)) = False := eq_false (by omega)
    simp (maxSteps := 1000000) only [VL,VM,↓VG,reduceIte,reduceCtorEq,zA,zB,zC,zD,zE,zF,zG,zH,zI,zJ, eq_self, decide_true, Bool.not_true, z1, z2]
    exact ⟨rfl, rfl, rfl, rfl, rfl, trivial⟩
   ·have z1 : ((p.length : Int) = (qq.length : Int)) = True := eq_true (by omega)
    have z2 : ((0 : Int) < (p.length : Int)) = True := eq_true (by omega)
    rw [hlat h0]
    simp (maxSteps := 1000000) only [VL,VM,↓VG,reduceIte,reduceCtorEq,zA,zB,zC,zD,zE,zF,zG,zH,zI,zJ, eq_self, decide_true, Bool.not_true, z1, z2, k5]
    exact ⟨rfl, rfl, rfl, rfl, rfl, trivial⟩
  intro _ e' hS
  refine WCode.weak (e' := _) ?_ (Sub.ok hS)
  clear hS e'
  ((repeat refine Ws ?_);refine Wf (by first|rfl|simp only [EV,zF,reduceIte]) ?_)
  (((repeat refine Ws ?_);refine W_skip ?_); simp only [QV,reduceIte,reduceCtorEq,Nat.reduceEqDiff])
  ((repeat refine Ws ?_);refine W_regionE T_ok ?_; intro Kn hKn)
  ((simp (maxSteps := 1000000) only [VL,VM,↓VG,reduceIte,reduceCtorEq,zA,zB,zC,zD,zE,zF,zG,zH,zI,zJ]); rw [hKn];clear hKn Kn;simp only [QV,reduceIte,reduceCtorEq,Nat.reduceEqDiff])
  ((repeat refine Ws ?_);refine W_block ?_; (repeat refine Ws ?_)); refine W_loopS (fun i : Nat => [(5, vi n), (9, stsV p), (12, stsV qq), (19, vi i)]) (fun _ => ⟨M.H ++ L, M.lg ++ XY⟩) (fun i => p.length - i) (fun i => i ≤ p.length) 0 (Nat.zero_le _) ⟨rfl, rfl, rfl, rfl, trivial⟩ rfl ?_
  intro i hi
  have k1 : -9223372036854775808 ≤ (i : Int) + 1 ∧ (i : Int) + 1 < 9223372036854775808 := by omega
  ((repeat refine Ws ?_);refine W_regionE T_ok ?_; intro Kn hKn)
  rcases Nat.lt_or_ge i p.length with hlt | hge
  rotate_left
  ·have k2 : ((i : Int) < (p.length : Int)) = False := eq_false (by omega)
   ((simp (maxSteps := 1000000) only [VL,VM,↓VG,reduceIte,reduceCtorEq,zA,zB,zC,zD,zE,zF,zG,zH,zI,zJ, k2]); rw [hKn];clear hKn Kn;simp only [QV,reduceIte,reduceCtorEq,Nat.reduceEqDiff])
   ((repeat refine Ws ?_);refine Wf (by first|rfl|simp only [EV,zF,reduceIte]) ?_)
   (((repeat refine Ws ?_);refine W_exit ?_); simp only [QV,reduceIte,reduceCtorEq,Nat.reduceEqDiff])
   ((repeat refine Ws ?_);refine W_regionE T_ok ?_; intro Kn hKn)
   simp (maxSteps := 1000000) only [VL,VM,↓VG,reduceIte,reduceCtorEq,zA,zB,zC,zD,zE,zF,zG,zH,zI,zJ]
   apply call_eq (f := 16) (fn := Try.f16) (by kernel_rfl) (by rfl)
   ·exact awake_v _
   ((simp (maxSteps := 1000000) only [VL,VM,↓VG,reduceIte,reduceCtorEq,zA,zB,zC,zD,zE,zF,zG,zH,zI,zJ]); rw [hKn];clear hKn Kn;simp only [QV,reduceIte,reduceCtorEq,Nat.reduceEqDiff])
   (repeat refine Ws ?_)
   refine W_ret ?_
   try simp only [thenQ, blockQ]
   exact own_ret1X hXY rfl rfl (by rfl)
  have k2 : ((i : Int) < (p.length : Int)) = True := eq_true (by omega)
  have ha := hqa i hlt
  have hb := map_at (f := stP) (stAt_get hlt)
  have hbi := hbd i hlt
  generalize stAt p i = s0 at ha hb hbi
  ((simp (maxSteps := 1000000) only [VL,VM,↓VG,reduceIte,reduceCtorEq,zA,zB,zC,zD,zE,zF,zG,zH,zI,zJ, k2]); rw [hKn];clear hKn Kn;simp only [QV,reduceIte,reduceCtorEq,Nat.reduceEqDiff])
  ((repeat refine Ws ?_);refine Wt (by first|rfl|simp only [EV,zF,reduceIte]) ?_)
  (((repeat refine Ws ?_);refine W_skip ?_); simp only [QV,reduceIte,reduceCtorEq,Nat.reduceEqDiff])
  ((repeat refine Ws ?_);refine W_block ?_)
  ·skip
   (repeat refine Ws ?_)
   refine W_drawE T_ok [] (by kernel_rfl) (by kernel_rfl) ?_
   intro Kn hKn
   generalize hi : mkPlan _ = infs
   cbv at hi
   subst hi
   have t1 : -9223372036854775808 ≤ s0.from_ + n ∧ s0.from_ + n < 9223372036854775808 := by omega
   have es : vbin T .neq 62 (.agg [vi s0.ramp, vi (s0.from_ + n)]) (.agg [vi s0.ramp, vi (s0.from_ + n)]) = some (vb false) := by
    have := v_neSlot ⟨s0.ramp, s0.from_ + n⟩ ⟨s0.ramp, s0.from_ + n⟩
    simpa using this
   simp only [latS] at ha
   ((simp (maxSteps := 1000000) only [VL,VM,↓VG,reduceIte,reduceCtorEq,zA,zB,zC,zD,zE,zF,zG,zH,zI,zJ, ha, hb, t1, es]); rw [hKn];clear hKn Kn;simp only [QV,reduceIte,reduceCtorEq,Nat.reduceEqDiff])
   ((repeat refine Ws ?_);refine Wf (by first|rfl|simp only [EV,zF,reduceIte]) ?_)
   (((repeat refine Ws ?_);refine W_skip ?_); simp only [QV,reduceIte,reduceCtorEq,Nat.reduceEqDiff])
   ((repeat refine Ws ?_);refine W_regionE T_ok ?_; intro Kn hKn)
   ((simp (maxSteps := 1000000) only [VL,VM,↓VG,reduceIte,reduceCtorEq,zA,zB,zC,zD,zE,zF,zG,zH,zI,zJ, k1]); rw [hKn];clear hKn Kn;simp only [QV,reduceIte,reduceCtorEq,Nat.reduceEqDiff])
   exact LoopK.mk (i + 1) (by omega) (by omega) ⟨rfl, rfl, rfl, rfl, trivial⟩ rfl
end Go.Proofs.Ythcicaelnchfdaa.Vm
