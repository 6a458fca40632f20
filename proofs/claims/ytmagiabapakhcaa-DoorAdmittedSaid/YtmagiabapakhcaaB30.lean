/- A part of the proofs about the chapter of the doors; it states no condition of its own. -/
import Derived.Test.YtmagiabapakhcaaB19
import Derived.Test.YtmagiabapakhcaaB29
set_option linter.unusedVariables false
set_option linter.unusedSimpArgs false
open Int renaming reduceLE → zA, reduceLT → zB, reduceToNat → zC, reduceNeg → zD
open Nat renaming reduceLT → zE, reduceEqDiff → zF, reduceAdd → zG, reduceSub → zH, reduceMul → zI, reduceLeDiff → zJ
/- The numbers of the chapter's examples. (Vm) -/
namespace Go.Proofs.Ytmagiabapakhcaa
open Vm
theorem leaveV_of {nH t : Nat} {ds : List Do} {closed : List Int} {come : Nat → Int} {v : Nat} (h : mfN (2 + (t + 1) * nH) ((waysOf nH ds t closed come).map Wa.wn) = some v) (h0 : ((waysOf nH ds t closed come).all fun w => decide (0 ≤ w.most)) = true) : leaveV nH ds t closed come = (v : Int) := mfW_ok (by omega) (fun w hw => by simpa using List.all_eq_true.1 h0 w hw) h
theorem lv0 : leaveV 2 hH.doors 0 [] (comeOf [0, 50]) = (0 : Nat) := leaveV_of (by decide +kernel) (by decide +kernel)
theorem lv1 : leaveV 2 hH.doors 1 [] (comeOf [0, 50]) = (5 : Nat) := leaveV_of (by decide +kernel) (by decide +kernel)
theorem lv2 : leaveV 2 hH.doors 2 [] (comeOf [0, 50]) = (20 : Nat) := leaveV_of (by decide +kernel) (by decide +kernel)
theorem lv3 : leaveV 2 hH.doors 3 [] (comeOf [0, 50]) = (35 : Nat) := leaveV_of (by decide +kernel) (by decide +kernel)
theorem lv4 : leaveV 2 hH.doors 4 [] (comeOf [0, 50]) = (50 : Nat) := leaveV_of (by decide +kernel) (by decide +kernel)
theorem hH_leave : leaveR hH [0, 50] [] = (4, 0) := by
 have he : leaveErr hH [0, 50] [] = 0 := by decide +kernel
 have hT : leaveT hH [0, 50] [] = some 4 := by
  refine find_range (by omega) (fun j hj => decide_eq_false ?_) (decide_eq_true ?_)
  ·rcases j with _ | _ | _ | _ | j
   ·exact fun e => absurd (lv0.symm.trans e) (by decide)
   ·exact fun e => absurd (lv1.symm.trans e) (by decide)
   ·exact fun e => absurd (lv2.symm.trans e) (by decide)
   ·exact fun e => absurd (lv3.symm.trans e) (by decide)
   ·omega
  ·exact lv4
 unfold leaveR
 rw [if_pos he, hT]
 rfl
theorem as0 : leaveV 2 hH.doors 3 [] (comeS 0) = (0 : Nat) := leaveV_of (by decide +kernel) (by decide +kernel)
theorem as1 : leaveV 2 hH.doors 3 [] (comeS 1) = (70 : Nat) := leaveV_of (by decide +kernel) (by decide +kernel)
theorem as2 : leaveV 2 hH.doors 3 [] (comeS 2) = (35 : Nat) := leaveV_of (by decide +kernel) (by decide +kernel)
theorem as3 : leaveV 2 hH.doors 3 [] (comeS 3) = (75 : Nat) := leaveV_of (by decide +kernel) (by decide +kernel)
theorem hH_admit : admitR hH 3 [] = (35, 0) := by
 have he : ticksErr hH 0 3 [] = 0 := by decide +kernel
 have hV : admitV hH 3 [] = 35 := by
  have o0 : outS hH 3 [] 0 = 0 := as0
  have o1 : outS hH 3 [] 1 = 70 := as1
  have o2 : outS hH 3 [] 2 = 35 := as2
  have o3 : outS hH 3 [] 3 = 75 := as3
  show bestS hH 3 [] (bestS hH 3 [] (bestS hH 3 [] (bestS hH 3 [] 150 0) 1) 2) 3 = 35
  unfold bestS
  rw [o0, o1, o2, o3]
  decide +kernel
 unfold admitR
 rw [if_pos he]
 exact congrArg (fun x => (x, (0 : Int))) hV
def fedO (k : Kn) (S : List (List Int)) (meal gift : Int) : Option Int :=
 if (tabWs k S (roomOf meal gift)).all (fun w => decide (0 ≤ w.most)) then (mfN (2 + k.gifts.length + k.meals.length) ((tabWs k S (roomOf meal gift)).map Wa.wn)).map (fun n : Nat => (n : Int)) else none
theorem fedO_ok {k : Kn} {S : List (List Int)} {meal gift v : Int} (h : fedO k S meal gift = some v) : fedV k S meal gift = v := by
 unfold fedO at h
 split at h
 ·rename_i h0
  obtain ⟨n, hn, rfl⟩ := Option.map_eq_some_iff.1 h
  exact mfW_ok (by omega) (fun w hw => by simpa using List.all_eq_true.1 h0 w hw) hn
 ·cases h
def srchO (p : Int → Option Bool) : Nat → Int → Int → Option Int
 | 0, lo, _ => some lo
 | f + 1, lo, hi => if lo < hi then (match p ((lo + hi + 1) / 2) with
  | some true => srchO p f ((lo + hi + 1) / 2) hi
  | some false => srchO p f lo ((lo + hi + 1) / 2 - 1)
  | none => none) else some lo
theorem srchO_ok {p : Int → Bool} {q : Int → Option Bool} (hq : ∀ t b, q t = some b → p t = b) : ∀ (f : Nat) (lo hi r : Int), srchO q f lo hi = some r → srch p f lo hi = r
 | 0, lo, hi, r, h => by
  rw [srchO] at h
  exact Option.some.inj h
 | f + 1, lo, hi, r, h => by
  rw [srchO] at h
  rw [srch]
  split at h
  ·rename_i h1
   rw [if_pos h1]
   split at h
   ·rename_i h2
    rw [hq _ _ h2, if_pos rfl]
    exact srchO_ok hq f _ _ r h
   ·rename_i h2
    rw [hq _ _ h2, if_neg (by decide)]
    exact srchO_ok hq f _ _ r h
   ·cases h
  ·rename_i h1
   rw [if_neg h1]
   exact Option.some.inj h
def pairO (k : Kn) (S : List (List Int)) (m g : Nat) (rest t : Int) : Option Bool :=
 if fitsB k (upd2 S m g t) m g then (fedO k (upd2 S m g t) m ((g : Int) - 1)).map (fun v => decide (v = rest - t)) else some false
theorem pairO_ok {k : Kn} {S : List (List Int)} {m g : Nat} {rest t : Int} {b : Bool} (h : pairO k S m g rest t = some b) : pairP k S m g rest t = b := by
 unfold pairO at h
 unfold pairP
 split at h
 ·rename_i h1
  obtain ⟨v, hv, rfl⟩ := Option.map_eq_some_iff.1 h
  rw [h1, fedO_ok hv, Bool.true_and]
 ·rename_i h1
  rw [Bool.not_eq_true] at h1
  rw [h1, Bool.false_and]
  exact Option.some.inj h
def foldO {σ α : Type} (f : σ → α → Option σ) : σ → List α → Option σ
 | s, [] => some s
 | s, x :: l => match f s x with
  | some s' => foldO f s' l
  | none => none
theorem foldO_ok {σ α : Type} {f : σ → α → σ} {q : σ → α → Option σ} (hq : ∀ s x s', q s x = some s' → f s x = s') : ∀ (l : List α) (s s' : σ), foldO q s l = some s' → l.foldl f s = s'
 | [], s, s', h => Option.some.inj h
 | x :: l, s, s', h => by
  rw [foldO] at h
  split at h
  ·rename_i s2 h1
   rw [List.foldl_cons, hq _ _ _ h1]
   exact foldO_ok hq l s2 s' h
  ·cases h
def stepO (k : Kn) (m : Nat) (st : List (List Int) × Int) (g : Nat) : Option (List (List Int) × Int) :=
 if inR (m : Int) (giAt k g).from_ (giAt k g).keeps then (srchO (pairO k st.1 m g st.2) (min st.2 (giAt k g).portions - 0).toNat 0 (min st.2 (giAt k g).portions)).map (fun v => (upd2 st.1 m g v, st.2 - v)) else some st
theorem stepO_ok {k : Kn} {m : Nat} {st st' : List (List Int) × Int} {g : Nat} (h : stepO k m st g = some st') : feedStep k m st g = st' := by
 unfold stepO at h
 unfold feedStep
 split at h
 ·rename_i h1
  obtain ⟨v, hv, rfl⟩ := Option.map_eq_some_iff.1 h
  have : pairV k st.1 m g st.2 = v := srchO_ok (fun t b => pairO_ok) _ _ _ _ hv
  rw [if_pos h1, this]
 ·rename_i h1
  rw [if_neg h1]
  exact Option.some.inj h
def feedO (k : Kn) : Option (List (List Int) × Int) :=
 match fedO k (srv0 k) (-1) 0 with
 | some r => foldO (fun st m => foldO (stepO k m) st (List.range k.gifts.length)) (srv0 k, r) (List.range k.meals.length)
 | none => none
theorem feedO_ok {k : Kn} {st : List (List Int) × Int} (h : feedO k = some st) : feedTo k k.meals.length = st := by
 unfold feedO at h
 split at h
 ·rename_i r hr
  unfold feedTo
  rw [fedO_ok hr]
  refine foldO_ok (f := feedRow k) (fun s x s' hs => ?_) _ _ _ h
  exact foldO_ok (fun a b c hc => stepO_ok hc) _ _ _ hs
 ·cases h
theorem kK_fed : fedV kK (srv0 kK) (-1) 0 = 85 := fedO_ok (by decide +kernel)
theorem kK_feed : (feedTo kK kK.meals.length).1 = [[25, 5, 0], [0, 0, 20], [0, 35, 0]] := by
 have h : (feedO kK).map Prod.fst = some [[25, 5, 0], [0, 0, 20], [0, 35, 0]] := by decide +kernel
 obtain ⟨st, hs, he⟩ := Option.map_eq_some_iff.1 h
 rw [feedO_ok hs, he]
theorem kK_R : feedR kK = .tup [tabV [[25, 5, 0], [0, 0, 20], [0, 35, 0]], vi 10, vi 0] := by
 unfold feedR servR
 rw [if_pos kK_err, if_neg (by decide), kK_feed, kK_fed]
 rfl
end Go.Proofs.Ytmagiabapakhcaa

/- What every statement of the doors looks at. (Vm) -/
namespace Go.Proofs.Ytmagiabapakhcaa.Vm
open Go Go.Proofs
set_option maxHeartbeats 1000000 in
set_option maxRecDepth 8000 in
theorem awake_v (M : Mem) : VC Try.prog 18 [] M (fun r M' => M' = M ∧ r = vb true) := by
 have iR : insideR hH = .tup [spsV [⟨10, 15⟩, ⟨35, 40⟩, ⟨30, 35⟩, ⟨0, 5⟩], vi 0] := by unfold insideR; rw [if_pos hH_err, hH_inside]
 refine VC_own' T_ok (f := 18) (fn := Try.f18) (by kernel_rfl) rfl Try.ntmps18 (by rfl) (by rfl) ?_
 ((repeat refine Ws ?_);refine Wr ?_)
 simp (maxSteps := 1000000) only [VL,VM,↓VG,reduceIte,reduceCtorEq,zA,zB,zC,zD,zE,zF,zG,zH,zI,zJ]
 ((repeat refine Ws ?_);refine Wr ?_)
 simp (maxSteps := 1000000) only [VL,VM,↓VG,reduceIte,reduceCtorEq,zA,zB,zC,zD,zE,zF,zG,zH,zI,zJ]
 apply call_eq (f := 60) (fn := Try.f60) (by kernel_rfl) (by rfl)
 ·exact house_v _
 simp (maxSteps := 1000000) only [VL,VM,↓VG,reduceIte,reduceCtorEq,zA,zB,zC,zD,zE,zF,zG,zH,zI,zJ]
 apply call_eq (f := 22) (fn := Try.f22) (by kernel_rfl) (by rfl)
 ·exact Inside_v hH _ (by decide) (by decide) (by decide)
 rw [iR]
 simp (maxSteps := 1000000) only [VL,VM,↓VG,reduceIte,reduceCtorEq,zA,zB,zC,zD,zE,zF,zG,zH,zI,zJ]
 ((repeat refine Ws ?_);refine Wr ?_)
 simp (maxSteps := 1000000) only [VL,VM,↓VG,reduceIte,reduceCtorEq,zA,zB,zC,zD,zE,zF,zG,zH,zI,zJ]
 apply call_eq (f := 60) (fn := Try.f60) (by kernel_rfl) (by rfl)
 ·exact house_v _
 simp (maxSteps := 1000000) only [VL,VM,↓VG,reduceIte,reduceCtorEq,zA,zB,zC,zD,zE,zF,zG,zH,zI,zJ]
 apply call_eq (f := 32) (fn := Try.f32) (by kernel_rfl) (by rfl)
 ·exact VC_nil0 (us := [houseV hH, intsV [0, 50]]) (k := 1) (vs := []) (Leave_v hH [0, 50] [] _ (by decide) (by decide) (by decide) (by decide) (by decide))
 rw [hH_leave]
 simp (maxSteps := 1000000) only [VL,VM,↓VG,reduceIte,reduceCtorEq,zA,zB,zC,zD,zE,zF,zG,zH,zI,zJ]
 ((repeat refine Ws ?_);refine Wr ?_)
 simp (maxSteps := 1000000) only [VL,VM,↓VG,reduceIte,reduceCtorEq,zA,zB,zC,zD,zE,zF,zG,zH,zI,zJ]
 apply call_eq (f := 60) (fn := Try.f60) (by kernel_rfl) (by rfl)
 ·exact house_v _
 simp (maxSteps := 1000000) only [VL,VM,↓VG,reduceIte,reduceCtorEq,zA,zB,zC,zD,zE,zF,zG,zH,zI,zJ]
 apply call_eq (f := 52) (fn := Try.f52) (by kernel_rfl) (by rfl)
 ·exact VC_nil0 (us := [houseV hH, vi 3]) (k := 1) (vs := []) (Admit_v hH 3 [] _ (by decide) (by decide) (by decide) (by decide))
 rw [hH_admit]
 simp (maxSteps := 1000000) only [VL,VM,↓VG,reduceIte,reduceCtorEq,zA,zB,zC,zD,zE,zF,zG,zH,zI,zJ]
 ((repeat refine Ws ?_);refine Wr ?_)
 simp (maxSteps := 1000000) only [VL,VM,↓VG,reduceIte,reduceCtorEq,zA,zB,zC,zD,zE,zF,zG,zH,zI,zJ]
 apply call_eq (f := 61) (fn := Try.f61) (by kernel_rfl) (by rfl)
 ·exact kitchen_v _
 simp (maxSteps := 1000000) only [VL,VM,↓VG,reduceIte,reduceCtorEq,zA,zB,zC,zD,zE,zF,zG,zH,zI,zJ]
 apply call_eq (f := 38) (fn := Try.f38) (by kernel_rfl) (by rfl)
 ·exact Feed_v kK _ (by decide) (by decide)
 rw [kK_R]
 simp (maxSteps := 1000000) only [VL,VM,↓VG,reduceIte,reduceCtorEq,zA,zB,zC,zD,zE,zF,zG,zH,zI,zJ]
 ((repeat refine Ws ?_);refine Wr ?_)
 simp (maxSteps := 1000000) only [VL,VM,↓VG,reduceIte,reduceCtorEq,zA,zB,zC,zD,zE,zF,zG,zH,zI,zJ]
 apply call_eq (f := 46) (fn := Try.f46) (by kernel_rfl) (by rfl)
 ·exact spanl_v 10 15 _
 simp (maxSteps := 1000000) only [VL,VM,↓VG,reduceIte,reduceCtorEq,zA,zB,zC,zD,zE,zF,zG,zH,zI,zJ]
 apply call_eq (f := 46) (fn := Try.f46) (by kernel_rfl) (by rfl)
 ·exact spanl_v 35 40 _
 simp (maxSteps := 1000000) only [VL,VM,↓VG,reduceIte,reduceCtorEq,zA,zB,zC,zD,zE,zF,zG,zH,zI,zJ]
 apply call_eq (f := 46) (fn := Try.f46) (by kernel_rfl) (by rfl)
 ·exact spanl_v 30 35 _
 simp (maxSteps := 1000000) only [VL,VM,↓VG,reduceIte,reduceCtorEq,zA,zB,zC,zD,zE,zF,zG,zH,zI,zJ]
 apply call_eq (f := 46) (fn := Try.f46) (by kernel_rfl) (by rfl)
 ·exact spanl_v 0 5 _
 simp (maxSteps := 1000000) only [VL,VM,↓VG,reduceIte,reduceCtorEq,zA,zB,zC,zD,zE,zF,zG,zH,zI,zJ]
 apply call_eq (f := 26) (fn := Try.f26) (by kernel_rfl) (by rfl)
 ·exact sameSpans_v [⟨10, 15⟩, ⟨35, 40⟩, ⟨30, 35⟩, ⟨0, 5⟩] [⟨10, 15⟩, ⟨35, 40⟩, ⟨30, 35⟩, ⟨0, 5⟩] _ (by decide)
 simp (maxSteps := 1000000) only [VL,VM,↓VG,reduceIte,reduceCtorEq,zA,zB,zC,zD,zE,zF,zG,zH,zI,zJ]
 apply call_eq (f := 41) (fn := Try.f41) (by kernel_rfl) (by rfl)
 ·exact sameTables_v [[25, 5, 0], [0, 0, 20], [0, 35, 0]] [[25, 5, 0], [0, 0, 20], [0, 35, 0]] _ (by decide) (by decide)
 simp (maxSteps := 1000000) only [VL,VM,↓VG,reduceIte,reduceCtorEq,zA,zB,zC,zD,zE,zF,zG,zH,zI,zJ]
 (repeat refine Ws ?_)
 refine W_ret ?_
 try simp only [thenQ, blockQ]
 refine own_ret10 rfl ?_ (by rfl)
 simp only [get_cons, frz, vtup, Nat.reduceEqDiff, if_true, if_false, reduceIte]
end Go.Proofs.Ytmagiabapakhcaa.Vm
