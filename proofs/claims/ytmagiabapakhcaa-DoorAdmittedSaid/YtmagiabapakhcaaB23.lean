/- A part of the proofs about the chapter of the doors; it states no condition of its own. -/
import Derived.Test.YtmagiabapakhcaaB17
import Derived.Test.YtmagiabapakhcaaB19
import Derived.Test.YtmagiabapakhcaaB22
set_option linter.unusedVariables false
set_option linter.unusedSimpArgs false
open Int renaming reduceLE → zA, reduceLT → zB, reduceToNat → zC, reduceNeg → zD
open Nat renaming reduceLT → zE, reduceEqDiff → zF, reduceAdd → zG, reduceSub → zH, reduceMul → zI, reduceLeDiff → zJ
/- Kitchens, plain: errors, the ways of portions, and how they are served. -/
namespace Go.Proofs.Ytmagiabapakhcaa
def giErr (n : Nat) (x : Gi) : Int := if inR x.from_ 0 ((n : Int) - 1) && inR x.keeps 0 ((n : Int) - 1) then (if x.keeps < x.from_ then 5 else if inR x.portions 0 10000 then 0 else 1) else 3
def giftsErr (n : Nat) : List Gi → Int
 | [] => 0
 | x :: xs => if giErr n x = 0 then giftsErr n xs else giErr n x
def kitErr (k : Kn) : Int := if 5 < k.meals.length then 6 else if k.meals.all (fun n => inR n 0 10000) then (if 5 < k.gifts.length then 6 else giftsErr k.meals.length k.gifts) else 1
structure GiV (n : Nat) (x : Gi) : Prop where
 f0 : 0 ≤ x.from_
 fk : x.from_ ≤ x.keeps
 k1 : x.keeps < n
 p0 : 0 ≤ x.portions
 p1 : x.portions ≤ 10000
theorem giErr_ok {n : Nat} {x : Gi} : giErr n x = 0 ↔ GiV n x := by
 unfold giErr
 constructor
 ·intro h
  split at h
  ·rename_i h1
   simp only [Bool.and_eq_true, inR_true] at h1
   split at h
   ·simp at h
   ·split at h
    ·rename_i h2
     rw [inR_true] at h2
     exact ⟨by omega, by omega, by omega, by omega, by omega⟩
    ·simp at h
  ·simp at h
 ·rintro ⟨f0, fk, k1, p0, p1⟩
  rw [if_pos (by simp only [Bool.and_eq_true, inR_true]; omega), if_neg (by omega), if_pos (by rw [inR_true]; omega)]
theorem giftsErr_ok {n : Nat} : ∀ {xs : List Gi}, giftsErr n xs = 0 ↔ ∀ x ∈ xs, GiV n x
 | [] => by simp [giftsErr]
 | x :: xs => by
  rw [giftsErr]
  by_cases h : giErr n x = 0
  ·rw [if_pos h, giftsErr_ok (xs := xs)]
   simp [giErr_ok.1 h]
  ·rw [if_neg h]
   constructor
   ·intro h2; exact absurd h2 h
   ·intro h2; exact absurd (giErr_ok.2 (h2 x (by simp))) h
structure KV (k : Kn) : Prop where
 m1 : k.meals.length ≤ 5
 meals : ∀ n ∈ k.meals, 0 ≤ n ∧ n ≤ 10000
 g1 : k.gifts.length ≤ 5
 gifts : ∀ x ∈ k.gifts, GiV k.meals.length x
theorem kitErr_ok {k : Kn} : kitErr k = 0 ↔ KV k := by
 unfold kitErr
 constructor
 ·intro e
  split at e
  ·simp at e
  ·split at e
   ·rename_i h1
    split at e
    ·simp at e
    ·refine ⟨by omega, fun n hn => ?_, by omega, giftsErr_ok.1 e⟩
     have := List.all_eq_true.1 h1 n hn
     rwa [inR_true] at this
   ·simp at e
 ·rintro ⟨m1, meals, g1, gifts⟩
  rw [if_neg (by omega), if_pos (List.all_eq_true.2 fun n hn => by rw [inR_true]; exact meals n hn), if_neg (by omega)]
  exact giftsErr_ok.2 gifts
theorem giftsErr_drop {n : Nat} {ds : List Gi} {i : Nat} {d : Gi} (hx : ds[i]? = some d) (h : giftsErr n ds = giftsErr n (ds.drop i)) : giftsErr n ds = if giErr n d = 0 then giftsErr n (ds.drop (i + 1)) else giErr n d := by
 obtain ⟨hlt, hd⟩ := List.getElem?_eq_some_iff.1 hx
 rw [h, List.drop_eq_getElem_cons hlt, hd, giftsErr]
def goneT (S : List (List Int)) (g : Nat) (n : Nat) : Int := sumTo n fun m => at2 S m g
def eatenT (S : List (List Int)) (m : Nat) (n : Nat) : Int := sumTo n fun g => at2 S m g
def giftWs (nM nG : Nat) (S : List (List Int)) (room : Nat → Nat → Int) (g : Nat) (x : Gi) : List Wa :=
 ⟨0, 2 + g, x.portions - goneT S g nM⟩ :: (List.range' x.from_.toNat (x.keeps.toNat + 1 - x.from_.toNat)).map fun m => ⟨2 + g, 2 + nG + m, room m g⟩
def giftsWs (nM nG : Nat) (S : List (List Int)) (room : Nat → Nat → Int) : Nat → List Gi → List Wa
 | _, [] => []
 | g, x :: xs => giftWs nM nG S room g x ++ giftsWs nM nG S room (g + 1) xs
def mealsWs (nG : Nat) (S : List (List Int)) : Nat → List Int → List Wa
 | _, [] => []
 | m, n :: l => ⟨2 + nG + m, 1, n - eatenT S m nG⟩ :: mealsWs nG S (m + 1) l
def tabWs (k : Kn) (S : List (List Int)) (room : Nat → Nat → Int) : List Wa := giftsWs k.meals.length k.gifts.length S room 0 k.gifts ++ mealsWs k.gifts.length S 0 k.meals
def roomOf (meal gift : Int) (m g : Nat) : Int := if (m : Int) < meal ∨ (m : Int) = meal ∧ (g : Int) ≤ gift then 0 else 1073741824
noncomputable def fedV (k : Kn) (S : List (List Int)) (meal gift : Int) : Int := mfv (2 + k.gifts.length + k.meals.length) (tabOfW (2 + k.gifts.length + k.meals.length) (tabWs k S (roomOf meal gift)))
structure Srv (k : Kn) (S : List (List Int)) : Prop where
 len : S.length = k.meals.length
 row : ∀ r ∈ S, r.length = k.gifts.length
 nn : ∀ m g, 0 ≤ at2 S m g
 hi : ∀ m g, at2 S m g ≤ 10000
def giAt (k : Kn) (g : Nat) : Gi := k.gifts.getD g ⟨0, 0, 0⟩
def mealAt (k : Kn) (m : Nat) : Int := k.meals.getD m 0
def Fits (k : Kn) (S : List (List Int)) : Prop := (∀ g, g < k.gifts.length → goneT S g k.meals.length ≤ (giAt k g).portions) ∧ ∀ m, m < k.meals.length → eatenT S m k.gifts.length ≤ mealAt k m
def fitsB (k : Kn) (S : List (List Int)) (m g : Nat) : Bool := decide (goneT S g k.meals.length ≤ (giAt k g).portions) && decide (eatenT S m k.gifts.length ≤ mealAt k m)
theorem sumTo_bd {n : Nat} {f : Nat → Int} {a b : Int} (h : ∀ i, i < n → a ≤ f i ∧ f i ≤ b) : (n : Int) * a ≤ sumTo n f ∧ sumTo n f ≤ (n : Int) * b := by
 induction n with
 | zero => simp [sumTo_zero]
 | succ n ih =>
  have h1 := ih fun i hi => h i (by omega)
  have h2 := h n (by omega)
  rw [sumTo_succ]
  push_cast
  rw [Int.add_mul, Int.add_mul, Int.one_mul, Int.one_mul]
  omega
theorem Srv.gone {k : Kn} {S : List (List Int)} (h : Srv k S) (g n : Nat) : 0 ≤ goneT S g n ∧ goneT S g n ≤ (n : Int) * 10000 := by
 have := sumTo_bd (n := n) (f := fun m => at2 S m g) (a := 0) (b := 10000) fun i _ => ⟨h.nn i g, h.hi i g⟩
 simpa [goneT] using this
theorem Srv.eaten {k : Kn} {S : List (List Int)} (h : Srv k S) (m n : Nat) : 0 ≤ eatenT S m n ∧ eatenT S m n ≤ (n : Int) * 10000 := by
 have := sumTo_bd (n := n) (f := fun g => at2 S m g) (a := 0) (b := 10000) fun i _ => ⟨h.nn m i, h.hi m i⟩
 simpa [eatenT] using this
theorem mealsWs_ok {nG nM : Nat} {S : List (List Int)} : ∀ (l : List Int) (m : Nat), m + l.length ≤ nM → (∀ j, j < l.length → 0 ≤ l.getD j 0 - eatenT S (m + j) nG ∧ l.getD j 0 - eatenT S (m + j) nG ≤ 1073741824) → ∀ w ∈ mealsWs nG S m l, WaOk (2 + nG + nM) w
 | [], _, _, _, w, hw => by cases hw
 | n :: l, m, hm, h, w, hw => by
  rw [mealsWs] at hw
  rw [List.length_cons] at hm
  rcases List.mem_cons.1 hw with rfl | hw
  ·have := h 0 (by simp)
   simp only [List.getD_cons_zero, Nat.add_zero] at this
   exact ⟨by simp only; omega, by simp only; omega, this.1, this.2⟩
  ·refine mealsWs_ok l (m + 1) (by omega) (fun j hj => ?_) w hw
   have := h (j + 1) (by simp; omega)
   simpa [Nat.add_assoc, Nat.add_comm 1 j] using this
theorem giftsWs_ok {nG nM : Nat} {S : List (List Int)} {room : Nat → Nat → Int} (hr : ∀ m g, 0 ≤ room m g ∧ room m g ≤ 1073741824) : ∀ (l : List Gi) (g : Nat), g + l.length ≤ nG → (∀ x ∈ l, GiV nM x) → (∀ j, j < l.length → goneT S (g + j) nM ≤ (l.getD j ⟨0, 0, 0⟩).portions ∧ 0 ≤ goneT S (g + j) nM) → ∀ w ∈ giftsWs nM nG S room g l, WaOk (2 + nG + nM) w
 | [], _, _, _, _, w, hw => by cases hw
 | x :: l, g, hg, hv, h, w, hw => by
  rw [giftsWs] at hw
  rw [List.length_cons] at hg
  have hx := hv x (by simp)
  obtain ⟨f0, fk, k1, p0, p1⟩ := hx
  rcases List.mem_append.1 hw with hw | hw
  ·unfold giftWs at hw
   rcases List.mem_cons.1 hw with rfl | hw
   ·have := h 0 (by simp)
    simp only [List.getD_cons_zero, Nat.add_zero] at this
    exact ⟨by simp only; omega, by simp only; omega, by simp only; omega, by simp only; omega⟩
   ·obtain ⟨m, hm, rfl⟩ := List.mem_map.1 hw
    rw [List.mem_range'_1] at hm
    have := hr m g
    exact ⟨by simp only; omega, by simp only; omega, this.1, this.2⟩
  ·refine giftsWs_ok hr l (g + 1) (by omega) (fun y hy => hv y (by simp [hy])) (fun j hj => ?_) w hw
   have := h (j + 1) (by simp; omega)
   simpa [Nat.add_assoc, Nat.add_comm 1 j] using this
theorem tabWs_ok {k : Kn} {S : List (List Int)} {room : Nat → Nat → Int} (V : KV k) (H : Srv k S) (F : Fits k S) (hr : ∀ m g, 0 ≤ room m g ∧ room m g ≤ 1073741824) : ∀ w ∈ tabWs k S room, WaOk (2 + k.gifts.length + k.meals.length) w := by
 intro w hw
 rcases List.mem_append.1 hw with hw | hw
 ·refine giftsWs_ok hr k.gifts 0 (by omega) V.gifts (fun j hj => ?_) w hw
  rw [Nat.zero_add]
  exact ⟨F.1 j hj, (H.gone j _).1⟩
 ·refine mealsWs_ok k.meals 0 (by omega) (fun j hj => ?_) w hw
  rw [Nat.zero_add]
  have h1 := F.2 j hj
  have h2 := (H.eaten j k.gifts.length).1
  have h3 : k.meals.getD j 0 ≤ 10000 := by
   rw [List.getD_eq_getElem?_getD, List.getElem?_eq_getElem hj]
   exact (V.meals _ (List.getElem_mem hj)).2
  unfold mealAt at h1
  omega
theorem tabWs_len {k : Kn} {S : List (List Int)} {room : Nat → Nat → Int} (V : KV k) : (tabWs k S room).length ≤ 1000 := by
 have h1 : ∀ (l : List Int) (m : Nat), (mealsWs k.gifts.length S m l).length = l.length := by
  intro l
  induction l with
  | nil => intro m; rfl
  | cons n l ih => intro m; rw [mealsWs, List.length_cons, List.length_cons, ih]
 have h2 : ∀ (l : List Gi) (g : Nat), (∀ x ∈ l, GiV k.meals.length x) → (giftsWs k.meals.length k.gifts.length S room g l).length ≤ 6 * l.length := by
  intro l
  induction l with
  | nil => intro g _; simp [giftsWs]
  | cons x l ih =>
   intro g hv
   have h3 := ih (g + 1) fun y hy => hv y (by simp [hy])
   have h4 := (hv x (by simp)).k1
   have h5 := V.m1
   rw [giftsWs, List.length_append, List.length_cons]
   unfold giftWs
   rw [List.length_cons, List.length_map, List.length_range']
   omega
 have h3 := h2 k.gifts 0 V.gifts
 have h4 := V.g1
 have h5 := V.m1
 unfold tabWs
 rw [List.length_append, h1]
 omega
end Go.Proofs.Ytmagiabapakhcaa

/- The ways of portions handed out, on values. (Vm) -/
namespace Go.Proofs.Ytmagiabapakhcaa.Vm
open Go Go.Proofs
abbrev kitC (k : Kn) : List VV := [intsV k.meals, gisV k.gifts]
structure SBox (k : Kn) (S : List (List Int)) (sv : VV) (tid : Nat) (rid : Nat → Nat) (H : List VObj) : Prop where
 sv : k.meals.length ≠ 0 → sv = .bf tid 0 k.meals.length 1
 tab : k.meals.length ≠ 0 → H[tid]? = some (.obj ((List.range k.meals.length).map fun i => .bf (rid i) 0 k.gifts.length 1))
 row : ∀ m, m < k.meals.length → H[rid m]? = some (.obj ((S.getD m []).map vi))
theorem SBox.app {k : Kn} {S : List (List Int)} {sv : VV} {tid : Nat} {rid : Nat → Nat} {H : List VObj} (w : SBox k S sv tid rid H) (L : List VObj) : SBox k S sv tid rid (H ++ L) :=
 ⟨w.sv, fun h => get_app (w.tab h), fun m hm => get_app (w.row m hm)⟩
structure TBox (k : Kn) (cv : VV) (S : List (List Int)) (sv : VV) (tid : Nat) (rid : Nat → Nat) (kid sid mid : Nat) (H : List VObj) : Prop where
 hk : H[kid]? = some (.obj (kitC k))
 hs : H[sid]? = some (.obj [sv])
 hm : H[mid]? = some (.obj [cv])
 box : SBox k S sv tid rid H
theorem TBox.app {k : Kn} {cv : VV} {S : List (List Int)} {sv : VV} {tid : Nat} {rid : Nat → Nat} {kid sid mid : Nat} {H : List VObj} (w : TBox k cv S sv tid rid kid sid mid H) (L : List VObj) : TBox k cv S sv tid rid kid sid mid (H ++ L) :=
 ⟨get_app w.hk, get_app w.hs, get_app w.hm, w.box.app L⟩
theorem rows_at {M G : Nat} {rid : Nat → Nat} {m : Nat} (hm : m < M) : ((List.range M).map fun i => VV.bf (rid i) 0 G 1)[m]? = some (.bf (rid m) 0 G 1) := by simp [hm]
theorem cell_at {S : List (List Int)} {m g G : Nat} (hr : (S.getD m []).length = G) (hg : g < G) : ((S.getD m []).map vi)[g]? = some (vi (at2 S m g)) := by
 rw [List.getElem?_map, List.getElem?_eq_getElem (by omega)]
 unfold at2
 rw [List.getD_eq_getElem?_getD (l := S.getD m []), List.getElem?_eq_getElem (by omega)]
 rfl
theorem srv_rowl {k : Kn} {S : List (List Int)} (h : Srv k S) {m : Nat} (hm : m < k.meals.length) : (S.getD m []).length = k.gifts.length := by
 rw [List.getD_eq_getElem?_getD, List.getElem?_eq_getElem (by rw [h.len]; exact hm)]
 exact h.row _ (List.getElem_mem _)
set_option maxHeartbeats 1000000 in
set_option maxRecDepth 8000 in
theorem table_it (k : Kn) (V : KV k) {S : List (List Int)} (H : Srv k S) {room : Nat → Nat → Int} {cf : Nat} {cfn : Func} (hcf : T.fn cf = some cfn) (hkc : T.keeps cf = false) {ccaps : List VV} (hcs : ccaps.map strip1 = ccaps) {sv : VV} {tid : Nat} {rid : Nat → Nat} {kid sid mid : Nat} {PkC : List VObj → Prop} (hstab : ∀ A L, PkC A → PkC (A ++ L)) (hroom : ∀ (m g : Nat) (M : Mem), m < 100 → g < 100 → PkC M.H → VC Try.prog cf (vi m :: vi g :: ccaps) M (fun r M' => M' = M ∧ r = vi (room m g))) :
  IterOf 104 [.ptr kid 0, .ptr sid 0, .ptr mid 0] ((tabWs k S room).map wayV) (fun A => TBox k (.fn (.func cf) [] ccaps) S sv tid rid kid sid mid A ∧ PkC A) := by
 intro σ id M A good s0 g0 hA hM hPk hy
 obtain ⟨H0, lg⟩ := M
 simp only at hA hM hy
 subst hM
 have hb := fun s L => (hPk s).1.app L
 have vm1 := V.m1
 have vg1 := V.g1
 have hd0 : ((tabWs k S room).map wayV).drop 0 = (giftsWs k.meals.length k.gifts.length S room 0 (k.gifts.drop 0)).map wayV ++ (mealsWs k.gifts.length S 0 k.meals).map wayV := by
  rw [List.drop_zero, List.drop_zero, tabWs, List.map_append]
 generalize (tabWs k S room).map wayV = xs at hy hd0 ⊢
 have hlt_of : ∀ {pos : Nat} {x : VV}, xs[pos]? = some x → pos + 1 ≤ xs.length := fun {pos x} h => by
  rcases Nat.lt_or_ge pos xs.length with q | q
  ·exact q
  ·rw [List.getElem?_eq_none q] at h; cases h
 refine VC_own' T_ok (f := 104) (fn := Try.f104) (by kernel_rfl) rfl Try.ntmps104 (by rfl) (by rfl) ?_
 have hw0 := (hPk s0).1
 ((repeat refine Ws ?_);refine Wr ?_)
 simp (maxSteps := 1000000) only [VL,VM,↓VG,reduceIte,reduceCtorEq,zA,zB,zC,zD,zE,zF,zG,zH,zI,zJ, hw0.hk]
 ((repeat refine Ws ?_);refine W_block ?_; (repeat refine Ws ?_)); refine W_loopS (fun s : FwSt σ => [(0, .yl id), (1, .ptr kid 0), (2, .ptr sid 0), (3, .ptr mid 0), (15, gisV k.gifts), (16, vi k.gifts.length), (17, vi s.i)]) (fun s => ⟨A s.s ++ s.junk, lg⟩) (fun s => k.gifts.length - s.i) (fun s => s.i ≤ k.gifts.length ∧ s.pos ≤ xs.length ∧ good s.pos s.s ∧ xs.drop s.pos = (giftsWs k.meals.length k.gifts.length S room s.i (k.gifts.drop s.i)).map wayV ++ (mealsWs k.gifts.length S 0 k.meals).map wayV) ⟨s0, 0, 0, []⟩ ⟨Nat.zero_le _, Nat.zero_le _, g0, hd0⟩ ⟨rfl, rfl, rfl, rfl, rfl, rfl, rfl, trivial⟩ (by simp) ?_
 clear hd0 hw0
 rintro ⟨s, pos, i, junk⟩ ⟨hi, hpos, gs, hdr⟩
 simp only at hi hpos gs hdr
 have k1 : -9223372036854775808 ≤ (i : Int) + 1 ∧ (i : Int) + 1 < 9223372036854775808 := by omega
 ((repeat refine Ws ?_);refine Wr ?_)
 rcases Nat.lt_or_ge i k.gifts.length with hlt | hge
 ·have k2 : ((i : Int) < (k.gifts.length : Int)) = True := eq_true (by omega)
  have hx : k.gifts[i]? = some k.gifts[i] := List.getElem?_eq_getElem hlt
  have hdd : k.gifts.drop i = k.gifts[i] :: k.gifts.drop (i + 1) := List.drop_eq_getElem_cons hlt
  have hmem := V.gifts _ (List.getElem_mem hlt)
  generalize k.gifts[i] = x at hx hdd hmem
  have hx' := map_at (f := giP) hx
  rw [hdd, giftsWs, giftWs, List.map_append, List.map_cons, List.append_assoc, List.cons_append] at hdr
  obtain ⟨hx1, hdr⟩ := drop_step hdr
  obtain ⟨rest, hrest⟩ : ∃ rest, rest = (giftsWs k.meals.length k.gifts.length S room (i + 1) (k.gifts.drop (i + 1))).map wayV ++ (mealsWs k.gifts.length S 0 k.meals).map wayV := ⟨_, rfl⟩
  rw [← hrest] at hdr
  obtain ⟨fr, ke, po⟩ := x
  obtain ⟨f0, fk, kk, p0, p1⟩ := hmem
  simp only at f0 fk kk p0 p1 hx1 hdr
  obtain ⟨f, rfl⟩ : ∃ f : Nat, fr = (f : Int) := ⟨fr.toNat, by omega⟩
  obtain ⟨q, rfl⟩ : ∃ q : Nat, ke = (q : Int) := ⟨ke.toNat, by omega⟩
  rw [Int.toNat_natCast, Int.toNat_natCast] at hdr
  simp (maxSteps := 1000000) only [VL,VM,↓VG,reduceIte,reduceCtorEq,zA,zB,zC,zD,zE,zF,zG,zH,zI,zJ, k2]
  ((repeat refine Ws ?_);refine Wt (by first|rfl|simp only [EV,zF,reduceIte]) ?_)
  ((repeat refine Ws ?_);refine W_skip ?_)
  simp (maxSteps := 1000000) only [VL,VM,↓VG,reduceIte,reduceCtorEq,zA,zB,zC,zD,zE,zF,zG,zH,zI,zJ]
  ((repeat refine Ws ?_);refine W_block ?_)
  have hw1 := hb s (junk ++ [VObj.obj [vi (f : Int), vi (q : Int), vi po]])
  have hgo : ∀ (s' : σ) (X : List VObj), (A s' ++ (junk ++ VObj.obj [vi (f : Int), vi (q : Int), vi po] :: X))[(A s).length + junk.length]? = some (.obj [vi (f : Int), vi (q : Int), vi po]) := fun s' X => by
   rw [hA s, ← hA s', List.getElem?_append_right (by omega), Nat.add_sub_cancel_left, List.getElem?_append_right (Nat.le_refl _), Nat.sub_self]
   rfl
  ((repeat refine Ws ?_);refine Wr ?_)
  simp (maxSteps := 1000000) only [VL,VM,↓VG,reduceIte,reduceCtorEq,zA,zB,zC,zD,zE,zF,zG,zH,zI,zJ, hx']
  ((repeat refine Ws ?_);refine Wr ?_)
  simp (maxSteps := 1000000) only [VL,VM,↓VG,reduceIte,reduceCtorEq,zA,zB,zC,zD,zE,zF,zG,zH,zI,zJ, hgo s []]
  ((repeat refine Ws ?_);refine Wr ?_)
  simp (maxSteps := 1000000) only [VL,VM,↓VG,reduceIte,reduceCtorEq,zA,zB,zC,zD,zE,zF,zG,zH,zI,zJ, hw1.hk]
  ((repeat refine Ws ?_);refine W_block ?_; (repeat refine Ws ?_)); refine W_loopS (fun m : Nat => [(0, .yl id), (1, .ptr kid 0), (2, .ptr sid 0), (3, .ptr mid 0), (15, gisV k.gifts), (16, vi k.gifts.length), (17, vi i), (5, vi i), (6, .ptr ((A s).length + junk.length) 0), (7, vi (po - goneT S i m)), (25, intsV k.meals), (26, vi k.meals.length), (27, vi m)]) (fun _ => ⟨A s ++ (junk ++ [VObj.obj [vi (f : Int), vi (q : Int), vi po]]), lg⟩) (fun m => k.meals.length - m) (fun m => m ≤ k.meals.length) 0 (Nat.zero_le _) ⟨rfl, rfl, rfl, rfl, rfl, rfl, rfl, rfl, rfl, by rw [show goneT S i 0 = 0 from rfl, Int.sub_zero]; rfl, rfl, rfl, rfl, trivial⟩ rfl ?_
  intro m hm
  have j1 : -9223372036854775808 ≤ (m : Int) + 1 ∧ (m : Int) + 1 < 9223372036854775808 := by omega
  have hgn := H.gone i m
  ((repeat refine Ws ?_);refine Wr ?_)
  rcases Nat.lt_or_ge m k.meals.length with hlt2 | hge2
  ·have j2 : ((m : Int) < (k.meals.length : Int)) = True := eq_true (by omega)
   have m0 : k.meals.length ≠ 0 := by omega
   have hsv := hw1.box.sv m0
   have htab := hw1.box.tab m0
   have hrow := hw1.box.row m hlt2
   have c1 := rows_at (rid := rid) (G := k.gifts.length) hlt2
   have c2 := cell_at (srv_rowl H hlt2) hlt
   have c3 : (m < k.meals.length) = True := eq_true hlt2
   have c4 : (i < k.gifts.length) = True := eq_true hlt
   have h1 := H.nn m i
   have h2 := H.hi m i
   have j3 : -9223372036854775808 ≤ po - goneT S i m - at2 S m i ∧ po - goneT S i m - at2 S m i < 9223372036854775808 := by omega
   have hnx : goneT S i (m + 1) = goneT S i m + at2 S m i := sumTo_succ _ _
   have hsv2 := hw1.hs
   rw [hsv] at hsv2
   simp (maxSteps := 1000000) only [VL,VM,↓VG,reduceIte,reduceCtorEq,zA,zB,zC,zD,zE,zF,zG,zH,zI,zJ, j2]
   ((repeat refine Ws ?_);refine Wt (by first|rfl|simp only [EV,zF,reduceIte]) ?_)
   ((repeat refine Ws ?_);refine W_skip ?_)
   simp (maxSteps := 1000000) only [VL,VM,↓VG,reduceIte,reduceCtorEq,zA,zB,zC,zD,zE,zF,zG,zH,zI,zJ]
   ((repeat refine Ws ?_);refine W_block ?_)
   ((repeat refine Ws ?_);refine Wr ?_)
   simp (maxSteps := 1000000) only [VL,VM,↓VG,reduceIte,reduceCtorEq,zA,zB,zC,zD,zE,zF,zG,zH,zI,zJ]
   ((repeat refine Ws ?_);refine Wr ?_)
   simp (maxSteps := 1000000) only [VL,VM,↓VG,reduceIte,reduceCtorEq,zA,zB,zC,zD,zE,zF,zG,zH,zI,zJ, hsv2, htab, hrow, c1, c2, c3, c4, j3]
   ((repeat refine Ws ?_);refine Wr ?_)
   simp (maxSteps := 1000000) only [VL,VM,↓VG,reduceIte,reduceCtorEq,zA,zB,zC,zD,zE,zF,zG,zH,zI,zJ, j1]
   refine LoopK.mk (m + 1) (by omega) (by omega) ⟨rfl, rfl, rfl, rfl, rfl, rfl, rfl, rfl, rfl, ?_, rfl, rfl, rfl, trivial⟩ rfl
   rw [hnx, ← Int.sub_sub]; rfl
  have j2 : ((m : Int) < (k.meals.length : Int)) = False := eq_false (by omega)
  have hm3 : m = k.meals.length := by omega
  subst hm3
  simp (maxSteps := 1000000) only [VL,VM,↓VG,reduceIte,reduceCtorEq,zA,zB,zC,zD,zE,zF,zG,zH,zI,zJ, j2]
  ((repeat refine Ws ?_);refine Wf (by first|rfl|simp only [EV,zF,reduceIte]) ?_)
  ((repeat refine Ws ?_);refine W_exit ?_)
  simp (maxSteps := 1000000) only [VL,VM,↓VG,reduceIte,reduceCtorEq,zA,zB,zC,zD,zE,zF,zG,zH,zI,zJ]
  have j4 : -9223372036854775808 ≤ (2 : Int) + (i : Int) ∧ (2 : Int) + (i : Int) < 9223372036854775808 := by omega
  obtain ⟨s2, X2, hyv, hg2⟩ := hy pos _ s (junk ++ [VObj.obj [vi (f : Int), vi (q : Int), vi po]]) hx1 gs
  have hpl := hlt_of hx1
  ((repeat refine Ws ?_);refine Wr ?_)
  simp (maxSteps := 1000000) only [VL,VM,↓VG,reduceIte,reduceCtorEq,zA,zB,zC,zD,zE,zF,zG,zH,zI,zJ, j4]
  refine VCall.mono (by exact hyv) ?_
  rintro _ _ ⟨rfl, rfl⟩
  simp (maxSteps := 1000000) only [VL,VM,↓VG,reduceIte,reduceCtorEq,zA,zB,zC,zD,zE,zF,zG,zH,zI,zJ]
  ((repeat refine Ws ?_);refine Wf (by first|rfl|simp only [EV,zF,reduceIte]) ?_)
  ((repeat refine Ws ?_);refine W_skip ?_)
  simp (maxSteps := 1000000) only [VL,VM,↓VG,reduceIte,reduceCtorEq,zA,zB,zC,zD,zE,zF,zG,zH,zI,zJ]
  ((repeat refine Ws ?_);refine Wr ?_)
  have hgo2 := hgo s2
  rw [show (A s).length = (A s2).length by rw [hA s, hA s2]] at hgo2
  simp (maxSteps := 1000000) only [VL,VM,↓VG,reduceIte,reduceCtorEq,zA,zB,zC,zD,zE,zF,zG,zH,zI,zJ, hgo s2 X2]
  ((repeat refine Ws ?_);refine W_block ?_; (repeat refine Ws ?_)); refine W_loopS (fun z : FwSt σ => [(0, .yl id), (1, .ptr kid 0), (2, .ptr sid 0), (3, .ptr mid 0), (15, gisV k.gifts), (16, vi k.gifts.length), (17, vi i), (5, vi i), (6, .ptr ((A s).length + junk.length) 0), (9, vi ((f + z.i : Nat) : Int))]) (fun z => ⟨A z.s ++ (junk ++ VObj.obj [vi (f : Int), vi (q : Int), vi po] :: z.junk), lg⟩) (fun z => q + 1 - f - z.i) (fun z => z.i ≤ q + 1 - f ∧ z.pos ≤ xs.length ∧ good z.pos z.s ∧ xs.drop z.pos = ((List.range' (f + z.i) (q + 1 - f - z.i)).map fun m => (⟨2 + i, 2 + k.gifts.length + m, room m i⟩ : Wa)).map wayV ++ rest) ⟨s2, pos + 1, 0, X2⟩ ⟨Nat.zero_le _, hpl, hg2, hdr⟩ ⟨rfl, rfl, rfl, rfl, rfl, rfl, rfl, rfl, rfl, rfl, trivial⟩ rfl ?_
  clear hyv hg2 hdr hgo2 hpl j1 j2 hge2 hw1 hgn hm gs hpos hx1
  rintro ⟨s2, pos, j, X⟩ ⟨hj, hpos, gs, hdr⟩
  simp only at hj hpos gs hdr
  ((repeat refine Ws ?_);refine Wr ?_)
  rcases Nat.lt_or_ge (f + j) (q + 1) with hlt3 | hge3
  ·have j2 : (((f + j : Nat) : Int) ≤ (q : Int)) = True := eq_true (by omega)
   have j5 : -9223372036854775808 ≤ ((f + j : Nat) : Int) + 1 ∧ ((f + j : Nat) : Int) + 1 < 9223372036854775808 := by omega
   have j6 : -9223372036854775808 ≤ (2 : Int) + (k.gifts.length : Int) ∧ (2 : Int) + (k.gifts.length : Int) < 9223372036854775808 := by omega
   have j7 : -9223372036854775808 ≤ (2 : Int) + (k.gifts.length : Int) + ((f + j : Nat) : Int) ∧ (2 : Int) + (k.gifts.length : Int) + ((f + j : Nat) : Int) < 9223372036854775808 := by omega
   have zm : f + j < 100 := by omega
   have zi : i < 100 := by omega
   have zj : j + 1 ≤ q + 1 - f := by omega
   have zl : q + 1 - f - (j + 1) < q + 1 - f - j := by omega
   rw [show q + 1 - f - j = (q + 1 - f - (j + 1)) + 1 by omega, List.range'_succ, List.map_cons, List.map_cons, List.cons_append] at hdr
   obtain ⟨hx2, hdr⟩ := drop_step hdr
   have hpl := hlt_of hx2
   have hdr4 : xs.drop (pos + 1) = ((List.range' (f + (j + 1)) (q + 1 - f - (j + 1))).map fun m => (⟨2 + i, 2 + k.gifts.length + m, room m i⟩ : Wa)).map wayV ++ rest := by
    rw [← Nat.add_assoc]; exact hdr
   have hw2 := hb s2 (junk ++ VObj.obj [vi (f : Int), vi (q : Int), vi po] :: X)
   have hpc := hstab _ (junk ++ VObj.obj [vi (f : Int), vi (q : Int), vi po] :: X) (hPk s2).2
   obtain ⟨s3, X3, hyv, hg3⟩ := hy pos _ s2 (junk ++ VObj.obj [vi (f : Int), vi (q : Int), vi po] :: X) hx2 gs
   simp (maxSteps := 1000000) only [VL,VM,↓VG,reduceIte,reduceCtorEq,zA,zB,zC,zD,zE,zF,zG,zH,zI,zJ, hgo s2 X, j2]
   ((repeat refine Ws ?_);refine Wt (by first|rfl|simp only [EV,zF,reduceIte]) ?_)
   ((repeat refine Ws ?_);refine W_skip ?_)
   simp (maxSteps := 1000000) only [VL,VM,↓VG,reduceIte,reduceCtorEq,zA,zB,zC,zD,zE,zF,zG,zH,zI,zJ]
   ((repeat refine Ws ?_);refine W_block ?_)
   (repeat refine Ws ?_)
   refine W_drawP T_ok [] (by kernel_rfl) (by kernel_rfl) ?_
   generalize hi : mkPlan _ = infs
   cbv at hi
   subst hi
   simp (maxSteps := 1000000) only [VL,VM,↓VG,reduceIte,reduceCtorEq,zA,zB,zC,zD,zE,zF,zG,zH,zI,zJ, j4, j6, j7, hw2.hk, hw2.hm]
   refine callf_d (M1 := ⟨A s2 ++ (junk ++ VObj.obj [vi (f : Int), vi (q : Int), vi po] :: X), lg⟩) (v := vi (room (f + j) i)) hcf hkc (by simpa [strip1, hcs] using hroom (f + j) i ⟨A s2 ++ (junk ++ VObj.obj [vi (f : Int), vi (q : Int), vi po] :: X), lg⟩ zm zi hpc) ?_
   simp (maxSteps := 1000000) only [VL,VM,↓VG,reduceIte,reduceCtorEq,zA,zB,zC,zD,zE,zF,zG,zH,zI,zJ, j4, j6, j7, hw2.hk, hw2.hm]
   refine ⟨vb true, ⟨A s3 ++ ((junk ++ VObj.obj [vi (f : Int), vi (q : Int), vi po] :: X) ++ X3), lg⟩, by exact hyv, ?_⟩
   simp (maxSteps := 1000000) only [VL,VM,↓VG,reduceIte,reduceCtorEq,zA,zB,zC,zD,zE,zF,zG,zH,zI,zJ]
   ((repeat refine Ws ?_);refine Wf (by first|rfl|simp only [EV,zF,reduceIte]) ?_)
   ((repeat refine Ws ?_);refine W_skip ?_)
   simp (maxSteps := 1000000) only [VL,VM,↓VG,reduceIte,reduceCtorEq,zA,zB,zC,zD,zE,zF,zG,zH,zI,zJ]
   ((repeat refine Ws ?_);refine Wr ?_)
   simp (maxSteps := 1000000) only [VL,VM,↓VG,reduceIte,reduceCtorEq,zA,zB,zC,zD,zE,zF,zG,zH,zI,zJ, j5]
   refine LoopK.mk ⟨s3, pos + 1, j + 1, X ++ X3⟩ zl ⟨zj, hpl, hg3, (by simp only [Nat.add_assoc] at hdr4 ⊢; exact hdr4)⟩ ⟨rfl, rfl, rfl, rfl, rfl, rfl, rfl, rfl, rfl, rfl, trivial⟩ rfl
  have j2 : (((f + j : Nat) : Int) ≤ (q : Int)) = False := eq_false (by omega)
  rw [show q + 1 - f - j = 0 by omega] at hdr
  simp only [List.range'_zero, List.map_nil, List.nil_append] at hdr
  simp (maxSteps := 1000000) only [VL,VM,↓VG,reduceIte,reduceCtorEq,zA,zB,zC,zD,zE,zF,zG,zH,zI,zJ, hgo s2 X, j2]
  ((repeat refine Ws ?_);refine Wf (by first|rfl|simp only [EV,zF,reduceIte]) ?_)
  ((repeat refine Ws ?_);refine W_exit ?_)
  simp (maxSteps := 1000000) only [VL,VM,↓VG,reduceIte,reduceCtorEq,zA,zB,zC,zD,zE,zF,zG,zH,zI,zJ]
  ((repeat refine Ws ?_);refine Wr ?_)
  simp (maxSteps := 1000000) only [VL,VM,↓VG,reduceIte,reduceCtorEq,zA,zB,zC,zD,zE,zF,zG,zH,zI,zJ, k1]
  refine LoopK.mk ⟨s2, pos, i + 1, junk ++ VObj.obj [vi (f : Int), vi (q : Int), vi po] :: X⟩ (by simp only; omega) ⟨by simp only; omega, hpos, gs, by rw [hdr, hrest]⟩ ⟨rfl, rfl, rfl, rfl, rfl, rfl, rfl, trivial⟩ rfl
 have k2 : ((i : Int) < (k.gifts.length : Int)) = False := eq_false (by omega)
 have hi3 : i = k.gifts.length := by omega
 subst hi3
 have hsn : k.gifts.drop k.gifts.length = [] := List.drop_length
 rw [hsn, giftsWs, List.map_nil, List.nil_append] at hdr
 simp (maxSteps := 1000000) only [VL,VM,↓VG,reduceIte,reduceCtorEq,zA,zB,zC,zD,zE,zF,zG,zH,zI,zJ, k2]
 ((repeat refine Ws ?_);refine Wf (by first|rfl|simp only [EV,zF,reduceIte]) ?_)
 ((repeat refine Ws ?_);refine W_exit ?_)
 simp (maxSteps := 1000000) only [VL,VM,↓VG,reduceIte,reduceCtorEq,zA,zB,zC,zD,zE,zF,zG,zH,zI,zJ]
 have hw := hb s junk
 ((repeat refine Ws ?_);refine Wr ?_)
 simp (maxSteps := 1000000) only [VL,VM,↓VG,reduceIte,reduceCtorEq,zA,zB,zC,zD,zE,zF,zG,zH,zI,zJ, hw.hk]
 have hd0 : xs.drop pos = (mealsWs k.gifts.length S 0 (k.meals.drop 0)).map wayV := hdr
 ((repeat refine Ws ?_);refine W_block ?_; (repeat refine Ws ?_)); refine W_loopS (fun s : FwSt σ => [(0, .yl id), (1, .ptr kid 0), (2, .ptr sid 0), (3, .ptr mid 0), (73, intsV k.meals), (74, vi k.meals.length), (75, vi s.i)]) (fun s => ⟨A s.s ++ s.junk, lg⟩) (fun s => k.meals.length - s.i) (fun s => s.i ≤ k.meals.length ∧ s.pos ≤ xs.length ∧ good s.pos s.s ∧ xs.drop s.pos = (mealsWs k.gifts.length S s.i (k.meals.drop s.i)).map wayV) ⟨s, pos, 0, junk⟩ ⟨Nat.zero_le _, hpos, gs, hd0⟩ ⟨rfl, rfl, rfl, rfl, rfl, rfl, rfl, trivial⟩ rfl ?_
 clear hd0 hw hdr gs hpos hsn hge k2 k1 hi
 rintro ⟨s, pos, m, junk⟩ ⟨hi, hpos, gs, hdr⟩
 simp only at hi hpos gs hdr
 have k1 : -9223372036854775808 ≤ (m : Int) + 1 ∧ (m : Int) + 1 < 9223372036854775808 := by omega
 have hw := hb s junk
 ((repeat refine Ws ?_);refine Wr ?_)
 rcases Nat.lt_or_ge m k.meals.length with hlt | hge
 ·have k2 : ((m : Int) < (k.meals.length : Int)) = True := eq_true (by omega)
  have hx : k.meals[m]? = some k.meals[m] := List.getElem?_eq_getElem hlt
  have hdd : k.meals.drop m = k.meals[m] :: k.meals.drop (m + 1) := List.drop_eq_getElem_cons hlt
  have hmem := V.meals _ (List.getElem_mem hlt)
  generalize k.meals[m] = n at hx hdd hmem
  have hx' := map_at (f := intP) hx
  rw [hdd, mealsWs, List.map_cons] at hdr
  obtain ⟨hx1, hdr⟩ := drop_step hdr
  have hpl := hlt_of hx1
  have m0 : k.meals.length ≠ 0 := by omega
  have hsv := hw.box.sv m0
  have htab := hw.box.tab m0
  have hrow := hw.box.row m hlt
  have c1 := rows_at (rid := rid) (G := k.gifts.length) hlt
  have c3 : (m < k.meals.length) = True := eq_true hlt
  have hsv2 := hw.hs
  rw [hsv] at hsv2
  simp (maxSteps := 1000000) only [VL,VM,↓VG,reduceIte,reduceCtorEq,zA,zB,zC,zD,zE,zF,zG,zH,zI,zJ, k2]
  ((repeat refine Ws ?_);refine Wt (by first|rfl|simp only [EV,zF,reduceIte]) ?_)
  ((repeat refine Ws ?_);refine W_skip ?_)
  simp (maxSteps := 1000000) only [VL,VM,↓VG,reduceIte,reduceCtorEq,zA,zB,zC,zD,zE,zF,zG,zH,zI,zJ]
  ((repeat refine Ws ?_);refine W_block ?_)
  ((repeat refine Ws ?_);refine Wr ?_)
  simp (maxSteps := 1000000) only [VL,VM,↓VG,reduceIte,reduceCtorEq,zA,zB,zC,zD,zE,zF,zG,zH,zI,zJ, hx']
  ((repeat refine Ws ?_);refine Wr ?_)
  simp (maxSteps := 1000000) only [VL,VM,↓VG,reduceIte,reduceCtorEq,zA,zB,zC,zD,zE,zF,zG,zH,zI,zJ, hsv2, htab, hrow, c1, c3]
  ((repeat refine Ws ?_);refine W_block ?_; (repeat refine Ws ?_)); refine W_loopS (fun g : Nat => [(0, .yl id), (1, .ptr kid 0), (2, .ptr sid 0), (3, .ptr mid 0), (73, intsV k.meals), (74, vi k.meals.length), (75, vi m), (10, vi m), (11, vi (n - eatenT S m g)), (83, .bf (rid m) 0 k.gifts.length 1), (84, vi k.gifts.length), (85, vi g)]) (fun _ => ⟨A s ++ junk, lg⟩) (fun g => k.gifts.length - g) (fun g => g ≤ k.gifts.length) 0 (Nat.zero_le _) ⟨rfl, rfl, rfl, rfl, rfl, rfl, rfl, rfl, by rw [show eatenT S m 0 = 0 from rfl, Int.sub_zero]; rfl, rfl, rfl, rfl, trivial⟩ rfl ?_
  intro g hg
  have j1 : -9223372036854775808 ≤ (g : Int) + 1 ∧ (g : Int) + 1 < 9223372036854775808 := by omega
  have hgn := H.eaten m g
  ((repeat refine Ws ?_);refine Wr ?_)
  rcases Nat.lt_or_ge g k.gifts.length with hlt2 | hge2
  ·have j2 : ((g : Int) < (k.gifts.length : Int)) = True := eq_true (by omega)
   have c2 := cell_at (srv_rowl H hlt) hlt2
   have c4 : (g < k.gifts.length) = True := eq_true hlt2
   have h1 := H.nn m g
   have h2 := H.hi m g
   have j3 : -9223372036854775808 ≤ n - eatenT S m g - at2 S m g ∧ n - eatenT S m g - at2 S m g < 9223372036854775808 := by omega
   have hnx : eatenT S m (g + 1) = eatenT S m g + at2 S m g := sumTo_succ _ _
   simp (maxSteps := 1000000) only [VL,VM,↓VG,reduceIte,reduceCtorEq,zA,zB,zC,zD,zE,zF,zG,zH,zI,zJ, j2]
   ((repeat refine Ws ?_);refine Wt (by first|rfl|simp only [EV,zF,reduceIte]) ?_)
   ((repeat refine Ws ?_);refine W_skip ?_)
   simp (maxSteps := 1000000) only [VL,VM,↓VG,reduceIte,reduceCtorEq,zA,zB,zC,zD,zE,zF,zG,zH,zI,zJ]
   ((repeat refine Ws ?_);refine W_block ?_)
   ((repeat refine Ws ?_);refine Wr ?_)
   simp (maxSteps := 1000000) only [VL,VM,↓VG,reduceIte,reduceCtorEq,zA,zB,zC,zD,zE,zF,zG,zH,zI,zJ, hrow, c2, c4]
   ((repeat refine Ws ?_);refine Wr ?_)
   simp (maxSteps := 1000000) only [VL,VM,↓VG,reduceIte,reduceCtorEq,zA,zB,zC,zD,zE,zF,zG,zH,zI,zJ, j3]
   ((repeat refine Ws ?_);refine Wr ?_)
   simp (maxSteps := 1000000) only [VL,VM,↓VG,reduceIte,reduceCtorEq,zA,zB,zC,zD,zE,zF,zG,zH,zI,zJ, j1]
   refine LoopK.mk (g + 1) (by omega) (by omega) ⟨rfl, rfl, rfl, rfl, rfl, rfl, rfl, rfl, ?_, rfl, rfl, rfl, trivial⟩ rfl
   rw [hnx, ← Int.sub_sub]; rfl
  have j2 : ((g : Int) < (k.gifts.length : Int)) = False := eq_false (by omega)
  have hm3 : g = k.gifts.length := by omega
  subst hm3
  simp (maxSteps := 1000000) only [VL,VM,↓VG,reduceIte,reduceCtorEq,zA,zB,zC,zD,zE,zF,zG,zH,zI,zJ, j2]
  ((repeat refine Ws ?_);refine Wf (by first|rfl|simp only [EV,zF,reduceIte]) ?_)
  ((repeat refine Ws ?_);refine W_exit ?_)
  simp (maxSteps := 1000000) only [VL,VM,↓VG,reduceIte,reduceCtorEq,zA,zB,zC,zD,zE,zF,zG,zH,zI,zJ]
  have j6 : -9223372036854775808 ≤ (2 : Int) + (k.gifts.length : Int) ∧ (2 : Int) + (k.gifts.length : Int) < 9223372036854775808 := by omega
  have j7 : -9223372036854775808 ≤ (2 : Int) + (k.gifts.length : Int) + (m : Int) ∧ (2 : Int) + (k.gifts.length : Int) + (m : Int) < 9223372036854775808 := by omega
  obtain ⟨s2, X2, hyv, hg2⟩ := hy pos _ s junk hx1 gs
  have zl : k.meals.length - (m + 1) < k.meals.length - m := by omega
  ((repeat refine Ws ?_);refine Wr ?_)
  simp (maxSteps := 1000000) only [VL,VM,↓VG,reduceIte,reduceCtorEq,zA,zB,zC,zD,zE,zF,zG,zH,zI,zJ, j6, j7, hw.hk]
  refine VCall.mono (by exact hyv) ?_
  rintro _ _ ⟨rfl, rfl⟩
  simp (maxSteps := 1000000) only [VL,VM,↓VG,reduceIte,reduceCtorEq,zA,zB,zC,zD,zE,zF,zG,zH,zI,zJ]
  ((repeat refine Ws ?_);refine Wf (by first|rfl|simp only [EV,zF,reduceIte]) ?_)
  ((repeat refine Ws ?_);refine W_skip ?_)
  simp (maxSteps := 1000000) only [VL,VM,↓VG,reduceIte,reduceCtorEq,zA,zB,zC,zD,zE,zF,zG,zH,zI,zJ]
  ((repeat refine Ws ?_);refine Wr ?_)
  simp (maxSteps := 1000000) only [VL,VM,↓VG,reduceIte,reduceCtorEq,zA,zB,zC,zD,zE,zF,zG,zH,zI,zJ, k1]
  refine LoopK.mk ⟨s2, pos + 1, m + 1, junk ++ X2⟩ zl ⟨hlt, hpl, hg2, hdr⟩ ⟨rfl, rfl, rfl, rfl, rfl, rfl, rfl, trivial⟩ rfl
 have k2 : ((m : Int) < (k.meals.length : Int)) = False := eq_false (by omega)
 simp (maxSteps := 1000000) only [VL,VM,↓VG,reduceIte,reduceCtorEq,zA,zB,zC,zD,zE,zF,zG,zH,zI,zJ, k2]
 ((repeat refine Ws ?_);refine Wf (by first|rfl|simp only [EV,zF,reduceIte]) ?_)
 ((repeat refine Ws ?_);refine W_exit ?_)
 simp (maxSteps := 1000000) only [VL,VM,↓VG,reduceIte,reduceCtorEq,zA,zB,zC,zD,zE,zF,zG,zH,zI,zJ]
 have hend : pos = xs.length := by
  have ht2 : m = k.meals.length := by omega
  rw [ht2, List.drop_length, mealsWs, List.map_nil] at hdr
  have h3 : xs.length - pos = 0 := by rw [← List.length_drop, hdr]; rfl
  omega
 subst hend
 exact ⟨.inl rfl, rfl, ⟨[], by simp, by simp⟩, A s, junk, rfl, by rw [hA s, hA s0], [], rfl, .tup [], rfl, by intro x hx; simp [refs, refsL] at hx, s, rfl, gs⟩
end Go.Proofs.Ytmagiabapakhcaa.Vm
