/- A part of the proofs about the chapter of the doors; it states no condition of its own. -/
import Derived.Test.YtekhddlngbppkaaDoorB17
import Derived.Test.YtekhddlngbppkaaDoorB21
import Derived.Test.YtekhddlngbppkaaDoorB24
set_option linter.unusedVariables false
set_option linter.unusedSimpArgs false
open Int renaming reduceLE → zA, reduceLT → zB, reduceToNat → zC, reduceNeg → zD
open Nat renaming reduceLT → zE, reduceEqDiff → zF, reduceAdd → zG, reduceSub → zH, reduceMul → zI, reduceLeDiff → zJ
/- A table in which tables and lists of spans are slices of their own; what is served, in memory. (Vm) -/
namespace Go.Proofs.YtekhddlngbppkaaDoor.Vm
open Go Go.Proofs
def withOwn (T : Tab) (o : Nat → Bool) : Tab := { T with own := o }
section
variable {P : Program} {T : Tab} {o : Nat → Bool}
theorem withOwn_ok (h : TabOk P T) : TabOk P (withOwn T o) := ⟨h.ty, h.fn, h.mixed⟩
theorem withOwn_ty : (withOwn T o).ty = T.ty := rfl
theorem withOwn_fn : (withOwn T o).fn = T.fn := rfl
theorem withOwn_bin : vbin (withOwn T o) = vbin T := rfl
theorem withOwn_own : (withOwn T o).own = o := rfl
end
def ownE (t : Nat) : Bool := Nat.beq t 35 || Nat.beq t 41
noncomputable def TE : Tab := withOwn T ownE
theorem TE_ok : TabOk Tryd.prog TE := withOwn_ok T_ok
theorem xE_ty : TE.ty = T.ty := withOwn_ty
theorem xE_fn : TE.fn = T.fn := withOwn_fn
theorem xE_bin : vbin TE = vbin T ∧ TE.ownS = T.ownS := ⟨withOwn_bin, rfl⟩
theorem xE_oi : TE.own 22 = false := by rw [TE, withOwn_own]; rfl
theorem xE_oc : TE.own 35 = true := by rw [TE, withOwn_own]; rfl
theorem xE_ok : TE.own 41 = true := by rw [TE, withOwn_own]; rfl
structure FS (n0 G i tl : Nat) (rl : Nat → Nat) (L : List VObj) (S : List (List Int)) : Prop where
 tab : i ≠ 0 → L[tl]? = some (.obj ((List.range i).map fun a => .bf (n0 + (rl a + 2)) 0 G 1))
 row : ∀ m, m < i → L[rl m]? = some (.obj ((S.getD m []).map vi))
 ne : ∀ m, m < i → rl m ≠ tl
 inj : ∀ a b, a < i → b < i → rl a = rl b → a = b
theorem lt_of_get {α : Type} {A : List α} {i : Nat} {o : α} (h : A[i]? = some o) : i < A.length := by
 rcases Nat.lt_or_ge i A.length with q | q
 ·exact q
 ·rw [List.getElem?_eq_none q] at h; cases h
section
variable {n0 G i tl : Nat} {rl : Nat → Nat} {L : List VObj} {S : List (List Int)}
theorem FS.app (h : FS n0 G i tl rl L S) (Y : List VObj) : FS n0 G i tl rl (L ++ Y) S := ⟨fun q => get_app (h.tab q), fun m hm => get_app (h.row m hm), h.ne, h.inj⟩
theorem FS.first {r : List VV} (hr : r = (S.getD 0 []).map vi) : FS n0 G 1 (L.length + 1) (fun _ => L.length) (L ++ [.obj r, .obj [.bf (n0 + (L.length + 2)) 0 G 1]]) S := by
 subst hr
 refine ⟨fun _ => ?_, fun m hm => ?_, fun m _ => by omega, fun a b ha hb _ => by omega⟩
 ·rw [List.getElem?_append_right (by omega), Nat.add_sub_cancel_left]; rfl
 ·obtain rfl : m = 0 := by omega
  rw [List.getElem?_append_right (Nat.le_refl _), Nat.sub_self]; rfl
theorem FS.grow {r : List VV} {p : Nat} (h : FS n0 G (p + 1) tl rl L S) (hr : r = (S.getD (p + 1) []).map vi) : FS n0 G (p + 2) (L.length + 1) (fun a => if a = p + 1 then L.length else rl a) (L.set tl .gone ++ [.obj r, .obj ((List.range (p + 1)).map (fun a => .bf (n0 + (rl a + 2)) 0 G 1) ++ [.bf (n0 + (L.length + 2)) 0 G 1])]) S := by
 subst hr
 have hl : ∀ m, m < p + 1 → rl m < L.length := fun m hm => lt_of_get (h.row m hm)
 refine ⟨fun _ => ?_, fun m hm => ?_, fun m hm => ?_, fun a b ha hb e => ?_⟩
 ·rw [List.getElem?_append_right (by rw [List.length_set]; omega), List.length_set, Nat.add_sub_cancel_left]
  rw [show List.range (p + 2) = List.range (p + 1) ++ [p + 1] from List.range_succ, List.map_append (l₁ := List.range (p + 1)), List.map_cons, List.map_nil, if_pos rfl]
  have : (List.range (p + 1)).map (fun a => VV.bf (n0 + ((if a = p + 1 then L.length else rl a) + 2)) 0 G 1) = (List.range (p + 1)).map (fun a => VV.bf (n0 + (rl a + 2)) 0 G 1) := List.map_congr_left fun a ha => by
   rw [List.mem_range] at ha
   rw [if_neg (by omega)]
  rw [this]; rfl
 ·by_cases e : m = p + 1
  ·subst e
   simp only [if_true]
   rw [List.getElem?_append_right (by rw [List.length_set]; omega), List.length_set, Nat.sub_self]; rfl
  ·simp only [if_neg e]
   have hm2 : m < p + 1 := by omega
   rw [List.getElem?_append_left (by rw [List.length_set]; exact hl m hm2), List.getElem?_set_ne (fun q => h.ne m hm2 q.symm)]
   exact h.row m hm2
 ·by_cases e : m = p + 1
  ·simp only [if_pos e]; omega
  ·simp only [if_neg e]
   have := hl m (by omega)
   omega
 ·by_cases ea : a = p + 1
  ·by_cases eb : b = p + 1
   ·omega
   ·simp only [if_pos ea, if_neg eb] at e
    have := hl b (by omega)
    omega
  ·by_cases eb : b = p + 1
   ·simp only [if_neg ea, if_pos eb] at e
    have := hl a (by omega)
    omega
   ·simp only [if_neg ea, if_neg eb] at e
    exact h.inj a b (by omega) (by omega) e
theorem FS.write (h : FS n0 G i tl rl L S) {m g : Nat} (hm : m < i) (hS : m < S.length) (x : Int) : FS n0 G i tl rl (L.set (rl m) (.obj (((S.getD m []).set g x).map vi))) (upd2 S m g x) := by
 refine ⟨fun q => ?_, fun a ha => ?_, h.ne, h.inj⟩
 ·rw [List.getElem?_set_ne (h.ne m hm)]; exact h.tab q
 ·by_cases e : m = a
  ·subst e
   rw [List.getElem?_set_self (lt_of_get (h.row m hm))]
   unfold upd2
   rw [List.getD_eq_getElem?_getD (l := S.set _ _), List.getElem?_set_self hS]; rfl
  ·rw [List.getElem?_set_ne (fun q => e (h.inj m a hm ha q)), h.row a ha]
   unfold upd2
   rw [List.getD_eq_getElem?_getD (l := S.set _ _), List.getElem?_set_ne e, ← List.getD_eq_getElem?_getD]
end
def svOf (n0 i tl : Nat) : VV := if i = 0 then .sf 0 [] else .bf (n0 + (tl + 2)) 0 i 1
theorem FS.sbox {k : Kn} {M : Mem} {tl : Nat} {rl : Nat → Nat} {L : List VObj} {S : List (List Int)} (h : FS M.H.length k.gifts.length k.meals.length tl rl L S) (a b : VObj) : SBox k S (svOf M.H.length k.meals.length tl) (M.H.length + (tl + 2)) (fun m => M.H.length + (rl m + 2)) (M.H ++ a :: b :: L) := by
 refine ⟨fun q => ?_, fun q => ?_, fun m hm => ?_⟩
 ·unfold svOf; rw [if_neg q]
 ·rw [hget]; exact h.tab q
 ·rw [hget]; exact h.row m hm
theorem W_frzRows {P : Program} {cx : Cx} {c : Code} {e : Env} {D : List Nat} {Q : PQ} {H0 : List VObj} {lg : List (Nat × Nat)} {G i tl : Nat} {rl : Nat → Nat} {S : List (List Int)} (hS : ∀ m, m < i → (S.getD m []).length = G) (hne : ∀ m, m < i → rl m ≠ tl) (hinj : ∀ a b, a < i → b < i → rl a = rl b → a = b) :
  ∀ (d a : Nat) (L : List VObj), a + d = i → L[tl]? = some (.obj ((List.range i).map fun x => if x < a then .p (.sl 1 ((S.getD x []).map intP)) else .bf (H0.length + rl x) 0 G 1)) → (∀ m, a ≤ m → m < i → L[rl m]? = some (.obj ((S.getD m []).map vi))) →
  (∀ L' : List VObj, L'.length = L.length → L'[tl]? = some (.obj ((List.range i).map fun x => .p (.sl 1 ((S.getD x []).map intP)))) → (∀ x, x ≠ tl → (∀ m, m < i → x ≠ rl m) → L'[x]? = L[x]?) → WCode P cx c e ⟨H0 ++ L', lg⟩ D Q) → WCode P cx c e ⟨H0 ++ L, lg⟩ D Q := by
 intro d
 induction d with
 | zero =>
  intro a L ha htab hrow h
  refine h L rfl ?_ fun _ _ _ => rfl
  rw [htab]
  congr 2
  refine List.map_congr_left fun x hx => ?_
  rw [List.mem_range] at hx
  rw [if_pos (by omega)]
 | succ d ih =>
  intro a L ha htab hrow h
  have hai : a < i := by omega
  have hf : ∀ xs : List Int, List.map VV.p (List.map intP xs).flatten = xs.map vi := fun xs => by
   induction xs with
   | nil => rfl
   | cons x xs ih => simp [ih]
  refine W_frz1 (id := H0.length + rl a) (n := G) (k := 1) (o := H0.length + tl) (j := a) (xs := (S.getD a []).map intP) (cs := (List.range i).map fun x => if x < a then .p (.sl 1 ((S.getD x []).map intP)) else .bf (H0.length + rl x) 0 G 1) ?_ ?_ ?_ (by simp) (by rw [List.length_map]; exact hS a hai) (by have := hne a hai; omega) ?_
  ·rw [hget, hf]; exact hrow a (Nat.le_refl _) hai
  ·rw [hget]; exact htab
  ·simp [hai]
  ·rw [hset, hset]
   have hlt := lt_of_get htab
   refine ih (a + 1) _ (by omega) ?_ (fun m hm1 hm2 => ?_) fun L' hL' ht' ho' => ?_
   ·rw [List.getElem?_set_self (by rw [List.length_set]; exact hlt)]
    congr 2
    apply List.ext_getElem?
    intro x
    rw [List.getElem?_set]
    by_cases e : a = x
    ·subst e
     rw [if_pos rfl, if_pos (by simpa using hai)]
     simp [hai]
    ·rw [if_neg e]
     simp only [List.getElem?_map]
     rcases Nat.lt_or_ge x i with q | q
     ·rw [List.getElem?_range q, Option.map_some, Option.map_some]
      congr 1
      by_cases q2 : x < a
      ·rw [if_pos q2, if_pos (by omega)]
      ·rw [if_neg q2, if_neg (by omega)]
     ·rw [List.getElem?_eq_none (by simpa using q)]; rfl
   ·rw [List.getElem?_set_ne (fun q => hne m hm2 q.symm), List.getElem?_set_ne (fun q => by have := hinj a m hai hm2 q; omega)]
    exact hrow m (by omega) hm2
   ·refine h L' (by simpa using hL') ht' fun x hx1 hx2 => ?_
    rw [ho' x hx1 hx2, List.getElem?_set_ne (fun q => hx1 q.symm), List.getElem?_set_ne (fun q => hx2 a hai q.symm)]
theorem toPs_p : ∀ xs : List PV, toPs (xs.map VV.p) = some xs
 | [] => rfl
 | x :: xs => by simp [toPs, toP, toPs_p xs]
theorem chunks_flat (k : Nat) : ∀ (xs : List (List PV)) (pre : List VV), (∀ x ∈ xs, x.length = k) → toPss (chunksOf (pre ++ List.map VV.p xs.flatten) k pre.length xs.length) = some xs
 | [], _, _ => rfl
 | x :: xs, pre, h => by
  have hx := h x (List.mem_cons_self ..)
  have e1 : pre ++ List.map VV.p (x :: xs).flatten = (pre ++ x.map VV.p) ++ List.map VV.p xs.flatten := by simp
  have e2 : pre.length + k = (pre ++ x.map VV.p).length := by simp [hx]
  rw [List.length_cons, chunksOf, e1, e2, toPss, chunks_flat k xs (pre ++ x.map VV.p) (fun y hy => h y (List.mem_cons_of_mem _ hy))]
  have e3 : List.take k (List.drop pre.length (pre ++ x.map VV.p ++ List.map VV.p xs.flatten)) = x.map VV.p := by
   rw [List.append_assoc, List.drop_left, List.take_append_of_le_length (by simp [hx]), List.take_of_length_le (by simp [hx])]
  rw [e3, toPs_p]
theorem frz_bf {n0 id n k : Nat} {H : List VObj} {xs : List (List PV)} {cs : List VV} (h0 : n0 ≤ id) (hg : H[id]? = some (.obj cs)) (hcs : cs = List.map VV.p xs.flatten) (hk : ∀ x ∈ xs, x.length = k) (hn : xs.length = n) : frz n0 H (.bf id 0 n k) = .p (.sl k xs) := by
 subst hcs
 subst hn
 have hl : ∀ xs : List (List PV), (∀ x ∈ xs, x.length = k) → xs.flatten.length = xs.length * k := by
  intro xs
  induction xs with
  | nil => intro _; simp
  | cons x xs ih =>
   intro h
   rw [List.flatten_cons, List.length_append, ih fun y hy => h y (List.mem_cons_of_mem _ hy), h x (List.mem_cons_self ..), List.length_cons, Nat.succ_mul]
   omega
 have g1 : Nat.ble n0 id = true := by rw [Nat.ble_eq]; exact h0
 have g2 : Nat.ble (0 + xs.length * k) (List.map VV.p xs.flatten).length = true := by rw [Nat.ble_eq, List.length_map, hl xs hk]; omega
 have g3 := chunks_flat k xs [] hk
 simp only [List.nil_append, List.length_nil] at g3
 rw [frz, g1, cond_true, hg]
 simp only [g2, cond_true, g3]
theorem frz_table {n0 id : Nat} {H : List VObj} {S : List (List Int)} (h0 : n0 ≤ id) (hg : H[id]? = some (.obj ((List.range S.length).map fun x => .p (.sl 1 ((S.getD x []).map intP))))) : frz n0 H (.bf id 0 S.length 1) = tabV S := by
 refine frz_bf h0 hg ?_ (fun x hx => ?_) (by simp)
 ·apply List.ext_getElem?
  intro x
  have hfl : (S.map rowP).flatten = S.map fun l => PV.sl 1 (l.map intP) := by
   induction S with
   | nil => rfl
   | cons l S ih =>
    have : ∀ S : List (List Int), (S.map rowP).flatten = S.map fun l => PV.sl 1 (l.map intP) := fun S => by
     induction S with
     | nil => rfl
     | cons l S ih => rw [List.map_cons, List.flatten_cons, ih]; rfl
    exact this _
  rw [hfl]
  simp only [List.getElem?_map]
  rcases Nat.lt_or_ge x S.length with q | q
  ·rw [List.getElem?_range q, List.getElem?_eq_getElem q]
   simp only [Option.map_some, List.getD_eq_getElem?_getD, List.getElem?_eq_getElem q, Option.getD_some]
  ·rw [List.getElem?_eq_none (by simpa using q), List.getElem?_eq_none q]; rfl
 ·obtain ⟨l, _, rfl⟩ := List.mem_map.1 hx
  rfl
end Go.Proofs.YtekhddlngbppkaaDoor.Vm

/- Who may be inside, on values. (Vm) -/
-- TABLE TE
namespace Go.Proofs.YtekhddlngbppkaaDoor.Vm
open Go Go.Proofs
theorem spCs_one {L : List Sp} : ∀ {k : Nat} {x : Sp}, L[k]? = some x → ((spCs L).drop (k * 2)).take 1 = [vi x.lo] ∧ ((spCs L).drop (k * 2 + 1)).take 1 = [vi x.hi] := by
 intro k x h
 have hk := (List.getElem?_eq_some_iff.1 h).1
 have he : L[k] = x := (List.getElem?_eq_some_iff.1 h).2
 have h0 : (spCs L).drop (k * 2) = vi x.lo :: vi x.hi :: spCs (L.drop (k + 1)) := by
  rw [spCs_drop, List.drop_eq_getElem_cons hk, he]
  simp [spCs]
 refine ⟨by rw [h0]; rfl, ?_⟩
 rw [show k * 2 + 1 = k * 2 + 1 from rfl, ← List.drop_drop, h0]; rfl
theorem spCs_get {L : List Sp} {k : Nat} {x : Sp} (h : L[k]? = some x) : (spCs L)[k * 2]? = some (vi x.lo) ∧ (spCs L)[k * 2 + 1]? = some (vi x.hi) := by
 obtain ⟨h1, h2⟩ := spCs_one h
 have f : ∀ (n : Nat) (v : VV), ((spCs L).drop n).take 1 = [v] → (spCs L)[n]? = some v := fun n v e => by
  have : (((spCs L).drop n).take 1)[0]? = some v := by rw [e]; rfl
  rw [List.getElem?_take_of_lt (by omega), List.getElem?_drop, Nat.add_zero] at this
  exact this
 exact ⟨f _ _ h1, f _ _ h2⟩
theorem spCs_app (l : List Sp) (x : Sp) : spCs l ++ [vi x.lo, vi x.hi] = spCs (l ++ [x]) := by simp [spCs]
structure InSt where
 i : Nat
 tl : Nat
 L : List VObj
def ovOf (n0 : Nat) (first : Sp) (i tl : Nat) : VV := if i = 0 then .sf 2 [spP first] else .bf (n0 + (tl + 2)) 0 (i + 1) 2
theorem ovOf_zero (n0 : Nat) (first : Sp) (tl : Nat) : ovOf n0 first 0 tl = .sf 2 [spP first] := rfl
theorem ovOf_succ (n0 : Nat) (first : Sp) (p tl : Nat) : ovOf n0 first (p + 1) tl = .bf (n0 + (tl + 2)) 0 (p + 2) 2 := rfl
def insR (h : Ho) : VV := match insideH h with
 | some l => .tup [spsV l, vb true]
 | none => .tup [.p (.sl 0 []), vb false]
set_option maxHeartbeats 1000000 in
set_option maxRecDepth 8000 in
theorem inside_v (h : Ho) (V : HV h) (M : Mem) : VC Tryd.prog 13 [houseV h] M (fun r M' => M' = M ∧ r = insR h) := by
 have t0 := V.t0
 have t1 := V.t1
 obtain ⟨T', hT⟩ : ∃ T' : Nat, h.ticks = (T' : Int) := ⟨h.ticks.toNat, by omega⟩
 have hTn : h.ticks.toNat = T' := by omega
 obtain ⟨C, hC⟩ : ∃ C : Nat → Sp, C = fun t : Nat => chg h.counts (t : Int) := ⟨_, rfl⟩
 have hCb : Cb C := by rw [hC]; exact chg_Cb V
 have hR : insR h = if bad h.first C T' then .tup [.p (.sl 0 []), vb false] else .tup [spsV (insideL h.first C T'), vb true] := by
  unfold insR insideH
  rw [hTn, ← hC]
  cases bad h.first C T' <;> rfl
 have hfb := fwd_bd V.first hCb
 refine VC_own' TE_ok (f := 13) (fn := Tryd.f13) (by kernel_rfl) rfl Tryd.ntmps13 (by rfl) (by rfl) ?_
 ((repeat refine Ws ?_);refine W_region0 TE_ok ?_)
 simp (maxSteps := 1000000) only [xE_ty, xE_fn, xE_bin, xE_oi, xE_oc, xE_ok, VL,VM,↓VG,reduceIte,reduceCtorEq,zA,zB,zC,zD,zE,zF,zG,zH,zI,zJ]
 ((repeat refine Ws ?_);refine W_region0 TE_ok ?_)
 simp (maxSteps := 1000000) only [xE_ty, xE_fn, xE_bin, xE_oi, xE_oc, xE_ok, VL,VM,↓VG,reduceIte,reduceCtorEq,zA,zB,zC,zD,zE,zF,zG,zH,zI,zJ]
 apply call_eq (f := 31) (fn := Tryd.f31) (by kernel_rfl) (by rfl)
 ·exact counted_v h V _
 rw [hTn, ← hC]
 simp (maxSteps := 1000000) only [xE_ty, xE_fn, xE_bin, xE_oi, xE_oc, xE_ok, VL,VM,↓VG,reduceIte,reduceCtorEq,zA,zB,zC,zD,zE,zF,zG,zH,zI,zJ]
 ((repeat refine Ws ?_);refine W_region0 TE_ok ?_)
 simp (maxSteps := 1000000) only [xE_ty, xE_fn, xE_bin, xE_oi, xE_oc, xE_ok, VL,VM,↓VG,reduceIte,reduceCtorEq,zA,zB,zC,zD,zE,zF,zG,zH,zI,zJ]
 ((repeat refine Ws ?_);refine W_region0 TE_ok ?_)
 simp (maxSteps := 1000000) only [xE_ty, xE_fn, xE_bin, xE_oi, xE_oc, xE_ok, VL,VM,↓VG,reduceIte,reduceCtorEq,zA,zB,zC,zD,zE,zF,zG,zH,zI,zJ]
 ((repeat refine Ws ?_);refine W_region0 TE_ok ?_)
 simp (maxSteps := 1000000) only [xE_ty, xE_fn, xE_bin, xE_oi, xE_oc, xE_ok, VL,VM,↓VG,reduceIte,reduceCtorEq,zA,zB,zC,zD,zE,zF,zG,zH,zI,zJ, List.length_range]
 ((repeat refine Ws ?_);refine W_block ?_; (repeat refine Ws ?_)); refine W_loopS (fun s : InSt => [(0, houseV h), (1, .ptr M.H.length 0), (4, spsV ((List.range T').map C)), (5, .ptr (M.H.length + 1) 0), (6, ovOf M.H.length h.first s.i s.tl), (16, spsV ((List.range T').map C)), (17, vi T'), (18, vi s.i)]) (fun s => ⟨M.H ++ (.obj (houseC h) :: .obj [vi 0, vi 1099511627776] :: s.L), M.lg⟩) (fun s => T' - s.i) (fun s => s.i ≤ T' ∧ (s.i ≠ 0 → s.L[s.tl]? = some (.obj (spCs (fwdL h.first C s.i)))) ∧ ∀ t, t < s.i → ¬ (fwd h.first C (t + 1)).hi < (fwd h.first C (t + 1)).lo) ⟨0, 0, []⟩ ⟨Nat.zero_le _, fun q => absurd rfl q, fun t ht => absurd ht (Nat.not_lt_zero _)⟩ ⟨rfl, rfl, rfl, rfl, rfl, rfl, rfl, rfl, trivial⟩ (by simp) ?_
 rintro ⟨i, tl, L⟩ ⟨hi, hL, hno⟩
 simp only at hi hL hno
 have k1 : -9223372036854775808 ≤ (i : Int) + 1 ∧ (i : Int) + 1 < 9223372036854775808 := by omega
 have k0 : 0 ≤ (i : Int) + 1 := by omega
 have kn : ((i : Int) + 1).toNat = i + 1 := by omega
 ((repeat refine Ws ?_);refine W_region0 TE_ok ?_)
 rcases Nat.lt_or_ge i T' with hlt | hge
 ·have k2 : ((i : Int) < (T' : Int)) = True := eq_true (by omega)
  have hx : ((List.range T').map C)[i]? = some (C i) := by rw [List.getElem?_map, List.getElem?_range hlt]; rfl
  have hx' := map_at (f := spP) hx
  have hb1 := hfb i
  have hb2 := hCb i
  have sb1 : Sb (fwd h.first C i) := ⟨by omega, by omega, by omega, by omega⟩
  have sb2 : Sb (C i) := ⟨by omega, by omega, by omega, by omega⟩
  have hsm : bothS (sumS [fwd h.first C i, C i]) ⟨0, 1099511627776⟩ = fwd h.first C (i + 1) := by
   simp only [sumS, bothS, fwd, nxt, List.map_cons, List.map_nil, List.sum_cons, List.sum_nil]
   congr 1 <;> omega
  have hsn := fwdL_snoc h.first C i
  simp (maxSteps := 1000000) only [xE_ty, xE_fn, xE_bin, xE_oi, xE_oc, xE_ok, VL,VM,↓VG,reduceIte,reduceCtorEq,zA,zB,zC,zD,zE,zF,zG,zH,zI,zJ, k2]
  ((repeat refine Ws ?_);refine Wt (by first|rfl|simp only [EV,zF,reduceIte]) ?_)
  ((repeat refine Ws ?_);refine W_skip ?_)
  simp (maxSteps := 1000000) only [xE_ty, xE_fn, xE_bin, xE_oi, xE_oc, xE_ok, VL,VM,↓VG,reduceIte,reduceCtorEq,zA,zB,zC,zD,zE,zF,zG,zH,zI,zJ]
  ((repeat refine Ws ?_);refine W_block ?_)
  ((repeat refine Ws ?_);refine W_region0 TE_ok ?_)
  simp (maxSteps := 1000000) only [xE_ty, xE_fn, xE_bin, xE_oi, xE_oc, xE_ok, VL,VM,↓VG,reduceIte,reduceCtorEq,zA,zB,zC,zD,zE,zF,zG,zH,zI,zJ, hx']
  rcases i with _ | p
  ·have hsm0 : bothS (sumS [h.first, C 0]) ⟨0, 1099511627776⟩ = fwd h.first C 1 := hsm
   have happ : [vi h.first.lo, vi h.first.hi, vi (fwd h.first C 1).lo, vi (fwd h.first C 1).hi] = spCs (fwdL h.first C 1) := rfl
   (repeat refine Ws ?_)
   refine W_drawP TE_ok [] (by kernel_rfl) (by kernel_rfl) ?_
   generalize hi : mkPlan _ = infs
   cbv at hi
   subst hi
   simp (maxSteps := 1000000) only [xE_ty, xE_fn, xE_bin, xE_oi, xE_oc, xE_ok, VL,VM,↓VG,reduceIte,reduceCtorEq,zA,zB,zC,zD,zE,zF,zG,zH,zI,zJ, ovOf_zero, vgrow]
   apply call_d (f := 33) (fn := Tryd.f33) (by kernel_rfl) (by rfl)
   ·exact sum_v [h.first, C 0] _ (by simp) (by
    intro x hx
    simp only [List.mem_cons, List.mem_nil_iff, or_false] at hx
    rcases hx with rfl | rfl
    ·exact sb1
    ·exact sb2)
   simp (maxSteps := 1000000) only [xE_ty, xE_fn, xE_bin, xE_oi, xE_oc, xE_ok, VL,VM,↓VG,reduceIte,reduceCtorEq,zA,zB,zC,zD,zE,zF,zG,zH,zI,zJ, ovOf_zero, vgrow]
   apply call_d (f := 32) (fn := Tryd.f32) (by kernel_rfl) (by rfl)
   ·exact both_v (sumS [h.first, C 0]) ⟨0, 1099511627776⟩ _
   rw [hsm0]
   simp (maxSteps := 1000000) only [xE_ty, xE_fn, xE_bin, xE_oi, xE_oc, xE_ok, VL,VM,↓VG,reduceIte,reduceCtorEq,zA,zB,zC,zD,zE,zF,zG,zH,zI,zJ, ovOf_zero, vgrow, List.flatten_cons, List.flatten_nil]
   rw [happ]
   obtain ⟨L2, hL2⟩ : ∃ L2, L2 = L ++ [VObj.obj [vi (C 0).lo, vi (C 0).hi], .obj (spCs (fwdL h.first C 1))] := ⟨_, rfl⟩
   have hg2 : L2[L.length + 1]? = some (.obj (spCs (fwdL h.first C (0 + 1)))) := by rw [hL2, hget]; rfl
   rw [← hL2]
   have g1 := spCs_get (fwdL_at (first := h.first) (C := C) (Nat.le_refl (0 + 1)))
   have g2 := g1.2
   have g1 := g1.1
   have u1 : (0 + 1 < 2) = True := eq_true (by omega)
   have hlen2 : (spCs (fwdL h.first C (0 + 1))).length = (0 + 1 + 1) * 2 := by rw [spCs_len, fwdL_len]
   (repeat refine Ws ?_)
   refine W_drawP TE_ok [] (by kernel_rfl) (by kernel_rfl) ?_
   generalize hi : mkPlan _ = infs
   cbv at hi
   subst hi
   by_cases b : (fwd h.first C (0 + 1)).hi < (fwd h.first C (0 + 1)).lo
   ·have kb : ((fwd h.first C (0 + 1)).hi < (fwd h.first C (0 + 1)).lo) = True := eq_true b
    simp (maxSteps := 1000000) only [xE_ty, xE_fn, xE_bin, xE_oi, xE_oc, xE_ok, VL,VM,↓VG,reduceIte,reduceCtorEq,zA,zB,zC,zD,zE,zF,zG,zH,zI,zJ, hg2, k1, k0, kn, g1, g2, u1, kb]
    ((repeat refine Ws ?_);refine Wt (by first|rfl|simp only [EV,zF,reduceIte]) ?_)
    ((repeat refine Ws ?_);refine W_region0 TE_ok ?_)
    simp (maxSteps := 1000000) only [xE_ty, xE_fn, xE_bin, xE_oi, xE_oc, xE_ok, VL,VM,↓VG,reduceIte,reduceCtorEq,zA,zB,zC,zD,zE,zF,zG,zH,zI,zJ]
    (repeat refine Ws ?_)
    refine W_ret ?_
    try simp only [thenQ, blockQ]
    refine own_ret (vs := [.sf 0 [], vb false]) (r := .tup [.p (.sl 0 []), vb false]) rfl (by simp [vtup, frz, frzL]) (by simp [refs, refsL]) ⟨rfl, ?_⟩
    rw [hR, bad_true hlt b, if_pos rfl]
   have kb : ((fwd h.first C (0 + 1)).hi < (fwd h.first C (0 + 1)).lo) = False := eq_false b
   simp (maxSteps := 1000000) only [xE_ty, xE_fn, xE_bin, xE_oi, xE_oc, xE_ok, VL,VM,↓VG,reduceIte,reduceCtorEq,zA,zB,zC,zD,zE,zF,zG,zH,zI,zJ, hg2, k1, k0, kn, g1, g2, u1, kb]
   ((repeat refine Ws ?_);refine Wf (by first|rfl|simp only [EV,zF,reduceIte]) ?_)
   ((repeat refine Ws ?_);refine W_skip ?_)
   simp (maxSteps := 1000000) only [xE_ty, xE_fn, xE_bin, xE_oi, xE_oc, xE_ok, VL,VM,↓VG,reduceIte,reduceCtorEq,zA,zB,zC,zD,zE,zF,zG,zH,zI,zJ]
   ((repeat refine Ws ?_);refine W_region0 TE_ok ?_)
   simp (maxSteps := 1000000) only [xE_ty, xE_fn, xE_bin, xE_oi, xE_oc, xE_ok, VL,VM,↓VG,reduceIte,reduceCtorEq,zA,zB,zC,zD,zE,zF,zG,zH,zI,zJ, k1]
   refine LoopK.mk ⟨0 + 1, L.length + 1, L2⟩ (by simp only; omega) ⟨hlt, fun _ => hg2, fun t ht => ?_⟩ ⟨rfl, rfl, rfl, rfl, rfl, rfl, rfl, rfl, trivial⟩ rfl
   rcases Nat.lt_succ_iff_lt_or_eq.1 ht with q | q
   ·exact hno t q
   ·rw [q]; exact b
  ·have hL1 := hL (by omega)
   have htl := lt_of_get hL1
   have e1 : ∀ Y, (L ++ Y)[tl]? = some (.obj (spCs (fwdL h.first C (p + 1)))) := fun Y => get_app hL1
   have e2 : ∀ Y x, (L ++ Y).set tl x = L.set tl x ++ Y := fun Y x => List.set_append_left _ _ htl
   have hlen : (spCs (fwdL h.first C (p + 1))).length = (p + 2) * 2 := by rw [spCs_len, fwdL_len]
   have c2 : ((p + 1) * 2 + 2 ≤ (p + 2) * 2) = True := eq_true (by omega)
   have c3 := spCs_at (fwdL_at (first := h.first) (C := C) (Nat.le_refl (p + 1)))
   have q3 : ((p + 3) * 16 ≤ 140737488355328) = True := eq_true (by omega)
   have happ : spCs (fwdL h.first C (p + 1)) ++ [vi (fwd h.first C (p + 2)).lo, vi (fwd h.first C (p + 2)).hi] = spCs (fwdL h.first C (p + 2)) := by rw [spCs_app]; exact congrArg spCs hsn
   (repeat refine Ws ?_)
   refine W_drawP TE_ok [] (by kernel_rfl) (by kernel_rfl) ?_
   generalize hi : mkPlan _ = infs
   cbv at hi
   subst hi
   simp (maxSteps := 1000000) only [xE_ty, xE_fn, xE_bin, xE_oi, xE_oc, xE_ok, VL,VM,↓VG,reduceIte,reduceCtorEq,zA,zB,zC,zD,zE,zF,zG,zH,zI,zJ, ovOf_succ, vgrow, e1, e2, hlen, c2, c3, q3]
   apply call_d (f := 33) (fn := Tryd.f33) (by kernel_rfl) (by rfl)
   ·exact sum_v [fwd h.first C (p + 1), C (p + 1)] _ (by simp) (by
    intro x hx
    simp only [List.mem_cons, List.mem_nil_iff, or_false] at hx
    rcases hx with rfl | rfl
    ·exact sb1
    ·exact sb2)
   simp (maxSteps := 1000000) only [xE_ty, xE_fn, xE_bin, xE_oi, xE_oc, xE_ok, VL,VM,↓VG,reduceIte,reduceCtorEq,zA,zB,zC,zD,zE,zF,zG,zH,zI,zJ, ovOf_succ, vgrow, e1, e2, hlen, c2, c3, q3]
   apply call_d (f := 32) (fn := Tryd.f32) (by kernel_rfl) (by rfl)
   ·exact both_v (sumS [fwd h.first C (p + 1), C (p + 1)]) ⟨0, 1099511627776⟩ _
   rw [hsm]
   simp (maxSteps := 1000000) only [xE_ty, xE_fn, xE_bin, xE_oi, xE_oc, xE_ok, VL,VM,↓VG,reduceIte,reduceCtorEq,zA,zB,zC,zD,zE,zF,zG,zH,zI,zJ, ovOf_succ, vgrow, e1, e2, hlen, c2, c3, q3, List.flatten_cons, List.flatten_nil, happ]
   obtain ⟨L2, hL2⟩ : ∃ L2, L2 = L.set tl .gone ++ [VObj.obj [vi (C (p + 1)).lo, vi (C (p + 1)).hi], .obj (spCs (fwdL h.first C (p + 2)))] := ⟨_, rfl⟩
   have hg2 : L2[L.length + 1]? = some (.obj (spCs (fwdL h.first C (p + 1 + 1)))) := by
    rw [hL2, List.getElem?_append_right (by rw [List.length_set]; omega), List.length_set, Nat.add_sub_cancel_left]; rfl
   rw [← hL2]
   have g1 := spCs_get (fwdL_at (first := h.first) (C := C) (Nat.le_refl (p + 1 + 1)))
   have g2 := g1.2
   have g1 := g1.1
   have u1 : (p + 1 + 1 < p + 3) = True := eq_true (by omega)
   have hlen2 : (spCs (fwdL h.first C (p + 1 + 1))).length = (p + 1 + 1 + 1) * 2 := by rw [spCs_len, fwdL_len]
   (repeat refine Ws ?_)
   refine W_drawP TE_ok [] (by kernel_rfl) (by kernel_rfl) ?_
   generalize hi : mkPlan _ = infs
   cbv at hi
   subst hi
   by_cases b : (fwd h.first C (p + 1 + 1)).hi < (fwd h.first C (p + 1 + 1)).lo
   ·have kb : ((fwd h.first C (p + 1 + 1)).hi < (fwd h.first C (p + 1 + 1)).lo) = True := eq_true b
    simp (maxSteps := 1000000) only [xE_ty, xE_fn, xE_bin, xE_oi, xE_oc, xE_ok, VL,VM,↓VG,reduceIte,reduceCtorEq,zA,zB,zC,zD,zE,zF,zG,zH,zI,zJ, hg2, k1, k0, kn, g1, g2, u1, kb]
    ((repeat refine Ws ?_);refine Wt (by first|rfl|simp only [EV,zF,reduceIte]) ?_)
    ((repeat refine Ws ?_);refine W_region0 TE_ok ?_)
    simp (maxSteps := 1000000) only [xE_ty, xE_fn, xE_bin, xE_oi, xE_oc, xE_ok, VL,VM,↓VG,reduceIte,reduceCtorEq,zA,zB,zC,zD,zE,zF,zG,zH,zI,zJ]
    (repeat refine Ws ?_)
    refine W_ret ?_
    try simp only [thenQ, blockQ]
    refine own_ret (vs := [.sf 0 [], vb false]) (r := .tup [.p (.sl 0 []), vb false]) rfl (by simp [vtup, frz, frzL]) (by simp [refs, refsL]) ⟨rfl, ?_⟩
    rw [hR, bad_true hlt b, if_pos rfl]
   have kb : ((fwd h.first C (p + 1 + 1)).hi < (fwd h.first C (p + 1 + 1)).lo) = False := eq_false b
   simp (maxSteps := 1000000) only [xE_ty, xE_fn, xE_bin, xE_oi, xE_oc, xE_ok, VL,VM,↓VG,reduceIte,reduceCtorEq,zA,zB,zC,zD,zE,zF,zG,zH,zI,zJ, hg2, k1, k0, kn, g1, g2, u1, kb]
   ((repeat refine Ws ?_);refine Wf (by first|rfl|simp only [EV,zF,reduceIte]) ?_)
   ((repeat refine Ws ?_);refine W_skip ?_)
   simp (maxSteps := 1000000) only [xE_ty, xE_fn, xE_bin, xE_oi, xE_oc, xE_ok, VL,VM,↓VG,reduceIte,reduceCtorEq,zA,zB,zC,zD,zE,zF,zG,zH,zI,zJ]
   ((repeat refine Ws ?_);refine W_region0 TE_ok ?_)
   simp (maxSteps := 1000000) only [xE_ty, xE_fn, xE_bin, xE_oi, xE_oc, xE_ok, VL,VM,↓VG,reduceIte,reduceCtorEq,zA,zB,zC,zD,zE,zF,zG,zH,zI,zJ, k1]
   refine LoopK.mk ⟨p + 1 + 1, L.length + 1, L2⟩ (by simp only; omega) ⟨hlt, fun _ => hg2, fun t ht => ?_⟩ ⟨rfl, rfl, rfl, rfl, rfl, rfl, rfl, rfl, trivial⟩ rfl
   rcases Nat.lt_succ_iff_lt_or_eq.1 ht with q | q
   ·exact hno t q
   ·rw [q]; exact b
 have k2 : ((i : Int) < (T' : Int)) = False := eq_false (by omega)
 have hi3 : i = T' := by omega
 subst hi3
 have hR2 : insR h = .tup [spsV (insideL h.first C i), vb true] := by rw [hR, bad_false hno]; rfl
 have hbb := bwd_bd V.first hCb i
 have kt : -9223372036854775808 ≤ h.ticks - 1 ∧ h.ticks - 1 < 9223372036854775808 := by omega
 have kt2 : vi (h.ticks - 1) = vi ((i : Int) - 1 - ((0 : Nat) : Int)) := by rw [show h.ticks - 1 = (i : Int) - 1 - ((0 : Nat) : Int) by omega]
 simp (maxSteps := 1000000) only [xE_ty, xE_fn, xE_bin, xE_oi, xE_oc, xE_ok, VL,VM,↓VG,reduceIte,reduceCtorEq,zA,zB,zC,zD,zE,zF,zG,zH,zI,zJ, k2]
 ((repeat refine Ws ?_);refine Wf (by first|rfl|simp only [EV,zF,reduceIte]) ?_)
 ((repeat refine Ws ?_);refine W_exit ?_)
 simp (maxSteps := 1000000) only [xE_ty, xE_fn, xE_bin, xE_oi, xE_oc, xE_ok, VL,VM,↓VG,reduceIte,reduceCtorEq,zA,zB,zC,zD,zE,zF,zG,zH,zI,zJ]
 clear hR hno k1 k0 kn k2 hge hi
 ((repeat refine Ws ?_);refine W_region0 TE_ok ?_)
 simp (maxSteps := 1000000) only [xE_ty, xE_fn, xE_bin, xE_oi, xE_oc, xE_ok, VL,VM,↓VG,reduceIte,reduceCtorEq,zA,zB,zC,zD,zE,zF,zG,zH,zI,zJ, kt]
 ((repeat refine Ws ?_);refine W_block ?_; (repeat refine Ws ?_)); refine W_loopS (fun s : InSt => [(0, houseV h), (1, .ptr M.H.length 0), (4, spsV ((List.range i).map C)), (5, .ptr (M.H.length + 1) 0), (6, ovOf M.H.length h.first i tl), (9, vi ((i : Int) - 1 - (s.i : Int)))]) (fun s => ⟨M.H ++ (.obj (houseC h) :: .obj [vi 0, vi 1099511627776] :: s.L), M.lg⟩) (fun s => i - s.i) (fun s => s.i ≤ i ∧ (i ≠ 0 → s.L[tl]? = some (.obj (spCs (bwL h.first C i s.i))))) ⟨0, 0, L⟩ ⟨Nat.zero_le _, fun q => by rw [bwL_zero]; exact hL q⟩ ⟨rfl, rfl, rfl, rfl, rfl, kt2, trivial⟩ rfl ?_
 clear hL kt2
 rintro ⟨j, _, L⟩ ⟨hj, hL⟩
 simp only at hj hL
 ((repeat refine Ws ?_);refine W_region0 TE_ok ?_)
 rcases Nat.lt_or_ge j i with hlt | hge
 ·obtain ⟨p, rfl⟩ : ∃ p, i = p + 1 := ⟨i - 1, by omega⟩
  obtain ⟨m, hm⟩ : ∃ m, m + j = p := ⟨p - j, by omega⟩
  have k2 : (0 ≤ ((p + 1 : Nat) : Int) - 1 - (j : Int)) = True := eq_true (by omega)
  have hkm : ((p + 1 : Nat) : Int) - 1 - (j : Int) = (m : Int) := by omega
  have hL1 := hL (by omega)
  have hlen : (spCs (bwL h.first C (p + 1) j)).length = (p + 2) * 2 := by rw [spCs_len, bwL_len]
  have a1 := bwL_at (first := h.first) (C := C) (T := p + 1) (j := j) (t := m) (by omega)
  rw [if_neg (by omega)] at a1
  have a2 := bwL_at (first := h.first) (C := C) (T := p + 1) (j := j) (t := m + 1) (by omega)
  rw [if_pos (by omega), show p + 1 - (m + 1) = j by omega] at a2
  have b1 := spCs_at a1
  have b2 := spCs_at a2
  have k1 : -9223372036854775808 ≤ (m : Int) + 1 ∧ (m : Int) + 1 < 9223372036854775808 := by omega
  have k0 : 0 ≤ (m : Int) + 1 := by omega
  have kn : ((m : Int) + 1).toNat = m + 1 := by omega
  have k3 : -9223372036854775808 ≤ (m : Int) - 1 ∧ (m : Int) - 1 < 9223372036854775808 := by omega
  have k4 : 0 ≤ (m : Int) := by omega
  have u1 : (m < p + 2) = True := eq_true (by omega)
  have u2 : (m + 1 < p + 2) = True := eq_true (by omega)
  have u3 : (m * 2 + 2 ≤ (p + 2) * 2) = True := eq_true (by omega)
  have u4 : ((m + 1) * 2 + 2 ≤ (p + 2) * 2) = True := eq_true (by omega)
  have hx : ((List.range (p + 1)).map C)[m]? = some (C m) := by rw [List.getElem?_map, List.getElem?_range (by omega)]; rfl
  have hx' := map_at (f := spP) hx
  have hb1 := hfb m
  have hb2 := hCb m
  have hb3 := hbb j (by omega)
  have sb1 : Sb (C m) := ⟨by omega, by omega, by omega, by omega⟩
  have sb2 : Sb (bwd h.first C (p + 1) j) := ⟨by omega, by omega, by omega, by omega⟩
  have sb3 : Sb (negS (C m)) := ⟨by simp only [negS]; omega, by simp only [negS]; omega, by simp only [negS]; omega, by simp only [negS]; omega⟩
  have hsm : bothS (fwd h.first C m) (sumS [bwd h.first C (p + 1) j, negS (C m)]) = bwd h.first C (p + 1) (j + 1) := by
   simp only [sumS, bothS, negS, bwd, List.map_cons, List.map_nil, List.sum_cons, List.sum_nil, show p + 1 - (j + 1) = m by omega]
   congr 2 <;> omega
  have hst := bwL_set (first := h.first) (C := C) (T := p + 1) (j := j) (m := m) (by omega)
  have c4 := spCs_set (l := bwL h.first C (p + 1) j) (k := m) (bwd h.first C (p + 1) (j + 1)) (by rw [bwL_len]; omega)
  rw [hst] at c4
  simp (maxSteps := 1000000) only [xE_ty, xE_fn, xE_bin, xE_oi, xE_oc, xE_ok, VL,VM,↓VG,reduceIte,reduceCtorEq,zA,zB,zC,zD,zE,zF,zG,zH,zI,zJ, k2]
  ((repeat refine Ws ?_);refine Wt (by first|rfl|simp only [EV,zF,reduceIte]) ?_)
  ((repeat refine Ws ?_);refine W_skip ?_)
  simp (maxSteps := 1000000) only [xE_ty, xE_fn, xE_bin, xE_oi, xE_oc, xE_ok, VL,VM,↓VG,reduceIte,reduceCtorEq,zA,zB,zC,zD,zE,zF,zG,zH,zI,zJ]
  ((repeat refine Ws ?_);refine W_block ?_)
  (repeat refine Ws ?_)
  refine W_drawP TE_ok [] (by kernel_rfl) (by kernel_rfl) ?_
  generalize hi : mkPlan _ = infs
  cbv at hi
  subst hi
  simp (maxSteps := 1000000) only [xE_ty, xE_fn, xE_bin, xE_oi, xE_oc, xE_ok, VL,VM,↓VG,reduceIte,reduceCtorEq,zA,zB,zC,zD,zE,zF,zG,zH,zI,zJ, ovOf_succ, hkm, hL1, hlen, b1, b2, k0, k1, kn, k4, u1, u2, u3, u4, hx']
  apply call_d (f := 34) (fn := Tryd.f34) (by kernel_rfl) (by rfl)
  ·exact less_v (C m) _ sb1
  simp (maxSteps := 1000000) only [xE_ty, xE_fn, xE_bin, xE_oi, xE_oc, xE_ok, VL,VM,↓VG,reduceIte,reduceCtorEq,zA,zB,zC,zD,zE,zF,zG,zH,zI,zJ, ovOf_succ, hkm, hL1, hlen, b1, b2, k0, k1, kn, k4, u1, u2, u3, u4, hx']
  apply call_d (f := 33) (fn := Tryd.f33) (by kernel_rfl) (by rfl)
  ·exact sum_v [bwd h.first C (p + 1) j, negS (C m)] _ (by simp) (by
   intro x hx
   simp only [List.mem_cons, List.mem_nil_iff, or_false] at hx
   rcases hx with rfl | rfl
   ·exact sb2
   ·exact sb3)
  simp (maxSteps := 1000000) only [xE_ty, xE_fn, xE_bin, xE_oi, xE_oc, xE_ok, VL,VM,↓VG,reduceIte,reduceCtorEq,zA,zB,zC,zD,zE,zF,zG,zH,zI,zJ, ovOf_succ, hkm, hL1, hlen, b1, b2, k0, k1, kn, k4, u1, u2, u3, u4, hx']
  apply call_d (f := 32) (fn := Tryd.f32) (by kernel_rfl) (by rfl)
  ·exact both_v (fwd h.first C m) (sumS [bwd h.first C (p + 1) j, negS (C m)]) _
  rw [hsm]
  simp (maxSteps := 1000000) only [xE_ty, xE_fn, xE_bin, xE_oi, xE_oc, xE_ok, VL,VM,↓VG,reduceIte,reduceCtorEq,zA,zB,zC,zD,zE,zF,zG,zH,zI,zJ, ovOf_succ, hkm, hL1, hlen, b1, b2, k0, k1, kn, k4, u1, u2, u3, u4, hx', c4]
  have hfin : vi ((m : Int) - 1) = vi (((p + 1 : Nat) : Int) - 1 - ((j + 1 : Nat) : Int)) := by rw [show (m : Int) - 1 = ((p + 1 : Nat) : Int) - 1 - ((j + 1 : Nat) : Int) by omega]
  ((repeat refine Ws ?_);refine W_region0 TE_ok ?_)
  simp (maxSteps := 1000000) only [xE_ty, xE_fn, xE_bin, xE_oi, xE_oc, xE_ok, VL,VM,↓VG,reduceIte,reduceCtorEq,zA,zB,zC,zD,zE,zF,zG,zH,zI,zJ, hkm, k3]
  refine LoopK.mk ⟨j + 1, 0, L.set tl (.obj (spCs (bwL h.first C (p + 1) (j + 1))))⟩ (by simp only; omega) ⟨hlt, List.getElem?_set_self (lt_of_get hL1)⟩ ⟨rfl, rfl, rfl, rfl, rfl, hfin, trivial⟩ rfl
 have k2 : (0 ≤ (i : Int) - 1 - (j : Int)) = False := eq_false (by omega)
 have hj3 : j = i := by omega
 subst hj3
 simp (maxSteps := 1000000) only [xE_ty, xE_fn, xE_bin, xE_oi, xE_oc, xE_ok, VL,VM,↓VG,reduceIte,reduceCtorEq,zA,zB,zC,zD,zE,zF,zG,zH,zI,zJ, k2]
 ((repeat refine Ws ?_);refine Wf (by first|rfl|simp only [EV,zF,reduceIte]) ?_)
 ((repeat refine Ws ?_);refine W_exit ?_)
 simp (maxSteps := 1000000) only [xE_ty, xE_fn, xE_bin, xE_oi, xE_oc, xE_ok, VL,VM,↓VG,reduceIte,reduceCtorEq,zA,zB,zC,zD,zE,zF,zG,zH,zI,zJ]
 ((repeat refine Ws ?_);refine W_region0 TE_ok ?_)
 simp (maxSteps := 1000000) only [xE_ty, xE_fn, xE_bin, xE_oi, xE_oc, xE_ok, VL,VM,↓VG,reduceIte,reduceCtorEq,zA,zB,zC,zD,zE,zF,zG,zH,zI,zJ]
 (repeat refine Ws ?_)
 refine W_ret ?_
 try simp only [thenQ, blockQ]
 refine own_ret (vs := [ovOf M.H.length h.first j tl, vb true]) (r := .tup [spsV (insideL h.first C j), vb true]) rfl ?_ (by simp [refs, refsL]) ⟨rfl, hR2.symm⟩
 have h3t : ∀ (n : Nat) (H : List VObj) (a b : VV), frz n H (.tup [a, b]) = .tup [frz n H a, frz n H b] := fun n H a b => by rw [frz, frzL, frzL, frzL]
 show frz _ _ (.tup [_, _]) = _
 rw [h3t]
 have : frz M.H.length (M.H ++ VObj.obj (houseC h) :: VObj.obj [vi 0, vi 1099511627776] :: L) (ovOf M.H.length h.first j tl) = spsV (insideL h.first C j) := by
  rcases j with _ | p
  ·rfl
  ·have := frz_spans (n0 := M.H.length) (id := M.H.length + (tl + 2)) (H := M.H ++ VObj.obj (houseC h) :: VObj.obj [vi 0, vi 1099511627776] :: L) (l := bwL h.first C (p + 1) (p + 1)) (by omega) (by rw [hget]; exact hL (by omega))
   rw [bwL_len] at this
   rw [ovOf_succ, ← bwL_end]
   exact this
 rw [this]
 rfl
end Go.Proofs.YtekhddlngbppkaaDoor.Vm
