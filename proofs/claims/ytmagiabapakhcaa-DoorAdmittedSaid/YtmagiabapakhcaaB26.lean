/- A part of the proofs about the chapter of the doors; it states no condition of its own. -/
import Derived.Test.YtmagiabapakhcaaB24
import Derived.Test.YtmagiabapakhcaaB25
set_option linter.unusedVariables false
set_option linter.unusedSimpArgs false
/- Who may be inside, plain facts. -/
namespace Go.Proofs.Ytmagiabapakhcaa
def Cb (C : Nat → Sp) : Prop := ∀ t, -50000 ≤ (C t).lo ∧ (C t).lo ≤ 50000 ∧ -50000 ≤ (C t).hi ∧ (C t).hi ≤ 50000
theorem fwd_bd {first : Sp} {C : Nat → Sp} (hf : SpOk first) (hC : Cb C) : ∀ t : Nat, 0 ≤ (fwd first C t).lo ∧ (fwd first C t).lo ≤ 10000 + 50000 * (t : Int) ∧ -50000 * (t : Int) ≤ (fwd first C t).hi ∧ (fwd first C t).hi ≤ 10000 + 50000 * (t : Int)
 | 0 => by
  obtain ⟨a, b, c⟩ := hf
  simp only [fwd]
  omega
 | t + 1 => by
  have h1 := fwd_bd hf hC t
  have h2 := hC t
  rw [fwd, nxt]
  push_cast
  omega
theorem bwd_bd {first : Sp} {C : Nat → Sp} (hf : SpOk first) (hC : Cb C) (T : Nat) : ∀ k : Nat, k ≤ T → -50000 * ((T : Int) + k) ≤ (bwd first C T k).lo ∧ (bwd first C T k).lo ≤ 10000 + 50000 * ((T : Int) + k) ∧ -50000 * ((T : Int) + k) ≤ (bwd first C T k).hi ∧ (bwd first C T k).hi ≤ 10000 + 50000 * ((T : Int) + k)
 | 0, _ => by
  have := fwd_bd hf hC T
  simp only [bwd]
  omega
 | k + 1, hk => by
  have h1 := bwd_bd hf hC T k (by omega)
  have h2 := hC (T - (k + 1))
  have h3 := fwd_bd hf hC (T - (k + 1))
  have h4 : ((T - (k + 1) : Nat) : Int) ≤ (T : Int) := by omega
  simp only [bwd]
  push_cast at *
  omega
def fwdL (first : Sp) (C : Nat → Sp) (i : Nat) : List Sp := (List.range (i + 1)).map (fwd first C)
theorem fwdL_len (first : Sp) (C : Nat → Sp) (i : Nat) : (fwdL first C i).length = i + 1 := by simp [fwdL]
theorem fwdL_snoc (first : Sp) (C : Nat → Sp) (i : Nat) : fwdL first C i ++ [fwd first C (i + 1)] = fwdL first C (i + 1) := by
 unfold fwdL
 rw [List.range_succ (n := i + 1), List.map_append]; rfl
theorem fwdL_at {first : Sp} {C : Nat → Sp} {i t : Nat} (h : t ≤ i) : (fwdL first C i)[t]? = some (fwd first C t) := by
 unfold fwdL
 rw [List.getElem?_map, List.getElem?_range (by omega)]; rfl
def bwL (first : Sp) (C : Nat → Sp) (T j : Nat) : List Sp := (List.range (T + 1)).map fun t => if T ≤ t + j then bwd first C T (T - t) else fwd first C t
theorem bwL_len (first : Sp) (C : Nat → Sp) (T j : Nat) : (bwL first C T j).length = T + 1 := by simp [bwL]
theorem bwL_zero (first : Sp) (C : Nat → Sp) (T : Nat) : bwL first C T 0 = fwdL first C T := by
 unfold bwL fwdL
 refine List.map_congr_left fun t ht => ?_
 rw [List.mem_range] at ht
 by_cases e : T ≤ t + 0
 ·rw [if_pos e]
  obtain rfl : t = T := by omega
  rw [Nat.sub_self]; rfl
 ·rw [if_neg e]
theorem bwL_end (first : Sp) (C : Nat → Sp) (T : Nat) : bwL first C T T = insideL first C T := by
 unfold bwL insideL
 refine List.map_congr_left fun t ht => ?_
 rw [if_pos (by omega)]
theorem bwL_at {first : Sp} {C : Nat → Sp} {T j t : Nat} (ht : t ≤ T) : (bwL first C T j)[t]? = some (if T ≤ t + j then bwd first C T (T - t) else fwd first C t) := by
 unfold bwL
 rw [List.getElem?_map, List.getElem?_range (by omega)]; rfl
theorem bwL_set {first : Sp} {C : Nat → Sp} {T j m : Nat} (hm : m + j + 1 = T) : (bwL first C T j).set m (bwd first C T (j + 1)) = bwL first C T (j + 1) := by
 apply List.ext_getElem?
 intro x
 rw [List.getElem?_set]
 by_cases e : m = x
 ·subst e
  rw [if_pos rfl, if_pos (by rw [bwL_len]; omega), bwL_at (by omega), if_pos (by omega), show T - m = j + 1 by omega]
 ·rw [if_neg e]
  rcases Nat.lt_or_ge T x with q | q
  ·rw [List.getElem?_eq_none (by rw [bwL_len]; omega), List.getElem?_eq_none (by rw [bwL_len]; omega)]
  ·rw [bwL_at q, bwL_at q]
   by_cases e2 : T ≤ x + j
   ·rw [if_pos e2, if_pos (by omega)]
   ·rw [if_neg e2, if_neg (by omega)]
theorem chg_Cb {h : Ho} (V : HV h) : Cb fun t => chg h.counts (t : Int) := fun t => chg_bd V (t : Int)
theorem bad_false {first : Sp} {C : Nat → Sp} {T : Nat} (h : ∀ t, t < T → ¬ (fwd first C (t + 1)).hi < (fwd first C (t + 1)).lo) : bad first C T = false := by
 unfold bad
 rw [List.any_eq_false]
 intro t ht
 rw [List.mem_range] at ht
 simpa using h t ht
theorem bad_true {first : Sp} {C : Nat → Sp} {T t : Nat} (ht : t < T) (h : (fwd first C (t + 1)).hi < (fwd first C (t + 1)).lo) : bad first C T = true := by
 unfold bad
 rw [List.any_eq_true]
 exact ⟨t, by rw [List.mem_range]; exact ht, by simpa using h⟩
end Go.Proofs.Ytmagiabapakhcaa

/- A table in which tables and lists of spans are slices of their own; what is served, in memory. (Vm) -/
namespace Go.Proofs.Ytmagiabapakhcaa.Vm
open Go Go.Proofs
def withOwn (T : Tab) (o : Nat → Bool) : Tab := { T with own := o }
section
variable {P : Program} {T : Tab} {o : Nat → Bool}
theorem withOwn_ok (h : TabOk P T) : TabOk P (withOwn T o) := ⟨h.ty, h.fn, h.mixed⟩
theorem withOwn_ty : (withOwn T o).ty = T.ty := rfl
theorem withOwn_fn : (withOwn T o).fn = T.fn := rfl
theorem withOwn_bin : vbin (withOwn T o) = vbin T := rfl
theorem withOwn_own : (withOwn T o).own = o := rfl
end
def ownE (t : Nat) : Bool := Nat.beq t 39 || Nat.beq t 50
noncomputable def TE : Tab := withOwn T ownE
theorem TE_ok : TabOk Try.prog TE := withOwn_ok T_ok
theorem xE_ty : TE.ty = T.ty := withOwn_ty
theorem xE_fn : TE.fn = T.fn := withOwn_fn
theorem xE_bin : vbin TE = vbin T := withOwn_bin
theorem xE_oi : TE.own 22 = false := by rw [TE, withOwn_own]; rfl
theorem xE_oc : TE.own 39 = true := by rw [TE, withOwn_own]; rfl
theorem xE_ok : TE.own 50 = true := by rw [TE, withOwn_own]; rfl
structure FS (n0 G i tl : Nat) (rl : Nat → Nat) (L : List VObj) (S : List (List Int)) : Prop where
 tab : i ≠ 0 → L[tl]? = some (.obj ((List.range i).map fun a => .bf (n0 + (rl a + 2)) 0 G 1))
 row : ∀ m, m < i → L[rl m]? = some (.obj ((S.getD m []).map vi))
 ne : ∀ m, m < i → rl m ≠ tl
 inj : ∀ a b, a < i → b < i → rl a = rl b → a = b
theorem lt_of_get {α : Type} {A : List α} {i : Nat} {o : α} (h : A[i]? = some o) : i < A.length := by
 rcases Nat.lt_or_ge i A.length with q | q
 ·exact q
 ·rw [List.getElem?_eq_none q] at h; cases h
section
variable {n0 G i tl : Nat} {rl : Nat → Nat} {L : List VObj} {S : List (List Int)}
theorem FS.app (h : FS n0 G i tl rl L S) (Y : List VObj) : FS n0 G i tl rl (L ++ Y) S := ⟨fun q => get_app (h.tab q), fun m hm => get_app (h.row m hm), h.ne, h.inj⟩
theorem FS.first {r : List VV} (hr : r = (S.getD 0 []).map vi) : FS n0 G 1 (L.length + 1) (fun _ => L.length) (L ++ [.obj r, .obj [.bf (n0 + (L.length + 2)) 0 G 1]]) S := by
 subst hr
 refine ⟨fun _ => ?_, fun m hm => ?_, fun m _ => by omega, fun a b ha hb _ => by omega⟩
 ·rw [List.getElem?_append_right (by omega), Nat.add_sub_cancel_left]; rfl
 ·obtain rfl : m = 0 := by omega
  rw [List.getElem?_append_right (Nat.le_refl _), Nat.sub_self]; rfl
theorem FS.grow {r : List VV} {p : Nat} (h : FS n0 G (p + 1) tl rl L S) (hr : r = (S.getD (p + 1) []).map vi) : FS n0 G (p + 2) (L.length + 1) (fun a => if a = p + 1 then L.length else rl a) (L.set tl .gone ++ [.obj r, .obj ((List.range (p + 1)).map (fun a => .bf (n0 + (rl a + 2)) 0 G 1) ++ [.bf (n0 + (L.length + 2)) 0 G 1])]) S := by
 subst hr
 have hl : ∀ m, m < p + 1 → rl m < L.length := fun m hm => lt_of_get (h.row m hm)
 refine ⟨fun _ => ?_, fun m hm => ?_, fun m hm => ?_, fun a b ha hb e => ?_⟩
 ·rw [List.getElem?_append_right (by rw [List.length_set]; omega), List.length_set, Nat.add_sub_cancel_left]
  rw [show List.range (p + 2) = List.range (p + 1) ++ [p + 1] from List.range_succ, List.map_append (l₁ := List.range (p + 1)), List.map_cons, List.map_nil, if_pos rfl]
  have : (List.range (p + 1)).map (fun a => VV.bf (n0 + ((if a = p + 1 then L.length else rl a) + 2)) 0 G 1) = (List.range (p + 1)).map (fun a => VV.bf (n0 + (rl a + 2)) 0 G 1) := List.map_congr_left fun a ha => by
   rw [List.mem_range] at ha
   rw [if_neg (by omega)]
  rw [this]; rfl
 ·by_cases e : m = p + 1
  ·subst e
   simp only [if_true]
   rw [List.getElem?_append_right (by rw [List.length_set]; omega), List.length_set, Nat.sub_self]; rfl
  ·simp only [if_neg e]
   have hm2 : m < p + 1 := by omega
   rw [List.getElem?_append_left (by rw [List.length_set]; exact hl m hm2), List.getElem?_set_ne (fun q => h.ne m hm2 q.symm)]
   exact h.row m hm2
 ·by_cases e : m = p + 1
  ·simp only [if_pos e]; omega
  ·simp only [if_neg e]
   have := hl m (by omega)
   omega
 ·by_cases ea : a = p + 1
  ·by_cases eb : b = p + 1
   ·omega
   ·simp only [if_pos ea, if_neg eb] at e
    have := hl b (by omega)
    omega
  ·by_cases eb : b = p + 1
   ·simp only [if_neg ea, if_pos eb] at e
    have := hl a (by omega)
    omega
   ·simp only [if_neg ea, if_neg eb] at e
    exact h.inj a b (by omega) (by omega) e
theorem FS.write (h : FS n0 G i tl rl L S) {m g : Nat} (hm : m < i) (hS : m < S.length) (x : Int) : FS n0 G i tl rl (L.set (rl m) (.obj (((S.getD m []).set g x).map vi))) (upd2 S m g x) := by
 refine ⟨fun q => ?_, fun a ha => ?_, h.ne, h.inj⟩
 ·rw [List.getElem?_set_ne (h.ne m hm)]; exact h.tab q
 ·by_cases e : m = a
  ·subst e
   rw [List.getElem?_set_self (lt_of_get (h.row m hm))]
   unfold upd2
   rw [List.getD_eq_getElem?_getD (l := S.set _ _), List.getElem?_set_self hS]; rfl
  ·rw [List.getElem?_set_ne (fun q => e (h.inj m a hm ha q)), h.row a ha]
   unfold upd2
   rw [List.getD_eq_getElem?_getD (l := S.set _ _), List.getElem?_set_ne e, ← List.getD_eq_getElem?_getD]
end
def svOf (n0 i tl : Nat) : VV := if i = 0 then .sf 0 [] else .bf (n0 + (tl + 2)) 0 i 1
theorem FS.sbox {k : Kn} {M : Mem} {tl : Nat} {rl : Nat → Nat} {L : List VObj} {S : List (List Int)} (h : FS M.H.length k.gifts.length k.meals.length tl rl L S) (a b : VObj) : SBox k S (svOf M.H.length k.meals.length tl) (M.H.length + (tl + 2)) (fun m => M.H.length + (rl m + 2)) (M.H ++ a :: b :: L) := by
 refine ⟨fun q => ?_, fun q => ?_, fun m hm => ?_⟩
 ·unfold svOf; rw [if_neg q]
 ·rw [hget]; exact h.tab q
 ·rw [hget]; exact h.row m hm
theorem W_frzRows {P : Program} {cx : Cx} {c : Code} {e : Env} {D : List Nat} {Q : PQ} {H0 : List VObj} {lg : List (Nat × Nat)} {G i tl : Nat} {rl : Nat → Nat} {S : List (List Int)} (hS : ∀ m, m < i → (S.getD m []).length = G) (hne : ∀ m, m < i → rl m ≠ tl) (hinj : ∀ a b, a < i → b < i → rl a = rl b → a = b) :
  ∀ (d a : Nat) (L : List VObj), a + d = i → L[tl]? = some (.obj ((List.range i).map fun x => if x < a then .p (.sl 1 ((S.getD x []).map intP)) else .bf (H0.length + rl x) 0 G 1)) → (∀ m, a ≤ m → m < i → L[rl m]? = some (.obj ((S.getD m []).map vi))) →
  (∀ L' : List VObj, L'.length = L.length → L'[tl]? = some (.obj ((List.range i).map fun x => .p (.sl 1 ((S.getD x []).map intP)))) → (∀ x, x ≠ tl → (∀ m, m < i → x ≠ rl m) → L'[x]? = L[x]?) → WCode P cx c e ⟨H0 ++ L', lg⟩ D Q) → WCode P cx c e ⟨H0 ++ L, lg⟩ D Q := by
 intro d
 induction d with
 | zero =>
  intro a L ha htab hrow h
  refine h L rfl ?_ fun _ _ _ => rfl
  rw [htab]
  congr 2
  refine List.map_congr_left fun x hx => ?_
  rw [List.mem_range] at hx
  rw [if_pos (by omega)]
 | succ d ih =>
  intro a L ha htab hrow h
  have hai : a < i := by omega
  have hf : ∀ xs : List Int, List.map VV.p (List.map intP xs).flatten = xs.map vi := fun xs => by
   induction xs with
   | nil => rfl
   | cons x xs ih => simp [ih]
  refine W_frz1 (id := H0.length + rl a) (n := G) (k := 1) (o := H0.length + tl) (j := a) (xs := (S.getD a []).map intP) (cs := (List.range i).map fun x => if x < a then .p (.sl 1 ((S.getD x []).map intP)) else .bf (H0.length + rl x) 0 G 1) ?_ ?_ ?_ (by simp) (by rw [List.length_map]; exact hS a hai) (by have := hne a hai; omega) ?_
  ·rw [hget, hf]; exact hrow a (Nat.le_refl _) hai
  ·rw [hget]; exact htab
  ·simp [hai]
  ·rw [hset, hset]
   have hlt := lt_of_get htab
   refine ih (a + 1) _ (by omega) ?_ (fun m hm1 hm2 => ?_) fun L' hL' ht' ho' => ?_
   ·rw [List.getElem?_set_self (by rw [List.length_set]; exact hlt)]
    congr 2
    apply List.ext_getElem?
    intro x
    rw [List.getElem?_set]
    by_cases e : a = x
    ·subst e
     rw [if_pos rfl, if_pos (by simpa using hai)]
     simp [hai]
    ·rw [if_neg e]
     simp only [List.getElem?_map]
     rcases Nat.lt_or_ge x i with q | q
     ·rw [List.getElem?_range q, Option.map_some, Option.map_some]
      congr 1
      by_cases q2 : x < a
      ·rw [if_pos q2, if_pos (by omega)]
      ·rw [if_neg q2, if_neg (by omega)]
     ·rw [List.getElem?_eq_none (by simpa using q)]; rfl
   ·rw [List.getElem?_set_ne (fun q => hne m hm2 q.symm), List.getElem?_set_ne (fun q => by have := hinj a m hai hm2 q; omega)]
    exact hrow m (by omega) hm2
   ·refine h L' (by simpa using hL') ht' fun x hx1 hx2 => ?_
    rw [ho' x hx1 hx2, List.getElem?_set_ne (fun q => hx1 q.symm), List.getElem?_set_ne (fun q => hx2 a hai q.symm)]
theorem toPs_p : ∀ xs : List PV, toPs (xs.map VV.p) = some xs
 | [] => rfl
 | x :: xs => by simp [toPs, toP, toPs_p xs]
theorem chunks_flat (k : Nat) : ∀ (xs : List (List PV)) (pre : List VV), (∀ x ∈ xs, x.length = k) → toPss (chunksOf (pre ++ List.map VV.p xs.flatten) k pre.length xs.length) = some xs
 | [], _, _ => rfl
 | x :: xs, pre, h => by
  have hx := h x (List.mem_cons_self ..)
  have e1 : pre ++ List.map VV.p (x :: xs).flatten = (pre ++ x.map VV.p) ++ List.map VV.p xs.flatten := by simp
  have e2 : pre.length + k = (pre ++ x.map VV.p).length := by simp [hx]
  rw [List.length_cons, chunksOf, e1, e2, toPss, chunks_flat k xs (pre ++ x.map VV.p) (fun y hy => h y (List.mem_cons_of_mem _ hy))]
  have e3 : List.take k (List.drop pre.length (pre ++ x.map VV.p ++ List.map VV.p xs.flatten)) = x.map VV.p := by
   rw [List.append_assoc, List.drop_left, List.take_append_of_le_length (by simp [hx]), List.take_of_length_le (by simp [hx])]
  rw [e3, toPs_p]
theorem frz_bf {n0 id n k : Nat} {H : List VObj} {xs : List (List PV)} {cs : List VV} (h0 : n0 ≤ id) (hg : H[id]? = some (.obj cs)) (hcs : cs = List.map VV.p xs.flatten) (hk : ∀ x ∈ xs, x.length = k) (hn : xs.length = n) : frz n0 H (.bf id 0 n k) = .p (.sl k xs) := by
 subst hcs
 subst hn
 have hl : ∀ xs : List (List PV), (∀ x ∈ xs, x.length = k) → xs.flatten.length = xs.length * k := by
  intro xs
  induction xs with
  | nil => intro _; simp
  | cons x xs ih =>
   intro h
   rw [List.flatten_cons, List.length_append, ih fun y hy => h y (List.mem_cons_of_mem _ hy), h x (List.mem_cons_self ..), List.length_cons, Nat.succ_mul]
   omega
 have g1 : Nat.ble n0 id = true := by rw [Nat.ble_eq]; exact h0
 have g2 : Nat.ble (0 + xs.length * k) (List.map VV.p xs.flatten).length = true := by rw [Nat.ble_eq, List.length_map, hl xs hk]; omega
 have g3 := chunks_flat k xs [] hk
 simp only [List.nil_append, List.length_nil] at g3
 rw [frz, g1, cond_true, hg]
 simp only [g2, cond_true, g3]
theorem frz_table {n0 id : Nat} {H : List VObj} {S : List (List Int)} (h0 : n0 ≤ id) (hg : H[id]? = some (.obj ((List.range S.length).map fun x => .p (.sl 1 ((S.getD x []).map intP))))) : frz n0 H (.bf id 0 S.length 1) = tabV S := by
 refine frz_bf h0 hg ?_ (fun x hx => ?_) (by simp)
 ·apply List.ext_getElem?
  intro x
  have hfl : (S.map rowP).flatten = S.map fun l => PV.sl 1 (l.map intP) := by
   induction S with
   | nil => rfl
   | cons l S ih =>
    have : ∀ S : List (List Int), (S.map rowP).flatten = S.map fun l => PV.sl 1 (l.map intP) := fun S => by
     induction S with
     | nil => rfl
     | cons l S ih => rw [List.map_cons, List.flatten_cons, ih]; rfl
    exact this _
  rw [hfl]
  simp only [List.getElem?_map]
  rcases Nat.lt_or_ge x S.length with q | q
  ·rw [List.getElem?_range q, List.getElem?_eq_getElem q]
   simp only [Option.map_some, List.getD_eq_getElem?_getD, List.getElem?_eq_getElem q, Option.getD_some]
  ·rw [List.getElem?_eq_none (by simpa using q), List.getElem?_eq_none q]; rfl
 ·obtain ⟨l, _, rfl⟩ := List.mem_map.1 hx
  rfl
end Go.Proofs.Ytmagiabapakhcaa.Vm
