/- A part of the proofs about the chapter of the vaults; it states no condition of its own. -/
import Derived.Test.YtijcmgfblpokhaaB52
import Derived.Test.YtijcmgfblpokhaaB53
set_option linter.unusedVariables false
set_option linter.unusedSimpArgs false
/- The reference's layouts, on values. (Vm) -/
namespace Go.Proofs.Ytijcmgfblpokhaa.Vm
open Go Go.Proofs
noncomputable def T2 : Tab := tabOf Try.prog cmpB (varsOf Try.prog) (fun f => keepsB f || Nat.beq f 42)
theorem T2_ok : TabOk Try.prog T2 := tabOf_ok cmpB_ok (by kernel_rfl)
abbrev lyP (l : List Pu) : List PV := [.sl 3 (l.map puP)]
/-- an argument that is nil, taken as a slice of our own -/
theorem VC_tok {P : Program} {f k k0 : Nat} {us vs : List VV} {M : Mem} {Q : VV → Mem → Prop} (h : VC P f (us ++ .so M.H.length k [] :: vs) (M.push (.clm 0 k)) Q) : VC P f (us ++ .sf k0 [] :: vs) M Q := by
  intro G w K rargs hI ha
  obtain ⟨e1, i1⟩ := step_new (w' := w) hI (calm_refl w) (fun _ _ => rfl) (.clm 0 k) none (fun b e => by cases e) (fun c hc => by simp [contents] at hc) (fun hE b e => by cases e)
  have hg : (M.push (.clm 0 k)).H[M.H.length]? = some (.clm 0 k) := by simp [Mem.push]
  have hl : (M.push (.clm 0 k)).H.length = M.H.length + 1 := by simp [Mem.push]
  have hargs : ArgsOk w (upd K M.H.length none) (M.push (.clm 0 k)) rargs (us ++ .so M.H.length k [] :: vs) := by
    obtain ⟨hr, hc⟩ := ha
    refine ⟨⟨by have := hr.1; simpa using this, fun i a b hx hy => ?_⟩, fun a hm => ?_⟩
    · rcases Nat.lt_trichotomy i us.length with hlt | heq | hgt
      · have hy' : (us ++ VV.sf k0 [] :: vs)[i]? = some b := by
          rw [List.getElem?_append_left hlt] at hy ⊢; exact hy
        exact (hr.2 i a b hx hy').ext e1 (hc b (List.mem_of_getElem? hy'))
      · subst heq
        rw [List.getElem?_append_right (Nat.le_refl _), Nat.sub_self] at hy
        cases hy
        have hy' : (us ++ VV.sf k0 [] :: vs)[us.length]? = some (.sf k0 []) := by
          rw [List.getElem?_append_right (Nat.le_refl _), Nat.sub_self]; rfl
        exact so_of_sf ((hr.2 _ a _ hx hy').ext e1 (hc _ (List.mem_of_getElem? hy'))) hg (upd_same _ _ _)
      · have hy' : (us ++ VV.sf k0 [] :: vs)[i]? = some b := by
          rw [List.getElem?_append_right (by omega)] at hy ⊢
          rw [show i - us.length = (i - us.length - 1) + 1 by omega] at hy ⊢
          exact hy
        exact (hr.2 i a b hx hy').ext e1 (hc b (List.mem_of_getElem? hy'))
    · rcases List.mem_append.1 hm with hm | hm
      · exact (hc a (List.mem_append_left _ hm)).mono (by omega)
      · rcases List.mem_cons.1 hm with rfl | hm
        · intro r hr'
          simp only [refs, List.mem_singleton] at hr'
          subst hr'
          omega
        · exact (hc a (List.mem_append_right _ (List.mem_cons_of_mem _ hm))).mono (by omega)
  refine (h G w _ rargs i1 hargs).mono ?_
  rintro e' w' ⟨rv, r, K', M', rfl, hq, q1, q2, q3, q4⟩
  exact ⟨rv, r, K', M', rfl, hq, q1, q2, e1.trans q3, q4⟩
/-- an argument that is nil, taken as plain data -/
theorem VC_nilp {P : Program} {f k k0 : Nat} {us vs : List VV} {M : Mem} {Q : VV → Mem → Prop} (h : VC P f (us ++ .p (.sl k []) :: vs) M Q) : VC P f (us ++ .sf k0 [] :: vs) M Q := by
  intro G w K rargs hI ha
  refine h G w K rargs hI ?_
  obtain ⟨hr, hc⟩ := ha
  refine ⟨⟨by have := hr.1; simpa using this, fun i a b hx hy => ?_⟩, fun a hm => ?_⟩
  · rcases Nat.lt_trichotomy i us.length with hlt | heq | hgt
    · exact hr.2 i a b hx (by rw [List.getElem?_append_left hlt] at hy ⊢; exact hy)
    · subst heq
      rw [List.getElem?_append_right (Nat.le_refl _), Nat.sub_self] at hy
      cases hy
      have hy' : (us ++ VV.sf k0 [] :: vs)[us.length]? = some (.sf k0 []) := by
        rw [List.getElem?_append_right (Nat.le_refl _), Nat.sub_self]; rfl
      have := hr.2 _ a _ hx hy'
      cases this with
      | sf A _ _ h0 => exact .p _ _ (.sl A 0 k 0 0 [] (fun _ _ => undef) (Nat.le_refl _) (by simp [maxLen]) (fun x hx => by cases hx) (fun hx => absurd rfl hx) (fun i x j u hx => by simp at hx) (fun i x j u hx => by simp at hx) (fun i x j u hx => by simp at hx))
    · refine hr.2 i a b hx ?_
      rw [List.getElem?_append_right (by omega)] at hy ⊢
      rw [show i - us.length = (i - us.length - 1) + 1 by omega] at hy ⊢
      exact hy
  · rcases List.mem_append.1 hm with hm | hm
    · exact hc a (List.mem_append_left _ hm)
    · rcases List.mem_cons.1 hm with rfl | hm
      · intro r hr'
        simp [refs] at hr'
      · exact hc a (List.mem_append_right _ (List.mem_cons_of_mem _ hm))
theorem fn_call2 {f : Nat} {fn : Func} {args : List VV} {M : Mem} {Q : VV → Mem → Prop} (hf : T2.fn f = some fn) (hk : T2.keeps f = true) (h : VC Try.prog f args M Q) : VCall Try.prog (.fn (.func f) [] []) args M Q :=
  VCall_fn T2_ok hf (by
    have : (sarg T2 f) = id := funext fun v => by simp [sarg, hk]
    simpa [this] using h)
/-- memory in which one claim grows -/
structure Fg (g n0 : Nat) (A : Nat → List VObj) : Prop where
  len : ∀ k, (A k).length = n0
  gg : ∀ k L, (A k ++ L)[g]? = some (.clm k 1)
  sg : ∀ k L x, (A k ++ L).set g (.clm x 1) = A x ++ L
theorem Fg.get {g n0 : Nat} {A : Nat → List VObj} (F : Fg g n0 A) (k : Nat) (L : List VObj) (i : Nat) : (A k ++ L)[n0 + i]? = L[i]? := by
  rw [← F.len k]; exact hget _ _ _
theorem Fg.get0 {g n0 : Nat} {A : Nat → List VObj} (F : Fg g n0 A) (k : Nat) (L : List VObj) : (A k ++ L)[n0]? = L[0]? := F.get k L 0
theorem Fg.set {g n0 : Nat} {A : Nat → List VObj} (F : Fg g n0 A) (k : Nat) (L : List VObj) (i : Nat) (o : VObj) : (A k ++ L).set (n0 + i) o = A k ++ L.set i o := by
  rw [← F.len k]; exact hset _ _ _ _
theorem Fg.set0 {g n0 : Nat} {A : Nat → List VObj} (F : Fg g n0 A) (k : Nat) (L : List VObj) (o : VObj) : (A k ++ L).set n0 o = A k ++ L.set 0 o := F.set k L 0 o
theorem Fg.ext {g n0 : Nat} {A : Nat → List VObj} (F : Fg g n0 A) (X : List VObj) : Fg g (n0 + X.length) (fun k => A k ++ X) :=
  ⟨fun k => by rw [List.length_append, F.len], fun k L => by rw [List.append_assoc]; exact F.gg k _, fun k L x => by rw [List.append_assoc, F.sg, List.append_assoc]⟩
def LaySpec (h : Ha) (g dp wd : Nat) (cs : List Pl) : Prop :=
  ∀ (n0 : Nat) (A : Nat → List VObj) (_ : Fg g n0 A) (l : List Pu) (outs : List (List Pu)) (lg : List (Nat × Nat)) (n : Nat) (_ : (rowsOf dp wd).drop n = cs) (_ : n ≤ (rowsOf dp wd).length) (_ : allowedB h l = true) (_ : outs.length + (layL h cs l).length ≤ 1000000),
    VC Try.prog 42 [hallV h, pusV l, vi n, .so g 1 (outs.map lyP)] ⟨A outs.length, lg⟩ (fun r M' => (∃ X, M' = ⟨A (outs ++ layL h cs l).length ++ X, lg⟩) ∧ r = .so g 1 ((outs ++ layL h cs l).map lyP))
set_option maxRecDepth 100000 in
set_option maxHeartbeats 1000000 in
theorem lay_step (h : Ha) (V : VH h) (g dp wd : Nat) (hwd : h.wide = wd) (hdp : h.deep = dp) (cs : List Pl) (hind : ∀ c cs', cs = c :: cs' → LaySpec h g dp wd cs') : LaySpec h g dp wd cs := by
  intro n0 A F l outs lg n hcs hn ha hb
  have w2 := V.w2
  have d2 := V.d2
  have w6 : wd ≤ 6 := by omega
  have d4 : dp ≤ 4 := by omega
  have hrl : (rowsOf dp wd).length ≤ 24 := by
    rw [rowsOf_len]
    have : dp * wd ≤ 4 * 6 := Nat.mul_le_mul d4 w6
    omega
  have hlay := (allowedB_iff.1 ha).1
  have hll := hlay.1
  have hdl := congrArg List.length hcs
  rw [List.length_drop] at hdl
  refine VC_keep T2_ok (f := 42) (fn := Try.f42) (by kernel_rfl) rfl Try.ntmps42 (by rfl) (by rfl) ?_
  ((repeat refine W_seq ?_); refine W_region0 T_ok ?_)
  simp (maxSteps := 1000000) only [VL, VM, ↓Gd_none, ↓Gd_t, ↓Gd_f, reduceIte, reduceCtorEq, Int.reduceLE, Int.reduceLT, Int.reduceToNat, Int.reduceNeg, Nat.reduceLT, Nat.reduceEqDiff, Nat.reduceAdd, Nat.reduceSub, Nat.reduceMul, Nat.reduceLeDiff, F.len]
  ((repeat refine W_seq ?_); refine W_region0 T_ok ?_)
  simp (maxSteps := 1000000) only [VL, VM, ↓Gd_none, ↓Gd_t, ↓Gd_f, reduceIte, reduceCtorEq, Int.reduceLE, Int.reduceLT, Int.reduceToNat, Int.reduceNeg, Nat.reduceLT, Nat.reduceEqDiff, Nat.reduceAdd, Nat.reduceSub, Nat.reduceMul, Nat.reduceLeDiff, F.len, F.get, F.get0]
  apply call_eq (f := 59) (fn := Try.f59) (by kernel_rfl) (by rfl)
  · exact places_v h wd dp _ hwd hdp (by omega) (by omega)
  simp (maxSteps := 1000000) only [VL, VM, ↓Gd_none, ↓Gd_t, ↓Gd_f, reduceIte, reduceCtorEq, Int.reduceLE, Int.reduceLT, Int.reduceToNat, Int.reduceNeg, Nat.reduceLT, Nat.reduceEqDiff, Nat.reduceAdd, Nat.reduceSub, Nat.reduceMul, Nat.reduceLeDiff, F.len]
  ((repeat refine W_seq ?_); refine W_region0 T_ok ?_)
  cases cs with
  | nil =>
    have hnn : ((n : Int) = ((rowsOf dp wd).length : Int)) = True := eq_true (by simp at hdl; omega)
    have q1 : ((outs.length + 1) * 24 ≤ 140737488355328) = True := eq_true (by omega)
    simp (maxSteps := 1000000) only [VL, VM, ↓Gd_none, ↓Gd_t, ↓Gd_f, reduceIte, reduceCtorEq, Int.reduceLE, Int.reduceLT, Int.reduceToNat, Int.reduceNeg, Nat.reduceLT, Nat.reduceEqDiff, Nat.reduceAdd, Nat.reduceSub, Nat.reduceMul, Nat.reduceLeDiff, hnn]
    ((repeat refine W_seq ?_); refine W_cond (b := true) (by first | rfl | simp only [ev, get_cons, Nat.reduceEqDiff, if_true, if_false, reduceIte]) (fun _ => ?_) (fun h => by cases h))
    ((repeat refine W_seq ?_); refine W_region0 T_ok ?_)
    simp (maxSteps := 1000000) only [VL, VM, ↓Gd_none, ↓Gd_t, ↓Gd_f, reduceIte, reduceCtorEq, Int.reduceLE, Int.reduceLT, Int.reduceToNat, Int.reduceNeg, Nat.reduceLT, Nat.reduceEqDiff, Nat.reduceAdd, Nat.reduceSub, Nat.reduceMul, Nat.reduceLeDiff, F.gg, F.sg, q1]
    (repeat refine W_seq ?_)
    refine W_ret ?_
    refine ⟨.inr rfl, rfl, [.so g 1 (outs.map lyP ++ [lyP l])], rfl, ⟨[.obj (hallC h)], ?_⟩, ?_⟩
    · simp [layL]
    · simp [vtup, layL]
  | cons c cs =>
  have hnn : ((n : Int) = ((rowsOf dp wd).length : Int)) = False := eq_false (by simp at hdl; omega)
  have hc0 : (rowsOf dp wd)[n]? = some c := by
    have := congrArg (fun l : List Pl => l[0]?) hcs
    simpa using this
  have hc' := map_at (f := plP) hc0
  have hn1 : n + 1 ≤ (rowsOf dp wd).length := by
    have := (List.getElem?_eq_some_iff.1 hc0).1
    omega
  have hcs' : (rowsOf dp wd).drop (n + 1) = cs := by
    rw [← List.drop_drop, hcs]; rfl
  have n1 : -9223372036854775808 ≤ (n : Int) + 1 ∧ (n : Int) + 1 < 9223372036854775808 := by omega
  have hk6 := V.kinds6
  have hlayl : layL h (c :: cs) l = layL h cs l ++ (List.range h.kinds.length).flatMap fun k : Nat => if allowedB h (l ++ [⟨c, (k : Int)⟩]) then layL h cs (l ++ [⟨c, (k : Int)⟩]) else [] := rfl
  have hpre : ∀ k, k ≤ h.kinds.length → ((List.range k).flatMap fun k : Nat => if allowedB h (l ++ [⟨c, (k : Int)⟩]) then layL h cs (l ++ [⟨c, (k : Int)⟩]) else []).length ≤ ((List.range h.kinds.length).flatMap fun k : Nat => if allowedB h (l ++ [⟨c, (k : Int)⟩]) then layL h cs (l ++ [⟨c, (k : Int)⟩]) else []).length := by
    have mono : ∀ j k, ((List.range k).flatMap fun k : Nat => if allowedB h (l ++ [⟨c, (k : Int)⟩]) then layL h cs (l ++ [⟨c, (k : Int)⟩]) else []).length ≤ ((List.range (k + j)).flatMap fun k : Nat => if allowedB h (l ++ [⟨c, (k : Int)⟩]) then layL h cs (l ++ [⟨c, (k : Int)⟩]) else []).length := by
      intro j
      induction j with
      | zero => intro k; exact Nat.le_refl _
      | succ j ih =>
        intro k
        have := ih k
        rw [← Nat.add_assoc, List.range_succ, List.flatMap_append, List.length_append]
        omega
    intro k hk
    have := mono (h.kinds.length - k) k
    rwa [show k + (h.kinds.length - k) = h.kinds.length by omega] at this
  simp (maxSteps := 1000000) only [VL, VM, ↓Gd_none, ↓Gd_t, ↓Gd_f, reduceIte, reduceCtorEq, Int.reduceLE, Int.reduceLT, Int.reduceToNat, Int.reduceNeg, Nat.reduceLT, Nat.reduceEqDiff, Nat.reduceAdd, Nat.reduceSub, Nat.reduceMul, Nat.reduceLeDiff, hnn]
  ((repeat refine W_seq ?_); refine W_cond (b := false) (by first | rfl | simp only [ev, get_cons, Nat.reduceEqDiff, if_true, if_false, reduceIte]) (fun h => by cases h) (fun _ => ?_))
  ((repeat refine W_seq ?_); refine W_skip ?_)
  simp (maxSteps := 1000000) only [VL, VM, ↓Gd_none, ↓Gd_t, ↓Gd_f, reduceIte, reduceCtorEq, Int.reduceLE, Int.reduceLT, Int.reduceToNat, Int.reduceNeg, Nat.reduceLT, Nat.reduceEqDiff, Nat.reduceAdd, Nat.reduceSub, Nat.reduceMul, Nat.reduceLeDiff]
  ((repeat refine W_seq ?_); refine W_region0 T_ok ?_)
  simp (maxSteps := 1000000) only [VL, VM, ↓Gd_none, ↓Gd_t, ↓Gd_f, reduceIte, reduceCtorEq, Int.reduceLE, Int.reduceLT, Int.reduceToNat, Int.reduceNeg, Nat.reduceLT, Nat.reduceEqDiff, Nat.reduceAdd, Nat.reduceSub, Nat.reduceMul, Nat.reduceLeDiff, F.len, F.get, F.get0, n1]
  refine fn_call2 (f := 42) (fn := Try.f42) (by kernel_rfl) (by rfl) ?_
  refine (hind c cs rfl _ _ (F.ext [.obj (hallC h)]) l outs lg (n + 1) hcs' hn1 ha (by rw [hlayl, List.length_append] at hb; omega)).mono ?_
  rintro _ _ ⟨⟨X, rfl⟩, rfl⟩
  obtain ⟨o1, ho1⟩ : ∃ o1, o1 = outs ++ layL h cs l := ⟨_, rfl⟩
  rw [← ho1]
  rw [hlayl, List.length_append] at hb
  have ho1l : o1.length = outs.length + (layL h cs l).length := by rw [ho1, List.length_append]
  have hres : outs ++ layL h (c :: cs) l = o1 ++ (List.range h.kinds.length).flatMap fun k : Nat => if allowedB h (l ++ [⟨c, (k : Int)⟩]) then layL h cs (l ++ [⟨c, (k : Int)⟩]) else [] := by
    rw [hlayl, ← List.append_assoc, ho1]
  have hresl := congrArg List.length hres
  rw [List.length_append] at hresl
  rw [hres]
  have hlt1 : ∀ k, k ≤ h.kinds.length → o1.length + ((List.range k).flatMap fun k : Nat => if allowedB h (l ++ [⟨c, (k : Int)⟩]) then layL h cs (l ++ [⟨c, (k : Int)⟩]) else []).length ≤ 1000000 := fun k hk => by
    have := hpre k hk
    omega
  clear hb hpre ho1l hlayl
  simp (maxSteps := 1000000) only [VL, VM, ↓Gd_none, ↓Gd_t, ↓Gd_f, reduceIte, reduceCtorEq, Int.reduceLE, Int.reduceLT, Int.reduceToNat, Int.reduceNeg, Nat.reduceLT, Nat.reduceEqDiff, Nat.reduceAdd, Nat.reduceSub, Nat.reduceMul, Nat.reduceLeDiff, F.len]
  ((repeat refine W_seq ?_); refine W_region0 T_ok ?_)
  simp (maxSteps := 1000000) only [VL, VM, ↓Gd_none, ↓Gd_t, ↓Gd_f, reduceIte, reduceCtorEq, Int.reduceLE, Int.reduceLT, Int.reduceToNat, Int.reduceNeg, Nat.reduceLT, Nat.reduceEqDiff, Nat.reduceAdd, Nat.reduceSub, Nat.reduceMul, Nat.reduceLeDiff]
  ((repeat refine W_seq ?_); refine W_block ?_; (repeat refine W_seq ?_)); refine W_loopS (fun s : Nat × List (List Pu) × List VObj => [(1, pusV l), (2, vi n), (3, .so g 1 (s.2.1.map lyP)), (4, .ptr n0 0), (9, plsV (rowsOf dp wd)), (10, vi s.1)]) (fun s => ⟨A s.2.1.length ++ (.obj (hallC h) :: s.2.2), lg⟩) (fun s => h.kinds.length - s.1) (fun s => s.1 ≤ h.kinds.length ∧ s.2.1 = o1 ++ (List.range s.1).flatMap fun k : Nat => if allowedB h (l ++ [⟨c, (k : Int)⟩]) then layL h cs (l ++ [⟨c, (k : Int)⟩]) else []) (0, o1, X) ⟨Nat.zero_le _, by simp⟩ ⟨rfl, rfl, rfl, rfl, rfl, rfl, trivial⟩ rfl ?_
  rintro ⟨k, o2, junk⟩ ⟨hk, ho2⟩
  simp only at hk ho2
  have k1 : -9223372036854775808 ≤ (k : Int) + 1 ∧ (k : Int) + 1 < 9223372036854775808 := by omega
  have hb2 : o2.length ≤ 1000000 := by
    have := hlt1 k hk
    rw [ho2, List.length_append]; exact this
  ((repeat refine W_seq ?_); refine W_region0 T_ok ?_)
  rcases Nat.lt_or_ge k h.kinds.length with hlt | hge
  rotate_left
  · have k2 : ((k : Int) < (h.kinds.length : Int)) = False := eq_false (by omega)
    obtain rfl : k = h.kinds.length := by omega
    simp (maxSteps := 1000000) only [VL, VM, ↓Gd_none, ↓Gd_t, ↓Gd_f, reduceIte, reduceCtorEq, Int.reduceLE, Int.reduceLT, Int.reduceToNat, Int.reduceNeg, Nat.reduceLT, Nat.reduceEqDiff, Nat.reduceAdd, Nat.reduceSub, Nat.reduceMul, Nat.reduceLeDiff, F.get, F.get0, k2]
    ((repeat refine W_seq ?_); refine W_cond (b := false) (by first | rfl | simp only [ev, get_cons, Nat.reduceEqDiff, if_true, if_false, reduceIte]) (fun h => by cases h) (fun _ => ?_))
    ((repeat refine W_seq ?_); refine W_exit ?_)
    simp (maxSteps := 1000000) only [VL, VM, ↓Gd_none, ↓Gd_t, ↓Gd_f, reduceIte, reduceCtorEq, Int.reduceLE, Int.reduceLT, Int.reduceToNat, Int.reduceNeg, Nat.reduceLT, Nat.reduceEqDiff, Nat.reduceAdd, Nat.reduceSub, Nat.reduceMul, Nat.reduceLeDiff]
    ((repeat refine W_seq ?_); refine W_region0 T_ok ?_)
    simp (maxSteps := 1000000) only [VL, VM, ↓Gd_none, ↓Gd_t, ↓Gd_f, reduceIte, reduceCtorEq, Int.reduceLE, Int.reduceLT, Int.reduceToNat, Int.reduceNeg, Nat.reduceLT, Nat.reduceEqDiff, Nat.reduceAdd, Nat.reduceSub, Nat.reduceMul, Nat.reduceLeDiff]
    rw [hresl, ← ho2]
    (repeat refine W_seq ?_)
    exact W_ret ⟨.inr rfl, rfl, [.so g 1 (o2.map lyP)], rfl, ⟨_, rfl⟩, rfl⟩
  have k2 : ((k : Int) < (h.kinds.length : Int)) = True := eq_true (by omega)
  have q0 : (l.length * 24 ≤ 140737488355328) = True := eq_true (by omega)
  have q1 : ((l.length + 1) * 24 ≤ 140737488355328) = True := eq_true (by omega)
  have hstep : o2 ++ (if allowedB h (l ++ [⟨c, (k : Int)⟩]) then layL h cs (l ++ [⟨c, (k : Int)⟩]) else []) = o1 ++ (List.range (k + 1)).flatMap fun k : Nat => if allowedB h (l ++ [⟨c, (k : Int)⟩]) then layL h cs (l ++ [⟨c, (k : Int)⟩]) else [] := by
    rw [List.range_succ, List.flatMap_append, ho2, List.append_assoc]; simp
  have hb3 := hlt1 (k + 1) hlt
  rw [← List.length_append, ← hstep, List.length_append] at hb3
  clear hlt1
  generalize hl2 : l ++ [⟨c, (k : Int)⟩] = l2 at hstep hb3
  have hmap : l.map puP ++ [[PV.int .i64 c.x, .int .i64 c.y, .int .i64 k]] = l2.map puP := by rw [← hl2]; simp
  have hl2n : l2.length = l.length + 1 := by rw [← hl2]; simp
  simp (maxSteps := 1000000) only [VL, VM, ↓Gd_none, ↓Gd_t, ↓Gd_f, reduceIte, reduceCtorEq, Int.reduceLE, Int.reduceLT, Int.reduceToNat, Int.reduceNeg, Nat.reduceLT, Nat.reduceEqDiff, Nat.reduceAdd, Nat.reduceSub, Nat.reduceMul, Nat.reduceLeDiff, F.get, F.get0, k2]
  ((repeat refine W_seq ?_); refine W_cond (b := true) (by first | rfl | simp only [ev, get_cons, Nat.reduceEqDiff, if_true, if_false, reduceIte]) (fun _ => ?_) (fun h => by cases h))
  ((repeat refine W_seq ?_); refine W_skip ?_)
  simp (maxSteps := 1000000) only [VL, VM, ↓Gd_none, ↓Gd_t, ↓Gd_f, reduceIte, reduceCtorEq, Int.reduceLE, Int.reduceLT, Int.reduceToNat, Int.reduceNeg, Nat.reduceLT, Nat.reduceEqDiff, Nat.reduceAdd, Nat.reduceSub, Nat.reduceMul, Nat.reduceLeDiff]
  ((repeat refine W_seq ?_); refine W_block ?_)
  (repeat refine W_seq ?_)
  refine W_drawP T_ok [] (by kernel_rfl) (by kernel_rfl) ?_
  generalize hi : mkPlan _ = infs
  cbv at hi
  subst hi
  simp (maxSteps := 1000000) only [VL, VM, ↓Gd_none, ↓Gd_t, ↓Gd_f, reduceIte, reduceCtorEq, Int.reduceLE, Int.reduceLT, Int.reduceToNat, Int.reduceNeg, Nat.reduceLT, Nat.reduceEqDiff, Nat.reduceAdd, Nat.reduceSub, Nat.reduceMul, Nat.reduceLeDiff, F.len, F.get, F.get0, F.set, F.set0, hc', q0, q1]
  rw [hmap]
  ((repeat refine W_seq ?_); refine W_region0 T_ok ?_)
  simp (maxSteps := 1000000) only [VL, VM, ↓Gd_none, ↓Gd_t, ↓Gd_f, reduceIte, reduceCtorEq, Int.reduceLE, Int.reduceLT, Int.reduceToNat, Int.reduceNeg, Nat.reduceLT, Nat.reduceEqDiff, Nat.reduceAdd, Nat.reduceSub, Nat.reduceMul, Nat.reduceLeDiff, F.get, F.get0]
  apply call_eq (f := 84) (fn := Try.f84) (by kernel_rfl) (by rfl)
  · exact allowed_v h l2 _ V (by omega)
  simp (maxSteps := 1000000) only [VL, VM, ↓Gd_none, ↓Gd_t, ↓Gd_f, reduceIte, reduceCtorEq, Int.reduceLE, Int.reduceLT, Int.reduceToNat, Int.reduceNeg, Nat.reduceLT, Nat.reduceEqDiff, Nat.reduceAdd, Nat.reduceSub, Nat.reduceMul, Nat.reduceLeDiff]
  cases ea : allowedB h l2
  · rw [ea] at hstep
    ((repeat refine W_seq ?_); refine W_cond (b := false) (by first | rfl | simp only [ev, get_cons, Nat.reduceEqDiff, if_true, if_false, reduceIte]) (fun h => by cases h) (fun _ => ?_))
    ((repeat refine W_seq ?_); refine W_skip ?_)
    simp (maxSteps := 1000000) only [VL, VM, ↓Gd_none, ↓Gd_t, ↓Gd_f, reduceIte, reduceCtorEq, Int.reduceLE, Int.reduceLT, Int.reduceToNat, Int.reduceNeg, Nat.reduceLT, Nat.reduceEqDiff, Nat.reduceAdd, Nat.reduceSub, Nat.reduceMul, Nat.reduceLeDiff]
    ((repeat refine W_seq ?_); refine W_region0 T_ok ?_)
    simp (maxSteps := 1000000) only [VL, VM, ↓Gd_none, ↓Gd_t, ↓Gd_f, reduceIte, reduceCtorEq, Int.reduceLE, Int.reduceLT, Int.reduceToNat, Int.reduceNeg, Nat.reduceLT, Nat.reduceEqDiff, Nat.reduceAdd, Nat.reduceSub, Nat.reduceMul, Nat.reduceLeDiff, k1]
    refine LoopK.mk (k + 1, o2, junk ++ [.clm (l.length + 1) 3]) (by simp only; omega) ⟨by simp only; omega, by rw [← hstep]; simp⟩ ⟨rfl, rfl, rfl, rfl, rfl, rfl, trivial⟩ rfl
  rw [ea, if_pos rfl] at hstep hb3
  ((repeat refine W_seq ?_); refine W_cond (b := true) (by first | rfl | simp only [ev, get_cons, Nat.reduceEqDiff, if_true, if_false, reduceIte]) (fun _ => ?_) (fun h => by cases h))
  refine W_strip (t := 11) rfl ?_
  ((repeat refine W_seq ?_); refine W_region0 T_ok ?_)
  simp (maxSteps := 1000000) only [VL, VM, ↓Gd_none, ↓Gd_t, ↓Gd_f, reduceIte, reduceCtorEq, Int.reduceLE, Int.reduceLT, Int.reduceToNat, Int.reduceNeg, Nat.reduceLT, Nat.reduceEqDiff, Nat.reduceAdd, Nat.reduceSub, Nat.reduceMul, Nat.reduceLeDiff, F.get, F.get0, n1]
  refine fn_call2 (f := 42) (fn := Try.f42) (by kernel_rfl) (by rfl) ?_
  refine (hind c cs rfl _ _ (F.ext (.obj (hallC h) :: (junk ++ [.clm (l.length + 1) 3]))) l2 o2 lg (n + 1) hcs' hn1 ea hb3).mono ?_
  rintro _ _ ⟨⟨X2, rfl⟩, rfl⟩
  simp (maxSteps := 1000000) only [VL, VM, ↓Gd_none, ↓Gd_t, ↓Gd_f, reduceIte, reduceCtorEq, Int.reduceLE, Int.reduceLT, Int.reduceToNat, Int.reduceNeg, Nat.reduceLT, Nat.reduceEqDiff, Nat.reduceAdd, Nat.reduceSub, Nat.reduceMul, Nat.reduceLeDiff, F.len]
  ((repeat refine W_seq ?_); refine W_region0 T_ok ?_)
  simp (maxSteps := 1000000) only [VL, VM, ↓Gd_none, ↓Gd_t, ↓Gd_f, reduceIte, reduceCtorEq, Int.reduceLE, Int.reduceLT, Int.reduceToNat, Int.reduceNeg, Nat.reduceLT, Nat.reduceEqDiff, Nat.reduceAdd, Nat.reduceSub, Nat.reduceMul, Nat.reduceLeDiff, k1]
  refine LoopK.mk (k + 1, o2 ++ layL h cs l2, junk ++ .clm (l.length + 1) 3 :: X2) (by simp only; omega) ⟨by simp only; omega, hstep⟩ ⟨rfl, rfl, rfl, rfl, rfl, rfl, trivial⟩ (by simp)
theorem lay_v (h : Ha) (V : VH h) (g dp wd : Nat) (hwd : h.wide = wd) (hdp : h.deep = dp) : ∀ cs : List Pl, LaySpec h g dp wd cs
  | [] => lay_step h V g dp wd hwd hdp [] fun c cs' e => by cases e
  | c :: cs => lay_step h V g dp wd hwd hdp (c :: cs) fun d cs' e => by
    obtain ⟨_, rfl⟩ := List.cons.inj e
    exact lay_v h V g dp wd hwd hdp cs
/-- all allowed layouts, as a list of its own -/
theorem refLayouts_v (h : Ha) (V : VH h) (k1 k2 : Nat) (M : Mem) (hb : (layL h (placesL h) []).length ≤ 1000000) : VC Try.prog 42 [hallV h, .sf k1 [], vi 0, .sf k2 []] M (fun r M' => (∃ X, M' = ⟨M.H ++ .clm (layL h (placesL h) []).length 1 :: X, M.lg⟩) ∧ r = .so M.H.length 1 ((layL h (placesL h) []).map lyP)) := by
  obtain ⟨wd, hwd⟩ := Int.eq_ofNat_of_zero_le (show 0 ≤ h.wide by have := V.w1; omega)
  obtain ⟨dp, hdp⟩ := Int.eq_ofNat_of_zero_le (show 0 ≤ h.deep by have := V.d1; omega)
  have hrows : placesL h = rowsOf dp wd := by rw [placesL, hwd, hdp]; rfl
  refine VC_tok (us := [hallV h, .sf k1 [], vi 0]) (k := 1) (vs := []) ?_
  refine VC_nilp (us := [hallV h]) (k := 3) (vs := [vi 0, .so M.H.length 1 []]) ?_
  have F : Fg M.H.length (M.H.length + 1) (fun k => M.H ++ [.clm k 1]) := ⟨fun k => by simp, fun k L => by simp, fun k L x => by simp⟩
  have := lay_v h V M.H.length dp wd hwd hdp (rowsOf dp wd) _ _ F [] [] M.lg 0 rfl (Nat.zero_le _) (allowedB_nil V) (by rw [hrows] at hb; simpa using hb)
  refine VC.mono (Q := _) this ?_
  rintro r M' ⟨⟨X, rfl⟩, rfl⟩
  rw [hrows]
  exact ⟨⟨X, by simp⟩, rfl⟩
end Go.Proofs.Ytijcmgfblpokhaa.Vm
