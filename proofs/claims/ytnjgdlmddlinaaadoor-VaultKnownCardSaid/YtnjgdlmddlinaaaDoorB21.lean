/- A part of the proofs about the chapter of the vaults; it states no condition of its own. -/
import Derived.Test.YtnjgdlmddlinaaaDoorB19
import Derived.Test.YtnjgdlmddlinaaaDoorB20
set_option linter.unusedVariables false
set_option linter.unusedSimpArgs false
open Int renaming reduceLE → zA, reduceLT → zB, reduceToNat → zC, reduceNeg → zD
open Nat renaming reduceLT → zE, reduceEqDiff → zF, reduceAdd → zG, reduceSub → zH, reduceMul → zI, reduceLeDiff → zJ
/- Ranges over the places of a hall. (Vm) -/
namespace Go.Proofs.YtnjgdlmddlinaaaDoor.Vm
open Go Go.Proofs
def ownK (T : Tab) (fn : Func) (M : Mem) (Q : VV → Mem → Prop) : PQ := fun ex e M' D => (ex = .normal ∨ ex = .ret) ∧ (∃ X, M'.lg = M.lg ++ X ∧ ∀ e ∈ X, M.H.length ≤ e.1) ∧ ∃ H1 L, vkill M.H.length D M'.H = some (H1 ++ L) ∧ H1.length = M.H.length ∧ ∃ vs, vresL T e ⟨H1 ++ L, M'.lg⟩ fn.results.toList = some vs ∧ ∃ r, frz M.H.length (H1 ++ L) (vtup vs) = r ∧ (∀ x ∈ refs r, x < M.H.length) ∧ Q r ⟨H1, M.lg⟩
theorem VC_ownK {P : Program} {T : Tab} (hT : TabOk P T) {f : Nat} {fn : Func} {c : Code} {nt : Nat} {args : List VV} {M : Mem} {Q : VV → Mem → Prop} (hf : T.fn f = some fn) (hb : fn.body = some c) (hnt : fn.ntmps = nt) (hn : Nat.ble args.length nt = true) (hk : T.keeps f = false)
  (h : WCode P ⟨f, none, nt⟩ c (zipEnv 0 args) M [] (ownK T fn M Q)) :
  VC P f args M Q := by
 subst hnt
 refine VC_fn hT hf hb (Nat.le_of_ble_eq_true hn) fun hlg => h.mono ?_
 rintro ex e M' D ⟨hex, ⟨X, hl, hX⟩, H1, L, hH, hlen, vs, h1, r, hr, h2, h3⟩
 have key : retQ T f M.H.length fn Q .ret e M' D := by
  simp only [retQ, hH]
  have hM : ({ M' with H := H1 ++ L } : Mem) = ⟨H1 ++ L, M'.lg⟩ := rfl
  rw [hM, h1]
  simp only
  have q1 : M'.lg.filter (fun e => Nat.blt e.1 M.H.length) = M.lg := by
   rw [hl, List.filter_append, List.filter_eq_self.2 fun e he => by rw [Nat.blt_eq]; exact (hlg e he).1, List.filter_eq_nil_iff.2 fun e he => by rw [Nat.blt_eq]; have := hX e he; omega, List.append_nil]
  have q2 : (M.lg.all fun e => Nat.blt e.2 M.H.length) = true := List.all_eq_true.2 fun e he => by rw [Nat.blt_eq]; exact (hlg e he).2
  have q3 : ((refs r).all (Nat.blt · M.H.length)) = true := List.all_eq_true.2 fun x hx => by rw [Nat.blt_eq]; exact h2 x hx
  have q4 : (H1 ++ L).take M.H.length = H1 := by rw [← hlen]; simp
  unfold vfinish
  simp only
  rw [hk, q1, hr, q2, q3, q4]
  exact h3
 rcases hex with rfl | rfl
 ·exact key
 ·exact key
theorem vkill_one {H L : List VObj} {j : Nat} (h : L[j]? = some .dfr) : vkill H.length [H.length + j] (H ++ L) = some (H ++ L.set j .dead) := by
 have h1 : Nat.ble H.length (H.length + j) = true := by rw [Nat.ble_eq]; omega
 simp only [vkill, h1, cond_true, hget, h, hset]
theorem ownK_ret {T : Tab} {fn : Func} {M : Mem} {L L' : List VObj} {X : List (Nat × Nat)} {D : List Nat} {Q : VV → Mem → Prop} {e : Env} {vs : List VV} (hX : ∀ e ∈ X, M.H.length ≤ e.1) (hD : vkill M.H.length D (M.H ++ L) = some (M.H ++ L')) (h1 : vresL T e ⟨M.H ++ L', M.lg ++ X⟩ fn.results.toList = some vs) (h3 : Q (frz M.H.length (M.H ++ L') (vtup vs)) M) (h2 : refs (frz M.H.length (M.H ++ L') (vtup vs)) = []) : ownK T fn M Q .ret e ⟨M.H ++ L, M.lg ++ X⟩ D :=
 ⟨.inr rfl, ⟨X, rfl, hX⟩, M.H, L', hD, rfl, vs, h1, _, rfl, by simp [h2], h3⟩
theorem ownK_ret0 {T : Tab} {fn : Func} {M : Mem} {L : List VObj} {Q : VV → Mem → Prop} {e : Env} {vs : List VV} (h1 : vresL T e ⟨M.H ++ L, M.lg⟩ fn.results.toList = some vs) (h3 : Q (frz M.H.length (M.H ++ L) (vtup vs)) M) (h2 : refs (frz M.H.length (M.H ++ L) (vtup vs)) = []) : ownK T fn M Q .ret e ⟨M.H ++ L, M.lg⟩ [] :=
 ⟨.inr rfl, ⟨[], by simp, by simp⟩, M.H, L, rfl, rfl, vs, h1, _, rfl, by simp [h2], h3⟩
theorem rowsOf_get {n wd y x : Nat} (hy : y < n) (hx : x < wd) : (rowsOf n wd)[y * wd + x]? = some ⟨(x : Int), (y : Int)⟩ := by
 induction n with
 | zero => omega
 | succ n ih =>
  rw [rowsOf_succ]
  rcases Nat.lt_or_ge y n with h | h
  ·have : y * wd + wd ≤ n * wd := by
    have := Nat.mul_le_mul_right wd (show y + 1 ≤ n by omega)
    rwa [Nat.succ_mul] at this
   rw [List.getElem?_append_left (by rw [rowsOf_len]; omega)]
   exact ih h
  ·obtain rfl : y = n := by omega
   rw [List.getElem?_append_right (by rw [rowsOf_len]; omega), rowsOf_len, Nat.add_sub_cancel_left]
   simp [rowOf, hx]
theorem placesF_v (h : Ha) (M : Mem) : VC Tryd.prog 28 [hallV h] M (fun r M' => M' = ⟨M.H ++ [.obj (hallC h)], M.lg⟩ ∧ r = .fn (.func 48) [] [.ptr M.H.length 0]) := by
 refine VC_esc T_ok (f := 28) (fn := Tryd.f28) (by kernel_rfl) rfl Tryd.ntmps28 (by rfl) (by rfl) ?_
 ((repeat refine Ws ?_);refine Wr ?_)
 simp (maxSteps := 1000000) only [VL,VM,↓VG,reduceIte,reduceCtorEq,zA,zB,zC,zD,zE,zF,zG,zH,zI,zJ]
 ((repeat refine Ws ?_);refine Wr ?_)
 simp (maxSteps := 1000000) only [VL,VM,↓VG,reduceIte,reduceCtorEq,zA,zB,zC,zD,zE,zF,zG,zH,zI,zJ]
 (repeat refine Ws ?_)
 refine W_ret ⟨.inr rfl, rfl, [.fn (.func 48) [] [.ptr M.H.length 0]], rfl, ⟨M.H.length, by simp [vtup, frz, frzL, refs, refsL], Nat.le_refl _⟩, rfl, rfl⟩
theorem places1_v (h : Ha) (wd dp : Nat) (hw : h.wide = wd) (hd : h.deep = dp) (w6 : wd ≤ 1000) (d4 : dp ≤ 1000) (id k : Nat) (M : Mem) {σ : Type} (A : σ → List VObj) (good : Nat → σ → Prop) (s0 : σ) (h0 : good 0 s0) (hA : ∀ s, (A s).length = M.H.length) (hM : M.H = A s0) (hk : ∀ s, (A s)[k]? = some (.obj (hallC h)))
  (round : ∀ i c s junk, (rowsOf dp wd)[i]? = some c → good i s → VCall Tryd.prog (.yl id) [plV c] ⟨A s ++ junk, M.lg⟩ (fun r M' => r = vb true ∧ ∃ s' junk', M' = ⟨A s' ++ junk', M.lg⟩ ∧ good (i + 1) s')) :
  VC Tryd.prog 48 [.yl id, .ptr k 0] M (fun r M' => ∃ s, M' = ⟨A s, M.lg⟩ ∧ good (dp * wd) s) := by
 have hkl : ∀ s (junk : List VObj), (A s ++ junk)[k]? = some (.obj (hallC h)) := fun s junk => app_get (hk s) junk
 refine VC_ownK T_ok (f := 48) (fn := Tryd.f48) (by kernel_rfl) rfl Tryd.ntmps48 (by rfl) (by rfl) ?_
 obtain ⟨H, lg⟩ := M
 simp only at hM hA round
 subst hM
 have hk0 := hk s0
 ((repeat refine Ws ?_);refine Wr ?_)
 simp (maxSteps := 1000000) only [VL,VM,↓VG,reduceIte,reduceCtorEq,zA,zB,zC,zD,zE,zF,zG,zH,zI,zJ, hk0, hd]
 ((repeat refine Ws ?_);refine W_block ?_; (repeat refine Ws ?_)); refine W_loopS (fun s : Nat × σ × List VObj => [(0, .yl id), (1, .ptr k 0), (6, vi dp), (7, vi s.1)]) (fun s => ⟨A s.2.1 ++ s.2.2, lg⟩) (fun s => dp - s.1) (fun s => s.1 ≤ dp ∧ good (s.1 * wd) s.2.1) (0, s0, []) ⟨Nat.zero_le _, by simpa using h0⟩ ⟨rfl, rfl, rfl, rfl, trivial⟩ (by simp) ?_
 rintro ⟨y, s, junk⟩ ⟨hy, hg⟩
 simp only at hy hg
 have y1 : -9223372036854775808 ≤ (y : Int) + 1 ∧ (y : Int) + 1 < 9223372036854775808 := by omega
 ((repeat refine Ws ?_);refine Wr ?_)
 rcases Nat.lt_or_ge y dp with hlt | hge
 rotate_left
 ·have k2 : ((y : Int) < (dp : Int)) = False := eq_false (by omega)
  obtain rfl : y = dp := by omega
  simp (maxSteps := 1000000) only [VL,VM,↓VG,reduceIte,reduceCtorEq,zA,zB,zC,zD,zE,zF,zG,zH,zI,zJ, k2]
  ((repeat refine Ws ?_);refine Wf (by first|rfl|simp only [EV,zF,reduceIte]) ?_)
  ((repeat refine Ws ?_);refine W_exit ?_)
  simp (maxSteps := 1000000) only [VL,VM,↓VG,reduceIte,reduceCtorEq,zA,zB,zC,zD,zE,zF,zG,zH,zI,zJ]
  exact ⟨.inl rfl, ⟨[], by simp, by simp⟩, A s, junk, rfl, hA s, [], rfl, _, rfl, by simp [vtup, frz, frzL, refs, refsL], s, rfl, hg⟩
 have k2 : ((y : Int) < (dp : Int)) = True := eq_true (by omega)
 simp (maxSteps := 1000000) only [VL,VM,↓VG,reduceIte,reduceCtorEq,zA,zB,zC,zD,zE,zF,zG,zH,zI,zJ, k2]
 ((repeat refine Ws ?_);refine Wt (by first|rfl|simp only [EV,zF,reduceIte]) ?_)
 ((repeat refine Ws ?_);refine W_skip ?_)
 simp (maxSteps := 1000000) only [VL,VM,↓VG,reduceIte,reduceCtorEq,zA,zB,zC,zD,zE,zF,zG,zH,zI,zJ]
 ((repeat refine Ws ?_);refine W_block ?_)
 ((repeat refine Ws ?_);refine Wr ?_)
 simp (maxSteps := 1000000) only [VL,VM,↓VG,reduceIte,reduceCtorEq,zA,zB,zC,zD,zE,zF,zG,zH,zI,zJ]
 ((repeat refine Ws ?_);refine Wr ?_)
 simp (maxSteps := 1000000) only [VL,VM,↓VG,reduceIte,reduceCtorEq,zA,zB,zC,zD,zE,zF,zG,zH,zI,zJ, hkl, hw]
 ((repeat refine Ws ?_);refine W_block ?_; (repeat refine Ws ?_)); refine W_loopS (fun s : Nat × σ × List VObj => [(0, .yl id), (1, .ptr k 0), (3, vi y), (6, vi dp), (7, vi y), (11, vi wd), (12, vi s.1)]) (fun s => ⟨A s.2.1 ++ s.2.2, lg⟩) (fun s => wd - s.1) (fun s => s.1 ≤ wd ∧ good (y * wd + s.1) s.2.1) (0, s, junk) ⟨Nat.zero_le _, by simpa using hg⟩ ⟨rfl, rfl, rfl, rfl, rfl, rfl, rfl, trivial⟩ rfl ?_
 rintro ⟨x, s, junk⟩ ⟨hx, hg⟩
 simp only at hx hg
 have x1 : -9223372036854775808 ≤ (x : Int) + 1 ∧ (x : Int) + 1 < 9223372036854775808 := by omega
 ((repeat refine Ws ?_);refine Wr ?_)
 rcases Nat.lt_or_ge x wd with hlx | hgx
 rotate_left
 ·have k3 : ((x : Int) < (wd : Int)) = False := eq_false (by omega)
  obtain rfl : x = wd := by omega
  simp (maxSteps := 1000000) only [VL,VM,↓VG,reduceIte,reduceCtorEq,zA,zB,zC,zD,zE,zF,zG,zH,zI,zJ, k3]
  ((repeat refine Ws ?_);refine Wf (by first|rfl|simp only [EV,zF,reduceIte]) ?_)
  ((repeat refine Ws ?_);refine W_exit ?_)
  simp (maxSteps := 1000000) only [VL,VM,↓VG,reduceIte,reduceCtorEq,zA,zB,zC,zD,zE,zF,zG,zH,zI,zJ]
  ((repeat refine Ws ?_);refine Wr ?_)
  simp (maxSteps := 1000000) only [VL,VM,↓VG,reduceIte,reduceCtorEq,zA,zB,zC,zD,zE,zF,zG,zH,zI,zJ, y1]
  refine LoopK.mk (y + 1, s, junk) (by simp only; omega) ⟨by simp only; omega, by simp only [Nat.succ_mul]; exact hg⟩ ⟨rfl, rfl, rfl, rfl, trivial⟩ rfl
 have k3 : ((x : Int) < (wd : Int)) = True := eq_true (by omega)
 simp (maxSteps := 1000000) only [VL,VM,↓VG,reduceIte,reduceCtorEq,zA,zB,zC,zD,zE,zF,zG,zH,zI,zJ, k3]
 ((repeat refine Ws ?_);refine Wt (by first|rfl|simp only [EV,zF,reduceIte]) ?_)
 ((repeat refine Ws ?_);refine W_skip ?_)
 simp (maxSteps := 1000000) only [VL,VM,↓VG,reduceIte,reduceCtorEq,zA,zB,zC,zD,zE,zF,zG,zH,zI,zJ]
 ((repeat refine Ws ?_);refine W_block ?_)
 ((repeat refine Ws ?_);refine Wr ?_)
 simp (maxSteps := 1000000) only [VL,VM,↓VG,reduceIte,reduceCtorEq,zA,zB,zC,zD,zE,zF,zG,zH,zI,zJ]
 ((repeat refine Ws ?_);refine Wr ?_)
 simp (maxSteps := 1000000) only [VL,VM,↓VG,reduceIte,reduceCtorEq,zA,zB,zC,zD,zE,zF,zG,zH,zI,zJ]
 refine (round (y * wd + x) ⟨x, y⟩ s junk (rowsOf_get hlt hlx) hg).mono ?_
 rintro _ _ ⟨rfl, s', junk', rfl, hg'⟩
 simp (maxSteps := 1000000) only [VL,VM,↓VG,reduceIte,reduceCtorEq,zA,zB,zC,zD,zE,zF,zG,zH,zI,zJ]
 ((repeat refine Ws ?_);refine Wf (by first|rfl|simp only [EV,zF,reduceIte]) ?_)
 ((repeat refine Ws ?_);refine W_skip ?_)
 simp (maxSteps := 1000000) only [VL,VM,↓VG,reduceIte,reduceCtorEq,zA,zB,zC,zD,zE,zF,zG,zH,zI,zJ]
 ((repeat refine Ws ?_);refine Wr ?_)
 simp (maxSteps := 1000000) only [VL,VM,↓VG,reduceIte,reduceCtorEq,zA,zB,zC,zD,zE,zF,zG,zH,zI,zJ, x1]
 refine LoopK.mk (x + 1, s', junk') (by simp only; omega) ⟨by simp only; omega, by simp only; exact hg'⟩ ⟨rfl, rfl, rfl, rfl, rfl, rfl, rfl, trivial⟩ rfl
theorem get_prune_mem {vs : List Nat} {e : Env} {t : Nat} (h : t ∈ vs) : get (prune vs e) t = get e t := by
 unfold prune
 induction vs with
 | nil => cases h
 | cons v vs ih =>
  simp only [List.map_cons, get_cons]
  by_cases h' : t = v
  ·rw [if_pos h', h']
  ·rw [if_neg h']
   exact ih (by rcases List.mem_cons.1 h with h | h; exact absurd h h'; exact h)
theorem Sub_prune {vs : List Nat} {e : Env} : ∀ {E : Env}, Sub E e → (E.map Prod.fst).all (fun t => vs.contains t) = true → Sub E (prune vs e)
 | [], _, _ => trivial
 | (k, v) :: r, h, hv => by
  simp only [List.map_cons, List.all_cons, Bool.and_eq_true, List.contains_iff_mem] at hv
  exact ⟨(get_prune_mem hv.1).trans h.1, Sub_prune h.2 hv.2⟩
theorem W_places {cx : Cx} {e : Env} {M : Mem} {D : List Nat} {Q : PQ} {g : Operand} {p : Nat} {assign body : Code} (hrd : cx.rd = none) {k : Nat} (hg : ev e g = .fn (.func 48) [] [.ptr k 0]) (h : Ha) {wd dp : Nat} (hw : h.wide = wd) (hd : h.deep = dp) (w6 : wd ≤ 1000) (d4 : dp ≤ 1000)
  {σ : Type} (E : Env) (A : σ → List VObj) (good : Nat → σ → Prop) (s0 : σ) (h0 : good 0 s0) (hA : ∀ s, (A s).length = M.H.length) (hM : M.H = A s0) (hk : ∀ s, (A s)[k]? = some (.obj (hallC h))) (hp : Nat.blt p cx.nt = true) (hE : Sub E e) (hv : (E.map Prod.fst).all (fun t => (T.vars cx.fid).contains t) = true)
  (round : ∀ (o o' : VObj) i c s junk, (rowsOf dp wd)[i]? = some c → good i s → WCode Tryd.prog ⟨cx.fid, some (M.H.length + 1), cx.nt⟩ assign ((p, plV c) :: E) ⟨A s ++ .dfr :: o :: junk, M.lg⟩ []
    (fun ex e' M' D' => ex = .normal ∧ ∃ junk', M' = ⟨A s ++ .dfr :: o :: junk', M.lg⟩ ∧ WCode Tryd.prog ⟨cx.fid, some (M.H.length + 1), cx.nt⟩ body e' ⟨A s ++ .dfr :: o' :: junk', M.lg⟩ D'
      (fun ex e2 M2 D2 => ex = .normal ∧ ∃ s' junk2, M2 = ⟨A s' ++ .dfr :: o' :: junk2, M.lg⟩ ∧ good (i + 1) s')))
  (fin : ∀ (o : VObj) s, good (dp * wd) s → Q .normal e ⟨A s ++ [.dfr, o], M.lg⟩ (M.H.length :: D)) : WCode Tryd.prog cx (.rangeFunc g #[p] assign body) e M D Q := by
 obtain ⟨H, lg⟩ := M
 simp only at hA hM round fin
 subst hM
 obtain ⟨Lp, hLp⟩ : ∃ Lp, Lp = mkLoop T cx e #[p] assign body (A s0).length := ⟨_, rfl⟩
 have hget : ∀ (s : σ) (x y : VObj) (junk : List VObj), (A s ++ x :: y :: junk)[(A s0).length + 1]? = some y := fun s x y junk => by
  rw [← hA s, List.getElem?_append_right (by omega)]; simp
 have hset : ∀ (s : σ) (x y z : VObj) (junk : List VObj), (A s ++ x :: y :: junk).set ((A s0).length + 1) z = A s ++ x :: z :: junk := fun s x y z junk => by
  rw [← hA s, List.set_append_right _ _ (by omega)]; simp
 refine W_range T_ok (f := 48) (fn := Tryd.f48) hrd hg (by kernel_rfl) ?_
 rw [← hLp]
 have hst : (Mem.push (Mem.push ⟨A s0, lg⟩ .dfr) (.lp Lp)) = ⟨A s0 ++ [.dfr, .lp Lp], lg⟩ := by simp [Mem.push]
 rw [hst]
 have hargs : (([] ++ [VV.yl ((A s0).length + 1)] ++ [VV.ptr k 0]).map (sarg T 48)) = [.yl ((A s0).length + 1), .ptr k 0] := by
  have hkf : T.keeps 48 = false := by rfl
  simp [sarg, hkf, strip1]
 show VC Tryd.prog 48 (([] ++ [VV.yl ((A s0).length + 1)] ++ [VV.ptr k 0]).map (sarg T 48)) _ _
 rw [hargs]
 refine (places1_v h wd dp hw hd w6 d4 ((A s0).length + 1) k ⟨A s0 ++ [.dfr, .lp Lp], lg⟩ (fun s => A s ++ [.dfr, .lp Lp]) good s0 h0 (fun s => by simp [hA]) rfl (fun s => app_get (hk s) _) ?_).mono ?_
 ·intro i c s junk hi hgd
  have hm : (A s ++ [.dfr, .lp Lp]) ++ junk = A s ++ .dfr :: .lp Lp :: junk := by simp
  rw [hm]
  refine V_yield (L := Lp) (e0 := (p, plV c) :: prune (T.vars cx.fid) e) (hget s _ _ _) (by rw [hLp]; simp [mkLoop, vputs, hp]) ?_
  have f1 : Lp.fid = cx.fid := by rw [hLp]; rfl
  have f2 : Lp.nt = cx.nt := by rw [hLp]; rfl
  have f3 : Lp.assign = assign := by rw [hLp]; rfl
  have f4 : Lp.body = body := by rw [hLp]; rfl
  rw [f1, f2, f3, f4]
  refine (WCode.weak (round (.lp Lp) (.lp (Lp.with .busy none)) i c s junk hi hgd) ?_).mono ?_
  ·intro t
   rw [get_cons, get_cons]
   by_cases ht : t = p
   ·rw [if_pos ht, if_pos ht]; exact .inl rfl
   ·rw [if_neg ht, if_neg ht]; exact (Sub_prune hE hv).ok t
  ·rintro ex e' M' D' ⟨rfl, junk', rfl, hb⟩
   refine ⟨Lp, hget s _ _ _, by rw [hLp]; rfl, ?_⟩
   simp only [Mem.loop, hset]
   have hpd : Lp.pend = none := by rw [hLp]; rfl
   rw [hpd]
   refine hb.mono ?_
   rintro ex e2 M2 D2 ⟨rfl, s', junk2, rfl, hg'⟩
   refine ⟨Lp.with .busy none, hget s' _ _ _, ?_⟩
   simp only [Mem.loop, hset]
   have hback : ∀ L : LoopV, L.st = .ready → L.pend = none → (L.with .busy none).with .ready none = L := fun L h1 h2 => by
    cases L
    simp only at h1 h2
    subst h1 h2
    rfl
   rw [hback Lp (by rw [hLp]; rfl) hpd]
   exact ⟨by trivial, s', junk2, by simp, hg'⟩
 ·rintro r M' ⟨s, rfl, hgd⟩
  refine ⟨Lp, hget s _ _ _, by rw [hLp]; rfl, ?_⟩
  have hpd : Lp.pend = none := by rw [hLp]; rfl
  simp only [Mem.loop, hset, hpd]
  exact fin _ s hgd
end Go.Proofs.YtnjgdlmddlinaaaDoor.Vm

/- Weaker views of a temporary and of an object; a cut behind a piece of code. (Vm) -/
namespace Go.Proofs.YtnjgdlmddlinaaaDoor.Vm
open Go Go.Proofs
section
variable {P : Program} {T : Tab} {cx : Cx} {e : Env} {M : Mem} {D : List Nat} {Q : PQ} {c : Code}
theorem so_plain {w : World} {K : Nat → Option Nat} {H : List VObj} {v : Value} {g k : Nat} {xs : List (List PV)} (h : RepV w K H v (.so g k xs)) : RepV w K H v (.p (.sl k xs)) := by
 cases h with
 | so _ _ _ _ h _ => exact .p _ _ h
theorem W_strip {t g k : Nat} {xs : List (List PV)} (ht : get e t = .so g k xs) (h : WCode P cx c ((t, .p (.sl k xs)) :: e) M D Q) : WCode P cx c e M D Q := by
 intro G w K a hs
 have hf2 : FrOk w K M cx.nt a.tmps ((t, .p (.sl k xs)) :: e) := by
  refine ⟨hs.fr.size, fun t' => ?_, fun t' => ?_⟩
  ·rw [get_cons]
   by_cases h1 : t' = t
   ·subst h1
    rw [if_pos rfl]
    have := hs.fr.rep t'
    rw [ht] at this
    exact so_plain this
   ·rw [if_neg h1]; exact hs.fr.rep t'
  ·rw [get_cons]
   by_cases h1 : t' = t
   ·rw [if_pos h1]
    intro r hr
    simp [refs] at hr
   ·rw [if_neg h1]; exact hs.fr.cl t'
 exact h G w K a ⟨hf2, hs.df, hs.inv, hs.rd⟩
theorem W_nilobj {id off k k0 : Nat} {cs : List VV} (ho : M.H[id]? = some (.obj cs)) (hc : cs[off]? = some (.sf k0 [])) (h : WCode P cx c e ⟨M.H.set id (.obj (cs.set off (.p (.sl k [])))), M.lg⟩ D Q) : WCode P cx c e M D Q := by
 intro G w K a hs
 have i1 := hs.inv
 have hil := (List.getElem?_eq_some_iff.1 ho).1
 have hs2 : ∀ j x, (M.H.set id (.obj (cs.set off (.p (.sl k [])))))[j]? = some x → (j = id ∧ x = .obj (cs.set off (.p (.sl k [])))) ∨ (j ≠ id ∧ M.H[j]? = some x) := fun j x hx => by
  rcases set_get hx with ⟨rfl, rfl, _⟩ | ⟨h1, h2⟩
  ·exact .inl ⟨rfl, rfl⟩
  ·exact .inr ⟨h1, h2⟩
 have hE : Ext w K M.H w K (M.H.set id (.obj (cs.set off (.p (.sl k []))))) := by
  refine ⟨Nat.le_refl _, Szp.refl _, fun b o _ him i ob hi hb => ?_, fun _ _ _ _ => rfl, fun i o hi => ?_⟩
  ·rcases hs2 i ob hi with ⟨rfl, rfl⟩ | ⟨_, h2⟩
   ·rcases him i _ ho hb with e2 | ⟨m, k', e2, _⟩
    ·exact e2.elim
    ·cases e2
   ·exact him i ob h2 hb
  ·by_cases h1 : i = id
   ·subst h1
    rw [ho] at hi
    cases hi
    exact ⟨.obj (cs.set off (.p (.sl k []))), by simp [hil], fun _ _ e => VObj.noConfusion e, rfl⟩
   ·refine ⟨o, by rw [List.getElem?_set_ne (Ne.symm h1)]; exact hi, ?_⟩
    exact objLe_same rfl fun b _ => rfl
 have hI2 : Inv G w K { H := M.H.set id (.obj (cs.set off (.p (.sl k [])))), lg := M.lg } := by
  refine ⟨i1.os, i1.tape, i1.output, i1.size, i1.gB, i1.old, inj_set i1 (by simp) (gone_set ho (fun e => by cases e)), fun i b hi => i1.blk i b (by simpa using hi), fun i o hi => ?_, fun i o hi cc hcc r hr => ?_, fun en hen => ?_, fun i L hi => ?_⟩
  ·rcases hs2 i o hi with ⟨rfl, rfl⟩ | ⟨h1, h2⟩
   ·intro b hb
    obtain ⟨vs, t, q1, q2, q3⟩ := i1.obj i _ ho b hb
    refine ⟨vs, t, q1, by simpa using q2, fun j v cv hv hcv => ?_⟩
    rw [List.getElem?_set] at hcv
    by_cases hj : off = j
    ·subst hj
     have hlt := (List.getElem?_eq_some_iff.1 hc).1
     rw [if_pos rfl, if_pos hlt] at hcv
     cases hcv
     obtain ⟨r1, r2⟩ := q3 off v _ hv hc
     refine ⟨?_, r2⟩
     cases r1 with
     | sf A _ _ h0 => exact .p _ _ (.sl A 0 k 0 0 [] (fun _ _ => undef) (Nat.le_refl _) (by simp [maxLen]) (fun x hx => by cases hx) (fun hx => absurd rfl hx) (fun i x j u hx => by simp at hx) (fun i x j u hx => by simp at hx) (fun i x j u hx => by simp at hx))
    ·rw [if_neg hj] at hcv
     obtain ⟨r1, r2⟩ := q3 j v cv hv hcv
     exact ⟨r1.ext hE (i1.content ho cv (by simp only [contents]; exact List.mem_of_getElem? hcv)), r2⟩
   ·exact (i1.obj i o h2).ext hE (fun _ _ => rfl) (i1.content h2)
  ·simp only [List.length_set]
   rcases hs2 i o hi with ⟨rfl, rfl⟩ | ⟨h1, h2⟩
   ·simp only [contents] at hcc
    rcases List.mem_or_eq_of_mem_set hcc with hm | rfl
    ·exact i1.cl i _ ho cc (by simp only [contents]; exact hm) r hr
    ·simp [refs] at hr
   ·exact i1.cl i o h2 cc hcc r hr
  ·simp only [List.length_set]
   exact i1.lg en hen
  ·rcases hs2 i _ hi with ⟨rfl, e2⟩ | ⟨_, h2⟩
   ·cases e2
   ·exact i1.lpd i L h2
 have hs3 : StOk cx G w K { H := M.H.set id (.obj (cs.set off (.p (.sl k [])))), lg := M.lg } a e D := ⟨hs.fr.ext (M' := { H := M.H.set id (.obj (cs.set off (.p (.sl k [])))), lg := M.lg }) hE, df_ext (M' := { H := M.H.set id (.obj (cs.set off (.p (.sl k [])))), lg := M.lg }) hE hs.df, hI2, (rd_ext (M' := { H := M.H.set id (.obj (cs.set off (.p (.sl k [])))), lg := M.lg }) hE hs.rd).1⟩
 have h2 := h G w _ a hs3
 exact wpIn_mono h2 fun ex a' w' ⟨e', M', K', D', q1, q2, q3, q4⟩ => ⟨e', M', K', D', q1, q2, q3, hE.trans q4⟩
theorem W_then {Kn : Env → Mem → List Nat → Prop} (E : Env) (M1 : Mem) (h1 : WCode P cx c e M D (fun ex e' M' D' => ex = .normal ∧ D' = D ∧ M' = M1 ∧ Sub E e')) (h2 : ∀ e', Sub E e' → Kn e' M1 D) : WCode P cx c e M D (thenQ Kn Q) :=
 h1.mono (by rintro ex e' M' D' ⟨rfl, rfl, rfl, hS⟩; exact h2 e' hS)
end
theorem VC_keepK {P : Program} {T : Tab} (hT : TabOk P T) {f : Nat} {fn : Func} {c : Code} {nt : Nat} {args : List VV} {M : Mem} {Q : VV → Mem → Prop} (hf : T.fn f = some fn) (hb : fn.body = some c) (hnt : fn.ntmps = nt) (hn : Nat.ble args.length nt = true) (hk : T.keeps f = true)
  (h : WCode P ⟨f, none, nt⟩ c (zipEnv 0 args) M [] (fun ex e M' D => (ex = .normal ∨ ex = .ret) ∧ ∃ H', vkill M.H.length D M'.H = some H' ∧ ∃ vs, vresL T e ⟨H', M'.lg⟩ fn.results.toList = some vs ∧ Q (vtup vs) ⟨H', M'.lg⟩)) : VC P f args M Q := by
 subst hnt
 refine VC_fn hT hf hb (Nat.le_of_ble_eq_true hn) fun hlg => h.mono ?_
 rintro ex e M' D ⟨hex, H', hk2, vs, h1, h3⟩
 have key : retQ T f M.H.length fn Q .ret e M' D := by
  simp only [retQ, hk2]
  have hM : ({ M' with H := H' } : Mem) = ⟨H', M'.lg⟩ := rfl
  rw [hM, h1]
  simp only
  unfold vfinish
  rw [hk]
  exact h3
 rcases hex with rfl | rfl
 ·exact key
 ·exact key
/-! ### the floor -/
def flAt (fl : List Int) (c : Pl) : Int := fl.getD (c.y.toNat * 6 + c.x.toNat) 0
def nowOf (h : Ha) (fl : List Int) : List Pu := (placesL h).filterMap fun c => if 0 < flAt fl c then some ⟨c, flAt fl c - 1⟩ else none
abbrev floorV (fl : List Int) : VV := .agg (fl.map vi)
theorem mem_places {h : Ha} {c : Pl} (hw : h.wide ≤ 6) (hd : h.deep ≤ 4) (hc : c ∈ placesL h) : 0 ≤ c.x ∧ c.x ≤ 5 ∧ 0 ≤ c.y ∧ c.y ≤ 3 := by
 unfold placesL rowsOf rowOf at hc
 rw [List.mem_flatMap] at hc
 obtain ⟨y, hy, hc⟩ := hc
 obtain ⟨x, hx, rfl⟩ := List.mem_map.1 hc
 rw [List.mem_range] at hx hy
 simp only
 omega
end Go.Proofs.YtnjgdlmddlinaaaDoor.Vm

/- Halls made of numbers, in plain Lean, and how they end. (Vm) -/
namespace Go.Proofs.YtnjgdlmddlinaaaDoor.Vm
open Go Go.Proofs
theorem addLg_has {id r : Nat} {lg : List (Nat × Nat)} (h : (id, r) ∈ lg) : addLg id [r] lg = lg := by
 unfold addLg
 have h1 : (lg.any fun e => Nat.beq e.1 id && Nat.beq e.2 r) = true := List.any_eq_true.2 ⟨(id, r), h, by simp⟩
 have h2 : List.filter (fun r => Nat.blt id r && !(lg.any fun e => Nat.beq e.1 id && Nat.beq e.2 r)) [r] = [] := by
  rw [List.filter_cons]
  simp [h1]
 rw [h2]
theorem rowOf_mem {c : Pl} {y n : Nat} : c ∈ rowOf y n ↔ c.y = (y : Int) ∧ 0 ≤ c.x ∧ c.x < n := by
 unfold rowOf
 rw [List.mem_map]
 constructor
 ·rintro ⟨x, hx, rfl⟩
  have := List.mem_range.1 hx
  exact ⟨rfl, Int.natCast_nonneg _, Int.ofNat_lt.2 this⟩
 ·rintro ⟨h1, h2, h3⟩
  refine ⟨c.x.toNat, List.mem_range.2 (by omega), ?_⟩
  cases c
  simp only at h1 h2 h3 ⊢
  rw [h1]
  congr 1
  omega
theorem rowsOf_mem {c : Pl} {n wd : Nat} : c ∈ rowsOf n wd ↔ 0 ≤ c.y ∧ c.y < n ∧ 0 ≤ c.x ∧ c.x < wd := by
 unfold rowsOf
 rw [List.mem_flatMap]
 constructor
 ·rintro ⟨y, hy, hc⟩
  rw [rowOf_mem] at hc
  have := List.mem_range.1 hy
  omega
 ·rintro ⟨h1, h2, h3, h4⟩
  exact ⟨c.y.toNat, List.mem_range.2 (by omega), rowOf_mem.2 (by omega)⟩
theorem rowOf_nodup (y n : Nat) : (rowOf y n).Nodup := by
 unfold rowOf
 rw [List.nodup_iff_pairwise_ne, List.pairwise_map]
 exact List.nodup_range.imp fun h e => h (by have := congrArg Pl.x e; simp only at this; omega)
theorem rowsOf_nodup (n wd : Nat) : (rowsOf n wd).Nodup := by
 induction n with
 | zero => simp [rowsOf]
 | succ n ih =>
  rw [rowsOf_succ, List.nodup_append]
  refine ⟨ih, rowOf_nodup n wd, fun a ha b hb e => ?_⟩
  subst e
  rw [rowsOf_mem] at ha
  rw [rowOf_mem] at hb
  omega
theorem nodup_has {l : List Pl} (h : l.Nodup) {i : Nat} {c : Pl} (hx : l[i]? = some c) : hasPl (l.take i) c = false := by
 unfold hasPl
 rw [← Bool.not_eq_true, List.contains_iff_mem]
 intro hm
 obtain ⟨j, hj, e⟩ := List.getElem_of_mem hm
 rw [List.length_take] at hj
 rw [List.getElem_take] at e
 have hi := (List.getElem?_eq_some_iff.1 hx)
 obtain ⟨hil, he⟩ := hi
 have := List.pairwise_iff_getElem.1 (List.nodup_iff_pairwise_ne.1 h) j i (by omega) hil (by omega)
 rw [e, he] at this
 exact this rfl
theorem cells_sub {h : Ha} {l : List Pl} {wd dp : Nat} (hs : l.Sublist (rowsOf dp wd)) (hw : h.wide = wd) (hd : h.deep = dp) (hn : dp * wd ≤ 24) : cellsErr h l = 0 := by
 have hlen := hs.length_le
 rw [rowsOf_len] at hlen
 unfold cellsErr
 rw [if_neg (by omega), firstErr_zero]
 intro i hi
 have hx : l[i]? = some l[i] := List.getElem?_eq_getElem hi
 have hm := rowsOf_mem.1 (hs.subset (List.getElem_mem hi))
 generalize l[i] = c at hx hm
 have h1 : isPl h c = true := by
  simp only [isPl, Bool.and_eq_true, inR_true]
  omega
 have h2 := nodup_has (hs.nodup (rowsOf_nodup dp wd)) hx
 unfold cellErr
 rw [hx]
 simp [h1, h2]
structure KGood (n : Nat) (k : Ki) : Prop where
 lo : 0 ≤ k.lo
 le : k.lo ≤ k.hi
 hi : k.hi ≤ 60
 len : k.away.length = n
 aw : ∀ a ∈ k.away, 0 ≤ a ∧ a ≤ 3
 rent : 0 ≤ k.rent ∧ k.rent ≤ 49
 most : 1 ≤ k.most ∧ k.most ≤ 5
structure HGood (wd dp : Nat) (h : Ha) : Prop where
 w : h.wide = wd
 d : h.deep = dp
 w1 : 1 ≤ wd ∧ wd ≤ 6
 d1 : 1 ≤ dp ∧ dp ≤ 4
 ws : h.water.Sublist (rowsOf dp wd)
 ss : h.shut.Sublist (rowsOf dp wd)
 bx : 1 ≤ h.bay.x ∧ h.bay.x ≤ h.wide
 by_ : 1 ≤ h.bay.y ∧ h.bay.y ≤ h.deep
 bl : (h.bears.length : Int) = baysOf h
 bs : ∀ b ∈ h.bears, 0 ≤ b ∧ b ≤ 300
 k1 : 1 ≤ h.kinds.length ∧ h.kinds.length ≤ 6
 ks : ∀ k ∈ h.kinds, KGood h.kinds.length k
theorem KGood.ok {h : Ha} {k : Ki} (g : KGood h.kinds.length k) : kindErr h k = 0 := by
 obtain ⟨g1, g2, g3, g4, g5, g6, g7⟩ := g
 have a1 : inR k.lo 0 1000000 = true := inR_true.2 (by omega)
 have a2 : inR k.hi 0 1000000 = true := inR_true.2 (by omega)
 have a3 : inR k.rent 0 1000000 = true := inR_true.2 (by omega)
 have a4 : inR k.most 0 24 = true := inR_true.2 (by omega)
 have a5 : k.away.any (fun n => !inR n 0 9) = false := by
  rw [List.any_eq_false]
  intro a ha
  have := g5 a ha
  rw [inR_true.2 (show 0 ≤ a ∧ a ≤ 9 by omega)]
  simp
 unfold kindErr
 rw [a1, a2, a3, a4, a5]
 simp [g4]
 omega
theorem HGood.ok {wd dp : Nat} {h : Ha} (g : HGood wd dp h) : hallErr h = 0 := by
 obtain ⟨g1, g2, g3, g4, g5, g6, g7, g8, g9, g10, g11, g12⟩ := g
 have hn : dp * wd ≤ 24 := by
  have : dp * wd ≤ 4 * 6 := Nat.mul_le_mul g4.2 g3.2
  omega
 have a1 : inR h.wide 1 6 = true := inR_true.2 (by omega)
 have a2 : inR h.deep 1 4 = true := inR_true.2 (by omega)
 have a3 : inR h.bay.x 1 h.wide = true := inR_true.2 g7
 have a4 : inR h.bay.y 1 h.deep = true := inR_true.2 g8
 have a5 : h.bears.any (fun n => !inR n 0 10000000) = false := by
  rw [List.any_eq_false]
  intro a ha
  have := g10 a ha
  rw [inR_true.2 (show 0 ≤ a ∧ a ≤ 10000000 by omega)]
  simp
 have a6 : firstErr (kindErrAt h) h.kinds.length = 0 := by
  rw [firstErr_zero]
  intro i hi
  unfold kindErrAt
  rw [List.getElem?_eq_getElem hi]
  exact (g12 _ (List.getElem_mem hi)).ok
 unfold hallErr
 rw [a1, a2, a3, a4, a5, a6, cells_sub g5 g1 g2 hn, cells_sub g6 g1 g2 hn]
 rw [if_neg (by decide), if_neg (by decide), if_neg (by decide), if_neg (by decide), if_neg (by rw [g9]; simp), if_neg (by decide), if_neg (by omega), if_neg (by omega)]
theorem bays_le {h : Ha} (V : VH h) : baysOf h ≤ 24 := by
 have hx := V.x1
 have hy := V.y1
 have hw := V.w2
 have hd := V.d2
 have w1 := V.w1
 have d1 := V.d1
 unfold baysOf colsOf
 rw [div_up hx, div_up hy]
 have h1 := div_le (n := h.wide - 1) (b := h.bay.x) (by omega) hx
 have h2 := div_le (n := h.deep - 1) (b := h.bay.y) (by omega) hy
 have := mul_le (a := (h.wide - 1) / h.bay.x + 1) (b := (h.deep - 1) / h.bay.y + 1) (m := 6) (n := 4) (by omega) (by omega) (by omega) (by omega)
 omega
theorem HGood.fin {wd dp : Nat} {h : Ha} (g : HGood wd dp h) : Fin h := by
 have V := VH.of g.ok
 have h1 := cells_len V.water
 have h2 := cells_len V.shut
 have hb := bays_le V
 have h3 := V.bears
 have h4 := V.kinds6
 exact ⟨by omega, by omega, by omega, by omega, fun k hk => by have := (g.ks k hk).len; omega⟩
end Go.Proofs.YtnjgdlmddlinaaaDoor.Vm

/- The floor of a hall at work, on values. (Vm) -/
namespace Go.Proofs.YtnjgdlmddlinaaaDoor.Vm
open Go Go.Proofs
theorem fl_cells (fl : List Int) : (fl.map vi).all isCell = true := by
 rw [List.all_map, List.all_eq_true]
 intro x _
 rfl
theorem at_vm (fl : List Int) (c : Pl) (M : Mem) (hl : fl.length = 24) (x0 : 0 ≤ c.x) (x1 : c.x ≤ 5) (y0 : 0 ≤ c.y) (y1 : c.y ≤ 3) (hv : ∀ n ∈ fl, 0 ≤ n ∧ n ≤ 1000) : VC Tryd.prog 50 [floorV fl, plV c] M (fun r M' => M' = M ∧ r = .tup [puV ⟨c, flAt fl c - 1⟩, vb (decide (0 < flAt fl c))]) := by
 have hi : c.y.toNat * 6 + c.x.toNat < fl.length := by omega
 have hfa : flAt fl c = fl[c.y.toNat * 6 + c.x.toNat] := by unfold flAt; simp [hi]
 have hmem := hv _ (List.getElem_mem hi)
 rw [← hfa] at hmem
 have a1 : -9223372036854775808 ≤ flAt fl c - 1 ∧ flAt fl c - 1 < 9223372036854775808 := by omega
 have c1 : (c.y.toNat < 4) = True := eq_true (by omega)
 have c2 : (c.x.toNat < 6) = True := eq_true (by omega)
 have c3 : ((fl.map vi).drop (c.y.toNat * 6 + c.x.toNat)).take 1 = [vi (flAt fl c)] := by
  rw [hfa, List.drop_eq_getElem_cons (by simpa using hi)]
  simp
 have c4 : (fl.map vi)[c.y.toNat * 6 + c.x.toNat]? = some (vi (flAt fl c)) := by
  rw [hfa, List.getElem?_map, List.getElem?_eq_getElem hi]; rfl
 have c5 : (c.y.toNat * 6 + c.x.toNat + 1 ≤ fl.length) = True := eq_true (by omega)
 refine VC_own' T_ok (f := 50) (fn := Tryd.f50) (by kernel_rfl) rfl Tryd.ntmps50 (by rfl) (by rfl) ?_
 have fc := fl_cells fl
 ((repeat refine Ws ?_);refine Wr ?_)
 simp (maxSteps := 1000000) only [VL,VM,↓VG,reduceIte,reduceCtorEq,zA,zB,zC,zD,zE,zF,zG,zH,zI,zJ, fc]
 (repeat refine Ws ?_)
 refine W_drawP T_ok [] (by kernel_rfl) (by kernel_rfl) ?_
 generalize hi : mkPlan _ = infs
 cbv at hi
 subst hi
 simp (maxSteps := 1000000) only [VL,VM,↓VG,reduceIte,reduceCtorEq,zA,zB,zC,zD,zE,zF,zG,zH,zI,zJ, c1, c2, c3, c4, c5, x0, y0, a1]
 (repeat refine Ws ?_)
 refine W_ret ?_
 try simp only [thenQ, blockQ]
 refine own_ret (vs := [puV ⟨c, flAt fl c - 1⟩, vb (decide (0 < flAt fl c))]) ?_ rfl ?_ ⟨rfl, rfl⟩
 ·show vresL T _ _ [.cell 4 37, .tmp 5] = _
  simp (maxSteps := 1000000) only [VL,VM,↓VG,reduceIte,reduceCtorEq,zA,zB,zC,zD,zE,zF,zG,zH,zI,zJ, vresL]
 ·rfl
theorem fl_strip (fl : List Int) : (fl.map vi).map strip1 = fl.map vi := by
 rw [List.map_map]; rfl
theorem filterMap_take_succ {α β : Type} (p : α → Option β) {l : List α} {i : Nat} {c : α} (h : l[i]? = some c) : (l.take (i + 1)).filterMap p = (l.take i).filterMap p ++ (p c).toList := by
 rw [List.take_add_one, h, List.filterMap_append]
 cases hp : p c <;> simp [hp]
set_option maxRecDepth 100000 in
theorem puts_vm (h : Ha) (fl : List Int) (M : Mem) (V : VH h) (hl : fl.length = 24) (hv : ∀ n ∈ fl, 0 ≤ n ∧ n ≤ 1000) : VC Tryd.prog 32 [floorV fl, hallV h] M (fun r M' => (∃ X, M' = ⟨M.H ++ X, M.lg ++ [(M.H.length + 2, M.H.length + 3)]⟩ ∧ X.length = 7) ∧ r = .so (M.H.length + 3) 3 ((nowOf h fl).map puP)) := by
 have fc := fl_cells fl
 have f24 : (24 ≤ fl.length) = True := eq_true (by omega)
 have f25 : fl.take 24 = fl := List.take_of_length_le (by omega)
 have f26 := fl_strip fl
 obtain ⟨wd, hwd⟩ := Int.eq_ofNat_of_zero_le (show 0 ≤ h.wide by have := V.w1; omega)
 obtain ⟨dp, hdp⟩ := Int.eq_ofNat_of_zero_le (show 0 ≤ h.deep by have := V.d1; omega)
 have w2 := V.w2
 have d2 := V.d2
 have w6 : wd ≤ 6 := by omega
 have d4 : dp ≤ 4 := by omega
 have hrows : placesL h = rowsOf dp wd := by rw [placesL, hwd, hdp]; rfl
 have hrl : (rowsOf dp wd).length ≤ 24 := by
  rw [rowsOf_len]
  have : dp * wd ≤ 4 * 6 := Nat.mul_le_mul d4 w6
  omega
 have hpl : ∀ c ∈ rowsOf dp wd, 0 ≤ c.x ∧ c.x ≤ 5 ∧ 0 ≤ c.y ∧ c.y ≤ 3 := fun c hc => mem_places w2 d2 (by rw [hrows]; exact hc)
 refine VC_keepK T_ok (f := 32) (fn := Tryd.f32) (by kernel_rfl) rfl Tryd.ntmps32 (by rfl) (by rfl) ?_
 ((repeat refine Ws ?_);refine Wr ?_)
 simp (maxSteps := 1000000) only [VL,VM,↓VG,reduceIte,reduceCtorEq,zA,zB,zC,zD,zE,zF,zG,zH,zI,zJ, fc]
 ((repeat refine Ws ?_);refine Wr ?_)
 simp (maxSteps := 1000000) only [VL,VM,↓VG,reduceIte,reduceCtorEq,zA,zB,zC,zD,zE,zF,zG,zH,zI,zJ]
 (repeat refine Ws ?_)
 refine W_ghost (id := M.H.length + 2) (off := 0) (k := 3) (k0 := 0) (cs := [.sf 0 []]) (by rw [hget]; rfl) rfl ?_
 ((repeat refine Ws ?_);refine Wr ?_)
 simp (maxSteps := 1000000) only [VL,VM,↓VG,reduceIte,reduceCtorEq,zA,zB,zC,zD,zE,zF,zG,zH,zI,zJ]
 apply call_eq (f := 28) (fn := Tryd.f28) (by kernel_rfl) (by rfl)
 ·exact placesF_v h _
 simp (maxSteps := 1000000) only [VL,VM,↓VG,reduceIte,reduceCtorEq,zA,zB,zC,zD,zE,zF,zG,zH,zI,zJ]
 ((repeat refine Ws ?_);refine W_block ?_)
 refine W_places rfl rfl h hwd hdp (by omega) (by omega) [(2, VV.ptr M.H.length 0), (3, VV.ptr (M.H.length + 1) 0), (5, VV.ptr (M.H.length + 2) 0)] (fun s : List Pu => M.H ++ [.obj (fl.map vi), .obj (hallC h), .obj [.so (M.H.length + 3) 3 (s.map puP)], .clm s.length 3, .obj (hallC h)]) (fun i s => s = ((rowsOf dp wd).take i).filterMap fun c => if 0 < flAt fl c then some ⟨c, flAt fl c - 1⟩ else none) [] rfl (fun s => by simp) (by simp) (fun s => by rw [hget]; rfl) (by rfl) ⟨rfl, rfl, rfl, trivial⟩ (by kernel_rfl) ?_ ?_
 ·intro o o' i c s junk hc hs
  dsimp only
  have hft := filterMap_take_succ (fun c => if 0 < flAt fl c then some (⟨c, flAt fl c - 1⟩ : Pu) else none) hc
  rw [← hs] at hft
  have hsl : s.length ≤ 24 := by
   have h1 := List.length_filterMap_le (fun c => if 0 < flAt fl c then some (⟨c, flAt fl c - 1⟩ : Pu) else none) ((rowsOf dp wd).take i)
   rw [← hs, List.length_take] at h1
   omega
  have hcp := hpl c (List.mem_of_getElem? hc)
  have q2 : ((s.length + 1) * 24 ≤ 140737488355328) = True := eq_true (by omega)
  ((repeat refine Ws ?_);refine Wr ?_)
  simp (maxSteps := 1000000) only [VL,VM,↓VG,reduceIte,reduceCtorEq,zA,zB,zC,zD,zE,zF,zG,zH,zI,zJ]
  refine ⟨junk ++ [.obj [vi c.x, vi c.y]], by simp, ?_⟩
  ((repeat refine Ws ?_);refine W_block ?_)
  ((repeat refine Ws ?_);refine Wr ?_)
  simp (maxSteps := 1000000) only [VL,VM,↓VG,reduceIte,reduceCtorEq,zA,zB,zC,zD,zE,zF,zG,zH,zI,zJ, f24, f25, f26]
  apply call_eq (f := 50) (fn := Tryd.f50) (by kernel_rfl) (by rfl)
  ·exact at_vm fl c _ hl hcp.1 hcp.2.1 hcp.2.2.1 hcp.2.2.2 hv
  simp (maxSteps := 1000000) only [VL,VM,↓VG,reduceIte,reduceCtorEq,zA,zB,zC,zD,zE,zF,zG,zH,zI,zJ]
  ((repeat refine Ws ?_);refine Wr ?_)
  simp (maxSteps := 1000000) only [VL,VM,↓VG,reduceIte,reduceCtorEq,zA,zB,zC,zD,zE,zF,zG,zH,zI,zJ]
  by_cases hpos : 0 < flAt fl c
  rotate_left
  ·rw [decide_eq_false hpos]
   ((repeat refine Ws ?_);refine Wf (by first|rfl|simp only [EV,zF,reduceIte]) ?_)
   ((repeat refine Ws ?_);refine W_skip ?_)
   simp only [blockQ]
   refine ⟨trivial, s, _, rfl, ?_⟩
   rw [hft, if_neg hpos]; simp
  rw [decide_eq_true hpos]
  ((repeat refine Ws ?_);refine Wt (by first|rfl|simp only [EV,zF,reduceIte]) ?_)
  ((repeat refine Ws ?_);refine Wr ?_)
  simp (maxSteps := 1000000) only [VL,VM,↓VG,reduceIte,reduceCtorEq,zA,zB,zC,zD,zE,zF,zG,zH,zI,zJ, q2]
  refine ⟨s ++ [⟨c, flAt fl c - 1⟩], junk ++ [.obj [vi c.x, vi c.y], .obj [vi c.x, vi c.y, vi (flAt fl c - 1)]], ?_, by rw [hft, if_pos hpos]; rfl⟩
  rw [addLg_has (by simp)]
  simp
 ·intro o s hs
  simp only [thenQ, blockQ]
  ((repeat refine Ws ?_);refine Wr ?_)
  simp (maxSteps := 1000000) only [VL,VM,↓VG,reduceIte,reduceCtorEq,zA,zB,zC,zD,zE,zF,zG,zH,zI,zJ]
  rw [List.take_of_length_le (by rw [rowsOf_len]; exact Nat.le_refl _), ← hrows] at hs
  subst hs
  (repeat refine Ws ?_)
  refine W_ret ⟨.inr rfl, _, vkill_one (j := 5) rfl, _, rfl, ⟨_, rfl, by simp⟩, rfl⟩
end Go.Proofs.YtnjgdlmddlinaaaDoor.Vm

/- What layouts earn, on values. (Vm) -/
namespace Go.Proofs.YtnjgdlmddlinaaaDoor.Vm
open Go Go.Proofs
theorem rent_step {h : Ha} {l : List Pu} {i : Nat} {p : Pu} (hx : l[i]? = some p) : rentOf h (l.take (i + 1)) = rentOf h (l.take i) + (kAt h p.kind).rent := by
 unfold rentOf
 rw [List.take_add_one, hx, Option.toList, List.map_append, List.sum_append]
 simp
theorem rent_le {h : Ha} {l : List Pu} (V : VH h) (hg : ∀ o ∈ l, GoodP h o) : 0 ≤ rentOf h l ∧ rentOf h l ≤ 1000000 * l.length := by
 induction l with
 | nil => simp [rentOf]
 | cons p l ih =>
  have ih := ih fun o ho => hg o (List.mem_cons_of_mem _ ho)
  obtain ⟨p1, p2, p3, p4, p5, p6⟩ := (hg p (List.mem_cons_self ..)).bounds V
  have kv := kAt_VK V p5 p6
  have r1 := kv.rent0
  have r2 := kv.rent1
  simp only [rentOf, List.map_cons, List.sum_cons, List.length_cons] at ih ⊢
  omega
def earnsR (h : Ha) (l : List Pu) : Int := if layoutErr h l = 0 then rentOf h l else 0
theorem Earns_vm (h : Ha) (l : List Pu) (M : Mem) (F : Fin h) (hl : l.length ≤ 1000000) : VC Tryd.prog 11 [hallV h, pusV l] M (fun r M' => M' = M ∧ r = .tup [vi (earnsR h l), vi (layoutErr h l)]) := by
 refine VC_own' T_ok (f := 11) (fn := Tryd.f11) (by kernel_rfl) rfl Tryd.ntmps11 (by rfl) (by rfl) ?_
 ((repeat refine Ws ?_);refine Wr ?_)
 simp (maxSteps := 1000000) only [VL,VM,↓VG,reduceIte,reduceCtorEq,zA,zB,zC,zD,zE,zF,zG,zH,zI,zJ]
 ((repeat refine Ws ?_);refine Wr ?_)
 simp (maxSteps := 1000000) only [VL,VM,↓VG,reduceIte,reduceCtorEq,zA,zB,zC,zD,zE,zF,zG,zH,zI,zJ]
 apply call_eq (f := 7) (fn := Tryd.f7) (by kernel_rfl) (by rfl)
 ·exact checkLayout_vm h l _ F hl
 simp (maxSteps := 1000000) only [VL,VM,↓VG,reduceIte,reduceCtorEq,zA,zB,zC,zD,zE,zF,zG,zH,zI,zJ]
 ((repeat refine Ws ?_);refine Wr ?_)
 by_cases e : layoutErr h l = 0
 rotate_left
 ·simp (maxSteps := 1000000) only [VL,VM,↓VG,reduceIte,reduceCtorEq,zA,zB,zC,zD,zE,zF,zG,zH,zI,zJ, e]
  ((repeat refine Ws ?_);refine Wt (by first|rfl|simp only [EV,zF,reduceIte]) ?_)
  ((repeat refine Ws ?_);refine Wr ?_)
  simp (maxSteps := 1000000) only [VL,VM,↓VG,reduceIte,reduceCtorEq,zA,zB,zC,zD,zE,zF,zG,zH,zI,zJ]
  (repeat refine Ws ?_)
  refine W_ret ?_
  try simp only [thenQ, blockQ]
  refine own_ret2 rfl ?_ rfl rfl rfl
  simp [get_cons, frz, earnsR, e]
 have hL := (layout_ok.1 e).2
 have hlen := lay_len hL
 have V := VH.of (layout_ok.1 e).1
 have hg := lay_good hL
 simp (maxSteps := 1000000) only [VL,VM,↓VG,reduceIte,reduceCtorEq,zA,zB,zC,zD,zE,zF,zG,zH,zI,zJ, e]
 ((repeat refine Ws ?_);refine Wf (by first|rfl|simp only [EV,zF,reduceIte]) ?_)
 ((repeat refine Ws ?_);refine W_skip ?_)
 simp (maxSteps := 1000000) only [VL,VM,↓VG,reduceIte,reduceCtorEq,zA,zB,zC,zD,zE,zF,zG,zH,zI,zJ]
 ((repeat refine Ws ?_);refine Wr ?_)
 simp (maxSteps := 1000000) only [VL,VM,↓VG,reduceIte,reduceCtorEq,zA,zB,zC,zD,zE,zF,zG,zH,zI,zJ]
 ((repeat refine Ws ?_);refine Wr ?_)
 simp (maxSteps := 1000000) only [VL,VM,↓VG,reduceIte,reduceCtorEq,zA,zB,zC,zD,zE,zF,zG,zH,zI,zJ]
 ((repeat refine Ws ?_);refine W_block ?_; (repeat refine Ws ?_)); refine W_loopS (fun s : Nat × List VObj => [(2, .ptr M.H.length 0), (7, vi (rentOf h (l.take s.1))), (16, pusV l), (17, vi (l.length : Int)), (18, vi s.1)]) (fun s => ⟨M.H ++ (VObj.obj (hallC h) :: s.2), M.lg⟩) (fun s => l.length - s.1) (fun s => s.1 ≤ l.length) (0, []) (Nat.zero_le _) ⟨rfl, rfl, rfl, rfl, rfl, trivial⟩ rfl ?_
 rintro ⟨i, junk⟩ hi
 simp only at hi
 have k1 : -9223372036854775808 ≤ (i : Int) + 1 ∧ (i : Int) + 1 < 9223372036854775808 := by omega
 ((repeat refine Ws ?_);refine Wr ?_)
 rcases Nat.lt_or_ge i l.length with hlt | hge
 ·have k2 : ((i : Int) < (l.length : Int)) = True := eq_true (by omega)
  have hx : l[i]? = some l[i] := List.getElem?_eq_getElem hlt
  have hx' := map_at (f := puP) hx
  have hmem := List.getElem_mem hlt
  generalize hc : l[i] = p at hx hx' hmem
  obtain ⟨p1, p2, p3, p4, p5, p6⟩ := (hg p hmem).bounds V
  have kp := map_at (f := kiP) (kAt_some p5 p6)
  have kv := kAt_VK V p5 p6
  have r1 := kv.rent0
  have r2 := kv.rent1
  have hr := rent_le (h := h) (l := l.take i) V (fun o ho => hg o (List.mem_of_mem_take ho))
  rw [List.length_take, Nat.min_eq_left hi] at hr
  have k3 : -9223372036854775808 ≤ rentOf h (l.take i) + (kAt h p.kind).rent ∧ rentOf h (l.take i) + (kAt h p.kind).rent < 9223372036854775808 := by omega
  have hs := rent_step (h := h) hx
  simp (maxSteps := 1000000) only [VL,VM,↓VG,reduceIte,reduceCtorEq,zA,zB,zC,zD,zE,zF,zG,zH,zI,zJ, k2]
  ((repeat refine Ws ?_);refine Wt (by first|rfl|simp only [EV,zF,reduceIte]) ?_)
  ((repeat refine Ws ?_);refine W_skip ?_)
  simp (maxSteps := 1000000) only [VL,VM,↓VG,reduceIte,reduceCtorEq,zA,zB,zC,zD,zE,zF,zG,zH,zI,zJ]
  ((repeat refine Ws ?_);refine W_block ?_)
  ((repeat refine Ws ?_);refine Wr ?_)
  simp (maxSteps := 1000000) only [VL,VM,↓VG,reduceIte,reduceCtorEq,zA,zB,zC,zD,zE,zF,zG,zH,zI,zJ, hx']
  ((repeat refine Ws ?_);refine Wr ?_)
  simp (maxSteps := 1000000) only [VL,VM,↓VG,reduceIte,reduceCtorEq,zA,zB,zC,zD,zE,zF,zG,zH,zI,zJ, p5, kp, k3]
  ((repeat refine Ws ?_);refine Wr ?_)
  simp (maxSteps := 1000000) only [VL,VM,↓VG,reduceIte,reduceCtorEq,zA,zB,zC,zD,zE,zF,zG,zH,zI,zJ, k1]
  refine LoopK.mk (i + 1, _) (by simp; omega) (by simp; omega) ⟨rfl, ?_, rfl, rfl, rfl, trivial⟩ rfl
  rw [hs]; simp [get_cons]
 have k2 : ((i : Int) < (l.length : Int)) = False := eq_false (by omega)
 obtain rfl : i = l.length := by omega
 simp (maxSteps := 1000000) only [VL,VM,↓VG,reduceIte,reduceCtorEq,zA,zB,zC,zD,zE,zF,zG,zH,zI,zJ, k2]
 ((repeat refine Ws ?_);refine Wf (by first|rfl|simp only [EV,zF,reduceIte]) ?_)
 ((repeat refine Ws ?_);refine W_exit ?_)
 simp (maxSteps := 1000000) only [VL,VM,↓VG,reduceIte,reduceCtorEq,zA,zB,zC,zD,zE,zF,zG,zH,zI,zJ]
 ((repeat refine Ws ?_);refine Wr ?_)
 simp (maxSteps := 1000000) only [VL,VM,↓VG,reduceIte,reduceCtorEq,zA,zB,zC,zD,zE,zF,zG,zH,zI,zJ]
 (repeat refine Ws ?_)
 refine W_ret ?_
 try simp only [thenQ, blockQ]
 refine own_ret2 rfl ?_ rfl rfl rfl
 rw [List.take_length]
 simp [get_cons, frz, earnsR, e]
end Go.Proofs.YtnjgdlmddlinaaaDoor.Vm

/- Halls made of numbers, on values. (Vm) -/
namespace Go.Proofs.YtnjgdlmddlinaaaDoor.Vm
open Go Go.Proofs
attribute [local irreducible] castF castU fromF fromU oneF oneU
end Go.Proofs.YtnjgdlmddlinaaaDoor.Vm

/- The law of ends, on values. (Vm) -/
namespace Go.Proofs.YtnjgdlmddlinaaaDoor.Vm
open Go Go.Proofs
end Go.Proofs.YtnjgdlmddlinaaaDoor.Vm
