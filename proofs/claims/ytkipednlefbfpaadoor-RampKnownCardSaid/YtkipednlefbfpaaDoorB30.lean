/- A part of the proofs about the chapter of the ramps; it states no condition of its own. -/
import Derived.Test.YtkipednlefbfpaaDoorB15
import Derived.Test.YtkipednlefbfpaaDoorB19
import Derived.Test.YtkipednlefbfpaaDoorB20
import Derived.Test.YtkipednlefbfpaaDoorB23
import Derived.Test.YtkipednlefbfpaaDoorB25
import Derived.Test.YtkipednlefbfpaaDoorB26
set_option linter.unusedVariables false
set_option linter.unusedSimpArgs false
open Int renaming reduceLE → zA, reduceLT → zB, reduceToNat → zC, reduceNeg → zD
open Nat renaming reduceLT → zE, reduceEqDiff → zF, reduceAdd → zG, reduceSub → zH, reduceMul → zI, reduceLeDiff → zJ
/- A range over the values of a list. (Vm) -/
namespace Go.Proofs.YtkipednlefbfpaaDoor.Vm
open Go Go.Proofs
def ownK (T : Tab) (fn : Func) (M : Mem) (Q : VV → Mem → Prop) : PQ := fun ex e M' D => (ex = .normal ∨ ex = .ret) ∧ (∃ X, M'.lg = M.lg ++ X ∧ ∀ e ∈ X, M.H.length ≤ e.1) ∧ ∃ H1 L, vkill M.H.length D M'.H = some (H1 ++ L) ∧ H1.length = M.H.length ∧ ∃ vs, vresL T e ⟨H1 ++ L, M'.lg⟩ fn.results.toList = some vs ∧ ∃ r, frz M.H.length (H1 ++ L) (vtup vs) = r ∧ (∀ x ∈ refs r, x < M.H.length) ∧ Q r ⟨H1, M.lg⟩
theorem VC_ownK {P : Program} {T : Tab} (hT : TabOk P T) {f : Nat} {fn : Func} {c : Code} {nt : Nat} {args : List VV} {M : Mem} {Q : VV → Mem → Prop} (hf : T.fn f = some fn) (hb : fn.body = some c) (hnt : fn.ntmps = nt) (hn : Nat.ble args.length nt = true) (hk : T.keeps f = false)
  (h : WCode P ⟨f, none, nt⟩ c (zipEnv 0 args) M [] (ownK T fn M Q)) :
  VC P f args M Q := by
 subst hnt
 refine VC_fn hT hf hb (Nat.le_of_ble_eq_true hn) fun hlg => h.mono ?_
 rintro ex e M' D ⟨hex, ⟨X, hl, hX⟩, H1, L, hH, hlen, vs, h1, r, hr, h2, h3⟩
 have key : retQ T f M.H.length fn Q .ret e M' D := by
  simp only [retQ, hH]
  have hM : ({ M' with H := H1 ++ L } : Mem) = ⟨H1 ++ L, M'.lg⟩ := rfl
  rw [hM, h1]
  simp only
  have q1 : M'.lg.filter (fun e => Nat.blt e.1 M.H.length) = M.lg := by
   rw [hl, List.filter_append, List.filter_eq_self.2 fun e he => by rw [Nat.blt_eq]; exact (hlg e he).1, List.filter_eq_nil_iff.2 fun e he => by rw [Nat.blt_eq]; have := hX e he; omega, List.append_nil]
  have q2 : (M.lg.all fun e => Nat.blt e.2 M.H.length) = true := List.all_eq_true.2 fun e he => by rw [Nat.blt_eq]; exact (hlg e he).2
  have q3 : ((refs r).all (Nat.blt · M.H.length)) = true := List.all_eq_true.2 fun x hx => by rw [Nat.blt_eq]; exact h2 x hx
  have q4 : (H1 ++ L).take M.H.length = H1 := by rw [← hlen]; simp
  unfold vfinish
  simp only
  rw [hk, q1, hr, q2, q3, q4]
  exact h3
 rcases hex with rfl | rfl
 ·exact key
 ·exact key
theorem get_prune_mem {vs : List Nat} {e : Env} {t : Nat} (h : t ∈ vs) : get (prune vs e) t = get e t := by
 unfold prune
 induction vs with
 | nil => cases h
 | cons v vs ih =>
  simp only [List.map_cons, get_cons]
  by_cases h' : t = v
  ·rw [if_pos h', h']
  ·rw [if_neg h']
   exact ih (by rcases List.mem_cons.1 h with h | h; exact absurd h h'; exact h)
theorem Sub_prune {vs : List Nat} {e : Env} : ∀ {E : Env}, Sub E e → (E.map Prod.fst).all (fun t => vs.contains t) = true → Sub E (prune vs e)
 | [], _, _ => trivial
 | (k, v) :: r, h, hv => by
  simp only [List.map_cons, List.all_cons, Bool.and_eq_true, List.contains_iff_mem] at hv
  exact ⟨(get_prune_mem hv.1).trans h.1, Sub_prune h.2 hv.2⟩
theorem values_v (k : Nat) (rows : List (List PV)) (M : Mem) : VC Tryd.prog 59 [.p (.sl k rows)] M (fun r M' => M' = ⟨M.H ++ [.obj [.p (.sl k rows)]], M.lg⟩ ∧ r = .fn (.func 63) [] [.ptr M.H.length 0]) := by
 refine VC_esc T_ok (f := 59) (fn := Tryd.f59) (by kernel_rfl) rfl Tryd.ntmps59 (by rfl) (by rfl) ?_
 ((repeat refine Ws ?_);refine Wr ?_)
 simp (maxSteps := 1000000) only [VL,VM,↓VG,reduceIte,reduceCtorEq,zA,zB,zC,zD,zE,zF,zG,zH,zI,zJ]
 ((repeat refine Ws ?_);refine Wr ?_)
 simp (maxSteps := 1000000) only [VL,VM,↓VG,reduceIte,reduceCtorEq,zA,zB,zC,zD,zE,zF,zG,zH,zI,zJ]
 (repeat refine Ws ?_)
 refine W_ret ⟨.inr rfl, rfl, [.fn (.func 63) [] [.ptr M.H.length 0]], rfl, ⟨M.H.length, by simp [vtup, frz, frzL, refs, refsL], Nat.le_refl _⟩, rfl, rfl⟩
theorem values1_v (xs : List Int) (kk : Nat) (hkk : kk = 1 ∨ xs = []) (hxl : xs.length ≤ 1000000) (id b : Nat) (M : Mem) {σ : Type} (A : σ → List VObj) (good : Nat → σ → Prop) (stop : σ → Prop) (s0 : σ) (h0 : good 0 s0) (hA : ∀ s, (A s).length = M.H.length) (hM : M.H = A s0) (hk : ∀ s, (A s)[b]? = some (.obj [.p (.sl kk (xs.map intP))]))
  (round : ∀ i x s junk, xs[i]? = some x → good i s → VCall Tryd.prog (.yl id) [vi x] ⟨A s ++ junk, M.lg⟩ (fun r M' => (r = vb true ∧ ∃ s' junk', M' = ⟨A s' ++ junk', M.lg⟩ ∧ good (i + 1) s') ∨ (r = vb false ∧ ∃ s' junk', M' = ⟨A s' ++ junk', M.lg⟩ ∧ stop s'))) :
  VC Tryd.prog 63 [.yl id, .ptr b 0] M (fun r M' => ∃ s, M' = ⟨A s, M.lg⟩ ∧ (good xs.length s ∨ stop s)) := by
 have hkl : ∀ s (junk : List VObj), (A s ++ junk)[b]? = some (.obj [.p (.sl kk (xs.map intP))]) := fun s junk => by
  have := hk s
  rw [List.getElem?_append_left (List.getElem?_eq_some_iff.1 this).1]; exact this
 refine VC_ownK T_ok (f := 63) (fn := Tryd.f63) (by kernel_rfl) rfl Tryd.ntmps63 (by rfl) (by rfl) ?_
 obtain ⟨H, lg⟩ := M
 simp only at hM hA round
 subst hM
 have hk0 := hk s0
 ((repeat refine Ws ?_);refine Wr ?_)
 simp (maxSteps := 1000000) only [VL,VM,↓VG,reduceIte,reduceCtorEq,zA,zB,zC,zD,zE,zF,zG,zH,zI,zJ, hk0]
 ((repeat refine Ws ?_);refine W_block ?_; (repeat refine Ws ?_)); refine W_loopS (fun s : Nat × σ × List VObj => [(0, .yl id), (1, .ptr b 0), (5, .p (.sl kk (xs.map intP))), (6, vi (xs.length : Nat)), (7, vi s.1)]) (fun s => ⟨A s.2.1 ++ s.2.2, lg⟩) (fun s => xs.length - s.1) (fun s => s.1 ≤ xs.length ∧ good s.1 s.2.1) (0, s0, []) ⟨Nat.zero_le _, by simpa using h0⟩ ⟨rfl, rfl, rfl, rfl, rfl, trivial⟩ (by simp) ?_
 rintro ⟨i, s, junk⟩ ⟨hi, hg⟩
 simp only at hi hg
 have k1 : -9223372036854775808 ≤ (i : Int) + 1 ∧ (i : Int) + 1 < 9223372036854775808 := by omega
 ((repeat refine Ws ?_);refine Wr ?_)
 rcases Nat.lt_or_ge i xs.length with hlt | hge
 rotate_left
 ·have k2 : ((i : Int) < (xs.length : Int)) = False := eq_false (by omega)
  obtain rfl : i = xs.length := by omega
  simp (maxSteps := 1000000) only [VL,VM,↓VG,reduceIte,reduceCtorEq,zA,zB,zC,zD,zE,zF,zG,zH,zI,zJ, k2]
  ((repeat refine Ws ?_);refine Wf (by first|rfl|simp only [EV,zF,reduceIte]) ?_)
  ((repeat refine Ws ?_);refine W_exit ?_)
  simp (maxSteps := 1000000) only [VL,VM,↓VG,reduceIte,reduceCtorEq,zA,zB,zC,zD,zE,zF,zG,zH,zI,zJ]
  exact ⟨.inl rfl, ⟨[], by simp, by simp⟩, A s, junk, rfl, hA s, [], rfl, _, rfl, by simp [vtup, frz, frzL, refs, refsL], s, rfl, .inl hg⟩
 have k2 : ((i : Int) < (xs.length : Int)) = True := eq_true (by omega)
 have hx : xs[i]? = some xs[i] := List.getElem?_eq_getElem hlt
 have hk1 : kk = 1 := by
  rcases hkk with h | h
  ·exact h
  ·rw [h] at hlt; simp at hlt
 subst hk1
 generalize xs[i] = x at hx
 have hx' := map_at (f := intP) hx
 simp (maxSteps := 1000000) only [VL,VM,↓VG,reduceIte,reduceCtorEq,zA,zB,zC,zD,zE,zF,zG,zH,zI,zJ, k2]
 ((repeat refine Ws ?_);refine Wt (by first|rfl|simp only [EV,zF,reduceIte]) ?_)
 ((repeat refine Ws ?_);refine W_skip ?_)
 simp (maxSteps := 1000000) only [VL,VM,↓VG,reduceIte,reduceCtorEq,zA,zB,zC,zD,zE,zF,zG,zH,zI,zJ]
 ((repeat refine Ws ?_);refine W_block ?_)
 ((repeat refine Ws ?_);refine Wr ?_)
 simp (maxSteps := 1000000) only [VL,VM,↓VG,reduceIte,reduceCtorEq,zA,zB,zC,zD,zE,zF,zG,zH,zI,zJ, hx']
 ((repeat refine Ws ?_);refine Wr ?_)
 simp (maxSteps := 1000000) only [VL,VM,↓VG,reduceIte,reduceCtorEq,zA,zB,zC,zD,zE,zF,zG,zH,zI,zJ]
 refine (round i x s junk hx hg).mono ?_
 rintro _ _ (⟨rfl, s', junk', rfl, hg'⟩ | ⟨rfl, s', junk', rfl, hg'⟩)
 ·simp (maxSteps := 1000000) only [VL,VM,↓VG,reduceIte,reduceCtorEq,zA,zB,zC,zD,zE,zF,zG,zH,zI,zJ]
  ((repeat refine Ws ?_);refine Wf (by first|rfl|simp only [EV,zF,reduceIte]) ?_)
  ((repeat refine Ws ?_);refine W_skip ?_)
  simp (maxSteps := 1000000) only [VL,VM,↓VG,reduceIte,reduceCtorEq,zA,zB,zC,zD,zE,zF,zG,zH,zI,zJ]
  ((repeat refine Ws ?_);refine Wr ?_)
  simp (maxSteps := 1000000) only [VL,VM,↓VG,reduceIte,reduceCtorEq,zA,zB,zC,zD,zE,zF,zG,zH,zI,zJ, k1]
  refine LoopK.mk (i + 1, s', junk') (by simp only; omega) ⟨by simp only; omega, by simp only; exact hg'⟩ ⟨rfl, rfl, rfl, rfl, rfl, trivial⟩ rfl
 ·simp (maxSteps := 1000000) only [VL,VM,↓VG,reduceIte,reduceCtorEq,zA,zB,zC,zD,zE,zF,zG,zH,zI,zJ]
  ((repeat refine Ws ?_);refine Wt (by first|rfl|simp only [EV,zF,reduceIte]) ?_)
  (repeat refine Ws ?_)
  refine W_ret ?_
  try simp only [thenQ, blockQ]
  exact ⟨.inr rfl, ⟨[], by simp, by simp⟩, A s', junk', rfl, hA s', [], rfl, _, rfl, by simp [vtup, frz, frzL, refs, refsL], s', rfl, .inr hg'⟩
theorem W_values {cx : Cx} {e : Env} {M : Mem} {D : List Nat} {Q : PQ} {g : Operand} {p : Nat} {assign body : Code} (hrd : cx.rd = none) {b : Nat} (hg : ev e g = .fn (.func 63) [] [.ptr b 0]) (xs : List Int) (kk : Nat) (hkk : kk = 1 ∨ xs = []) (hxl : xs.length ≤ 1000000)
  {σ : Type} (E : Env) (A : σ → List VObj) (good : Nat → σ → Prop) (stop : σ → Prop) (s0 : σ) (h0 : good 0 s0) (hA : ∀ s, (A s).length = M.H.length) (hM : M.H = A s0) (hk : ∀ s, (A s)[b]? = some (.obj [.p (.sl kk (xs.map intP))])) (hp : Nat.blt p cx.nt = true) (hE : Sub E e) (hv : (E.map Prod.fst).all (fun t => (T.vars cx.fid).contains t) = true)
  (round : ∀ (o o' : VObj) i x s junk, xs[i]? = some x → good i s → WCode Tryd.prog ⟨cx.fid, some (M.H.length + 1), cx.nt⟩ assign ((p, vi x) :: E) ⟨A s ++ .dfr :: o :: junk, M.lg⟩ []
    (fun ex e' M' D' => ex = .normal ∧ ∃ junk', M' = ⟨A s ++ .dfr :: o :: junk', M.lg⟩ ∧ WCode Tryd.prog ⟨cx.fid, some (M.H.length + 1), cx.nt⟩ body e' ⟨A s ++ .dfr :: o' :: junk', M.lg⟩ D'
      (fun ex e2 M2 D2 => (ex = .normal ∧ ∃ s' junk2, M2 = ⟨A s' ++ .dfr :: o' :: junk2, M.lg⟩ ∧ good (i + 1) s') ∨ (ex = .ret ∧ ∃ s' junk2, M2 = ⟨A s' ++ .dfr :: o' :: junk2, M.lg⟩ ∧ stop s'))))
  (fin : ∀ (o : VObj) s, good xs.length s → Q .normal e ⟨A s ++ [.dfr, o], M.lg⟩ (M.H.length :: D))
  (fin2 : ∀ (o : VObj) s, stop s → WCode Tryd.prog cx .ret e ⟨A s ++ [.dfr, o], M.lg⟩ (M.H.length :: D) Q) : WCode Tryd.prog cx (.rangeFunc g #[p] assign body) e M D Q := by
 obtain ⟨H, lg⟩ := M
 simp only at hA hM round fin fin2
 subst hM
 obtain ⟨Lp, hLp⟩ : ∃ Lp, Lp = mkLoop T cx e #[p] assign body (A s0).length := ⟨_, rfl⟩
 have hget : ∀ (s : σ) (x y : VObj) (junk : List VObj), (A s ++ x :: y :: junk)[(A s0).length + 1]? = some y := fun s x y junk => by
  rw [← hA s, List.getElem?_append_right (by omega)]; simp
 have hset : ∀ (s : σ) (x y z : VObj) (junk : List VObj), (A s ++ x :: y :: junk).set ((A s0).length + 1) z = A s ++ x :: z :: junk := fun s x y z junk => by
  rw [← hA s, List.set_append_right _ _ (by omega)]; simp
 refine W_range T_ok (f := 63) (fn := Tryd.f63) hrd hg (by kernel_rfl) ?_
 rw [← hLp]
 have hst : (Mem.push (Mem.push ⟨A s0, lg⟩ .dfr) (.lp Lp)) = ⟨A s0 ++ [.dfr, .lp Lp], lg⟩ := by simp [Mem.push]
 rw [hst]
 have hargs : (([] ++ [VV.yl ((A s0).length + 1)] ++ [VV.ptr b 0]).map (sarg T 63)) = [.yl ((A s0).length + 1), .ptr b 0] := by
  have hkf : T.keeps 63 = false := by rfl
  simp [sarg, hkf, strip1]
 show VC Tryd.prog 63 (([] ++ [VV.yl ((A s0).length + 1)] ++ [VV.ptr b 0]).map (sarg T 63)) _ _
 rw [hargs]
 have hbl : ∀ s L, (A s ++ L)[b]? = some (.obj [.p (.sl kk (xs.map intP))]) := fun s L => by
  have := hk s
  rw [List.getElem?_append_left (List.getElem?_eq_some_iff.1 this).1]; exact this
 obtain ⟨ob, hob⟩ : ∃ ob : Bool → VObj, ob = fun z => if z then .lp (Lp.with .done (some .ret)) else .lp Lp := ⟨_, rfl⟩
 have hobf : ob false = .lp Lp := by rw [hob]; rfl
 have hobt : ob true = .lp (Lp.with .done (some .ret)) := by rw [hob]; rfl
 have hpd : Lp.pend = none := by rw [hLp]; rfl
 have hsr : Lp.st = .ready := by rw [hLp]; rfl
 refine (values1_v xs kk hkk hxl ((A s0).length + 1) b ⟨A s0 ++ [.dfr, .lp Lp], lg⟩ (fun s : σ × Bool => A s.1 ++ [.dfr, ob s.2]) (fun i s => good i s.1 ∧ s.2 = false) (fun s => stop s.1 ∧ s.2 = true) (s0, false) ⟨h0, rfl⟩ (fun s => by simp [hA]) (by rw [hobf]) (fun s => hbl _ _) ?_).mono ?_
 ·rintro i c ⟨s, z⟩ junk hi ⟨hgd, hz⟩
  simp only at hgd hz
  subst hz
  have hm : (A s ++ [.dfr, ob false]) ++ junk = A s ++ .dfr :: .lp Lp :: junk := by rw [hobf]; simp
  show VCall Tryd.prog (.yl _) [vi c] ⟨(A s ++ [.dfr, ob false]) ++ junk, lg⟩ _
  rw [hm]
  refine V_yield (L := Lp) (e0 := (p, vi c) :: prune (T.vars cx.fid) e) (hget s _ _ _) (by rw [hLp]; simp [mkLoop, vputs, hp]) ?_
  have f1 : Lp.fid = cx.fid := by rw [hLp]; rfl
  have f2 : Lp.nt = cx.nt := by rw [hLp]; rfl
  have f3 : Lp.assign = assign := by rw [hLp]; rfl
  have f4 : Lp.body = body := by rw [hLp]; rfl
  rw [f1, f2, f3, f4]
  refine (WCode.weak (round (.lp Lp) (.lp (Lp.with .busy none)) i c s junk hi hgd) ?_).mono ?_
  ·intro t
   rw [get_cons, get_cons]
   by_cases ht : t = p
   ·rw [if_pos ht, if_pos ht]; exact .inl rfl
   ·rw [if_neg ht, if_neg ht]; exact (Sub_prune hE hv).ok t
  ·rintro ex e' M' D' ⟨rfl, junk', rfl, hb⟩
   refine ⟨Lp, hget s _ _ _, hsr, ?_⟩
   simp only [Mem.loop, hset]
   rw [hpd]
   refine hb.mono ?_
   rintro ex e2 M2 D2 (⟨rfl, s', junk2, rfl, hg'⟩ | ⟨rfl, s', junk2, rfl, hg'⟩)
   ·refine ⟨Lp.with .busy none, hget s' _ _ _, ?_⟩
    simp only [Mem.loop, hset]
    have hback : ∀ L : LoopV, L.st = .ready → L.pend = none → (L.with .busy none).with .ready none = L := fun L h1 h2 => by
     cases L
     simp only at h1 h2
     subst h1 h2
     rfl
    rw [hback Lp hsr hpd]
    exact .inl ⟨trivial, (s', false), junk2, by rw [hobf]; simp, hg', rfl⟩
   ·refine ⟨Lp.with .busy none, hget s' _ _ _, ?_⟩
    simp only [Mem.loop, hset]
    have hback : (Lp.with .busy none).with .done (some .ret) = Lp.with .done (some .ret) := rfl
    rw [hback]
    exact .inr ⟨trivial, (s', true), junk2, by rw [hobt]; simp, hg', rfl⟩
 ·rintro r M' ⟨⟨s, z⟩, rfl, (⟨hgd, hz⟩ | ⟨hgd, hz⟩)⟩
  ·simp only at hgd hz
   subst hz
   refine ⟨Lp, by rw [hobf]; exact hget s _ _ _, by rw [hsr]; rfl, ?_⟩
   rw [hobf]
   simp only [Mem.loop, hset, hpd]
   exact fin _ s hgd
  ·simp only at hgd hz
   subst hz
   refine ⟨Lp.with .done (some .ret), by rw [hobt]; exact hget s _ _ _, rfl, ?_⟩
   rw [hobt]
   simp only [Mem.loop, hset]
   exact fin2 _ s hgd
end Go.Proofs.YtkipednlefbfpaaDoor.Vm

/- Carts on a ramp in their order, plain. -/
namespace Go.Proofs.YtkipednlefbfpaaDoor
def ltP (p : List St) (a b : Nat) : Prop := (stAt p a).from_ < (stAt p b).from_ ∨ ((stAt p a).from_ = (stAt p b).from_ ∧ a < b)
def idxP (p : List St) (r : Int) (n : Nat) : List Nat := (List.range n).filter fun i => decide ((stAt p i).ramp = r)
theorem idxP_succ (p : List St) (r : Int) (n : Nat) : idxP p r (n + 1) = if (stAt p n).ramp = r then idxP p r n ++ [n] else idxP p r n := by
 unfold idxP
 rw [List.range_succ, List.filter_append]
 by_cases h : (stAt p n).ramp = r
 ·simp [h]
 ·simp [h]
theorem idxP_lt {p : List St} {r : Int} {n : Nat} : ∀ i ∈ idxP p r n, i < n := fun i hi => List.mem_range.1 (List.mem_filter.1 hi).1
theorem idxP_asc (p : List St) (r : Int) (n : Nat) : (idxP p r n).Pairwise (· < ·) := List.Pairwise.sublist List.filter_sublist List.pairwise_lt_range
theorem idxP_len (p : List St) (r : Int) (n : Nat) : (idxP p r n).length ≤ n := by
 have := List.length_filter_le (fun i => decide ((stAt p i).ramp = r)) (List.range n)
 simpa [idxP] using this
theorem idxP_mem {p : List St} {r : Int} {n i : Nat} : i ∈ idxP p r n ↔ i < n ∧ (stAt p i).ramp = r := by
 unfold idxP
 rw [List.mem_filter, List.mem_range]
 simp
theorem sort_put {p : List St} {A B : List Nat} {x : Nat} (hs : (A ++ B).Pairwise (ltP p)) (hx : ∀ a ∈ A ++ B, a < x) (hB : ∀ b ∈ B, (stAt p x).from_ < (stAt p b).from_) (hA : ∀ A' z, A = A' ++ [z] → ¬ (stAt p x).from_ < (stAt p z).from_) : (A ++ x :: B).Pairwise (ltP p) := by
 rw [List.pairwise_append] at hs ⊢
 obtain ⟨h1, h2, h3⟩ := hs
 refine ⟨h1, List.pairwise_cons.2 ⟨fun b hb => .inl (hB b hb), h2⟩, fun a ha b hb => ?_⟩
 rcases List.mem_cons.1 hb with rfl | hb
 ·have hax := hx a (List.mem_append_left _ ha)
  have hle : (stAt p a).from_ ≤ (stAt p b).from_ := by
   rcases List.eq_nil_or_concat A with rfl | ⟨A', z, rfl⟩
   ·cases ha
   ·rw [List.concat_eq_append] at ha h1 hA
    have hz := hA A' z rfl
    rcases List.mem_append.1 ha with ha | ha
    ·rw [List.pairwise_append] at h1
     have := h1.2.2 a ha z (by simp)
     unfold ltP at this
     omega
    ·rw [List.mem_singleton] at ha; subst ha; omega
  unfold ltP
  omega
 ·exact h3 a ha b hb
def runS (y : Ya) (p : List St) (tk : Nat → Int) (r : Int) : List Nat → Int → Bool
 | [], _ => true
 | i :: S, free => if (stAt p i).from_ < max free (ctAt y i).from_ ∨ min (ctAt y i).until_ (raAt y r).shut < (stAt p i).from_ + tk i then false else runS y p tk r S (max free ((stAt p i).from_ + tk i + y.sweep))
theorem runS_iff {y : Ya} {p : List St} {tk : Nat → Int} {r : Int} : ∀ {S : List Nat} {free : Int}, runS y p tk r S free = true ↔ (∀ i ∈ S, free ≤ (stAt p i).from_ ∧ (ctAt y i).from_ ≤ (stAt p i).from_ ∧ (stAt p i).from_ + tk i ≤ (ctAt y i).until_ ∧ (stAt p i).from_ + tk i ≤ (raAt y r).shut) ∧ S.Pairwise fun i k => (stAt p i).from_ + tk i + y.sweep ≤ (stAt p k).from_
 | [], free => by simp [runS]
 | i :: S, free => by
  rw [runS]
  split
  ·rename_i h
   constructor
   ·intro h2; cases h2
   ·intro ⟨h2, _⟩
    have := h2 i (by simp)
    omega
  ·rename_i h
   rw [runS_iff (S := S)]
   constructor
   ·intro ⟨h1, h2⟩
    refine ⟨fun k hk => ?_, List.pairwise_cons.2 ⟨fun k hk => ?_, h2⟩⟩
    ·rcases List.mem_cons.1 hk with rfl | hk
     ·omega
     ·have := h1 k hk; omega
    ·have := h1 k hk; omega
   ·intro ⟨h1, h2⟩
    obtain ⟨h3, h4⟩ := List.pairwise_cons.1 h2
    refine ⟨fun k hk => ?_, h4⟩
    have := h1 k (by simp [hk])
    have := h3 k hk
    omega
theorem pw_two {α : Type} {R : α → α → Prop} : ∀ {l : List α}, l.Pairwise R → ∀ a ∈ l, ∀ b ∈ l, a ≠ b → R a b ∨ R b a
 | [], _, a, ha, _, _, _ => by cases ha
 | x :: l, h, a, ha, b, hb, hne => by
  obtain ⟨h1, h2⟩ := List.pairwise_cons.1 h
  rcases List.mem_cons.1 ha with ea | ha'
  ·rcases List.mem_cons.1 hb with eb | hb'
   ·exact absurd (ea.trans eb.symm) hne
   ·rw [ea]; exact .inl (h1 b hb')
  ·rcases List.mem_cons.1 hb with eb | hb'
   ·rw [eb]; exact .inr (h1 a ha')
   ·exact pw_two h2 a ha' b hb' hne
structure Ord (p : List St) (r : Int) (S : List Nat) : Prop where
 perm : S.Perm (idxP p r p.length)
 lt : S.Pairwise (ltP p)
theorem Ord.mem {p : List St} {r : Int} {S : List Nat} (h : Ord p r S) {i : Nat} : i ∈ S ↔ i < p.length ∧ (stAt p i).ramp = r := by rw [h.perm.mem_iff, idxP_mem]
def HR (y : Ya) (p : List St) (tk : List Int) (r : Int) : Prop := (∀ i, i < p.length → (stAt p i).ramp = r → okSelf y p tk i = true) ∧ ∀ i k, i < p.length → k < p.length → (stAt p i).ramp = r → okPair y p tk i k = true
theorem run_hr {y : Ya} {p : List St} {tk : List Int} {tf : Nat → Int} {r : Int} {S : List Nat} (ht : ∀ i, i < p.length → tf i = tkAt tk i) (o : Ord p r S) : runS y p tf r S (raAt y r).open_ = true ↔ HR y p tk r := by
 rw [runS_iff]
 constructor
 ·intro ⟨h1, h2⟩
  have h3 := List.Pairwise.and o.lt h2
  refine ⟨fun i hi hr => ?_, fun i k hi hk hr => ?_⟩
  ·have := h1 i (o.mem.2 ⟨hi, hr⟩)
   rw [ht i hi] at this
   rw [okSelf_iff, hr]
   exact ⟨this.2.1, this.1, this.2.2.1, this.2.2.2⟩
  ·rw [okPair_iff]
   intro hne he hlt
   rcases pw_two h3 i (o.mem.2 ⟨hi, hr⟩) k (o.mem.2 ⟨hk, by rw [he, hr]⟩) (fun e => hne e.symm) with q | q
   ·have := q.2
    rw [ht i hi] at this
    exact this
   ·have := q.1
    unfold ltP at this
    omega
 ·intro ⟨h1, h2⟩
  refine ⟨fun i hi => ?_, List.Pairwise.imp_of_mem (fun {i k} hi hk hlt => ?_) o.lt⟩
  ·obtain ⟨hi1, hi2⟩ := o.mem.1 hi
   have := okSelf_iff.1 (h1 i hi1 hi2)
   rw [hi2] at this
   rw [ht i hi1]
   exact ⟨this.2.1, this.1, this.2.2.1, this.2.2.2⟩
  ·obtain ⟨hi1, hi2⟩ := o.mem.1 hi
   obtain ⟨hk1, hk2⟩ := o.mem.1 hk
   rw [ht i hi1]
   refine okPair_iff.1 (h2 i k hi1 hk1 hi2) ?_ (by rw [hi2, hk2]) ?_
   ·rintro rfl; unfold ltP at hlt; omega
   ·unfold ltP at hlt; omega
theorem held_hr {y : Ya} {p : List St} {tk : List Int} (h0 : ∀ i, i < p.length → 0 ≤ (stAt p i).ramp ∧ (stAt p i).ramp < y.ramps.length) : heldB y p tk = true ↔ ∀ r : Nat, r < y.ramps.length → HR y p tk (r : Int) := by
 rw [heldB_iff]
 constructor
 ·intro ⟨h1, h2⟩ r _
  exact ⟨fun i hi _ => h1 i hi, fun i k hi hk _ => h2 i k hi hk⟩
 ·intro h
  refine ⟨fun i hi => ?_, fun i k hi hk => ?_⟩
  ·obtain ⟨a, b⟩ := h0 i hi
   exact (h (stAt p i).ramp.toNat (by omega)).1 i hi (by omega)
  ·obtain ⟨a, b⟩ := h0 i hi
   exact (h (stAt p i).ramp.toNat (by omega)).2 i k hi hk (by omega)
end Go.Proofs.YtkipednlefbfpaaDoor

/- Carts of a ramp are sorted, on values. (Vm) -/
namespace Go.Proofs.YtkipednlefbfpaaDoor.Vm
open Go Go.Proofs
theorem callf_d {f : Nat} {fn : Func} {caps args : List VV} {M M1 : Mem} {v : VV} (hf : T.fn f = some fn) (hk : T.keeps f = false) (h : VC Tryd.prog f ((args ++ caps).map strip1) M (fun r M' => M' = M1 ∧ r = v)) {R : VV → Mem → Prop} (hq : R v M1) : DCallK Tryd.prog (.fn (.func f) [] caps) args M R :=
 ⟨v, M1, callf_eq hf hk h ⟨rfl, rfl⟩, hq⟩
theorem cmpW_v (p : List St) (a b : Nat) {k : Nat} (M : Mem) (hk : M.H[k]? = some (.obj [stsV p])) (ha : a < p.length) (hb : b < p.length) : VC Tryd.prog 58 [vi a, vi b, .ptr k 0] M (fun r M' => M' = M ∧ r = vi (cmpI (stAt p a).from_ (stAt p b).from_)) := by
 have ha' := map_at (f := stP) (stAt_get ha)
 have hb' := map_at (f := stP) (stAt_get hb)
 refine VC_own' T_ok (f := 58) (fn := Tryd.f58) (by kernel_rfl) rfl Tryd.ntmps58 (by rfl) (by rfl) ?_
 ((repeat refine Ws ?_);refine Wr ?_)
 simp (maxSteps := 1000000) only [VL,VM,↓VG,reduceIte,reduceCtorEq,zA,zB,zC,zD,zE,zF,zG,zH,zI,zJ]
 (repeat refine Ws ?_)
 refine W_drawP T_ok [] (by kernel_rfl) (by kernel_rfl) ?_
 generalize hi : mkPlan _ = infs
 cbv at hi
 subst hi
 simp (maxSteps := 1000000) only [VL,VM,↓VG,reduceIte,reduceCtorEq,zA,zB,zC,zD,zE,zF,zG,zH,zI,zJ, hk, ha', hb']
 apply call_d (f := 35) (fn := Tryd.f35) (by kernel_rfl) (by rfl)
 ·exact compare_v _ _ _
 simp (maxSteps := 1000000) only [VL,VM,↓VG,reduceIte,reduceCtorEq,zA,zB,zC,zD,zE,zF,zG,zH,zI,zJ]
 (repeat refine Ws ?_)
 refine W_ret ?_
 try simp only [thenQ, blockQ]
 refine own_ret10 rfl ?_ (by rfl)
 simp only [get_cons, frz, vtup, Nat.reduceEqDiff, if_true, if_false, reduceIte]
abbrev nv (i : Nat) : VV := vi (i : Int)
theorem swap_cells : ∀ (A : List VV) (z x : VV) (R : List VV), (((A ++ z :: x :: R).take (A.length + 1) ++ z :: (A ++ z :: x :: R).drop (A.length + 1 + 1)).take A.length ++ x :: ((A ++ z :: x :: R).take (A.length + 1) ++ z :: (A ++ z :: x :: R).drop (A.length + 1 + 1)).drop (A.length + 1)) = A ++ x :: z :: R
 | [], z, x, R => by simp
 | y :: A, z, x, R => by
  have ih := swap_cells A z x R
  simp only [List.cons_append, List.length_cons, List.take_succ_cons, List.drop_succ_cons]
  rw [ih]
theorem cmpI_lt (a b : Int) : (cmpI a b < 0) ↔ a < b := by
 unfold cmpI
 split
 ·simp; omega
 ·split
  ·simp; omega
  ·simp; omega
set_option maxHeartbeats 4000000 in
theorem insSort_v (p : List St) (l : List Nat) {k b : Nat} (M : Mem) (hk : M.H[k]? = some (.obj [stsV p])) (hb : M.H[b]? = some (.obj (l.map nv))) (hkb : k ≠ b) (hl : l.length ≤ 1000000) (hn : l ≠ []) (hp : ∀ i ∈ l, i < p.length) (hasc : l.Pairwise (· < ·)) :
  VC Tryd.prog 68 [.bf b 0 l.length 1, vi 0, vi (l.length : Nat), .fn (.func 58) [] [.ptr k 0]] M (fun r M' => ∃ S : List Nat, S.Perm l ∧ S.Pairwise (ltP p) ∧ M' = ⟨M.H.set b (.obj (S.map nv)), M.lg⟩ ∧ r = .tup []) := by
 have hbl := (List.getElem?_eq_some_iff.1 hb).1
 have gb : ∀ o, (M.H.set b o)[b]? = some o := fun o => List.getElem?_set_self hbl
 have gk : ∀ o, (M.H.set b o)[k]? = some (.obj [stsV p]) := fun o => by rw [List.getElem?_set_ne (Ne.symm hkb)]; exact hk
 have gs : ∀ o o', (M.H.set b o).set b o' = M.H.set b o' := fun o o' => List.set_set ..
 have gl : ∀ o, (M.H.set b o).length = M.H.length := fun o => List.length_set
 have g0 : M.H = M.H.set b (.obj (l.map nv)) := by
  refine List.ext_getElem? fun i => ?_
  rw [List.getElem?_set]
  by_cases e : b = i
  ·subst e; rw [if_pos rfl, if_pos hbl, hb]
  ·rw [if_neg e]
 have hlp : 0 < l.length := List.length_pos_iff.2 hn
 refine VC_ownK T_ok (f := 68) (fn := Tryd.f68) (by kernel_rfl) rfl Tryd.ntmps68 (by rfl) (by rfl) ?_
 have z0 : -9223372036854775808 ≤ (0 : Int) + 1 ∧ (0 : Int) + 1 < 9223372036854775808 := by omega
 have hM0 : M = ⟨M.H.set b (.obj (l.map nv)), M.lg⟩ := by rw [← g0]
 ((repeat refine Ws ?_);refine Wr ?_)
 simp (maxSteps := 1000000) only [VL,VM,↓VG,reduceIte,reduceCtorEq,zA,zB,zC,zD,zE,zF,zG,zH,zI,zJ, z0]
 rw [show ((0 : Int) + 1) = ((1 : Nat) : Int) from rfl]
 ((repeat refine Ws ?_);refine W_block ?_; (repeat refine Ws ?_)); refine W_loopS (fun s : Nat × List Nat => [(0, .bf b 0 l.length 1), (1, vi 0), (2, vi (l.length : Nat)), (3, .fn (.func 58) [] [.ptr k 0]), (8, vi s.1)]) (fun s => ⟨M.H.set b (.obj ((s.2 ++ l.drop s.1).map nv)), M.lg⟩) (fun s => l.length - s.1) (fun s => 1 ≤ s.1 ∧ s.1 ≤ l.length ∧ s.2.Perm (l.take s.1) ∧ s.2.Pairwise (ltP p)) (1, l.take 1) ⟨Nat.le_refl _, hlp, List.Perm.refl _, ?_⟩ ⟨rfl, rfl, rfl, rfl, rfl, trivial⟩ (by simp only [List.take_append_drop]; exact hM0) ?_
 ·cases l with
  | nil => exact absurd rfl hn
  | cons x l => simp
 rintro ⟨i, S⟩ ⟨hi1, hi2, hperm, hsort⟩
 simp only at hi1 hi2 hperm hsort
 have k1 : -9223372036854775808 ≤ (i : Int) + 1 ∧ (i : Int) + 1 < 9223372036854775808 := by omega
 ((repeat refine Ws ?_);refine Wr ?_)
 rcases Nat.lt_or_ge i l.length with hlt | hge
 rotate_left
 ·have k2 : ((i : Int) < (l.length : Int)) = False := eq_false (by omega)
  obtain rfl : i = l.length := by omega
  rw [List.take_length] at hperm
  rw [List.drop_length, List.append_nil]
  simp (maxSteps := 1000000) only [VL,VM,↓VG,reduceIte,reduceCtorEq,zA,zB,zC,zD,zE,zF,zG,zH,zI,zJ, k2]
  ((repeat refine Ws ?_);refine Wf (by first|rfl|simp only [EV,zF,reduceIte]) ?_)
  ((repeat refine Ws ?_);refine W_exit ?_)
  simp (maxSteps := 1000000) only [VL,VM,↓VG,reduceIte,reduceCtorEq,zA,zB,zC,zD,zE,zF,zG,zH,zI,zJ]
  exact ⟨.inl rfl, ⟨[], by simp, by simp⟩, M.H.set b (.obj (S.map nv)), [], by simp [vkill], by simp, [], rfl, _, rfl, by simp [vtup, frz, frzL, refs, refsL], S, hperm, hsort, rfl, rfl⟩
 have k2 : ((i : Int) < (l.length : Int)) = True := eq_true (by omega)
 simp (maxSteps := 1000000) only [VL,VM,↓VG,reduceIte,reduceCtorEq,zA,zB,zC,zD,zE,zF,zG,zH,zI,zJ, k2]
 ((repeat refine Ws ?_);refine Wt (by first|rfl|simp only [EV,zF,reduceIte]) ?_)
 ((repeat refine Ws ?_);refine W_skip ?_)
 simp (maxSteps := 1000000) only [VL,VM,↓VG,reduceIte,reduceCtorEq,zA,zB,zC,zD,zE,zF,zG,zH,zI,zJ]
 ((repeat refine Ws ?_);refine W_block ?_)
 have hdr : l.drop i = l[i] :: l.drop (i + 1) := List.drop_eq_getElem_cons hlt
 have htk : l.take (i + 1) = l.take i ++ [l[i]] := by rw [List.take_add_one, List.getElem?_eq_getElem hlt]; rfl
 have hxl : l[i] < p.length := hp _ (List.getElem_mem hlt)
 have hxa : ∀ a ∈ S, a < l[i] ∧ a < p.length := fun a ha => by
  have hat := hperm.mem_iff.1 ha
  obtain ⟨j, hj, e⟩ := List.getElem_of_mem hat
  have hj' : j < i := by simp at hj; omega
  rw [List.getElem_take] at e
  have := List.pairwise_iff_getElem.1 hasc j i (by omega) hlt hj'
  rw [e] at this
  exact ⟨this, hp a (List.mem_of_mem_take hat)⟩
 have hSl : S.length = i := by rw [hperm.length_eq, List.length_take]; omega
 generalize l[i] = x at hdr htk hxl hxa
 obtain ⟨R, hR⟩ : ∃ R, R = l.drop (i + 1) := ⟨_, rfl⟩
 rw [← hR] at hdr
 rw [hdr]
 ((repeat refine Ws ?_);refine Wr ?_)
 simp (maxSteps := 1000000) only [VL,VM,↓VG,reduceIte,reduceCtorEq,zA,zB,zC,zD,zE,zF,zG,zH,zI,zJ]
 ((repeat refine Ws ?_);refine W_block ?_; (repeat refine Ws ?_)); refine W_loopS (fun s : List Nat × List Nat => [(0, .bf b 0 l.length 1), (1, vi 0), (2, vi (l.length : Nat)), (3, .fn (.func 58) [] [.ptr k 0]), (8, vi i), (9, vi (s.1.length : Nat))]) (fun s => ⟨M.H.set b (.obj ((s.1 ++ x :: (s.2 ++ R)).map nv)), M.lg⟩) (fun s => s.1.length) (fun s => s.1 ++ s.2 = S ∧ ∀ z ∈ s.2, (stAt p x).from_ < (stAt p z).from_) (S, []) ⟨by simp, by simp⟩ ⟨rfl, rfl, rfl, rfl, rfl, by simp [get_cons, hSl], trivial⟩ (by simp) ?_
 rintro ⟨A, B⟩ ⟨hAB, hB⟩
 simp only at hAB hB
 have hmem : ∀ a ∈ A ++ B, a < x := fun a ha => by rw [hAB] at ha; exact (hxa a ha).1
 have fin : (∀ A' z, A = A' ++ [z] → ¬ (stAt p x).from_ < (stAt p z).from_) → (A ++ x :: B).Perm (l.take (i + 1)) ∧ (A ++ x :: B).Pairwise (ltP p) := fun hA => by
  constructor
  ·rw [htk]
   refine List.perm_middle.trans ?_
   rw [hAB]
   exact (List.perm_cons_append_cons x (List.append_nil _ ▸ hperm : S.Perm (l.take i ++ []))).trans (by simp)
  ·refine sort_put (by rw [hAB]; exact hsort) hmem hB hA
 rcases List.eq_nil_or_concat A with rfl | ⟨A', z, rfl⟩
 ·have c0 : ((0 : Int) < (([] : List Nat).length : Nat)) = False := eq_false (by simp)
  (repeat refine Ws ?_)
  refine W_drawP T_ok [] (by kernel_rfl) (by kernel_rfl) ?_
  generalize hi : mkPlan _ = infs
  cbv at hi
  subst hi
  simp (maxSteps := 1000000) only [VL,VM,↓VG,reduceIte,reduceCtorEq,zA,zB,zC,zD,zE,zF,zG,zH,zI,zJ, c0]
  ((repeat refine Ws ?_);refine Wf (by first|rfl|simp only [EV,zF,reduceIte]) ?_)
  ((repeat refine Ws ?_);refine W_exit ?_)
  simp (maxSteps := 1000000) only [VL,VM,↓VG,reduceIte,reduceCtorEq,zA,zB,zC,zD,zE,zF,zG,zH,zI,zJ]
  ((repeat refine Ws ?_);refine Wr ?_)
  simp (maxSteps := 1000000) only [VL,VM,↓VG,reduceIte,reduceCtorEq,zA,zB,zC,zD,zE,zF,zG,zH,zI,zJ, k1]
  obtain ⟨f1, f2⟩ := fin (fun A' z h => by simp at h)
  refine LoopK.mk (i + 1, [] ++ x :: B) (by simp only; omega) ⟨by simp only; omega, by simp only; omega, f1, f2⟩ ⟨rfl, rfl, rfl, rfl, rfl, trivial⟩ (by simp [hR])
 rw [List.concat_eq_append] at *
 have hz : z < x ∧ z < p.length := hxa z (by rw [← hAB]; simp)
 obtain ⟨D, hD⟩ : ∃ D, D = ((A' ++ [z]) ++ x :: (B ++ R)).map nv := ⟨_, rfl⟩
 rw [← hD]
 have hD1 : D[A'.length + 1]? = some (nv x) := by rw [hD]; simp
 have hD0 : D[A'.length]? = some (nv z) := by rw [hD]; simp
 have hD2 : (D.take (A'.length + 1) ++ nv z :: D.drop (A'.length + 1 + 1)).take A'.length ++ nv x :: (D.take (A'.length + 1) ++ nv z :: D.drop (A'.length + 1 + 1)).drop (A'.length + 1) = (A' ++ x :: ((z :: B) ++ R)).map nv := by
  have := swap_cells (A'.map nv) (nv z) (nv x) ((B ++ R).map nv)
  rw [List.length_map] at this
  rw [hD]
  simpa using this
 have hal : (A' ++ [z]).length = A'.length + 1 := by simp
 have hlen : A'.length + 1 < l.length := by
  have := congrArg List.length hAB
  simp at this
  omega
 rw [hal]
 obtain ⟨a, ha⟩ : ∃ a, a = A'.length := ⟨_, rfl⟩
 rw [← ha] at hD1 hD0 hD2 hlen ⊢
 (repeat refine Ws ?_)
 refine W_drawP T_ok [] (by kernel_rfl) (by kernel_rfl) ?_
 generalize hi : mkPlan _ = infs
 cbv at hi
 subst hi
 have c0 : ((0 : Int) < ((a + 1 : Nat) : Int)) = True := eq_true (by omega)
 have e1 : ((a + 1 : Nat) : Int) - 1 = (a : Int) := by omega
 have e2 : -9223372036854775808 ≤ (a : Int) ∧ (a : Int) < 9223372036854775808 := by omega
 have q5 : (a + 1 < l.length) = True := eq_true hlen
 have q6 : (a < l.length) = True := eq_true (by omega)
 simp (maxSteps := 1000000) only [VL,VM,↓VG,reduceIte,reduceCtorEq,zA,zB,zC,zD,zE,zF,zG,zH,zI,zJ, c0, e2, e1, q5, q6, gb, hD0, hD1]
 refine callf_d (f := 58) (fn := Tryd.f58) (args := [vi x, vi z]) (caps := [.ptr k 0]) (by kernel_rfl) (by rfl) (cmpW_v p x z _ (gk _) hxl hz.2) ?_
 by_cases hlt2 : (stAt p x).from_ < (stAt p z).from_
 ·have w1 : (cmpI (stAt p x).from_ (stAt p z).from_ < 0) = True := eq_true ((cmpI_lt _ _).2 hlt2)
  simp (maxSteps := 1000000) only [VL,VM,↓VG,reduceIte,reduceCtorEq,zA,zB,zC,zD,zE,zF,zG,zH,zI,zJ, c0, e1, e2, w1]
  ((repeat refine Ws ?_);refine Wt (by first|rfl|simp only [EV,zF,reduceIte]) ?_)
  ((repeat refine Ws ?_);refine W_skip ?_)
  simp (maxSteps := 1000000) only [VL,VM,↓VG,reduceIte,reduceCtorEq,zA,zB,zC,zD,zE,zF,zG,zH,zI,zJ]
  ((repeat refine Ws ?_);refine W_block ?_)
  (repeat refine Ws ?_)
  refine W_drawP T_ok [] (by kernel_rfl) (by kernel_rfl) ?_
  generalize hi : mkPlan _ = infs
  cbv at hi
  subst hi
  have c0 : ((0 : Int) < ((a + 1 : Nat) : Int)) = True := eq_true (by omega)
  have e1 : ((a + 1 : Nat) : Int) - 1 = (a : Int) := by omega
  have e2 : -9223372036854775808 ≤ (a : Int) ∧ (a : Int) < 9223372036854775808 := by omega
  have q5 : (a + 1 < l.length) = True := eq_true hlen
  have q6 : (a < l.length) = True := eq_true (by omega)
  have hDl : (a + 2 ≤ D.length) = True := eq_true (List.getElem?_eq_some_iff.1 hD1).1
  have hDm : (a + 1 ≤ (List.take (a + 1) D).length + ((List.drop (a + 2) D).length + 1)) = True := eq_true (by
   have := (List.getElem?_eq_some_iff.1 hD1).1
   simp only [List.length_take, List.length_drop]
   omega)
  simp (maxSteps := 1000000) only [VL,VM,↓VG,reduceIte,reduceCtorEq,zA,zB,zC,zD,zE,zF,zG,zH,zI,zJ, c0, e2, e1, q5, q6, gb, gs, hD0, hD1, hDl, hDm]
  rw [hD2]
  ((repeat refine Ws ?_);refine Wr ?_)
  simp (maxSteps := 1000000) only [VL,VM,↓VG,reduceIte,reduceCtorEq,zA,zB,zC,zD,zE,zF,zG,zH,zI,zJ, c0, e1, e2]
  refine LoopK.mk (A', z :: B) (by simp only; omega) ⟨by simpa using hAB, fun q hq => ?_⟩ ⟨rfl, rfl, rfl, rfl, rfl, ?_, trivial⟩ rfl
  ·rcases List.mem_cons.1 hq with rfl | hq
   ·exact hlt2
   ·exact hB q hq
  ·simp only [get_cons, Nat.reduceEqDiff, if_true, if_false, reduceIte, ha]
 ·have w1 : (cmpI (stAt p x).from_ (stAt p z).from_ < 0) = False := eq_false fun h => hlt2 ((cmpI_lt _ _).1 h)
  simp (maxSteps := 1000000) only [VL,VM,↓VG,reduceIte,reduceCtorEq,zA,zB,zC,zD,zE,zF,zG,zH,zI,zJ, c0, e1, e2, w1]
  ((repeat refine Ws ?_);refine Wf (by first|rfl|simp only [EV,zF,reduceIte]) ?_)
  ((repeat refine Ws ?_);refine W_exit ?_)
  simp (maxSteps := 1000000) only [VL,VM,↓VG,reduceIte,reduceCtorEq,zA,zB,zC,zD,zE,zF,zG,zH,zI,zJ]
  obtain ⟨f1, f2⟩ := fin (fun A2 z2 h => by
   have := (List.append_inj' h rfl).2
   simp only [List.cons.injEq, and_true] at this
   rw [← this]; exact hlt2)
  ((repeat refine Ws ?_);refine Wr ?_)
  simp (maxSteps := 1000000) only [VL,VM,↓VG,reduceIte,reduceCtorEq,zA,zB,zC,zD,zE,zF,zG,zH,zI,zJ, k1]
  refine LoopK.mk (i + 1, (A' ++ [z]) ++ x :: B) (by simp only; omega) ⟨by simp only; omega, by simp only; omega, f1, f2⟩ ⟨rfl, rfl, rfl, rfl, rfl, trivial⟩ (by rw [hD, ← hR]; simp)
end Go.Proofs.YtkipednlefbfpaaDoor.Vm

/- Carts of a ramp in their order, on values. (Vm) -/
namespace Go.Proofs.YtkipednlefbfpaaDoor.Vm
open Go Go.Proofs
abbrev cmpF (k : Nat) : VV := .fn (.func 58) [] [.ptr k 0]
theorem stable_v (p : List St) (l : List Nat) {k b : Nat} (M : Mem) (hk : M.H[k]? = some (.obj [stsV p])) (hb : M.H[b]? = some (.obj (l.map nv))) (hkb : k ≠ b) (hl : l.length < 20) (hn : l ≠ []) (hp : ∀ i ∈ l, i < p.length) (hasc : l.Pairwise (· < ·)) :
  VC Tryd.prog 62 [.bf b 0 l.length 1, vi (l.length : Nat), cmpF k] M (fun r M' => ∃ S : List Nat, S.Perm l ∧ S.Pairwise (ltP p) ∧ M' = ⟨M.H.set b (.obj (S.map nv)), M.lg⟩ ∧ r = .tup []) := by
 have q1 : ((20 : Int) ≤ (l.length : Int)) = False := eq_false (by omega)
 have q2 : ((20 : Int) < (l.length : Int)) = False := eq_false (by omega)
 refine VC_ownK T_ok (f := 62) (fn := Tryd.f62) (by kernel_rfl) rfl Tryd.ntmps62 (by rfl) (by rfl) ?_
 ((repeat refine Ws ?_);refine Wr ?_)
 simp (maxSteps := 1000000) only [VL,VM,↓VG,reduceIte,reduceCtorEq,zA,zB,zC,zD,zE,zF,zG,zH,zI,zJ]
 ((repeat refine Ws ?_);refine Wr ?_)
 simp (maxSteps := 1000000) only [VL,VM,↓VG,reduceIte,reduceCtorEq,zA,zB,zC,zD,zE,zF,zG,zH,zI,zJ]
 (repeat refine Ws ?_)
 refine W_block ?_
 refine W_loopS (σ := Unit) (fun _ => [(0, .bf b 0 l.length 1), (1, vi (l.length : Nat)), (2, cmpF k), (6, vi 20), (7, vi 0), (8, vi 20)]) (fun _ => M) (fun _ => 0) (fun _ => True) () trivial ⟨rfl, rfl, rfl, rfl, rfl, rfl, trivial⟩ rfl ?_
 rintro _ _
 ((repeat refine Ws ?_);refine Wr ?_)
 simp (maxSteps := 1000000) only [VL,VM,↓VG,reduceIte,reduceCtorEq,zA,zB,zC,zD,zE,zF,zG,zH,zI,zJ, q1]
 ((repeat refine Ws ?_);refine Wf (by first|rfl|simp only [EV,zF,reduceIte]) ?_)
 ((repeat refine Ws ?_);refine W_exit ?_)
 simp (maxSteps := 1000000) only [VL,VM,↓VG,reduceIte,reduceCtorEq,zA,zB,zC,zD,zE,zF,zG,zH,zI,zJ]
 ((repeat refine Ws ?_);refine Wr ?_)
 simp (maxSteps := 1000000) only [VL,VM,↓VG,reduceIte,reduceCtorEq,zA,zB,zC,zD,zE,zF,zG,zH,zI,zJ]
 refine fn_call (f := 68) (fn := Tryd.f68) (by kernel_rfl) (by rfl) ?_
 refine (insSort_v p l M hk hb hkb (by omega) hn hp hasc).mono ?_
 rintro _ _ ⟨S, hperm, hsort, rfl, rfl⟩
 simp (maxSteps := 1000000) only [VL,VM,↓VG,reduceIte,reduceCtorEq,zA,zB,zC,zD,zE,zF,zG,zH,zI,zJ]
 (repeat refine Ws ?_)
 refine W_block ?_
 refine W_loopS (σ := Unit) (fun _ => [(1, vi (l.length : Nat)), (6, vi 20)]) (fun _ => ⟨M.H.set b (.obj (S.map nv)), M.lg⟩) (fun _ => 0) (fun _ => True) () trivial ⟨rfl, rfl, trivial⟩ rfl ?_
 rintro _ _
 ((repeat refine Ws ?_);refine Wr ?_)
 simp (maxSteps := 1000000) only [VL,VM,↓VG,reduceIte,reduceCtorEq,zA,zB,zC,zD,zE,zF,zG,zH,zI,zJ, q2]
 ((repeat refine Ws ?_);refine Wf (by first|rfl|simp only [EV,zF,reduceIte]) ?_)
 ((repeat refine Ws ?_);refine W_exit ?_)
 simp (maxSteps := 1000000) only [VL,VM,↓VG,reduceIte,reduceCtorEq,zA,zB,zC,zD,zE,zF,zG,zH,zI,zJ]
 exact ⟨.inl rfl, ⟨[], by simp, by simp⟩, M.H.set b (.obj (S.map nv)), [], by simp [vkill], by simp, [], rfl, _, rfl, by simp [vtup, frz, frzL, refs, refsL], S, hperm, hsort, rfl, rfl⟩
theorem sortSt_v (p : List St) (l : List Nat) {k b : Nat} (M : Mem) (hk : M.H[k]? = some (.obj [stsV p])) (hb : M.H[b]? = some (.obj (l.map nv))) (hkb : k ≠ b) (hl : l.length < 20) (hn : l ≠ []) (hp : ∀ i ∈ l, i < p.length) (hasc : l.Pairwise (· < ·)) :
  VC Tryd.prog 57 [.bf b 0 l.length 1, cmpF k] M (fun r M' => ∃ S : List Nat, S.Perm l ∧ S.Pairwise (ltP p) ∧ M' = ⟨M.H.set b (.obj (S.map nv)), M.lg⟩ ∧ r = .tup []) := by
 refine VC_ownK T_ok (f := 57) (fn := Tryd.f57) (by kernel_rfl) rfl Tryd.ntmps57 (by rfl) (by rfl) ?_
 ((repeat refine Ws ?_);refine Wr ?_)
 simp (maxSteps := 1000000) only [VL,VM,↓VG,reduceIte,reduceCtorEq,zA,zB,zC,zD,zE,zF,zG,zH,zI,zJ]
 refine fn_call (f := 62) (fn := Tryd.f62) (by kernel_rfl) (by rfl) ?_
 refine (stable_v p l M hk hb hkb hl hn hp hasc).mono ?_
 rintro _ _ ⟨S, hperm, hsort, rfl, rfl⟩
 simp (maxSteps := 1000000) only [VL,VM,↓VG,reduceIte,reduceCtorEq,zA,zB,zC,zD,zE,zF,zG,zH,zI,zJ]
 exact ⟨.inl rfl, ⟨[], by simp, by simp⟩, M.H.set b (.obj (S.map nv)), [], by simp [vkill], by simp, [], rfl, _, rfl, by simp [vtup, frz, frzL, refs, refsL], S, hperm, hsort, rfl, rfl⟩
theorem ins_nil (k : Nat) (M : Mem) : VC Tryd.prog 68 [.p (.sl 0 []), vi 0, vi 0, cmpF k] M (fun r M' => M' = M ∧ r = .tup []) := by
 have z0 : -9223372036854775808 ≤ (0 : Int) + 1 ∧ (0 : Int) + 1 < 9223372036854775808 := by omega
 refine VC_own' T_ok (f := 68) (fn := Tryd.f68) (by kernel_rfl) rfl Tryd.ntmps68 (by rfl) (by rfl) ?_
 ((repeat refine Ws ?_);refine Wr ?_)
 simp (maxSteps := 1000000) only [VL,VM,↓VG,reduceIte,reduceCtorEq,zA,zB,zC,zD,zE,zF,zG,zH,zI,zJ, z0]
 (repeat refine Ws ?_)
 refine W_block ?_
 refine W_loopS (σ := Unit) (fun _ => [(2, vi 0), (8, vi (0 + 1))]) (fun _ => M) (fun _ => 0) (fun _ => True) () trivial ⟨rfl, rfl, trivial⟩ rfl ?_
 rintro _ _
 ((repeat refine Ws ?_);refine Wr ?_)
 simp (maxSteps := 1000000) only [VL,VM,↓VG,reduceIte,reduceCtorEq,zA,zB,zC,zD,zE,zF,zG,zH,zI,zJ, show ((0 : Int) + 1 < 0) = False from eq_false (by omega)]
 ((repeat refine Ws ?_);refine Wf (by first|rfl|simp only [EV,zF,reduceIte]) ?_)
 ((repeat refine Ws ?_);refine W_exit ?_)
 simp (maxSteps := 1000000) only [VL,VM,↓VG,reduceIte,reduceCtorEq,zA,zB,zC,zD,zE,zF,zG,zH,zI,zJ]
 exact ⟨.inl rfl, rfl, ⟨[], by simp, by simp⟩, M.H, [], by simp, rfl, [], rfl, _, rfl, by simp [vtup, frz, frzL, refs, refsL], rfl, rfl⟩
theorem stable_nil (k : Nat) (M : Mem) : VC Tryd.prog 62 [.p (.sl 0 []), vi 0, cmpF k] M (fun r M' => M' = M ∧ r = .tup []) := by
 refine VC_own' T_ok (f := 62) (fn := Tryd.f62) (by kernel_rfl) rfl Tryd.ntmps62 (by rfl) (by rfl) ?_
 ((repeat refine Ws ?_);refine Wr ?_)
 simp (maxSteps := 1000000) only [VL,VM,↓VG,reduceIte,reduceCtorEq,zA,zB,zC,zD,zE,zF,zG,zH,zI,zJ]
 ((repeat refine Ws ?_);refine Wr ?_)
 simp (maxSteps := 1000000) only [VL,VM,↓VG,reduceIte,reduceCtorEq,zA,zB,zC,zD,zE,zF,zG,zH,zI,zJ]
 (repeat refine Ws ?_)
 refine W_block ?_
 refine W_loopS (σ := Unit) (fun _ => [(0, .p (.sl 0 [])), (1, vi 0), (2, cmpF k), (6, vi 20), (7, vi 0), (8, vi 20)]) (fun _ => M) (fun _ => 0) (fun _ => True) () trivial ⟨rfl, rfl, rfl, rfl, rfl, rfl, trivial⟩ rfl ?_
 rintro _ _
 ((repeat refine Ws ?_);refine Wr ?_)
 simp (maxSteps := 1000000) only [VL,VM,↓VG,reduceIte,reduceCtorEq,zA,zB,zC,zD,zE,zF,zG,zH,zI,zJ]
 ((repeat refine Ws ?_);refine Wf (by first|rfl|simp only [EV,zF,reduceIte]) ?_)
 ((repeat refine Ws ?_);refine W_exit ?_)
 simp (maxSteps := 1000000) only [VL,VM,↓VG,reduceIte,reduceCtorEq,zA,zB,zC,zD,zE,zF,zG,zH,zI,zJ]
 ((repeat refine Ws ?_);refine Wr ?_)
 simp (maxSteps := 1000000) only [VL,VM,↓VG,reduceIte,reduceCtorEq,zA,zB,zC,zD,zE,zF,zG,zH,zI,zJ]
 apply call_eq (f := 68) (fn := Tryd.f68) (by kernel_rfl) (by rfl)
 ·exact ins_nil k _
 simp (maxSteps := 1000000) only [VL,VM,↓VG,reduceIte,reduceCtorEq,zA,zB,zC,zD,zE,zF,zG,zH,zI,zJ]
 (repeat refine Ws ?_)
 refine W_block ?_
 refine W_loopS (σ := Unit) (fun _ => [(1, vi 0), (6, vi 20)]) (fun _ => M) (fun _ => 0) (fun _ => True) () trivial ⟨rfl, rfl, trivial⟩ rfl ?_
 rintro _ _
 ((repeat refine Ws ?_);refine Wr ?_)
 simp (maxSteps := 1000000) only [VL,VM,↓VG,reduceIte,reduceCtorEq,zA,zB,zC,zD,zE,zF,zG,zH,zI,zJ]
 ((repeat refine Ws ?_);refine Wf (by first|rfl|simp only [EV,zF,reduceIte]) ?_)
 ((repeat refine Ws ?_);refine W_exit ?_)
 simp (maxSteps := 1000000) only [VL,VM,↓VG,reduceIte,reduceCtorEq,zA,zB,zC,zD,zE,zF,zG,zH,zI,zJ]
 exact ⟨.inl rfl, rfl, ⟨[], by simp, by simp⟩, M.H, [], by simp, rfl, [], rfl, _, rfl, by simp [vtup, frz, frzL, refs, refsL], rfl, rfl⟩
theorem sort_nil (k : Nat) (M : Mem) : VC Tryd.prog 57 [.p (.sl 0 []), cmpF k] M (fun r M' => M' = M ∧ r = .tup []) := by
 refine VC_own' T_ok (f := 57) (fn := Tryd.f57) (by kernel_rfl) rfl Tryd.ntmps57 (by rfl) (by rfl) ?_
 ((repeat refine Ws ?_);refine Wr ?_)
 simp (maxSteps := 1000000) only [VL,VM,↓VG,reduceIte,reduceCtorEq,zA,zB,zC,zD,zE,zF,zG,zH,zI,zJ]
 rw [show ((0 : Nat) : Int) = 0 from rfl]
 apply call_eq (f := 62) (fn := Tryd.f62) (by kernel_rfl) (by rfl)
 ·exact stable_nil k _
 simp (maxSteps := 1000000) only [VL,VM,↓VG,reduceIte,reduceCtorEq,zA,zB,zC,zD,zE,zF,zG,zH,zI,zJ]
 exact ⟨.inl rfl, rfl, ⟨[], by simp, by simp⟩, M.H, [], by simp, rfl, [], rfl, _, rfl, by simp [vtup, frz, frzL, refs, refsL], rfl, rfl⟩
end Go.Proofs.YtkipednlefbfpaaDoor.Vm
