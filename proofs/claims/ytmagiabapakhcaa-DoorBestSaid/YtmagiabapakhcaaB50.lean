/- A part of the proofs about the chapter of the doors; it states no condition of its own. -/
import Derived.Test.YtmagiabapakhcaaB38
import Derived.Test.YtmagiabapakhcaaB48
import Derived.Test.YtmagiabapakhcaaB49
set_option linter.unusedVariables false
set_option linter.unusedSimpArgs false
open Int renaming reduceLE → zA, reduceLT → zB, reduceToNat → zC, reduceNeg → zD
open Nat renaming reduceLT → zE, reduceEqDiff → zF, reduceAdd → zG, reduceSub → zH, reduceMul → zI, reduceLeDiff → zJ
/- No serving is better than that of Feed, plain. -/
namespace Go.Proofs.Ytmagiabapakhcaa
structure Pfx (k : Kn) (l : List Int) : Prop where
 f : Feas k l
 inn : ∀ m g, m < k.meals.length → g < k.gifts.length → 0 < at2 (srvOf k l) m g → inP k m g = true
theorem getD_past {l : List Int} {i : Nat} (h : l.length ≤ i) : l.getD i 0 = 0 := by rw [List.getD_eq_getElem?_getD, List.getElem?_eq_none h]; rfl
theorem goneL_past (l : List Int) (nG g : Nat) : ∀ d, goneL l nG g (l.length + d) = goneL l nG g l.length
 | 0 => rfl
 | d + 1 => by
  rw [← Nat.add_assoc, goneL_succ, goneL_past l nG g d, getD_past (by omega), ite_self, Int.add_zero]
theorem eatL_past (l : List Int) (nG m : Nat) : ∀ d, eatL l nG m (l.length + d) = eatL l nG m l.length
 | 0 => rfl
 | d + 1 => by
  rw [← Nat.add_assoc, eatL_succ, eatL_past l nG m d, getD_past (by omega), ite_self, Int.add_zero]
section
variable {k : Kn} {l : List Int}
theorem gone_len (hl : l.length ≤ k.meals.length * k.gifts.length) {g : Nat} (hg : g < k.gifts.length) : goneL l k.gifts.length g l.length = goneT (srvOf k l) g k.meals.length := by
 rw [← goneL_all l hg, ← goneL_past l k.gifts.length g (k.meals.length * k.gifts.length - l.length)]
 congr 1
 omega
theorem eat_len (hl : l.length ≤ k.meals.length * k.gifts.length) {m : Nat} (hm : m < k.meals.length) : eatL l k.gifts.length m l.length = eatenT (srvOf k l) m k.gifts.length := by
 rw [← eatL_all l hm, ← eatL_past l k.gifts.length m (k.meals.length * k.gifts.length - l.length)]
 congr 1
 omega
theorem Pfx.snoc (V : KV k) (h : Pfx k l) {m g : Nat} (hm : m < k.meals.length) (hg : g < k.gifts.length) (hp : l.length = m * k.gifts.length + g) {n : Int} (h0 : 0 ≤ n) (h1 : n ≤ restV k (srvOf k l) m g) (hi : 0 < n → inP k m g = true) : Pfx k (l ++ [n]) := by
 have hs := srvOf_srv (k := k) h.f.bd
 have h3 : n ≤ 10000 := by
  have a := (giAt_V V hg).p1
  have b := (hs.gone g k.meals.length).1
  unfold restV at h1
  omega
 refine ⟨feas_snoc V h.f hm hg hp h0 h1, fun a b ha hb hpos => ?_⟩
 rw [srvOf_snoc h.f.bd hm hg hp h0 h3, at2_updS hs hm hg] at hpos
 by_cases e : m = a ∧ g = b
 ·rw [if_pos e] at hpos
  rw [← e.1, ← e.2]; exact hi hpos
 ·rw [if_neg e] at hpos
  exact h.inn a b ha hb hpos
theorem Pfx.nil (V : KV k) : Pfx k [] := ⟨feas_nil V, fun m g hm hg h => by rw [srvOf_at _ hm hg] at h; simp at h⟩
theorem Pfx.ext (h : Pfx k l) : Ext k (srv0 k) 0 (at2 (srvOf k l)) := by
 have hs := srvOf_srv (k := k) h.f.bd
 have z1 : ∀ g n, goneT (srv0 k) g n = 0 := fun g n => sumTo_zero' fun m _ => srv0_at k m g
 have z2 : ∀ m n, eatenT (srv0 k) m n = 0 := fun m n => sumTo_zero' fun g _ => srv0_at k m g
 refine ⟨fun m g _ _ => hs.nn m g, fun m g hm hg ho => ?_, fun g hg => ?_, fun m hm => ?_⟩
 ·rcases ho with ho | ho
  ·omega
  ·have := hs.nn m g
   rcases Int.lt_or_eq_of_le this with q | q
   ·have := h.inn m g hm hg q
    rw [ho] at this; cases this
   ·exact q.symm
 ·rw [z1]
  have := h.f.fits.1 g hg
  unfold goneT at this
  omega
 ·rw [z2]
  have := h.f.fits.2 m hm
  unfold eatenT at this
  omega
theorem more_sum (V : KV k) (h : Pfx k l) : l.sum ≤ fedV k (srv0 k) (-1) 0 := by
 have := (fedV_E V (srv0_ok k) (srv0_fits V) room_0).2 _ h.ext
 rw [← srvOf_tot l h.f.len]
 exact this
theorem more_lex (V : KV k) (h : Pfx k l) (hl : l.length = k.meals.length * k.gifts.length) (hs : l.sum = fedV k (srv0 k) (-1) 0) {p : Nat} (hp : p < k.meals.length * k.gifts.length) (he : ∀ j, j < p → l.getD j 0 = (feedL k (k.meals.length * k.gifts.length)).getD j 0) : l.getD p 0 ≤ (feedL k (k.meals.length * k.gifts.length)).getD p 0 := by
 have hG : 0 < k.gifts.length := by
  rcases Nat.eq_zero_or_pos k.gifts.length with e | e
  ·rw [e, Nat.mul_zero] at hp; omega
  ·exact e
 obtain ⟨m, hm0⟩ : ∃ m, m = p / k.gifts.length := ⟨_, rfl⟩
 obtain ⟨g, hg0⟩ : ∃ g, g = p % k.gifts.length := ⟨_, rfl⟩
 have hg : g < k.gifts.length := by rw [hg0]; exact Nat.mod_lt _ hG
 have hm : m < k.meals.length := by rw [hm0]; exact Nat.div_lt_of_lt_mul (by rw [Nat.mul_comm]; exact hp)
 have hpp : m * k.gifts.length + g = p := by rw [hm0, hg0, Nat.mul_comm]; exact Nat.div_add_mod p k.gifts.length
 have hsr := srvOf_srv (k := k) h.f.bd
 have hz := feedP_Z V p (by omega)
 have hfl : (feedL k (k.meals.length * k.gifts.length)).getD p 0 = at2 (feedS k) m g := by
  have := feedL_at (k := k) (p := k.meals.length * k.gifts.length) (m := m) hg
  rw [hpp, if_pos hp] at this
  exact this
 have hlp : l.getD p 0 = at2 (srvOf k l) m g := by rw [srvOf_at _ hm hg, hpp]
 rw [hfl, hlp]
 cases hi : inP k m g with
 | false =>
  have h0 : ¬ 0 < at2 (srvOf k l) m g := fun q => by
   have := h.inn m g hm hg q
   rw [hi] at this; cases this
  have := (feed_Z V).i.ok.srv.nn m g
  have e : at2 (feedS k) m g = at2 (feedTo k k.meals.length).1 m g := rfl
  omega
 | true =>
  -- what is left of it behind the first so many pairs
  have hT : ∀ a b, a < k.meals.length → b < k.gifts.length → at2 (srvOf k l) a b = at2 (feedP k p).1 a b + if a * k.gifts.length + b < p then 0 else at2 (srvOf k l) a b := fun a b ha hb => by
   rw [feedS_at V (by omega) ha hb]
   split
   ·rename_i h1
    have e1 := he _ h1
    rw [feedL_at hb, if_pos (by omega)] at e1
    rw [srvOf_at _ ha hb, e1]; omega
   ·omega
  have hE : Ext k (feedP k p).1 (m * k.gifts.length + g) (fun a b => if a * k.gifts.length + b < p then 0 else at2 (srvOf k l) a b) := by
   refine ⟨fun a b ha hb => ?_, fun a b ha hb ho => ?_, fun b hb => ?_, fun a ha => ?_⟩
   ·have := hsr.nn a b
    show 0 ≤ if a * k.gifts.length + b < p then 0 else at2 (srvOf k l) a b
    split <;> omega
   ·show (if a * k.gifts.length + b < p then 0 else at2 (srvOf k l) a b) = 0
    split
    ·rfl
    ·rename_i h1
     rcases ho with ho | ho
     ·omega
     ·exact h.ext.out a b ha hb (.inr ho)
   ·have h1 := h.f.fits.1 b hb
    unfold goneT at h1 ⊢
    rw [sumTo_congr fun a ha => hT a b ha hb, sumTo_add] at h1
    omega
   ·have h1 := h.f.fits.2 a ha
    unfold eatenT at h1 ⊢
    rw [sumTo_congr fun b hb => hT a b ha hb, sumTo_add k.gifts.length (fun b => at2 (feedP k p).1 a b)] at h1
    omega
  have htot : totK k (fun a b => if a * k.gifts.length + b < p then 0 else at2 (srvOf k l) a b) = (feedP k p).2 := by
   have h1 := srvOf_tot (k := k) l (by omega)
   have h2 := hz.tot
   have h3 : totK k (at2 (srvOf k l)) = totK k (at2 (feedP k p).1) + totK k (fun a b => if a * k.gifts.length + b < p then 0 else at2 (srvOf k l) a b) := by
    unfold totK totT
    rw [← sumTo_add]
    refine sumTo_congr fun a ha => ?_
    rw [← sumTo_add]
    exact sumTo_congr fun b hb => hT a b ha hb
   omega
  have hz' := hz.i.z m g hm hg (by omega)
  have hme := hz.i.e
  rw [← hpp] at hme
  have hq := (pairV_spec V (by rw [hpp]; exact hz.i.ok.srv) (by rw [hpp]; exact hz.i.ok.fits) hm hg (by rw [hpp]; exact hz') hi hme).2.1 (at2 (srvOf k l) m g) ⟨_, by rw [hpp]; exact (hpp ▸ hE), by rw [hpp]; exact htot, by
   show at2 (srvOf k l) m g ≤ if m * k.gifts.length + g < p then 0 else at2 (srvOf k l) m g
   rw [if_neg (by omega)]; exact Int.le_refl _⟩
  rw [hpp] at hq
  have hst : at2 (feedS k) m g = pairV k (feedP k p).1 m g (feedP k p).2 := by
   have e1 := feedS_at V (p := p + 1) (by omega) hm hg
   rw [if_pos (by omega)] at e1
   rw [← e1, feedP, ← hm0, ← hg0]
   unfold feedStep
   rw [if_pos (show inR (m : Int) (giAt k g).from_ (giAt k g).keeps = true from hi)]
   simp only
   rw [at2_updS hz.i.ok.srv hm hg, if_pos ⟨rfl, rfl⟩]
  rw [hst]
  exact hq
theorem feed_flat (V : KV k) : ∀ n, n ≤ k.meals.length → ((feedS k).take n).flatten = feedL k (n * k.gifts.length)
 | 0, _ => by rw [Nat.zero_mul]; rfl
 | n + 1, hn => by
  have H := (feed_Z V).i.ok.srv
  have hlen : n < (feedS k).length := by
   have := H.len
   show n < (feedTo k k.meals.length).1.length
   omega
  have hr : ((feedS k)[n]'hlen).length = k.gifts.length := H.row _ (List.getElem_mem hlen)
  rw [List.take_add_one, List.getElem?_eq_getElem hlen, Option.toList_some, List.flatten_append, feed_flat V n (by omega), List.flatten_cons, List.flatten_nil, List.append_nil]
  have key : ∀ g, g ≤ k.gifts.length → feedL k (n * k.gifts.length + g) = feedL k (n * k.gifts.length) ++ ((feedS k)[n]'hlen).take g := by
   intro g
   induction g with
   | zero => intro _; simp
   | succ g ih =>
    intro hg
    obtain ⟨e1, e2⟩ := pair_div (m := n) (show g < k.gifts.length by omega)
    have e3 : ((feedS k)[n]'hlen)[g]? = some (at2 (feedS k) n g) := by
     unfold at2
     rw [List.getD_eq_getElem?_getD (l := feedS k), List.getElem?_eq_getElem hlen, Option.getD_some, List.getD_eq_getElem?_getD, List.getElem?_eq_getElem (by omega)]; rfl
    rw [← Nat.add_assoc, feedL_succ, ih (by omega), e1, e2, List.take_add_one, e3, List.append_assoc]; rfl
  have := key k.gifts.length (Nat.le_refl _)
  rw [List.take_of_length_le (by omega)] at this
  rw [Nat.add_mul, Nat.one_mul, this]
end
end Go.Proofs.Ytmagiabapakhcaa

/- The law that no serving is better, on values. (Vm) -/
namespace Go.Proofs.Ytmagiabapakhcaa.Vm
open Go Go.Proofs
noncomputable def T4 : Tab := tabOf Try.prog cmpB (varsOf Try.prog) (fun f => keepsB f || Nat.beq f 31)
theorem T4_ok : TabOk Try.prog T4 := tabOf_ok cmpB_ok (by kernel_rfl)
theorem call_d4 {f : Nat} {fn : Func} {args : List VV} {M M1 : Mem} {v : VV} (hf : T4.fn f = some fn) (hk : T4.keeps f = true) (h : VC Try.prog f args M (fun r M' => M' = M1 ∧ r = v)) {R : VV → Mem → Prop} (hq : R v M1) : DCallK Try.prog (.fn (.func f) [] []) args M R :=
 ⟨v, M1, (VCall_fn T4_ok hf (by
  have : (sarg T4 f) = id := funext fun v => by simp [sarg, hk]
  simpa [this] using h)).mono fun r M' e => by obtain ⟨rfl, rfl⟩ := e; exact ⟨rfl, rfl⟩, hq⟩
theorem copyInts_k (xs : List Int) (M : Mem) (hl : xs.length ≤ 1000000) : VC Try.prog 31 [intsV xs] M (fun r M' => M' = ⟨M.H ++ [.clm xs.length 1], M.lg⟩ ∧ r = .so M.H.length 1 (xs.map intP)) := by
 have q1 : (xs.length * 8 ≤ 140737488355328) = True := eq_true (by omega)
 refine VC_keep T4_ok (f := 31) (fn := Try.f31) (by kernel_rfl) rfl Try.ntmps31 (by rfl) (by rfl) ?_
 ((repeat refine Ws ?_);refine Wr ?_)
 simp (maxSteps := 1000000) only [VL,VM,↓VG,reduceIte,reduceCtorEq,zA,zB,zC,zD,zE,zF,zG,zH,zI,zJ]
 ((repeat refine Ws ?_);refine Wr ?_)
 simp (maxSteps := 1000000) only [VL,VM,↓VG,reduceIte,reduceCtorEq,zA,zB,zC,zD,zE,zF,zG,zH,zI,zJ, q1]
 (repeat refine Ws ?_)
 refine W_ret ?_
 exact ⟨.inr rfl, rfl, [.so M.H.length 1 (xs.map intP)], rfl, rfl, rfl⟩
theorem total_v (l : List Int) (M : Mem) (hl : l.length ≤ 1000000) (hb : ∀ x ∈ l, 0 ≤ x ∧ x ≤ 2000000000) : VC Try.prog 53 [intsV l] M (fun r M' => M' = M ∧ r = vi l.sum) := by
 refine VC_own' T_ok (f := 53) (fn := Try.f53) (by kernel_rfl) rfl Try.ntmps53 (by rfl) (by rfl) ?_
 ((repeat refine Ws ?_);refine Wr ?_)
 simp (maxSteps := 1000000) only [VL,VM,↓VG,reduceIte,reduceCtorEq,zA,zB,zC,zD,zE,zF,zG,zH,zI,zJ]
 ((repeat refine Ws ?_);refine Wr ?_)
 simp (maxSteps := 1000000) only [VL,VM,↓VG,reduceIte,reduceCtorEq,zA,zB,zC,zD,zE,zF,zG,zH,zI,zJ]
 ((repeat refine Ws ?_);refine Wr ?_)
 simp (maxSteps := 1000000) only [VL,VM,↓VG,reduceIte,reduceCtorEq,zA,zB,zC,zD,zE,zF,zG,zH,zI,zJ]
 ((repeat refine Ws ?_);refine W_block ?_; (repeat refine Ws ?_)); refine W_loopS (fun i : Nat => [(0, intsV l), (3, vi (l.take i).sum), (4, vi i)]) (fun _ => M) (fun i => l.length - i) (fun i => i ≤ l.length ∧ 0 ≤ (l.take i).sum ∧ (l.take i).sum ≤ 2000000000 * i) 0 ⟨Nat.zero_le _, by simp, by simp⟩ ⟨rfl, rfl, rfl, trivial⟩ rfl ?_
 rintro i ⟨hi, hs0, hs1⟩
 have k1 : -9223372036854775808 ≤ (i : Int) + 1 ∧ (i : Int) + 1 < 9223372036854775808 := by omega
 ((repeat refine Ws ?_);refine Wr ?_)
 rcases Nat.lt_or_ge i l.length with hlt | hge
 ·have k2 : ((i : Int) < (l.length : Int)) = True := eq_true (by omega)
  have hx : l[i]? = some l[i] := List.getElem?_eq_getElem hlt
  have hm := hb _ (List.getElem_mem hlt)
  generalize l[i] = d at hx hm
  have hx' := map_at (f := intP) hx
  have hsum : (l.take (i + 1)).sum = (l.take i).sum + d := by rw [List.take_add_one, hx]; simp
  have k3 : -9223372036854775808 ≤ (l.take i).sum + d ∧ (l.take i).sum + d < 9223372036854775808 := by omega
  simp (maxSteps := 1000000) only [VL,VM,↓VG,reduceIte,reduceCtorEq,zA,zB,zC,zD,zE,zF,zG,zH,zI,zJ, k2]
  ((repeat refine Ws ?_);refine Wt (by first|rfl|simp only [EV,zF,reduceIte]) ?_)
  ((repeat refine Ws ?_);refine W_skip ?_)
  simp (maxSteps := 1000000) only [VL,VM,↓VG,reduceIte,reduceCtorEq,zA,zB,zC,zD,zE,zF,zG,zH,zI,zJ]
  ((repeat refine Ws ?_);refine W_block ?_)
  ((repeat refine Ws ?_);refine Wr ?_)
  simp (maxSteps := 1000000) only [VL,VM,↓VG,reduceIte,reduceCtorEq,zA,zB,zC,zD,zE,zF,zG,zH,zI,zJ, hx', k3]
  ((repeat refine Ws ?_);refine Wr ?_)
  simp (maxSteps := 1000000) only [VL,VM,↓VG,reduceIte,reduceCtorEq,zA,zB,zC,zD,zE,zF,zG,zH,zI,zJ, k1]
  refine LoopK.mk (i + 1) (by omega) ⟨by omega, by omega, by omega⟩ ⟨rfl, ?_, rfl, trivial⟩ rfl
  rw [hsum]; rfl
 have k2 : ((i : Int) < (l.length : Int)) = False := eq_false (by omega)
 obtain rfl : i = l.length := by omega
 simp (maxSteps := 1000000) only [VL,VM,↓VG,reduceIte,reduceCtorEq,zA,zB,zC,zD,zE,zF,zG,zH,zI,zJ, k2, List.take_length]
 ((repeat refine Ws ?_);refine Wf (by first|rfl|simp only [EV,zF,reduceIte]) ?_)
 ((repeat refine Ws ?_);refine W_exit ?_)
 simp (maxSteps := 1000000) only [VL,VM,↓VG,reduceIte,reduceCtorEq,zA,zB,zC,zD,zE,zF,zG,zH,zI,zJ]
 ((repeat refine Ws ?_);refine Wr ?_)
 simp (maxSteps := 1000000) only [VL,VM,↓VG,reduceIte,reduceCtorEq,zA,zB,zC,zD,zE,zF,zG,zH,zI,zJ]
 (repeat refine Ws ?_)
 refine W_ret ?_
 try simp only [thenQ, blockQ]
 refine own_ret10 rfl ?_ (by rfl)
 simp only [get_cons, frz, vtup, Nat.reduceEqDiff, if_true, if_false, reduceIte]
structure MoSt where
 n : Nat
 junk : List VObj
set_option maxHeartbeats 4000000 in
set_option maxRecDepth 8000 in
theorem more_v (k : Kn) (V : KV k) (hG : 0 < k.gifts.length) : ∀ (d : Nat) (l : List Int), l.length + d = k.meals.length * k.gifts.length → Pfx k l → ∀ M : Mem, VC Try.prog 56 [kitV k, intsV l, intsV (feedL k (k.meals.length * k.gifts.length)), vi (fedV k (srv0 k) (-1) 0)] M (fun r M' => M' = M ∧ r = vb false) := by
 intro d
 induction d with
 | zero =>
  intro l hd hp M
  have vm1 := V.m1
  have vg1 := V.g1
  have hP25 : k.meals.length * k.gifts.length ≤ 25 := Nat.mul_le_mul vm1 vg1
  have hfl := feedL_len (k := k) (k.meals.length * k.gifts.length)
  have hsum := more_sum V hp
  have hlex := fun (hs : l.sum = fedV k (srv0 k) (-1) 0) (p : Nat) (h1 : p < k.meals.length * k.gifts.length) h2 => more_lex V hp (by omega) hs h1 h2
  generalize feedL k (k.meals.length * k.gifts.length) = best at hfl hlex ⊢
  generalize fedV k (srv0 k) (-1) 0 = fv at hsum hlex ⊢
  have e0 : ((l.length : Int) = (best.length : Int)) = True := eq_true (by omega)
  have hbd := hp.f.bd
  refine VC_own' T_ok (f := 56) (fn := Try.f56) (by kernel_rfl) rfl Try.ntmps56 (by rfl) (by rfl) ?_
  ((repeat refine Ws ?_);refine Wr ?_)
  simp (maxSteps := 1000000) only [VL,VM,↓VG,reduceIte,reduceCtorEq,zA,zB,zC,zD,zE,zF,zG,zH,zI,zJ]
  ((repeat refine Ws ?_);refine Wr ?_)
  simp (maxSteps := 1000000) only [VL,VM,↓VG,reduceIte,reduceCtorEq,zA,zB,zC,zD,zE,zF,zG,zH,zI,zJ]
  ((repeat refine Ws ?_);refine Wr ?_)
  simp (maxSteps := 1000000) only [VL,VM,↓VG,reduceIte,reduceCtorEq,zA,zB,zC,zD,zE,zF,zG,zH,zI,zJ, e0]
  ((repeat refine Ws ?_);refine Wt (by first|rfl|simp only [EV,zF,reduceIte]) ?_)
  ((repeat refine Ws ?_);refine Wr ?_)
  simp (maxSteps := 1000000) only [VL,VM,↓VG,reduceIte,reduceCtorEq,zA,zB,zC,zD,zE,zF,zG,zH,zI,zJ]
  apply call_eq (f := 53) (fn := Try.f53) (by kernel_rfl) (by rfl)
  ·exact total_v l _ (by omega) (fun x hx => by have := hbd x hx; omega)
  simp (maxSteps := 1000000) only [VL,VM,↓VG,reduceIte,reduceCtorEq,zA,zB,zC,zD,zE,zF,zG,zH,zI,zJ]
  ((repeat refine Ws ?_);refine Wr ?_)
  by_cases hs : l.sum = fv
  rotate_left
  ·have e1 : (l.sum = fv) = False := eq_false hs
   have e2 : (fv < l.sum) = False := eq_false (by omega)
   simp (maxSteps := 1000000) only [VL,VM,↓VG,reduceIte,reduceCtorEq,zA,zB,zC,zD,zE,zF,zG,zH,zI,zJ, e1]
   ((repeat refine Ws ?_);refine Wt (by first|rfl|simp only [EV,zF,reduceIte]) ?_)
   ((repeat refine Ws ?_);refine Wr ?_)
   simp (maxSteps := 1000000) only [VL,VM,↓VG,reduceIte,reduceCtorEq,zA,zB,zC,zD,zE,zF,zG,zH,zI,zJ, e2]
   (repeat refine Ws ?_)
   refine W_ret ?_
   try simp only [thenQ, blockQ]
   refine own_ret1 rfl ?_ (by rfl)
   simp only [get_cons, frz, vtup, Nat.reduceEqDiff, if_true, if_false, reduceIte]
  have e1 : (l.sum = fv) = True := eq_true hs
  simp (maxSteps := 1000000) only [VL,VM,↓VG,reduceIte,reduceCtorEq,zA,zB,zC,zD,zE,zF,zG,zH,zI,zJ, e1]
  ((repeat refine Ws ?_);refine Wf (by first|rfl|simp only [EV,zF,reduceIte]) ?_)
  ((repeat refine Ws ?_);refine W_skip ?_)
  simp (maxSteps := 1000000) only [VL,VM,↓VG,reduceIte,reduceCtorEq,zA,zB,zC,zD,zE,zF,zG,zH,zI,zJ]
  ((repeat refine Ws ?_);refine Wr ?_)
  simp (maxSteps := 1000000) only [VL,VM,↓VG,reduceIte,reduceCtorEq,zA,zB,zC,zD,zE,zF,zG,zH,zI,zJ]
  ((repeat refine Ws ?_);refine W_block ?_; (repeat refine Ws ?_)); refine W_loopS (fun i : Nat => [(1, intsV l), (2, intsV best), (11, vi i)]) (fun _ => ⟨M.H ++ [.obj (kitC k)], M.lg⟩) (fun i => l.length - i) (fun i => i ≤ l.length ∧ ∀ j, j < i → l.getD j 0 = best.getD j 0) 0 ⟨Nat.zero_le _, fun j hj => absurd hj (Nat.not_lt_zero _)⟩ ⟨rfl, rfl, rfl, trivial⟩ rfl ?_
  rintro i ⟨hi, heq⟩
  have k1 : -9223372036854775808 ≤ (i : Int) + 1 ∧ (i : Int) + 1 < 9223372036854775808 := by omega
  ((repeat refine Ws ?_);refine Wr ?_)
  rcases Nat.lt_or_ge i l.length with hlt | hge
  ·have k2 : ((i : Int) < (l.length : Int)) = True := eq_true (by omega)
   have hx : l[i]? = some (l.getD i 0) := by rw [List.getD_eq_getElem?_getD, List.getElem?_eq_getElem hlt]; rfl
   have hy : best[i]? = some (best.getD i 0) := by rw [List.getD_eq_getElem?_getD, List.getElem?_eq_getElem (by omega)]; rfl
   have hle := hlex hs i (by omega) heq
   have hx' := map_at (f := intP) hx
   have hy' := map_at (f := intP) hy
   have hsucc : l.getD i 0 = best.getD i 0 → ∀ j, j < i + 1 → l.getD j 0 = best.getD j 0 := fun e j hj => by
    rcases Nat.lt_succ_iff_lt_or_eq.1 hj with q | q
    ·exact heq j q
    ·rw [q]; exact e
   generalize l.getD i 0 = x at hx' hle hsucc
   generalize best.getD i 0 = y at hy' hle hsucc
   have k3 : (y < x) = False := eq_false (by omega)
   simp (maxSteps := 1000000) only [VL,VM,↓VG,reduceIte,reduceCtorEq,zA,zB,zC,zD,zE,zF,zG,zH,zI,zJ, k2]
   ((repeat refine Ws ?_);refine Wt (by first|rfl|simp only [EV,zF,reduceIte]) ?_)
   ((repeat refine Ws ?_);refine W_skip ?_)
   simp (maxSteps := 1000000) only [VL,VM,↓VG,reduceIte,reduceCtorEq,zA,zB,zC,zD,zE,zF,zG,zH,zI,zJ]
   ((repeat refine Ws ?_);refine W_block ?_)
   by_cases hxy : x = y
   ·have k4 : (x = y) = True := eq_true hxy
    (repeat refine Ws ?_)
    refine W_drawP T_ok [] (by kernel_rfl) (by kernel_rfl) ?_
    generalize hi : mkPlan _ = infs
    cbv at hi
    subst hi
    simp (maxSteps := 1000000) only [VL,VM,↓VG,reduceIte,reduceCtorEq,zA,zB,zC,zD,zE,zF,zG,zH,zI,zJ, hx', hy', k4]
    ((repeat refine Ws ?_);refine Wf (by first|rfl|simp only [EV,zF,reduceIte]) ?_)
    ((repeat refine Ws ?_);refine W_skip ?_)
    simp (maxSteps := 1000000) only [VL,VM,↓VG,reduceIte,reduceCtorEq,zA,zB,zC,zD,zE,zF,zG,zH,zI,zJ]
    ((repeat refine Ws ?_);refine Wr ?_)
    simp (maxSteps := 1000000) only [VL,VM,↓VG,reduceIte,reduceCtorEq,zA,zB,zC,zD,zE,zF,zG,zH,zI,zJ, k1]
    exact LoopK.mk (i + 1) (by omega) ⟨by omega, hsucc hxy⟩ ⟨rfl, rfl, rfl, trivial⟩ rfl
   ·have k4 : (x = y) = False := eq_false hxy
    (repeat refine Ws ?_)
    refine W_drawP T_ok [] (by kernel_rfl) (by kernel_rfl) ?_
    generalize hi : mkPlan _ = infs
    cbv at hi
    subst hi
    simp (maxSteps := 1000000) only [VL,VM,↓VG,reduceIte,reduceCtorEq,zA,zB,zC,zD,zE,zF,zG,zH,zI,zJ, hx', hy', k4]
    ((repeat refine Ws ?_);refine Wt (by first|rfl|simp only [EV,zF,reduceIte]) ?_)
    (repeat refine Ws ?_)
    refine W_drawP T_ok [] (by kernel_rfl) (by kernel_rfl) ?_
    generalize hi : mkPlan _ = infs
    cbv at hi
    subst hi
    simp (maxSteps := 1000000) only [VL,VM,↓VG,reduceIte,reduceCtorEq,zA,zB,zC,zD,zE,zF,zG,zH,zI,zJ, hx', hy', k3]
    (repeat refine Ws ?_)
    refine W_ret ?_
    try simp only [thenQ, blockQ]
    refine own_ret1 rfl ?_ (by rfl)
    simp only [get_cons, frz, vtup, Nat.reduceEqDiff, if_true, if_false, reduceIte]
  have k2 : ((i : Int) < (l.length : Int)) = False := eq_false (by omega)
  simp (maxSteps := 1000000) only [VL,VM,↓VG,reduceIte,reduceCtorEq,zA,zB,zC,zD,zE,zF,zG,zH,zI,zJ, k2]
  ((repeat refine Ws ?_);refine Wf (by first|rfl|simp only [EV,zF,reduceIte]) ?_)
  ((repeat refine Ws ?_);refine W_exit ?_)
  simp (maxSteps := 1000000) only [VL,VM,↓VG,reduceIte,reduceCtorEq,zA,zB,zC,zD,zE,zF,zG,zH,zI,zJ]
  ((repeat refine Ws ?_);refine Wr ?_)
  simp (maxSteps := 1000000) only [VL,VM,↓VG,reduceIte,reduceCtorEq,zA,zB,zC,zD,zE,zF,zG,zH,zI,zJ]
  (repeat refine Ws ?_)
  refine W_ret ?_
  try simp only [thenQ, blockQ]
  refine own_ret1 rfl ?_ (by rfl)
  simp only [get_cons, frz, vtup, Nat.reduceEqDiff, if_true, if_false, reduceIte]
 | succ d ih =>
  intro l hd hp M
  have vm1 := V.m1
  have vg1 := V.g1
  have hP25 : k.meals.length * k.gifts.length ≤ 25 := Nat.mul_le_mul vm1 vg1
  have hfl := feedL_len (k := k) (k.meals.length * k.gifts.length)
  have hbd := hp.f.bd
  obtain ⟨nG, hnG⟩ : ∃ nG, nG = k.gifts.length := ⟨_, rfl⟩
  obtain ⟨p, hpl⟩ : ∃ p, p = l.length := ⟨_, rfl⟩
  obtain ⟨m, hm⟩ : ∃ m, m = p / nG := ⟨_, rfl⟩
  obtain ⟨g, hg⟩ : ∃ g, g = p % nG := ⟨_, rfl⟩
  have hgl : g < nG := by rw [hg]; exact Nat.mod_lt _ (by omega)
  have hml : m < k.meals.length := by rw [hm, hnG]; exact Nat.div_lt_of_lt_mul (by rw [Nat.mul_comm]; omega)
  have hpp : p = m * nG + g := by rw [hm, hg, Nat.mul_comm]; exact (Nat.div_add_mod p nG).symm
  have hmI : (p : Int) / (nG : Int) = (m : Int) := by rw [hm]; push_cast; rfl
  have hgI : (p : Int) % (nG : Int) = (g : Int) := by rw [hg]; push_cast; rfl
  have hrest : restV k (srvOf k l) m g = min ((giAt k g).portions - goneL l nG g p) (mealAt k m - eatL l nG m p) := by
   unfold restV
   rw [hnG, hpl, gone_len hp.f.len (by omega), eat_len hp.f.len hml]
  have hnext : ∀ n : Nat, (n : Int) ≤ restV k (srvOf k l) m g → (0 < n → inP k m g = true) → ∀ M : Mem, VC Try.prog 56 [kitV k, intsV (l ++ [(n : Int)]), intsV (feedL k (k.meals.length * k.gifts.length)), vi (fedV k (srv0 k) (-1) 0)] M (fun r M' => M' = M ∧ r = vb false) := fun n hn hi M =>
   ih (l ++ [(n : Int)]) (by simp only [List.length_append, List.length_cons, List.length_nil]; omega) (hp.snoc V hml (by omega) (by rw [← hpl, ← hnG]; exact hpp) (by omega) hn (fun q => hi (by omega))) M
  clear ih
  generalize feedL k (k.meals.length * k.gifts.length) = best at hfl hnext ⊢
  generalize fedV k (srv0 k) (-1) 0 = fv at hnext ⊢
  have e0 : ((p : Int) = (best.length : Int)) = False := eq_false (by omega)
  have d0 : (0 ≤ (p : Int) ∧ (p : Int) < 9223372036854775808) := by omega
  have d1 : (1 ≤ (nG : Int)) = True := eq_true (by omega)
  have d2 : (0 : Int) < (nG : Int) := by omega
  have hrem := i_rem 3 (p : Int) (nG : Int) (by omega) d2
  rw [hgI] at hrem
  have hxg' := giAt_get (k := k) (g := g) (by omega)
  have hxm' := mealAt_get (k := k) (m := m) hml
  have cA := giAt_V V (g := g) (by omega)
  have cA0 := cA.p0
  have cA1 := cA.p1
  have cB := mealAt_V V (m := m) hml
  refine VC_own' T_ok (f := 56) (fn := Try.f56) (by kernel_rfl) rfl Try.ntmps56 (by rfl) (by rfl) ?_
  ((repeat refine Ws ?_);refine Wr ?_)
  simp (maxSteps := 1000000) only [VL,VM,↓VG,reduceIte,reduceCtorEq,zA,zB,zC,zD,zE,zF,zG,zH,zI,zJ]
  ((repeat refine Ws ?_);refine Wr ?_)
  simp (maxSteps := 1000000) only [VL,VM,↓VG,reduceIte,reduceCtorEq,zA,zB,zC,zD,zE,zF,zG,zH,zI,zJ, ← hpl]
  ((repeat refine Ws ?_);refine Wr ?_)
  simp (maxSteps := 1000000) only [VL,VM,↓VG,reduceIte,reduceCtorEq,zA,zB,zC,zD,zE,zF,zG,zH,zI,zJ, e0]
  ((repeat refine Ws ?_);refine Wf (by first|rfl|simp only [EV,zF,reduceIte]) ?_)
  ((repeat refine Ws ?_);refine W_skip ?_)
  simp (maxSteps := 1000000) only [VL,VM,↓VG,reduceIte,reduceCtorEq,zA,zB,zC,zD,zE,zF,zG,zH,zI,zJ]
  (repeat refine Ws ?_)
  refine W_drawP T_ok [] (by kernel_rfl) (by kernel_rfl) ?_
  generalize hi : mkPlan _ = infs
  cbv at hi
  subst hi
  simp (maxSteps := 1000000) only [VL,VM,↓VG,reduceIte,reduceCtorEq,zA,zB,zC,zD,zE,zF,zG,zH,zI,zJ, ← hnG, d0, d1, hrem, hmI]
  (repeat refine Ws ?_)
  refine W_drawP T_ok [] (by kernel_rfl) (by kernel_rfl) ?_
  generalize hi : mkPlan _ = infs
  cbv at hi
  subst hi
  simp (maxSteps := 1000000) only [VL,VM,↓VG,reduceIte,reduceCtorEq,zA,zB,zC,zD,zE,zF,zG,zH,zI,zJ, hxg', hxm']
  ((repeat refine Ws ?_);refine Wr ?_)
  simp (maxSteps := 1000000) only [VL,VM,↓VG,reduceIte,reduceCtorEq,zA,zB,zC,zD,zE,zF,zG,zH,zI,zJ]
  ((repeat refine Ws ?_);refine W_block ?_; (repeat refine Ws ?_)); refine W_loopS (fun i : Nat => [(1, intsV l), (2, intsV best), (3, vi fv), (4, .ptr M.H.length 0), (9, vi p), (12, vi m), (13, vi g), (14, vi ((giAt k g).portions - goneL l nG g i)), (15, vi (mealAt k m - eatL l nG m i)), (16, vi i)]) (fun _ => ⟨M.H ++ [.obj (kitC k)], M.lg⟩) (fun i => p - i) (fun i => i ≤ p) 0 (Nat.zero_le _) ⟨rfl, rfl, rfl, rfl, rfl, rfl, rfl, ?_, ?_, rfl, trivial⟩ rfl ?_
  ·simp [get_cons, goneL, sumTo_zero]
  ·simp [get_cons, eatL, sumTo_zero]
  ·intro i hi
   have k1 : -9223372036854775808 ≤ (i : Int) + 1 ∧ (i : Int) + 1 < 9223372036854775808 := by omega
   have bA := goneL_bd hbd nG g i
   have bB := eatL_bd hbd nG m i
   have sA := goneL_succ l nG g i
   have sB := eatL_succ l nG m i
   ((repeat refine Ws ?_);refine Wr ?_)
   rcases Nat.lt_or_ge i p with hlt | hge
   ·have k2 : ((i : Int) < (p : Int)) = True := eq_true (by omega)
    have hx : l[i]? = some (l.getD i 0) := by rw [List.getD_eq_getElem?_getD, List.getElem?_eq_getElem (by omega)]; rfl
    have hxb := hbd _ (List.mem_of_getElem? hx)
    have hx' := map_at (f := intP) hx
    have rI : (i : Int) % (nG : Int) = ((i % nG : Nat) : Int) := by push_cast; rfl
    have qI : (i : Int) / (nG : Int) = ((i / nG : Nat) : Int) := by push_cast; rfl
    have hr1 := i_rem 3 (i : Int) (nG : Int) (by omega) d2
    rw [rI] at hr1
    have d3 : (0 ≤ (i : Int) ∧ (i : Int) < 9223372036854775808) := by omega
    have kA : -9223372036854775808 ≤ (giAt k g).portions - goneL l nG g i - l.getD i 0 ∧ (giAt k g).portions - goneL l nG g i - l.getD i 0 < 9223372036854775808 := by omega
    have kB : -9223372036854775808 ≤ mealAt k m - eatL l nG m i - l.getD i 0 ∧ mealAt k m - eatL l nG m i - l.getD i 0 < 9223372036854775808 := by omega
    generalize goneL l nG g i = ga at sA kA ⊢
    generalize eatL l nG m i = ea at sB kB ⊢
    generalize l.getD i 0 = x at sA sB hx' kA kB
    simp (maxSteps := 1000000) only [VL,VM,↓VG,reduceIte,reduceCtorEq,zA,zB,zC,zD,zE,zF,zG,zH,zI,zJ, k2]
    ((repeat refine Ws ?_);refine Wt (by first|rfl|simp only [EV,zF,reduceIte]) ?_)
    ((repeat refine Ws ?_);refine W_skip ?_)
    simp (maxSteps := 1000000) only [VL,VM,↓VG,reduceIte,reduceCtorEq,zA,zB,zC,zD,zE,zF,zG,zH,zI,zJ]
    ((repeat refine Ws ?_);refine W_block ?_)
    ((repeat refine Ws ?_);refine Wr ?_)
    by_cases c1 : i % nG = g
    ·have e1 : (((i % nG : Nat) : Int) = (g : Int)) = True := eq_true (by omega)
     simp (maxSteps := 1000000) only [VL,VM,↓VG,reduceIte,reduceCtorEq,zA,zB,zC,zD,zE,zF,zG,zH,zI,zJ, ← hnG, hr1, e1]
     ((repeat refine Ws ?_);refine Wt (by first|rfl|simp only [EV,zF,reduceIte]) ?_)
     ((repeat refine Ws ?_);refine Wr ?_)
     simp (maxSteps := 1000000) only [VL,VM,↓VG,reduceIte,reduceCtorEq,zA,zB,zC,zD,zE,zF,zG,zH,zI,zJ, hx', kA]
     rw [if_pos c1] at sA
     ((repeat refine Ws ?_);refine Wr ?_)
     by_cases c2 : i / nG = m
     ·have e2 : (((i / nG : Nat) : Int) = (m : Int)) = True := eq_true (by omega)
      simp (maxSteps := 1000000) only [VL,VM,↓VG,reduceIte,reduceCtorEq,zA,zB,zC,zD,zE,zF,zG,zH,zI,zJ, ← hnG, qI, d3, d1, e2]
      ((repeat refine Ws ?_);refine Wt (by first|rfl|simp only [EV,zF,reduceIte]) ?_)
      ((repeat refine Ws ?_);refine Wr ?_)
      simp (maxSteps := 1000000) only [VL,VM,↓VG,reduceIte,reduceCtorEq,zA,zB,zC,zD,zE,zF,zG,zH,zI,zJ, hx', kB]
      rw [if_pos c2] at sB
      ((repeat refine Ws ?_);refine Wr ?_)
      simp (maxSteps := 1000000) only [VL,VM,↓VG,reduceIte,reduceCtorEq,zA,zB,zC,zD,zE,zF,zG,zH,zI,zJ, k1]
      refine LoopK.mk (i + 1) (by omega) (by omega) ⟨rfl, rfl, rfl, rfl, rfl, rfl, rfl, ?_, ?_, rfl, trivial⟩ rfl
      ·rw [sA, ← Int.sub_sub]; rfl
      ·rw [sB, ← Int.sub_sub]; rfl
     have e2 : (((i / nG : Nat) : Int) = (m : Int)) = False := eq_false (by omega)
     simp (maxSteps := 1000000) only [VL,VM,↓VG,reduceIte,reduceCtorEq,zA,zB,zC,zD,zE,zF,zG,zH,zI,zJ, ← hnG, qI, d3, d1, e2]
     ((repeat refine Ws ?_);refine Wf (by first|rfl|simp only [EV,zF,reduceIte]) ?_)
     ((repeat refine Ws ?_);refine W_skip ?_)
     simp (maxSteps := 1000000) only [VL,VM,↓VG,reduceIte,reduceCtorEq,zA,zB,zC,zD,zE,zF,zG,zH,zI,zJ]
     rw [if_neg c2] at sB
     ((repeat refine Ws ?_);refine Wr ?_)
     simp (maxSteps := 1000000) only [VL,VM,↓VG,reduceIte,reduceCtorEq,zA,zB,zC,zD,zE,zF,zG,zH,zI,zJ, k1]
     refine LoopK.mk (i + 1) (by omega) (by omega) ⟨rfl, rfl, rfl, rfl, rfl, rfl, rfl, ?_, ?_, rfl, trivial⟩ rfl
     ·rw [sA, ← Int.sub_sub]; rfl
     ·rw [sB, Int.add_zero]; rfl
    have e1 : (((i % nG : Nat) : Int) = (g : Int)) = False := eq_false (by omega)
    simp (maxSteps := 1000000) only [VL,VM,↓VG,reduceIte,reduceCtorEq,zA,zB,zC,zD,zE,zF,zG,zH,zI,zJ, ← hnG, hr1, e1]
    ((repeat refine Ws ?_);refine Wf (by first|rfl|simp only [EV,zF,reduceIte]) ?_)
    ((repeat refine Ws ?_);refine W_skip ?_)
    simp (maxSteps := 1000000) only [VL,VM,↓VG,reduceIte,reduceCtorEq,zA,zB,zC,zD,zE,zF,zG,zH,zI,zJ]
    rw [if_neg c1] at sA
    ((repeat refine Ws ?_);refine Wr ?_)
    by_cases c2 : i / nG = m
    ·have e2 : (((i / nG : Nat) : Int) = (m : Int)) = True := eq_true (by omega)
     simp (maxSteps := 1000000) only [VL,VM,↓VG,reduceIte,reduceCtorEq,zA,zB,zC,zD,zE,zF,zG,zH,zI,zJ, ← hnG, qI, d3, d1, e2]
     ((repeat refine Ws ?_);refine Wt (by first|rfl|simp only [EV,zF,reduceIte]) ?_)
     ((repeat refine Ws ?_);refine Wr ?_)
     simp (maxSteps := 1000000) only [VL,VM,↓VG,reduceIte,reduceCtorEq,zA,zB,zC,zD,zE,zF,zG,zH,zI,zJ, hx', kB]
     rw [if_pos c2] at sB
     ((repeat refine Ws ?_);refine Wr ?_)
     simp (maxSteps := 1000000) only [VL,VM,↓VG,reduceIte,reduceCtorEq,zA,zB,zC,zD,zE,zF,zG,zH,zI,zJ, k1]
     refine LoopK.mk (i + 1) (by omega) (by omega) ⟨rfl, rfl, rfl, rfl, rfl, rfl, rfl, ?_, ?_, rfl, trivial⟩ rfl
     ·rw [sA, Int.add_zero]; rfl
     ·rw [sB, ← Int.sub_sub]; rfl
    have e2 : (((i / nG : Nat) : Int) = (m : Int)) = False := eq_false (by omega)
    simp (maxSteps := 1000000) only [VL,VM,↓VG,reduceIte,reduceCtorEq,zA,zB,zC,zD,zE,zF,zG,zH,zI,zJ, ← hnG, qI, d3, d1, e2]
    ((repeat refine Ws ?_);refine Wf (by first|rfl|simp only [EV,zF,reduceIte]) ?_)
    ((repeat refine Ws ?_);refine W_skip ?_)
    simp (maxSteps := 1000000) only [VL,VM,↓VG,reduceIte,reduceCtorEq,zA,zB,zC,zD,zE,zF,zG,zH,zI,zJ]
    rw [if_neg c2] at sB
    ((repeat refine Ws ?_);refine Wr ?_)
    simp (maxSteps := 1000000) only [VL,VM,↓VG,reduceIte,reduceCtorEq,zA,zB,zC,zD,zE,zF,zG,zH,zI,zJ, k1]
    refine LoopK.mk (i + 1) (by omega) (by omega) ⟨rfl, rfl, rfl, rfl, rfl, rfl, rfl, ?_, ?_, rfl, trivial⟩ rfl
    ·rw [sA, Int.add_zero]; rfl
    ·rw [sB, Int.add_zero]; rfl
   have k2 : ((i : Int) < (p : Int)) = False := eq_false (by omega)
   obtain rfl : i = p := by omega
   simp (maxSteps := 1000000) only [VL,VM,↓VG,reduceIte,reduceCtorEq,zA,zB,zC,zD,zE,zF,zG,zH,zI,zJ, k2]
   ((repeat refine Ws ?_);refine Wf (by first|rfl|simp only [EV,zF,reduceIte]) ?_)
   ((repeat refine Ws ?_);refine W_exit ?_)
   simp (maxSteps := 1000000) only [VL,VM,↓VG,reduceIte,reduceCtorEq,zA,zB,zC,zD,zE,zF,zG,zH,zI,zJ]
   clear k1 k2 hge hi sA sB
   have gb := goneL_bd hbd nG g i
   have eb := eatL_bd hbd nG m i
   obtain ⟨o, ho⟩ : ∃ o, o = if inP k m g = true then (giAt k g).portions - goneL l nG g i else 0 := ⟨_, rfl⟩
   obtain ⟨at_, hat⟩ : ∃ at_, at_ = mealAt k m - eatL l nG m i := ⟨_, rfl⟩
   have ho2 : o ≤ 10000 := by rw [ho]; split <;> omega
   have hrs : ∀ n : Nat, (n : Int) ≤ min o at_ → (n : Int) ≤ restV k (srvOf k l) m g ∧ (0 < n → inP k m g = true) := fun n hn => by
    rw [ho] at hn
    by_cases hi : inP k m g = true
    ·rw [if_pos hi] at hn
     exact ⟨by rw [hrest]; omega, fun _ => hi⟩
    ·rw [if_neg hi] at hn
     have hf1 := hp.f.fits.1 g (by omega)
     have hf2 := hp.f.fits.2 m hml
     have h0 : 0 ≤ restV k (srvOf k l) m g := by unfold restV; omega
     exact ⟨by omega, fun q => by omega⟩
   rw [← hat]
   (repeat refine Ws ?_)
   refine W_then [(1, intsV l), (2, intsV best), (3, vi fv), (4, .ptr M.H.length 0), (14, vi ((giAt k g).portions - goneL l nG g i)), (15, vi at_), (125, vb (!inP k m g))] ⟨M.H ++ [.obj (kitC k)], M.lg⟩ ?_ ?_
   ·((repeat refine Ws ?_);refine Wr ?_)
    by_cases c1 : (m : Int) < (giAt k g).from_
    ·have e1 : ((m : Int) < (giAt k g).from_) = True := eq_true c1
     have hi : inP k m g = false := by
      cases hi : inP k m g with
      | false => rfl
      | true => have := inR_true.1 hi; omega
     simp (maxSteps := 1000000) only [VL,VM,↓VG,reduceIte,reduceCtorEq,zA,zB,zC,zD,zE,zF,zG,zH,zI,zJ, hxg', e1, hi]
     exact ⟨rfl, rfl, rfl, rfl, rfl, rfl, rfl, trivial⟩
    ·have e1 : ((m : Int) < (giAt k g).from_) = False := eq_false c1
     by_cases c2 : (giAt k g).keeps < (m : Int)
     ·have e2 : ((giAt k g).keeps < (m : Int)) = True := eq_true c2
      have hi : inP k m g = false := by
       cases hi : inP k m g with
       | false => rfl
       | true => have := inR_true.1 hi; omega
      simp (maxSteps := 1000000) only [VL,VM,↓VG,reduceIte,reduceCtorEq,zA,zB,zC,zD,zE,zF,zG,zH,zI,zJ, hxg', e1, e2, hi]
      exact ⟨rfl, rfl, rfl, rfl, rfl, rfl, rfl, trivial⟩
     ·have e2 : ((giAt k g).keeps < (m : Int)) = False := eq_false c2
      have hi : inP k m g = true := inR_true.2 (by omega)
      simp (maxSteps := 1000000) only [VL,VM,↓VG,reduceIte,reduceCtorEq,zA,zB,zC,zD,zE,zF,zG,zH,zI,zJ, hxg', e1, e2, hi]
      exact ⟨rfl, rfl, rfl, rfl, rfl, rfl, rfl, trivial⟩
   intro e' hS
   refine WCode.weak (e' := [(1, intsV l), (2, intsV best), (3, vi fv), (4, .ptr M.H.length 0), (14, vi ((giAt k g).portions - goneL l nG g i)), (15, vi at_), (125, vb (!inP k m g))]) ?_ (Sub.ok hS)
   (repeat refine Ws ?_)
   refine W_then [(1, intsV l), (2, intsV best), (3, vi fv), (4, .ptr M.H.length 0), (14, vi o), (15, vi at_)] ⟨M.H ++ [.obj (kitC k)], M.lg⟩ ?_ ?_
   ·cases hi : inP k m g
    ·rw [hi, if_neg (by decide)] at ho
     ((repeat refine Ws ?_);refine Wt (by first|rfl|simp only [EV,zF,reduceIte]) ?_)
     ((repeat refine Ws ?_);refine Wr ?_)
     simp (maxSteps := 1000000) only [VL,VM,↓VG,reduceIte,reduceCtorEq,zA,zB,zC,zD,zE,zF,zG,zH,zI,zJ]
     rw [ho]
     exact ⟨rfl, rfl, rfl, rfl, rfl, rfl, trivial⟩
    ·rw [hi, if_pos rfl] at ho
     ((repeat refine Ws ?_);refine Wf (by first|rfl|simp only [EV,zF,reduceIte]) ?_)
     ((repeat refine Ws ?_);refine W_skip ?_)
     simp (maxSteps := 1000000) only [VL,VM,↓VG,reduceIte,reduceCtorEq,zA,zB,zC,zD,zE,zF,zG,zH,zI,zJ]
     rw [← ho]
     exact ⟨rfl, rfl, rfl, rfl, rfl, rfl, trivial⟩
   intro e2' hS2
   refine WCode.weak (e' := [(1, intsV l), (2, intsV best), (3, vi fv), (4, .ptr M.H.length 0), (14, vi o), (15, vi at_)]) ?_ (Sub.ok hS2)
   ((repeat refine Ws ?_);refine Wr ?_)
   simp (maxSteps := 1000000) only [VL,VM,↓VG,reduceIte,reduceCtorEq,zA,zB,zC,zD,zE,zF,zG,zH,zI,zJ]
   have q1 : ((l.length + 1) * 8 ≤ 140737488355328) = True := eq_true (by omega)
   have hll : l.length ≤ 1000000 := by omega
   ((repeat refine Ws ?_);refine W_block ?_; (repeat refine Ws ?_)); refine W_loopS (fun s : MoSt => [(1, intsV l), (2, intsV best), (3, vi fv), (4, .ptr M.H.length 0), (14, vi o), (15, vi at_), (17, vi s.n)]) (fun s => ⟨M.H ++ (VObj.obj (kitC k) :: s.junk), M.lg⟩) (fun s => (min o at_ + 1 - s.n).toNat) (fun _ => True) ⟨0, []⟩ trivial ⟨rfl, rfl, rfl, rfl, rfl, rfl, rfl, trivial⟩ rfl ?_
   rintro ⟨n, junk⟩ _
   ((repeat refine Ws ?_);refine Wr ?_)
   by_cases hle : (n : Int) ≤ min o at_
   ·have k2 : ((n : Int) ≤ min o at_) = True := eq_true hle
    have k1 : -9223372036854775808 ≤ (n : Int) + 1 ∧ (n : Int) + 1 < 9223372036854775808 := by omega
    obtain ⟨r1, r2⟩ := hrs n hle
    have hcall := hnext n r1 r2
    have hms : (min o at_ + 1 - ((n + 1 : Nat) : Int)).toNat < (min o at_ + 1 - (n : Int)).toNat := by omega
    have hap : l.map intP ++ [[PV.int .i64 (n : Int)]] = (l ++ [(n : Int)]).map intP := by simp
    simp (maxSteps := 1000000) only [VL,VM,↓VG,reduceIte,reduceCtorEq,zA,zB,zC,zD,zE,zF,zG,zH,zI,zJ, k2]
    ((repeat refine Ws ?_);refine Wt (by first|rfl|simp only [EV,zF,reduceIte]) ?_)
    ((repeat refine Ws ?_);refine W_skip ?_)
    simp (maxSteps := 1000000) only [VL,VM,↓VG,reduceIte,reduceCtorEq,zA,zB,zC,zD,zE,zF,zG,zH,zI,zJ]
    ((repeat refine Ws ?_);refine W_block ?_)
    (repeat refine Ws ?_)
    refine W_drawP T_ok [] (by kernel_rfl) (by kernel_rfl) ?_
    generalize hi : mkPlan _ = infs
    cbv at hi
    subst hi
    simp (maxSteps := 1000000) only [VL,VM,↓VG,reduceIte,reduceCtorEq,zA,zB,zC,zD,zE,zF,zG,zH,zI,zJ]
    apply call_d4 (f := 31) (fn := Try.f31) (by kernel_rfl) (by rfl)
    ·exact copyInts_k l _ hll
    simp only [List.append_assoc, List.cons_append, List.nil_append, List.length_append, List.length_cons, Nat.add_assoc]
    simp (maxSteps := 1000000) only [VL,VM,↓VG,reduceIte,reduceCtorEq,zA,zB,zC,zD,zE,zF,zG,zH,zI,zJ, q1]
    rw [hap]
    apply call_d (f := 56) (fn := Try.f56) (by kernel_rfl) (by rfl)
    ·exact hcall _
    simp (maxSteps := 1000000) only [VL,VM,↓VG,reduceIte,reduceCtorEq,zA,zB,zC,zD,zE,zF,zG,zH,zI,zJ]
    ((repeat refine Ws ?_);refine Wf (by first|rfl|simp only [EV,zF,reduceIte]) ?_)
    ((repeat refine Ws ?_);refine W_skip ?_)
    simp (maxSteps := 1000000) only [VL,VM,↓VG,reduceIte,reduceCtorEq,zA,zB,zC,zD,zE,zF,zG,zH,zI,zJ]
    ((repeat refine Ws ?_);refine Wr ?_)
    simp (maxSteps := 1000000) only [VL,VM,↓VG,reduceIte,reduceCtorEq,zA,zB,zC,zD,zE,zF,zG,zH,zI,zJ, k1]
    exact LoopK.mk ⟨n + 1, junk ++ [VObj.clm (l.length + 1) 1]⟩ hms trivial ⟨rfl, rfl, rfl, rfl, rfl, rfl, rfl, trivial⟩ rfl
   ·have k2 : ((n : Int) ≤ min o at_) = False := eq_false hle
    simp (maxSteps := 1000000) only [VL,VM,↓VG,reduceIte,reduceCtorEq,zA,zB,zC,zD,zE,zF,zG,zH,zI,zJ, k2]
    ((repeat refine Ws ?_);refine Wf (by first|rfl|simp only [EV,zF,reduceIte]) ?_)
    ((repeat refine Ws ?_);refine W_exit ?_)
    simp (maxSteps := 1000000) only [VL,VM,↓VG,reduceIte,reduceCtorEq,zA,zB,zC,zD,zE,zF,zG,zH,zI,zJ]
    ((repeat refine Ws ?_);refine Wr ?_)
    simp (maxSteps := 1000000) only [VL,VM,↓VG,reduceIte,reduceCtorEq,zA,zB,zC,zD,zE,zF,zG,zH,zI,zJ]
    (repeat refine Ws ?_)
    refine W_ret ?_
    try simp only [thenQ, blockQ]
    refine own_ret1 rfl ?_ (by rfl)
    simp only [get_cons, frz, vtup, Nat.reduceEqDiff, if_true, if_false, reduceIte]
end Go.Proofs.Ytmagiabapakhcaa.Vm

/- The law that no serving is better, on values: the whole. (Vm) -/
namespace Go.Proofs.Ytmagiabapakhcaa.Vm
open Go Go.Proofs
attribute [local irreducible] castF castU fromF fromU oneF oneU onceF
section
variable {P : Program} {T : Tab} {cx : Cx} {e : Env} {M : Mem} {D : List Nat} {Q : PQ} {c : Code}
theorem W_know {t : Nat} {x y : VV} (ht : get e t = x) (hr : ∀ r ∈ refs y, r ∈ refs x) (hk : ∀ w K v, RepV w K M.H v x → RepV w K M.H v y) (h : WCode P cx c ((t, y) :: e) M D Q) : WCode P cx c e M D Q := by
 intro G w K a hs
 have hf2 : FrOk w K M cx.nt a.tmps ((t, y) :: e) := by
  refine ⟨hs.fr.size, fun t' => ?_, fun t' => ?_⟩
  ·rw [get_cons]
   by_cases h1 : t' = t
   ·subst h1
    rw [if_pos rfl]
    have := hs.fr.rep t'
    rw [ht] at this
    exact hk _ _ _ this
   ·rw [if_neg h1]; exact hs.fr.rep t'
  ·rw [get_cons]
   by_cases h1 : t' = t
   ·subst h1
    rw [if_pos rfl]
    intro r hr'
    have := hs.fr.cl t'
    rw [ht] at this
    exact this r (hr r hr')
   ·rw [if_neg h1]; exact hs.fr.cl t'
 exact h G w K a ⟨hf2, hs.df, hs.inv, hs.rd⟩
end
theorem nil_kind {w : World} {K : Nat → Option Nat} {H : List VObj} {v : Value} (k0 k : Nat) (h : RepV w K H v (.p (.sl k0 []))) : RepV w K H v (.p (.sl k [])) := by
 cases h with
 | p _ _ hp =>
  cases hp with
  | sl A c _ b off _ g q1 q2 q3 q4 q5 q6 q7 => exact .p _ _ (.sl A c k b off [] g q1 q2 (fun x hx => by cases hx) q4 (fun i x j u hx => by simp at hx) (fun i x j u hx => by simp at hx) (fun i x j u hx => by simp at hx))
theorem servR_tab (k : Kn) (V : KV k) {w : World} {K : Nat → Option Nat} {H : List VObj} {v : Value} (h : RepV w K H v (servR k)) : RepV w K H v (tabV (feedS k)) := by
 unfold servR at h
 split at h
 ·rename_i h0
  have e : feedS k = [] := List.eq_nil_of_length_eq_zero ((feed_Z V).i.ok.srv.len.trans h0)
  rw [e]
  exact nil_kind _ _ h
 ·exact h
set_option maxHeartbeats 2000000 in
set_option maxRecDepth 8000 in
theorem best_law_v (xs : List Int) (M : Mem) (hl : xs.length ≤ maxLen) : VC Try.prog 13 [intsV xs] M (fun r M' => M' = M ∧ r = vb true) := by
 refine VC_own' T_ok (f := 13) (fn := Try.f13) (by kernel_rfl) rfl Try.ntmps13 (by rfl) (by rfl) ?_
 ((repeat refine Ws ?_);refine Wr ?_)
 simp (maxSteps := 1000000) only [VL,VM,↓VG,reduceIte,reduceCtorEq,zA,zB,zC,zD,zE,zF,zG,zH,zI,zJ]
 ((repeat refine Ws ?_);refine Wr ?_)
 simp (maxSteps := 1000000) only [VL,VM,↓VG,reduceIte,reduceCtorEq,zA,zB,zC,zD,zE,zF,zG,zH,zI,zJ]
 apply call_eq (f := 20) (fn := Try.f20) (by kernel_rfl) (by rfl)
 ·exact dieOf_v xs M hl
 obtain ⟨H0, hH0⟩ : ∃ H0, H0 = M.H ++ [VObj.dead] := ⟨_, rfl⟩
 obtain ⟨d, hdd⟩ : ∃ d, d = M.H.length := ⟨_, rfl⟩
 have hd : d < H0.length := by rw [hH0, hdd]; simp
 have hlen0 : H0.length = M.H.length + 1 := by rw [hH0]; simp
 rw [← hH0, ← hdd]
 have tail : ∀ u L, DH H0 d u L = M.H ++ (.obj [uv u] :: L) := fun u L => by rw [hH0, hdd]; exact DH_tail M u L
 generalize dieU xs = u0
 simp (maxSteps := 1000000) only [VL,VM,↓VG,reduceIte,reduceCtorEq,zA,zB,zC,zD,zE,zF,zG,zH,zI,zJ]
 ((repeat refine Ws ?_);refine Wr ?_)
 simp (maxSteps := 1000000) only [VL,VM,↓VG,reduceIte,reduceCtorEq,zA,zB,zC,zD,zE,zF,zG,zH,zI,zJ]
 refine fn_call (f := 36) (fn := Try.f36) (by kernel_rfl) (by rfl) ?_
 refine (kitchenOf_v hd u0 M.lg 3 2 4 (by omega) (by omega) (by omega)).mono ?_
 rintro _ _ ⟨k, u2, rfl, rfl, m⟩
 have mV := m.V
 have m5 := mV.m1
 have g5 := mV.g1
 have hR : feedR k = .tup [servR k, vi (givenAll k - fedV k (srv0 k) (-1) 0), vi 0] := by unfold feedR; rw [if_pos (kitErr_ok.2 mV)]
 obtain ⟨sf1, sf2⟩ := servR_flat k
 have s0 := serves_r k mV
 have hst := fun w K H v => servR_tab k mV (w := w) (K := K) (H := H) (v := v)
 have hSl : (feedS k).length = k.meals.length := (feed_Z mV).i.ok.srv.len
 have hff := feed_flat mV
 have hmore := fun hG => more_v k mV hG (k.meals.length * k.gifts.length) [] (by simp) (Pfx.nil mV)
 have hfl := feedL_len (k := k) (k.meals.length * k.gifts.length)
 have hlen2 : k.meals.length * k.gifts.length ≤ 25 := Nat.mul_le_mul m5 g5
 have hrl : ∀ (i : Nat) (x : List Int), (feedS k)[i]? = some x → x.length ≤ 5 := fun i x hx => by
  have : x.length = k.gifts.length := (feed_Z mV).i.ok.srv.row x (List.mem_of_getElem? hx)
  omega
 generalize hfv : fedV k (srv0 k) (-1) 0 = fv at hR s0 hmore
 generalize servR k = sv at hR sf1 sf2 s0 hst
 generalize feedS k = S at hst hSl hff hrl
 simp (maxSteps := 1000000) only [VL,VM,↓VG,reduceIte,reduceCtorEq,zA,zB,zC,zD,zE,zF,zG,zH,zI,zJ, DH_app hd, DH_len, DH_len0, DH_get hd, DH_get0 hd, DH_set hd, DH_set0 hd, DH_setd, DH_die hd]
 ((repeat refine Ws ?_);refine Wr ?_)
 simp (maxSteps := 1000000) only [VL,VM,↓VG,reduceIte,reduceCtorEq,zA,zB,zC,zD,zE,zF,zG,zH,zI,zJ, DH_app hd, DH_len, DH_len0, DH_get hd, DH_get0 hd, DH_set hd, DH_set0 hd, DH_setd, DH_die hd]
 apply call_eq (f := 38) (fn := Try.f38) (by kernel_rfl) (by rfl)
 ·exact Feed_v k _ (by omega) (by omega)
 rw [hR]
 simp (maxSteps := 1000000) only [VL,VM,↓VG,reduceIte,reduceCtorEq,zA,zB,zC,zD,zE,zF,zG,zH,zI,zJ, sf1]
 ((repeat refine Ws ?_);refine Wr ?_)
 simp (maxSteps := 1000000) only [VL,VM,↓VG,reduceIte,reduceCtorEq,zA,zB,zC,zD,zE,zF,zG,zH,zI,zJ, DH_app hd, DH_len, DH_len0, DH_get hd, DH_get0 hd, DH_set hd, DH_set0 hd, DH_setd, DH_die hd]
 refine fn_call (f := 54) (fn := Try.f54) (by kernel_rfl) (by rfl) ?_
 rw [show List.map strip1 [VV.agg [intsV k.meals, gisV k.gifts], sv] = [kitV k, sv] by simp only [List.map_cons, List.map_nil, sf1]; rfl]
 refine (s0 _).mono ?_
 rintro _ _ ⟨rfl, rfl⟩
 simp (maxSteps := 1000000) only [VL,VM,↓VG,reduceIte,reduceCtorEq,zA,zB,zC,zD,zE,zF,zG,zH,zI,zJ, DH_app hd, DH_len, DH_len0, DH_get hd, DH_get0 hd, DH_set hd, DH_set0 hd, DH_setd, DH_die hd]
 ((repeat refine Ws ?_);refine Wr ?_)
 simp (maxSteps := 1000000) only [VL,VM,↓VG,reduceIte,reduceCtorEq,zA,zB,zC,zD,zE,zF,zG,zH,zI,zJ]
 ((repeat refine Ws ?_);refine Wf (by first|rfl|simp only [EV,zF,reduceIte]) ?_)
 ((repeat refine Ws ?_);refine W_skip ?_)
 simp (maxSteps := 1000000) only [VL,VM,↓VG,reduceIte,reduceCtorEq,zA,zB,zC,zD,zE,zF,zG,zH,zI,zJ]
 ((repeat refine Ws ?_);refine Wr ?_)
 simp (maxSteps := 1000000) only [VL,VM,↓VG,reduceIte,reduceCtorEq,zA,zB,zC,zD,zE,zF,zG,zH,zI,zJ]
 refine W_know (t := 5) (x := sv) (y := tabV S) rfl (fun r hr => by simp [refs] at hr) (fun w K v => hst w K _ v) ?_
 refine W_tok (t := 10) (k := 1) rfl ?_
 simp (maxSteps := 1000000) only [VL,VM,↓VG,reduceIte,reduceCtorEq,zA,zB,zC,zD,zE,zF,zG,zH,zI,zJ, DH_app hd, DH_len, DH_len0, DH_get hd, DH_get0 hd, DH_set hd, DH_set0 hd, DH_setd, DH_die hd]
 ((repeat refine Ws ?_);refine Wr ?_)
 simp (maxSteps := 1000000) only [VL,VM,↓VG,reduceIte,reduceCtorEq,zA,zB,zC,zD,zE,zF,zG,zH,zI,zJ]
 ((repeat refine Ws ?_);refine W_block ?_; (repeat refine Ws ?_)); refine W_loopS (fun i : Nat => [(4, .ptr H0.length 0), (5, tabV S), (8, vi fv), (10, .so (H0.length + 1) 1 ((S.take i).flatten.map intP)), (11, vi i)]) (fun i => ⟨DH H0 d u2 [.obj (kitC k), .clm (S.take i).flatten.length 1], M.lg⟩) (fun i => k.meals.length - i) (fun i => i ≤ k.meals.length) 0 (Nat.zero_le _) ⟨rfl, rfl, rfl, rfl, rfl, trivial⟩ rfl ?_
 intro i hi
 have k1 : -9223372036854775808 ≤ (i : Int) + 1 ∧ (i : Int) + 1 < 9223372036854775808 := by omega
 ((repeat refine Ws ?_);refine Wr ?_)
 rcases Nat.lt_or_ge i k.meals.length with hlt | hge
 ·have k2 : ((i : Int) < (k.meals.length : Int)) = True := eq_true (by omega)
  have hx : S[i]? = some (S[i]'(by omega)) := List.getElem?_eq_getElem (by omega)
  have htk : (S.take (i + 1)).flatten = (S.take i).flatten ++ S[i]'(by omega) := by rw [List.take_add_one, hx, Option.toList_some, List.flatten_append, List.flatten_cons, List.flatten_nil, List.append_nil]
  have hrow := hrl i _ hx
  generalize S[i]'(by omega) = row at hx htk hrow
  have hx' := map_at (f := rowP) hx
  have hl5 : (S.take i).flatten.length ≤ 25 := by
   rw [hff i hi, feedL_len]
   exact Nat.le_trans (Nat.mul_le_mul_right _ hi) hlen2
  have q1 : (((S.take i).flatten.length + row.length) * 8 ≤ 140737488355328) = True := eq_true (by omega)
  have hl2 : (S.take (i + 1)).flatten.length = (S.take i).flatten.length + row.length := by rw [htk, List.length_append]
  generalize (S.take i).flatten = fl at htk q1 hl2 ⊢
  simp (maxSteps := 1000000) only [VL,VM,↓VG,reduceIte,reduceCtorEq,zA,zB,zC,zD,zE,zF,zG,zH,zI,zJ, List.length_map, hSl, k2]
  ((repeat refine Ws ?_);refine Wt (by first|rfl|simp only [EV,zF,reduceIte]) ?_)
  ((repeat refine Ws ?_);refine W_skip ?_)
  simp (maxSteps := 1000000) only [VL,VM,↓VG,reduceIte,reduceCtorEq,zA,zB,zC,zD,zE,zF,zG,zH,zI,zJ]
  ((repeat refine Ws ?_);refine W_block ?_)
  ((repeat refine Ws ?_);refine Wr ?_)
  simp (maxSteps := 1000000) only [VL,VM,↓VG,reduceIte,reduceCtorEq,zA,zB,zC,zD,zE,zF,zG,zH,zI,zJ, DH_app hd, DH_len, DH_len0, DH_get hd, DH_get0 hd, DH_set hd, DH_set0 hd, DH_setd, DH_die hd, hx', q1]
  ((repeat refine Ws ?_);refine Wr ?_)
  simp (maxSteps := 1000000) only [VL,VM,↓VG,reduceIte,reduceCtorEq,zA,zB,zC,zD,zE,zF,zG,zH,zI,zJ, k1]
  refine LoopK.mk (i + 1) (by omega) (by omega) ⟨rfl, rfl, rfl, ?_, rfl, trivial⟩ ?_
  ·rw [htk, List.map_append]; rfl
  ·rw [hl2]
 have k2 : ((i : Int) < (k.meals.length : Int)) = False := eq_false (by omega)
 obtain rfl : i = k.meals.length := by omega
 simp (maxSteps := 1000000) only [VL,VM,↓VG,reduceIte,reduceCtorEq,zA,zB,zC,zD,zE,zF,zG,zH,zI,zJ, List.length_map, hSl, k2]
 ((repeat refine Ws ?_);refine Wf (by first|rfl|simp only [EV,zF,reduceIte]) ?_)
 ((repeat refine Ws ?_);refine W_exit ?_)
 simp (maxSteps := 1000000) only [VL,VM,↓VG,reduceIte,reduceCtorEq,zA,zB,zC,zD,zE,zF,zG,zH,zI,zJ]
 rw [hff _ (Nat.le_refl _)]
 ((repeat refine Ws ?_);refine Wr ?_)
 by_cases hG : 0 < k.gifts.length
 ·have k3 : ((k.gifts.length : Int) = 0) = False := eq_false (by omega)
  simp (maxSteps := 1000000) only [VL,VM,↓VG,reduceIte,reduceCtorEq,zA,zB,zC,zD,zE,zF,zG,zH,zI,zJ, DH_app hd, DH_len, DH_len0, DH_get hd, DH_get0 hd, DH_set hd, DH_set0 hd, DH_setd, DH_die hd, k3]
  refine fn_call (f := 56) (fn := Try.f56) (by kernel_rfl) (by rfl) ?_
  refine (VC.mono (VC_nil0 (us := [kitV k]) (vs := [intsV (feedL k (k.meals.length * k.gifts.length)), vi fv]) (k := 1) (k0 := 0) (hmore hG _)) ?_)
  rintro _ _ ⟨rfl, rfl⟩
  simp (maxSteps := 1000000) only [VL,VM,↓VG,reduceIte,reduceCtorEq,zA,zB,zC,zD,zE,zF,zG,zH,zI,zJ]
  apply call_eq (f := 18) (fn := Try.f18) (by kernel_rfl) (by rfl)
  ·exact awake_v _
  simp (maxSteps := 1000000) only [VL,VM,↓VG,reduceIte,reduceCtorEq,zA,zB,zC,zD,zE,zF,zG,zH,zI,zJ]
  rw [tail]
  (repeat refine Ws ?_)
  refine W_ret ?_
  try simp only [thenQ, blockQ]
  refine own_ret1 rfl ?_ (by rfl)
  simp only [get_cons, frz, vtup, Nat.reduceEqDiff, if_true, if_false, reduceIte]
 ·have k3 : ((k.gifts.length : Int) = 0) = True := eq_true (by omega)
  simp (maxSteps := 1000000) only [VL,VM,↓VG,reduceIte,reduceCtorEq,zA,zB,zC,zD,zE,zF,zG,zH,zI,zJ, DH_app hd, DH_len, DH_len0, DH_get hd, DH_get0 hd, DH_set hd, DH_set0 hd, DH_setd, DH_die hd, k3]
  apply call_eq (f := 18) (fn := Try.f18) (by kernel_rfl) (by rfl)
  ·exact awake_v _
  simp (maxSteps := 1000000) only [VL,VM,↓VG,reduceIte,reduceCtorEq,zA,zB,zC,zD,zE,zF,zG,zH,zI,zJ]
  rw [tail]
  (repeat refine Ws ?_)
  refine W_ret ?_
  try simp only [thenQ, blockQ]
  refine own_ret1 rfl ?_ (by rfl)
  simp only [get_cons, frz, vtup, Nat.reduceEqDiff, if_true, if_false, reduceIte]
end Go.Proofs.Ytmagiabapakhcaa.Vm
