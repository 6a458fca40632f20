/- A part of the proofs about the chapter of the vaults; it states no condition of its own. -/
import Derived.Test.YtnjgdlmddlinaaaDoorB26
set_option linter.unusedVariables false
set_option linter.unusedSimpArgs false
open Int renaming reduceLE → zA, reduceLT → zB, reduceToNat → zC, reduceNeg → zD
open Nat renaming reduceLT → zE, reduceEqDiff → zF, reduceAdd → zG, reduceSub → zH, reduceMul → zI, reduceLeDiff → zJ
/- (*strings.Builder).WriteString and String: contracts on values. (Vm) -/
namespace Go.Proofs.YtnjgdlmddlinaaaDoor.Vm
open Go Go.Proofs Go.RowKit
def bldH (H : List VObj) (i j : Nat) (l : By) : List VObj := (H.set i (.bld tBld tByte j l)).set j (.clm l.length 1)
theorem bldH_len (H : List VObj) (i j : Nat) (l : By) : (bldH H i j l).length = H.length := by simp [bldH]
theorem byte_rep {w : World} {K : Nat → Option Nat} {H : List VObj} {g cap j : Nat} {cur : Array Value} {l : By} (hK : K j = some g) (hj : H[j]? = some (.clm l.length 1)) (hon : ∀ k ob, H[k]? = some ob → K k = some g → k = j ∨ Fz ob)
  (hg : w.heap[g]? = some (.cells cur tByte (0, 0))) (h1 : l.length ≤ cap) (h2 : cap ≤ maxLen) (h3 : cur.size = cap) (h4 : cur.toList.take l.length = Lib.byteCells l) :
  RepV w K H (.slice (some ⟨g, 0, none⟩) l.length cap) (.so j 1 (bysV l)) := by
 have hlen : (bysV l).length = l.length := by simp [bysV]
 have hx : ∀ i x k u, (bysV l)[i]? = some x → x[k]? = some u → k = 0 ∧ i < l.length ∧ ∃ b, l[i]? = some b ∧ u = .int .u8 b.toNat := fun i x k u hx hu => by
  unfold bysV at hx
  rw [List.getElem?_map] at hx
  obtain ⟨b, hb, rfl⟩ := Option.map_eq_some_iff.1 hx
  have hk : k = 0 := by have := (List.getElem?_eq_some_iff.1 hu).1; simpa using this
  subst hk
  simp at hu
  exact ⟨rfl, (List.getElem?_eq_some_iff.1 hb).1, b, hb, hu.symm⟩
 refine .so _ j 1 _ ?_ fun m k' hm => ?_
 ·rw [← hlen]
  refine .sl _ cap 1 g 0 _ (fun i _ => (Lib.byteCells l).getD i undef) (by rw [hlen]; exact h1) h2 (fun x hx => ?_) (fun _ => rfl) (fun i x k u hx1 hu => ?_) (fun i x k u hx1 hu => ?_) fun i x k u hx1 hu => ?_
  ·obtain ⟨b, _, rfl⟩ := List.mem_map.1 hx
   rfl
  ·obtain ⟨rfl, hi, b, hb, rfl⟩ := hx i x k u hx1 hu
   intro k2 ob hk2 hKk
   rcases hon k2 ob hk2 hKk with rfl | hf
   ·rw [hj] at hk2
    cases hk2
    exact .inr ⟨_, _, rfl, by omega⟩
   ·exact .inl hf
  ·obtain ⟨rfl, hi, b, hb, rfl⟩ := hx i x k u hx1 hu
   rw [show 0 + i * 1 + 0 = i by omega, Lib.cell_of_heap hg, ← h4, List.getD_eq_getElem?_getD, List.getElem?_take, if_pos hi]
   have : i < cur.size := by omega
   simp [this]
  ·obtain ⟨rfl, hi, b, hb, rfl⟩ := hx i x k u hx1 hu
   rw [List.getD_eq_getElem?_getD]
   simp only [Lib.byteCells, List.getElem?_map, hb, Option.map_some, Option.getD_some]
   exact .int _ _
 ·rw [hj] at hm
  cases hm
  rw [hlen]
  exact ⟨Nat.le_refl _, fun _ => ⟨rfl, .inl ⟨g, cap, cur, _, hK, rfl, hg, by omega⟩⟩⟩
theorem writeS_v {i j : Nat} {l s : By} {H : List VObj} {lg : List (Nat × Nat)} (hi : H[i]? = some (.bld tBld tByte j l)) (hj : H[j]? = some (.clm l.length 1)) (hs : s ≠ []) (hl : l.length + s.length ≤ 140737488355328) :
  VC Tryd.prog 34 [.ptr i 0, .p (.str (tx s))] ⟨H, lg⟩ (fun r M' => M' = ⟨bldH H i j (l ++ s), lg⟩ ∧ r = .any) := by
 intro G w K rargs hI ha
 obtain ⟨v1, v2, rfl, hv1, hv2⟩ := args2 ha
 obtain rfl := rep_str hv2
 cases hv1 with
 | ptr _ _ b hKi hn =>
  obtain ⟨b', v, p, e, hb, hp, hr, hbuf⟩ := hI.obj i _ hi
  rw [hKi] at e
  cases e
  obtain ⟨hown, hob⟩ := bld_own hj hr hbuf
  have hij : i ≠ j := by
   rintro rfl
   rw [hi] at hj
   cases hj
  have hil := (List.getElem?_eq_some_iff.1 hi).1
  have hjl := (List.getElem?_eq_some_iff.1 hj).1
  have hne : v.ownBlock ≠ some b := fun e => hij (hI.inj i j b hil hjl (by simp only; rw [hi]; simp) (by simp only; rw [hj]; simp) hKi (hob.symm.trans e))
  refine callsIn_wide.2 ((writeString_raw w b p v l s hb hp hown hne hs hl).mono ?_)
  rintro e w' ⟨rfl, hW⟩
  obtain ⟨g, cap, cur, r1, r2, r3, r4, r5, r6, r7⟩ := hW.row
  have hs1 : 0 < s.length := List.length_pos_iff.2 hs
  have hblk : b < w.heap.size := (hI.blk i b hil hKi).1
  have hgs : g < w'.heap.size := (Array.getElem?_eq_some_iff.1 r2).1
  have step := bld_step (l' := l ++ s) (m' := (l ++ s).length) (kb := some g) hI hi hj hKi ⟨hW.os, hW.tape, hW.output, hW.size⟩ (fun k h1 h2 h3 => hW.block k h1 h2 (by rw [hob]; exact h3)) (fun k vs t z hk => ?_) (fun k0 hk0 o ho => ?_) (fun g' hg' => ?_) (by rw [List.length_append]; omega) (fun hE => ?_)
  ·obtain ⟨hE, hI'⟩ := step
   exact ⟨_, .any, _, _, rfl, ⟨rfl, rfl⟩, .any _, cl_any _, hE, hI'⟩
  ·by_cases hkb : k = b
   ·subst hkb
    rw [hb] at hk
    cases hk
    exact ⟨_, _, r1, rfl⟩
   ·by_cases hko : v.ownBlock = some k
    ·obtain ⟨c0, c1, h1, h2, h3, _⟩ := hW.old k hko
     rw [h1] at hk
     cases hk
     exact ⟨_, _, h2, h3⟩
    ·exact ⟨vs, z, (hW.block k (Array.getElem?_eq_some_iff.1 hk).1 hkb (fun e => hko e.symm)).trans hk, rfl⟩
  ·obtain ⟨c0, c1, h1, h2, _, h4⟩ := hW.old k0 (hob.trans hk0)
   rw [Lib.cell_of_heap h1, Lib.cell_of_heap h2, h4 o ho]
  ·cases hg'
   refine ⟨?_, hgs⟩
   rcases r7 with h | h
   ·exact .inl (hob.symm.trans h)
   ·exact .inr h
  ·have hj2 : ((H.set i (.bld tBld tByte j (l ++ s))).set j (.clm (l ++ s).length 1))[j]? = some (.clm (l ++ s).length 1) := by rw [List.getElem?_set_self (by simp; exact hjl)]
   have hon : ∀ k ob, ((H.set i (.bld tBld tByte j (l ++ s))).set j (.clm (l ++ s).length 1))[k]? = some ob → upd K j (some g) k = some g → k = j ∨ Fz ob := fun k ob hk hKk => by
    by_cases hkj : k = j
    ·exact .inl hkj
    ·rw [upd_ne K _ hkj] at hKk
     have hkl : k < H.length := by have := (List.getElem?_eq_some_iff.1 hk).1; simpa using this
     rw [List.getElem?_set_ne (Ne.symm hkj)] at hk
     rcases r7 with h | h
     ·by_cases hki : k = i
      ·subst hki
       rw [hKi] at hKk
       cases hKk
       exact absurd h hne
      ·rw [List.getElem?_set_ne (Ne.symm hki)] at hk
       by_cases hg : ob = .gone
       ·subst hg
        exact .inr trivial
       ·exact .inl (hI.inj k j g hkl hjl (by simp only; rw [hk]; simpa using hg) (by simp only; rw [hj]; simp) hKk (hob.symm.trans h))
     ·have := (hI.blk k g hkl hKk).1
      omega
   refine ⟨⟨b, _, _, rfl, r1, .inr rfl, ?_, .inr ⟨g, _, _, rfl, by omega, cur, _, r2, r5⟩⟩, fun b0 hb0 => ?_⟩
   ·rw [show l.length + s.length = (l ++ s).length by rw [List.length_append]]
    exact byte_rep (upd_same _ _ _) hj2 hon r2 (by rw [List.length_append]; exact r3) r4 r5 (by rw [List.length_append]; exact r6)
   ·cases hb0
    exact ⟨cur, _, r2, by rw [List.length_append]; omega⟩
set_option maxHeartbeats 2000000 in
set_option maxRecDepth 100000 in
theorem string_raw (w : World) (b g cap : Nat) (p : Value) (cur : Array Value) (l : By) (hb : w.heap[b]? = some (.cells #[p, .slice (some ⟨g, 0, none⟩) l.length cap] tBld (0, 0))) (hg : w.heap[g]? = some (.cells cur tByte (0, 0))) (h1 : l.length ≤ cap) (h2 : cap ≤ maxLen) (h3 : cur.size = cap) (h4 : cur.toList.take l.length = Lib.byteCells l) (h0 : l ≠ []) :
  Calls Tryd.prog 36 #[.pointer (some ⟨b, 0, none⟩)] w fun e w' => e = .returned (.string (tx l)) ∧ w' = w.drew.freeze ⟨g, 0, none⟩ l.length := by
 have hl0 : l.length ≠ 0 := by simpa using h0
 have c1 : w.drew.cell? ⟨b, 1, none⟩ = some (.slice (some ⟨g, 0, none⟩) l.length cap) := by
  have : w.drew.heap[b]? = some (.cells #[p, .slice (some ⟨g, 0, none⟩) l.length cap] tBld (0, 0)) := hb
  rw [Lib.cell_of_heap this]; rfl
 have hSD : (Builtin.unsafeSliceData_ #[77] 101 #[.slice (some ⟨g, 0, none⟩) l.length cap]).run Tryd.prog w.drew = .ok (.pointer (some ⟨g, 0, none⟩)) w.drew :=
  Lib.run_unsafeSliceData_row _ _ _ _ _ _ (by omega)
 have hUS : (Builtin.unsafeString_ #[101, 3] 9 #[.pointer (some ⟨g, 0, none⟩), .int .i64 l.length]).run Tryd.prog w.drew = .ok (.string ⟨l.toArray⟩) (w.drew.freeze ⟨g, 0, none⟩ l.length) := by
  refine Lib.run_unsafeString_row w.drew 101 3 9 5 Tryd.underlying101 Tryd.Builder_Extra_169.cellsByte g cur.size (by have hg' : w.drew.heap[g]? = some (.cells cur tByte (0, 0)) := hg; simp [World.shape?, hg']) l h0 (by omega) (by unfold maxLen at h2; omega) ?_
  intro j x hx
  have hj := (List.getElem?_eq_some_iff.1 hx).1
  have h5 : (cur.toList.take l.length)[j]? = some (.int .u8 x.toNat) := by rw [h4]; simp [Lib.byteCells, hx]
  rw [List.getElem?_take, if_pos hj, Array.getElem?_toList] at h5
  have hg' : w.drew.heap[g]? = some (.cells cur tByte (0, 0)) := hg
  rw [show (⟨g, 0, none⟩ : Addr).add j = ⟨g, j, none⟩ by unfold Addr.add; split <;> simp_all, Lib.cell_of_heap hg']
  exact h5
 go_enter Tryd.func36, Tryd.ntmps36
 go_wp2
 go_region
 all_goals (go_wp2; go_ret; exact ⟨rfl, rfl⟩)
theorem freeze_heap (w : World) (g n k : Nat) (hk : k ≠ g) : (w.drew.freeze ⟨g, 0, none⟩ n).heap[k]? = w.heap[k]? := by
 unfold World.freeze
 split
 ·rfl
 ·simp only [Array.getElem?_modify]
  rw [if_neg (fun e => hk e.symm)]
  rfl
theorem freeze_row (w : World) (g n : Nat) {cur : Array Value} {t : TypeId} {z : Nat × Nat} (h : w.heap[g]? = some (.cells cur t z)) : ∃ z', (w.drew.freeze ⟨g, 0, none⟩ n).heap[g]? = some (.cells cur t z') := by
 have h' : w.drew.heap[g]? = some (.cells cur t z) := h
 unfold World.freeze
 split
 ·exact ⟨_, h'⟩
 ·simp only [Array.getElem?_modify, if_true, h', Option.map_some]
  exact ⟨_, rfl⟩
theorem freeze_calm (w : World) (g n : Nat) : Calm w (w.drew.freeze ⟨g, 0, none⟩ n) := by
 unfold World.freeze
 split
 ·exact ⟨rfl, rfl, rfl, Nat.le_refl _⟩
 ·exact ⟨rfl, rfl, rfl, by simp only [Array.size_modify]; exact Nat.le_refl _⟩
def bldE (H : List VObj) (i j : Nat) (l : By) : List VObj := (H.set i (.bld tBld tByte j l)).set j (.clm (l.length + 1) 1)
theorem string_v {i j : Nat} {l : By} {H : List VObj} {lg : List (Nat × Nat)} (hi : H[i]? = some (.bld tBld tByte j l)) (hj : H[j]? = some (.clm l.length 1)) (h0 : l ≠ []) :
  VC Tryd.prog 36 [.ptr i 0] ⟨H, lg⟩ (fun r M' => M' = ⟨bldE H i j l, lg⟩ ∧ r = .p (.str (tx l))) := by
 intro G w K rargs hI ha
 obtain ⟨v1, rfl, hv1⟩ := args1 ha
 cases hv1 with
 | ptr _ _ b hKi hn =>
  obtain ⟨b', v, p, e, hb, hp, hr, hbuf⟩ := hI.obj i _ hi
  rw [hKi] at e
  cases e
  obtain ⟨hown, hob⟩ := bld_own hj hr hbuf
  have hl0 : l.length ≠ 0 := by simpa using h0
  have hij : i ≠ j := by
   rintro rfl
   rw [hi] at hj
   cases hj
  have hil := (List.getElem?_eq_some_iff.1 hi).1
  have hjl := (List.getElem?_eq_some_iff.1 hj).1
  have hne : v.ownBlock ≠ some b := fun e => hij (hI.inj i j b hil hjl (by simp only; rw [hi]; simp) (by simp only; rw [hj]; simp) hKi (hob.symm.trans e))
  rcases hown.2 with ⟨_, hz⟩ | ⟨g, cap, cur, rfl, _, hg, h1, h2, h3, h4⟩
  ·exact absurd hz hl0
  simp only [Nat.mul_one] at h3 h4
  have hKj : K j = some g := hob.symm
  have hgb : g ≠ b := fun e => hne (by rw [← e]; rfl)
  refine callsIn_wide.2 ((string_raw w b g cap p cur l hb hg h1 h2 h3 h4 h0).mono ?_)
  rintro e w' ⟨rfl, rfl⟩
  obtain ⟨z', hg'⟩ := freeze_row w g l.length hg
  have hblk : g < w.heap.size := (Array.getElem?_eq_some_iff.1 hg).1
  have step := bld_step (l' := l) (m' := l.length + 1) (kb := none) hI hi hj hKi (freeze_calm w g l.length) (fun k _ _ h3 => freeze_heap w g _ k (fun e => h3 (by rw [e, hKj]))) (fun k vs t z hk => ?_) (fun k0 hk0 o ho => ?_) (fun g' hg' => by cases hg') (by omega) (fun hE => ?_)
  ·obtain ⟨hE, hI'⟩ := step
   exact ⟨_, _, _, _, rfl, ⟨rfl, rfl⟩, .p _ _ (.str _), cl_p _ _, hE, hI'⟩
  ·by_cases hkg : k = g
   ·subst hkg
    rw [hg] at hk
    cases hk
    exact ⟨_, _, hg', rfl⟩
   ·exact ⟨vs, z, (freeze_heap w g _ k hkg).trans hk, rfl⟩
  ·rw [hKj] at hk0
   cases hk0
   rw [Lib.cell_of_heap hg, Lib.cell_of_heap hg']
  ·refine ⟨⟨b, _, p, rfl, (freeze_heap w g _ b (fun e => hgb e.symm)).trans hb, hp, ?_, hbuf.sz hE.sz⟩, fun b0 hb0 => by cases hb0⟩
   refine hr.ext hE (fun r hr2 => ?_)
   simp only [refs, List.mem_singleton] at hr2
   subst hr2
   exact hjl
end Go.Proofs.YtnjgdlmddlinaaaDoor.Vm

/- The program's row (a closure that writes into a Builder), on values. (Vm) -/
namespace Go.Proofs.YtnjgdlmddlinaaaDoor.Vm
open Go Go.Proofs
theorem lit32 : (⟨#[32]⟩ : ByteArray) = tx [32] := rfl
theorem lit10 : (⟨#[10]⟩ : ByteArray) = tx [10] := rfl
section
variable {H : List VObj} {i j : Nat} {l l' : By}
theorem bldH_set (h : i ≠ j) : bldH (bldH H i j l) i j l' = bldH H i j l' := by
 unfold bldH
 apply List.ext_getElem?
 intro k
 simp only [List.getElem?_set, List.length_set]
 by_cases h1 : j = k
 ·subst h1; simp
 ·by_cases h2 : i = k
  ·subst h2; simp [h1]
  ·simp [h1, h2]
theorem bldH_i (h : i ≠ j) (hi : i < H.length) : (bldH H i j l)[i]? = some (.bld tBld tByte j l) := by
 unfold bldH
 rw [List.getElem?_set_ne (Ne.symm h), List.getElem?_set_self hi]
theorem bldH_j (hj : j < H.length) : (bldH H i j l)[j]? = some (.clm l.length 1) := by
 unfold bldH
 rw [List.getElem?_set_self (by simp; exact hj)]
theorem writeS2_v (s : By) {lg : List (Nat × Nat)} (h : i ≠ j) (hi : i < H.length) (hj : j < H.length) (hs : s ≠ []) (hl : l.length + s.length ≤ 140737488355328) :
  VC Tryd.prog 34 [.ptr i 0, vs s] ⟨bldH H i j l, lg⟩ (fun r M' => M' = ⟨bldH H i j (l ++ s), lg⟩ ∧ r = .any) := by
 refine (writeS_v (bldH_i h hi) (bldH_j hj) hs hl).mono ?_
 rintro r M' ⟨rfl, rfl⟩
 rw [bldH_set h]
 exact ⟨rfl, rfl⟩
end
theorem own_endB {f : Nat} {fn : Func} {H : List VObj} {i j : Nat} {l l' : By} {lg : List (Nat × Nat)} {e : Env} {Q : VV → Mem → Prop} (h1 : fn.results.toList = []) (hq : Q (.tup []) ⟨bldH H i j l', lg⟩) : ownQ T f fn ⟨bldH H i j l, lg⟩ Q .normal e ⟨bldH H i j l', lg⟩ [] :=
 ⟨.inl rfl, rfl, ⟨[], by simp, by simp⟩, bldH H i j l', [], by simp, by rw [bldH_len, bldH_len], [], by rw [h1]; rfl, .tup [], by simp [vtup, frz, frzL], by simp [refs, refsL], hq⟩
set_option maxHeartbeats 1000000 in
theorem prow_v (w : By) (l : List Int) {H : List VObj} {i j : Nat} {pre : By} {lg : List (Nat × Nat)} (h : i ≠ j) (hi : i < H.length) (hj : j < H.length) (hw0 : w ≠ []) (hw : w.length ≤ 1000000) (hl : l.length ≤ 1000000) (hp : pre.length ≤ 1000000000) (hf : FitL l) :
  VC Tryd.prog 33 [vs w, intsV l, .ptr i 0] ⟨bldH H i j pre, lg⟩ (fun r M' => M' = ⟨bldH H i j (pre ++ rowS w l), lg⟩ ∧ r = .tup []) := by
 refine VC_own' T_ok (f := 33) (fn := Tryd.f33) (by kernel_rfl) rfl Tryd.ntmps33 (by rfl) (by rfl) ?_
 ((repeat refine Ws ?_);refine W_regionE T_ok ?_; intro Kn hKn)
 simp (maxSteps := 1000000) only [VL,VM,↓VG,reduceIte,reduceCtorEq,zA,zB,zC,zD,zE,zF,zG,zH,zI,zJ]
 apply call_eq (f := 34) (fn := Tryd.f34) (by kernel_rfl) (by rfl)
 ·exact writeS2_v w h hi hj hw0 (by omega)
 ((simp (maxSteps := 1000000) only [VL,VM,↓VG,reduceIte,reduceCtorEq,zA,zB,zC,zD,zE,zF,zG,zH,zI,zJ]); rw [hKn];clear hKn Kn;simp only [QV,reduceIte,reduceCtorEq,Nat.reduceEqDiff])
 ((repeat refine Ws ?_);refine W_regionE T_ok ?_; intro Kn hKn)
 ((simp (maxSteps := 1000000) only [VL,VM,↓VG,reduceIte,reduceCtorEq,zA,zB,zC,zD,zE,zF,zG,zH,zI,zJ]); rw [hKn];clear hKn Kn;simp only [QV,reduceIte,reduceCtorEq,Nat.reduceEqDiff])
 ((repeat refine Ws ?_);refine W_block ?_; (repeat refine Ws ?_)); refine W_loopS (fun s : Nat => [(0, vs w), (1, intsV l), (2, .ptr i 0), (9, intsV l), (10, vi l.length), (11, vi s)]) (fun s => ⟨bldH H i j (pre ++ w ++ numsS (l.take s)), lg⟩) (fun s => l.length - s) (fun s => s ≤ l.length) 0 (Nat.zero_le _) ⟨rfl, rfl, rfl, rfl, rfl, rfl, trivial⟩ (by simp [numsS]) ?_
 intro k hk
 have k1 : -9223372036854775808 ≤ (k : Int) + 1 ∧ (k : Int) + 1 < 9223372036854775808 := by omega
 ((repeat refine Ws ?_);refine W_regionE T_ok ?_; intro Kn hKn)
 rcases Nat.lt_or_ge k l.length with hlt | hge
 ·have k2 : ((k : Int) < (l.length : Int)) = True := eq_true (by omega)
  have hx := map_at (f := intP) (List.getElem?_eq_getElem hlt)
  have hm := hf _ (List.getElem_mem hlt)
  have key := numsS_take hlt
  have b1 := numsS_len (hf.take k)
  rw [List.length_take] at b1
  have b2 := itoa_len hm.1 hm.2
  have q1 := v_addS 9 [32] (Lib.itoa l[k]) (by simp; omega)
  have hb : (pre ++ (w ++ numsS (l.take k))).length + ([32] ++ Lib.itoa l[k]).length ≤ 140737488355328 := by
   simp only [List.length_append, List.length_cons, List.length_nil]
   omega
  ((simp (maxSteps := 1000000) only [VL,VM,↓VG,reduceIte,reduceCtorEq,zA,zB,zC,zD,zE,zF,zG,zH,zI,zJ, k2]); rw [hKn];clear hKn Kn;simp only [QV,reduceIte,reduceCtorEq,Nat.reduceEqDiff])
  ((repeat refine Ws ?_);refine Wt (by first|rfl|simp only [EV,zF,reduceIte]) ?_)
  (((repeat refine Ws ?_);refine W_skip ?_); simp only [QV,reduceIte,reduceCtorEq,Nat.reduceEqDiff])
  ((repeat refine Ws ?_);refine W_block ?_)
  ((repeat refine Ws ?_);refine W_regionE T_ok ?_; intro Kn hKn)
  ((simp (maxSteps := 1000000) only [VL,VM,↓VG,reduceIte,reduceCtorEq,zA,zB,zC,zD,zE,zF,zG,zH,zI,zJ, hx]); rw [hKn];clear hKn Kn;simp only [QV,reduceIte,reduceCtorEq,Nat.reduceEqDiff])
  ((repeat refine Ws ?_);refine W_regionE T_ok ?_; intro Kn hKn)
  simp (maxSteps := 1000000) only [VL,VM,↓VG,reduceIte,reduceCtorEq,zA,zB,zC,zD,zE,zF,zG,zH,zI,zJ]
  apply call_eq (f := 35) (fn := Tryd.f35) (by kernel_rfl) (by rfl)
  ·exact itoa_v hm.1 hm.2 _
  simp (maxSteps := 1000000) only [VL,VM,↓VG,reduceIte,reduceCtorEq,zA,zB,zC,zD,zE,zF,zG,zH,zI,zJ, lit32, q1]
  apply call_eq (f := 34) (fn := Tryd.f34) (by kernel_rfl) (by rfl)
  ·exact writeS2_v ([32] ++ Lib.itoa l[k]) h hi hj (by simp) hb
  ((simp (maxSteps := 1000000) only [VL,VM,↓VG,reduceIte,reduceCtorEq,zA,zB,zC,zD,zE,zF,zG,zH,zI,zJ]); rw [hKn];clear hKn Kn;simp only [QV,reduceIte,reduceCtorEq,Nat.reduceEqDiff])
  ((repeat refine Ws ?_);refine W_regionE T_ok ?_; intro Kn hKn)
  ((simp (maxSteps := 1000000) only [VL,VM,↓VG,reduceIte,reduceCtorEq,zA,zB,zC,zD,zE,zF,zG,zH,zI,zJ, k1]); rw [hKn];clear hKn Kn;simp only [QV,reduceIte,reduceCtorEq,Nat.reduceEqDiff])
  refine LoopK.mk (k + 1) (by omega) (by omega) ⟨rfl, rfl, rfl, rfl, rfl, rfl, trivial⟩ ?_
  rw [key]; simp
 ·have k2 : ((k : Int) < (l.length : Int)) = False := eq_false (by omega)
  obtain rfl : k = l.length := by omega
  have b1 := numsS_len hf
  have hb : (pre ++ (w ++ numsS l)).length + ([10] : By).length ≤ 140737488355328 := by
   simp only [List.length_append, List.length_cons, List.length_nil]
   omega
  ((simp (maxSteps := 1000000) only [VL,VM,↓VG,reduceIte,reduceCtorEq,zA,zB,zC,zD,zE,zF,zG,zH,zI,zJ, k2, List.take_length]); rw [hKn];clear hKn Kn;simp only [QV,reduceIte,reduceCtorEq,Nat.reduceEqDiff])
  ((repeat refine Ws ?_);refine Wf (by first|rfl|simp only [EV,zF,reduceIte]) ?_)
  (((repeat refine Ws ?_);refine W_exit ?_); simp only [QV,reduceIte,reduceCtorEq,Nat.reduceEqDiff])
  ((repeat refine Ws ?_);refine W_regionE T_ok ?_; intro Kn hKn)
  simp (maxSteps := 1000000) only [VL,VM,↓VG,reduceIte,reduceCtorEq,zA,zB,zC,zD,zE,zF,zG,zH,zI,zJ, lit10]
  apply call_eq (f := 34) (fn := Tryd.f34) (by kernel_rfl) (by rfl)
  ·exact writeS2_v [10] h hi hj (by simp) hb
  simp (maxSteps := 1000000) only [VL,VM,↓VG,reduceIte,reduceCtorEq,zA,zB,zC,zD,zE,zF,zG,zH,zI,zJ]
  rw [hKn]
  refine own_endB rfl ⟨?_, rfl⟩
  simp [rowS]
end Go.Proofs.YtnjgdlmddlinaaaDoor.Vm

/- Plain: a row of a word and numbers, as it is read. -/
namespace Go.Proofs.YtnjgdlmddlinaaaDoor
open Go
end Go.Proofs.YtnjgdlmddlinaaaDoor

/- Plain: what is read of a drawing. -/
namespace Go.Proofs.YtnjgdlmddlinaaaDoor
open Go
def y0 : Ha := ⟨0, 0, [], [], ⟨0, 0⟩, [], []⟩
def plOf (l : List Int) : Pl := ⟨l.getD 0 0, l.getD 1 0⟩
def haOf (h : Ha) (l : List Int) : Ha := { h with wide := l.getD 0 0, deep := l.getD 1 0, bay := ⟨l.getD 2 0, l.getD 3 0⟩ }
end Go.Proofs.YtnjgdlmddlinaaaDoor

/- Plain: what is written is read again, and what is read is what would be written. -/
namespace Go.Proofs.YtnjgdlmddlinaaaDoor
open Go
theorem len_nd {k u : Nat} (h : u < 10 ^ (k + 1)) : (Lib.decDigits u).length ≤ k + 1 := by
 induction k generalizing u with
 | zero => rw [Lib.decDigits, dif_pos (by simpa using h)]; simp
 | succ k ih =>
  rw [Lib.decDigits]
  split
  ·simp
  ·have := ih (u := u / 10) (by rw [Nat.div_lt_iff_lt_mul (by omega)]; rw [← Nat.pow_succ]; exact h)
   simp only [List.length_append, List.length_singleton]
   omega
theorem itoa_short {n : Int} (h0 : 0 ≤ n) (h1 : n ≤ 10000000) : (Lib.itoa n).length ≤ 8 := by
 rw [Lib.itoa, if_neg (by omega)]
 exact len_nd (k := 7) (by omega)
def SmL (l : List Int) : Prop := ∀ n ∈ l, 0 ≤ n ∧ n ≤ 10000000
theorem numsS_short : ∀ {l : List Int}, SmL l → (numsS l).length ≤ 9 * l.length
 | [], _ => by simp [numsS]
 | n :: l, h => by
  have h1 := itoa_short (h n (by simp)).1 (h n (by simp)).2
  have h2 := numsS_short (l := l) fun k hk => h k (by simp [hk])
  simp only [numsS, List.flatMap_cons, List.length_append, List.length_cons] at h2 ⊢
  omega
theorem rowS_short {w : By} {l : List Int} (h : SmL l) : (rowS w l).length ≤ w.length + 9 * l.length + 1 := by
 have := numsS_short h
 simp only [rowS, List.length_append, List.length_singleton]
 omega
theorem pl_sm {l : List Pl} (h : PlIn l) {c : Pl} (hc : c ∈ l) : SmL (plL c) := by
 intro n hn
 have := h c hc
 simp only [plL, List.mem_cons, List.not_mem_nil, or_false] at hn
 omega
theorem ha_sm {h : Ha} (V : VH h) : SmL (haL h) := by
 intro n hn
 have := V.w1; have := V.w2; have := V.d1; have := V.d2; have := V.x1; have := V.x2; have := V.y1; have := V.y2
 simp only [haL, List.mem_cons, List.not_mem_nil, or_false] at hn
 omega
theorem ki_sm {h : Ha} {k : Ki} (V : VK h k) : SmL (kiL k) := by
 intro n hn
 have := V.lo0; have := V.loHi; have := V.hi1; have := V.rent0; have := V.rent1; have := V.most0; have := V.most1
 simp only [kiL, List.cons_append, List.nil_append, List.mem_cons, List.not_mem_nil, or_false] at hn
 rcases hn with h1 | h1 | h1 | h1 | h1 | h1
 ·omega
 ·omega
 ·rw [h1]; unfold b01; split <;> omega
 ·omega
 ·omega
 ·have := V.awayIn n h1; omega
theorem be_sm {h : Ha} (V : VH h) {n : Int} (hn : n ∈ h.bears) : SmL [n] := by
 intro k hk
 simp only [List.mem_singleton] at hk
 rw [hk]; exact V.bearsIn n hn
theorem end_sm {h : Ha} (V : VH h) : SmL [(h.kinds.length : Int)] := by
 intro k hk
 simp only [List.mem_singleton] at hk
 have := V.kinds6
 omega
theorem ki_away {h : Ha} {k : Ki} (V : VH h) (hk : k ∈ h.kinds) : k.away.length ≤ 6 := by
 rw [(V.kind k hk).away]; exact V.kinds6
theorem bears_len {h : Ha} (V : VH h) : h.bears.length ≤ 24 := by
 have h1 := V.bears
 have h2 := baysLe V
 omega
theorem l1 {l : List Int} (h : l.length = 1) : [l.getD 0 0] = l := by
 match l, h with
 | [a], _ => rfl
theorem l2 {l : List Int} (h : l.length = 2) : plL (plOf l) = l := by
 match l, h with
 | [a, b], _ => rfl
theorem l4 {y : Ha} {l : List Int} (h : l.length = 4) : haL (haOf y l) = l := by
 match l, h with
 | [a, b, c, d], _ => rfl
end Go.Proofs.YtnjgdlmddlinaaaDoor
