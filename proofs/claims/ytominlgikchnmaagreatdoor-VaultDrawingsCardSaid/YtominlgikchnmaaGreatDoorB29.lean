/- A part of the proofs about the chapter of the vaults; it states no condition of its own. -/
import Derived.Test.YtominlgikchnmaaGreatDoorB14
import Derived.Test.YtominlgikchnmaaGreatDoorB19
import Derived.Test.YtominlgikchnmaaGreatDoorB23
import Derived.Test.YtominlgikchnmaaGreatDoorB26
import Derived.Test.YtominlgikchnmaaGreatDoorB27
import Derived.Laws.Cover3
import Derived.Lib.ItoaLen
set_option linter.unusedVariables false
set_option linter.unusedSimpArgs false
open Int renaming reduceLE → zA, reduceLT → zB, reduceToNat → zC, reduceNeg → zD
open Nat renaming reduceLT → zE, reduceEqDiff → zF, reduceAdd → zG, reduceSub → zH, reduceMul → zI, reduceLeDiff → zJ
/- Functions that a closed run takes by their contracts. (Vm) -/
namespace Go.Proofs.YtominlgikchnmaaGreatDoor.Vm
open Go Go.Proofs
def mapO {α β : Type} (f : α → Option β) : List α → Option (List β)
 | [] => some []
 | x :: xs => match f x, mapO f xs with
  | some y, some ys => some (y :: ys)
  | _, _ => none
def unInt : List PV → Option Int
 | [.int .i64 n] => some n
 | _ => none
def unPl : List PV → Option Pl
 | [.int .i64 x, .int .i64 y] => some ⟨x, y⟩
 | _ => none
def unPu : List PV → Option Pu
 | [.int .i64 x, .int .i64 y, .int .i64 k] => some ⟨⟨x, y⟩, k⟩
 | _ => none
def unKi : List PV → Option Ki
 | [.int .i64 lo, .int .i64 hi, .bool w, .sl 1 aw, .int .i64 r, .int .i64 m] => match mapO unInt aw with
  | some a => some ⟨lo, hi, w, a, r, m⟩
  | none => none
 | _ => none
def unHall : VV → Option Ha
 | .agg [.p (.int .i64 w), .p (.int .i64 d), .p (.sl 2 wa), .p (.sl 2 sh), .p (.int .i64 bx), .p (.int .i64 by_), .p (.sl 1 be), .p (.sl 6 ks)] => match mapO unPl wa, mapO unPl sh, mapO unInt be, mapO unKi ks with
  | some wa, some sh, some be, some ks => some ⟨w, d, wa, sh, ⟨bx, by_⟩, be, ks⟩
  | _, _, _, _ => none
 | _ => none
def unPus : VV → Option (List Pu)
 | .p (.sl 3 l) => mapO unPu l
 | _ => none
theorem mapO_ok {α β : Type} {f : α → Option β} {g : β → α} (h : ∀ x y, f x = some y → x = g y) : ∀ {l : List α} {l' : List β}, mapO f l = some l' → l = l'.map g
 | [], l', e => by cases e; rfl
 | x :: xs, l', e => by
  simp only [mapO] at e
  split at e
  ·rename_i y ys h1 h2
   cases e
   rw [h x y h1, mapO_ok h h2]; rfl
  ·cases e
theorem unInt_ok (x : List PV) (y : Int) (e : unInt x = some y) : x = intP y := by
 unfold unInt at e
 split at e <;> cases e
 rfl
theorem unPl_ok (x : List PV) (y : Pl) (e : unPl x = some y) : x = plP y := by
 unfold unPl at e
 split at e <;> cases e
 rfl
theorem unPu_ok (x : List PV) (y : Pu) (e : unPu x = some y) : x = puP y := by
 unfold unPu at e
 split at e <;> cases e
 rfl
theorem unKi_ok (x : List PV) (y : Ki) (e : unKi x = some y) : x = kiP y := by
 unfold unKi at e
 split at e
 ·split at e
  ·rename_i a ha
   cases e
   rw [mapO_ok unInt_ok ha]
  ·cases e
 ·cases e
theorem unHall_ok {v : VV} {h : Ha} (e : unHall v = some h) : v = hallV h := by
 unfold unHall at e
 split at e
 ·split at e
  ·rename_i h1 h2 h3 h4
   cases e
   rw [mapO_ok unPl_ok h1, mapO_ok unPl_ok h2, mapO_ok unInt_ok h3, mapO_ok unKi_ok h4]
  ·cases e
 ·cases e
theorem unPus_ok {v : VV} {l : List Pu} (e : unPus v = some l) : v = pusV l := by
 unfold unPus at e
 split at e
 ·rw [mapO_ok unPu_ok e]
 ·cases e
def finB (h : Ha) : Bool := Nat.ble h.water.length 1000000 && Nat.ble h.shut.length 1000000 && Nat.ble h.bears.length 1000000 && Nat.ble h.kinds.length 1000000 && h.kinds.all fun k => Nat.ble k.away.length 1000000
theorem finB_ok {h : Ha} (e : finB h = true) : Fin h := by
 simp only [finB, Bool.and_eq_true, Nat.ble_eq, List.all_eq_true] at e
 exact ⟨e.1.1.1.1, e.1.1.1.2, e.1.1.2, e.1.2, e.2⟩
def goodB (h : Ha) (o : Pu) : Bool := isPl h o.pl && isKind h o.kind
def prim0 : CallT := fun f args M =>
 bif Nat.beq f 32 then (match args with
  | [a] => match unHall a with
   | some h => bif finB h then some (vi (hallErr h), M) else none
   | none => none
  | _ => none)
 else bif Nat.beq f 55 then (match args with
  | [a, b] => match unHall a, unPus b with
   | some h, some l => bif decide (hallErr h = 0) && Nat.ble l.length 1000000 then some (vi (layErr h l), M) else none
   | _, _ => none
  | _ => none)
 else bif Nat.beq f 49 then (match args with
  | [a, b] => match unHall a, unPus b with
   | some h, some l => bif decide (hallErr h = 0) && Nat.ble l.length 500 && l.all (goodB h) then some (vi (verdictOf h l), M) else none
   | _, _ => none
  | _ => none)
 else none
theorem prim0_ok (f : Nat) (args : List VV) (M : Mem) (r : VV) (M' : Mem) (e : prim0 f args M = some (r, M')) : VC Tryz.prog f args M (eqQ r M') := by
 unfold prim0 at e
 cases h1 : Nat.beq f 32 with
 | true =>
  have := Nat.eq_of_beq_eq_true h1
  subst this
  rw [h1] at e
  simp only [cond_true] at e
  split at e
  ·rename_i a
   split at e
   ·rename_i h hh
    cases hf : finB h with
    | false => rw [hf] at e; cases e
    | true =>
     rw [hf] at e
     cases e
     rw [unHall_ok hh]
     exact (check_vm h M (finB_ok hf)).mono fun r M' ⟨q1, q2⟩ => ⟨q2, q1⟩
   ·cases e
  ·cases e
 | false =>
 rw [h1] at e
 simp only [cond_false] at e
 cases h2 : Nat.beq f 55 with
 | true =>
  have := Nat.eq_of_beq_eq_true h2
  subst this
  rw [h2] at e
  simp only [cond_true] at e
  split at e
  ·rename_i a b
   split at e
   ·rename_i h l hh hl
    cases hf : decide (hallErr h = 0) && Nat.ble l.length 1000000 with
    | false => rw [hf] at e; cases e
    | true =>
     rw [hf] at e
     cases e
     rw [Bool.and_eq_true, Nat.ble_eq, decide_eq_true_eq] at hf
     rw [unHall_ok hh, unPus_ok hl]
     exact (checklayout_vm h l M (VH.of hf.1) hf.2).mono fun r M' ⟨q1, q2⟩ => ⟨q2, q1⟩
   ·cases e
  ·cases e
 | false =>
 rw [h2] at e
 simp only [cond_false] at e
 cases h3 : Nat.beq f 49 with
 | true =>
  have := Nat.eq_of_beq_eq_true h3
  subst this
  rw [h3] at e
  simp only [cond_true] at e
  split at e
  ·rename_i a b
   split at e
   ·rename_i h l hh hl
    cases hf : decide (hallErr h = 0) && Nat.ble l.length 500 && l.all (goodB h) with
    | false => rw [hf] at e; cases e
    | true =>
     rw [hf] at e
     cases e
     rw [Bool.and_eq_true, Bool.and_eq_true, Nat.ble_eq, decide_eq_true_eq, List.all_eq_true] at hf
     rw [unHall_ok hh, unPus_ok hl]
     refine (bears_vm h l M (VH.of hf.1.1) (fun o ho => ?_) hf.1.2).mono fun r M' ⟨q1, q2⟩ => ⟨q2, q1⟩
     have := hf.2 o ho
     rw [goodB, Bool.and_eq_true] at this
     exact this
   ·cases e
  ·cases e
 | false => rw [h3] at e; cases e
end Go.Proofs.YtominlgikchnmaaGreatDoor.Vm

/- Copies that may be nil, on values. (Vm) -/
namespace Go.Proofs.YtominlgikchnmaaGreatDoor.Vm
open Go Go.Proofs
theorem run_eql_nil {P : Program} (w : World) (t e : TypeId) (a : Option Addr) (l c : Nat) (h : P.underlying t = some (.slice e)) : (binOp .eql t (.slice a l c) (.slice none 0 0)).run P w = .ok (.bool a.isNone) w := by
 simp only [binOp]
 simp [run_equal_slice_nil w t e a l c h]
theorem W_niltest {cx : Cx} {e : Env} {M : Mem} {D : List Nat} {Q : PQ} {id d0 d1 x k t yt et ty0 ty1 : Nat} {p0 p1 : String} {af0 af1 : Array Edge} {xs : List (List PV)} (ht : Tryz.prog.underlying t = some (.slice et)) (hx : get e x = .p (.sl k xs)) (h0 : d0 < cx.nt) (h1 : d1 < cx.nt)
  (h : ∀ b, (b = true → xs = []) → Q .normal ((d1, vb b) :: (d0, .p (.sl k xs)) :: e) M D) :
  WCode Tryz.prog cx (.region id #[{ dst := some d0, op := .move (.tmp x), type := ty0, pos := p0, after := af0, guard := none }, { dst := some d1, op := .binOp .eql t (.tmp d0) (.const (.slice none 0 0)) yt, type := ty1, pos := p1, after := af1, guard := none }] false) e M D Q := by
 intro G w K a hs
 refine wpIn_region ?_
 show wpOpsIn (fence (cx.rd.bind K)) 0 Tryz.prog _ _ (List.range' 0 2) a w
 simp only [List.range'_succ, List.range'_zero, wpOpsIn, List.getElem?_toArray, List.getElem?_cons_zero, List.getElem?_cons_succ, Region.wanted, if_true]
 refine wop_ok (T := T) (o := { dst := some d0, op := .move (.tmp x), type := ty0, pos := p0, after := af0, guard := none }) T_ok hs.fr hs.inv (Qv := fun v M' => v = .p (.sl k xs) ∧ M' = M) (by show _ ∧ _; exact ⟨hx, rfl⟩) ?_
 rintro rv v w' K' M' ⟨rfl, rfl⟩ hr hc hE hI
 obtain ⟨hf', hd'⟩ := put_ok (hs.fr.ext hE) (dst := some d0) (e' := (d0, .p (.sl k xs)) :: e) (by simp [vput, nat_blt, h0]) hr hc
 have hr0 := (hf'.ev (.tmp d0)).1
 rw [show ev ((d0, .p (.sl k xs)) :: e) (.tmp d0) = .p (.sl k xs) by simp [ev, get_cons]] at hr0
 refine ⟨fun _ _ => trivial, ?_⟩
 rw [Oper.semAt_eq _ _ _ (fun c hc => by cases hc)]
 generalize hv : (a.put (some d0) rv).eval (.tmp d0) = v0 at hr0
 cases hr0 with
 | p _ _ hp =>
 cases hp with
 | sl A c _ b off _ f q1 q2 q3 q4 q5 q6 q7 =>
 have hrun : (execOp (a.put (some d0) rv).eval { dst := some d1, op := .binOp .eql t (.tmp d0) (.const (.slice none 0 0)) yt, type := ty1, pos := p1, after := af1, guard := none }).run Tryz.prog w' = .ok (.value (.bool A.isNone)) w' := by
  simp only [execOp]
  rw [hv]
  have h9 := run_eql_nil (P := Tryz.prog) w' t et A xs.length c ht
  exact run_bind_ok h9
 rw [hrun]
 have hb : A.isNone = true → xs = [] := fun hn => by
  cases xs with
  | nil => rfl
  | cons y ys =>
   rw [q4 (by simp)] at hn
   cases hn
 obtain ⟨hf2, hd2⟩ := put_ok (dst := some d1) (e' := (d1, vb A.isNone) :: (d0, .p (.sl k xs)) :: e) (rv := .bool A.isNone) hf' (by simp [vput, nat_blt, h1]) (.p _ _ (.bool _)) (fun r hr => by simp [refs] at hr)
 exact ⟨_, M', K', D, h _ hb, trivial, ⟨hf2, by rw [hd2, hd']; exact df_ext hE hs.df, hI, (rd_ext hE hs.rd).1⟩, hE⟩
theorem clone_v (k : Nat) (l : List (List PV)) (M : Mem) (hk : k = 3 ∨ l = []) (hl : l.length ≤ 1000000) : VC Tryz.prog 54 [.p (.sl k l)] M (fun r M' => M' = ⟨M.H ++ [.clm l.length 3], M.lg⟩ ∧ r = .so M.H.length 3 l) := by
 have q1 : (l.length * 24 ≤ 140737488355328) = True := eq_true (by omega)
 have q2 : (decide (k = 3) || l.isEmpty) = true := by rcases hk with rfl | rfl <;> simp
 refine VC_keep T_ok (f := 54) (fn := Tryz.f54) (by kernel_rfl) rfl Tryz.ntmps54 (by rfl) (by rfl) ?_
 ((repeat refine Ws ?_);refine Wr ?_)
 simp (maxSteps := 1000000) only [VL,VM,↓VG,reduceIte,reduceCtorEq,zA,zB,zC,zD,zE,zF,zG,zH,zI,zJ]
 (repeat refine Ws ?_)
 refine W_niltest (k := k) (xs := l) (et := 58) Tryz.underlying53 rfl (by decide) (by decide) ?_
 intro b hb
 simp only [thenQ]
 cases b
 ·((repeat refine Ws ?_);refine Wf (by first|rfl|simp only [EV,zF,reduceIte]) ?_)
  ((repeat refine Ws ?_);refine W_skip ?_)
  simp (maxSteps := 1000000) only [VL,VM,↓VG,reduceIte,reduceCtorEq,zA,zB,zC,zD,zE,zF,zG,zH,zI,zJ]
  ((repeat refine Ws ?_);refine Wr ?_)
  simp (maxSteps := 1000000) only [VL,VM,↓VG,reduceIte,reduceCtorEq,zA,zB,zC,zD,zE,zF,zG,zH,zI,zJ, q1, q2]
  (repeat refine Ws ?_)
  exact W_ret ⟨.inr rfl, rfl, [.so M.H.length 3 l], rfl, rfl, rfl⟩
 ·have := hb rfl
  subst this
  ((repeat refine Ws ?_);refine Wt (by first|rfl|simp only [EV,zF,reduceIte]) ?_)
  ((repeat refine Ws ?_);refine Wr ?_)
  simp (maxSteps := 1000000) only [VL,VM,↓VG,reduceIte,reduceCtorEq,zA,zB,zC,zD,zE,zF,zG,zH,zI,zJ]
  refine W_tok (t := 2) (k := 3) rfl ?_
  (repeat refine Ws ?_)
  exact W_ret ⟨.inr rfl, rfl, [.so M.H.length 3 []], rfl, rfl, rfl⟩
end Go.Proofs.YtominlgikchnmaaGreatDoor.Vm

/- A call on its own, and the same call among other objects. (Vm) -/
namespace Go.Proofs.YtominlgikchnmaaGreatDoor.Vm
open Go Go.Proofs
def flatV : VV → Bool
 | .p _ => true
 | .agg cs => cs.all fun c => match c with
  | .p _ => true
  | _ => false
 | _ => false
theorem rep_alone {w : World} {K : Nat → Option Nat} {H : List VObj} {v : Value} {x : VV} (hf : flatV x = true) (h : RepV w K H v x) : RepV w (fun _ => none) [] v x := by
 have hI : ∀ b o, b < w.heap.size → Im K H b o → Im (fun _ => none) [] b o ∧ w.cell? ⟨b, o, none⟩ = w.cell? ⟨b, o, none⟩ := fun b o _ _ => ⟨fun i ob hi _ => by simp at hi, rfl⟩
 cases h with
 | p v x h => exact .p v x (h.ext hI)
 | agg vs cs hs h1 h2 =>
  refine .agg vs cs hs h1 fun i v c hv hc => ?_
  have h3 := h2 i v c hv hc
  simp only [flatV, List.all_eq_true] at hf
  have h4 := hf c (List.mem_of_getElem? hc)
  cases h3 with
  | p v x h => exact .p v x (h.ext hI)
  | _ => cases h4
 | _ => cases hf
def flatP : PV → Bool
 | .sl _ _ => false
 | _ => true
theorem repP_flat {w : World} {I I' : Nat → Nat → Prop} {v : Value} {x : PV} (hf : flatP x = true) (h : RepP w I v x) : RepP w I' v x := by
 cases h with
 | int k n => exact .int k n
 | bool b => exact .bool b
 | str s => exact .str s
 | nilp => exact .nilp
 | nilm => exact .nilm
 | nilf => exact .nilf
 | ifn => exact .ifn
 | ifs t v => exact .ifs t v
 | sl => cases hf
theorem alone_flat {f : Nat} {args : List VV} {v : PV} {M1 : Mem} (hv : VC Tryz.prog f args ⟨[], []⟩ (eqQ (.p v) M1)) (ha : ∀ a ∈ args, flatV a = true) (hf : flatP v = true) (M : Mem) : VC Tryz.prog f args M (eqQ (.p v) M) := by
 intro G w K rargs hI hA
 have hI0 : Inv ⟨w.heap.size, w, fun _ => False, G.lz.step hI.gB hI.old⟩ w (fun _ => none) ⟨[], []⟩ := ⟨rfl, rfl, rfl, Nat.le_refl _, Nat.le_refl _, fun _ _ _ => rfl, fun i j b hi => by simp at hi, fun i b hi => by simp at hi, fun i o hi => by simp at hi, fun i o hi => by simp at hi, fun e he => by simp at he, fun i L hi => by simp at hi⟩
 have hA0 : ArgsOk w (fun _ => none) ⟨[], []⟩ rargs args := ⟨⟨hA.rep.1, fun i a b h1 h2 => rep_alone (ha b (List.mem_of_getElem? h2)) (hA.rep.2 i a b h1 h2)⟩, fun a ham r hr => by
  have h1 := ha a ham
  cases a with
  | p x => simp [refs] at hr
  | agg cs =>
   simp only [refs] at hr
   obtain ⟨c, hc, hr⟩ := mem_refsL.1 hr
   simp only [flatV, List.all_eq_true] at h1
   have h2 := h1 c hc
   cases c with
   | p x => simp [refs] at hr
   | _ => cases h2
  | _ => cases h1⟩
 refine CallsIn.mono (hv _ w _ rargs hI0 hA0) ?_
 rintro e w' ⟨rv, r, K', M', rfl, ⟨rfl, rfl⟩, hr, hc, hE, hI'⟩
 obtain ⟨e1, i1⟩ := step_made (w' := w') hI ⟨hI'.os, hI'.tape, hI'.output, hI'.size⟩ (fun b hb => hI'.old b hb (fun h => h))
 cases hr with
 | p _ _ hp => exact ⟨rv, .p v, K, M, rfl, ⟨rfl, rfl⟩, .p _ _ (repP_flat hf hp), fun r hr => by simp [refs] at hr, e1, i1⟩
theorem alone_so {f : Nat} {args : List VV} {id k : Nat} {xs : List (List PV)} {M1 : Mem} (hv : VC Tryz.prog f args ⟨[], []⟩ (eqQ (.so id k xs) M1)) (ha : ∀ a ∈ args, flatV a = true) (hc : M1.H[id]? = some (.clm xs.length k)) (hf : ∀ x ∈ xs, ∀ u ∈ x, flatP u = true) (M : Mem) : VC Tryz.prog f args M (eqQ (.p (.sl k xs)) M) := by
 intro G w K rargs hI hA
 have hI0 : Inv ⟨w.heap.size, w, fun _ => False, G.lz.step hI.gB hI.old⟩ w (fun _ => none) ⟨[], []⟩ := ⟨rfl, rfl, rfl, Nat.le_refl _, Nat.le_refl _, fun _ _ _ => rfl, fun i j b hi => by simp at hi, fun i b hi => by simp at hi, fun i o hi => by simp at hi, fun i o hi => by simp at hi, fun e he => by simp at he, fun i L hi => by simp at hi⟩
 have hA0 : ArgsOk w (fun _ => none) ⟨[], []⟩ rargs args := ⟨⟨hA.rep.1, fun i a b h1 h2 => rep_alone (ha b (List.mem_of_getElem? h2)) (hA.rep.2 i a b h1 h2)⟩, fun a ham r hr => by
  have h1 := ha a ham
  cases a with
  | p x => simp [refs] at hr
  | agg cs =>
   simp only [refs] at hr
   obtain ⟨c, hc, hr⟩ := mem_refsL.1 hr
   simp only [flatV, List.all_eq_true] at h1
   have h2 := h1 c hc
   cases c with
   | p x => simp [refs] at hr
   | _ => cases h2
  | _ => cases h1⟩
 refine CallsIn.mono (hv _ w _ rargs hI0 hA0) ?_
 rintro e w' ⟨rv, r, K', M', rfl, ⟨rfl, rfl⟩, hr, hcl, hE, hI'⟩
 obtain ⟨e1, i1⟩ := step_made (w' := w') hI ⟨hI'.os, hI'.tape, hI'.output, hI'.size⟩ (fun b hb => hI'.old b hb (fun h => h))
 refine ⟨rv, .p (.sl k xs), K, M, rfl, ⟨rfl, rfl⟩, ?_, fun r hr => by simp [refs] at hr, e1, i1⟩
 cases hr with
 | so _ _ _ _ hp ht =>
 obtain ⟨_, h2⟩ := ht _ _ hc
 obtain ⟨_, h3⟩ := h2 rfl
 refine .p _ _ ?_
 cases hp with
 | sl A c _ b off _ g q1 q2 q3 q4 q5 q6 q7 =>
 refine .sl A c k b off xs g q1 q2 q3 q4 (fun i x j u hx hu => ?_) q6 (fun i x j u hx hu => repP_flat (hf x (List.mem_of_getElem? hx) u (List.mem_of_getElem? hu)) (q7 i x j u hx hu))
 rcases h3 with ⟨b', c', vs, t, hb', hv', hw', _⟩ | ⟨_, h0, _⟩
 ·have hne : xs ≠ [] := fun e => by rw [e] at hx; simp at hx
  have hA' := q4 hne
  have hlen : (M'.H).length > id := (List.getElem?_eq_some_iff.1 hc).1
  have hbB := (hI'.blk id b' hlen hb').2
  rcases hbB with hbB | hbB
  ·intro i ob hi hK
   have hlt := (hI.blk i b (List.getElem?_eq_some_iff.1 hi).1 hK).1
   cases hv'
   cases hA'
   simp only at hbB
   omega
  ·exact hbB.elim
 ·have : xs = [] := List.eq_nil_of_length_eq_zero h0
  subst this
  simp at hx
theorem alone_sf {f : Nat} {args : List VV} {k : Nat} {M1 : Mem} (hv : VC Tryz.prog f args ⟨[], []⟩ (eqQ (.sf k []) M1)) (ha : ∀ a ∈ args, flatV a = true) (M : Mem) : VC Tryz.prog f args M (eqQ (.p (.sl k [])) M) := by
 intro G w K rargs hI hA
 have hI0 : Inv ⟨w.heap.size, w, fun _ => False, G.lz.step hI.gB hI.old⟩ w (fun _ => none) ⟨[], []⟩ := ⟨rfl, rfl, rfl, Nat.le_refl _, Nat.le_refl _, fun _ _ _ => rfl, fun i j b hi => by simp at hi, fun i b hi => by simp at hi, fun i o hi => by simp at hi, fun i o hi => by simp at hi, fun e he => by simp at he, fun i L hi => by simp at hi⟩
 have hA0 : ArgsOk w (fun _ => none) ⟨[], []⟩ rargs args := ⟨⟨hA.rep.1, fun i a b h1 h2 => rep_alone (ha b (List.mem_of_getElem? h2)) (hA.rep.2 i a b h1 h2)⟩, fun a ham r hr => by
  have h1 := ha a ham
  cases a with
  | p x => simp [refs] at hr
  | agg cs =>
   simp only [refs] at hr
   obtain ⟨c, hc, hr⟩ := mem_refsL.1 hr
   simp only [flatV, List.all_eq_true] at h1
   have h2 := h1 c hc
   cases c with
   | p x => simp [refs] at hr
   | _ => cases h2
  | _ => cases h1⟩
 refine CallsIn.mono (hv _ w _ rargs hI0 hA0) ?_
 rintro e w' ⟨rv, r, K', M', rfl, ⟨rfl, rfl⟩, hr, hcl, hE, hI'⟩
 obtain ⟨e1, i1⟩ := step_made (w' := w') hI ⟨hI'.os, hI'.tape, hI'.output, hI'.size⟩ (fun b hb => hI'.old b hb (fun h => h))
 refine ⟨rv, .p (.sl k []), K, M, rfl, ⟨rfl, rfl⟩, ?_, fun r hr => by simp [refs] at hr, e1, i1⟩
 cases hr with
 | sf A _ _ hp =>
 exact .p _ _ (.sl A 0 k 0 0 [] (fun _ _ => .bool false) (Nat.le_refl _) (Nat.zero_le _) (fun x hx => by cases hx) (fun h => absurd rfl h) (fun i x j u hx => by simp at hx) (fun i x j u hx => by simp at hx) (fun i x j u hx => by simp at hx))
noncomputable def isoP (n : Nat) (f : Nat) (args : List VV) : Option VV :=
 bif args.all flatV then (match (evalsC T 100000 prim0 n).call f args ⟨[], []⟩ with
  | some (.so id k xs, M1) => (match M1.H[id]? with
   | some (.clm m k') => bif Nat.beq m xs.length && (Nat.beq k' k && xs.all fun x => x.all flatP) then some (.p (.sl k xs)) else none
   | _ => none)
  | some (.sf k [], _) => some (.p (.sl k []))
  | some (.p v, _) => bif flatP v then some (.p v) else none
  | _ => none)
 else none
theorem isoP_ok {n f : Nat} {args : List VV} {r : VV} (h : isoP n f args = some r) (M : Mem) : VC Tryz.prog f args M (eqQ r M) := by
 unfold isoP at h
 cases ha : args.all flatV with
 | false => rw [ha] at h; cases h
 | true =>
 rw [ha] at h
 rw [List.all_eq_true] at ha
 simp only [cond_true] at h
 split at h
 ·rename_i id k xs M1 he
  split at h
  ·rename_i m k' hm
   cases hb : Nat.beq m xs.length && (Nat.beq k' k && xs.all fun x => x.all flatP) with
   | false => rw [hb] at h; cases h
   | true =>
    rw [hb] at h
    cases h
    rw [Bool.and_eq_true, Bool.and_eq_true, List.all_eq_true] at hb
    obtain ⟨b1, b2, b3⟩ := hb
    have b1 := Nat.eq_of_beq_eq_true b1
    have b2 := Nat.eq_of_beq_eq_true b2
    subst b1 b2
    exact alone_so (closed_run T_ok prim0_ok he) ha hm (fun x hx u hu => List.all_eq_true.1 (b3 x hx) u hu) M
  ·cases h
 ·rename_i k M1 he
  cases h
  exact alone_sf (closed_run T_ok prim0_ok he) ha M
 ·rename_i v M1 he
  cases hb : flatP v with
  | false => rw [hb] at h; cases h
  | true =>
   rw [hb] at h
   cases h
   exact alone_flat (closed_run T_ok prim0_ok he) ha hb M
 ·cases h
noncomputable def primA : CallT := fun f args M =>
 bif Nat.beq f 53 then (match isoP 12 f args with
  | some r => some (r, M)
  | none => none)
 else bif Nat.beq f 54 then (match args with
  | [.p (.sl k xs)] => bif (Nat.beq k 3 || xs.isEmpty) && Nat.ble xs.length 1000000 then some (.so M.H.length 3 xs, ⟨M.H ++ [.clm xs.length 3], M.lg⟩) else none
  | _ => none)
 else prim0 f args M
theorem primA_ok (f : Nat) (args : List VV) (M : Mem) (r : VV) (M' : Mem) (e : primA f args M = some (r, M')) : VC Tryz.prog f args M (eqQ r M') := by
 unfold primA at e
 cases h1 : Nat.beq f 53 with
 | true =>
  rw [h1] at e
  simp only [cond_true] at e
  split at e
  ·rename_i r' hr
   cases e
   exact isoP_ok hr M
  ·cases e
 | false =>
 rw [h1] at e
 simp only [cond_false] at e
 cases h2 : Nat.beq f 54 with
 | true =>
  have := Nat.eq_of_beq_eq_true h2
  subst this
  rw [h2] at e
  simp only [cond_true] at e
  split at e
  ·rename_i k xs
   cases hb : (Nat.beq k 3 || xs.isEmpty) && Nat.ble xs.length 1000000 with
   | false => rw [hb] at e; cases e
   | true =>
    rw [hb] at e
    cases e
    rw [Bool.and_eq_true, Bool.or_eq_true, Nat.ble_eq, List.isEmpty_iff] at hb
    refine (clone_v k xs M (hb.1.imp (fun h => Nat.eq_of_beq_eq_true h) id) hb.2).mono fun r M' ⟨q1, q2⟩ => ⟨q2, q1⟩
  ·cases e
 | false =>
 rw [h2] at e
 exact prim0_ok f args M r M' e
end Go.Proofs.YtominlgikchnmaaGreatDoor.Vm

/- The examples that every statement of the vaults looks at. (Vm) -/
namespace Go.Proofs.YtominlgikchnmaaGreatDoor.Vm
open Go Go.Proofs
theorem awake_run : (evalsC T 100000 primA 40).call 6 [] ⟨[], []⟩ = some (vb true, ⟨[], []⟩) := by kernel_rfl
theorem awake_v (M : Mem) : VC Tryz.prog 6 [] M (fun r M' => M' = M ∧ r = vb true) :=
 (alone_flat (closed_run T_ok primA_ok awake_run) (fun a h => by cases h) rfl M).mono fun r M' ⟨q1, q2⟩ => ⟨q2, q1⟩
end Go.Proofs.YtominlgikchnmaaGreatDoor.Vm

/- Plain: the drawing of a hall. -/
namespace Go.Proofs.YtominlgikchnmaaGreatDoor
open Go
def wHall : By := [104, 97, 108, 108]
def wWater : By := [119, 97, 116, 101, 114]
def wShut : By := [115, 104, 117, 116]
def wBears : By := [98, 101, 97, 114, 115]
def wKind : By := [107, 105, 110, 100]
def wEnd : By := [101, 110, 100]
def numsS (l : List Int) : By := l.flatMap fun n => 32 :: Lib.itoa n
def rowS (w : By) (l : List Int) : By := w ++ numsS l ++ [10]
theorem numsS_take {l : List Int} {i : Nat} (h : i < l.length) : numsS (l.take (i + 1)) = numsS (l.take i) ++ (32 :: Lib.itoa l[i]) := by
 rw [List.take_succ_eq_append_getElem h]
 unfold numsS
 rw [List.flatMap_append]
 simp
theorem itoa_len {n : Int} (h0 : -9223372036854775808 ≤ n) (h1 : n ≤ 9223372036854775807) : (Lib.itoa n).length ≤ 21 := Lib.itoa_length_le n h0 h1
def FitL (l : List Int) : Prop := ∀ n ∈ l, -9223372036854775808 ≤ n ∧ n ≤ 9223372036854775807
theorem numsS_len : ∀ {l : List Int}, FitL l → (numsS l).length ≤ 22 * l.length
 | [], _ => by simp [numsS]
 | n :: l, h => by
  have h1 := itoa_len (h n (by simp)).1 (h n (by simp)).2
  have h2 := numsS_len (l := l) fun x hx => h x (List.mem_cons_of_mem _ hx)
  unfold numsS at h2 ⊢
  rw [List.flatMap_cons, List.length_append, List.length_cons, List.length_cons]
  omega
theorem FitL.take {l : List Int} (h : FitL l) (i : Nat) : FitL (l.take i) := fun n hn => h n (List.mem_of_mem_take hn)
theorem byF_len {α : Type} {f : α → By} {k : Nat} : ∀ {l : List α}, (∀ r ∈ l, (f r).length ≤ k) → (l.flatMap f).length ≤ k * l.length
 | [], _ => by simp
 | r :: l, h => by
  have h1 := h r (by simp)
  have h2 := byF_len (f := f) (l := l) fun x hx => h x (List.mem_cons_of_mem _ hx)
  rw [List.flatMap_cons, List.length_append, List.length_cons, Nat.mul_add]
  omega
theorem byF_take {α : Type} {f : α → By} {l : List α} {i : Nat} (h : i < l.length) : (l.take (i + 1)).flatMap f = (l.take i).flatMap f ++ f l[i] := by
 rw [List.take_succ_eq_append_getElem h, List.flatMap_append]
 simp

def plL (c : Pl) : List Int := [c.x, c.y]
def b01 (b : Bool) : Int := if b then 1 else 0
def kiL (k : Ki) : List Int := [k.lo, k.hi, b01 k.water, k.rent, k.most] ++ k.away
def haL (h : Ha) : List Int := [h.wide, h.deep, h.bay.x, h.bay.y]
def waS (l : List Pl) : By := l.flatMap fun c => rowS wWater (plL c)
def shS (l : List Pl) : By := l.flatMap fun c => rowS wShut (plL c)
def beS (l : List Int) : By := l.flatMap fun n => rowS wBears [n]
def kiS (l : List Ki) : By := l.flatMap fun k => rowS wKind (kiL k)
def writeS (h : Ha) : By := rowS wHall (haL h) ++ waS h.water ++ shS h.shut ++ beS h.bears ++ kiS h.kinds ++ rowS wEnd [(h.kinds.length : Int)]
def PlIn (l : List Pl) : Prop := ∀ c ∈ l, 0 ≤ c.x ∧ c.x ≤ 5 ∧ 0 ≤ c.y ∧ c.y ≤ 3
theorem cells_in {h : Ha} {l : List Pl} (V : VH h) (e : cellsErr h l = 0) : l.length ≤ 24 ∧ PlIn l := by
 unfold cellsErr at e
 split at e
 ·cases e
 ·refine ⟨by omega, fun c hc => ?_⟩
  obtain ⟨i, hi, rfl⟩ := List.getElem_of_mem hc
  have h1 := firstErr_zero.1 e i hi
  unfold cellErr at h1
  rw [List.getElem?_eq_getElem hi] at h1
  simp only at h1
  split at h1
  ·cases h1
  ·rename_i hp
   have hp' : isPl h l[i] = true := by simpa using hp
   unfold isPl at hp'
   rw [Bool.and_eq_true, inR_true, inR_true] at hp'
   have := V.w2; have := V.d2
   omega
theorem up_le {n b : Int} (hn : 1 ≤ n) (hb : 1 ≤ b) : 0 ≤ (n + b - 1) / b ∧ (n + b - 1) / b ≤ n := by
 rw [div_up hb]
 have := div_le (n := n - 1) (b := b) (by omega) hb
 omega
theorem baysLe {h : Ha} (V : VH h) : baysOf h ≤ 24 := by
 unfold baysOf colsOf
 have h1 := up_le V.w1 V.x1
 have h2 := up_le V.d1 V.y1
 have := V.w2; have := V.d2
 generalize (h.wide + h.bay.x - 1) / h.bay.x = a at h1 ⊢
 generalize (h.deep + h.bay.y - 1) / h.bay.y = b at h2 ⊢
 have h3 : a * b ≤ 6 * b := Int.mul_le_mul_of_nonneg_right (by omega) h2.1
 omega
theorem kiL_len (k : Ki) : (kiL k).length = 5 + k.away.length := by simp [kiL]; omega
end Go.Proofs.YtominlgikchnmaaGreatDoor

/- Temporaries known in another way; nil slices read as plain data. (Vm) -/
namespace Go.Proofs.YtominlgikchnmaaGreatDoor.Vm
open Go Go.Proofs
section
variable {P : Program} {T : Tab} {cx : Cx} {e : Env} {M : Mem} {D : List Nat} {Q : PQ} {c : Code}
end
end Go.Proofs.YtominlgikchnmaaGreatDoor.Vm

/- The reference's row and Write, on values. (Vm) -/
namespace Go.Proofs.YtominlgikchnmaaGreatDoor.Vm
open Go Go.Proofs
theorem lit32 : (⟨#[32]⟩ : ByteArray) = tx [32] := rfl
theorem lit10 : (⟨#[10]⟩ : ByteArray) = tx [10] := rfl
theorem rrow_v (w : By) (l : List Int) (M : Mem) (hl : l.length ≤ 1000000) (hw : w.length ≤ 1000000) (hf : FitL l) : VC Tryz.prog 38 [vs w, intsV l] M (fun r M' => M' = M ∧ r = vs (rowS w l)) := by
 refine VC_own' T_ok (f := 38) (fn := Tryz.f38) (by kernel_rfl) rfl Tryz.ntmps38 (by rfl) (by rfl) ?_
 ((repeat refine Ws ?_);refine W_regionE T_ok ?_; intro Kn hKn)
 ((simp (maxSteps := 1000000) only [VL,VM,↓VG,reduceIte,reduceCtorEq,zA,zB,zC,zD,zE,zF,zG,zH,zI,zJ]); rw [hKn];clear hKn Kn;simp only [QV,reduceIte,reduceCtorEq,Nat.reduceEqDiff])
 ((repeat refine Ws ?_);refine W_regionE T_ok ?_; intro Kn hKn)
 ((simp (maxSteps := 1000000) only [VL,VM,↓VG,reduceIte,reduceCtorEq,zA,zB,zC,zD,zE,zF,zG,zH,zI,zJ]); rw [hKn];clear hKn Kn;simp only [QV,reduceIte,reduceCtorEq,Nat.reduceEqDiff])
 ((repeat refine Ws ?_);refine W_block ?_; (repeat refine Ws ?_)); refine W_loopS (fun s : Nat => [(0, vs (w ++ numsS (l.take s))), (1, intsV l), (5, vi s)]) (fun s => M) (fun s => l.length - s) (fun s => s ≤ l.length) 0 (Nat.zero_le _) ⟨by simp [numsS, get_cons, zipEnv], rfl, rfl, trivial⟩ (by simp) ?_
 intro i hi
 have k1 : -9223372036854775808 ≤ (i : Int) + 1 ∧ (i : Int) + 1 < 9223372036854775808 := by omega
 ((repeat refine Ws ?_);refine W_regionE T_ok ?_; intro Kn hKn)
 rcases Nat.lt_or_ge i l.length with hlt | hge
 ·have k2 : ((i : Int) < (l.length : Int)) = True := eq_true (by omega)
  have hx := map_at (f := intP) (List.getElem?_eq_getElem hlt)
  have hm := hf _ (List.getElem_mem hlt)
  have key := numsS_take hlt
  have b1 := numsS_len (hf.take i)
  rw [List.length_take] at b1
  have b2 := itoa_len hm.1 hm.2
  have q1 := v_addS 9 (w ++ numsS (l.take i)) [32] (by rw [List.length_append]; simp; omega)
  have q2 := v_addS 9 (w ++ (numsS (l.take i) ++ [32])) (Lib.itoa l[i]) (by rw [List.length_append, List.length_append]; simp; omega)
  ((simp (maxSteps := 1000000) only [VL,VM,↓VG,reduceIte,reduceCtorEq,zA,zB,zC,zD,zE,zF,zG,zH,zI,zJ, k2]); rw [hKn];clear hKn Kn;simp only [QV,reduceIte,reduceCtorEq,Nat.reduceEqDiff])
  ((repeat refine Ws ?_);refine Wt (by first|rfl|simp only [EV,zF,reduceIte]) ?_)
  (((repeat refine Ws ?_);refine W_skip ?_); simp only [QV,reduceIte,reduceCtorEq,Nat.reduceEqDiff])
  ((repeat refine Ws ?_);refine W_block ?_)
  ((repeat refine Ws ?_);refine W_regionE T_ok ?_; intro Kn hKn)
  simp (maxSteps := 1000000) only [VL,VM,↓VG,reduceIte,reduceCtorEq,zA,zB,zC,zD,zE,zF,zG,zH,zI,zJ, hx, lit32, q1]
  apply call_eq (f := 35) (fn := Tryz.f35) (by kernel_rfl) (by rfl)
  ·exact itoa_v hm.1 hm.2 _
  ((simp (maxSteps := 1000000) only [VL,VM,↓VG,reduceIte,reduceCtorEq,zA,zB,zC,zD,zE,zF,zG,zH,zI,zJ, q2]); rw [hKn];clear hKn Kn;simp only [QV,reduceIte,reduceCtorEq,Nat.reduceEqDiff])
  ((repeat refine Ws ?_);refine W_regionE T_ok ?_; intro Kn hKn)
  ((simp (maxSteps := 1000000) only [VL,VM,↓VG,reduceIte,reduceCtorEq,zA,zB,zC,zD,zE,zF,zG,zH,zI,zJ, k1]); rw [hKn];clear hKn Kn;simp only [QV,reduceIte,reduceCtorEq,Nat.reduceEqDiff])
  refine LoopK.mk (i + 1) (by omega) (by omega) ⟨?_, rfl, rfl, trivial⟩ rfl
  rw [key]; simp [get_cons]
 ·have k2 : ((i : Int) < (l.length : Int)) = False := eq_false (by omega)
  obtain rfl : i = l.length := by omega
  ((simp (maxSteps := 1000000) only [VL,VM,↓VG,reduceIte,reduceCtorEq,zA,zB,zC,zD,zE,zF,zG,zH,zI,zJ, k2]); rw [hKn];clear hKn Kn;simp only [QV,reduceIte,reduceCtorEq,Nat.reduceEqDiff])
  ((repeat refine Ws ?_);refine Wf (by first|rfl|simp only [EV,zF,reduceIte]) ?_)
  (((repeat refine Ws ?_);refine W_exit ?_); simp only [QV,reduceIte,reduceCtorEq,Nat.reduceEqDiff])
  ((repeat refine Ws ?_);refine W_regionE T_ok ?_; intro Kn hKn)
  have b1 := numsS_len hf
  have q1 := v_addS 9 (w ++ numsS l) [10] (by rw [List.length_append]; simp; omega)
  ((simp (maxSteps := 1000000) only [VL,VM,↓VG,reduceIte,reduceCtorEq,zA,zB,zC,zD,zE,zF,zG,zH,zI,zJ, lit10, List.take_length, q1]); rw [hKn];clear hKn Kn;simp only [QV,reduceIte,reduceCtorEq,Nat.reduceEqDiff])
  (repeat refine Ws ?_)
  refine W_ret ?_
  try simp only [thenQ, blockQ]
  refine own_ret10 rfl ?_ (by rfl)
  simp only [get_cons, frz, vtup, Nat.reduceEqDiff, if_true, if_false, reduceIte]
  simp only [rowS, List.append_assoc]
end Go.Proofs.YtominlgikchnmaaGreatDoor.Vm

/- The reference's split, on values. (Vm) -/
namespace Go.Proofs.YtominlgikchnmaaGreatDoor.Vm
open Go Go.Proofs
structure SplS where
 i : Nat
 fr : Nat
 dn : List By
theorem u8_inj {a b : UInt8} : (a.toNat = b.toNat) ↔ a = b := ⟨fun h => UInt8.toNat_inj.1 h, fun h => by rw [h]⟩
theorem no_drop {c : UInt8} {s : By} {fr i : Nat} (h1 : fr ≤ i) (hi : i < s.length) (h : c ∉ (s.take i).drop fr) (hx : s[i] ≠ c) : c ∉ (s.take (i + 1)).drop fr := by
 rw [List.take_succ_eq_append_getElem hi, List.drop_append_of_le_length (by rw [List.length_take]; omega)]
 intro hm
 rcases List.mem_append.1 hm with hm | hm
 ·exact h hm
 ·exact hx (List.mem_singleton.1 hm).symm
theorem rsplit_v (c : UInt8) (s : By) (M : Mem) (hs : s.length ≤ 1000000) : VC Tryz.prog 43 [vs s, su c.toNat] M (fun r M' => M' = M ∧ r = strsW (cutL c s)) := by
 refine VC_own' T_ok (f := 43) (fn := Tryz.f43) (by kernel_rfl) rfl Tryz.ntmps43 (by rfl) (by rfl) ?_
 ((repeat refine Ws ?_);refine W_regionE T_ok ?_; intro Kn hKn)
 ((simp (maxSteps := 1000000) only [VL,VM,↓VG,reduceIte,reduceCtorEq,zA,zB,zC,zD,zE,zF,zG,zH,zI,zJ]); rw [hKn];clear hKn Kn;simp only [QV,reduceIte,reduceCtorEq,Nat.reduceEqDiff])
 ((repeat refine Ws ?_);refine W_regionE T_ok ?_; intro Kn hKn)
 ((simp (maxSteps := 1000000) only [VL,VM,↓VG,reduceIte,reduceCtorEq,zA,zB,zC,zD,zE,zF,zG,zH,zI,zJ]); rw [hKn];clear hKn Kn;simp only [QV,reduceIte,reduceCtorEq,Nat.reduceEqDiff])
 ((repeat refine Ws ?_);refine W_regionE T_ok ?_; intro Kn hKn)
 ((simp (maxSteps := 1000000) only [VL,VM,↓VG,reduceIte,reduceCtorEq,zA,zB,zC,zD,zE,zF,zG,zH,zI,zJ]); rw [hKn];clear hKn Kn;simp only [QV,reduceIte,reduceCtorEq,Nat.reduceEqDiff])
 (repeat refine Ws ?_)
 refine W_tok (t := 5) (k := 1) rfl ?_
 ((repeat refine Ws ?_);refine W_regionE T_ok ?_; intro Kn hKn)
 ((simp (maxSteps := 1000000) only [VL,VM,↓VG,reduceIte,reduceCtorEq,zA,zB,zC,zD,zE,zF,zG,zH,zI,zJ]); rw [hKn];clear hKn Kn;simp only [QV,reduceIte,reduceCtorEq,Nat.reduceEqDiff])
 ((repeat refine Ws ?_);refine W_block ?_; (repeat refine Ws ?_)); refine W_loopS (fun z : SplS => [(0, vs s), (1, su c.toNat), (5, .so M.H.length 1 (strsV z.dn)), (6, vi z.fr), (7, vi z.i)]) (fun z => ⟨M.H ++ [.clm z.dn.length 1], M.lg⟩) (fun z => s.length + 1 - z.i) (fun z => z.dn.length ≤ z.i ∧ ((z.i ≤ s.length ∧ z.fr ≤ z.i ∧ cutL c s = z.dn ++ cutL c (s.drop z.fr) ∧ c ∉ (s.take z.i).drop z.fr) ∨ (z.i = s.length + 1 ∧ z.dn = cutL c s))) ⟨0, 0, []⟩ ⟨Nat.zero_le _, .inl ⟨Nat.zero_le _, Nat.le_refl _, rfl, by simp⟩⟩ ⟨rfl, rfl, rfl, rfl, rfl, trivial⟩ (by simp) ?_
 rintro ⟨i, fr, dn⟩ ⟨hd, hI⟩
 simp only at hd hI
 have k1 : -9223372036854775808 ≤ (i : Int) + 1 ∧ (i : Int) + 1 < 9223372036854775808 := by omega
 rcases hI with ⟨hi, hf, hcut, hno⟩ | ⟨hi, hdn⟩
 rotate_left
 ·have k2 : ((i : Int) ≤ (s.length : Int)) = False := eq_false (by omega)
  ((repeat refine Ws ?_);refine W_regionE T_ok ?_; intro Kn hKn)
  ((simp (maxSteps := 1000000) only [VL,VM,↓VG,reduceIte,reduceCtorEq,zA,zB,zC,zD,zE,zF,zG,zH,zI,zJ, tx_size, k2]); rw [hKn];clear hKn Kn;simp only [QV,reduceIte,reduceCtorEq,Nat.reduceEqDiff])
  ((repeat refine Ws ?_);refine Wf (by first|rfl|simp only [EV,zF,reduceIte]) ?_)
  (((repeat refine Ws ?_);refine W_exit ?_); simp only [QV,reduceIte,reduceCtorEq,Nat.reduceEqDiff])
  ((repeat refine Ws ?_);refine W_regionE T_ok ?_; intro Kn hKn)
  ((simp (maxSteps := 1000000) only [VL,VM,↓VG,reduceIte,reduceCtorEq,zA,zB,zC,zD,zE,zF,zG,zH,zI,zJ]); rw [hKn];clear hKn Kn;simp only [QV,reduceIte,reduceCtorEq,Nat.reduceEqDiff])
  (repeat refine Ws ?_)
  refine W_ret ?_
  try simp only [thenQ, blockQ]
  refine own_ret1 rfl ?_ (by rfl)
  simp only [get_cons, frz, vtup, Nat.reduceEqDiff, if_true, if_false, reduceIte]
  rw [hdn]
 have k2 : ((i : Int) ≤ (s.length : Int)) = True := eq_true (by omega)
 have q1 : ((dn.length + 1) * 16 ≤ 140737488355328) = True := eq_true (by omega)
 have hlen : (strsV dn).length = dn.length := strs_len dn
 rcases Nat.lt_or_ge i s.length with hlt | hge
 ·have k3 : ((i : Int) = (s.length : Int)) = False := eq_false (by omega)
  have hx : (tx s)[i]? = some s[i] := by rw [tx_get, List.getElem?_eq_getElem hlt]
  by_cases hc : s[i] = c
  ·have k4 : (s[i].toNat = c.toNat) = True := eq_true (by rw [hc])
   have k5 : (i ≤ s.length) = True := eq_true (by omega)
   have k6 : (fr ≤ i) = True := eq_true hf
   have hst := cut_step c hf (by rw [List.getElem?_eq_getElem hlt, hc]) hno
   ((repeat refine Ws ?_);refine W_regionE T_ok ?_; intro Kn hKn)
   ((simp (maxSteps := 1000000) only [VL,VM,↓VG,reduceIte,reduceCtorEq,zA,zB,zC,zD,zE,zF,zG,zH,zI,zJ, tx_size, k2]); rw [hKn];clear hKn Kn;simp only [QV,reduceIte,reduceCtorEq,Nat.reduceEqDiff])
   ((repeat refine Ws ?_);refine Wt (by first|rfl|simp only [EV,zF,reduceIte]) ?_)
   (((repeat refine Ws ?_);refine W_skip ?_); simp only [QV,reduceIte,reduceCtorEq,Nat.reduceEqDiff])
   ((repeat refine Ws ?_);refine W_block ?_)
   ((repeat refine Ws ?_);refine W_regionE T_ok ?_; intro Kn hKn)
   ((simp (maxSteps := 1000000) only [VL,VM,↓VG,reduceIte,reduceCtorEq,zA,zB,zC,zD,zE,zF,zG,zH,zI,zJ, tx_size, k3, hx, u8_eql, k4]); rw [hKn];clear hKn Kn;simp only [QV,reduceIte,reduceCtorEq,Nat.reduceEqDiff])
   ((repeat refine Ws ?_);refine Wt (by first|rfl|simp only [EV,zF,reduceIte]) ?_)
   ((repeat refine Ws ?_);refine W_regionE T_ok ?_; intro Kn hKn)
   ((simp (maxSteps := 1000000) only [VL,VM,↓VG,reduceIte,reduceCtorEq,zA,zB,zC,zD,zE,zF,zG,zH,zI,zJ, tx_size, k5, k6, decide_true, Bool.and_true, tx_extract, hlen, q1]); rw [hKn];clear hKn Kn;simp only [QV,reduceIte,reduceCtorEq,Nat.reduceEqDiff])
   ((repeat refine Ws ?_);refine W_regionE T_ok ?_; intro Kn hKn)
   ((simp (maxSteps := 1000000) only [VL,VM,↓VG,reduceIte,reduceCtorEq,zA,zB,zC,zD,zE,zF,zG,zH,zI,zJ, k1]); rw [hKn];clear hKn Kn;simp only [QV,reduceIte,reduceCtorEq,Nat.reduceEqDiff])
   ((repeat refine Ws ?_);refine W_regionE T_ok ?_; intro Kn hKn)
   ((simp (maxSteps := 1000000) only [VL,VM,↓VG,reduceIte,reduceCtorEq,zA,zB,zC,zD,zE,zF,zG,zH,zI,zJ, k1]); rw [hKn];clear hKn Kn;simp only [QV,reduceIte,reduceCtorEq,Nat.reduceEqDiff])
   refine LoopK.mk ⟨i + 1, i + 1, dn ++ [(s.take i).drop fr]⟩ (by simp only; omega) ⟨by simp; omega, .inl ⟨by simp only; omega, Nat.le_refl _, ?_, by simp⟩⟩ ⟨rfl, rfl, ?_, rfl, rfl, trivial⟩ ?_
   ·simp only [List.append_assoc, List.singleton_append]
    rw [← hst, hcut]
   ·simp [get_cons, strsV]
   ·simp
  ·have k4 : (s[i].toNat = c.toNat) = False := eq_false (fun e => hc (u8_inj.1 e))
   ((repeat refine Ws ?_);refine W_regionE T_ok ?_; intro Kn hKn)
   ((simp (maxSteps := 1000000) only [VL,VM,↓VG,reduceIte,reduceCtorEq,zA,zB,zC,zD,zE,zF,zG,zH,zI,zJ, tx_size, k2]); rw [hKn];clear hKn Kn;simp only [QV,reduceIte,reduceCtorEq,Nat.reduceEqDiff])
   ((repeat refine Ws ?_);refine Wt (by first|rfl|simp only [EV,zF,reduceIte]) ?_)
   (((repeat refine Ws ?_);refine W_skip ?_); simp only [QV,reduceIte,reduceCtorEq,Nat.reduceEqDiff])
   ((repeat refine Ws ?_);refine W_block ?_)
   ((repeat refine Ws ?_);refine W_regionE T_ok ?_; intro Kn hKn)
   ((simp (maxSteps := 1000000) only [VL,VM,↓VG,reduceIte,reduceCtorEq,zA,zB,zC,zD,zE,zF,zG,zH,zI,zJ, tx_size, k3, hx, u8_eql, k4]); rw [hKn];clear hKn Kn;simp only [QV,reduceIte,reduceCtorEq,Nat.reduceEqDiff])
   ((repeat refine Ws ?_);refine Wf (by first|rfl|simp only [EV,zF,reduceIte]) ?_)
   (((repeat refine Ws ?_);refine W_skip ?_); simp only [QV,reduceIte,reduceCtorEq,Nat.reduceEqDiff])
   ((repeat refine Ws ?_);refine W_regionE T_ok ?_; intro Kn hKn)
   ((simp (maxSteps := 1000000) only [VL,VM,↓VG,reduceIte,reduceCtorEq,zA,zB,zC,zD,zE,zF,zG,zH,zI,zJ, k1]); rw [hKn];clear hKn Kn;simp only [QV,reduceIte,reduceCtorEq,Nat.reduceEqDiff])
   exact LoopK.mk ⟨i + 1, fr, dn⟩ (by simp only; omega) ⟨by simp only; omega, .inl ⟨by simp only; omega, by simp only; omega, hcut, no_drop hf hlt hno hc⟩⟩ ⟨rfl, rfl, rfl, rfl, rfl, trivial⟩ rfl
 ·obtain rfl : i = s.length := by omega
  have k3 : ((s.length : Int) = (s.length : Int)) = True := eq_true rfl
  have k5 : (s.length ≤ s.length) = True := eq_true (Nat.le_refl _)
  have k6 : (fr ≤ s.length) = True := eq_true hf
  rw [List.take_length] at hno
  ((repeat refine Ws ?_);refine W_regionE T_ok ?_; intro Kn hKn)
  ((simp (maxSteps := 1000000) only [VL,VM,↓VG,reduceIte,reduceCtorEq,zA,zB,zC,zD,zE,zF,zG,zH,zI,zJ, tx_size, k2]); rw [hKn];clear hKn Kn;simp only [QV,reduceIte,reduceCtorEq,Nat.reduceEqDiff])
  ((repeat refine Ws ?_);refine Wt (by first|rfl|simp only [EV,zF,reduceIte]) ?_)
  (((repeat refine Ws ?_);refine W_skip ?_); simp only [QV,reduceIte,reduceCtorEq,Nat.reduceEqDiff])
  ((repeat refine Ws ?_);refine W_block ?_)
  ((repeat refine Ws ?_);refine W_regionE T_ok ?_; intro Kn hKn)
  ((simp (maxSteps := 1000000) only [VL,VM,↓VG,reduceIte,reduceCtorEq,zA,zB,zC,zD,zE,zF,zG,zH,zI,zJ, tx_size, k3]); rw [hKn];clear hKn Kn;simp only [QV,reduceIte,reduceCtorEq,Nat.reduceEqDiff])
  ((repeat refine Ws ?_);refine Wt (by first|rfl|simp only [EV,zF,reduceIte]) ?_)
  ((repeat refine Ws ?_);refine W_regionE T_ok ?_; intro Kn hKn)
  ((simp (maxSteps := 1000000) only [VL,VM,↓VG,reduceIte,reduceCtorEq,zA,zB,zC,zD,zE,zF,zG,zH,zI,zJ, tx_size, k5, k6, decide_true, Bool.and_true, tx_extract, List.take_length, hlen, q1]); rw [hKn];clear hKn Kn;simp only [QV,reduceIte,reduceCtorEq,Nat.reduceEqDiff])
  ((repeat refine Ws ?_);refine W_regionE T_ok ?_; intro Kn hKn)
  ((simp (maxSteps := 1000000) only [VL,VM,↓VG,reduceIte,reduceCtorEq,zA,zB,zC,zD,zE,zF,zG,zH,zI,zJ, k1]); rw [hKn];clear hKn Kn;simp only [QV,reduceIte,reduceCtorEq,Nat.reduceEqDiff])
  ((repeat refine Ws ?_);refine W_regionE T_ok ?_; intro Kn hKn)
  ((simp (maxSteps := 1000000) only [VL,VM,↓VG,reduceIte,reduceCtorEq,zA,zB,zC,zD,zE,zF,zG,zH,zI,zJ, k1]); rw [hKn];clear hKn Kn;simp only [QV,reduceIte,reduceCtorEq,Nat.reduceEqDiff])
  refine LoopK.mk ⟨s.length + 1, s.length + 1, dn ++ [s.drop fr]⟩ (by simp only; omega) ⟨by simp; omega, .inr ⟨rfl, ?_⟩⟩ ⟨rfl, rfl, ?_, rfl, rfl, trivial⟩ ?_
  ·rw [hcut, cutL_none c hno]
  ·simp [get_cons, strsV]
  ·simp
end Go.Proofs.YtominlgikchnmaaGreatDoor.Vm

/- A function's end that hands out two results. (Vm) -/
namespace Go.Proofs.YtominlgikchnmaaGreatDoor.Vm
open Go Go.Proofs
theorem own_ret2t {T : Tab} {f : Nat} {fn : Func} {M : Mem} {L : List VObj} {e : Env} {t t' : Nat} {X Y : VV} (h1 : fn.results.toList = [.tmp t, .tmp t']) (hr : frz M.H.length (M.H ++ L) (get e t) = X) (hr' : frz M.H.length (M.H ++ L) (get e t') = Y) (h2 : refs X = []) (h2' : refs Y = []) : ownQ T f fn M (fun r M' => M' = M ∧ r = .tup [X, Y]) .ret e ⟨M.H ++ L, M.lg⟩ [] :=
 own_ret (vs := [get e t, get e t']) (by rw [h1]; rfl) (by simp only [vtup, frz, frzL, hr, hr']) (by simp [refs, refsL, h2, h2']) ⟨rfl, rfl⟩
theorem W_eqM {P : Program} {cx : Cx} {e : Env} {M M' : Mem} {D : List Nat} {Q : PQ} {c : Code} (h : M = M') (k : WCode P cx c e M' D Q) : WCode P cx c e M D Q := h ▸ k
theorem callf_eq {f : Nat} {fn : Func} {caps args : List VV} {M M1 : Mem} {v : VV} (hf : T.fn f = some fn) (hk : T.keeps f = false) (h : VC Tryz.prog f ((args ++ caps).map strip1) M (fun r M' => M' = M1 ∧ r = v)) {Q : VV → Mem → Prop} (hq : Q v M1) : VCall Tryz.prog (.fn (.func f) [] caps) args M Q :=
 (VCall_fn T_ok hf (by
   have : (sarg T f) = strip1 := funext fun v => by simp [sarg, hk]
   simpa [this] using h)).mono fun r M' e => by obtain ⟨rfl, rfl⟩ := e; exact hq
end Go.Proofs.YtominlgikchnmaaGreatDoor.Vm
