/- A part of the proofs about the chapter of the ramps; it states no condition of its own. -/
import Derived.Test.YtkipednlefbfpaaDoorB13
import Derived.Test.YtkipednlefbfpaaDoorB14
import Derived.Test.YtkipednlefbfpaaDoorB15
import Derived.Test.YtkipednlefbfpaaDoorB16
import Derived.Test.YtkipednlefbfpaaDoorB19
import Derived.Test.YtkipednlefbfpaaDoorB25
import Derived.Test.YtkipednlefbfpaaDoorB28
import Derived.Lib.Split
import Derived.Lib.SplitLaws
import Derived.Lib.ItoaNum
import Derived.Lib.AtoiAll
import Derived.Test.YtkipednlefbfpaaDoorRows
import Derived.Lib.AtoiTie
import Derived.Lib.ItoaLen
import Derived.Shelf.Strings.BuilderK
import Derived.Shelf.LaysM
import Derived.Shelf.Strconv.Itoa3
import Derived.Test.YtkipednlefbfpaaDoorProg
set_option linter.unusedVariables false
set_option linter.unusedSimpArgs false
open Int renaming reduceLE → zA, reduceLT → zB, reduceToNat → zC, reduceNeg → zD
open Nat renaming reduceLT → zE, reduceEqDiff → zF, reduceAdd → zG, reduceSub → zH, reduceMul → zI, reduceLeDiff → zJ
/- Copies of lists that keep their tokens: they may be appended to. (Vm) -/
namespace Go.Proofs.YtkipednlefbfpaaDoor.Vm
open Go Go.Proofs
theorem VC_keep {P : Program} {T : Tab} (hT : TabOk P T) {f : Nat} {fn : Func} {c : Code} {nt : Nat} {args : List VV} {M : Mem} {Q : VV → Mem → Prop} (hf : T.fn f = some fn) (hb : fn.body = some c) (hnt : fn.ntmps = nt) (hn : Nat.ble args.length nt = true) (hk : T.keeps f = true)
  (h : WCode P ⟨f, none, nt⟩ c (zipEnv 0 args) M [] (fun ex e M' D => (ex = .normal ∨ ex = .ret) ∧ D = [] ∧ ∃ vs, vresL T e M' fn.results.toList = some vs ∧ Q (vtup vs) M')) : VC P f args M Q := by
 subst hnt
 refine VC_fn hT hf hb (Nat.le_of_ble_eq_true hn) fun hlg => h.mono ?_
 rintro ex e M' D ⟨hex, rfl, vs, h1, h3⟩
 have key : retQ T f M.H.length fn Q .ret e M' [] := by
  simp only [retQ, vkill]
  have hM : ({ M' with H := M'.H } : Mem) = M' := rfl
  rw [hM, h1]
  simp only
  unfold vfinish
  rw [hk]
  exact h3
 rcases hex with rfl | rfl
 ·exact key
 ·exact key
end Go.Proofs.YtkipednlefbfpaaDoor.Vm

/- The example plan in a buffer of our own. (Vm) -/
-- TABLE TY
namespace Go.Proofs.YtkipednlefbfpaaDoor.Vm
open Go Go.Proofs
def ownYB (t : Nat) : Bool := Nat.beq t 36
def keepsY (f : Nat) : Bool := Nat.beq f 8
def ownS3 (T : Tab) (o : Nat → Bool) (k : Nat → Bool) : Tab := { T with ownS := o, keeps := k }
section
variable {P : Program} {T : Tab} {o k : Nat → Bool}
theorem ownS3_ok (h : TabOk P T) : TabOk P (ownS3 T o k) := ⟨h.ty, h.fn, h.mixed⟩
theorem ownS3_ty : (ownS3 T o k).ty = T.ty := rfl
theorem ownS3_fn : (ownS3 T o k).fn = T.fn := rfl
theorem ownS3_bin : vbin (ownS3 T o k) = vbin T := rfl
theorem ownS3_own : (ownS3 T o k).own = T.own := rfl
theorem ownS3_ownS : (ownS3 T o k).ownS = o := rfl
theorem ownS3_keeps : (ownS3 T o k).keeps = k := rfl
end
noncomputable def TY : Tab := ownS3 T ownYB keepsY
theorem TY_ok : TabOk Tryd.prog TY := ownS3_ok T_ok
theorem xY_ty : TY.ty = T.ty := ownS3_ty
theorem xY_fn : TY.fn = T.fn := ownS3_fn
theorem xY_bin : vbin TY = vbin T := ownS3_bin
theorem xY_oi : TY.own = T.own := ownS3_own
theorem xY_oc : TY.ownS 36 = true := by rw [TY, ownS3_ownS]; rfl
theorem xY_ok : TY.ownS 27 = false ∧ TY.ownS 22 = false := by rw [TY, ownS3_ownS]; exact ⟨rfl, rfl⟩
theorem xY_keeps : TY.keeps = keepsY := ownS3_keeps
abbrev ypB : List VV := [vi 0, vi 0, vi 1, vi 10, vi 0, vi 25]
theorem plan_b (M : Mem) : VC Tryd.prog 8 [] M (fun r M' => M' = ⟨M.H ++ [.obj ypB], M.lg⟩ ∧ r = .bf M.H.length 0 3 2) := by
 refine VC_keep TY_ok (f := 8) (fn := Tryd.f8) (by rw [xY_fn]; kernel_rfl) rfl Tryd.ntmps8 (by rfl) (by rw [xY_keeps]; rfl) ?_
 ((repeat refine Ws ?_);refine W_regionE TY_ok ?_; intro Kn hKn)
 ((simp (maxSteps := 1000000) only [xY_ty, xY_fn, xY_bin, xY_oi, xY_oc, xY_ok, VL,VM,↓VG,reduceIte,reduceCtorEq,zA,zB,zC,zD,zE,zF,zG,zH,zI,zJ]); rw [hKn];clear hKn Kn;simp only [QV,reduceIte,reduceCtorEq,Nat.reduceEqDiff])
 ((repeat refine Ws ?_);refine W_regionE TY_ok ?_; intro Kn hKn)
 ((simp (maxSteps := 1000000) only [xY_ty, xY_fn, xY_bin, xY_oi, xY_oc, xY_ok, VL,VM,↓VG,reduceIte,reduceCtorEq,zA,zB,zC,zD,zE,zF,zG,zH,zI,zJ, S_buildOwn, vbuildOwn]); rw [hKn];clear hKn Kn;simp only [QV,reduceIte,reduceCtorEq,Nat.reduceEqDiff])
 (repeat refine Ws ?_)
 exact W_ret ⟨.inr rfl, rfl, [.bf M.H.length 0 3 2], by simp [vresL, Tryd.f8, get_cons], rfl, rfl⟩
end Go.Proofs.YtkipednlefbfpaaDoor.Vm

/- Plain: texts as lists of bytes; the parts of a text, numbers as texts. Nothing here names the program. -/
namespace Go.Proofs.YtkipednlefbfpaaDoor
open Go
abbrev By := List UInt8
def tx (l : By) : ByteArray := ⟨l.toArray⟩
theorem tx_size (l : By) : (tx l).size = l.length := by simp [tx, ByteArray.size]
theorem tx_list (l : By) : (tx l).data.toList = l := by simp [tx]
theorem tx_append (a b : By) : tx a ++ tx b = tx (a ++ b) := by
 apply ByteArray.ext
 simp [tx, ByteArray.data_append]
end Go.Proofs.YtkipednlefbfpaaDoor

/- Plain: numbers as texts. -/
namespace Go.Proofs.YtkipednlefbfpaaDoor
open Go
end Go.Proofs.YtkipednlefbfpaaDoor

/- Plain: the roster of a yard. -/
namespace Go.Proofs.YtkipednlefbfpaaDoor
open Go
def wYard : By := [121, 97, 114, 100]
def wRamp : By := [114, 97, 109, 112]
def wCart : By := [99, 97, 114, 116]
def wEnd : By := [101, 110, 100]
def numsS (l : List Int) : By := l.flatMap fun n => 32 :: Lib.itoa n
def rowS (w : By) (l : List Int) : By := w ++ numsS l ++ [10]
def raL (r : Ra) : List Int := [r.open_, r.shut, r.bears]
def ctL (c : Ct) : List Int := [c.from_, c.until_, c.takes.lo, c.takes.hi, c.grams] ++ c.ramps
def writeS (y : Ya) : By := rowS wYard [y.sweep] ++ (y.ramps.flatMap fun r => rowS wRamp (raL r)) ++ (y.carts.flatMap fun c => rowS wCart (ctL c)) ++ rowS wEnd [(y.carts.length : Int)]
theorem numsS_take {l : List Int} {i : Nat} (h : i < l.length) : numsS (l.take (i + 1)) = numsS (l.take i) ++ (32 :: Lib.itoa l[i]) := by
 rw [List.take_succ_eq_append_getElem h]
 unfold numsS
 rw [List.flatMap_append]
 simp
theorem itoa_len {n : Int} (h0 : -9223372036854775808 ≤ n) (h1 : n ≤ 9223372036854775807) : (Lib.itoa n).length ≤ 21 := Lib.itoa_length_le n h0 h1
def FitL (l : List Int) : Prop := ∀ n ∈ l, -9223372036854775808 ≤ n ∧ n ≤ 9223372036854775807
theorem numsS_len : ∀ {l : List Int}, FitL l → (numsS l).length ≤ 22 * l.length
 | [], _ => by simp [numsS]
 | n :: l, h => by
  have h1 := itoa_len (h n (by simp)).1 (h n (by simp)).2
  have h2 := numsS_len (l := l) fun x hx => h x (List.mem_cons_of_mem _ hx)
  unfold numsS at h2 ⊢
  rw [List.flatMap_cons, List.length_append, List.length_cons, List.length_cons]
  omega
theorem FitL.take {l : List Int} (h : FitL l) (i : Nat) : FitL (l.take i) := fun n hn => h n (List.mem_of_mem_take hn)
theorem rowS_len {w : By} {l : List Int} (h : FitL l) : (rowS w l).length ≤ w.length + 22 * l.length + 1 := by
 have := numsS_len h
 unfold rowS
 rw [List.length_append, List.length_append, List.length_singleton]
 omega
theorem byF_len {α : Type} {f : α → By} {k : Nat} : ∀ {l : List α}, (∀ r ∈ l, (f r).length ≤ k) → (l.flatMap f).length ≤ k * l.length
 | [], _ => by simp
 | r :: l, h => by
  have h1 := h r (by simp)
  have h2 := byF_len (f := f) (l := l) fun x hx => h x (List.mem_cons_of_mem _ hx)
  rw [List.flatMap_cons, List.length_append, List.length_cons, Nat.mul_add]
  omega
theorem byF_take {α : Type} {f : α → By} {l : List α} {i : Nat} (h : i < l.length) : (l.take (i + 1)).flatMap f = (l.take i).flatMap f ++ f l[i] := by
 rw [List.take_succ_eq_append_getElem h, List.flatMap_append]
 simp
theorem asc_short : ∀ {l : List Int} {a b : Int}, l.Pairwise (· < ·) → (∀ x ∈ l, a ≤ x ∧ x < b) → l.length ≤ (b - a).toNat
 | [], a, b, _, _ => Nat.zero_le _
 | x :: l, a, b, h, hb => by
  obtain ⟨h1, h2⟩ := List.pairwise_cons.1 h
  have hx := hb x (by simp)
  have := asc_short (l := l) (a := x + 1) (b := b) h2 fun z hz => ⟨by have := h1 z hz; omega, (hb z (by simp [hz])).2⟩
  rw [List.length_cons]
  omega
theorem raV_fit {r : Ra} (h : RaV r) : FitL (raL r) := by
 intro n hn
 have := h.o0; have := h.os; have := h.s1; have := h.b0; have := h.b1
 simp only [raL, List.mem_cons, List.not_mem_nil, or_false] at hn
 omega
theorem ctV_short {nr : Nat} {c : Ct} (h : CtV nr c) : c.ramps.length ≤ nr := by
 have := asc_short (a := 0) (b := nr) h.asc h.r
 omega
theorem ctV_fit {nr : Nat} {c : Ct} (h : CtV nr c) (hn : nr ≤ 3) : FitL (ctL c) := by
 intro n hm
 have := h.f0; have := h.fu; have := h.u1; have := h.l0; have := h.lh; have := h.h1; have := h.g0; have := h.g1
 simp only [ctL, List.cons_append, List.nil_append, List.mem_cons, List.not_mem_nil, or_false] at hm
 rcases hm with h1 | h1 | h1 | h1 | h1 | h1
 ·omega
 ·omega
 ·omega
 ·omega
 ·omega
 ·have := h.r n h1; omega
theorem raRow_len {r : Ra} (h : RaV r) : (rowS wRamp (raL r)).length ≤ 100 := by
 have := rowS_len (w := wRamp) (raV_fit h)
 simp only [raL, wRamp, List.length_cons, List.length_nil] at this
 simp only [raL, wRamp]
 omega
theorem ctRow_len {nr : Nat} {c : Ct} (h : CtV nr c) (hn : nr ≤ 3) : (rowS wCart (ctL c)).length ≤ 200 := by
 have := rowS_len (w := wCart) (ctV_fit h hn)
 have h2 := ctV_short h
 have h3 : (ctL c).length = 5 + c.ramps.length := by simp [ctL]; omega
 rw [h3] at this
 have h4 : wCart.length = 4 := rfl
 omega
end Go.Proofs.YtkipednlefbfpaaDoor

/- The library contracts of the shelf, laid at this program (strings.Builder, strings.Split, strconv.Itoa, strconv.Atoi). -/
namespace Go.Proofs
open Go.Shelf
def Tryd.lays169_ren : Go.Shelf.Ren := ⟨fun | 169 => 44 | n => n, fun | 70 => 91 | 9 => 9 | 0 => 0 | 72 => 94 | 37 => 92 | 127 => 112 | 3 => 3 | 5 => 5 | n => n, fun | n => n⟩
theorem Tryd.Builder_Extra_169 : Builder.Extra Tryd.prog Tryd.lays169_ren := {
 sizeBuilder := by kernel_rfl
 liesBuilder := by kernel_rfl
 t5 := Tryd.underlying5
 a5 := Tryd.isAgg5
 z5 := Tryd.sizeOf5
 v5 := Tryd.zeroValue5
 infoByte := by kernel_rfl
 cellsByte := by kernel_rfl
 sizeByte := by kernel_rfl
 neB5 := by decide }
def Tryd.laysM171_ren : Go.Shelf.Ren := ⟨fun | 171 => 43 | 243 => 55 | 246 => 61 | 283 => 64 | 284 => 65 | 285 => 66 | 286 => 67 | 129 => 71 | 317 => 70 | 318 => 72 | 319 => 73 | 320 => 74 | 337 => 76 | 338 => 77 | n => n, fun | 3 => 3 | 9 => 9 | 2 => 2 | 4 => 4 | 171 => 120 | 0 => 0 | 53 => 121 | 37 => 92 | 5 => 5 | 173 => 124 | 212 => 130 | 51 => 131 | 20 => 20 | 213 => 132 | 46 => 133 | 232 => 136 | 233 => 137 | n => n, fun | 17 => 0 | 18 => 1 | 19 => 2 | n => n⟩
theorem Tryd.laysM171 : Go.Proofs.LaysM.n171 Tryd.prog Tryd.laysM171_ren := {
 mixed := by kernel_rfl
 f129 := Tryd.func71.trans (congrArg some (by kernel_rfl))
 f171 := Tryd.func43.trans (congrArg some (by kernel_rfl))
 f243 := Tryd.func55.trans (congrArg some (by kernel_rfl))
 f246 := Tryd.func61.trans (congrArg some (by kernel_rfl))
 f283 := Tryd.func64.trans (congrArg some (by kernel_rfl))
 f284 := Tryd.func65.trans (congrArg some (by kernel_rfl))
 f285 := Tryd.func66.trans (congrArg some (by kernel_rfl))
 f286 := Tryd.func67.trans (congrArg some (by kernel_rfl))
 f317 := Tryd.func70.trans (congrArg some (by kernel_rfl))
 f318 := Tryd.func72.trans (congrArg some (by kernel_rfl))
 f319 := Tryd.func73.trans (congrArg some (by kernel_rfl))
 f320 := Tryd.func74.trans (congrArg some (by kernel_rfl))
 f337 := Tryd.func76.trans (congrArg some (by kernel_rfl))
 f338 := Tryd.func77.trans (congrArg some (by kernel_rfl))
 t0 := Tryd.underlying0
 a0 := Tryd.isAgg0
 z0 := Tryd.sizeOf0
 v0 := Tryd.zeroValue0
 t2 := Tryd.underlying2
 a2 := Tryd.isAgg2
 z2 := Tryd.sizeOf2
 v2 := Tryd.zeroValue2
 t3 := Tryd.underlying3
 a3 := Tryd.isAgg3
 z3 := Tryd.sizeOf3
 v3 := Tryd.zeroValue3
 t4 := Tryd.underlying4
 a4 := Tryd.isAgg4
 z4 := Tryd.sizeOf4
 v4 := Tryd.zeroValue4
 t5 := Tryd.underlying5
 a5 := Tryd.isAgg5
 z5 := Tryd.sizeOf5
 v5 := Tryd.zeroValue5
 t9 := Tryd.underlying9
 a9 := Tryd.isAgg9
 z9 := Tryd.sizeOf9
 v9 := Tryd.zeroValue9
 t20 := Tryd.underlying20
 a20 := Tryd.isAgg20
 z20 := Tryd.sizeOf20
 v20 := Tryd.zeroValue20
 t37 := Tryd.underlying92
 a37 := Tryd.isAgg92
 z37 := Tryd.sizeOf92
 v37 := Tryd.zeroValue92
 t46 := Tryd.underlying133
 a46 := Tryd.isAgg133
 z46 := Tryd.sizeOf133
 v46 := Tryd.zeroValue133
 t51 := Tryd.underlying131
 a51 := Tryd.isAgg131
 z51 := Tryd.sizeOf131
 v51 := Tryd.zeroValue131
 t53 := Tryd.underlying121
 a53 := Tryd.isAgg121
 z53 := Tryd.sizeOf121
 v53 := Tryd.zeroValue121
 t171 := Tryd.underlying120
 a171 := Tryd.isAgg120
 z171 := Tryd.sizeOf120
 v171 := Tryd.zeroValue120
 t173 := Tryd.underlying124
 a173 := Tryd.isAgg124
 z173 := Tryd.sizeOf124
 v173 := Tryd.zeroValue124
 t212 := Tryd.underlying130
 a212 := Tryd.isAgg130
 z212 := Tryd.sizeOf130
 v212 := Tryd.zeroValue130
 t213 := Tryd.underlying132
 a213 := Tryd.isAgg132
 z213 := Tryd.sizeOf132
 t232 := Tryd.underlying136
 a232 := Tryd.isAgg136
 z232 := Tryd.sizeOf136
 v232 := Tryd.zeroValue136
 t233 := Tryd.underlying137
 a233 := Tryd.isAgg137
 z233 := Tryd.sizeOf137
 v233 := Tryd.zeroValue137
 g17 := by kernel_rfl
 g18 := by kernel_rfl
 g19 := by kernel_rfl
 i0 := by kernel_rfl
 i2 := by kernel_rfl
 i3 := by kernel_rfl
 i4 := by kernel_rfl
 i5 := by kernel_rfl
 i9 := by kernel_rfl
 i20 := by kernel_rfl
 i37 := by kernel_rfl
 i46 := by kernel_rfl
 i51 := by kernel_rfl
 i53 := by kernel_rfl
 i171 := by kernel_rfl
 i173 := by kernel_rfl
 i212 := by kernel_rfl
 i232 := by kernel_rfl
 i233 := by kernel_rfl
 m17 := by kernel_rfl
 m18 := by kernel_rfl
 m19 := by kernel_rfl }
def Tryd.lays240_ren : Go.Shelf.Ren := ⟨fun | 240 => 54 | 276 => 60 | n => n, fun | 0 => 0 | 37 => 92 | 4 => 4 | 9 => 9 | 20 => 20 | 70 => 91 | 72 => 94 | 164 => 116 | n => n, fun | n => n⟩
theorem Tryd.lays240 : Go.Proofs.Lays.n240 Tryd.prog Tryd.lays240_ren := {
 mixed := by kernel_rfl
 f240 := Tryd.func54.trans (congrArg some (by kernel_rfl))
 f276 := Tryd.func60.trans (congrArg some (by kernel_rfl))
 t0 := Tryd.underlying0
 a0 := Tryd.isAgg0
 z0 := Tryd.sizeOf0
 v0 := Tryd.zeroValue0
 t4 := Tryd.underlying4
 a4 := Tryd.isAgg4
 z4 := Tryd.sizeOf4
 v4 := Tryd.zeroValue4
 t9 := Tryd.underlying9
 a9 := Tryd.isAgg9
 z9 := Tryd.sizeOf9
 v9 := Tryd.zeroValue9
 t20 := Tryd.underlying20
 a20 := Tryd.isAgg20
 z20 := Tryd.sizeOf20
 v20 := Tryd.zeroValue20
 t70 := Tryd.underlying91
 a70 := Tryd.isAgg91
 z70 := Tryd.sizeOf91
 v70 := Tryd.zeroValue91
 t72 := Tryd.underlying94
 a72 := Tryd.isAgg94
 z72 := Tryd.sizeOf94
 v72 := Tryd.zeroValue94
 t164 := Tryd.underlying116
 a164 := Tryd.isAgg116
 z164 := Tryd.sizeOf116
 v164 := Tryd.zeroValue116
}
theorem Tryd.Builder_X72_240 : Builder.X72 Tryd.prog Tryd.lays240_ren := {
 sizeBuilder := by kernel_rfl
 liesBuilder := by kernel_rfl
}
end Go.Proofs

/- Calls of the library that turn nothing of ours: strconv.Itoa. (Vm) -/
namespace Go.Proofs.YtkipednlefbfpaaDoor.Vm
open Go Go.Proofs Go.RowKit
theorem VC_lib {P : Program} {f : Nat} {args : List VV} {M : Mem} {Q : VV → Mem → Prop} (h : ∀ (G : Ghost) (w : World) (K : Nat → Option Nat) (rargs : Array Value), Inv G w K M → ArgsOk w K M rargs args →
  Calls P f rargs w fun e w' => ∃ rv r, e = .returned rv ∧ Below w.heap.size w w' ∧ Q r M ∧ RepV w' K M.H rv r ∧ Cl M.H.length r) : VC P f args M Q := by
 intro G w K rargs hI ha
 refine callsIn_wide.2 ((h G w K rargs hI ha).mono ?_)
 rintro e w' ⟨rv, r, rfl, hb, hq, hr, hc⟩
 obtain ⟨hE, hI'⟩ := step_made hI (w' := w') ⟨hb.os, hb.tape, hb.output, hb.size⟩ hb.block
 exact ⟨rv, r, K, M, rfl, hq, hr, hc, hE, hI'⟩
theorem args1 {w : World} {K : Nat → Option Nat} {M : Mem} {rargs : Array Value} {x : VV} (h : ArgsOk w K M rargs [x]) : ∃ v, rargs = #[v] ∧ RepV w K M.H v x := by
 obtain ⟨l⟩ := rargs
 obtain ⟨h1, h2⟩ := h.rep
 match l, h1, h2 with
 | [v], _, h2 => exact ⟨v, rfl, h2 0 v x rfl rfl⟩
theorem args2 {w : World} {K : Nat → Option Nat} {M : Mem} {rargs : Array Value} {x y : VV} (h : ArgsOk w K M rargs [x, y]) : ∃ v u, rargs = #[v, u] ∧ RepV w K M.H v x ∧ RepV w K M.H u y := by
 obtain ⟨l⟩ := rargs
 obtain ⟨h1, h2⟩ := h.rep
 match l, h1, h2 with
 | [v, u], _, h2 => exact ⟨v, u, rfl, h2 0 v x rfl rfl, h2 1 u y rfl rfl⟩
theorem below_grow (w : World) (k : Nat) (os : Array Obj) : Below w.heap.size w (Sort.grow (w.drewN k) os) :=
 ⟨rfl, rfl, rfl, by show w.heap.size ≤ (w.heap ++ os).size; simp, fun i hi => by
  show (w.heap ++ os)[i]? = _
  rw [Array.getElem?_append_left hi]⟩
theorem itoa_v {n : Int} (h0 : -9223372036854775808 ≤ n) (h1 : n ≤ 9223372036854775807) (M : Mem) : VC Tryd.prog 43 [.p (.int .i64 n)] M (fun r M' => M' = M ∧ r = .p (.str (tx (Lib.itoa n)))) := by
 refine VC_lib fun G w K rargs hI ha => ?_
 obtain ⟨v, rfl, hv⟩ := args1 ha
 obtain rfl := rep_int hv
 obtain ⟨⟨t, z, hp⟩, _⟩ := G.lz.at hI.old
 have hp := LzF_some hp
 refine (Any.strconv_Itoa Tryd.laysM171 n h0 h1 w ?_).mono ?_
 ·have hg := Tryd.laysM171.m17
  unfold Lib.TabIs World.var?
  rw [hg, show Tryd.laysM171_ren.g 17 = 0 from rfl]
  simp only [Option.bind_some, hp]
 ·rintro e w' ⟨rfl, k, os, rfl⟩
  exact ⟨_, _, rfl, below_grow w k os, ⟨rfl, rfl⟩, .p _ _ (.str _), cl_p _ _⟩
end Go.Proofs.YtkipednlefbfpaaDoor.Vm

/- Texts in the machine on values: what the operations give. (Vm) -/
namespace Go.Proofs.YtkipednlefbfpaaDoor.Vm
open Go Go.Proofs
abbrev vs (l : By) : VV := .p (.str (tx l))
section
variable (t : Nat) (a b : By)
theorem str_eq : ((tx a).toList == (tx b).toList) = decide (a = b) := by
 rw [ByteArray.toList_eq, ByteArray.toList_eq, tx_list, tx_list]
 by_cases h : a = b
 ·subst h; simp
 ·simp [h]
theorem v_addS (h : a.length + b.length ≤ 9223372036854775807) : vbin T .add t (vs a) (vs b) = some (vs (a ++ b)) := by
 have h1 : Op.stringOp .add (tx a) (tx b) = .pure (.string (tx (a ++ b))) := by
  unfold Op.stringOp
  simp only
  rw [if_neg, tx_append]
  ·rfl
  ·rw [tx_size, tx_size, show IntKind.i64.max = 9223372036854775807 from rfl]
   omega
 show (pureOf (Op.stringOp .add (tx a) (tx b))).map ofValue = _
 rw [h1]
 rfl
theorem v_eqS : vbin T .eql t (vs a) (vs b) = some (vb (decide (a = b))) := by
 show some (vb ((tx a).toList == (tx b).toList)) = _
 rw [str_eq]
end
end Go.Proofs.YtkipednlefbfpaaDoor.Vm

/- What Write gives; results of two values. (Vm) -/
namespace Go.Proofs.YtkipednlefbfpaaDoor.Vm
open Go Go.Proofs
theorem lit32 : (⟨#[32]⟩ : ByteArray) = tx [32] := rfl
theorem lit10 : (⟨#[10]⟩ : ByteArray) = tx [10] := rfl
theorem own_ret2t {T : Tab} {f : Nat} {fn : Func} {M : Mem} {L : List VObj} {e : Env} {t t' : Nat} {X Y : VV} (h1 : fn.results.toList = [.tmp t, .tmp t']) (hr : frz M.H.length (M.H ++ L) (get e t) = X) (hr' : frz M.H.length (M.H ++ L) (get e t') = Y) (h2 : refs X = []) (h2' : refs Y = []) : ownQ T f fn M (fun r M' => M' = M ∧ r = .tup [X, Y]) .ret e ⟨M.H ++ L, M.lg⟩ [] :=
 own_ret (vs := [get e t, get e t']) (by rw [h1]; rfl) (by simp only [vtup, frz, frzL, hr, hr']) (by simp [refs, refsL, h2, h2']) ⟨rfl, rfl⟩
def writeT (y : Ya) : By := if yErr y = 0 then writeS y else []
end Go.Proofs.YtkipednlefbfpaaDoor.Vm

/- The numbers of the chapter's examples, all of them. -/
namespace Go.Proofs.YtkipednlefbfpaaDoor
open Vm
def nR0 : Ya := { aY with ramps := [] }
def tY0 : Ya := { aY with carts := [⟨0, 40, ⟨15, 20⟩, 800, [1, 0]⟩, ⟨0, 60, ⟨20, 25⟩, 400, [0, 1]⟩, ⟨5, 60, ⟨20, 30⟩, 300, [0]⟩] }
def sY0 : Ya := { aY with carts := [⟨0, 40, ⟨0, 20⟩, 800, [0, 1]⟩, ⟨0, 60, ⟨20, 25⟩, 400, [0, 1]⟩, ⟨5, 60, ⟨20, 30⟩, 300, [0]⟩] }
def aP : List St := [⟨0, 0⟩, ⟨1, 10⟩, ⟨0, 25⟩]
def wP0 : List St := [⟨1, 0⟩, ⟨1, 10⟩, ⟨0, 25⟩]
def oP0 : List St := [⟨0, 0⟩, ⟨1, 10⟩, ⟨1, 25⟩]
def hP0 (n : Int) : List St := [⟨0, 0⟩, ⟨1, 10⟩, ⟨0, n⟩]
theorem aY_err : yErr aY = 0 := by decide +kernel
theorem nR0_err : yErr nR0 = 7 := by decide +kernel
theorem tY0_err : yErr tY0 = 5 := by decide +kernel
theorem sY0_err : yErr sY0 = 1 := by decide +kernel
theorem aP_err : plErr aY aP = 0 := by decide +kernel
theorem twoP_err : plErr aY [⟨0, 0⟩, ⟨1, 10⟩] = 2 := by decide +kernel
theorem wP0_err : plErr aY wP0 = 13 := by decide +kernel
theorem oP0_err : plErr aY oP0 = 8 := by decide +kernel
theorem hP25 : holdsV aY (hP0 25) = (1, 0) := by decide +kernel
theorem hP20 : holdsV aY (hP0 20) = (3, 0) := by decide +kernel
theorem hP19 : holdsV aY (hP0 19) = (2, 0) := by decide +kernel
theorem aP_away : awayV aY aP = .tup [spsV [⟨15, 20⟩, ⟨30, 35⟩, ⟨45, 55⟩], vi 0] := by
 unfold awayV
 rw [if_pos aP_err, show awayL aY aP = [⟨15, 20⟩, ⟨30, 35⟩, ⟨45, 55⟩] by decide +kernel]
set_option maxRecDepth 100000 in
theorem aY_stuck : stuckT aY = ([], 3) := by decide +kernel
set_option maxRecDepth 100000 in
theorem nY_serve : serveT nY = ([], 0, 3) := by decide +kernel
def txY : By := [121, 97, 114, 100, 32, 53, 10, 114, 97, 109, 112, 32, 48, 32, 54, 48, 32, 57, 48, 48, 10, 114, 97, 109, 112, 32, 49, 48, 32, 52, 48, 32, 53, 48, 48, 10, 99, 97, 114, 116, 32, 48, 32, 52, 48, 32, 49, 53, 32, 50, 48, 32, 56, 48, 48, 32, 48, 32, 49, 10, 99, 97, 114, 116, 32, 48, 32, 54, 48, 32, 50, 48, 32, 50, 53, 32, 52, 48, 48, 32, 48, 32, 49, 10, 99, 97, 114, 116, 32, 53, 32, 54, 48, 32, 50, 48, 32, 51, 48, 32, 51, 48, 48, 32, 48, 10, 101, 110, 100, 32, 51, 10]
theorem aY_write : writeT aY = txY := by decide +kernel
end Go.Proofs.YtkipednlefbfpaaDoor

/- The example's answers by the program, on values. (Vm) -/
namespace Go.Proofs.YtkipednlefbfpaaDoor.Vm
open Go Go.Proofs
theorem aY_len : aY.ramps.length ≤ 1000000 ∧ aY.carts.length ≤ 1000000 ∧ ∀ c ∈ aY.carts, c.ramps.length ≤ 1000000 := by decide
theorem nY_len : nY.ramps.length ≤ 1000000 ∧ nY.carts.length ≤ 1000000 ∧ ∀ c ∈ nY.carts, c.ramps.length ≤ 1000000 := by decide
theorem narrow_v (M : Mem) : VC Tryd.prog 14 [] M (fun r M' => M' = M ∧ r = yardV nY) := by
 refine VC_own' T_ok (f := 14) (fn := Tryd.f14) (by kernel_rfl) rfl Tryd.ntmps14 (by rfl) (by rfl) ?_
 ((repeat refine Ws ?_);refine W_regionE T_ok ?_; intro Kn hKn)
 ((simp (maxSteps := 1000000) only [VL,VM,↓VG,reduceIte,reduceCtorEq,zA,zB,zC,zD,zE,zF,zG,zH,zI,zJ]); rw [hKn];clear hKn Kn;simp only [QV,reduceIte,reduceCtorEq,Nat.reduceEqDiff])
 ((repeat refine Ws ?_);refine Wr ?_)
 simp (maxSteps := 1000000) only [VL,VM,↓VG,reduceIte,reduceCtorEq,zA,zB,zC,zD,zE,zF,zG,zH,zI,zJ]
 refine fn_call (f := 4) (fn := Tryd.f4) (by kernel_rfl) (by rfl) ?_
 refine (yard_own _).mono ?_
 rintro _ _ ⟨⟨Y, rfl, hY⟩, rfl⟩
 simp (maxSteps := 1000000) only [VL,VM,↓VG,reduceIte,reduceCtorEq,zA,zB,zC,zD,zE,zF,zG,zH,zI,zJ]
 ((repeat refine Ws ?_);refine Wr ?_)
 simp (maxSteps := 1000000) only [VL,VM,↓VG,reduceIte,reduceCtorEq,zA,zB,zC,zD,zE,zF,zG,zH,zI,zJ]
 (repeat refine Ws ?_)
 refine W_frz1 (id := M.H.length + 2) (n := 2) (k := 3) (o := M.H.length + 3) (j := 0) (xs := nY.ramps.map raP) (by rw [hget]; rfl) (by rw [hget]; rfl) rfl (by simp) rfl (by omega) ?_
 simp only [hset, List.set_cons_succ, List.set_cons_zero]
 obtain ⟨Y2, hY2, g2⟩ := addLg_Y (M.H.length + 3) [M.H.length + 2] (M.lg ++ Y)
 rw [hY2, List.append_assoc]
 ((repeat refine Ws ?_);refine Wr ?_)
 simp (maxSteps := 1000000) only [VL,VM,↓VG,reduceIte,reduceCtorEq,zA,zB,zC,zD,zE,zF,zG,zH,zI,zJ]
 (repeat refine Ws ?_)
 refine W_ret ?_
 try simp only [thenQ, blockQ]
 refine own_retC (Z := yardV nY) (.inr rfl) (fun e he => ?_) rfl ?_ rfl rfl
 ·rcases List.mem_append.1 he with h | h
  ·have := hY e h
   simp only [List.length_append, List.length_cons, List.length_nil] at this
   omega
  ·rw [(g2 e h).1]; omega
 ·simp [vload, t_yard, get_cons, hget0, nat_ble, strip1]
  exact ⟨rfl, rfl⟩
theorem awake_v (M : Mem) : VC Tryd.prog 6 [] M (fun r M' => M' = M ∧ r = vb true) := by
 have sV : serveV aY = .tup [stsV [⟨0, 0⟩, ⟨1, 10⟩, ⟨0, 25⟩], vi 55, vi 0] := by rw [serveV, aY_serve]
 refine VC_own' T_ok (f := 6) (fn := Tryd.f6) (by kernel_rfl) rfl Tryd.ntmps6 (by rfl) (by rfl) ?_
 ((repeat refine Ws ?_);refine W_regionE T_ok ?_; intro Kn hKn)
 ((simp (maxSteps := 1000000) only [VL,VM,↓VG,reduceIte,reduceCtorEq,zA,zB,zC,zD,zE,zF,zG,zH,zI,zJ]); rw [hKn];clear hKn Kn;simp only [QV,reduceIte,reduceCtorEq,Nat.reduceEqDiff])
 ((repeat refine Ws ?_);refine W_regionE T_ok ?_; intro Kn hKn)
 simp (maxSteps := 1000000) only [VL,VM,↓VG,reduceIte,reduceCtorEq,zA,zB,zC,zD,zE,zF,zG,zH,zI,zJ]
 apply call_eq (f := 4) (fn := Tryd.f4) (by kernel_rfl) (by rfl)
 ·exact yard_v _
 simp (maxSteps := 1000000) only [VL,VM,↓VG,reduceIte,reduceCtorEq,zA,zB,zC,zD,zE,zF,zG,zH,zI,zJ]
 apply call_eq (f := 13) (fn := Tryd.f13) (by kernel_rfl) (by rfl)
 ·exact pserve_v aY _ aY_len.1 aY_len.2.1 aY_len.2.2
 rw [sV]
 ((simp (maxSteps := 1000000) only [VL,VM,↓VG,reduceIte,reduceCtorEq,zA,zB,zC,zD,zE,zF,zG,zH,zI,zJ]); rw [hKn];clear hKn Kn;simp only [QV,reduceIte,reduceCtorEq,Nat.reduceEqDiff])
 ((repeat refine Ws ?_);refine W_regionE T_ok ?_; intro Kn hKn)
 simp (maxSteps := 1000000) only [VL,VM,↓VG,reduceIte,reduceCtorEq,zA,zB,zC,zD,zE,zF,zG,zH,zI,zJ]
 apply call_eq (f := 14) (fn := Tryd.f14) (by kernel_rfl) (by rfl)
 ·exact narrow_v _
 simp (maxSteps := 1000000) only [VL,VM,↓VG,reduceIte,reduceCtorEq,zA,zB,zC,zD,zE,zF,zG,zH,zI,zJ]
 apply call_eq (f := 12) (fn := Tryd.f12) (by kernel_rfl) (by rfl)
 ·exact pstuck_v nY _ nY_len.1 nY_len.2.1 nY_len.2.2
 rw [nY_stuck]
 ((simp (maxSteps := 1000000) only [VL,VM,↓VG,reduceIte,reduceCtorEq,zA,zB,zC,zD,zE,zF,zG,zH,zI,zJ]); rw [hKn];clear hKn Kn;simp only [QV,reduceIte,reduceCtorEq,Nat.reduceEqDiff])
 ((repeat refine Ws ?_);refine W_regionE T_ok ?_; intro Kn hKn)
 simp (maxSteps := 1000000) only [VL,VM,↓VG,reduceIte,reduceCtorEq,zA,zB,zC,zD,zE,zF,zG,zH,zI,zJ]
 apply call_eq (f := 14) (fn := Tryd.f14) (by kernel_rfl) (by rfl)
 ·exact narrow_v _
 simp (maxSteps := 1000000) only [VL,VM,↓VG,reduceIte,reduceCtorEq,zA,zB,zC,zD,zE,zF,zG,zH,zI,zJ]
 apply call_eq (f := 17) (fn := Tryd.f17) (by kernel_rfl) (by rfl)
 ·exact pmost_v nY _ nY_len.1 nY_len.2.1 nY_len.2.2
 rw [nY_most]
 ((simp (maxSteps := 1000000) only [VL,VM,↓VG,reduceIte,reduceCtorEq,zA,zB,zC,zD,zE,zF,zG,zH,zI,zJ]); rw [hKn];clear hKn Kn;simp only [QV,reduceIte,reduceCtorEq,Nat.reduceEqDiff])
 ((repeat refine Ws ?_);refine W_regionE T_ok ?_; intro Kn hKn)
 simp (maxSteps := 1000000) only [VL,VM,↓VG,reduceIte,reduceCtorEq,zA,zB,zC,zD,zE,zF,zG,zH,zI,zJ]
 apply call_eq (f := 8) (fn := Tryd.f8) (by kernel_rfl) (by rfl)
 ·exact plan_v _
 simp (maxSteps := 1000000) only [VL,VM,↓VG,reduceIte,reduceCtorEq,zA,zB,zC,zD,zE,zF,zG,zH,zI,zJ]
 apply call_eq (f := 18) (fn := Tryd.f18) (by kernel_rfl) (by rfl)
 ·exact sameSlots_v [⟨0, 0⟩, ⟨1, 10⟩, ⟨0, 25⟩] [⟨0, 0⟩, ⟨1, 10⟩, ⟨0, 25⟩] _ (by decide)
 simp (maxSteps := 1000000) only [VL,VM,↓VG,reduceIte,reduceCtorEq,zA,zB,zC,zD,zE,zF,zG,zH,zI,zJ, eq_self, decide_true]
 apply call_eq (f := 19) (fn := Tryd.f19) (by kernel_rfl) (by rfl)
 ·exact sameInts_v [0, 1, 2] [0, 1, 2] _ (by decide)
 simp (maxSteps := 1000000) only [VL,VM,↓VG,reduceIte,reduceCtorEq,zA,zB,zC,zD,zE,zF,zG,zH,zI,zJ, eq_self, decide_true]
 apply call_eq (f := 19) (fn := Tryd.f19) (by kernel_rfl) (by rfl)
 ·exact sameInts_v [0, 1] [0, 1] _ (by decide)
 ((simp (maxSteps := 1000000) only [VL,VM,↓VG,reduceIte,reduceCtorEq,zA,zB,zC,zD,zE,zF,zG,zH,zI,zJ, eq_self, decide_true]); rw [hKn];clear hKn Kn;simp only [QV,reduceIte,reduceCtorEq,Nat.reduceEqDiff])
 (repeat refine Ws ?_)
 refine W_ret ?_
 try simp only [thenQ, blockQ]
 refine own_ret10 rfl ?_ (by rfl)
 simp only [get_cons, frz, vtup, Nat.reduceEqDiff, if_true, if_false, reduceIte]
end Go.Proofs.YtkipednlefbfpaaDoor.Vm
