/- A part of the proofs about the chapter of the ramps; it states no condition of its own. -/
import Derived.Test.YtkipednlefbfpaaDoorB13
import Derived.Test.YtkipednlefbfpaaDoorB14
import Derived.Test.YtkipednlefbfpaaDoorB15
set_option linter.unusedVariables false
set_option linter.unusedSimpArgs false
open Int renaming reduceLE → zA, reduceLT → zB, reduceToNat → zC, reduceNeg → zD
open Nat renaming reduceLT → zE, reduceEqDiff → zF, reduceAdd → zG, reduceSub → zH, reduceMul → zI, reduceLeDiff → zJ
/- The machine on values: sets of carts. (Vm) -/
namespace Go.Proofs.YtkipednlefbfpaaDoor.Vm
open Go Go.Proofs
section
variable (t : Nat) (a b : Nat)
theorem bin_pure {op : BinOp} {k k' : IntKind} {x y z : Int} (h : Go.binOp op 0 (.int k x) (.int k' y) = .pure (.int k z)) : vbin T op t (.p (.int k x)) (.p (.int k' y)) = some (.p (.int k z)) := by
 simp only [vbin, h, pureOf, Option.map_some, ofValue]
theorem u8_and (ha : a < 256) (hb : b < 256) : vbin T .and t (su a) (su b) = some (su (a &&& b)) := by
 refine bin_pure t ?_
 show Op.intBits .and .u8 a b = _
 have h1 : (BitVec.ofInt 8 (a : Int) &&& BitVec.ofInt 8 (b : Int)).toNat = a &&& b := by
  rw [BitVec.ofInt_natCast, BitVec.ofInt_natCast, BitVec.toNat_and, BitVec.toNat_ofNat, BitVec.toNat_ofNat, Nat.mod_eq_of_lt (by omega), Nat.mod_eq_of_lt (by omega)]
 have h2 : a &&& b ≤ a := Nat.and_le_left
 show Sem.pure (Value.int .u8 (IntKind.u8.wrap (((BitVec.ofInt 8 (a : Int) &&& BitVec.ofInt 8 (b : Int)).toNat : Nat) : Int))) = _
 rw [h1, IntWalk.u8_in _ (by omega)]
theorem u8_or (ha : a < 256) (hb : b < 256) : vbin T .or t (su a) (su b) = some (su (a ||| b)) := by
 refine bin_pure t ?_
 show Op.intBits .or .u8 a b = _
 have h1 : (BitVec.ofInt 8 (a : Int) ||| BitVec.ofInt 8 (b : Int)).toNat = a ||| b := by
  rw [BitVec.ofInt_natCast, BitVec.ofInt_natCast, BitVec.toNat_or, BitVec.toNat_ofNat, BitVec.toNat_ofNat, Nat.mod_eq_of_lt (by omega), Nat.mod_eq_of_lt (by omega)]
 have h2 : a ||| b < 2 ^ 8 := Nat.or_lt_two_pow ha hb
 show Sem.pure (Value.int .u8 (IntKind.u8.wrap (((BitVec.ofInt 8 (a : Int) ||| BitVec.ofInt 8 (b : Int)).toNat : Nat) : Int))) = _
 rw [h1, IntWalk.u8_in _ (by omega)]
theorem bv_andNot {n : Nat} (x y : BitVec n) : x &&& ~~~y = x ^^^ (x &&& y) := by
 apply BitVec.eq_of_getLsbD_eq
 intro i hi
 simp only [BitVec.getLsbD_and, BitVec.getLsbD_not, BitVec.getLsbD_xor]
 cases x.getLsbD i <;> cases y.getLsbD i <;> simp [hi]
theorem u8_andNot (ha : a < 256) (hb : b < 256) : vbin T .andNot t (su a) (su b) = some (su (sdiff a b)) := by
 refine bin_pure t ?_
 show Op.intBits .andNot .u8 a b = _
 have h1 : (BitVec.ofInt 8 (a : Int) &&& ~~~ BitVec.ofInt 8 (b : Int)).toNat = sdiff a b := by
  rw [bv_andNot, BitVec.ofInt_natCast, BitVec.ofInt_natCast, BitVec.toNat_xor, BitVec.toNat_and, BitVec.toNat_ofNat, BitVec.toNat_ofNat, Nat.mod_eq_of_lt (by omega), Nat.mod_eq_of_lt (by omega)]
  rfl
 have h2 := sdiff_le a b
 show Sem.pure (Value.int .u8 (IntKind.u8.wrap (((BitVec.ofInt 8 (a : Int) &&& ~~~ BitVec.ofInt 8 (b : Int)).toNat : Nat) : Int))) = _
 rw [h1, IntWalk.u8_in _ (by omega)]
theorem i_and (ha : a < 1000000) (hb : b < 1000000) : vbin T .and t (vi a) (vi b) = some (vi ((a &&& b : Nat) : Int)) := by
 refine bin_pure t ?_
 show Op.intBits .and .i64 a b = _
 have h1 : (BitVec.ofInt 64 (a : Int) &&& BitVec.ofInt 64 (b : Int)).toNat = a &&& b := by
  rw [BitVec.ofInt_natCast, BitVec.ofInt_natCast, BitVec.toNat_and, BitVec.toNat_ofNat, BitVec.toNat_ofNat, Nat.mod_eq_of_lt (by omega), Nat.mod_eq_of_lt (by omega)]
 have h2 : a &&& b ≤ a := Nat.and_le_left
 show Sem.pure (Value.int .i64 (IntKind.i64.wrap (((BitVec.ofInt 64 (a : Int) &&& BitVec.ofInt 64 (b : Int)).toNat : Nat) : Int))) = _
 rw [h1, IntWalk.i64_in _ (by omega)]
theorem i_andNot (ha : a < 1000000) (hb : b < 1000000) : vbin T .andNot t (vi a) (vi b) = some (vi ((sdiff a b : Nat) : Int)) := by
 refine bin_pure t ?_
 show Op.intBits .andNot .i64 a b = _
 have h1 : (BitVec.ofInt 64 (a : Int) &&& ~~~ BitVec.ofInt 64 (b : Int)).toNat = sdiff a b := by
  rw [bv_andNot, BitVec.ofInt_natCast, BitVec.ofInt_natCast, BitVec.toNat_xor, BitVec.toNat_and, BitVec.toNat_ofNat, BitVec.toNat_ofNat, Nat.mod_eq_of_lt (by omega), Nat.mod_eq_of_lt (by omega)]
  rfl
 have h2 := sdiff_le a b
 show Sem.pure (Value.int .i64 (IntKind.i64.wrap (((BitVec.ofInt 64 (a : Int) &&& ~~~ BitVec.ofInt 64 (b : Int)).toNat : Nat) : Int))) = _
 rw [h1, IntWalk.i64_in _ (by omega)]
theorem u8_shr (c : Nat) (hc : c ≤ 8) : vbin T .shr t (su a) (vi c) = some (su (a >>> c)) := by
 refine bin_pure t ?_
 show Op.shift .shr .u8 a .i64 c = _
 unfold Op.shift
 rw [if_neg (by omega)]
 have h1 : min ((c : Int).toNat) (IntKind.bits .u8) = c := by
  show min ((c : Int).toNat) 8 = c
  omega
 simp only [h1]
 rw [Int.fdiv_eq_ediv_of_nonneg _ (Int.pow_nonneg (by decide)), Nat.shiftRight_eq_div_pow]
 norm_cast
theorem u8_shl (c : Nat) (hc : c ≤ 7) : vbin T .shl t (su 1) (vi c) = some (su (2 ^ c)) := by
 refine bin_pure t ?_
 show Op.shift .shl .u8 1 .i64 c = _
 unfold Op.shift
 rw [if_neg (by omega)]
 have h1 : min ((c : Int).toNat) (IntKind.bits .u8) = c := by
  show min ((c : Int).toNat) 8 = c
  omega
 simp only [h1]
 have h2 : 2 ^ c ≤ 2 ^ 7 := Nat.pow_le_pow_right (by decide) hc
 have h3 : (1 : Int) * 2 ^ c = ((2 ^ c : Nat) : Int) := by norm_cast; omega
 rw [h3]
 generalize (2 ^ c : Nat) = p at h2 ⊢
 rw [IntWalk.u8_in _ (by omega)]
 rfl
theorem i_shl (c : Nat) (hc : c ≤ 7) : vbin T .shl t (vi 1) (vi c) = some (vi ((2 ^ c : Nat) : Int)) := by
 refine bin_pure t ?_
 show Op.shift .shl .i64 1 .i64 c = _
 unfold Op.shift
 rw [if_neg (by omega)]
 have h1 : min ((c : Int).toNat) (IntKind.bits .i64) = c := by
  show min ((c : Int).toNat) 64 = c
  omega
 simp only [h1]
 have h2 : 2 ^ c ≤ 2 ^ 7 := Nat.pow_le_pow_right (by decide) hc
 have h3 : (1 : Int) * 2 ^ c = ((2 ^ c : Nat) : Int) := by norm_cast; omega
 rw [h3]
 generalize (2 ^ c : Nat) = p at h2 ⊢
 rw [IntWalk.i64_in _ (by omega)]
 rfl
theorem u8_add (h : a + b < 256) : vbin T .add t (su a) (su b) = some (su (a + b)) := by
 refine bin_pure t ?_
 show Sem.pure (Value.int .u8 (IntKind.u8.wrap ((a : Int) + b))) = _
 rw [IntWalk.u8_in _ (by omega)]
 norm_cast
theorem u8_sub (h : b ≤ a) (ha : a < 256) : vbin T .sub t (su a) (su b) = some (su (a - b)) := by
 refine bin_pure t ?_
 show Sem.pure (Value.int .u8 (IntKind.u8.wrap ((a : Int) - b))) = _
 rw [IntWalk.u8_in _ (by omega), show (a : Int) - b = ((a - b : Nat) : Int) by omega]
theorem u8_eql : vbin T .eql t (su a) (su b) = some (vb (decide (a = b))) := by
 have h : Go.binOp .eql 0 (.int .u8 a) (.int .u8 b) = .pure (.bool (decide ((a : Int) = b))) := rfl
 simp only [vbin, h, pureOf, Option.map_some, ofValue]
 by_cases e : a = b
 ·rw [decide_eq_true e, decide_eq_true (by omega)]
 ·rw [decide_eq_false e, decide_eq_false (by omega)]
theorem u8_gtr : vbin T .gtr t (su a) (su b) = some (vb (decide (b < a))) := by
 have h : Go.binOp .gtr 0 (.int .u8 a) (.int .u8 b) = .pure (.bool (decide ((a : Int) > b))) := rfl
 simp only [vbin, h, pureOf, Option.map_some, ofValue]
 by_cases e : b < a
 ·rw [decide_eq_true e, decide_eq_true (by omega)]
 ·rw [decide_eq_false e, decide_eq_false (by omega)]
theorem c_us : vconvert T 66 3 (su a) = if a < 256 then some (vi a) else vconvert T 66 3 (su a) := by
 by_cases h : a < 256
 ·rw [if_pos h]
  simp only [vconvert, t_set, t_int]
  show (pureOf (Conv.intToInt .i64 (a : Int))).map ofValue = _
  have : Conv.intToInt .i64 (a : Int) = .pure (.int .i64 (IntKind.i64.wrap a)) := rfl
  rw [this, IntWalk.i64_in _ (by omega)]
  rfl
 ·rw [if_neg h]
theorem c_su (ha : a < 256) : vconvert T 3 66 (vi a) = some (su a) := by
 simp only [vconvert, t_set, t_int]
 have : Conv.intToInt .u8 (a : Int) = .pure (.int .u8 (IntKind.u8.wrap a)) := rfl
 rw [this, IntWalk.u8_in _ (by omega)]
 rfl
theorem c_si (ha : a < 256) : vconvert T 66 3 (su a) = some (vi a) := by
 rw [c_us, if_pos ha]
theorem idx_su : idx (su a) = some a := by
 have : (0 : Int) ≤ (a : Int) := Int.natCast_nonneg a
 simp [idx, this]
end
end Go.Proofs.YtkipednlefbfpaaDoor.Vm

/- Yards and plans, plain: their errors. -/
namespace Go.Proofs.YtkipednlefbfpaaDoor
def dawnB (n : Int) : Bool := inR n 0 480
def raErr (r : Ra) : Int := if dawnB r.open_ && dawnB r.shut then (if r.shut < r.open_ then 5 else if inR r.bears 0 1000000 then 0 else 1) else 1
def rasErr : List Ra → Int
 | [] => 0
 | x :: xs => if raErr x = 0 then rasErr xs else raErr x
def crErr (nr : Nat) : Int → List Int → Int
 | _, [] => 0
 | p, r :: rs => if inR r 0 ((nr : Int) - 1) then (if r ≤ p then 5 else crErr nr r rs) else 3
def ctErr (nr : Nat) (c : Ct) : Int :=
 if dawnB c.from_ && dawnB c.until_ then (if c.until_ < c.from_ then 5 else if inR c.takes.lo 1 480 && inR c.takes.hi 1 480 then (if c.takes.hi < c.takes.lo then 5 else if inR c.grams 0 1000000 then crErr nr (-1) c.ramps else 1) else 1) else 1
def ctsErr (nr : Nat) : List Ct → Int
 | [] => 0
 | x :: xs => if ctErr nr x = 0 then ctsErr nr xs else ctErr nr x
def yErr (y : Ya) : Int :=
 if y.ramps.length = 0 then 7 else if 3 < y.ramps.length then 6 else if rasErr y.ramps = 0 then (if 7 < y.carts.length then 6 else if ctsErr y.ramps.length y.carts = 0 then (if dawnB y.sweep then 0 else 1) else ctsErr y.ramps.length y.carts) else rasErr y.ramps
def bearsAt (y : Ya) (r : Int) : Int := (y.ramps.getD r.toNat ⟨0, 0, 0⟩).bears
def slErr (y : Ya) (s : St) (c : Ct) : Int :=
 if inR s.ramp 0 ((y.ramps.length : Int) - 1) then (if s.ramp ∈ c.ramps then (if bearsAt y s.ramp < c.grams then 13 else if dawnB s.from_ then 0 else 1) else 8) else 3
def slsErr (y : Ya) : List St → List Ct → Int
 | s :: ss, c :: cs => if slErr y s c = 0 then slsErr y ss cs else slErr y s c
 | _, _ => 0
def plErr (y : Ya) (p : List St) : Int := if yErr y = 0 then (if p.length = y.carts.length then slsErr y p y.carts else 2) else yErr y

theorem drop_at {α : Type} {l : List α} {i : Nat} (h : i < l.length) : l.drop i = l[i] :: l.drop (i + 1) := List.drop_eq_getElem_cons h
theorem rasErr_at {l : List Ra} {i : Nat} (h : i < l.length) : rasErr (l.drop i) = if raErr l[i] = 0 then rasErr (l.drop (i + 1)) else raErr l[i] := by rw [drop_at h, rasErr]
theorem ctsErr_at {n : Nat} {l : List Ct} {i : Nat} (h : i < l.length) : ctsErr n (l.drop i) = if ctErr n l[i] = 0 then ctsErr n (l.drop (i + 1)) else ctErr n l[i] := by rw [drop_at h, ctsErr]
theorem slsErr_at {y : Ya} {p : List St} {i : Nat} (h : i < p.length) (h' : i < y.carts.length) : slsErr y (p.drop i) (y.carts.drop i) = if slErr y p[i] y.carts[i] = 0 then slsErr y (p.drop (i + 1)) (y.carts.drop (i + 1)) else slErr y p[i] y.carts[i] := by
 rw [drop_at h, drop_at h', slsErr]
def prevOf (l : List Int) (i : Nat) : Int := if i = 0 then -1 else l.getD (i - 1) 0
theorem crErr_at {n : Nat} {l : List Int} {i : Nat} (h : i < l.length) : crErr n (prevOf l i) (l.drop i) = if inR l[i] 0 ((n : Int) - 1) then (if l[i] ≤ prevOf l i then 5 else crErr n (prevOf l (i + 1)) (l.drop (i + 1))) else 3 := by
 rw [drop_at h, crErr]
 have : prevOf l (i + 1) = l[i] := by simp [prevOf, h]
 rw [this]

structure RaV (r : Ra) : Prop where
 o0 : 0 ≤ r.open_
 os : r.open_ ≤ r.shut
 s1 : r.shut ≤ 480
 b0 : 0 ≤ r.bears
 b1 : r.bears ≤ 1000000
structure CtV (nr : Nat) (c : Ct) : Prop where
 f0 : 0 ≤ c.from_
 fu : c.from_ ≤ c.until_
 u1 : c.until_ ≤ 480
 l0 : 1 ≤ c.takes.lo
 lh : c.takes.lo ≤ c.takes.hi
 h1 : c.takes.hi ≤ 480
 g0 : 0 ≤ c.grams
 g1 : c.grams ≤ 1000000
 r : ∀ x ∈ c.ramps, 0 ≤ x ∧ x < nr
 asc : c.ramps.Pairwise (· < ·)
structure YaV (y : Ya) : Prop where
 n0 : 1 ≤ y.ramps.length
 n1 : y.ramps.length ≤ 3
 ra : ∀ r ∈ y.ramps, RaV r
 m1 : y.carts.length ≤ 7
 ct : ∀ c ∈ y.carts, CtV y.ramps.length c
 s0 : 0 ≤ y.sweep
 s1 : y.sweep ≤ 480
theorem raErr_ok {r : Ra} : raErr r = 0 ↔ RaV r := by
 unfold raErr dawnB
 constructor
 ·intro h
  split at h
  ·rename_i h1
   simp only [Bool.and_eq_true, inR_true] at h1
   split at h
   ·omega
   ·split at h
    ·rename_i h2 h3
     rw [inR_true] at h3
     exact ⟨by omega, by omega, by omega, by omega, by omega⟩
    ·omega
  ·omega
 ·intro ⟨a, b, c, d, e⟩
  rw [if_pos (by simp only [Bool.and_eq_true, inR_true]; omega), if_neg (by omega), if_pos (by rw [inR_true]; omega)]
theorem rasErr_ok {l : List Ra} : rasErr l = 0 ↔ ∀ r ∈ l, RaV r := by
 induction l with
 | nil => simp [rasErr]
 | cons x l ih =>
  rw [rasErr]
  by_cases h : raErr x = 0
  ·rw [if_pos h, ih]
   rw [raErr_ok] at h
   simp [h]
  ·rw [if_neg h]
   constructor
   ·intro h'; exact absurd h' h
   ·intro h'; exact absurd (raErr_ok.2 (h' x (by simp))) h
theorem crErr_ok {nr : Nat} : ∀ {l : List Int} {p : Int}, -1 ≤ p → (crErr nr p l = 0 ↔ (∀ x ∈ l, p < x ∧ x < nr) ∧ l.Pairwise (· < ·))
 | [], p, _ => by simp [crErr]
 | r :: l, p, hp => by
  rw [crErr]
  by_cases h1 : inR r 0 ((nr : Int) - 1) = true
  ·rw [if_pos h1]
   rw [inR_true] at h1
   by_cases h2 : r ≤ p
   ·rw [if_pos h2]
    constructor
    ·intro h; omega
    ·intro ⟨h, _⟩; have := h r (by simp); omega
   ·rw [if_neg h2, crErr_ok (by omega)]
    constructor
    ·intro ⟨h3, h4⟩
     refine ⟨fun x hx => ?_, List.pairwise_cons.2 ⟨fun x hx => (h3 x hx).1, h4⟩⟩
     rcases List.mem_cons.1 hx with rfl | hx
     ·omega
     ·have := h3 x hx; omega
    ·intro ⟨h3, h4⟩
     obtain ⟨h5, h6⟩ := List.pairwise_cons.1 h4
     exact ⟨fun x hx => ⟨h5 x hx, (h3 x (List.mem_cons_of_mem _ hx)).2⟩, h6⟩
  ·rw [if_neg h1]
   constructor
   ·intro h; omega
   ·intro ⟨h, _⟩
    have := h r (by simp)
    exact absurd (inR_true.2 (by omega)) h1
theorem ctErr_ok {nr : Nat} {c : Ct} : ctErr nr c = 0 ↔ CtV nr c := by
 unfold ctErr dawnB
 constructor
 ·intro h
  split at h
  ·rename_i h1
   simp only [Bool.and_eq_true, inR_true] at h1
   split at h
   ·omega
   ·split at h
    ·rename_i h2 h3
     simp only [Bool.and_eq_true, inR_true] at h3
     split at h
     ·omega
     ·split at h
      ·rename_i h4 h5
       rw [inR_true] at h5
       rw [crErr_ok (by omega)] at h
       exact ⟨by omega, by omega, by omega, by omega, by omega, by omega, by omega, by omega, fun x hx => by have := h.1 x hx; omega, h.2⟩
      ·omega
    ·omega
  ·omega
 ·intro ⟨a, b, c, d, e, f, g, i, j, k⟩
  rw [if_pos (by simp only [Bool.and_eq_true, inR_true]; omega), if_neg (by omega), if_pos (by simp only [Bool.and_eq_true, inR_true]; omega), if_neg (by omega), if_pos (by rw [inR_true]; omega), crErr_ok (by omega)]
  exact ⟨fun x hx => by have := j x hx; omega, k⟩
theorem ctsErr_ok {n : Nat} {l : List Ct} : ctsErr n l = 0 ↔ ∀ r ∈ l, CtV n r := by
 induction l with
 | nil => simp [ctsErr]
 | cons x l ih =>
  rw [ctsErr]
  by_cases h : ctErr n x = 0
  ·rw [if_pos h, ih]
   rw [ctErr_ok] at h
   simp [h]
  ·rw [if_neg h]
   constructor
   ·intro h'; exact absurd h' h
   ·intro h'; exact absurd (ctErr_ok.2 (h' x (by simp))) h
theorem yErr_ok {y : Ya} : yErr y = 0 ↔ YaV y := by
 unfold yErr dawnB
 constructor
 ·intro h
  split at h
  ·omega
  ·split at h
   ·omega
   ·split at h
    ·rename_i h1 h2 h3
     split at h
     ·omega
     ·split at h
      ·rename_i h4 h5
       split at h
       ·rename_i h6
        rw [inR_true] at h6
        exact ⟨by omega, by omega, rasErr_ok.1 h3, by omega, ctsErr_ok.1 h5, h6.1, h6.2⟩
       ·omega
      ·rename_i h5; exact absurd h h5
    ·rename_i h3; exact absurd h h3
 ·intro ⟨a, b, c, d, e, f, g⟩
  rw [if_neg (by omega), if_neg (by omega), if_pos (rasErr_ok.2 c), if_neg (by omega), if_pos (ctsErr_ok.2 e), if_pos (by rw [inR_true]; omega)]
end Go.Proofs.YtkipednlefbfpaaDoor

/- The program's check of yards, on values. (Vm) -/
namespace Go.Proofs.YtkipednlefbfpaaDoor.Vm
open Go Go.Proofs
theorem fn_call1 {f : Nat} {fn : Func} {args : List VV} {M : Mem} {Q : VV → Mem → Prop} (hf : T.fn f = some fn) (hk : T.keeps f = false) (h : VC Tryd.prog f (args.map strip1) M Q) : VCall Tryd.prog (.fn (.func f) [] []) args M Q := fn_call hf hk h
theorem in_v (n lo hi : Int) (M : Mem) : VC Tryd.prog 23 [vi n, vi lo, vi hi] M (fun r M' => M' = M ∧ r = vb (inR n lo hi)) := by
 refine VC_own' T_ok (f := 23) (fn := Tryd.f23) (by kernel_rfl) rfl Tryd.ntmps23 (by rfl) (by rfl) ?_
 ((repeat refine Ws ?_);refine Wr ?_)
 simp (maxSteps := 1000000) only [VL,VM,↓VG,reduceIte,reduceCtorEq,zA,zB,zC,zD,zE,zF,zG,zH,zI,zJ]
 ((repeat refine Ws ?_);refine Wr ?_)
 by_cases h1 : lo ≤ n
 ·by_cases h2 : n ≤ hi
  ·simp (maxSteps := 1000000) only [VL,VM,↓VG,reduceIte,reduceCtorEq,zA,zB,zC,zD,zE,zF,zG,zH,zI,zJ, h1, h2]
   (repeat refine Ws ?_)
   refine W_ret ?_
   try simp only [thenQ, blockQ]
   refine own_ret10 rfl ?_ (by rfl)
   simp only [get_cons, frz, vtup, Nat.reduceEqDiff, if_true, if_false, reduceIte]
   rw [inR_true.2 ⟨h1, h2⟩]
  ·simp (maxSteps := 1000000) only [VL,VM,↓VG,reduceIte,reduceCtorEq,zA,zB,zC,zD,zE,zF,zG,zH,zI,zJ, h1, h2]
   (repeat refine Ws ?_)
   refine W_ret ?_
   try simp only [thenQ, blockQ]
   refine own_ret10 rfl ?_ (by rfl)
   simp only [get_cons, frz, vtup, Nat.reduceEqDiff, if_true, if_false, reduceIte]
   simp [inR, h1, h2]
 ·simp (maxSteps := 1000000) only [VL,VM,↓VG,reduceIte,reduceCtorEq,zA,zB,zC,zD,zE,zF,zG,zH,zI,zJ, h1]
  (repeat refine Ws ?_)
  refine W_ret ?_
  try simp only [thenQ, blockQ]
  refine own_ret10 rfl ?_ (by rfl)
  simp only [get_cons, frz, vtup, Nat.reduceEqDiff, if_true, if_false, reduceIte]
  simp [inR, h1]
theorem any_take {α : Type} (p : α → Bool) (l : List α) (i : Nat) (x : α) (h : l[i]? = some x) : (l.take (i + 1)).any p = ((l.take i).any p || p x) := by
 rw [List.take_add_one, h]
 simp
theorem any_hit {α : Type} (p : α → Bool) (l : List α) (i : Nat) (x : α) (h : l[i]? = some x) (hp : p x = true) : l.any p = true := List.any_eq_true.2 ⟨x, List.mem_of_getElem? h, hp⟩
theorem indexints_v (fv : VV) (xs : List Int) (p : Int → Bool) (M : Mem) (hl : xs.length ≤ 1000000) (hf : ∀ x ∈ xs, VCall Tryd.prog fv [vi x] M (fun r M' => M' = M ∧ r = vb (p x))) :
  VC Tryd.prog 56 [intsV xs, fv] M (fun r M' => M' = M ∧ ∃ k : Int, r = vi k ∧ decide (0 ≤ k) = xs.any p) := by
 refine VC_own' T_ok (f := 56) (fn := Tryd.f56) (by kernel_rfl) rfl Tryd.ntmps56 (by rfl) (by rfl) ?_
 ((repeat refine Ws ?_);refine Wr ?_)
 simp (maxSteps := 1000000) only [VL,VM,↓VG,reduceIte,reduceCtorEq,zA,zB,zC,zD,zE,zF,zG,zH,zI,zJ]
 ((repeat refine Ws ?_);refine Wr ?_)
 simp (maxSteps := 1000000) only [VL,VM,↓VG,reduceIte,reduceCtorEq,zA,zB,zC,zD,zE,zF,zG,zH,zI,zJ]
 ((repeat refine Ws ?_);refine W_block ?_; (repeat refine Ws ?_)); refine W_loopS (fun i : Nat => [(0, intsV xs), (1, fv), (7, vi xs.length), (8, vi i)]) (fun _ => M) (fun i => xs.length - i) (fun i => i ≤ xs.length ∧ (xs.take i).any p = false) 0 ⟨by omega, by simp⟩ ⟨rfl, rfl, rfl, rfl, trivial⟩ rfl ?_
 rintro i ⟨hi, hno⟩
 have k1 : -9223372036854775808 ≤ (i : Int) + 1 ∧ (i : Int) + 1 < 9223372036854775808 := by omega
 ((repeat refine Ws ?_);refine Wr ?_)
 rcases Nat.lt_or_ge i xs.length with hlt | hge
 ·have k2 : ((i : Int) < (xs.length : Int)) = True := eq_true (by omega)
  have hx : xs[i]? = some xs[i] := List.getElem?_eq_getElem hlt
  have hx' := map_at (f := intP) hx
  simp (maxSteps := 1000000) only [VL,VM,↓VG,reduceIte,reduceCtorEq,zA,zB,zC,zD,zE,zF,zG,zH,zI,zJ, k1, k2, hx']
  ((repeat refine Ws ?_);refine Wt (by first|rfl|simp only [EV,zF,reduceIte]) ?_)
  ((repeat refine Ws ?_);refine W_skip ?_)
  simp (maxSteps := 1000000) only [VL,VM,↓VG,reduceIte,reduceCtorEq,zA,zB,zC,zD,zE,zF,zG,zH,zI,zJ]
  ((repeat refine Ws ?_);refine W_block ?_)
  ((repeat refine Ws ?_);refine Wr ?_)
  simp (maxSteps := 1000000) only [VL,VM,↓VG,reduceIte,reduceCtorEq,zA,zB,zC,zD,zE,zF,zG,zH,zI,zJ]
  ((repeat refine Ws ?_);refine Wr ?_)
  simp (maxSteps := 1000000) only [VL,VM,↓VG,reduceIte,reduceCtorEq,zA,zB,zC,zD,zE,zF,zG,zH,zI,zJ, hx']
  refine (hf _ (List.getElem_mem hlt)).mono ?_
  rintro _ _ ⟨rfl, rfl⟩
  simp (maxSteps := 1000000) only [VL,VM,↓VG,reduceIte,reduceCtorEq,zA,zB,zC,zD,zE,zF,zG,zH,zI,zJ]
  cases hp : p xs[i]
  ·((repeat refine Ws ?_);refine Wf (by first|rfl|simp only [EV,zF,reduceIte]) ?_)
   ((repeat refine Ws ?_);refine W_skip ?_)
   simp (maxSteps := 1000000) only [VL,VM,↓VG,reduceIte,reduceCtorEq,zA,zB,zC,zD,zE,zF,zG,zH,zI,zJ]
   ((repeat refine Ws ?_);refine Wr ?_)
   simp (maxSteps := 1000000) only [VL,VM,↓VG,reduceIte,reduceCtorEq,zA,zB,zC,zD,zE,zF,zG,zH,zI,zJ, k1]
   refine LoopK.mk (i + 1) (by omega) ⟨by omega, ?_⟩ ⟨rfl, rfl, rfl, rfl, trivial⟩ rfl
   rw [any_take p xs i _ hx, hno, hp]; rfl
  ·((repeat refine Ws ?_);refine Wt (by first|rfl|simp only [EV,zF,reduceIte]) ?_)
   ((repeat refine Ws ?_);refine Wr ?_)
   simp (maxSteps := 1000000) only [VL,VM,↓VG,reduceIte,reduceCtorEq,zA,zB,zC,zD,zE,zF,zG,zH,zI,zJ]
   (repeat refine Ws ?_)
   refine W_ret ?_
   try simp only [thenQ, blockQ]
   refine own_ret0 rfl rfl rfl ⟨rfl, (i : Int), rfl, ?_⟩
   rw [any_hit p xs i _ hx hp]; simp
 ·have k2 : ((i : Int) < (xs.length : Int)) = False := eq_false (by omega)
  simp (maxSteps := 1000000) only [VL,VM,↓VG,reduceIte,reduceCtorEq,zA,zB,zC,zD,zE,zF,zG,zH,zI,zJ, k1, k2]
  ((repeat refine Ws ?_);refine Wf (by first|rfl|simp only [EV,zF,reduceIte]) ?_)
  ((repeat refine Ws ?_);refine W_exit ?_)
  simp (maxSteps := 1000000) only [VL,VM,↓VG,reduceIte,reduceCtorEq,zA,zB,zC,zD,zE,zF,zG,zH,zI,zJ]
  ((repeat refine Ws ?_);refine Wr ?_)
  simp (maxSteps := 1000000) only [VL,VM,↓VG,reduceIte,reduceCtorEq,zA,zB,zC,zD,zE,zF,zG,zH,zI,zJ]
  (repeat refine Ws ?_)
  refine W_ret ?_
  try simp only [thenQ, blockQ]
  refine own_ret0 rfl rfl rfl ⟨rfl, -1, rfl, ?_⟩
  rw [List.take_of_length_le hge] at hno
  rw [hno]; rfl
theorem containsints_v (fv : VV) (xs : List Int) (p : Int → Bool) (M : Mem) (hl : xs.length ≤ 1000000) (hs : strip1 fv = fv) (hf : ∀ x ∈ xs, VCall Tryd.prog fv [vi x] M (fun r M' => M' = M ∧ r = vb (p x))) :
  VC Tryd.prog 46 [intsV xs, fv] M (fun r M' => M' = M ∧ r = vb (xs.any p)) := by
 refine VC_own' T_ok (f := 46) (fn := Tryd.f46) (by kernel_rfl) rfl Tryd.ntmps46 (by rfl) (by rfl) ?_
 ((repeat refine Ws ?_);refine Wr ?_)
 simp (maxSteps := 1000000) only [VL,VM,↓VG,reduceIte,reduceCtorEq,zA,zB,zC,zD,zE,zF,zG,zH,zI,zJ]
 ((repeat refine Ws ?_);refine Wr ?_)
 simp (maxSteps := 1000000) only [VL,VM,↓VG,reduceIte,reduceCtorEq,zA,zB,zC,zD,zE,zF,zG,zH,zI,zJ]
 refine fn_call1 (f := 56) (fn := Tryd.f56) (by kernel_rfl) (by rfl) ?_
 rw [show List.map strip1 [intsV xs, fv] = [intsV xs, fv] by rw [List.map_cons, List.map_cons, hs]; rfl]
 refine (indexints_v fv xs p M hl hf).mono ?_
 rintro _ _ ⟨rfl, k, rfl, hk⟩
 simp (maxSteps := 1000000) only [VL,VM,↓VG,reduceIte,reduceCtorEq,zA,zB,zC,zD,zE,zF,zG,zH,zI,zJ]
 (repeat refine Ws ?_)
 refine W_ret ?_
 try simp only [thenQ, blockQ]
 refine own_ret10 rfl ?_ (by rfl)
 simp only [get_cons, frz, vtup, Nat.reduceEqDiff, if_true, if_false, reduceIte]
 rw [hk]
theorem dawn1_v (n : Int) (M : Mem) : VC Tryd.prog 47 [vi n] M (fun r M' => M' = M ∧ r = vb (!dawnB n)) := by
 refine VC_own' T_ok (f := 47) (fn := Tryd.f47) (by kernel_rfl) rfl Tryd.ntmps47 (by rfl) (by rfl) ?_
 ((repeat refine Ws ?_);refine Wr ?_)
 simp (maxSteps := 1000000) only [VL,VM,↓VG,reduceIte,reduceCtorEq,zA,zB,zC,zD,zE,zF,zG,zH,zI,zJ]
 ((repeat refine Ws ?_);refine Wr ?_)
 simp (maxSteps := 1000000) only [VL,VM,↓VG,reduceIte,reduceCtorEq,zA,zB,zC,zD,zE,zF,zG,zH,zI,zJ]
 apply call_eq (f := 23) (fn := Tryd.f23) (by kernel_rfl) (by rfl)
 ·exact in_v _ _ _ _
 simp (maxSteps := 1000000) only [VL,VM,↓VG,reduceIte,reduceCtorEq,zA,zB,zC,zD,zE,zF,zG,zH,zI,zJ]
 (repeat refine Ws ?_)
 refine W_ret ?_
 try simp only [thenQ, blockQ]
 refine own_ret10 rfl ?_ (by rfl)
 simp only [get_cons, frz, vtup, Nat.reduceEqDiff, if_true, if_false, reduceIte]
 rfl
theorem dawn_v (l : List Int) (M : Mem) (hl : l.length ≤ 1000000) : VC Tryd.prog 22 [intsV l] M (fun r M' => M' = M ∧ r = vb (l.all dawnB)) := by
 refine VC_own' T_ok (f := 22) (fn := Tryd.f22) (by kernel_rfl) rfl Tryd.ntmps22 (by rfl) (by rfl) ?_
 ((repeat refine Ws ?_);refine Wr ?_)
 simp (maxSteps := 1000000) only [VL,VM,↓VG,reduceIte,reduceCtorEq,zA,zB,zC,zD,zE,zF,zG,zH,zI,zJ]
 ((repeat refine Ws ?_);refine Wr ?_)
 simp (maxSteps := 1000000) only [VL,VM,↓VG,reduceIte,reduceCtorEq,zA,zB,zC,zD,zE,zF,zG,zH,zI,zJ]
 apply call_eq (f := 46) (fn := Tryd.f46) (by kernel_rfl) (by rfl)
 ·exact containsints_v _ l (fun n => !dawnB n) _ hl rfl (fun x _ => call_eq (f := 47) (fn := Tryd.f47) (by kernel_rfl) (by rfl) (args := [vi x]) (dawn1_v x M) ⟨rfl, rfl⟩)
 simp (maxSteps := 1000000) only [VL,VM,↓VG,reduceIte,reduceCtorEq,zA,zB,zC,zD,zE,zF,zG,zH,zI,zJ]
 (repeat refine Ws ?_)
 refine W_ret ?_
 try simp only [thenQ, blockQ]
 refine own_ret10 rfl ?_ (by rfl)
 simp only [get_cons, frz, vtup, Nat.reduceEqDiff, if_true, if_false, reduceIte]
 rw [List.all_eq_not_any_not]
theorem dawn_2 (a b : Int) (M : Mem) : VC Tryd.prog 22 [intsV [a, b]] M (fun r M' => M' = M ∧ r = vb (dawnB a && dawnB b)) := by
 have := dawn_v [a, b] M (by simp)
 simpa using this
theorem dawn_1 (a : Int) (M : Mem) : VC Tryd.prog 22 [intsV [a]] M (fun r M' => M' = M ∧ r = vb (dawnB a)) := by
 have := dawn_v [a] M (by simp)
 simpa using this
theorem checkRamp_v (r : Ra) (M : Mem) : VC Tryd.prog 20 [raV r] M (fun x M' => M' = M ∧ x = vi (raErr r)) := by
 have e1 : raErr r = raErr r := rfl
 conv at e1 => rhs; unfold raErr
 refine VC_own' T_ok (f := 20) (fn := Tryd.f20) (by kernel_rfl) rfl Tryd.ntmps20 (by rfl) (by rfl) ?_
 ((repeat refine Ws ?_);refine Wr ?_)
 simp (maxSteps := 1000000) only [VL,VM,↓VG,reduceIte,reduceCtorEq,zA,zB,zC,zD,zE,zF,zG,zH,zI,zJ]
 ((repeat refine Ws ?_);refine W_block ?_)
 ((repeat refine Ws ?_);refine Wr ?_)
 simp (maxSteps := 1000000) only [VL,VM,↓VG,reduceIte,reduceCtorEq,zA,zB,zC,zD,zE,zF,zG,zH,zI,zJ]
 apply call_eq (f := 22) (fn := Tryd.f22) (by kernel_rfl) (by rfl)
 ·exact dawn_2 r.open_ r.shut _
 cases h1 : dawnB r.open_ && dawnB r.shut
 ·rw [h1] at e1
  simp (maxSteps := 1000000) only [VL,VM,↓VG,reduceIte,reduceCtorEq,zA,zB,zC,zD,zE,zF,zG,zH,zI,zJ]
  ((repeat refine Ws ?_);refine Wt (by first|rfl|simp only [EV,zF,reduceIte]) ?_)
  ((repeat refine Ws ?_);refine Wr ?_)
  simp (maxSteps := 1000000) only [VL,VM,↓VG,reduceIte,reduceCtorEq,zA,zB,zC,zD,zE,zF,zG,zH,zI,zJ]
  (repeat refine Ws ?_)
  refine W_ret ?_
  try simp only [thenQ, blockQ]
  refine own_ret1 rfl ?_ (by rfl)
  simp only [get_cons, frz, vtup, Nat.reduceEqDiff, if_true, if_false, reduceIte]
  rw [e1]; rfl
 rw [h1, if_pos rfl] at e1
 simp (maxSteps := 1000000) only [VL,VM,↓VG,reduceIte,reduceCtorEq,zA,zB,zC,zD,zE,zF,zG,zH,zI,zJ]
 ((repeat refine Ws ?_);refine Wf (by first|rfl|simp only [EV,zF,reduceIte]) ?_)
 ((repeat refine Ws ?_);refine Wr ?_)
 by_cases h2 : r.shut < r.open_
 ·rw [if_pos h2] at e1
  simp (maxSteps := 1000000) only [VL,VM,↓VG,reduceIte,reduceCtorEq,zA,zB,zC,zD,zE,zF,zG,zH,zI,zJ, h2]
  ((repeat refine Ws ?_);refine Wt (by first|rfl|simp only [EV,zF,reduceIte]) ?_)
  ((repeat refine Ws ?_);refine Wr ?_)
  simp (maxSteps := 1000000) only [VL,VM,↓VG,reduceIte,reduceCtorEq,zA,zB,zC,zD,zE,zF,zG,zH,zI,zJ]
  (repeat refine Ws ?_)
  refine W_ret ?_
  try simp only [thenQ, blockQ]
  refine own_ret1 rfl ?_ (by rfl)
  simp only [get_cons, frz, vtup, Nat.reduceEqDiff, if_true, if_false, reduceIte]
  rw [e1]
 rw [if_neg h2] at e1
 simp (maxSteps := 1000000) only [VL,VM,↓VG,reduceIte,reduceCtorEq,zA,zB,zC,zD,zE,zF,zG,zH,zI,zJ, h2]
 ((repeat refine Ws ?_);refine Wf (by first|rfl|simp only [EV,zF,reduceIte]) ?_)
 ((repeat refine Ws ?_);refine Wr ?_)
 simp (maxSteps := 1000000) only [VL,VM,↓VG,reduceIte,reduceCtorEq,zA,zB,zC,zD,zE,zF,zG,zH,zI,zJ]
 apply call_eq (f := 23) (fn := Tryd.f23) (by kernel_rfl) (by rfl)
 ·exact in_v _ _ _ _
 cases h3 : inR r.bears 0 1000000
 ·rw [h3] at e1
  simp (maxSteps := 1000000) only [VL,VM,↓VG,reduceIte,reduceCtorEq,zA,zB,zC,zD,zE,zF,zG,zH,zI,zJ]
  ((repeat refine Ws ?_);refine Wt (by first|rfl|simp only [EV,zF,reduceIte]) ?_)
  ((repeat refine Ws ?_);refine Wr ?_)
  simp (maxSteps := 1000000) only [VL,VM,↓VG,reduceIte,reduceCtorEq,zA,zB,zC,zD,zE,zF,zG,zH,zI,zJ]
  (repeat refine Ws ?_)
  refine W_ret ?_
  try simp only [thenQ, blockQ]
  refine own_ret1 rfl ?_ (by rfl)
  simp only [get_cons, frz, vtup, Nat.reduceEqDiff, if_true, if_false, reduceIte]
  rw [e1]; rfl
 rw [h3, if_pos rfl] at e1
 simp (maxSteps := 1000000) only [VL,VM,↓VG,reduceIte,reduceCtorEq,zA,zB,zC,zD,zE,zF,zG,zH,zI,zJ]
 ((repeat refine Ws ?_);refine Wf (by first|rfl|simp only [EV,zF,reduceIte]) ?_)
 ((repeat refine Ws ?_);refine W_skip ?_)
 simp (maxSteps := 1000000) only [VL,VM,↓VG,reduceIte,reduceCtorEq,zA,zB,zC,zD,zE,zF,zG,zH,zI,zJ]
 ((repeat refine Ws ?_);refine Wr ?_)
 simp (maxSteps := 1000000) only [VL,VM,↓VG,reduceIte,reduceCtorEq,zA,zB,zC,zD,zE,zF,zG,zH,zI,zJ]
 (repeat refine Ws ?_)
 refine W_ret ?_
 try simp only [thenQ, blockQ]
 refine own_ret1 rfl ?_ (by rfl)
 simp only [get_cons, frz, vtup, Nat.reduceEqDiff, if_true, if_false, reduceIte]
 rw [e1]
end Go.Proofs.YtkipednlefbfpaaDoor.Vm
