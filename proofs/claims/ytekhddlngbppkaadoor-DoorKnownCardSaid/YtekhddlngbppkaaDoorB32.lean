/- A part of the proofs about the chapter of the doors; it states no condition of its own. -/
import Derived.Test.YtekhddlngbppkaaDoorB13
import Derived.Test.YtekhddlngbppkaaDoorB28
import Derived.Test.YtekhddlngbppkaaDoorB30
import Derived.Test.YtekhddlngbppkaaDoorB31
set_option linter.unusedVariables false
set_option linter.unusedSimpArgs false
/- The numbers of the chapter's examples, all of them. (Vm) -/
namespace Go.Proofs.YtekhddlngbppkaaDoor
open Vm
theorem leave_of {who closed : List Int} {t : Nat} (he : leaveErr hH who closed = 0) (ht : t < 13) (h0 : ∀ j, j < t → leaveV 2 hH.doors j closed (comeOf who) ≠ who.sum) (h1 : leaveV 2 hH.doors t closed (comeOf who) = who.sum) : leaveR hH who closed = ((t : Int), 0) := by
 have hT : leaveT hH who closed = some t := find_range ht (fun j hj => decide_eq_false (h0 j hj)) (decide_eq_true h1)
 unfold leaveR
 rw [if_pos he, hT]
theorem leave_late {who closed : List Int} (he : leaveErr hH who closed = 0) (h0 : ∀ j, j < 13 → leaveV 2 hH.doors j closed (comeOf who) ≠ who.sum) : leaveR hH who closed = (0, 12) := by
 have hT : leaveT hH who closed = none := by
  unfold leaveT
  rw [List.find?_range_eq_none]
  intro j hj
  show (!decide (leaveV 2 hH.doors j closed (comeOf who) = who.sum)) = true
  rw [decide_eq_false (h0 j hj)]
  rfl
 unfold leaveR
 rw [if_pos he, hT]
theorem kla0 : leaveV 2 hH.doors 0 [] (comeOf [40, 0]) = (0 : Nat) := leaveV_of (by decide +kernel) (by decide +kernel)
theorem kla1 : leaveV 2 hH.doors 1 [] (comeOf [40, 0]) = (20 : Nat) := leaveV_of (by decide +kernel) (by decide +kernel)
theorem kla2 : leaveV 2 hH.doors 2 [] (comeOf [40, 0]) = (40 : Nat) := leaveV_of (by decide +kernel) (by decide +kernel)
theorem hH_leave_a : leaveR hH [40, 0] [] = (2, 0) := by
 have he : leaveErr hH [40, 0] [] = 0 := by decide +kernel
 refine leave_of (t := 2) he (by omega) (fun j hj => ?_) kla2
 ·rcases j with _ | _ | j
  ·exact fun e => absurd (kla0.symm.trans e) (by decide)
  ·exact fun e => absurd (kla1.symm.trans e) (by decide)
  ·omega
theorem klb0 : leaveV 2 hH.doors 0 [] (comeOf [50, 0]) = (0 : Nat) := leaveV_of (by decide +kernel) (by decide +kernel)
theorem klb1 : leaveV 2 hH.doors 1 [] (comeOf [50, 0]) = (20 : Nat) := leaveV_of (by decide +kernel) (by decide +kernel)
theorem klb2 : leaveV 2 hH.doors 2 [] (comeOf [50, 0]) = (45 : Nat) := leaveV_of (by decide +kernel) (by decide +kernel)
theorem klb3 : leaveV 2 hH.doors 3 [] (comeOf [50, 0]) = (50 : Nat) := leaveV_of (by decide +kernel) (by decide +kernel)
theorem hH_leave_b : leaveR hH [50, 0] [] = (3, 0) := by
 have he : leaveErr hH [50, 0] [] = 0 := by decide +kernel
 refine leave_of (t := 3) he (by omega) (fun j hj => ?_) klb3
 ·rcases j with _ | _ | _ | j
  ·exact fun e => absurd (klb0.symm.trans e) (by decide)
  ·exact fun e => absurd (klb1.symm.trans e) (by decide)
  ·exact fun e => absurd (klb2.symm.trans e) (by decide)
  ·omega
theorem klc0 : leaveV 2 hH.doors 0 [2] (comeOf [0, 50]) = (0 : Nat) := leaveV_of (by decide +kernel) (by decide +kernel)
theorem klc1 : leaveV 2 hH.doors 1 [2] (comeOf [0, 50]) = (0 : Nat) := leaveV_of (by decide +kernel) (by decide +kernel)
theorem klc2 : leaveV 2 hH.doors 2 [2] (comeOf [0, 50]) = (10 : Nat) := leaveV_of (by decide +kernel) (by decide +kernel)
theorem klc3 : leaveV 2 hH.doors 3 [2] (comeOf [0, 50]) = (20 : Nat) := leaveV_of (by decide +kernel) (by decide +kernel)
theorem klc4 : leaveV 2 hH.doors 4 [2] (comeOf [0, 50]) = (30 : Nat) := leaveV_of (by decide +kernel) (by decide +kernel)
theorem klc5 : leaveV 2 hH.doors 5 [2] (comeOf [0, 50]) = (40 : Nat) := leaveV_of (by decide +kernel) (by decide +kernel)
theorem klc6 : leaveV 2 hH.doors 6 [2] (comeOf [0, 50]) = (50 : Nat) := leaveV_of (by decide +kernel) (by decide +kernel)
theorem hH_leave_c : leaveR hH [0, 50] [2] = (6, 0) := by
 have he : leaveErr hH [0, 50] [2] = 0 := by decide +kernel
 refine leave_of (t := 6) he (by omega) (fun j hj => ?_) klc6
 ·rcases j with _ | _ | _ | _ | _ | _ | j
  ·exact fun e => absurd (klc0.symm.trans e) (by decide)
  ·exact fun e => absurd (klc1.symm.trans e) (by decide)
  ·exact fun e => absurd (klc2.symm.trans e) (by decide)
  ·exact fun e => absurd (klc3.symm.trans e) (by decide)
  ·exact fun e => absurd (klc4.symm.trans e) (by decide)
  ·exact fun e => absurd (klc5.symm.trans e) (by decide)
  ·omega
theorem kld0 : leaveV 2 hH.doors 0 [1, 2] (comeOf [0, 1]) = (0 : Nat) := leaveV_of (by decide +kernel) (by decide +kernel)
theorem kld1 : leaveV 2 hH.doors 1 [1, 2] (comeOf [0, 1]) = (0 : Nat) := leaveV_of (by decide +kernel) (by decide +kernel)
theorem kld2 : leaveV 2 hH.doors 2 [1, 2] (comeOf [0, 1]) = (0 : Nat) := leaveV_of (by decide +kernel) (by decide +kernel)
theorem kld3 : leaveV 2 hH.doors 3 [1, 2] (comeOf [0, 1]) = (0 : Nat) := leaveV_of (by decide +kernel) (by decide +kernel)
theorem kld4 : leaveV 2 hH.doors 4 [1, 2] (comeOf [0, 1]) = (0 : Nat) := leaveV_of (by decide +kernel) (by decide +kernel)
theorem kld5 : leaveV 2 hH.doors 5 [1, 2] (comeOf [0, 1]) = (0 : Nat) := leaveV_of (by decide +kernel) (by decide +kernel)
theorem kld6 : leaveV 2 hH.doors 6 [1, 2] (comeOf [0, 1]) = (0 : Nat) := leaveV_of (by decide +kernel) (by decide +kernel)
theorem kld7 : leaveV 2 hH.doors 7 [1, 2] (comeOf [0, 1]) = (0 : Nat) := leaveV_of (by decide +kernel) (by decide +kernel)
theorem kld8 : leaveV 2 hH.doors 8 [1, 2] (comeOf [0, 1]) = (0 : Nat) := leaveV_of (by decide +kernel) (by decide +kernel)
theorem kld9 : leaveV 2 hH.doors 9 [1, 2] (comeOf [0, 1]) = (0 : Nat) := leaveV_of (by decide +kernel) (by decide +kernel)
theorem kld10 : leaveV 2 hH.doors 10 [1, 2] (comeOf [0, 1]) = (0 : Nat) := leaveV_of (by decide +kernel) (by decide +kernel)
theorem kld11 : leaveV 2 hH.doors 11 [1, 2] (comeOf [0, 1]) = (0 : Nat) := leaveV_of (by decide +kernel) (by decide +kernel)
theorem kld12 : leaveV 2 hH.doors 12 [1, 2] (comeOf [0, 1]) = (0 : Nat) := leaveV_of (by decide +kernel) (by decide +kernel)
theorem hH_leave_d : leaveR hH [0, 1] [1, 2] = (0, 12) := by
 have he : leaveErr hH [0, 1] [1, 2] = 0 := by decide +kernel
 refine leave_late he (fun j hj => ?_)
 ·rcases j with _ | _ | _ | _ | _ | _ | _ | _ | _ | _ | _ | _ | _ | j
  ·exact fun e => absurd (kld0.symm.trans e) (by decide)
  ·exact fun e => absurd (kld1.symm.trans e) (by decide)
  ·exact fun e => absurd (kld2.symm.trans e) (by decide)
  ·exact fun e => absurd (kld3.symm.trans e) (by decide)
  ·exact fun e => absurd (kld4.symm.trans e) (by decide)
  ·exact fun e => absurd (kld5.symm.trans e) (by decide)
  ·exact fun e => absurd (kld6.symm.trans e) (by decide)
  ·exact fun e => absurd (kld7.symm.trans e) (by decide)
  ·exact fun e => absurd (kld8.symm.trans e) (by decide)
  ·exact fun e => absurd (kld9.symm.trans e) (by decide)
  ·exact fun e => absurd (kld10.symm.trans e) (by decide)
  ·exact fun e => absurd (kld11.symm.trans e) (by decide)
  ·exact fun e => absurd (kld12.symm.trans e) (by decide)
  ·omega
theorem ka00 : leaveV 2 hH.doors 0 [] (comeS 0) = (0 : Nat) := leaveV_of (by decide +kernel) (by decide +kernel)
theorem ka01 : leaveV 2 hH.doors 0 [] (comeS 1) = (0 : Nat) := leaveV_of (by decide +kernel) (by decide +kernel)
theorem ka02 : leaveV 2 hH.doors 0 [] (comeS 2) = (0 : Nat) := leaveV_of (by decide +kernel) (by decide +kernel)
theorem ka03 : leaveV 2 hH.doors 0 [] (comeS 3) = (0 : Nat) := leaveV_of (by decide +kernel) (by decide +kernel)
theorem hH_adm0 : admitV hH 0 [] = 0 := by
 have o0 : outS hH 0 [] 0 = 0 := ka00
 have o1 : outS hH 0 [] 1 = 0 := ka01
 have o2 : outS hH 0 [] 2 = 0 := ka02
 have o3 : outS hH 0 [] 3 = 0 := ka03
 show bestS hH 0 [] (bestS hH 0 [] (bestS hH 0 [] (bestS hH 0 [] 150 0) 1) 2) 3 = 0
 unfold bestS
 rw [o0, o1, o2, o3]
 decide +kernel
theorem ka10 : leaveV 2 hH.doors 1 [] (comeS 0) = (0 : Nat) := leaveV_of (by decide +kernel) (by decide +kernel)
theorem ka11 : leaveV 2 hH.doors 1 [] (comeS 1) = (20 : Nat) := leaveV_of (by decide +kernel) (by decide +kernel)
theorem ka12 : leaveV 2 hH.doors 1 [] (comeS 2) = (5 : Nat) := leaveV_of (by decide +kernel) (by decide +kernel)
theorem ka13 : leaveV 2 hH.doors 1 [] (comeS 3) = (25 : Nat) := leaveV_of (by decide +kernel) (by decide +kernel)
theorem hH_adm1 : admitV hH 1 [] = 5 := by
 have o0 : outS hH 1 [] 0 = 0 := ka10
 have o1 : outS hH 1 [] 1 = 20 := ka11
 have o2 : outS hH 1 [] 2 = 5 := ka12
 have o3 : outS hH 1 [] 3 = 25 := ka13
 show bestS hH 1 [] (bestS hH 1 [] (bestS hH 1 [] (bestS hH 1 [] 150 0) 1) 2) 3 = 5
 unfold bestS
 rw [o0, o1, o2, o3]
 decide +kernel
theorem ka20 : leaveV 2 hH.doors 2 [] (comeS 0) = (0 : Nat) := leaveV_of (by decide +kernel) (by decide +kernel)
theorem ka21 : leaveV 2 hH.doors 2 [] (comeS 1) = (45 : Nat) := leaveV_of (by decide +kernel) (by decide +kernel)
theorem ka22 : leaveV 2 hH.doors 2 [] (comeS 2) = (20 : Nat) := leaveV_of (by decide +kernel) (by decide +kernel)
theorem ka23 : leaveV 2 hH.doors 2 [] (comeS 3) = (50 : Nat) := leaveV_of (by decide +kernel) (by decide +kernel)
theorem hH_adm2 : admitV hH 2 [] = 20 := by
 have o0 : outS hH 2 [] 0 = 0 := ka20
 have o1 : outS hH 2 [] 1 = 45 := ka21
 have o2 : outS hH 2 [] 2 = 20 := ka22
 have o3 : outS hH 2 [] 3 = 50 := ka23
 show bestS hH 2 [] (bestS hH 2 [] (bestS hH 2 [] (bestS hH 2 [] 150 0) 1) 2) 3 = 20
 unfold bestS
 rw [o0, o1, o2, o3]
 decide +kernel
theorem ka40 : leaveV 2 hH.doors 4 [] (comeS 0) = (0 : Nat) := leaveV_of (by decide +kernel) (by decide +kernel)
theorem ka41 : leaveV 2 hH.doors 4 [] (comeS 1) = (95 : Nat) := leaveV_of (by decide +kernel) (by decide +kernel)
theorem ka42 : leaveV 2 hH.doors 4 [] (comeS 2) = (50 : Nat) := leaveV_of (by decide +kernel) (by decide +kernel)
theorem ka43 : leaveV 2 hH.doors 4 [] (comeS 3) = (100 : Nat) := leaveV_of (by decide +kernel) (by decide +kernel)
theorem hH_adm4 : admitV hH 4 [] = 95 := by
 have o0 : outS hH 4 [] 0 = 0 := ka40
 have o1 : outS hH 4 [] 1 = 95 := ka41
 have o2 : outS hH 4 [] 2 = 50 := ka42
 have o3 : outS hH 4 [] 3 = 100 := ka43
 show bestS hH 4 [] (bestS hH 4 [] (bestS hH 4 [] (bestS hH 4 [] 150 0) 1) 2) 3 = 95
 unfold bestS
 rw [o0, o1, o2, o3]
 decide +kernel
theorem hH_adm3 : admitV hH 3 [] = 35 := by
 have h := hH_admit
 unfold admitR at h
 have he : ticksErr hH 0 3 [] = 0 := by decide +kernel
 rw [if_pos he] at h
 exact congrArg Prod.fst h
theorem hH_admit0 : admitR hH 0 [] = (0, 0) := by
 have he : ticksErr hH 0 0 [] = 0 := by decide +kernel
 unfold admitR
 rw [if_pos he]
 exact congrArg (fun x => (x, (0 : Int))) hH_adm0
theorem hH_admit1 : admitR hH 1 [] = (5, 0) := by
 have he : ticksErr hH 0 1 [] = 0 := by decide +kernel
 unfold admitR
 rw [if_pos he]
 exact congrArg (fun x => (x, (0 : Int))) hH_adm1
theorem hH_admit2 : admitR hH 2 [] = (20, 0) := by
 have he : ticksErr hH 0 2 [] = 0 := by decide +kernel
 unfold admitR
 rw [if_pos he]
 exact congrArg (fun x => (x, (0 : Int))) hH_adm2
theorem hH_admit3 : admitR hH 3 [] = (35, 0) := by
 have he : ticksErr hH 0 3 [] = 0 := by decide +kernel
 unfold admitR
 rw [if_pos he]
 exact congrArg (fun x => (x, (0 : Int))) hH_adm3
theorem hH_admit4 : admitR hH 4 [] = (95, 0) := by
 have he : ticksErr hH 0 4 [] = 0 := by decide +kernel
 unfold admitR
 rw [if_pos he]
 exact congrArg (fun x => (x, (0 : Int))) hH_adm4
theorem hH_safe13 : safeR hH 1 3 [] = (3, 0) := by
 have he : ticksErr hH 1 3 [] = 0 := by decide +kernel
 unfold safeR
 rw [if_pos he, hH_inside]
 simp only
 rw [show admitV hH (3 : Int).toNat [] = _ from hH_adm3]
 decide +kernel
theorem hH_safe23 : safeR hH 2 3 [] = (1, 0) := by
 have he : ticksErr hH 2 3 [] = 0 := by decide +kernel
 unfold safeR
 rw [if_pos he, hH_inside]
 simp only
 rw [show admitV hH (3 : Int).toNat [] = _ from hH_adm3]
 decide +kernel
theorem hH_safe12 : safeR hH 1 2 [] = (2, 0) := by
 have he : ticksErr hH 1 2 [] = 0 := by decide +kernel
 unfold safeR
 rw [if_pos he, hH_inside]
 simp only
 rw [show admitV hH (2 : Int).toNat [] = _ from hH_adm2]
 decide +kernel
def nH0 : Ho := { hH with holds := [] }
def sH0 : Ho := { hH with doors := [⟨0, -1, 20⟩, ⟨0, 0, 10⟩, ⟨1, -1, 5⟩] }
def iH0 : Ho := { hH with counts := [⟨0, 0, ⟨20, 25⟩, ⟨0, 5⟩⟩, ⟨1, 0, ⟨5, 5⟩, ⟨10, 20⟩⟩, ⟨2, 1, ⟨0, 0⟩, ⟨30, 30⟩⟩] }
def mH0 : Ho := { hH with counts := [⟨0, 0, ⟨20, 25⟩, ⟨0, 5⟩⟩, ⟨1, 0, ⟨5, 5⟩, ⟨10, 20⟩⟩, ⟨2, 2, ⟨0, 0⟩, ⟨50, 50⟩⟩] }
theorem nH0_err : houseErr nH0 = 7 := by decide +kernel
theorem sH0_err : houseErr sH0 = 2 := by decide +kernel
theorem iH0_err : houseErr iH0 = 8 := by decide +kernel
theorem mH0_err : houseErr mH0 = 0 := by decide +kernel
theorem mH0_in : insideH mH0 = none := by decide +kernel
def txH : By := [104, 111, 117, 115, 101, 32, 49, 48, 32, 49, 53, 32, 51, 10, 104, 97, 108, 108, 32, 49, 48, 48, 10, 104, 97, 108, 108, 32, 53, 48, 10, 100, 111, 111, 114, 32, 48, 32, 45, 49, 32, 50, 48, 10, 100, 111, 111, 114, 32, 48, 32, 49, 32, 49, 48, 10, 100, 111, 111, 114, 32, 49, 32, 45, 49, 32, 53, 10, 99, 111, 117, 110, 116, 32, 48, 32, 48, 32, 50, 48, 32, 50, 53, 32, 48, 32, 53, 10, 99, 111, 117, 110, 116, 32, 49, 32, 48, 32, 53, 32, 53, 32, 49, 48, 32, 50, 48, 10, 99, 111, 117, 110, 116, 32, 50, 32, 50, 32, 48, 32, 48, 32, 51, 48, 32, 51, 48, 10, 101, 110, 100, 32, 51, 10]
theorem hH_write : writeS hH = txH := by decide +kernel
end Go.Proofs.YtekhddlngbppkaaDoor

/- Temporaries known in another way; nil slices read as plain data. (Vm) -/
namespace Go.Proofs.YtekhddlngbppkaaDoor.Vm
open Go Go.Proofs
section
variable {P : Program} {T : Tab} {cx : Cx} {e : Env} {M : Mem} {D : List Nat} {Q : PQ} {c : Code}
end
end Go.Proofs.YtekhddlngbppkaaDoor.Vm

/- A weaker view of an object's cell. (Vm) -/
namespace Go.Proofs.YtekhddlngbppkaaDoor.Vm
open Go Go.Proofs
section
variable {P : Program} {T : Tab} {cx : Cx} {e : Env} {M : Mem} {D : List Nat} {Q : PQ} {c : Code}
theorem W_nilobj {id off k k0 : Nat} {cs : List VV} (ho : M.H[id]? = some (.obj cs)) (hc : cs[off]? = some (.sf k0 [])) (h : WCode P cx c e ⟨M.H.set id (.obj (cs.set off (.p (.sl k [])))), M.lg⟩ D Q) : WCode P cx c e M D Q := by
 intro G w K a hs
 have i1 := hs.inv
 have hil := (List.getElem?_eq_some_iff.1 ho).1
 have hs2 : ∀ j x, (M.H.set id (.obj (cs.set off (.p (.sl k [])))))[j]? = some x → (j = id ∧ x = .obj (cs.set off (.p (.sl k [])))) ∨ (j ≠ id ∧ M.H[j]? = some x) := fun j x hx => by
  rcases set_get hx with ⟨rfl, rfl, _⟩ | ⟨h1, h2⟩
  ·exact .inl ⟨rfl, rfl⟩
  ·exact .inr ⟨h1, h2⟩
 have hE : Ext w K M.H w K (M.H.set id (.obj (cs.set off (.p (.sl k []))))) := by
  refine ⟨Nat.le_refl _, Szp.refl _, fun b o _ him i ob hi hb => ?_, fun _ _ _ _ => rfl, fun i o hi => ?_⟩
  ·rcases hs2 i ob hi with ⟨rfl, rfl⟩ | ⟨_, h2⟩
   ·rcases him i _ ho hb with e2 | ⟨m, k', e2, _⟩
    ·exact e2.elim
    ·cases e2
   ·exact him i ob h2 hb
  ·by_cases h1 : i = id
   ·subst h1
    rw [ho] at hi
    cases hi
    exact ⟨.obj (cs.set off (.p (.sl k []))), by simp [hil], fun _ _ e => VObj.noConfusion e, rfl⟩
   ·refine ⟨o, by rw [List.getElem?_set_ne (Ne.symm h1)]; exact hi, ?_⟩
    exact objLe_same rfl fun b _ => rfl
 have hI2 : Inv G w K { H := M.H.set id (.obj (cs.set off (.p (.sl k [])))), lg := M.lg } := by
  refine ⟨i1.os, i1.tape, i1.output, i1.size, i1.gB, i1.old, inj_set i1 (by simp) (gone_set ho (fun e => by cases e)), fun i b hi => i1.blk i b (by simpa using hi), fun i o hi => ?_, fun i o hi cc hcc r hr => ?_, fun en hen => ?_, fun i L hi => ?_⟩
  ·rcases hs2 i o hi with ⟨rfl, rfl⟩ | ⟨h1, h2⟩
   ·intro b hb
    obtain ⟨vs, t, q1, q2, q3⟩ := i1.obj i _ ho b hb
    refine ⟨vs, t, q1, by simpa using q2, fun j v cv hv hcv => ?_⟩
    rw [List.getElem?_set] at hcv
    by_cases hj : off = j
    ·subst hj
     have hlt := (List.getElem?_eq_some_iff.1 hc).1
     rw [if_pos rfl, if_pos hlt] at hcv
     cases hcv
     obtain ⟨r1, r2⟩ := q3 off v _ hv hc
     refine ⟨?_, r2⟩
     cases r1 with
     | sf A _ _ h0 => exact .p _ _ (.sl A 0 k 0 0 [] (fun _ _ => undef) (Nat.le_refl _) (by simp [maxLen]) (fun x hx => by cases hx) (fun hx => absurd rfl hx) (fun i x j u hx => by simp at hx) (fun i x j u hx => by simp at hx) (fun i x j u hx => by simp at hx))
    ·rw [if_neg hj] at hcv
     obtain ⟨r1, r2⟩ := q3 j v cv hv hcv
     exact ⟨r1.ext hE (i1.content ho cv (by simp only [contents]; exact List.mem_of_getElem? hcv)), r2⟩
   ·exact (i1.obj i o h2).ext hE (fun _ _ => rfl) (i1.content h2)
  ·simp only [List.length_set]
   rcases hs2 i o hi with ⟨rfl, rfl⟩ | ⟨h1, h2⟩
   ·simp only [contents] at hcc
    rcases List.mem_or_eq_of_mem_set hcc with hm | rfl
    ·exact i1.cl i _ ho cc (by simp only [contents]; exact hm) r hr
    ·simp [refs] at hr
   ·exact i1.cl i o h2 cc hcc r hr
  ·simp only [List.length_set]
   exact i1.lg en hen
  ·rcases hs2 i _ hi with ⟨rfl, e2⟩ | ⟨_, h2⟩
   ·cases e2
   ·exact i1.lpd i L h2
 have hs3 : StOk cx G w K { H := M.H.set id (.obj (cs.set off (.p (.sl k [])))), lg := M.lg } a e D := ⟨hs.fr.ext (M' := { H := M.H.set id (.obj (cs.set off (.p (.sl k [])))), lg := M.lg }) hE, df_ext (M' := { H := M.H.set id (.obj (cs.set off (.p (.sl k [])))), lg := M.lg }) hE hs.df, hI2, (rd_ext (M' := { H := M.H.set id (.obj (cs.set off (.p (.sl k [])))), lg := M.lg }) hE hs.rd).1⟩
 have h2 := h G w _ a hs3
 exact wpIn_mono h2 fun ex a' w' ⟨e', M', K', D', q1, q2, q3, q4⟩ => ⟨e', M', K', D', q1, q2, q3, hE.trans q4⟩
end
end Go.Proofs.YtekhddlngbppkaaDoor.Vm
