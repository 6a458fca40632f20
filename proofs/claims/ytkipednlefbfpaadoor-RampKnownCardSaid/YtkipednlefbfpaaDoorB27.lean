/- A part of the proofs about the chapter of the ramps; it states no condition of its own. -/
import Derived.Test.YtkipednlefbfpaaDoorB20
import Derived.Test.YtkipednlefbfpaaDoorB26
import Derived.Maps.RangeRun
set_option linter.unusedVariables false
set_option linter.unusedSimpArgs false
open Int renaming reduceLE → zA, reduceLT → zB, reduceToNat → zC, reduceNeg → zD
open Nat renaming reduceLT → zE, reduceEqDiff → zF, reduceAdd → zG, reduceSub → zH, reduceMul → zI, reduceLeDiff → zJ
/- A range over a map, whatever the order. (Vm) -/
namespace Go.Proofs.YtkipednlefbfpaaDoor.Vm
open Go Go.Proofs
open Go.ChangeMaps Go.MapKept
theorem raw_op {P : Program} {r : Option Nat} {o : Oper} {a : Act} {w w' : World} {rv : Value} {next : Act → World → Prop} {Q : Exit → Act → World → Prop} (hd : ∀ c, o.op ≠ .defer c) (h : (execOp a.eval o).run P w = .ok (.value rv) w') (hn : next (a.put o.dst rv) w') : o.wpIn (fence r) 0 P a w next Q := by
 refine ⟨fun _ _ => trivial, ?_⟩
 rw [Oper.semAt_eq _ _ _ hd, h]
 exact hn
section
variable {P : Program} {ρ : Operand → Value} {o : Oper} {w w' : World} {rv v : Value}
theorem exec_range {t : TypeId} {m : Operand} (ho : o.op = .range t m) (hm : ρ m = v) (h : (Instr.range t v).run P w = .ok rv w') : (execOp ρ o).run P w = .ok (.value rv) w' := by
 unfold execOp
 simp only [ho, hm]
 simp [h]
theorem exec_next {m : Operand} (ho : o.op = .next m false) (hm : ρ m = v) (h : (Instr.next v false o.type).run P w = .ok rv w') : (execOp ρ o).run P w = .ok (.value rv) w' := by
 unfold execOp
 simp only [ho, hm]
 simp [h]
theorem exec_entry {m : Operand} (ho : o.op = .entry m) (hm : ρ m = v) (h : (Instr.entry v).run P w = .ok rv w') : (execOp ρ o).run P w = .ok (.value rv) w' := by
 unfold execOp
 simp only [ho, hm]
 simp [h]
end
theorem iter_keep {G : Ghost} {w w1 : World} {K : Nat → Option Nat} {M : Mem} {it r : Nat} {bm : Option Nat} {since c0 : Nat} {seen seen' : Array Nat} {c1 : Nat} (hI : Inv G w K M) (hit : M.H[it]? = some .dead) (hK : K it = some r) (hr : w.heap[r]? = some (.mapIter bm since seen c0)) (hw1 : w1 = w ∨ w1 = w.drew) :
  (∀ b, b ≠ r → (setBlock w1 r (.mapIter bm since seen' c1)).heap[b]? = w.heap[b]?) ∧ (setBlock w1 r (.mapIter bm since seen' c1)).heap[r]? = some (.mapIter bm since seen' c1) ∧ (setBlock w1 r (.mapIter bm since seen' c1)).heap.size = w.heap.size ∧
  Keep (fun _ => True) w K M.H (setBlock w1 r (.mapIter bm since seen' c1)) K M.H ∧ (∀ i o, M.H[i]? = some o → o ≠ .gone → i ≠ it → ∀ b, K i = some b → b ≠ r) ∧ (G.B ≤ r → Inv G (setBlock w1 r (.mapIter bm since seen' c1)) K M) := by
 have hheap : w1.heap = w.heap := by rcases hw1 with rfl | rfl <;> rfl
 have hos : w1.os = w.os ∧ w1.tape = w.tape ∧ w1.output = w.output := by rcases hw1 with rfl | rfl <;> exact ⟨rfl, rfl, rfl⟩
 have hr1 : w1.heap[r]? = some (.mapIter bm since seen c0) := by rw [hheap]; exact hr
 have hset := MapKept.heap_set (o' := .mapIter bm since seen' c1) hr1
 obtain ⟨w2, hw2⟩ : ∃ w2, w2 = setBlock w1 r (.mapIter bm since seen' c1) := ⟨_, rfl⟩
 have h2 : w2.heap = w1.heap.setIfInBounds r (.mapIter bm since seen' c1) := by rw [hw2]; rfl
 rw [← hw2]
 have hoth : ∀ b, b ≠ r → w2.heap[b]? = w.heap[b]? := fun b hb => by rw [h2, hset.2 b hb, hheap]
 have hsame : w2.heap[r]? = some (.mapIter bm since seen' c1) := by rw [h2]; exact hset.1
 have hsz : w2.heap.size = w.heap.size := by rw [h2, Array.size_setIfInBounds, hheap]
 have hitl := (List.getElem?_eq_some_iff.1 hit).1
 have hne : ∀ i o, M.H[i]? = some o → o ≠ .gone → i ≠ it → ∀ b, K i = some b → b ≠ r := fun i o ho hg hi b hb e => by
  subst e
  exact hi (hI.inj i it b (List.getElem?_eq_some_iff.1 ho).1 hitl (by rw [ho]; simpa using hg) (by rw [hit]; simp) hb hK)
 have hcell : ∀ b o, w2.cell? ⟨b, o, none⟩ = w.cell? ⟨b, o, none⟩ := fun b o => by
  by_cases e : b = r
  ·subst e
   simp only [World.cell?, hsame, hr]
  ·simp only [World.cell?, hoth b e]
 have hkeep : Keep (fun _ => True) w K M.H w2 K M.H := by
  refine ⟨fun b vs t z hb => ⟨vs, z, ?_, rfl⟩, fun b o _ him => ⟨him, hcell b o⟩, fun i _ hn => ⟨fun _ h => h, hn⟩, fun i m k _ hm => ⟨m, hm, Nat.le_refl _, fun _ => ⟨rfl, fun b hb => ?_⟩⟩⟩
  ·rw [hoth b (fun e => by subst e; rw [hr] at hb; cases hb)]; exact hb
  ·exact hoth b (hne i _ hm (by simp) (fun e => by subst e; rw [hit] at hm; cases hm) b hb)
 refine ⟨hoth, hsame, hsz, hkeep, hne, fun hB => ?_⟩
 have hos2 : w2.os = w.os ∧ w2.tape = w.tape ∧ w2.output = w.output := by rw [hw2]; exact hos
 refine ⟨hos2.1.trans hI.os, hos2.2.1.trans hI.tape, hos2.2.2.trans hI.output, by rw [hsz]; exact hI.size, by rw [hsz]; exact hI.gB, fun b h1 h2 => ?_, hI.inj, fun i b hi hb => by rw [hsz]; exact hI.blk i b hi hb, fun i o ho => ?_, hI.cl, hI.lg, hI.lpd⟩
 ·rw [hoth b (fun e => by subst e; omega)]
  exact hI.old b h1 h2
 ·by_cases hi : i = it
  ·subst hi
   rw [hit] at ho
   cases ho
   exact trivial
  ·refine (hI.obj i o ho).keepg hkeep (fun hg b hb => hoth b (hne i o ho hg hi b hb)) (fun _ _ _ _ => trivial) (fun L e => ⟨trivial, ?_⟩)
   subst e
   obtain ⟨_, _, _, _, _, _, _, _, _, _, _, _, _, hlt, _⟩ := hI.obj i _ ho
   exact hlt
theorem FrOk.keepT {w w' : World} {K K' : Nat → Option Nat} {M : Mem} {nt : Nat} {tmps : Array Value} {e : Env} (h : FrOk w K M nt tmps e) (hk : Keep (fun _ => True) w K M.H w' K' M.H) : FrOk w' K' M nt tmps e :=
 ⟨h.size, fun t => (h.rep t).keep hk fun _ _ => trivial, h.cl⟩
theorem dead_map {G : Ghost} {w : World} {K : Nat → Option Nat} {M : Mem} {id : Nat} {sh : KSh} {es : List (List Int × VV)} (i1 : Inv G w K M) (h1 : M.H[id]? = some (.mpo sh es)) : Ext w K M.H w K (M.H.set id .dead) ∧ Inv G w K ⟨M.H.set id .dead, M.lg⟩ := by
 have hil := (List.getElem?_eq_some_iff.1 h1).1
 obtain ⟨H2, hH2⟩ : ∃ H2, H2 = M.H.set id .dead := ⟨_, rfl⟩
 have hl2 : H2.length = M.H.length := by rw [hH2]; simp
 have hs2 : ∀ i x, H2[i]? = some x → (i = id ∧ x = .dead) ∨ (i ≠ id ∧ M.H[i]? = some x) := fun i x hx => by
  rw [hH2] at hx
  rcases set_get hx with ⟨rfl, rfl, _⟩ | ⟨b1, b2⟩
  ·exact .inl ⟨rfl, rfl⟩
  ·exact .inr ⟨b1, b2⟩
 have hE : Ext w K M.H w K H2 := by
  refine ⟨Nat.le_refl _, Szp.refl _, fun b q _ him i ob hi hb => ?_, fun _ _ _ _ => rfl, fun i x hi => ?_⟩
  ·rcases hs2 i ob hi with ⟨rfl, rfl⟩ | ⟨_, h2⟩
   ·exact .inl trivial
   ·exact him i ob h2 hb
  ·by_cases hid : i = id
   ·subst hid
    rw [h1] at hi
    cases hi
    exact ⟨.dead, by rw [hH2, List.getElem?_set_self hil], fun _ _ e => VObj.noConfusion e, rfl⟩
   ·exact ⟨x, by rw [hH2, List.getElem?_set_ne (Ne.symm hid)]; exact hi, objLe_same rfl fun b _ => rfl⟩
 have hI2 : Inv G w K { H := H2, lg := M.lg } := by
  refine ⟨i1.os, i1.tape, i1.output, i1.size, i1.gB, i1.old, inj_set i1 hl2 (fun i hg => by
   by_cases e1 : i = id
   ·rw [e1, h1]; simp
   ·rw [hH2, List.getElem?_set_ne (fun h => e1 h.symm)] at hg
    exact hg), fun i b hi => i1.blk i b (by simpa [hl2] using hi), fun i x hi => ?_, fun i x hi cc hcc r hr => ?_, fun en hen => ?_, fun i L hi => ?_⟩
  ·rcases hs2 i x hi with ⟨rfl, rfl⟩ | ⟨_, h2⟩
   ·exact trivial
   ·exact (i1.obj i x h2).ext hE (fun _ _ => rfl) (i1.content h2)
  ·simp only [hl2]
   rcases hs2 i x hi with ⟨rfl, rfl⟩ | ⟨_, h2⟩
   ·simp [contents] at hcc
   ·exact i1.cl i x h2 cc hcc r hr
  ·simp only [hl2]
   exact i1.lg en hen
  ·rcases hs2 i _ hi with ⟨rfl, e2⟩ | ⟨_, h2⟩
   ·cases e2
   ·exact i1.lpd i L h2
 rw [← hH2]
 exact ⟨hE, hI2⟩
theorem wpOps_cons {F : Fence} {n : Nat} {P : Program} {ops : Array Oper} {Q : Exit → Act → World → Prop} {i : Nat} {rest : List Nat} {o : Oper} {a : Act} {w : World} (ho : ops[i]? = some o) (hg : o.guard = none) (h : o.wpIn F n P a w (wpOpsIn F n P ops Q rest) Q) : wpOpsIn F n P ops Q (i :: rest) a w := by
 rw [wpOpsIn]
 simp only [ho]
 rw [if_pos (by simp [Region.wanted, hg])]
 exact h
theorem put_eval {a : Act} {d : Nat} {v : Value} (h : d < a.tmps.size) : (a.put (some d) v).eval (.tmp d) = v := by
 simp [Act.put, Act.eval, h]
theorem putA_size {a : Act} {d : Option Nat} {v : Value} : (a.put d v).tmps.size = a.tmps.size := by
 cases d <;> simp [Act.put]
theorem putA_dfr {a : Act} {d : Option Nat} {v : Value} : (a.put d v).defers = a.defers := by
 cases d <;> rfl
theorem dead_stay {w w' : World} {K K' : Nat → Option Nat} {H H' : List VObj} (h : Ext w K H w' K' H') {i b : Nat} (hi : H[i]? = some .dead) (hK : K i = some b) : w'.heap[b]? = w.heap[b]? ∧ K' i = some b := by
 obtain ⟨o', _, _, h2, h3⟩ := h.obj i _ hi
 exact ⟨h3 b hK, h2.trans hK⟩
theorem Sub_push {E e : Env} {t : Nat} {v : VV} (h : Sub E e) (hE : ∀ p ∈ E, p.1 ≠ t) : Sub E ((t, v) :: e) := by
 induction E with
 | nil => trivial
 | cons p E ih =>
  obtain ⟨k, u⟩ := p
  refine ⟨?_, ih h.2 fun p hp => hE p (by simp [hp])⟩
  rw [get_cons, if_neg (hE (k, u) (by simp))]
  exact h.1
section
variable {P : Program} {T : Tab}
variable {i2 i3 i4 b0 b1 t8 t9 t10 t11 t12 tm : Nat} {x : Operand} {ty1 ty2 ty3 ty4 ty5 : TypeId} {p1 p2 p3 p4 p5 : String} {af1 af2 af3 af4 af5 : Array Edge}
theorem W_mapRange {σ : Type} (hT : TabOk P T) {fid nt : Nat} {e : Env} {M : Mem} {Q : PQ} {ops4 : Array Oper} {rest4 : List Oper} {body : Code} {id : Nat} {kk : IntKind} {es : List (List Int × VV)} {tk te : TypeId}
  (h4 : ops4.toList = { dst := some t12, op := .entry (.tmp t9), type := ty5, pos := p5, after := af5, guard := none } :: rest4)
  (hx : ev e x = .mp id) (hid : M.H[id]? = some (.mpo (.int kk) es)) (hks : ∀ p ∈ es, ∃ n, p.1 = [n]) (hty : P.underlying tm = some (.map tk te))
  (ht : t8 < nt ∧ t9 < nt ∧ t10 < nt ∧ t11 < nt ∧ t12 < nt ∧ t9 ≠ t8 ∧ t9 ≠ t10 ∧ t9 ≠ t11)
  (E : σ → Env) (N : σ → Mem) (good : σ → List (List Int × VV) → Prop) (s0 : σ) (h0 : good s0 []) (hE0 : Sub (E s0) ((t9, .ptr M.H.length 0) :: (t8, .mp id) :: e)) (hN0 : N s0 = ⟨M.H.set id .dead ++ [.dead], M.lg⟩)
  (hE9 : ∀ s, get (E s) t9 = .ptr M.H.length 0) (hEk : ∀ s, ∀ p ∈ E s, p.1 ≠ t10 ∧ p.1 ≠ t11 ∧ p.1 ≠ t12) (hNd : ∀ s vis, good s vis → (N s).H[id]? = some .dead ∧ (N s).H[M.H.length]? = some .dead)
  (hend : ∀ s vis, vis.Perm es → good s vis → ∀ e', Sub (E s) e' → Q .normal e' (N s) [])
  (hround : ∀ s vis n v rest, (vis ++ ([n], v) :: rest).Perm es → good s vis → WOps P T nt ops4 rest4 ((t12, .tup [.p (.int kk n), v]) :: E s) (N s) fun e' M' => WCode P ⟨fid, none, nt⟩ body e' M' [] fun ex e' M' D' => ex = .normal ∧ D' = [] ∧ ∃ s', good s' (vis ++ [([n], v)]) ∧ Sub (E s') e' ∧ M' = N s') :
  WCode P ⟨fid, none, nt⟩ (.seq (.region i2 #[{ dst := some t8, op := .move x, type := ty1, pos := p1, after := af1, guard := none }, { dst := some t9, op := .range tm (.tmp t8), type := ty2, pos := p2, after := af2, guard := none }] false)
   (.block b0 (.loop (.seq (.region i3 #[{ dst := some t10, op := .next (.tmp t9) false, type := ty3, pos := p3, after := af3, guard := none }, { dst := some t11, op := .extract (.tmp t10) 0, type := ty4, pos := p4, after := af4, guard := none }] false)
     (.seq (.cond (.tmp t11) .skip (.exit b0)) (.block b1 (.seq (.region i4 ops4 false) body))))))) e M [] Q := by
 intro G w K a hs
 obtain ⟨ht8, ht9, ht10, ht11, ht12, n98, n910, n911⟩ := ht
 have hI := hs.inv
 have hsz := hs.fr.size
 simp only at hsz
 have hev := (hs.fr.ev x).1
 rw [hx] at hev
 generalize hax : a.eval x = av at hev
 cases hev with
 | mp _ b hKb hnc =>
 obtain ⟨b', ents, clock, e1, h1, h2, hst, h3⟩ := hI.obj id _ hid
 rw [hKb] at e1
 cases e1
 show Code.wpIn (fence none) 0 P _ _ a w
 refine wpIn_seq (wpIn_region ?_)
 show wpOpsIn (fence none) 0 P _ _ [0, 1] a w
 refine wpOps_cons rfl rfl (raw_op (rv := .map (some b)) (w' := w) (fun c hc => by simp at hc) (by simp [execOp, hax]) ?_)
 have hsz1 : (a.put (some t8) (.map (some b))).tmps.size = nt := by rw [putA_size]; exact hsz
 refine wpOps_cons rfl rfl (raw_op (rv := .pointer (some ⟨w.heap.size, 0, none⟩)) (w' := w.alloc (.mapIter (some b) clock #[] clock)) (fun c hc => by simp at hc) (exec_range rfl (put_eval (by omega)) (run_range_map (P := P) w tm tk te b ents clock hty h1)) ?_)
 rw [wpOpsIn]
 show Code.wpIn (fence none) 0 P _ _ _ _
 -- where the loop begins
 obtain ⟨hEa, hIa⟩ := dead_map hI hid
 obtain ⟨r, hrr⟩ : ∃ r, r = w.heap.size := ⟨_, rfl⟩
 obtain ⟨it, hit⟩ : ∃ it, it = M.H.length := ⟨_, rfl⟩
 have hla : (M.H.set id .dead).length = it := by rw [hit]; simp
 have hidl : id < it := by rw [hit]; exact (List.getElem?_eq_some_iff.1 hid).1
 obtain ⟨w1, hw1⟩ : ∃ w1, w1 = w.alloc (.mapIter (some b) clock #[] clock) := ⟨_, rfl⟩
 have hal := MapKept.heap_alloc w (.mapIter (some b) clock #[] clock)
 have hIb := step_new hIa (w' := w1) (by rw [hw1]; exact ⟨rfl, rfl, rfl, by show w.heap.size ≤ (w.heap.push _).size; simp⟩) (fun b hb => by rw [hw1]; exact hal.2 b hb) .dead (some r) (fun b hb => by cases hb; rw [hrr, hw1]; exact ⟨Nat.le_refl _, by show _ < (w.heap.push _).size; simp⟩) (by simp [contents]) (fun _ => trivial)
 obtain ⟨hEb, hIb⟩ := hIb
 simp only [Mem.push, hla] at hEb hIb
 have hE1 : Ext w K M.H w1 (upd K it (some r)) (M.H.set id .dead ++ [.dead]) := hEa.trans hEb
 have hB : G.B ≤ r := by rw [hrr]; exact hI.gB
 have hr0 : w1.heap[r]? = some (.mapIter (some b) clock #[] clock) := by rw [hrr, hw1]; exact hal.1
 have hblt : b < w.heap.size := (Array.getElem?_eq_some_iff.1 h1).1
 have hb0 : w1.heap[b]? = some (.map ents clock) := by rw [hw1, hal.2 b hblt]; exact h1
 have hbr : b ≠ r := by omega
 have hfr1 := hs.fr.ext (M' := ⟨M.H.set id .dead ++ [.dead], M.lg⟩) hE1
 have hfr2 : FrOk w1 (upd K it (some r)) ⟨M.H.set id .dead ++ [.dead], M.lg⟩ nt ((a.put (some t8) (.map (some b))).put (some t9) (.pointer (some ⟨w.heap.size, 0, none⟩))).tmps ((t9, .ptr it 0) :: (t8, .mp id) :: e) := by
  refine FrOk.put (FrOk.put hfr1 ht8 (.mp id b (by rw [upd_ne _ _ (by omega)]; exact hKb) (fun m k hm => ?_)) (fun q hq => by simp [refs] at hq; subst hq; simp; omega)) ht9 (.ptr it 0 w.heap.size (by rw [upd_same, hrr]) (fun m k hm => ?_)) (fun q hq => by simp [refs] at hq; subst hq; simp; omega)
  ·simp only at hm
   rw [List.getElem?_append_left (by rw [hla]; exact hidl), List.getElem?_set_self (by omega)] at hm
   cases hm
  ·simp only at hm
   rw [← hla, List.getElem?_append_right (Nat.le_refl _), Nat.sub_self] at hm
   cases hm
 have hst1 : StOk ⟨fid, none, nt⟩ G w1 (upd K it (some r)) (N s0) ((a.put (some t8) (.map (some b))).put (some t9) (.pointer (some ⟨w.heap.size, 0, none⟩))) ((t9, .ptr it 0) :: (t8, .mp id) :: e) [] := by
  rw [hN0]
  refine ⟨hfr2, ?_, hIb, fun _ h => by cases h⟩
  rw [putA_dfr, putA_dfr]
  exact df_ext (M' := ⟨M.H.set id .dead ++ [.dead], M.lg⟩) hE1 hs.df
 rw [← hw1]
 rw [← hit] at hE0 hE9 hNd
 -- the list of entries with what they stand for
 obtain ⟨Z, hZ⟩ : ∃ Z, Z = ents.toList.zip es := ⟨_, rfl⟩
 have hZ2 : Z.map (·.2) = es := by rw [hZ]; exact List.map_snd_zip (by simp [h2])
 have hZ1 : Z.map (·.1) = ents.toList := by rw [hZ]; exact List.map_fst_zip (by simp [h2])
 have hZm : ∀ z ∈ Z, z.1.key = keyVal (.int kk) z.2.1 ∧ RepV w K M.H z.1.val z.2.2 ∧ Cl M.H.length z.2.2 ∧ z.1 ∈ ents.toList ∧ z.2 ∈ es := fun z hz => by
  rw [hZ] at hz
  obtain ⟨i, hi⟩ := List.getElem?_of_mem hz
  rw [List.getElem?_zip_eq_some] at hi
  obtain ⟨q1, _, q3⟩ := h3 i z.1 z.2.1 z.2.2 (by simpa using hi.1) hi.2
  exact ⟨q1, q3, hI.content hid z.2.2 (List.mem_map.2 ⟨z.2, List.mem_of_getElem? hi.2, rfl⟩), List.mem_of_getElem? hi.1, List.mem_of_getElem? hi.2⟩
 have hnd : (Z.map fun z => z.1.born).Nodup := by
  have := hst.2
  rw [← hZ1, List.map_map] at this
  exact this
 let J : Nat → Act → World → Prop := fun n a1 w1 => ∃ (s : σ) (Zv Zr : List (MapEntry × (List Int × VV))) (e1 : Env) (K1 : Nat → Option Nat) (seen : Array Nat), n = Zr.length ∧ (Zv ++ Zr).Perm Z ∧ seen.toList = Zv.map (fun z => z.1.born) ∧ Sub (E s) e1 ∧ good s (Zv.map (·.2)) ∧ StOk ⟨fid, none, nt⟩ G w1 K1 (N s) a1 e1 [] ∧ Ext w K M.H w1 K1 (N s).H ∧ K1 it = some r ∧ K1 id = some b ∧ w1.heap[r]? = some (.mapIter (some b) clock seen clock) ∧ w1.heap[b]? = some (.map ents clock)
 refine wpIn_block (wpIn_loop (fun a' w' => ∃ n, J n a' w') (fun a' w' => leastOf fun n => J n a' w') ⟨_, s0, [], Z, _, _, #[], rfl, by simp, rfl, hE0, h0, hst1, by rw [hN0]; exact hE1, upd_same _ _ _, by rw [upd_ne _ _ (by omega)]; exact hKb, hr0, hb0⟩ ?_)
 rintro a1 w2 ⟨n1, hn1⟩
 obtain ⟨⟨s, Zv, Zr, e1, K1, seen, hnn, hperm, hseen, hS, hg, hst2, hE2, hKit, hKid, hr2, hb2⟩, hleast⟩ := leastOf_spec (p := fun n => J n a1 w2) hn1
 obtain ⟨hd1, hd2⟩ := hNd s _ hg
 have hI2 := hst2.inv
 have hfr2 := hst2.fr
 have hsz2 := hfr2.size
 simp only at hsz2
 -- the iterator's temp
 have hg9 : get e1 t9 = .ptr it 0 := by
  rcases hS.ok t9 with h | h
  ·rw [← h, hE9 s]
  ·rw [hE9 s] at h; cases h
 have hv9 : a1.eval (.tmp t9) = .pointer (some ⟨r, 0, none⟩) := by
  have h := (hfr2.ev (.tmp t9)).1
  simp only [ev, hg9] at h
  generalize a1.eval (.tmp t9) = v9 at h
  cases h with
  | ptr _ _ b9 hb9 _ =>
   rw [hKit] at hb9
   cases hb9; rfl
 have hold : ∀ z ∈ ents.toList, z.born < clock := hst.1
 refine wpIn_seq (wpIn_region ?_)
 show wpOpsIn (fence none) 0 P _ _ [0, 1] a1 w2
 rcases run_next_at (P := P) w2 ty3 r b clock clock seen ents clock hr2 hb2 hold (Nat.le_refl _) with ⟨hz, hrun⟩ | ⟨en, hen, w3, hw3, hrun⟩
 ·-- nothing is left
  refine wpOps_cons rfl rfl (raw_op (rv := .tuple #[.bool false]) (w' := w2) (fun c hc => by simp at hc) (exec_next rfl hv9 hrun) ?_)
  have hZr : Zr = [] := by
   cases Zr with
   | nil => rfl
   | cons z Zr =>
    have hz2 : z ∈ Z := hperm.subset (by simp)
    have := all_seen ents seen hz z.1 (hZm z hz2).2.2.2.1
    rw [Array.contains_eq_mem, decide_eq_true_eq, ← Array.mem_toList_iff, hseen] at this
    have hn2 := (hperm.map (fun z => z.1.born)).nodup_iff.2 hnd
    rw [List.map_append, List.map_cons, List.nodup_append] at hn2
    exact absurd rfl (hn2.2.2 _ this _ (by simp))
  subst hZr
  rw [List.append_nil] at hperm
  have hfr3 : FrOk w2 K1 (N s) nt (a1.put (some t10) (.tuple #[.bool false])).tmps ((t10, .tup [.p (.bool false)]) :: e1) := hfr2.put ht10 (.tup _ _ rfl fun i v c hv hc => by
   rcases i with _ | i
   ·simp at hv hc; subst hv hc; exact .p _ _ (.bool false)
   ·simp at hv) (fun q hq => by simp [refs, refsL] at hq)
  have := wops_ok hT (r := none) (nt := nt) (all := #[{ dst := some t10, op := .next (.tmp t9) false, type := ty3, pos := p3, after := af3, guard := none }, { dst := some t11, op := .extract (.tmp t10) 0, type := ty4, pos := p4, after := af4, guard := none }]) (G := G) (Q := Exit.then (fun a' w' => Code.wpIn (fence none) 0 P (.seq (.cond (.tmp t11) .skip (.exit b0)) (.block b1 (.seq (.region i4 ops4 false) body))) (Exit.then (fun a' w' => (∃ n, J n a' w') ∧ leastOf (fun n => J n a' w') < leastOf (fun n => J n a1 w2)) (Exit.inBlock b0 (WPost ⟨fid, none, nt⟩ G w K M Q))) a' w') (Exit.then (fun a' w' => (∃ n, J n a' w') ∧ leastOf (fun n => J n a' w') < leastOf (fun n => J n a1 w2)) (Exit.inBlock b0 (WPost ⟨fid, none, nt⟩ G w K M Q))))
   [{ dst := some t11, op := .extract (.tmp t10) 0, type := ty4, pos := p4, after := af4, guard := none }] 1 w2 K1 (N s) _ _ (fun e' M' => e' = (t11, .p (.bool false)) :: (t10, .tup [.p (.bool false)]) :: e1 ∧ M' = N s) (fun j => by
    rcases j with _ | j
    ·rfl
    ·simp; omega) hfr3 hI2 (by rw [S_extract]; simp [ev, get_cons, S_nil, ht11, extV, Put_some]) ?_
  ·exact this
  ·rintro e' M' a' w' K' ⟨rfl, rfl⟩ hf3 hd3 hi3 hE3
   refine wpIn_seq (wpIn_cond_false (by
    have := (hf3.ev (.tmp t11)).1
    simp only [ev, get_cons, if_true] at this
    exact rep_bool this) (wpIn_exit ?_))
   simp only [Exit.then, Exit.inBlock, if_true]
   refine ⟨_, N s, K', [], hend s _ ?_ hg ((t11, .p (.bool false)) :: (t10, .tup [.p (.bool false)]) :: e1) ?_, trivial, ⟨hf3, ?_, hi3, fun _ h => by cases h⟩, hE2.trans hE3⟩
   ·have := hperm.map (·.2)
    rw [hZ2] at this
    exact this
   ·exact Sub_push (Sub_push hS fun p hp => (hEk s p hp).1) fun p hp => (hEk s p hp).2.1
   ·rw [hd3, putA_dfr]
    exact df_ext hE3 hst2.df
 ·-- an entry
  obtain ⟨henm, hens⟩ := mem_left hen
  obtain ⟨z, hzZ, hz1⟩ : ∃ z ∈ Z, z.1 = en := by
   rw [← hZ1] at henm
   exact List.mem_map.1 henm
  have hzr : z ∈ Zr := by
   rcases List.mem_append.1 (hperm.symm.subset hzZ) with h | h
   ·have : en.born ∈ seen.toList := by rw [hseen, ← hz1]; exact List.mem_map.2 ⟨z, h, rfl⟩
    rw [Array.contains_eq_mem, decide_eq_false_iff_not, ← Array.mem_toList_iff] at hens
    exact absurd this hens
   ·exact h
  obtain ⟨A, B, hAB⟩ := List.append_of_mem hzr
  obtain ⟨zk, zrep, zcl, _, zes⟩ := hZm z hzZ
  obtain ⟨nk, hnk⟩ := hks z.2 zes
  rw [hnk] at zk
  have zk' : en.key = .int kk nk := by rw [← hz1]; exact zk
  obtain ⟨hoth, hsame, hsz4, hkeep, hne, hInv⟩ := iter_keep (seen' := seen.push en.born) (c1 := clock) hI2 hd2 hKit hr2 hw3
  generalize setBlock w3 r (.mapIter (some b) clock (seen.push en.born) clock) = w4 at hrun hoth hsame hsz4 hkeep hInv
  have hI4 := hInv hB
  have hE4 : Ext w K M.H w4 K1 (N s).H := hE2.keep hkeep (by omega) fun i hi => ⟨rfl, rfl, fun hg b' hb' => by
   cases ho : (N s).H[i]? with
   | none =>
    have := hE2.len
    rw [List.getElem?_eq_none_iff] at ho
    omega
   | some o => exact hoth b' (hne i o ho (fun e => hg (by rw [ho, e])) (by omega) b' hb')⟩
  have hb4 : w4.heap[b]? = some (.map ents clock) := by rw [hoth b hbr]; exact hb2
  have hvrep : RepV w4 K1 (N s).H en.val z.2.2 := by
   have := zrep.ext hE2 zcl
   rw [hz1] at this
   exact this.keep hkeep fun _ _ => trivial
  have hvcl : Cl (N s).H.length z.2.2 := zcl.mono hE2.len
  refine wpOps_cons rfl rfl (raw_op (rv := .tuple #[.bool true, en.key, en.val]) (w' := w4) (fun c hc => by simp at hc) (exec_next rfl hv9 hrun) ?_)
  have hfr4 : FrOk w4 K1 (N s) nt (a1.put (some t10) (.tuple #[.bool true, en.key, en.val])).tmps ((t10, .tup [.p (.bool true), .p (.int kk nk), z.2.2]) :: e1) := (hfr2.keepT hkeep).put ht10 (.tup _ _ rfl fun i v c hv hc => by
   rcases i with _ | _ | _ | i
   ·simp at hv hc; subst hv hc; exact .p _ _ (.bool true)
   ·simp at hv hc; subst hv hc; rw [zk']; exact .p _ _ (.int kk nk)
   ·simp at hv hc; subst hv hc; exact hvrep
   ·simp at hv) (fun q hq => by simp [refs, refsL] at hq; exact hvcl q hq)
  have := wops_ok hT (r := none) (nt := nt) (all := #[{ dst := some t10, op := .next (.tmp t9) false, type := ty3, pos := p3, after := af3, guard := none }, { dst := some t11, op := .extract (.tmp t10) 0, type := ty4, pos := p4, after := af4, guard := none }]) (G := G) (Q := Exit.then (fun a' w' => Code.wpIn (fence none) 0 P (.seq (.cond (.tmp t11) .skip (.exit b0)) (.block b1 (.seq (.region i4 ops4 false) body))) (Exit.then (fun a' w' => (∃ n, J n a' w') ∧ leastOf (fun n => J n a' w') < leastOf (fun n => J n a1 w2)) (Exit.inBlock b0 (WPost ⟨fid, none, nt⟩ G w K M Q))) a' w') (Exit.then (fun a' w' => (∃ n, J n a' w') ∧ leastOf (fun n => J n a' w') < leastOf (fun n => J n a1 w2)) (Exit.inBlock b0 (WPost ⟨fid, none, nt⟩ G w K M Q))))
   [{ dst := some t11, op := .extract (.tmp t10) 0, type := ty4, pos := p4, after := af4, guard := none }] 1 w4 K1 (N s) _ _ (fun e' M' => e' = (t11, .p (.bool true)) :: (t10, .tup [.p (.bool true), .p (.int kk nk), z.2.2]) :: e1 ∧ M' = N s) (fun j => by
    rcases j with _ | j
    ·rfl
    ·simp; omega) hfr4 hI4 (by rw [S_extract]; simp [ev, get_cons, S_nil, ht11, extV, Put_some]) ?_
  ·exact this
  ·rintro e' M' a5 w5 K5 ⟨rfl, rfl⟩ hf5 hd5 hi5 hE5
   obtain ⟨hr5, hKit5⟩ := dead_stay hE5 hd2 hKit
   obtain ⟨hb5, hKid5⟩ := dead_stay hE5 hd1 hKid
   rw [hsame] at hr5
   rw [hb4] at hb5
   have hS5 : Sub (E s) ((t11, VV.p (.bool true)) :: (t10, .tup [.p (.bool true), .p (.int kk nk), z.2.2]) :: e1) := Sub_push (Sub_push hS fun p hp => (hEk s p hp).1) fun p hp => (hEk s p hp).2.1
   refine wpIn_seq (wpIn_cond_true (by
    have := (hf5.ev (.tmp t11)).1
    simp only [ev, get_cons, if_true] at this
    exact rep_bool this) (wpIn_skip ?_))
   show Code.wpIn (fence none) 0 P _ _ _ _
   refine wpIn_block (wpIn_seq (wpIn_region ?_))
   have hv95 : a5.eval (.tmp t9) = .pointer (some ⟨r, 0, none⟩) := by
    have h := (hf5.ev (.tmp t9)).1
    simp only [ev, get_cons, if_neg n911, if_neg n910, hg9] at h
    generalize a5.eval (.tmp t9) = v9 at h
    cases h with
    | ptr _ _ b9 hb9 _ =>
     rw [hKit5] at hb9
     cases hb9; rfl
   have hsize : ops4.size = rest4.length + 1 := by
    rw [← Array.length_toList, h4]; rfl
   rw [List.range_eq_range', hsize, List.range'_succ]
   refine wpOps_cons (o := { dst := some t12, op := .entry (.tmp t9), type := ty5, pos := p5, after := af5, guard := none }) (by rw [← Array.getElem?_toList, h4]; rfl) rfl (raw_op (rv := .tuple #[en.key, en.val]) (w' := w5) (fun c hc => by simp at hc) (exec_entry rfl hv95 (run_entry_at (P := P) w5 r b clock seen ents clock en hr5 hb5 henm hst.2)) ?_)
   have hvrep5 : RepV w5 K5 (N s).H en.val z.2.2 := hvrep.ext hE5 hvcl
   have hf6 : FrOk w5 K5 (N s) nt (a5.put (some t12) (.tuple #[en.key, en.val])).tmps ((t12, .tup [.p (.int kk nk), z.2.2]) :: (t11, .p (.bool true)) :: (t10, .tup [.p (.bool true), .p (.int kk nk), z.2.2]) :: e1) := hf5.put ht12 (.tup _ _ rfl fun i v c hv hc => by
    rcases i with _ | _ | i
    ·simp at hv hc; subst hv hc; rw [zk']; exact .p _ _ (.int kk nk)
    ·simp at hv hc; subst hv hc; exact hvrep5
    ·simp at hv) (fun q hq => by simp [refs, refsL] at hq; exact hvcl q hq)
   have hf7 : FrOk w5 K5 (N s) nt (a5.put (some t12) (.tuple #[en.key, en.val])).tmps ((t12, .tup [.p (.int kk nk), z.2.2]) :: E s) := hf6.weak fun t => by
    rw [get_cons, get_cons]
    by_cases e : t = t12
    ·rw [if_pos e, if_pos e]; exact .inl rfl
    ·rw [if_neg e, if_neg e]; exact hS5.ok t
   have hperm2 : ((Zv ++ [z]) ++ (A ++ B)).Perm Z := by
    rw [hAB] at hperm
    refine List.Perm.trans ?_ hperm
    rw [List.append_assoc]
    exact List.Perm.append_left Zv (List.perm_middle (a := z) (l₁ := A) (l₂ := B)).symm
   have hperm3 : (Zv.map (·.2) ++ ([nk], z.2.2) :: (A ++ B).map (·.2)).Perm es := by
    have := hperm2.map (·.2)
    rw [hZ2, List.map_append, List.map_append, List.append_assoc] at this
    have e : z.2 = ([nk], z.2.2) := by rw [← hnk]
    simpa [← e] using this
   have hro := hround s _ nk z.2.2 _ hperm3 hg
   refine wops_ok hT (r := none) (nt := nt) (all := ops4) (G := G) rest4 1 w5 K5 (N s) _ _ _ (fun j => by
    rw [← Array.getElem?_toList, h4, Nat.add_comm, List.getElem?_cons_succ]) hf7 hi5 hro ?_
   intro e8 M8 a8 w8 K8 hbody hf8 hd8 hi8 hE8
   have hst8 : StOk ⟨fid, none, nt⟩ G w8 K8 M8 a8 e8 [] := ⟨hf8, by
    rw [hd8, putA_dfr, hd5, putA_dfr]
    have h1 := df_ext (hE2) hs.df
    have h2 : PW (fun (d : Deferred) (id : Nat) => ∃ b, K1 id = some b ∧ d = { target := .collected b, args := #[] } ∧ (N s).H[id]? = some .dfr) a1.defers [] := hst2.df
    exact df_ext (M' := M8) hE8 (df_ext (M' := N s) hE5 h2), hi8, fun _ h => by cases h⟩
   have hb8 := hbody G w8 K8 a8 hst8
   refine wpIn_mono hb8 ?_
   rintro ex a9 w9 ⟨e9, M9, K9, D9, ⟨rfl, rfl, s', hg', hS', rfl⟩, _, hst9, hE9'⟩
   have hEall := (hE4.trans hE5).trans (hE8.trans hE9')
   obtain ⟨hr8, hKit8⟩ := dead_stay (hE5.trans (hE8.trans hE9')) hd2 hKit
   obtain ⟨hb9, hKid9⟩ := dead_stay (hE5.trans (hE8.trans hE9')) hd1 hKid
   rw [hsame] at hr8
   rw [hb4] at hb9
   have hJ : J (A ++ B).length a9 w9 := ⟨s', Zv ++ [z], A ++ B, e9, K9, seen.push en.born, rfl, hperm2, by rw [Array.toList_push, hseen, List.map_append, ← hz1]; rfl, hS', by
    have e : z.2 = ([nk], z.2.2) := by rw [← hnk]
    rw [List.map_append]
    simpa [← e] using hg', hst9, hEall, hKit8, hKid9, hr8, hb9⟩
   refine ⟨⟨_, hJ⟩, ?_⟩
   have hle := (leastOf_spec (p := fun n => J n a9 w9) hJ).2
   have : (A ++ B).length < Zr.length := by rw [hAB]; simp
   show leastOf (fun n => J n a9 w9) < leastOf (fun n => J n a1 w2)
   omega
end
end Go.Proofs.YtkipednlefbfpaaDoor.Vm

/- What can be served, as a map and as lists, on values. (Vm) -/
namespace Go.Proofs.YtkipednlefbfpaaDoor.Vm
open Go Go.Proofs
def mapK (y : Ya) (k : Nat) : List (List Int × VV) := (List.range k).map fun (s : Nat) => ([(s : Int)], vb (canS y s))
theorem mapK_set (y : Ya) (k : Nat) : assocSet [(k : Int)] (vb (canS y k)) (mapK y k) = mapK y (k + 1) := by
 have key : ∀ (es : List (List Int × VV)), (∀ p ∈ es, p.1 ≠ [(k : Int)]) → ∀ v, assocSet [(k : Int)] v es = es ++ [([(k : Int)], v)] := by
  intro es
  induction es with
  | nil => intro _ v; rfl
  | cons p es ih =>
   intro h v
   obtain ⟨ks, u⟩ := p
   have h1 : ks ≠ [(k : Int)] := h (ks, u) (by simp)
   simp only [assocSet, decide_eq_false h1, cond_false, List.cons_append]
   rw [ih (fun p hp => h p (by simp [hp]))]
 rw [key _ (fun p hp => ?_)]
 ·simp [mapK, List.range_succ]
 ·obtain ⟨s, hs, rfl⟩ := List.mem_map.1 hp
  have := List.mem_range.1 hs
  intro e
  simp only [List.cons.injEq, and_true] at e
  omega
theorem served_m {y : Ya} (hy : YaV y) (M : Mem) : VC Tryd.prog 32 [yardV y] M (fun r M' => M' = ⟨M.H ++ [.obj (yardC y), .mpo (.int .u8) (mapK y (2 ^ y.carts.length))], M.lg⟩ ∧ r = .mp (M.H.length + 1)) := by
 obtain ⟨n, hn⟩ : ∃ n, n = y.carts.length := ⟨_, rfl⟩
 have hm7 := hy.m1
 rw [← hn] at hm7
 have h2n : 2 ^ n ≤ 128 := Nat.pow_le_pow_right (n := 2) (by decide) hm7
 have hR0 := ry0_ok hy
 rw [← hn]
 refine VC_esc T_ok (f := 32) (fn := Tryd.f32) (by kernel_rfl) rfl Tryd.ntmps32 (by rfl) (by rfl) ?_
 ((repeat refine Ws ?_);refine W_regionE T_ok ?_; intro Kn hKn)
 ((simp (maxSteps := 1000000) only [VL,VM,↓VG,reduceIte,reduceCtorEq,zA,zB,zC,zD,zE,zF,zG,zH,zI,zJ]); rw [hKn];clear hKn Kn;simp only [QV,reduceIte,reduceCtorEq,Nat.reduceEqDiff])
 ((repeat refine Ws ?_);refine W_regionE T_ok ?_; intro Kn hKn)
 ((simp (maxSteps := 1000000) only [VL,VM,↓VG,reduceIte,reduceCtorEq,zA,zB,zC,zD,zE,zF,zG,zH,zI,zJ]); rw [hKn];clear hKn Kn;simp only [QV,reduceIte,reduceCtorEq,Nat.reduceEqDiff])
 ((repeat refine Ws ?_);refine W_regionE T_ok ?_; intro Kn hKn)
 simp (maxSteps := 1000000) only [VL,VM,↓VG,reduceIte,reduceCtorEq,zA,zB,zC,zD,zE,zF,zG,zH,zI,zJ]
 apply call_eq (f := 37) (fn := Tryd.f37) (by kernel_rfl) (by rfl)
 ·exact soonest_v hR0 _
 ((simp (maxSteps := 1000000) only [VL,VM,↓VG,reduceIte,reduceCtorEq,zA,zB,zC,zD,zE,zF,zG,zH,zI,zJ]); rw [hKn];clear hKn Kn;simp only [QV,reduceIte,reduceCtorEq,Nat.reduceEqDiff])
 ((repeat refine Ws ?_);refine W_regionE T_ok ?_; intro Kn hKn)
 ((simp (maxSteps := 1000000) only [VL,VM,↓VG,reduceIte,reduceCtorEq,zA,zB,zC,zD,zE,zF,zG,zH,zI,zJ, ← hn, i_shl, hm7]); rw [hKn];clear hKn Kn;simp only [QV,reduceIte,reduceCtorEq,Nat.reduceEqDiff])
 ((repeat refine Ws ?_);refine W_block ?_; (repeat refine Ws ?_)); refine W_loopS (fun s : Nat => [(3, .mp (M.H.length + 1)), (4, .ip ((soonestL (ry0 y)).map (PV.int .i64))), (13, vi ((2 ^ n : Nat) : Int)), (14, vi s)]) (fun s => ⟨M.H ++ [.obj (yardC y), .mpo (.int .u8) (mapK y s)], M.lg⟩) (fun s => 2 ^ n - s) (fun s => s ≤ 2 ^ n) 0 (Nat.zero_le _) ⟨rfl, rfl, rfl, rfl, trivial⟩ rfl ?_
 intro s hs
 have k1 : -9223372036854775808 ≤ (s : Int) + 1 ∧ (s : Int) + 1 < 9223372036854775808 := by omega
 have hset := mapK_set y s
 ((repeat refine Ws ?_);refine W_regionE T_ok ?_; intro Kn hKn)
 rcases Nat.lt_or_ge s (2 ^ n) with hlt | hge
 ·have k2 : ((s : Int) < ((2 ^ n : Nat) : Int)) = True := eq_true (by omega)
  have hs128 : s < 128 := by omega
  have hs256 : s < 256 := by omega
  have hsg := soon_get (R := ry0 y) hs128
  have hcan : decide ((soonestL (ry0 y)).getD s 0 < 1048576) = canS y s := rfl
  ((simp (maxSteps := 1000000) only [VL,VM,↓VG,reduceIte,reduceCtorEq,zA,zB,zC,zD,zE,zF,zG,zH,zI,zJ, k2]); rw [hKn];clear hKn Kn;simp only [QV,reduceIte,reduceCtorEq,Nat.reduceEqDiff])
  ((repeat refine Ws ?_);refine Wt (by first|rfl|simp only [EV,zF,reduceIte]) ?_)
  (((repeat refine Ws ?_);refine W_skip ?_); simp only [QV,reduceIte,reduceCtorEq,Nat.reduceEqDiff])
  ((repeat refine Ws ?_);refine W_block ?_)
  ((repeat refine Ws ?_);refine W_regionE T_ok ?_; intro Kn hKn)
  ((simp (maxSteps := 1000000) only [VL,VM,↓VG,reduceIte,reduceCtorEq,zA,zB,zC,zD,zE,zF,zG,zH,zI,zJ]); rw [hKn];clear hKn Kn;simp only [QV,reduceIte,reduceCtorEq,Nat.reduceEqDiff])
  ((repeat refine Ws ?_);refine W_regionE T_ok ?_; intro Kn hKn)
  ((simp (maxSteps := 1000000) only [VL,VM,↓VG,reduceIte,reduceCtorEq,zA,zB,zC,zD,zE,zF,zG,zH,zI,zJ, c_su, hs256, hs128, hsg, hcan, hset]); rw [hKn];clear hKn Kn;simp only [QV,reduceIte,reduceCtorEq,Nat.reduceEqDiff])
  ((repeat refine Ws ?_);refine W_regionE T_ok ?_; intro Kn hKn)
  ((simp (maxSteps := 1000000) only [VL,VM,↓VG,reduceIte,reduceCtorEq,zA,zB,zC,zD,zE,zF,zG,zH,zI,zJ, k1]); rw [hKn];clear hKn Kn;simp only [QV,reduceIte,reduceCtorEq,Nat.reduceEqDiff])
  exact LoopK.mk (s + 1) (by omega) (by omega) ⟨rfl, rfl, rfl, rfl, trivial⟩ rfl
 ·have k2 : ((s : Int) < ((2 ^ n : Nat) : Int)) = False := eq_false (by omega)
  obtain rfl : s = 2 ^ n := by omega
  ((simp (maxSteps := 1000000) only [VL,VM,↓VG,reduceIte,reduceCtorEq,zA,zB,zC,zD,zE,zF,zG,zH,zI,zJ, k2]); rw [hKn];clear hKn Kn;simp only [QV,reduceIte,reduceCtorEq,Nat.reduceEqDiff])
  ((repeat refine Ws ?_);refine Wf (by first|rfl|simp only [EV,zF,reduceIte]) ?_)
  (((repeat refine Ws ?_);refine W_exit ?_); simp only [QV,reduceIte,reduceCtorEq,Nat.reduceEqDiff])
  ((repeat refine Ws ?_);refine W_regionE T_ok ?_; intro Kn hKn)
  ((simp (maxSteps := 1000000) only [VL,VM,↓VG,reduceIte,reduceCtorEq,zA,zB,zC,zD,zE,zF,zG,zH,zI,zJ]); rw [hKn];clear hKn Kn;simp only [QV,reduceIte,reduceCtorEq,Nat.reduceEqDiff])
  (repeat refine Ws ?_)
  refine W_ret ⟨.inr rfl, rfl, [.mp (M.H.length + 1)], rfl, ⟨M.H.length + 1, by simp [vtup, frz, refs], by omega⟩, rfl, rfl⟩
def pickK (can : Bool) (p : List Int × VV) : Option Nat := match p with
 | ([k], .p (.bool b)) => if b = can then some k.toNat else none
 | _ => none
theorem mapK_pick (y : Ya) (can : Bool) (k : Nat) : (mapK y k).filterMap (pickK can) = (List.range k).filter fun s => canS y s == can := by
 unfold mapK
 rw [List.filterMap_map, ← List.filterMap_eq_filter]
 congr 1
 funext s
 simp only [Function.comp, pickK, Int.toNat_natCast, Option.guard]
 by_cases h : canS y s = can
 ·rw [if_pos h, if_pos (by simpa using h)]
 ·rw [if_neg h, if_neg (by simpa using h)]
theorem eql_bool (a b : Bool) : vbin T BinOp.eql 4 (vb a) (vb b) = some (vb (a == b)) := by
 cases a <;> cases b <;> kernel_rfl
set_option maxHeartbeats 1000000 in
theorem sets_v (y : Ya) (can : Bool) (k : Nat) (hk : k ≤ 128) {id : Nat} (M : Mem) (hid : M.H[id]? = some (.mpo (.int .u8) (mapK y k))) : VC Tryd.prog 31 [.mp id, vb can] M (fun r M' => M' = ⟨M.H.set id .dead, M.lg⟩ ∧ ∃ l : List Nat, l.Perm ((List.range k).filter fun s => canS y s == can) ∧ r = sesV l) := by
 have hidl := (List.getElem?_eq_some_iff.1 hid).1
 have hid2 : (M.H ++ [VObj.clm 0 1])[id]? = some (.mpo (.int .u8) (mapK y k)) := app_get hid _
 have hset : ∀ (X : List VObj), (M.H ++ X).set id .dead = M.H.set id .dead ++ X := fun X => List.set_append_left _ _ hidl
 have hsl : (M.H.set id .dead).length = M.H.length := by simp
 refine VC_own' T_ok (f := 31) (fn := Tryd.f31) (by kernel_rfl) rfl Tryd.ntmps31 (by rfl) (by rfl) ?_
 ((repeat refine Ws ?_);refine W_regionE T_ok ?_; intro Kn hKn)
 ((simp (maxSteps := 1000000) only [VL,VM,↓VG,reduceIte,reduceCtorEq,zA,zB,zC,zD,zE,zF,zG,zH,zI,zJ]); rw [hKn];clear hKn Kn;simp only [QV,reduceIte,reduceCtorEq,Nat.reduceEqDiff])
 ((repeat refine Ws ?_);refine W_regionE T_ok ?_; intro Kn hKn)
 ((simp (maxSteps := 1000000) only [VL,VM,↓VG,reduceIte,reduceCtorEq,zA,zB,zC,zD,zE,zF,zG,zH,zI,zJ]); rw [hKn];clear hKn Kn;simp only [QV,reduceIte,reduceCtorEq,Nat.reduceEqDiff])
 refine W_tok (t := 5) (k := 1) rfl ?_
 refine W_seq ?_
 refine W_mapRange (t8 := 8) (t9 := 9) (t10 := 10) (t11 := 11) (t12 := 12) (M := ⟨M.H ++ [.clm 0 1], M.lg⟩) T_ok (tk := 66) (te := 4) (id := id) (kk := .u8) (es := mapK y k) rfl ?hx ?hid (fun p hp => by obtain ⟨s, _, rfl⟩ := List.mem_map.1 hp; exact ⟨_, rfl⟩) (by kernel_rfl) ?ht
  (fun l : List Nat => [(1, vb can), (5, .so M.H.length 1 (l.map seP)), (9, .ptr (M.H.length + 1) 0)]) (fun l => ⟨M.H.set id .dead ++ [.clm l.length 1, .dead], M.lg⟩) (fun l vis => l = vis.filterMap (pickK can)) [] rfl ?hE0 ?hN0 ?hE9 ?hEk ?hNd ?hend ?hround
 case ht => decide
 case hx => rfl
 case hid => exact hid2
 case hE0 => exact ⟨rfl, rfl, by simp [get_cons, Mem.push], trivial⟩
 case hN0 => simp [Mem.push, hset]
 case hE9 => intro l; simp [get_cons, Mem.push]
 case hEk =>
  intro l p hp
  simp only [List.mem_cons, List.not_mem_nil, or_false] at hp
  rcases hp with rfl | rfl | rfl <;> simp
 case hNd =>
  intro l vis hg
  refine ⟨?_, ?_⟩
  ·show (M.H.set id .dead ++ _)[id]? = _
   rw [List.getElem?_append_left (by rw [hsl]; exact hidl), List.getElem?_set_self hidl]
  ·show (M.H.set id .dead ++ [.clm l.length 1, .dead])[(M.H ++ [VObj.clm 0 1]).length]? = _
   rw [List.length_append, ← hsl, hget]; rfl
 case hend =>
  intro l vis hperm hg e' hS
  simp only [thenQ.eq_1]
  refine WCode.weak (e' := [(1, vb can), (5, .so M.H.length 1 (l.map seP)), (9, .ptr (M.H.length + 1) 0)]) ?_ hS.ok
  have hlp : l.Perm ((List.range k).filter fun s => canS y s == can) := by
   rw [← mapK_pick, hg]
   exact hperm.filterMap _
  ((repeat refine Ws ?_);refine W_regionE T_ok ?_; intro Kn hKn)
  ((simp (maxSteps := 1000000) only [VL,VM,↓VG,reduceIte,reduceCtorEq,zA,zB,zC,zD,zE,zF,zG,zH,zI,zJ]); rw [hKn];clear hKn Kn;simp only [QV,reduceIte,reduceCtorEq,Nat.reduceEqDiff])
  (repeat refine Ws ?_)
  refine W_ret ?_
  exact ⟨.inr rfl, rfl, ⟨[], by simp, by simp⟩, M.H.set id .dead, _, rfl, hsl, [.so M.H.length 1 (l.map seP)], rfl, sesV l, rfl, by simp [refs], rfl, l, hlp, rfl⟩
 case hround =>
  intro l vis n v rest hperm hg
  have hmem : ([n], v) ∈ mapK y k := hperm.subset (by simp)
  obtain ⟨s, hs, hsv⟩ := List.mem_map.1 hmem
  have hsk := List.mem_range.1 hs
  simp only [Prod.mk.injEq, List.cons.injEq, and_true] at hsv
  obtain ⟨rfl, rfl⟩ := hsv
  have hll : l.length ≤ 128 := by
   have h1 := hperm.length_eq
   have h2 : l.length ≤ vis.length := by rw [hg]; exact List.length_filterMap_le _ _
   simp [mapK] at h1
   omega
  have q1 : ((l.length + 1) * 1 ≤ 140737488355328) = True := eq_true (by omega)
  have q1' : (l.length + 1 ≤ 140737488355328) = True := eq_true (by omega)
  have hpick : (vis ++ [([(s : Int)], vb (canS y s))]).filterMap (pickK can) = if canS y s = can then l ++ [s] else l := by
   rw [List.filterMap_append, ← hg]
   simp only [List.filterMap_cons, List.filterMap_nil, pickK, Int.toNat_natCast]
   by_cases h : canS y s = can
   ·rw [if_pos h]; simp [h]
   ·rw [if_neg h]; simp [h]
  simp (maxSteps := 1000000) only [VL,VM,↓VG,reduceIte,reduceCtorEq,zA,zB,zC,zD,zE,zF,zG,zH,zI,zJ]
  ((repeat refine Ws ?_);refine W_regionE T_ok ?_; intro Kn hKn)
  have hgl : ∀ X, (M.H.set id .dead ++ X)[M.H.length]? = X[0]? := fun X => by
   have := hget0 (M.H.set id .dead) X
   rwa [hsl] at this
  have hsl2 : ∀ X o, (M.H.set id .dead ++ X).set M.H.length o = M.H.set id .dead ++ X.set 0 o := fun X o => by
   have := hset0 (M.H.set id .dead) X o
   rwa [hsl] at this
  by_cases hc : canS y s = can
  ·rw [if_pos hc] at hpick
   have hc' : (canS y s == can) = true := by simpa using hc
   ((simp (maxSteps := 1000000) only [VL,VM,↓VG,reduceIte,reduceCtorEq,zA,zB,zC,zD,zE,zF,zG,zH,zI,zJ, eql_bool, hc']); rw [hKn];clear hKn Kn;simp only [QV,reduceIte,reduceCtorEq,Nat.reduceEqDiff])
   ((repeat refine Ws ?_);refine Wt (by first|rfl|simp only [EV,zF,reduceIte]) ?_)
   ((repeat refine Ws ?_);refine W_regionE T_ok ?_; intro Kn hKn)
   ((simp (maxSteps := 1000000) only [VL,VM,↓VG,reduceIte,reduceCtorEq,zA,zB,zC,zD,zE,zF,zG,zH,zI,zJ, hgl, hsl2, q1, q1']); rw [hKn];clear hKn Kn;simp only [QV,reduceIte,reduceCtorEq,Nat.reduceEqDiff])
   exact ⟨trivial, trivial, l ++ [s], hpick.symm, ⟨rfl, by simp [get_cons, seP], rfl, trivial⟩, by simp⟩
  ·rw [if_neg hc] at hpick
   have hc' : (canS y s == can) = false := by simpa using hc
   ((simp (maxSteps := 1000000) only [VL,VM,↓VG,reduceIte,reduceCtorEq,zA,zB,zC,zD,zE,zF,zG,zH,zI,zJ, eql_bool, hc']); rw [hKn];clear hKn Kn;simp only [QV,reduceIte,reduceCtorEq,Nat.reduceEqDiff])
   ((repeat refine Ws ?_);refine Wf (by first|rfl|simp only [EV,zF,reduceIte]) ?_)
   (((repeat refine Ws ?_);refine W_skip ?_); simp only [QV,reduceIte,reduceCtorEq,Nat.reduceEqDiff])
   exact ⟨trivial, trivial, l, hpick.symm, ⟨rfl, rfl, rfl, trivial⟩, rfl⟩
end Go.Proofs.YtkipednlefbfpaaDoor.Vm
