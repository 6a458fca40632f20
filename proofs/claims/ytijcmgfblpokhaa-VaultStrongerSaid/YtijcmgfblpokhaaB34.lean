/- A part of the proofs about the chapter of the vaults; it states no condition of its own. -/
import Derived.Test.YtijcmgfblpokhaaB33
set_option linter.unusedVariables false
set_option linter.unusedSimpArgs false
/- A machine on values: a nil slice is as good as one of our own without a row. -/
namespace Go.Proofs.Ytijcmgfblpokhaa.Vm
open Go

section
variable {P : Program} {T : Tab} {cx : Cx} {e : Env} {M : Mem} {D : List Nat} {Q : PQ} {c : Code}
theorem calm_refl (w : World) : Calm w w := ⟨rfl, rfl, rfl, Nat.le_refl _⟩
theorem so_of_sf {w : World} {K : Nat → Option Nat} {H : List VObj} {v : Value} {g k k0 : Nat} (h : RepV w K H v (.sf k0 [])) (hg : H[g]? = some (.clm 0 k)) (hK : K g = none) : RepV w K H v (.so g k []) := by
  cases h with
  | sf A _ _ h0 =>
    refine .so _ _ _ _ (.sl A 0 k 0 0 [] (fun _ _ => undef) (Nat.le_refl _) (by simp [maxLen]) (fun x hx => by cases hx) (fun hx => absurd rfl hx) (fun i x j u hx => by simp at hx) (fun i x j u hx => by simp at hx) (fun i x j u hx => by simp at hx)) ?_
    intro m k' hm
    rw [hg] at hm
    cases hm
    exact ⟨Nat.le_refl _, fun _ => ⟨rfl, .inr ⟨hK, rfl, A, rfl⟩⟩⟩
/-- a nil slice of a temporary -/
theorem W_tok {t k k0 : Nat} (ht : get e t = .sf k0 []) (h : WCode P cx c ((t, .so M.H.length k []) :: e) (M.push (.clm 0 k)) D Q) : WCode P cx c e M D Q := by
  intro G w K a hs
  obtain ⟨e1, i1⟩ := step_new (w' := w) hs.inv (calm_refl w) (fun _ _ => rfl) (.clm 0 k) none (fun b e => by cases e) (fun c hc => by simp [contents] at hc) (fun hE b e => by cases e)
  have hf := hs.fr.ext (M' := M.push (.clm 0 k)) e1
  have hg : (M.push (.clm 0 k)).H[M.H.length]? = some (.clm 0 k) := by simp [Mem.push]
  have hf2 : FrOk w (upd K M.H.length none) (M.push (.clm 0 k)) cx.nt a.tmps ((t, .so M.H.length k []) :: e) := by
    refine ⟨hf.size, fun t' => ?_, fun t' => ?_⟩
    · rw [get_cons]
      by_cases h1 : t' = t
      · subst h1
        rw [if_pos rfl]
        have := hf.rep t'
        rw [ht] at this
        exact so_of_sf this hg (upd_same _ _ _)
      · rw [if_neg h1]; exact hf.rep t'
    · rw [get_cons]
      by_cases h1 : t' = t
      · rw [if_pos h1]
        intro r hr
        simp only [refs, List.mem_singleton] at hr
        subst hr
        simp [Mem.push]
      · rw [if_neg h1]; exact hf.cl t'
  have hs2 : StOk cx G w (upd K M.H.length none) (M.push (.clm 0 k)) a ((t, .so M.H.length k []) :: e) D := ⟨hf2, df_ext (M' := M.push (.clm 0 k)) e1 hs.df, i1, (rd_ext (M' := M.push (.clm 0 k)) e1 hs.rd).1⟩
  have h2 := h G w _ a hs2
  rw [(rd_ext (M' := M.push (.clm 0 k)) e1 hs.rd).2] at h2
  exact wpIn_mono h2 fun ex a' w' ⟨e', M', K', D', q1, q2, q3, q4⟩ => ⟨e', M', K', D', q1, q2, q3, e1.trans q4⟩
/-- a nil slice of an object -/
theorem W_ghost {id off k k0 : Nat} {cs : List VV} (ho : M.H[id]? = some (.obj cs)) (hc : cs[off]? = some (.sf k0 [])) (h : WCode P cx c e ⟨M.H.set id (.obj (cs.set off (.so M.H.length k []))) ++ [.clm 0 k], M.lg ++ [(id, M.H.length)]⟩ D Q) : WCode P cx c e M D Q := by
  intro G w K a hs
  obtain ⟨e1, i1⟩ := step_new (w' := w) hs.inv (calm_refl w) (fun _ _ => rfl) (.clm 0 k) none (fun b e => by cases e) (fun c hc => by simp [contents] at hc) (fun hE b e => by cases e)
  replace e1 : Ext w K M.H w (upd K M.H.length none) (M.push (.clm 0 k)).H := e1
  have hil := (List.getElem?_eq_some_iff.1 ho).1
  have ho1 : (M.push (.clm 0 k)).H[id]? = some (.obj cs) := by
    show (M.H ++ [_])[id]? = _
    rw [List.getElem?_append_left hil, ho]
  have hK : upd K M.H.length none M.H.length = none := upd_same _ _ _
  have hH : M.H.set id (.obj (cs.set off (.so M.H.length k []))) ++ [.clm 0 k] = (M.push (.clm 0 k)).H.set id (.obj (cs.set off (.so M.H.length k []))) := by
    show _ = (M.H ++ [_]).set id _
    rw [List.set_append_left _ _ hil]
  rw [hH] at h
  generalize hM1 : M.push (.clm 0 k) = M1 at *
  have hg : M1.H[M.H.length]? = some (.clm 0 k) := by rw [← hM1]; simp [Mem.push]
  have hlen : M1.H.length = M.H.length + 1 := by rw [← hM1]; simp [Mem.push]
  have hlg1 : M1.lg = M.lg := by rw [← hM1]; rfl
  generalize hK1 : upd K M.H.length none = K1 at *
  generalize hg0 : M.H.length = g at *
  have hne : id ≠ g := by omega
  have hs2 : ∀ j x, (M1.H.set id (.obj (cs.set off (.so g k []))))[j]? = some x → (j = id ∧ x = .obj (cs.set off (.so g k []))) ∨ (j ≠ id ∧ M1.H[j]? = some x) := fun j x hx => by
    rcases set_get hx with ⟨rfl, rfl, _⟩ | ⟨h1, h2⟩
    · exact .inl ⟨rfl, rfl⟩
    · exact .inr ⟨h1, h2⟩
  have hE : Ext w K1 M1.H w K1 (M1.H.set id (.obj (cs.set off (.so g k [])))) := by
    refine ⟨Nat.le_refl _, fun b o _ him i ob hi hb => ?_, fun _ _ _ _ => rfl, fun i o hi => ?_⟩
    · rcases hs2 i ob hi with ⟨rfl, rfl⟩ | ⟨_, h2⟩
      · rcases him i _ ho1 hb with e2 | ⟨m, k', e2, _⟩ <;> cases e2
      · exact him i ob h2 hb
    · by_cases h1 : i = id
      · subst h1
        rw [ho1] at hi
        cases hi
        exact ⟨.obj (cs.set off (.so g k [])), by simp [show i < M1.H.length by omega], fun _ _ e => VObj.noConfusion e, rfl⟩
      · refine ⟨o, by rw [List.getElem?_set_ne (Ne.symm h1)]; exact hi, ?_⟩
        exact objLe_same rfl fun b _ => rfl
  have hI2 : Inv G w K1 { H := M1.H.set id (.obj (cs.set off (.so g k []))), lg := M.lg ++ [(id, g)] } := by
    refine ⟨i1.os, i1.tape, i1.output, i1.size, i1.gB, i1.old, fun i j b hi hj => i1.inj i j b (by simpa using hi) (by simpa using hj), fun i b hi => i1.blk i b (by simpa using hi), fun i o hi => ?_, fun i o hi cc hcc r hr => ?_, fun en hen => ?_, fun i L hi => ?_⟩
    · rcases hs2 i o hi with ⟨rfl, rfl⟩ | ⟨h1, h2⟩
      · intro b hb
        obtain ⟨vs, t, q1, q2, q3⟩ := i1.obj i _ ho1 b hb
        refine ⟨vs, t, q1, by simpa using q2, fun j v cv hv hcv => ?_⟩
        rw [List.getElem?_set] at hcv
        by_cases hj : off = j
        · subst hj
          have hlt := (List.getElem?_eq_some_iff.1 hc).1
          rw [if_pos rfl, if_pos hlt] at hcv
          cases hcv
          obtain ⟨r1, r2⟩ := q3 off v _ hv hc
          refine ⟨so_of_sf (r1.ext hE (fun r hr => by simp [refs] at hr)) ?_ hK, r2⟩
          rw [List.getElem?_set_ne hne]
          exact hg
        · rw [if_neg hj] at hcv
          obtain ⟨r1, r2⟩ := q3 j v cv hv hcv
          exact ⟨r1.ext hE (i1.content ho1 cv (by simp only [contents]; exact List.mem_of_getElem? hcv)), r2⟩
      · exact (i1.obj i o h2).ext hE (fun _ _ => rfl) (i1.content h2)
    · simp only [List.length_set]
      rcases hs2 i o hi with ⟨rfl, rfl⟩ | ⟨h1, h2⟩
      · simp only [contents] at hcc
        rcases List.mem_or_eq_of_mem_set hcc with hm | rfl
        · obtain ⟨a1, a2⟩ := i1.cl i _ ho1 cc (by simp only [contents]; exact hm) r hr
          exact ⟨a1, a2.imp_right fun x => List.mem_append_left _ (by rw [← hlg1]; exact x)⟩
        · simp only [refs, List.mem_singleton] at hr
          subst hr
          exact ⟨by omega, .inr (List.mem_append_right _ (List.mem_singleton.2 rfl))⟩
      · obtain ⟨a1, a2⟩ := i1.cl i o h2 cc hcc r hr
        exact ⟨a1, a2.imp_right fun x => List.mem_append_left _ (by rw [← hlg1]; exact x)⟩
    · simp only [List.length_set]
      rcases List.mem_append.1 hen with hm | hm
      · exact i1.lg en (by rw [hlg1]; exact hm)
      · rw [List.mem_singleton] at hm
        subst hm
        exact ⟨by simp only; omega, by simp only; omega⟩
    · rcases hs2 i _ hi with ⟨rfl, e2⟩ | ⟨_, h2⟩
      · cases e2
      · exact i1.lpd i L h2
  have he := e1.trans hE
  have hs3 : StOk cx G w K1 { H := M1.H.set id (.obj (cs.set off (.so g k []))), lg := M.lg ++ [(id, g)] } a e D := ⟨hs.fr.ext (M' := { H := M1.H.set id (.obj (cs.set off (.so g k []))), lg := M.lg ++ [(id, g)] }) he, df_ext (M' := { H := M1.H.set id (.obj (cs.set off (.so g k []))), lg := M.lg ++ [(id, g)] }) he hs.df, hI2, (rd_ext (M' := { H := M1.H.set id (.obj (cs.set off (.so g k []))), lg := M.lg ++ [(id, g)] }) he hs.rd).1⟩
  have h2 := h G w _ a hs3
  rw [(rd_ext (M' := { H := M1.H.set id (.obj (cs.set off (.so g k []))), lg := M.lg ++ [(id, g)] }) he hs.rd).2] at h2
  exact wpIn_mono h2 fun ex a' w' ⟨e', M', K', D', q1, q2, q3, q4⟩ => ⟨e', M', K', D', q1, q2, q3, he.trans q4⟩
end
end Go.Proofs.Ytijcmgfblpokhaa.Vm

/- A machine on values: slices of our own whose rows hold values; buffers that are frozen; calls that touch nothing of ours. -/
namespace Go.Proofs.Ytijcmgfblpokhaa.Vm
open Go

theorem flat_lenV {α : Type} {ke : Nat} : ∀ {ys : List (List α)}, (∀ x ∈ ys, x.length = ke) → ys.flatten.length = ys.length * ke
  | [], _ => by simp
  | x :: ys, h => by
    rw [List.flatten_cons, List.length_append, h x (List.mem_cons_self ..), flat_lenV fun y hy => h y (List.mem_cons_of_mem _ hy), List.length_cons, Nat.succ_mul, Nat.add_comm]
theorem flat_get {α : Type} {k : Nat} : ∀ {ys : List (List α)}, (∀ x ∈ ys, x.length = k) → ∀ {i : Nat} {x : List α}, ys[i]? = some x → ∀ {j : Nat}, j < k → ys.flatten[i * k + j]? = x[j]?
  | [], _, i, x, h, j, hj => by simp at h
  | y :: ys, hk, 0, x, h, j, hj => by
    have hy := hk y (List.mem_cons_self ..)
    cases h
    rw [List.flatten_cons, Nat.zero_mul, Nat.zero_add, List.getElem?_append_left (by rw [hy]; exact hj)]
  | y :: ys, hk, i + 1, x, h, j, hj => by
    have hy := hk y (List.mem_cons_self ..)
    rw [List.flatten_cons, List.getElem?_append_right (by rw [hy, Nat.succ_mul]; omega), hy, show (i + 1) * k + j - k = i * k + j by rw [Nat.succ_mul]; omega]
    exact flat_get (fun z hz => hk z (List.mem_cons_of_mem _ hz)) h hj
section
variable {P : Program} {T : Tab} {cx : Cx} {e : Env} {M : Mem} {D : List Nat} {Q : PQ} {c : Code}
theorem sw_of_sf {w : World} {K : Nat → Option Nat} {H : List VObj} {v : Value} {g k k0 : Nat} (h : RepV w K H v (.sf k0 [])) (hg : H[g]? = some (.clm 0 k)) (hK : K g = none) : RepV w K H v (.sw g k []) := by
  cases h with
  | sf A _ _ h0 =>
    refine .sw _ _ _ _ (.sv A 0 k 0 0 [] (fun _ _ => undef) (Nat.le_refl _) (by simp [maxLen]) (fun x hx => by cases hx) (fun hx => absurd rfl hx) (fun i x j u hx => by simp at hx) (fun i x j u hx => by simp at hx) (fun i x j u hx => by simp at hx) (fun i x j u hx => by simp at hx)) ?_
    intro m k' hm
    rw [hg] at hm
    cases hm
    exact ⟨Nat.le_refl _, fun _ => ⟨rfl, .inr ⟨hK, rfl, A, rfl⟩⟩⟩
/-- a nil slice of an object, for rows of values -/
theorem W_ghostw {id off k k0 : Nat} {cs : List VV} (ho : M.H[id]? = some (.obj cs)) (hc : cs[off]? = some (.sf k0 [])) (h : WCode P cx c e ⟨M.H.set id (.obj (cs.set off (.sw M.H.length k []))) ++ [.clm 0 k], M.lg ++ [(id, M.H.length)]⟩ D Q) : WCode P cx c e M D Q := by
  intro G w K a hs
  obtain ⟨e1, i1⟩ := step_new (w' := w) hs.inv (calm_refl w) (fun _ _ => rfl) (.clm 0 k) none (fun b e => by cases e) (fun c hc => by simp [contents] at hc) (fun hE b e => by cases e)
  replace e1 : Ext w K M.H w (upd K M.H.length none) (M.push (.clm 0 k)).H := e1
  have hil := (List.getElem?_eq_some_iff.1 ho).1
  have ho1 : (M.push (.clm 0 k)).H[id]? = some (.obj cs) := by
    show (M.H ++ [_])[id]? = _
    rw [List.getElem?_append_left hil, ho]
  have hK : upd K M.H.length none M.H.length = none := upd_same _ _ _
  have hH : M.H.set id (.obj (cs.set off (.sw M.H.length k []))) ++ [.clm 0 k] = (M.push (.clm 0 k)).H.set id (.obj (cs.set off (.sw M.H.length k []))) := by
    show _ = (M.H ++ [_]).set id _
    rw [List.set_append_left _ _ hil]
  rw [hH] at h
  generalize hM1 : M.push (.clm 0 k) = M1 at *
  have hg : M1.H[M.H.length]? = some (.clm 0 k) := by rw [← hM1]; simp [Mem.push]
  have hlen : M1.H.length = M.H.length + 1 := by rw [← hM1]; simp [Mem.push]
  have hlg1 : M1.lg = M.lg := by rw [← hM1]; rfl
  generalize hK1 : upd K M.H.length none = K1 at *
  generalize hg0 : M.H.length = g at *
  have hne : id ≠ g := by omega
  have hs2 : ∀ j x, (M1.H.set id (.obj (cs.set off (.sw g k []))))[j]? = some x → (j = id ∧ x = .obj (cs.set off (.sw g k []))) ∨ (j ≠ id ∧ M1.H[j]? = some x) := fun j x hx => by
    rcases set_get hx with ⟨rfl, rfl, _⟩ | ⟨h1, h2⟩
    · exact .inl ⟨rfl, rfl⟩
    · exact .inr ⟨h1, h2⟩
  have hE : Ext w K1 M1.H w K1 (M1.H.set id (.obj (cs.set off (.sw g k [])))) := by
    refine ⟨Nat.le_refl _, fun b o _ him i ob hi hb => ?_, fun _ _ _ _ => rfl, fun i o hi => ?_⟩
    · rcases hs2 i ob hi with ⟨rfl, rfl⟩ | ⟨_, h2⟩
      · rcases him i _ ho1 hb with e2 | ⟨m, k', e2, _⟩ <;> cases e2
      · exact him i ob h2 hb
    · by_cases h1 : i = id
      · subst h1
        rw [ho1] at hi
        cases hi
        exact ⟨.obj (cs.set off (.sw g k [])), by simp [show i < M1.H.length by omega], fun _ _ e => VObj.noConfusion e, rfl⟩
      · refine ⟨o, by rw [List.getElem?_set_ne (Ne.symm h1)]; exact hi, ?_⟩
        exact objLe_same rfl fun b _ => rfl
  have hI2 : Inv G w K1 { H := M1.H.set id (.obj (cs.set off (.sw g k []))), lg := M.lg ++ [(id, g)] } := by
    refine ⟨i1.os, i1.tape, i1.output, i1.size, i1.gB, i1.old, fun i j b hi hj => i1.inj i j b (by simpa using hi) (by simpa using hj), fun i b hi => i1.blk i b (by simpa using hi), fun i o hi => ?_, fun i o hi cc hcc r hr => ?_, fun en hen => ?_, fun i L hi => ?_⟩
    · rcases hs2 i o hi with ⟨rfl, rfl⟩ | ⟨h1, h2⟩
      · intro b hb
        obtain ⟨vs, t, q1, q2, q3⟩ := i1.obj i _ ho1 b hb
        refine ⟨vs, t, q1, by simpa using q2, fun j v cv hv hcv => ?_⟩
        rw [List.getElem?_set] at hcv
        by_cases hj : off = j
        · subst hj
          have hlt := (List.getElem?_eq_some_iff.1 hc).1
          rw [if_pos rfl, if_pos hlt] at hcv
          cases hcv
          obtain ⟨r1, r2⟩ := q3 off v _ hv hc
          refine ⟨sw_of_sf (r1.ext hE (fun r hr => by simp [refs] at hr)) ?_ hK, r2⟩
          rw [List.getElem?_set_ne hne]
          exact hg
        · rw [if_neg hj] at hcv
          obtain ⟨r1, r2⟩ := q3 j v cv hv hcv
          exact ⟨r1.ext hE (i1.content ho1 cv (by simp only [contents]; exact List.mem_of_getElem? hcv)), r2⟩
      · exact (i1.obj i o h2).ext hE (fun _ _ => rfl) (i1.content h2)
    · simp only [List.length_set]
      rcases hs2 i o hi with ⟨rfl, rfl⟩ | ⟨h1, h2⟩
      · simp only [contents] at hcc
        rcases List.mem_or_eq_of_mem_set hcc with hm | rfl
        · obtain ⟨a1, a2⟩ := i1.cl i _ ho1 cc (by simp only [contents]; exact hm) r hr
          exact ⟨a1, a2.imp_right fun x => List.mem_append_left _ (by rw [← hlg1]; exact x)⟩
        · simp only [refs, refsLL, List.mem_singleton] at hr
          subst hr
          exact ⟨by omega, .inr (List.mem_append_right _ (List.mem_singleton.2 rfl))⟩
      · obtain ⟨a1, a2⟩ := i1.cl i o h2 cc hcc r hr
        exact ⟨a1, a2.imp_right fun x => List.mem_append_left _ (by rw [← hlg1]; exact x)⟩
    · simp only [List.length_set]
      rcases List.mem_append.1 hen with hm | hm
      · exact i1.lg en (by rw [hlg1]; exact hm)
      · rw [List.mem_singleton] at hm
        subst hm
        exact ⟨by simp only; omega, by simp only; omega⟩
    · rcases hs2 i _ hi with ⟨rfl, e2⟩ | ⟨_, h2⟩
      · cases e2
      · exact i1.lpd i L h2
  have he := e1.trans hE
  have hs3 : StOk cx G w K1 { H := M1.H.set id (.obj (cs.set off (.sw g k []))), lg := M.lg ++ [(id, g)] } a e D := ⟨hs.fr.ext (M' := { H := M1.H.set id (.obj (cs.set off (.sw g k []))), lg := M.lg ++ [(id, g)] }) he, df_ext (M' := { H := M1.H.set id (.obj (cs.set off (.sw g k []))), lg := M.lg ++ [(id, g)] }) he hs.df, hI2, (rd_ext (M' := { H := M1.H.set id (.obj (cs.set off (.sw g k []))), lg := M.lg ++ [(id, g)] }) he hs.rd).1⟩
  have h2 := h G w _ a hs3
  rw [(rd_ext (M' := { H := M1.H.set id (.obj (cs.set off (.sw g k []))), lg := M.lg ++ [(id, g)] }) he hs.rd).2] at h2
  exact wpIn_mono h2 fun ex a' w' ⟨e', M', K', D', q1, q2, q3, q4⟩ => ⟨e', M', K', D', q1, q2, q3, he.trans q4⟩
/-- a buffer that one cell leads to is written no more: it dies, and the cell is read as plain data -/
theorem W_frz1 {id n k o j : Nat} {xs : List (List PV)} {cs : List VV} (h1 : M.H[id]? = some (.obj (xs.flatten.map .p))) (h3 : M.H[o]? = some (.obj cs)) (h4 : cs[j]? = some (.bf id 0 n k)) (hk : ∀ x ∈ xs, x.length = k) (hn : xs.length = n) (hne : o ≠ id)
    (h : WCode P cx c e ⟨(M.H.set id .dead).set o (.obj (cs.set j (.p (.sl k xs)))), M.lg⟩ D Q) : WCode P cx c e M D Q := by
  intro G w K a hs
  have i1 := hs.inv
  have hil := (List.getElem?_eq_some_iff.1 h1).1
  have hol := (List.getElem?_eq_some_iff.1 h3).1
  obtain ⟨H2, hH2⟩ : ∃ H2, H2 = (M.H.set id .dead).set o (.obj (cs.set j (.p (.sl k xs)))) := ⟨_, rfl⟩
  rw [← hH2] at h
  have hl2 : H2.length = M.H.length := by rw [hH2]; simp
  have hs2 : ∀ i x, H2[i]? = some x → (i = o ∧ x = .obj (cs.set j (.p (.sl k xs)))) ∨ (i = id ∧ x = .dead) ∨ (i ≠ o ∧ i ≠ id ∧ M.H[i]? = some x) := fun i x hx => by
    rw [hH2] at hx
    rcases set_get hx with ⟨rfl, rfl, _⟩ | ⟨a1, a2⟩
    · exact .inl ⟨rfl, rfl⟩
    · rcases set_get a2 with ⟨rfl, rfl, _⟩ | ⟨b1, b2⟩
      · exact .inr (.inl ⟨rfl, rfl⟩)
      · exact .inr (.inr ⟨a1, b1, b2⟩)
  have hE : Ext w K M.H w K H2 := by
    refine ⟨Nat.le_refl _, fun b q _ him i ob hi hb => ?_, fun _ _ _ _ => rfl, fun i x hi => ?_⟩
    · rcases hs2 i ob hi with ⟨rfl, rfl⟩ | ⟨rfl, rfl⟩ | ⟨_, _, h2⟩
      · rcases him i _ h3 hb with e2 | ⟨m, k', e2, _⟩ <;> cases e2
      · exact .inl rfl
      · exact him i ob h2 hb
    · by_cases ho : i = o
      · subst ho
        rw [h3] at hi
        cases hi
        exact ⟨_, by rw [hH2, List.getElem?_set_self (by simp; exact hol)], fun _ _ e => VObj.noConfusion e, rfl⟩
      · by_cases hid : i = id
        · subst hid
          rw [h1] at hi
          cases hi
          exact ⟨.dead, by rw [hH2, List.getElem?_set_ne (Ne.symm ho), List.getElem?_set_self hil], fun _ _ e => VObj.noConfusion e, rfl⟩
        · exact ⟨x, by rw [hH2, List.getElem?_set_ne (Ne.symm ho), List.getElem?_set_ne (Ne.symm hid)]; exact hi, objLe_same rfl fun b _ => rfl⟩
  have key : ∀ v, RepV w K M.H v (.bf id 0 n k) → RepV w K H2 v (.p (.sl k xs)) := by
    intro v hv
    cases hv with
    | bf _ _ _ _ b cc A hK hnc hc hm hA =>
      by_cases hn0 : n = 0
      · subst hn0
        obtain rfl := List.length_eq_zero_iff.1 hn
        exact .p _ _ (.sl A cc k 0 0 [] (fun _ _ => undef) (by simp) hm (by simp) (by simp) (by simp) (by simp) (by simp))
      obtain ⟨vs, t, q1, q2, q3⟩ := i1.obj id _ h1 _ (hK hn0)
      have hfl := flat_lenV hk
      have hcell : ∀ i x l u, xs[i]? = some x → x[l]? = some u → ∃ v, vs[i * k + l]? = some v ∧ RepP w (Im K M.H) v u := by
        intro i x l u hx hu
        have hx1 := hk x (List.mem_of_getElem? hx)
        have hi' := (List.getElem?_eq_some_iff.1 hx).1
        have hl' := (List.getElem?_eq_some_iff.1 hu).1
        have hat : xs.flatten[i * k + l]? = some u := by
          have := flat_get (k := k) hk hx (show l < k by omega)
          rw [this]; exact hu
        have hc1 : (xs.flatten.map VV.p)[i * k + l]? = some (.p u) := by rw [List.getElem?_map, hat]; rfl
        have hlt : i * k + l < vs.size := by
          have := (List.getElem?_eq_some_iff.1 hc1).1
          omega
        have hv := Array.getElem?_eq_getElem hlt
        generalize vs[i * k + l] = v at hv
        refine ⟨v, hv, ?_⟩
        obtain ⟨r1, _⟩ := q3 _ _ _ hv hc1
        cases r1 with
        | p _ _ h => exact h
      have him : ∀ q, Im K H2 b q := by
        intro q i ob hob hKi
        have hi := (List.getElem?_eq_some_iff.1 hob).1
        have := i1.inj i id b (by omega) hil hKi (hK hn0)
        subst this
        rcases hs2 i ob hob with ⟨e1, _⟩ | ⟨_, rfl⟩ | ⟨_, h5, _⟩
        · exact absurd e1.symm hne
        · exact .inl rfl
        · exact absurd rfl h5
      have hkey : RepV w K H2 (.slice A xs.length cc) (.p (.sl k xs)) := by
        refine .p _ _ (.sl A cc k b 0 xs (fun i l => vs.getD (i * k + l) undef) (by omega) hm hk (fun _ => hA hn0) (fun i x l u hx hu => him _) (fun i x l u hx hu => ?_) fun i x l u hx hu => ?_)
        · obtain ⟨v, hv, _⟩ := hcell i x l u hx hu
          simp only [World.cell?, q1, Nat.zero_add]
          simp [hv]
        · obtain ⟨v, hv, hP⟩ := hcell i x l u hx hu
          have : vs.getD (i * k + l) undef = v := by simp [hv]
          rw [this]
          exact hP.of_ext hE
      rw [hn] at hkey
      exact hkey
  have hI2 : Inv G w K { H := H2, lg := M.lg } := by
    refine ⟨i1.os, i1.tape, i1.output, i1.size, i1.gB, i1.old, fun i j b hi hj => i1.inj i j b (by simpa [hl2] using hi) (by simpa [hl2] using hj), fun i b hi => i1.blk i b (by simpa [hl2] using hi), fun i x hi => ?_, fun i x hi cc hcc r hr => ?_, fun en hen => ?_, fun i L hi => ?_⟩
    · rcases hs2 i x hi with ⟨rfl, rfl⟩ | ⟨rfl, rfl⟩ | ⟨_, _, h2⟩
      · intro b hb
        obtain ⟨vs, t, q1, q2, q3⟩ := i1.obj i _ h3 b hb
        refine ⟨vs, t, q1, by simpa using q2, fun l v cv hv hcv => ?_⟩
        rw [List.getElem?_set] at hcv
        by_cases hj : j = l
        · subst hj
          have hlt := (List.getElem?_eq_some_iff.1 h4).1
          rw [if_pos rfl, if_pos hlt] at hcv
          cases hcv
          obtain ⟨r1, r2⟩ := q3 j v _ hv h4
          exact ⟨key v r1, r2⟩
        · rw [if_neg hj] at hcv
          obtain ⟨r1, r2⟩ := q3 l v cv hv hcv
          exact ⟨r1.ext hE (i1.content h3 cv (by simp only [contents]; exact List.mem_of_getElem? hcv)), r2⟩
      · exact trivial
      · exact (i1.obj i x h2).ext hE (fun _ _ => rfl) (i1.content h2)
    · simp only [hl2]
      rcases hs2 i x hi with ⟨rfl, rfl⟩ | ⟨rfl, rfl⟩ | ⟨_, _, h2⟩
      · simp only [contents] at hcc
        rcases List.mem_or_eq_of_mem_set hcc with hm | rfl
        · exact i1.cl i _ h3 cc (by simp only [contents]; exact hm) r hr
        · simp [refs] at hr
      · simp [contents] at hcc
      · exact i1.cl i x h2 cc hcc r hr
    · simp only [hl2]
      exact i1.lg en hen
    · rcases hs2 i _ hi with ⟨rfl, e2⟩ | ⟨rfl, e2⟩ | ⟨_, _, h2⟩
      · cases e2
      · cases e2
      · exact i1.lpd i L h2
  have hs3 : StOk cx G w K { H := H2, lg := M.lg } a e D := ⟨hs.fr.ext (M' := { H := H2, lg := M.lg }) hE, df_ext (M' := { H := H2, lg := M.lg }) hE hs.df, hI2, (rd_ext (M' := { H := H2, lg := M.lg }) hE hs.rd).1⟩
  have h2 := h G w _ a hs3
  exact wpIn_mono h2 fun ex a' w' ⟨e', M', K', D', q1, q2, q3, q4⟩ => ⟨e', M', K', D', q1, q2, q3, hE.trans q4⟩
end
/-! ### calls that touch nothing of ours -/
/-- a value that stands for what it is whatever the frozen cells -/
def imf : VV → Bool
  | .p (.int _ _) | .p (.bool _) | .p (.str _) | .p .nilp | .p .nilm | .p .nilf => true
  | .bf _ _ _ _ | .ptr _ _ | .mp _ => true
  | _ => false
theorem RepV.imf {w : World} {K K' : Nat → Option Nat} {H H' : List VObj} {v : Value} {x : VV} (h : RepV w K H v x) (hx : Vm.imf x = true) (hr : ∀ r ∈ refs x, K' r = K r ∧ ∀ m k, H'[r]? ≠ some (.clm m k)) : RepV w K' H' v x := by
  cases h with
  | p v y h =>
    refine .p _ _ ?_
    cases h with
    | sl => cases hx
    | int => exact .int _ _
    | bool => exact .bool _
    | str => exact .str _
    | nilp => exact .nilp
    | nilm => exact .nilm
    | nilf => exact .nilf
  | bf id off n k b c A h hn h2 hm hA =>
    obtain ⟨h3, h4⟩ := hr id (by simp [refs])
    exact .bf id off n k b c A (fun hne => h3.trans (h hne)) h4 h2 hm hA
  | ptr id off b h hn =>
    obtain ⟨h3, h4⟩ := hr id (by simp [refs])
    exact .ptr id off b (h3.trans h) h4
  | mp id b h hn =>
    obtain ⟨h3, h4⟩ := hr id (by simp [refs])
    exact .mp id b (h3.trans h) h4
  | _ => cases hx
/-- pure data, or a struct of pure data -/
def pureV : VV → Bool
  | .p _ => true
  | .agg cs => cs.all fun c => match c with | .p _ => true | _ => false
  | _ => false
theorem RepV.pure {w : World} {K K' : Nat → Option Nat} {H H' : List VObj} {v : Value} {x : VV} (h : RepV w K H v x) (hx : pureV x = true) (him : ∀ b o, Im K' H' b o) : RepV w K' H' v x := by
  have hP : ∀ {v : Value} {y : PV}, RepP w (Im K H) v y → RepP w (Im K' H') v y := fun h => h.ext fun b o _ _ => ⟨him b o, rfl⟩
  cases h with
  | p v y h => exact .p _ _ (hP h)
  | agg vs cs hs h1 h =>
    refine .agg vs cs hs h1 fun i v c a b => ?_
    have hc := List.all_eq_true.1 hx c (List.mem_of_getElem? b)
    have hr := h i v c a b
    cases hr with
    | p v y h => exact .p _ _ (hP h)
    | _ => cases hc
  | _ => cases hx
theorem pureV_refs {x : VV} (h : pureV x = true) : refs x = [] := by
  cases x with
  | p => rfl
  | agg cs =>
    rw [refs]
    have hall := List.all_eq_true.1 h
    have : ∀ r, r ∉ refsL cs := fun r hr => by
      obtain ⟨c, hc, hr⟩ := mem_refsL.1 hr
      have := hall c hc
      cases c with
      | p => simp [refs] at hr
      | _ => cases this
    exact List.eq_nil_iff_forall_not_mem.2 this
  | _ => cases h
/-- a part of the result, before and behind -/
def Th (n0 : Nat) (L1 : List VObj) (x x2 : VV) : Prop :=
  (x2 = x ∧ imf x = true) ∨ ∃ j k rows, x = .sw (n0 + j) k rows ∧ x2 = .bf (n0 + j) 0 rows.length k ∧ L1[j]? = some (.clm rows.length k) ∧ 0 < k
/-- an object, before and behind -/
def ThO (n0 : Nat) (rc : List VV) (j : Nat) (o o2 : VObj) : Prop :=
  o2 = .dead ∨ (∃ cs, o = .obj cs ∧ o2 = .obj cs ∧ ∀ c ∈ cs, imf c = true) ∨
    ∃ k rows, o = .clm rows.length k ∧ o2 = .obj rows.flatten ∧ .sw (n0 + j) k rows ∈ rc ∧ 0 < k ∧ ∀ x ∈ rows, ∀ c ∈ x, imf c = true
theorem VC_fresh {P : Program} {f : Nat} {args : List VV} {M : Mem} {Q Q0 : VV → Mem → Prop} (hargs : ∀ a ∈ args, pureV a = true) (h : VC P f args ⟨List.replicate M.H.length .dead, []⟩ Q0)
    (hq : ∀ r M1, Q0 r M1 → ∃ (rc rc2 : List VV) (L1 L2 : List VObj) (X : List (Nat × Nat)), r = .agg rc ∧ M1.H = List.replicate M.H.length .dead ++ L1 ∧ L1.length = L2.length ∧ rc2.length = rc.length ∧
      (∀ (i : Nat) (x x2 : VV), rc[i]? = some x → rc2[i]? = some x2 → Th M.H.length L1 x x2) ∧ (∀ (j : Nat) (o o2 : VObj), L1[j]? = some o → L2[j]? = some o2 → ThO M.H.length rc j o o2) ∧
      (∀ x ∈ rc2, ∀ q ∈ refs x, M.H.length ≤ q ∧ q < M.H.length + L2.length) ∧
      (∀ (j : Nat) (cs : List VV), L2[j]? = some (.obj cs) → ∀ c ∈ cs, ∀ q ∈ refs c, M.H.length ≤ q ∧ q < M.H.length + L2.length ∧ (q ≤ M.H.length + j ∨ (M.H.length + j, q) ∈ X)) ∧
      (∀ e ∈ X, M.H.length ≤ e.1 ∧ e.1 < M.H.length + L2.length ∧ e.2 < M.H.length + L2.length) ∧ Q (.agg rc2) ⟨M.H ++ L2, M.lg ++ X⟩) : VC P f args M Q := by
  intro G w K rargs hI ha
  obtain ⟨n0, hn0⟩ : ∃ n0, n0 = M.H.length := ⟨_, rfl⟩
  rw [← hn0] at h hq
  obtain ⟨H0, hH0⟩ : ∃ H0 : List VObj, H0 = List.replicate n0 .dead := ⟨_, rfl⟩
  rw [← hH0] at h hq
  have hlen0 : H0.length = n0 := by rw [hH0]; simp
  have hdead : ∀ (i : Nat) (o : VObj), H0[i]? = some o → o = .dead := fun i o ho => by
    rw [hH0] at ho
    rw [List.getElem?_replicate] at ho
    split at ho
    · cases ho; rfl
    · cases ho
  have him0 : ∀ b o, Im (fun _ => none) H0 b o := fun b o i ob _ hk => by cases hk
  have hI0 : Inv ⟨w.heap.size, w, fun _ => False⟩ w (fun _ => none) ⟨H0, []⟩ := by
    refine ⟨rfl, rfl, rfl, Nat.le_refl _, Nat.le_refl _, fun _ _ _ => rfl, fun i j b _ _ e => (by cases e), fun i b _ e => (by cases e), fun i o ho => ?_, fun i o ho c hc => ?_, fun e he => (by cases he), fun i L hL => ?_⟩
    · have := hdead i o ho
      subst this
      exact trivial
    · have := hdead i o ho
      subst this
      simp [contents] at hc
    · have := hdead i _ hL; cases this
  have ha0 : ArgsOk w (fun _ => none) ⟨H0, []⟩ rargs args := by
    refine ⟨⟨ha.rep.1, fun i a b h1 h2 => (ha.rep.2 i a b h1 h2).pure (hargs b (List.mem_of_getElem? h2)) him0⟩, fun a hh r hr => ?_⟩
    rw [pureV_refs (hargs a hh)] at hr
    cases hr
  refine (h ⟨w.heap.size, w, fun _ => False⟩ w (fun _ => none) rargs hI0 ha0).mono ?_
  intro e w'
  rintro ⟨rv, r, K1, M1, he, hQ, h1, h2, h3, h4⟩
  obtain ⟨rc, rc2, L1, L2, X, rfl, hM1, hl12, hlr, hth, hto, hrr, hcl, hX, hQ2⟩ := hq _ _ hQ
  have hl1 : M1.H.length = n0 + L2.length := by rw [hM1, List.length_append, hlen0, hl12]
  have hget1 : ∀ j, M1.H[n0 + j]? = L1[j]? := fun j => by rw [hM1, List.getElem?_append_right (by omega), hlen0]; congr 1; omega
  have hget2 : ∀ j, (M.H ++ L2)[n0 + j]? = L2[j]? := fun j => by rw [List.getElem?_append_right (by omega), ← hn0]; congr 1; omega
  have hold : ∀ i, i < n0 → (M.H ++ L2)[i]? = M.H[i]? := fun i hi => List.getElem?_append_left (by omega)
  obtain ⟨K', hK'⟩ : ∃ K' : Nat → Option Nat, K' = fun i => if i < n0 then K i else K1 i := ⟨_, rfl⟩
  have hKo : ∀ i, i < n0 → K' i = K i := fun i hi => by
    rw [hK']
    exact if_pos hi
  have hKq : ∀ q, n0 ≤ q → K' q = K1 q := fun q hq => by
    rw [hK']
    exact if_neg (Nat.not_lt.2 hq)
  have hKn : ∀ j, K' (n0 + j) = K1 (n0 + j) := fun j => hKq _ (Nat.le_add_right _ _)
  have hheap : ∀ b, b < w.heap.size → w'.heap[b]? = w.heap[b]? := fun b hb => h4.old b hb fun h => h
  have hnew : ∀ q b, n0 ≤ q → q < n0 + L2.length → K1 q = some b → w.heap.size ≤ b ∧ b < w'.heap.size := fun q b _ hq e => by
    obtain ⟨a1, a2⟩ := h4.blk q b (by omega) e
    rcases a2 with a2 | a2
    · exact ⟨a2, a1⟩
    · exact False.elim a2
  have hnc : ∀ q, n0 ≤ q → q < n0 + L2.length → ∀ m k, (M.H ++ L2)[q]? ≠ some (.clm m k) := fun q h5 h6 m k h7 => by
    obtain ⟨j, rfl⟩ : ∃ j, q = n0 + j := ⟨q - n0, by omega⟩
    rw [hget2] at h7
    have hj : j < L1.length := by omega
    rcases hto j _ _ (List.getElem?_eq_getElem hj) h7 with h8 | ⟨_, _, h8, _⟩ | ⟨_, _, _, h8, _⟩ <;> cases h8
  have hE : Ext w K M.H w' K' (M.H ++ L2) := by
    refine ⟨h4.size, fun b o hb him i ob hi hKi => ?_, fun b o hb _ => World.cell?_of_block (hheap b hb), fun i o ho => ?_⟩
    · rcases Nat.lt_or_ge i n0 with hlt | hge
      · rw [hold i hlt] at hi
        rw [hKo i hlt] at hKi
        exact him i ob hi hKi
      · have hi' := (List.getElem?_eq_some_iff.1 hi).1
        rw [List.length_append] at hi'
        rw [hKq i hge] at hKi
        have := (hnew i b hge (by omega) hKi).1
        omega
    · have hlt := (List.getElem?_eq_some_iff.1 ho).1
      exact ⟨o, by rw [hold i (by omega)]; exact ho, objLe_same (hKo i (by omega)) fun b hb => hheap b (hI.blk i b hlt hb).1⟩
  have himf : ∀ v x, RepV w' K1 M1.H v x → Vm.imf x = true → (∀ q ∈ refs x, n0 ≤ q ∧ q < n0 + L2.length) → RepV w' K' (M.H ++ L2) v x := fun v x hv hx hq =>
    hv.imf hx fun q hr => by
      obtain ⟨a1, a2⟩ := hq q hr
      exact ⟨hKq q a1, hnc q a1 a2⟩
  -- a slice of our own in the result
  have hsw : ∀ v j k rows, 0 < k → L1[j]? = some (.clm rows.length k) → RepV w' K1 M1.H v (.sw (n0 + j) k rows) →
      (rows = [] ∨ ∃ b c vs t, K1 (n0 + j) = some b ∧ v = .slice (some ⟨b, 0, none⟩) rows.length c ∧ c ≤ maxLen ∧ rows.length ≤ c ∧ w'.heap[b]? = some (.cells vs t (0, 0)) ∧ (∀ x ∈ rows, x.length = k) ∧ rows.length * k ≤ vs.size ∧
        ∀ (q : Nat) (vv : Value) (cc : VV), vs[q]? = some vv → rows.flatten[q]? = some cc → RepV w' K1 M1.H vv cc ∧ isOne vv = true) := by
    intro v j k rows hk hLj hv
    cases hv with
    | sw _ _ _ _ hP hTI =>
    obtain ⟨_, hT2⟩ := hTI rows.length k (by rw [hget1]; exact hLj)
    obtain ⟨_, hT2⟩ := hT2 rfl
    rcases hT2 with ⟨b, c, vs, t, hb, hv, hw, hcs⟩ | ⟨_, h0, _⟩
    · by_cases hne : rows = []
      · exact .inl hne
      refine .inr ⟨b, c, vs, t, hb, hv, ?_⟩
      subst hv
      obtain ⟨A, c1, news, e1, o1, o2, o3, o4, o5, o6, o7⟩ := sv_flat hP hk
      cases e1
      obtain ⟨b1, off1, hb1, hcell⟩ := o4 hne
      cases hb1
      have hle : rows.length * k ≤ c * k := Nat.mul_le_mul_right _ o1
      refine ⟨o2, o1, hw, o6, by omega, fun q vv cc hvv hcc => ?_⟩
      obtain ⟨i, x, l, hx, hl, rfl⟩ : ∃ i x l, rows[i]? = some x ∧ x[l]? = some cc ∧ q = i * k + l := by
        have hfl : rows.flatten.length = rows.length * k := flat_lenV o6
        have hq := (List.getElem?_eq_some_iff.1 hcc).1
        rw [hfl] at hq
        have hd : q / k < rows.length := Nat.div_lt_of_lt_mul (by rw [Nat.mul_comm]; exact hq)
        have hx1 := List.getElem?_eq_getElem hd
        have hmm := Nat.mod_lt q hk
        have e2 : q = q / k * k + q % k := by rw [Nat.mul_comm]; exact (Nat.div_add_mod q k).symm
        have := flat_get o6 hx1 hmm
        rw [← e2, hcc] at this
        exact ⟨_, _, _, hx1, this.symm, e2⟩
      obtain ⟨_, r, a1, a2, a3⟩ := o7 i x l cc hx hl
      have h5 := hcell _ _ a1
      simp only [World.cell?, hw, Nat.zero_add] at h5
      rw [hvv] at h5
      cases h5
      exact ⟨a2, a3⟩
    · exact .inl (List.length_eq_zero_iff.1 h0)
  refine ⟨rv, .agg rc2, K', ⟨M.H ++ L2, M.lg ++ X⟩, he, hQ2, ?_, fun q hq => ?_, hE, ?_⟩
  · cases h1 with
    | agg vs _ hs h5 h6 =>
      refine .agg vs rc2 (by omega) h5 fun i v x2 hv hx2 => ?_
      have hil : i < rc.length := by have := (List.getElem?_eq_some_iff.1 hx2).1; omega
      have hx := List.getElem?_eq_getElem hil
      generalize rc[i] = x at hx
      have hr := h6 i v x hv hx
      have hrq := hrr x2 (List.mem_of_getElem? hx2)
      rcases hth i x x2 hx hx2 with ⟨rfl, hi2⟩ | ⟨j, k, rows, rfl, rfl, hLj⟩
      · exact himf v _ hr hi2 hrq
      · obtain ⟨a1, a2⟩ := hrq (n0 + j) (by simp [refs])
        rcases hsw v j k rows hLj.2 hLj.1 hr with rfl | ⟨b, c, vs1, t, b1, rfl, b3, b4, _⟩
        · cases hr with
          | sw _ _ _ _ hP _ =>
            cases hP with
            | sv A c _ b off _ ff hc hm hk hA =>
              exact .bf _ 0 0 k 0 c A (fun h => absurd rfl h) (hnc _ a1 a2) (Nat.zero_le _) hm (fun h => absurd rfl h)
        · exact .bf _ 0 rows.length k b c _ (fun _ => (hKn j).trans b1) (hnc _ a1 a2) b4 b3 (fun _ => rfl)
  · rw [refs] at hq
    obtain ⟨x, hx, hq⟩ := mem_refsL.1 hq
    have := hrr x hx q hq
    simp only [List.length_append]
    omega
  · refine ⟨h4.os.trans hI.os, h4.tape.trans hI.tape, h4.output.trans hI.output, Nat.le_trans hI.size h4.size, Nat.le_trans hI.gB h4.size, fun b hb1 hb2 => (hheap b (Nat.lt_of_lt_of_le hb1 hI.gB)).trans (hI.old b hb1 hb2), fun i j b hi hj e1 e2 => ?_, fun i b hi e1 => ?_, fun i o ho => ?_, fun i o ho c hc q hq => ?_, fun e he => ?_, fun i L hL => ?_⟩
    · simp only [List.length_append] at hi hj
      rcases Nat.lt_or_ge i n0 with h5 | h5 <;> rcases Nat.lt_or_ge j n0 with h6 | h6
      · rw [hKo i h5] at e1
        rw [hKo j h6] at e2
        exact hI.inj i j b (by omega) (by omega) e1 e2
      · rw [hKo i h5] at e1
        rw [hKq j h6] at e2
        have := (hI.blk i b (by omega) e1).1
        have := (hnew j b h6 (by omega) e2).1
        omega
      · rw [hKq i h5] at e1
        rw [hKo j h6] at e2
        have := (hI.blk j b (by omega) e2).1
        have := (hnew i b h5 (by omega) e1).1
        omega
      · rw [hKq i h5] at e1
        rw [hKq j h6] at e2
        exact h4.inj i j b (by omega) (by omega) e1 e2
    · simp only [List.length_append] at hi
      rcases Nat.lt_or_ge i n0 with h5 | h5
      · rw [hKo i h5] at e1
        have := hI.blk i b (by omega) e1
        exact ⟨Nat.lt_of_lt_of_le this.1 h4.size, this.2⟩
      · rw [hKq i h5] at e1
        have := hnew i b h5 (by omega) e1
        exact ⟨this.2, .inl (Nat.le_trans hI.gB this.1)⟩
    · rcases Nat.lt_or_ge i n0 with h5 | h5
      · simp only [hold i h5] at ho
        rw [hKo i h5]
        exact (hI.obj i o ho).ext hE (fun b hb => hheap b (hI.lt ho hb)) (hI.content ho)
      · obtain ⟨j, rfl⟩ : ∃ j, i = n0 + j := ⟨i - n0, by omega⟩
        simp only [hget2] at ho
        have hj := (List.getElem?_eq_some_iff.1 ho).1
        have hL1 := List.getElem?_eq_getElem (show j < L1.length by omega)
        generalize L1[j] = o1 at hL1
        rw [hKn]
        have hcq : ∀ cs, o = .obj cs → ∀ c ∈ cs, ∀ q ∈ refs c, n0 ≤ q ∧ q < n0 + L2.length := fun cs e c hc q hq => by
          subst e
          have := hcl j cs ho c hc q hq
          exact ⟨this.1, this.2.1⟩
        rcases hto j o1 o hL1 ho with rfl | ⟨cs, rfl, rfl, h9⟩ | ⟨k, rows, rfl, rfl, h9, h10, h11⟩
        · exact trivial
        · intro b hb
          obtain ⟨vs, t, q1, q2, q3⟩ := h4.obj (n0 + j) _ ((hget1 j).trans hL1) b hb
          refine ⟨vs, t, q1, q2, fun l v c hv hc => ?_⟩
          obtain ⟨r1, r2⟩ := q3 l v c hv hc
          exact ⟨himf v c r1 (h9 c (List.mem_of_getElem? hc)) (hcq _ rfl c (List.mem_of_getElem? hc)), r2⟩
        · intro b hb
          obtain ⟨i, hi⟩ := List.getElem?_of_mem h9
          cases h1 with
          | agg vs _ hs h5 h6 =>
          have hiv : i < vs.size := by have := (List.getElem?_eq_some_iff.1 hi).1; omega
          have hv := Array.getElem?_eq_getElem hiv
          generalize vs[i] = v at hv
          rcases hsw v j k rows h10 hL1 (h6 i v _ hv hi) with rfl | ⟨b1, c, vs1, t, d1, _, _, _, d5, d6, d7, d8⟩
          · obtain ⟨vs2, t, q1, _⟩ := h4.obj (n0 + j) _ ((hget1 j).trans hL1) b hb
            exact ⟨vs2, t, q1, by simp, fun l v c hv hc => by simp at hc⟩
          · rw [hb] at d1
            cases d1
            refine ⟨vs1, t, d5, by rw [flat_lenV d6]; exact d7, fun l v c hv hc => ?_⟩
            obtain ⟨r1, r2⟩ := d8 l v c hv hc
            have hm := List.mem_of_getElem? hc
            obtain ⟨x, hx1, hx2⟩ := List.mem_flatten.1 hm
            exact ⟨himf v c r1 (h11 x hx1 c hx2) (hcq _ rfl c hm), r2⟩
    · rcases Nat.lt_or_ge i n0 with h5 | h5
      · simp only [hold i h5] at ho
        obtain ⟨a1, a2⟩ := hI.cl i o ho c hc q hq
        simp only [List.length_append]
        exact ⟨by omega, a2.imp_right fun x => List.mem_append_left _ x⟩
      · obtain ⟨j, rfl⟩ : ∃ j, i = n0 + j := ⟨i - n0, by omega⟩
        simp only [hget2] at ho
        have hj := (List.getElem?_eq_some_iff.1 ho).1
        have hL1 := List.getElem?_eq_getElem (show j < L1.length by omega)
        generalize L1[j] = o1 at hL1
        have hob : ∃ cs, o = .obj cs := by
          rcases hto j o1 o hL1 ho with rfl | ⟨cs, _, rfl, _⟩ | ⟨k, rows, _, rfl, _⟩
          · simp [contents] at hc
          · exact ⟨_, rfl⟩
          · exact ⟨_, rfl⟩
        obtain ⟨cs, rfl⟩ := hob
        obtain ⟨a1, a2, a3⟩ := hcl j cs ho c hc q hq
        simp only [List.length_append]
        exact ⟨by omega, a3.imp_right fun x => List.mem_append_right _ x⟩
    · simp only [List.length_append]
      rcases List.mem_append.1 he with he | he
      · have := hI.lg e he
        omega
      · have := hX e he
        omega
    · rcases Nat.lt_or_ge i n0 with h5 | h5
      · simp only [hold i h5] at hL
        exact hI.lpd i L hL
      · obtain ⟨j, rfl⟩ : ∃ j, i = n0 + j := ⟨i - n0, by omega⟩
        simp only [hget2] at hL
        have hj := (List.getElem?_eq_some_iff.1 hL).1
        rcases hto j _ _ (List.getElem?_eq_getElem (show j < L1.length by omega)) hL with h8 | ⟨_, _, h8, _⟩ | ⟨_, _, _, h8, _⟩ <;> cases h8
end Go.Proofs.Ytijcmgfblpokhaa.Vm
