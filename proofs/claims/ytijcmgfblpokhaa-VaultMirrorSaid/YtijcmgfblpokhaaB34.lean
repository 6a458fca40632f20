/- A part of the proofs about the chapter of the vaults; it states no condition of its own. -/
import Derived.Test.YtijcmgfblpokhaaB33
set_option linter.unusedVariables false
set_option linter.unusedSimpArgs false
/- A machine on values: a nil slice is as good as one of our own without a row. -/
namespace Go.Proofs.Ytijcmgfblpokhaa.Vm
open Go

section
variable {P : Program} {T : Tab} {cx : Cx} {e : Env} {M : Mem} {D : List Nat} {Q : PQ} {c : Code}
theorem calm_refl (w : World) : Calm w w := ⟨rfl, rfl, rfl, Nat.le_refl _⟩
theorem so_of_sf {w : World} {K : Nat → Option Nat} {H : List VObj} {v : Value} {g k k0 : Nat} (h : RepV w K H v (.sf k0 [])) (hg : H[g]? = some (.clm 0 k)) (hK : K g = none) : RepV w K H v (.so g k []) := by
  cases h with
  | sf A _ _ h0 =>
    refine .so _ _ _ _ (.sl A 0 k 0 0 [] (fun _ _ => undef) (Nat.le_refl _) (by simp [maxLen]) (fun x hx => by cases hx) (fun hx => absurd rfl hx) (fun i x j u hx => by simp at hx) (fun i x j u hx => by simp at hx) (fun i x j u hx => by simp at hx)) ?_
    intro m k' hm
    rw [hg] at hm
    cases hm
    exact ⟨Nat.le_refl _, fun _ => ⟨rfl, .inr ⟨hK, rfl, A, rfl⟩⟩⟩
/-- a nil slice of a temporary -/
theorem W_tok {t k k0 : Nat} (ht : get e t = .sf k0 []) (h : WCode P cx c ((t, .so M.H.length k []) :: e) (M.push (.clm 0 k)) D Q) : WCode P cx c e M D Q := by
  intro G w K a hs
  obtain ⟨e1, i1⟩ := step_new (w' := w) hs.inv (calm_refl w) (fun _ _ => rfl) (.clm 0 k) none (fun b e => by cases e) (fun c hc => by simp [contents] at hc) (fun hE b e => by cases e)
  have hf := hs.fr.ext (M' := M.push (.clm 0 k)) e1
  have hg : (M.push (.clm 0 k)).H[M.H.length]? = some (.clm 0 k) := by simp [Mem.push]
  have hf2 : FrOk w (upd K M.H.length none) (M.push (.clm 0 k)) cx.nt a.tmps ((t, .so M.H.length k []) :: e) := by
    refine ⟨hf.size, fun t' => ?_, fun t' => ?_⟩
    · rw [get_cons]
      by_cases h1 : t' = t
      · subst h1
        rw [if_pos rfl]
        have := hf.rep t'
        rw [ht] at this
        exact so_of_sf this hg (upd_same _ _ _)
      · rw [if_neg h1]; exact hf.rep t'
    · rw [get_cons]
      by_cases h1 : t' = t
      · rw [if_pos h1]
        intro r hr
        simp only [refs, List.mem_singleton] at hr
        subst hr
        simp [Mem.push]
      · rw [if_neg h1]; exact hf.cl t'
  have hs2 : StOk cx G w (upd K M.H.length none) (M.push (.clm 0 k)) a ((t, .so M.H.length k []) :: e) D := ⟨hf2, df_ext (M' := M.push (.clm 0 k)) e1 hs.df, i1, (rd_ext (M' := M.push (.clm 0 k)) e1 hs.rd).1⟩
  have h2 := h G w _ a hs2
  rw [(rd_ext (M' := M.push (.clm 0 k)) e1 hs.rd).2] at h2
  exact wpIn_mono h2 fun ex a' w' ⟨e', M', K', D', q1, q2, q3, q4⟩ => ⟨e', M', K', D', q1, q2, q3, e1.trans q4⟩
/-- a nil slice of an object -/
theorem W_ghost {id off k k0 : Nat} {cs : List VV} (ho : M.H[id]? = some (.obj cs)) (hc : cs[off]? = some (.sf k0 [])) (h : WCode P cx c e ⟨M.H.set id (.obj (cs.set off (.so M.H.length k []))) ++ [.clm 0 k], M.lg ++ [(id, M.H.length)]⟩ D Q) : WCode P cx c e M D Q := by
  intro G w K a hs
  obtain ⟨e1, i1⟩ := step_new (w' := w) hs.inv (calm_refl w) (fun _ _ => rfl) (.clm 0 k) none (fun b e => by cases e) (fun c hc => by simp [contents] at hc) (fun hE b e => by cases e)
  replace e1 : Ext w K M.H w (upd K M.H.length none) (M.push (.clm 0 k)).H := e1
  have hil := (List.getElem?_eq_some_iff.1 ho).1
  have ho1 : (M.push (.clm 0 k)).H[id]? = some (.obj cs) := by
    show (M.H ++ [_])[id]? = _
    rw [List.getElem?_append_left hil, ho]
  have hK : upd K M.H.length none M.H.length = none := upd_same _ _ _
  have hH : M.H.set id (.obj (cs.set off (.so M.H.length k []))) ++ [.clm 0 k] = (M.push (.clm 0 k)).H.set id (.obj (cs.set off (.so M.H.length k []))) := by
    show _ = (M.H ++ [_]).set id _
    rw [List.set_append_left _ _ hil]
  rw [hH] at h
  generalize hM1 : M.push (.clm 0 k) = M1 at *
  have hg : M1.H[M.H.length]? = some (.clm 0 k) := by rw [← hM1]; simp [Mem.push]
  have hlen : M1.H.length = M.H.length + 1 := by rw [← hM1]; simp [Mem.push]
  have hlg1 : M1.lg = M.lg := by rw [← hM1]; rfl
  generalize hK1 : upd K M.H.length none = K1 at *
  generalize hg0 : M.H.length = g at *
  have hne : id ≠ g := by omega
  have hs2 : ∀ j x, (M1.H.set id (.obj (cs.set off (.so g k []))))[j]? = some x → (j = id ∧ x = .obj (cs.set off (.so g k []))) ∨ (j ≠ id ∧ M1.H[j]? = some x) := fun j x hx => by
    rcases set_get hx with ⟨rfl, rfl, _⟩ | ⟨h1, h2⟩
    · exact .inl ⟨rfl, rfl⟩
    · exact .inr ⟨h1, h2⟩
  have hE : Ext w K1 M1.H w K1 (M1.H.set id (.obj (cs.set off (.so g k [])))) := by
    refine ⟨Nat.le_refl _, fun b o _ him i ob hi hb => ?_, fun _ _ _ _ => rfl, fun i o hi => ?_⟩
    · rcases hs2 i ob hi with ⟨rfl, rfl⟩ | ⟨_, h2⟩
      · obtain ⟨m, k', e2, _⟩ := him i _ ho1 hb
        cases e2
      · exact him i ob h2 hb
    · by_cases h1 : i = id
      · subst h1
        rw [ho1] at hi
        cases hi
        exact ⟨.obj (cs.set off (.so g k [])), by simp [show i < M1.H.length by omega], fun _ _ e => VObj.noConfusion e, rfl⟩
      · refine ⟨o, by rw [List.getElem?_set_ne (Ne.symm h1)]; exact hi, ?_⟩
        exact objLe_same rfl fun b _ => rfl
  have hI2 : Inv G w K1 { H := M1.H.set id (.obj (cs.set off (.so g k []))), lg := M.lg ++ [(id, g)] } := by
    refine ⟨i1.os, i1.tape, i1.output, i1.size, i1.gB, i1.old, fun i j b hi hj => i1.inj i j b (by simpa using hi) (by simpa using hj), fun i b hi => i1.blk i b (by simpa using hi), fun i o hi => ?_, fun i o hi cc hcc r hr => ?_, fun en hen => ?_, fun i L hi => ?_⟩
    · rcases hs2 i o hi with ⟨rfl, rfl⟩ | ⟨h1, h2⟩
      · intro b hb
        obtain ⟨vs, t, q1, q2, q3⟩ := i1.obj i _ ho1 b hb
        refine ⟨vs, t, q1, by simpa using q2, fun j v cv hv hcv => ?_⟩
        rw [List.getElem?_set] at hcv
        by_cases hj : off = j
        · subst hj
          have hlt := (List.getElem?_eq_some_iff.1 hc).1
          rw [if_pos rfl, if_pos hlt] at hcv
          cases hcv
          obtain ⟨r1, r2⟩ := q3 off v _ hv hc
          refine ⟨so_of_sf (r1.ext hE (fun r hr => by simp [refs] at hr)) ?_ hK, r2⟩
          rw [List.getElem?_set_ne hne]
          exact hg
        · rw [if_neg hj] at hcv
          obtain ⟨r1, r2⟩ := q3 j v cv hv hcv
          exact ⟨r1.ext hE (i1.content ho1 cv (by simp only [contents]; exact List.mem_of_getElem? hcv)), r2⟩
      · exact (i1.obj i o h2).ext hE (fun _ _ => rfl) (i1.content h2)
    · simp only [List.length_set]
      rcases hs2 i o hi with ⟨rfl, rfl⟩ | ⟨h1, h2⟩
      · simp only [contents] at hcc
        rcases List.mem_or_eq_of_mem_set hcc with hm | rfl
        · obtain ⟨a1, a2⟩ := i1.cl i _ ho1 cc (by simp only [contents]; exact hm) r hr
          exact ⟨a1, a2.imp_right fun x => List.mem_append_left _ (by rw [← hlg1]; exact x)⟩
        · simp only [refs, List.mem_singleton] at hr
          subst hr
          exact ⟨by omega, .inr (List.mem_append_right _ (List.mem_singleton.2 rfl))⟩
      · obtain ⟨a1, a2⟩ := i1.cl i o h2 cc hcc r hr
        exact ⟨a1, a2.imp_right fun x => List.mem_append_left _ (by rw [← hlg1]; exact x)⟩
    · simp only [List.length_set]
      rcases List.mem_append.1 hen with hm | hm
      · exact i1.lg en (by rw [hlg1]; exact hm)
      · rw [List.mem_singleton] at hm
        subst hm
        exact ⟨by simp only; omega, by simp only; omega⟩
    · rcases hs2 i _ hi with ⟨rfl, e2⟩ | ⟨_, h2⟩
      · cases e2
      · exact i1.lpd i L h2
  have he := e1.trans hE
  have hs3 : StOk cx G w K1 { H := M1.H.set id (.obj (cs.set off (.so g k []))), lg := M.lg ++ [(id, g)] } a e D := ⟨hs.fr.ext (M' := { H := M1.H.set id (.obj (cs.set off (.so g k []))), lg := M.lg ++ [(id, g)] }) he, df_ext (M' := { H := M1.H.set id (.obj (cs.set off (.so g k []))), lg := M.lg ++ [(id, g)] }) he hs.df, hI2, (rd_ext (M' := { H := M1.H.set id (.obj (cs.set off (.so g k []))), lg := M.lg ++ [(id, g)] }) he hs.rd).1⟩
  have h2 := h G w _ a hs3
  rw [(rd_ext (M' := { H := M1.H.set id (.obj (cs.set off (.so g k []))), lg := M.lg ++ [(id, g)] }) he hs.rd).2] at h2
  exact wpIn_mono h2 fun ex a' w' ⟨e', M', K', D', q1, q2, q3, q4⟩ => ⟨e', M', K', D', q1, q2, q3, he.trans q4⟩
end
end Go.Proofs.Ytijcmgfblpokhaa.Vm
