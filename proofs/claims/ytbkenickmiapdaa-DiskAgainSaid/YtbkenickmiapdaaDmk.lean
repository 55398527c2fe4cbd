/- DERIVED. The plain law on disks: every method keeps what a disk is. -/
import Derived.Test.YtbkenickmiapdaaDmc
namespace Go.Proofs.Ytbkenickmiapdaa
set_option linter.unusedVariables false
set_option linter.unusedSimpArgs false

theorem used_cons (p : Nm × DF) (l : List (Nm × DF)) : dUsed (p :: l) = p.2.b.length + dUsed l := rfl
theorem used_ins (p : Nm × DF) (l : List (Nm × DF)) : dUsed (fIns p l) = p.2.b.length + dUsed l := by
  induction l with
  | nil => rfl
  | cons q r ih =>
    simp only [fIns]
    split
    · rfl
    · rw [used_cons, ih, used_cons]; omega
theorem used_put (n : Nm) (v : DF) (l : List (Nm × DF)) : dUsed (fPut n v l) = v.b.length + dUsed (fDel n l) := used_ins _ _
theorem used_del_le (n : Nm) (l : List (Nm × DF)) : dUsed (fDel n l) ≤ dUsed l := by
  induction l with
  | nil => exact Nat.le_refl _
  | cons q r ih =>
    unfold fDel at ih ⊢
    rw [List.filter_cons]
    split
    · rw [used_cons, used_cons]; omega
    · rw [used_cons]; omega
theorem del_none {α : Type} {n : Nm} {l : List (Nm × α)} (h : ∀ p ∈ l, p.1 ≠ n) : fDel n l = l := by
  unfold fDel
  rw [List.filter_eq_self]
  intro p hp
  simpa using h p hp
theorem used_del {n : Nm} {f : DF} {l : List (Nm × DF)} (hs : fSort l) (hg : fGet n l = some f) : dUsed l = f.b.length + dUsed (fDel n l) := by
  induction l with
  | nil => cases hg
  | cons q r ih =>
    obtain ⟨h1, h2⟩ := List.pairwise_cons.1 hs
    rw [fGet_cons] at hg
    by_cases e : q.1 = n
    · rw [if_pos (by simpa using e)] at hg
      injection hg with hg
      have e2 : fDel n (q :: r) = r := by
        unfold fDel
        rw [List.filter_cons, if_neg (by simpa using e)]
        exact del_none fun p hp he => before_ne (h1 p hp) (e.trans he.symm)
      rw [e2, used_cons, hg]
    · rw [if_neg (by simpa using e)] at hg
      have e2 : fDel n (q :: r) = q :: fDel n r := by
        unfold fDel
        rw [List.filter_cons, if_pos (by simpa using e)]
      rw [e2, used_cons, used_cons, ih h2 hg]
      omega
theorem del_put {α : Type} {n m : Nm} {v : α} {l : List (Nm × α)} (hs : fSort l) (h : n ≠ m) : fDel n (fPut m v l) = fPut m v (fDel n l) := by
  refine hs.put.del.ext hs.del.put fun p => ?_
  rw [mem_fDel, mem_fPut, mem_fPut, mem_fDel]
  constructor
  · rintro ⟨h1 | ⟨h1, h2⟩, h3⟩
    · exact .inl h1
    · exact .inr ⟨⟨h1, h3⟩, h2⟩
  · rintro (h1 | ⟨⟨h1, h2⟩, h3⟩)
    · subst h1; exact ⟨.inl rfl, fun e => h e.symm⟩
    · exact ⟨.inr ⟨h1, h3⟩, h2⟩
theorem len_ins {α : Type} (p : Nm × α) (l : List (Nm × α)) : (fIns p l).length = l.length + 1 := by
  induction l with
  | nil => rfl
  | cons q r ih =>
    simp only [fIns]
    split
    · rfl
    · rw [List.length_cons, ih, List.length_cons]
theorem len_del {α : Type} (n : Nm) (l : List (Nm × α)) : (fDel n l).length ≤ l.length := List.length_filter_le _ _
theorem len_put {α : Type} (n : Nm) (v : α) (l : List (Nm × α)) : (fPut n v l).length ≤ l.length + 1 := by
  unfold fPut
  rw [len_ins]
  have := len_del n l
  omega

theorem dMay_names {d : DS} {t : Bool} {n m : Nm} (h : dMay d t n m = 0) : d.down = false ∧ nmBad n = false ∧ nmBad m = false ∧ (t = true → ∃ f, fGet n d.l = some f) := by
  unfold dMay at h
  cases hd : d.down with
  | true => rw [hd] at h; simp at h
  | false =>
    rw [hd] at h
    cases h1 : nmBad n with
    | true => rw [h1] at h; simp at h
    | false =>
      cases h2 : nmBad m with
      | true => rw [h1, h2] at h; simp at h
      | false =>
        refine ⟨rfl, rfl, rfl, fun ht => ?_⟩
        rw [h1, h2, ht] at h
        cases hg : fGet n d.l with
        | none => rw [hg] at h; simp at h
        | some f => exact ⟨f, rfl⟩

/-- A disk within bounds: so many files, so many bytes. -/
structure DFit (d : DS) (N U : Nat) : Prop where
  ok : DOk d
  files : d.l.length ≤ N
  bytes : dUsed d.l ≤ U
  lim : d.lim ≤ 9223372036854775807

section
variable {d : DS} {N U : Nat}
theorem DFit.mono {N' U' : Nat} (h : DFit d N U) (hN : N ≤ N') (hU : U ≤ U') : DFit d N' U' := ⟨h.ok, Nat.le_trans h.files hN, Nat.le_trans h.bytes hU, h.lim⟩
theorem DFit.new (lim : Int) (hl : lim ≤ 9223372036854775807) : DFit ⟨if lim < 0 then 0 else lim, [], false⟩ 0 0 := by
  have h0 : (0 : Int) ≤ if lim < 0 then 0 else lim := by split <;> omega
  refine ⟨⟨h0, List.Pairwise.nil, (fun p hp => by cases hp), (fun p hp => by cases hp), by simpa [dUsed] using h0⟩, Nat.le_refl _, Nat.le_refl _, ?_⟩
  show (if lim < 0 then 0 else lim) ≤ _
  split <;> omega

theorem DFit.append (h : DFit d N U) (n : Nm) (x : List UInt8) : DFit (dAppend d n x) (N + 1) (U + x.length) := by
  unfold dAppend
  split
  · rename_i h0
    unfold dAppendE at h0
    by_cases hm : dMay d false n n = 0
    · rw [if_pos hm] at h0
      have hlim : ¬ (d.lim - (dUsed d.l : Int) < x.length) := fun hc => by rw [if_pos hc] at h0; cases h0
      obtain ⟨_, hn, _, _⟩ := dMay_names hm
      have hold : (dOld n d.l).b.length + dUsed (fDel n d.l) ≤ dUsed d.l ∧ (dOld n d.l).s ≤ (dOld n d.l).b.length := by
        unfold dOld
        cases hg : fGet n d.l with
        | none => simpa using used_del_le n d.l
        | some f => exact ⟨by rw [used_del h.ok.sort hg]; exact Nat.le_refl _, h.ok.synced _ (fGet_mem hg)⟩
      have hu : dUsed (fPut n ⟨(dOld n d.l).b ++ x, (dOld n d.l).s⟩ d.l) ≤ dUsed d.l + x.length := by
        rw [used_put]
        simp only [List.length_append]
        omega
      have hb := h.bytes
      have hbu := h.ok.used
      refine ⟨⟨h.ok.lim, h.ok.sort.put, fun p hp => ?_, fun p hp => ?_, ?_⟩, ?_, ?_, h.lim⟩
      · rcases mem_fPut.1 hp with rfl | ⟨hp, _⟩
        · exact hn
        · exact h.ok.names p hp
      · rcases mem_fPut.1 hp with rfl | ⟨hp, _⟩
        · simp only [List.length_append]; omega
        · exact h.ok.synced p hp
      · show (dUsed (fPut n _ d.l) : Int) ≤ d.lim
        omega
      · have := len_put n ⟨(dOld n d.l).b ++ x, (dOld n d.l).s⟩ d.l
        have := h.files
        show (fPut n _ d.l).length ≤ _
        omega
      · show dUsed (fPut n _ d.l) ≤ _
        omega
    · rw [if_neg hm] at h0; exact absurd h0 hm
  · exact h.mono (by omega) (by omega)

theorem DFit.sync (h : DFit d N U) (n : Nm) : DFit (dSync d n) N U := by
  unfold dSync
  split
  · rename_i h0
    obtain ⟨_, hn, _, hf⟩ := dMay_names h0
    obtain ⟨f, hg⟩ := hf rfl
    have e : dOld n d.l = f := by unfold dOld; rw [hg]; rfl
    rw [e]
    have hu : dUsed (fPut n ⟨f.b, f.b.length⟩ d.l) = dUsed d.l := by rw [used_put, used_del h.ok.sort hg]
    refine ⟨⟨h.ok.lim, h.ok.sort.put, fun p hp => ?_, fun p hp => ?_, ?_⟩, ?_, ?_, h.lim⟩
    · rcases mem_fPut.1 hp with rfl | ⟨hp, _⟩
      · exact hn
      · exact h.ok.names p hp
    · rcases mem_fPut.1 hp with rfl | ⟨hp, _⟩
      · exact Nat.le_refl _
      · exact h.ok.synced p hp
    · show (dUsed (fPut n _ d.l) : Int) ≤ d.lim
      rw [hu]; exact h.ok.used
    · show (fPut n _ d.l).length ≤ _
      rw [fPut_eq_set h.ok.sort hg]
      simpa [fSet] using h.files
    · show dUsed (fPut n _ d.l) ≤ _
      rw [hu]; exact h.bytes
  · exact h

theorem DFit.rename (h : DFit d N U) (n m : Nm) : DFit (dRename d n m) (N + 1) U := by
  unfold dRename
  split
  · rename_i h0
    obtain ⟨_, hn, hm, hf⟩ := dMay_names h0
    obtain ⟨f, hg⟩ := hf rfl
    split
    · exact h.mono (by omega) (Nat.le_refl _)
    · rename_i hnm
      have e : dOld n d.l = f := by unfold dOld; rw [hg]; rfl
      rw [e]
      have hu : dUsed (fDel n (fPut m f d.l)) ≤ dUsed d.l := by
        rw [del_put h.ok.sort hnm, used_put, used_del h.ok.sort hg]
        have := used_del_le m (fDel n d.l)
        omega
      have hbu := h.ok.used
      have hb := h.bytes
      have hmem : ∀ p ∈ fDel n (fPut m f d.l), p = (m, f) ∨ p ∈ d.l := fun p hp => by
        rcases mem_fPut.1 (mem_fDel.1 hp).1 with h | ⟨h, _⟩
        · exact .inl h
        · exact .inr h
      refine ⟨⟨h.ok.lim, h.ok.sort.put.del, fun p hp => ?_, fun p hp => ?_, ?_⟩, ?_, ?_, h.lim⟩
      · rcases hmem p hp with rfl | hp
        · exact hm
        · exact h.ok.names p hp
      · rcases hmem p hp with rfl | hp
        · exact h.ok.synced (n, f) (fGet_mem hg)
        · exact h.ok.synced p hp
      · show (dUsed (fDel n (fPut m f d.l)) : Int) ≤ d.lim
        omega
      · show (fDel n (fPut m f d.l)).length ≤ _
        have h1 := len_del n (fPut m f d.l)
        have h2 := len_put m f d.l
        have h3 := h.files
        omega
      · show dUsed (fDel n (fPut m f d.l)) ≤ _
        omega
  · exact h.mono (by omega) (Nat.le_refl _)

theorem DFit.delete (h : DFit d N U) (n : Nm) : DFit (dDelete d n) N U := by
  unfold dDelete
  split
  · have hu := used_del_le n d.l
    have hbu := h.ok.used
    have hb := h.bytes
    refine ⟨⟨h.ok.lim, h.ok.sort.del, fun p hp => h.ok.names p (mem_fDel.1 hp).1, fun p hp => h.ok.synced p (mem_fDel.1 hp).1, ?_⟩, ?_, ?_, h.lim⟩
    · show (dUsed (fDel n d.l) : Int) ≤ d.lim
      omega
    · exact Nat.le_trans (len_del n d.l) h.files
    · show dUsed (fDel n d.l) ≤ _
      omega
  · exact h

theorem crash_names (ks : List Int) (l : List (Nm × DF)) : (dCrashL l ks).map (·.1) = l.map (·.1) := by
  induction l generalizing ks with
  | nil => rfl
  | cons p r ih => simp [dCrashL, ih]
theorem crash_used (l : List (Nm × DF)) (ks : List Int) (h : ∀ p ∈ l, p.2.s ≤ p.2.b.length) : dUsed (dCrashL l ks) ≤ dUsed l := by
  induction l generalizing ks with
  | nil => exact Nat.le_refl _
  | cons p r ih =>
    have h1 := ih ks.tail fun q hq => h q (List.mem_cons_of_mem _ hq)
    have h2 := h p (by simp)
    show (dCut p.2 ks.head?).b.length + dUsed (dCrashL r ks.tail) ≤ p.2.b.length + dUsed r
    rw [dCut_len h2]
    have := dKeep_le h2 ks.head?
    omega
theorem crash_mem {l : List (Nm × DF)} {ks : List Int} {p : Nm × DF} (hp : p ∈ dCrashL l ks) : ∃ f k, (p.1, f) ∈ l ∧ p.2 = dCut f k := by
  induction l generalizing ks with
  | nil => cases hp
  | cons q r ih =>
    rcases List.mem_cons.1 hp with rfl | hp
    · exact ⟨q.2, _, by simp, rfl⟩
    · obtain ⟨f, k, h1, h2⟩ := ih hp
      exact ⟨f, k, List.mem_cons_of_mem _ h1, h2⟩
theorem DFit.crash (h : DFit d N U) (ks : List Int) : DFit (dCrash d ks) N U := by
  unfold dCrash
  split
  · exact h
  · have hu := crash_used d.l ks h.ok.synced
    have hbu := h.ok.used
    have hb := h.bytes
    refine ⟨⟨h.ok.lim, fSort_of_names (crash_names ks d.l) h.ok.sort, fun p hp => ?_, fun p hp => ?_, ?_⟩, ?_, ?_, h.lim⟩
    · obtain ⟨f, k, h1, h2⟩ := crash_mem hp
      exact h.ok.names (p.1, f) h1
    · obtain ⟨f, k, h1, h2⟩ := crash_mem hp
      rw [h2, dCut_len (h.ok.synced _ h1)]
      exact Nat.le_refl _
    · show (dUsed (dCrashL d.l ks) : Int) ≤ d.lim
      omega
    · have := congrArg List.length (crash_names ks d.l)
      simp at this
      show (dCrashL d.l ks).length ≤ _
      rw [this]; exact h.files
    · show dUsed (dCrashL d.l ks) ≤ _
      omega
theorem DFit.start (h : DFit d N U) : DFit { d with down := false } N U := ⟨⟨h.ok.lim, h.ok.sort, h.ok.names, h.ok.synced, h.ok.used⟩, h.files, h.bytes, h.lim⟩
end
end Go.Proofs.Ytbkenickmiapdaa
