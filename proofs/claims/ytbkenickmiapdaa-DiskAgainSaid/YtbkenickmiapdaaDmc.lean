/- DERIVED. The plain law on disks: a crash, name by name. -/
import Derived.Test.YtbkenickmiapdaaDm
namespace Go.Proofs.Ytbkenickmiapdaa
set_option linter.unusedVariables false
set_option linter.unusedSimpArgs false

def cStep (ks : List Int) (l : List (Nm × DF)) (i : Nat) (n : Nm) : List (Nm × DF) :=
  match fGet n l with
  | some f => fSet n (dCut f ks[i]?) l
  | none => l
def cFold (ks : List Int) : Nat → List (Nm × DF) → List Nm → List (Nm × DF)
  | _, l, [] => l
  | i, l, n :: r => cFold ks (i + 1) (cStep ks l i n) r

theorem cFold_snoc (ks : List Int) (x : Nm) : ∀ (pre : List Nm) (i : Nat) (l : List (Nm × DF)), cFold ks i l (pre ++ [x]) = cStep ks (cFold ks i l pre) (i + pre.length) x
  | [], i, l => rfl
  | y :: r, i, l => by
    show cFold ks (i + 1) (cStep ks l i y) (r ++ [x]) = _
    rw [cFold_snoc ks x r]
    show cStep ks (cFold ks (i + 1) (cStep ks l i y) r) (i + 1 + r.length) x = cStep ks (cFold ks (i + 1) (cStep ks l i y) r) (i + (r.length + 1)) x
    congr 1
    omega
theorem fSet_names {α : Type} (n : Nm) (v : α) (l : List (Nm × α)) : (fSet n v l).map (·.1) = l.map (·.1) := by
  unfold fSet
  rw [List.map_map]
  refine List.map_congr_left fun p _ => ?_
  by_cases e : p.1 = n
  · simp [e]
  · simp [e]
theorem cStep_names (ks : List Int) (l : List (Nm × DF)) (i : Nat) (n : Nm) : (cStep ks l i n).map (·.1) = l.map (·.1) := by
  unfold cStep
  cases fGet n l with
  | none => rfl
  | some f => exact fSet_names _ _ _
theorem cFold_names (ks : List Int) : ∀ (pre : List Nm) (i : Nat) (l : List (Nm × DF)), (cFold ks i l pre).map (·.1) = l.map (·.1)
  | [], _, _ => rfl
  | n :: r, i, l => (cFold_names ks r (i + 1) _).trans (cStep_names ks l i n)
theorem fSort_of_names {α β : Type} {l : List (Nm × α)} {l' : List (Nm × β)} (h : l'.map (·.1) = l.map (·.1)) (hs : fSort l) : fSort l' := by
  have : (l'.map (·.1)).Pairwise fun a b => bytesBefore a b = true := by rw [h]; exact hs.names
  exact List.pairwise_map.1 this

theorem dKeep_le {f : DF} (h : f.s ≤ f.b.length) (k : Option Int) : dKeep f k ≤ f.b.length := by
  unfold dKeep
  cases k with
  | none => simpa using h
  | some v =>
    have := Nat.mod_lt v.toNat (show 0 < f.b.length - f.s + 1 by omega)
    simp only
    omega
theorem dCut_len {f : DF} (h : f.s ≤ f.b.length) (k : Option Int) : (dCut f k).b.length = dKeep f k := by
  unfold dCut
  simp only [List.length_take]
  have := dKeep_le h k
  omega
theorem cStep_mem {ks : List Int} {l : List (Nm × DF)} {i : Nat} {n : Nm} {p : Nm × DF} (hp : p ∈ cStep ks l i n) : p ∈ l ∨ ∃ f, (n, f) ∈ l ∧ p = (n, dCut f ks[i]?) := by
  unfold cStep at hp
  cases hg : fGet n l with
  | none => rw [hg] at hp; exact .inl hp
  | some f =>
    rw [hg] at hp
    rcases mem_fSet hp with h | ⟨h, _⟩
    · exact .inr ⟨f, fGet_mem hg, h⟩
    · exact .inl h
theorem cFold_synced (ks : List Int) : ∀ (pre : List Nm) (i : Nat) (l : List (Nm × DF)), (∀ p ∈ l, p.2.s ≤ p.2.b.length) → ∀ p ∈ cFold ks i l pre, p.2.s ≤ p.2.b.length
  | [], _, _, h => h
  | n :: r, i, l, h => cFold_synced ks r (i + 1) _ fun p hp => by
    rcases cStep_mem hp with h1 | ⟨f, hf, rfl⟩
    · exact h p h1
    · show (dCut f ks[i]?).s ≤ (dCut f ks[i]?).b.length
      rw [dCut_len (h _ hf)]
      exact Nat.le_refl _
theorem cFold_short (ks : List Int) (B : Nat) : ∀ (pre : List Nm) (i : Nat) (l : List (Nm × DF)), (∀ p ∈ l, p.2.b.length ≤ B) → ∀ p ∈ cFold ks i l pre, p.2.b.length ≤ B
  | [], _, _, h => h
  | n :: r, i, l, h => cFold_short ks B r (i + 1) _ fun p hp => by
    rcases cStep_mem hp with h1 | ⟨f, hf, rfl⟩
    · exact h p h1
    · show (dCut f ks[i]?).b.length ≤ B
      have := h _ hf
      simp only [dCut, List.length_take] at *
      omega
theorem fSet_at {v : DF} {p : Nm × DF} {r done : List (Nm × DF)} (hs : fSort (done ++ p :: r)) : fSet p.1 v (done ++ p :: r) = done ++ (p.1, v) :: r := by
  have hne : ∀ q ∈ done ++ r, q.1 ≠ p.1 := by
    have h := hs.ne_
    rw [List.pairwise_append] at h
    obtain ⟨_, h2, h3⟩ := h
    intro q hq
    rcases List.mem_append.1 hq with hq | hq
    · exact h3 q hq p (by simp)
    · exact fun e => (List.pairwise_cons.1 h2).1 q hq e.symm
  unfold fSet
  rw [List.map_append, List.map_cons]
  have e : ∀ (m : List (Nm × DF)), (∀ q ∈ m, q.1 ≠ p.1) → (m.map fun q => if (q.1 == p.1) = true then (p.1, v) else q) = m := by
    intro m hm
    refine (List.map_congr_left fun q hq => ?_).trans (List.map_id m)
    rw [if_neg (by simpa using hm q hq)]
    rfl
  rw [e done fun q hq => hne q (by simp [hq]), e r fun q hq => hne q (by simp [hq])]
  simp
theorem cFold_all (ks : List Int) : ∀ (rest done : List (Nm × DF)) (i : Nat), fSort (done ++ rest) → cFold ks i (done ++ rest) (rest.map (·.1)) = done ++ dCrashL rest (ks.drop i)
  | [], done, i, _ => by simp [cFold, dCrashL]
  | p :: r, done, i, hs => by
    have hg : fGet p.1 (done ++ p :: r) = some p.2 := fGet_of_mem hs (by simp)
    have hst : cStep ks (done ++ p :: r) i p.1 = (done ++ [(p.1, dCut p.2 ks[i]?)]) ++ r := by
      unfold cStep
      rw [hg]
      simp only
      rw [fSet_at hs]
      simp
    show cFold ks (i + 1) (cStep ks (done ++ p :: r) i p.1) (r.map (·.1)) = _
    rw [hst]
    have hs' : fSort ((done ++ [(p.1, dCut p.2 ks[i]?)]) ++ r) := fSort_of_names (by simp) hs
    rw [cFold_all ks r _ (i + 1) hs']
    simp only [List.append_assoc, List.singleton_append, dCrashL, List.head?_drop, List.tail_drop]
/-- A crash: all names, in their order. -/
theorem cFold_crash {l : List (Nm × DF)} (hs : fSort l) (ks : List Int) : cFold ks 0 l (l.map (·.1)) = dCrashL l ks := by
  have := cFold_all ks l [] 0 hs
  simpa using this
end Go.Proofs.Ytbkenickmiapdaa
