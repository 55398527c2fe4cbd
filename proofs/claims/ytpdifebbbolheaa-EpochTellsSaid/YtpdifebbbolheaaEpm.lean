/- DERIVED. The plain law on epochs: what the methods of package epoch compute, on numbers and lists alone. -/
namespace Go.Proofs.Ytpdifebbbolheaa
set_option linter.unusedVariables false
set_option linter.unusedSimpArgs false

/-- Is there such a worker? -/
def epIs (ws : List (Option Int)) (k : Int) : Bool := decide (0 ≤ k ∧ k < ws.length)
def epAt (ws : List (Option Int)) (k : Int) : Option Int := if epIs ws k then (ws[k.toNat]?).getD none else none
def epEnter (now : Int) (ws : List (Option Int)) (k : Int) : List (Option Int) := if epIs ws k then (match epAt ws k with | some _ => ws | none => ws.set k.toNat (some now)) else ws
def epEnterN (now : Int) (ws : List (Option Int)) (k : Int) : Int := if epIs ws k then (match epAt ws k with | some _ => 0 | none => now) else 0
def epEnterE (ws : List (Option Int)) (k : Int) : Int := if epIs ws k then (match epAt ws k with | some _ => 10 | none => 0) else 1
def epLeave (ws : List (Option Int)) (k : Int) : List (Option Int) := if epIs ws k then ws.set k.toNat none else ws
def epLeaveE (ws : List (Option Int)) (k : Int) : Int := if epIs ws k then (match epAt ws k with | some _ => 0 | none => 10) else 1
def epStep (n : Int) (x : Option Int) : Int := match x with | some a => (if a < n then a else n) | none => n
def epLeast (now : Int) (ws : List (Option Int)) : Int := ws.foldl epStep now
def epMay (now : Int) (ws : List (Option Int)) : Bool := decide (now ≤ epLeast now ws ∧ now ≠ 4294967295)
def epAdvance (now : Int) (ws : List (Option Int)) : Int := if epMay now ws then now + 1 else now
def epSafe (now : Int) (ws : List (Option Int)) : Int := epLeast now ws - 1

theorem epStep_le (n : Int) (x : Option Int) : epStep n x ≤ n := by
  cases x with
  | none => exact Int.le_refl _
  | some a => simp only [epStep]; split <;> omega
theorem epFold_le (ws : List (Option Int)) : ∀ n, ws.foldl epStep n ≤ n := by
  induction ws with
  | nil => intro n; exact Int.le_refl _
  | cons x xs ih => intro n; exact Int.le_trans (ih _) (epStep_le n x)
theorem epFold_ge (ws : List (Option Int)) (b : Int) (hw : ∀ a, some a ∈ ws → b ≤ a) : ∀ n, b ≤ n → b ≤ ws.foldl epStep n := by
  induction ws with
  | nil => intro n h; exact h
  | cons x xs ih =>
    intro n h
    refine ih (fun a ha => hw a (List.mem_cons_of_mem _ ha)) _ ?_
    cases x with
    | none => exact h
    | some a => have := hw a (by simp); simp only [epStep]; split <;> omega
theorem epFold_mem (ws : List (Option Int)) (a : Int) (ha : some a ∈ ws) : ∀ n, ws.foldl epStep n ≤ a := by
  induction ws with
  | nil => cases ha
  | cons x xs ih =>
    intro n
    rcases List.mem_cons.1 ha with rfl | h
    · refine Int.le_trans (epFold_le xs _) ?_
      simp only [epStep]; split <;> omega
    · exact ih h _
theorem epLeast_le (now : Int) (ws : List (Option Int)) : epLeast now ws ≤ now := epFold_le ws now

/-- Numbers that a worker's epoch may be. -/
structure EpOk (now : Int) (ws : List (Option Int)) : Prop where
  lo : 1 ≤ now
  hi : now ≤ 4294967295
  len : ws.length ≤ 8
  at_lo : ∀ a, some a ∈ ws → 1 ≤ a
  at_near : ∀ a, some a ∈ ws → now - 1 ≤ a
  at_hi : ∀ a, some a ∈ ws → a ≤ now

theorem EpOk.least_ge {now : Int} {ws : List (Option Int)} (h : EpOk now ws) : 1 ≤ epLeast now ws := epFold_ge ws 1 h.at_lo now h.lo
theorem EpOk.least_near {now : Int} {ws : List (Option Int)} (h : EpOk now ws) : now - 1 ≤ epLeast now ws := epFold_ge ws _ h.at_near now (by omega)

theorem epAt_mem {ws : List (Option Int)} {k a : Int} (h : epAt ws k = some a) : some a ∈ ws := by
  unfold epAt at h
  split at h
  · cases hx : ws[k.toNat]? with
    | none => rw [hx] at h; cases h
    | some x => rw [hx] at h; simp at h; subst h; exact List.mem_of_getElem? hx
  · cases h

theorem epEnter_len (now : Int) (ws : List (Option Int)) (k : Int) : (epEnter now ws k).length = ws.length := by
  unfold epEnter; split
  · split <;> simp
  · rfl
theorem epLeave_len (ws : List (Option Int)) (k : Int) : (epLeave ws k).length = ws.length := by
  unfold epLeave; split <;> simp

theorem epAdvance_le (now : Int) (ws : List (Option Int)) : epAdvance now ws ≤ now + 1 := by
  unfold epAdvance; split <;> omega
theorem EpOk.enter {now : Int} {ws : List (Option Int)} (h : EpOk now ws) (k : Int) : EpOk now (epEnter now ws k) := by
  have hmem : ∀ a, some a ∈ epEnter now ws k → a = now ∨ some a ∈ ws := by
    intro a ha
    unfold epEnter at ha
    split at ha
    · split at ha
      · exact .inr ha
      · rcases List.mem_or_eq_of_mem_set ha with h1 | h1
        · exact .inr h1
        · exact .inl (by simpa using h1)
    · exact .inr ha
  refine ⟨h.lo, h.hi, by rw [epEnter_len]; exact h.len, ?_, ?_, ?_⟩ <;> intro a ha <;> rcases hmem a ha with rfl | h1
  · exact h.lo
  · exact h.at_lo a h1
  · omega
  · exact h.at_near a h1
  · omega
  · exact h.at_hi a h1
theorem EpOk.leave {now : Int} {ws : List (Option Int)} (h : EpOk now ws) (k : Int) : EpOk now (epLeave ws k) := by
  have hmem : ∀ a, some a ∈ epLeave ws k → some a ∈ ws := by
    intro a ha
    unfold epLeave at ha
    split at ha
    · rcases List.mem_or_eq_of_mem_set ha with h1 | h1
      · exact h1
      · cases h1
    · exact ha
  exact ⟨h.lo, h.hi, by rw [epLeave_len]; exact h.len, fun a ha => h.at_lo a (hmem a ha), fun a ha => h.at_near a (hmem a ha), fun a ha => h.at_hi a (hmem a ha)⟩
theorem EpOk.advance {now : Int} {ws : List (Option Int)} (h : EpOk now ws) : EpOk (epAdvance now ws) ws := by
  have h0 := h.lo
  have h1 := h.hi
  unfold epAdvance
  split
  · rename_i hm
    simp only [epMay, decide_eq_true_eq] at hm
    refine ⟨by omega, by omega, h.len, h.at_lo, fun a ha => ?_, fun a ha => ?_⟩
    · have := epFold_mem ws a ha now; unfold epLeast at hm; omega
    · have := h.at_hi a ha; omega
  · exact h

theorem epLeast_ge {now b : Int} {ws : List (Option Int)} (h0 : b ≤ now) (h : ∀ a, some a ∈ ws → b ≤ a) : b ≤ epLeast now ws := epFold_ge ws b h now h0
theorem epLeast_mem {now a : Int} {ws : List (Option Int)} (h : some a ∈ ws) : epLeast now ws ≤ a := epFold_mem ws a h now
theorem mem_enter {now : Int} {ws : List (Option Int)} {k a : Int} (ha : some a ∈ epEnter now ws k) : a = now ∨ some a ∈ ws := by
  unfold epEnter at ha
  split at ha
  · split at ha
    · exact .inr ha
    · rcases List.mem_or_eq_of_mem_set ha with h1 | h1
      · exact .inr h1
      · exact .inl (by simpa using h1)
  · exact .inr ha
theorem mem_leave {ws : List (Option Int)} {k a : Int} (ha : some a ∈ epLeave ws k) : some a ∈ ws := by
  unfold epLeave at ha
  split at ha
  · rcases List.mem_or_eq_of_mem_set ha with h1 | h1
    · exact h1
    · cases h1
  · exact ha
theorem epSafe_enter (now : Int) (ws : List (Option Int)) (k : Int) : epSafe now ws ≤ epSafe now (epEnter now ws k) := by
  have : epLeast now ws ≤ epLeast now (epEnter now ws k) := epLeast_ge (epLeast_le now ws) fun a ha => by
    rcases mem_enter ha with rfl | h
    · exact epLeast_le a ws
    · exact epLeast_mem h
  unfold epSafe; omega
theorem epSafe_leave (now : Int) (ws : List (Option Int)) (k : Int) : epSafe now ws ≤ epSafe now (epLeave ws k) := by
  have : epLeast now ws ≤ epLeast now (epLeave ws k) := epLeast_ge (epLeast_le now ws) fun a ha => epLeast_mem (mem_leave ha)
  unfold epSafe; omega
theorem epSafe_advance (now : Int) (ws : List (Option Int)) : epSafe now ws ≤ epSafe (epAdvance now ws) ws := by
  have h1 := epLeast_le now ws
  have : epLeast now ws ≤ epLeast (epAdvance now ws) ws := epLeast_ge (by unfold epAdvance; split <;> omega) fun a ha => epLeast_mem ha
  unfold epSafe; omega
end Go.Proofs.Ytpdifebbbolheaa
