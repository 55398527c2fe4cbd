/- DERIVED. The contracts of package epoch over the words 'Ep': what a call answers, and what becomes of the epochs. -/
import Derived.Test.YtpdifebbbolheaaEpl
namespace Go.Proofs.Ytpdifebbbolheaa
set_option linter.unusedVariables false
set_option linter.unusedSimpArgs false
open Go.RowKit

/-- Behind a call: its answer, and the epochs. Nothing but their own blocks, and new ones, has turned. -/
def EpPost (w : World) (S : Foot) (b : Nat) (r : Value) (now : Int) (ws : List (Option Int)) (e : Ending) (w' : World) : Prop :=
  e = .returned r ∧ ∃ S' : Foot, Ep w' S' b now ws ∧ Mod S w w' ∧ ∀ k, S' k → S k ∨ w.heap.size ≤ k

theorem EpPost.same {w w' : World} {S : Foot} {b : Nat} {r : Value} {now : Int} {ws : List (Option Int)} {e : Ending} (h : Ep w S b now ws) (he : e = .returned r) (hw : ∃ n, w' = w.drewN n) : EpPost w S b r now ws e w' := by
  obtain ⟨n, rfl⟩ := hw
  exact ⟨he, S, h.drewN n, (Mod.refl S w).drewN n, fun k hk => .inl hk⟩

theorem epAt_of {ws : List (Option Int)} {k : Nat} {x : Option Int} (h : ws[k]? = some x) : epAt ws k = x := by
  have hk : k < ws.length := (List.getElem?_eq_some_iff.1 h).1
  unfold epAt epIs
  rw [if_pos (by simp; omega)]
  simp [h]
theorem epIs_yes {ws : List (Option Int)} {k : Nat} (h : k < ws.length) : epIs ws k = true := by unfold epIs; simp; omega

theorem ep_none_of {w : World} {S : Foot} {b sb : Nat} {ps : List (Option Nat)} {now : Int} {ws : List (Option Int)} (h : EpAt w S b sb ps now ws) {k : Nat} (hk : k < ws.length) :
    (ws[k]? = some none ∧ w.cell? ⟨sb, k, none⟩ = some (.pointer none)) ∨ ∃ p a, ps[k]? = some (some p) ∧ ws[k]? = some (some a) ∧ w.cell? ⟨sb, k, none⟩ = some (.pointer (some ⟨p, 0, none⟩)) ∧ w.cell? ⟨p, 0, none⟩ = some (.int .u32 a) := by
  have hr : w.cell? ⟨sb, k, none⟩ = ((ps.map epPtr).toArray)[k]? := h.row.cell k
  have hkp : k < ps.length := by rw [h.len]; exact hk
  obtain ⟨q, hq⟩ : ∃ q, ps[k]? = some q := ⟨_, List.getElem?_eq_getElem hkp⟩
  have hr2 : w.cell? ⟨sb, k, none⟩ = some (epPtr q) := by rw [hr]; simp [hq]
  cases q with
  | none => exact .inl ⟨h.none_ k hq, hr2⟩
  | some p =>
    obtain ⟨a, ha, _, hblk⟩ := h.some_ k p hq
    exact .inr ⟨p, a, hq, ha, hr2, hblk.cell 0⟩

/-- Block sb's cell k is set to another pointer. -/
theorem ep_set {ps : List (Option Nat)} {k : Nat} {q : Option Nat} {v : Value} (hv : v = epPtr q) : ((ps.map epPtr).toArray.setIfInBounds k v) = ((ps.set k q).map epPtr).toArray := by
  subst hv
  simp [List.map_set]

theorem EpAt.set_none {w : World} {S : Foot} {b sb : Nat} {ps : List (Option Nat)} {now : Int} {ws : List (Option Int)} (h : EpAt w S b sb ps now ws) (k : Nat) :
    EpAt (w.setCell ⟨sb, k, none⟩ (.pointer none)) S b sb (ps.set k none) now (ws.set k none) := by
  have hne : b ≠ sb := h.head.ne_ h.row (by decide)
  refine ⟨fun j hj => by simpa using h.lt j hj, h.sb_in, h.b_in, ?_, ?_, by simp [h.len], ?_, ?_⟩
  · have := h.head.far (p := ⟨sb, k, none⟩) hne (.pointer none); simpa using this
  · have := h.row.set_ k (.pointer none); rwa [ep_set (q := none) (v := .pointer none) rfl] at this
  · intro i p hp
    rw [List.getElem?_set] at hp
    split at hp
    · split at hp <;> cases hp
    · rename_i hki
      obtain ⟨a, ha, hs, hblk⟩ := h.some_ i p hp
      exact ⟨a, by rw [List.getElem?_set, if_neg hki]; exact ha, hs, hblk.far (p := ⟨sb, k, none⟩) (hblk.ne_ h.row (by decide)) _⟩
  · intro i hi
    rw [List.getElem?_set] at hi ⊢
    split at hi
    · rename_i hki
      rw [if_pos hki]
      split at hi
      · rename_i hl
        rw [if_pos (by rw [← h.len]; exact hl)]
      · cases hi
    · rename_i hki
      rw [if_neg hki]
      exact h.none_ i hi

theorem EpAt.set_some {w : World} {S : Foot} {b sb : Nat} {ps : List (Option Nat)} {now : Int} {ws : List (Option Int)} (h : EpAt w S b sb ps now ws) (k : Nat) :
    EpAt ((w.setCell ⟨sb, k, none⟩ (.pointer (some ⟨w.heap.size, 0, none⟩))).alloc (.cells #[.int .u32 now] 22)) (fun j => S j ∨ j = w.heap.size) b sb (ps.set k (some w.heap.size)) now (ws.set k (some now)) := by
  have hne : b ≠ sb := h.head.ne_ h.row (by decide)
  have hsz : (w.setCell ⟨sb, k, none⟩ (.pointer (some ⟨w.heap.size, 0, none⟩))).heap.size = w.heap.size := by simp
  refine ⟨?_, .inl h.sb_in, .inl h.b_in, ?_, ?_, by simp [h.len], ?_, ?_⟩
  · intro j hj
    simp only [World.size_alloc, hsz]
    rcases hj with hj | rfl
    · have := h.lt j hj; omega
    · omega
  · have := (h.head.far (p := ⟨sb, k, none⟩) hne (.pointer (some ⟨w.heap.size, 0, none⟩))).alloc (.cells #[.int .u32 now] 22); simpa using this
  · have := (h.row.set_ k (.pointer (some ⟨w.heap.size, 0, none⟩))).alloc (.cells #[.int .u32 now] 22); rwa [ep_set (q := some w.heap.size) (v := .pointer (some ⟨w.heap.size, 0, none⟩)) rfl] at this
  · intro i p hp
    rw [List.getElem?_set] at hp
    split at hp
    · rename_i hki
      split at hp
      · rename_i hl
        injection hp with hp; injection hp with hp; subst hp
        refine ⟨now, ?_, .inr rfl, ?_⟩
        · rw [List.getElem?_set, if_pos hki, if_pos (by rw [← h.len]; exact hl)]
        · have := Blk.new (w.setCell ⟨sb, k, none⟩ (.pointer (some ⟨w.heap.size, 0, none⟩))) 22 #[.int .u32 now]; rwa [hsz] at this
      · cases hp
    · rename_i hki
      obtain ⟨a, ha, hs, hblk⟩ := h.some_ i p hp
      exact ⟨a, by rw [List.getElem?_set, if_neg hki]; exact ha, .inl hs, (hblk.far (p := ⟨sb, k, none⟩) (hblk.ne_ h.row (by decide)) _).alloc _⟩
  · intro i hi
    rw [List.getElem?_set] at hi ⊢
    split at hi
    · split at hi <;> cases hi
    · rename_i hki
      rw [if_neg hki]
      exact h.none_ i hi

section
variable {w : World} {S : Foot} {b : Nat} {now : Int} {ws : List (Option Int)}

theorem Ep.now_ (h : Ep w S b now ws) : Calls Try.prog 12 #[.pointer (some ⟨b, 0, none⟩)] w fun e w' => e = .returned (.int .u32 now) ∧ w' = w := by
  obtain ⟨sb, ps, h⟩ := h
  exact ep_now b now w (h.head.cell 0)

theorem Ep.safe_ (h : Ep w S b now ws) (ok : EpOk now ws) : Calls Try.prog 13 #[.pointer (some ⟨b, 0, none⟩)] w fun e w' => e = .returned (.int .u32 (epSafe now ws)) ∧ w' = w := by
  obtain ⟨sb, ps, h⟩ := h
  exact ep_safe w S b sb ps now ws h ok.len ok.least_ge (by have := epLeast_le now ws; have := ok.hi; omega)

theorem Ep.in_ (h : Ep w S b now ws) (hn : ws.length ≤ 8) (k : Int) (hk0 : -9223372036854775808 ≤ k) (hk1 : k ≤ 9223372036854775807) :
    Calls Try.prog 18 #[.pointer (some ⟨b, 0, none⟩), .int .i64 k] w fun e w' => e = .returned (.tuple #[.int .u32 ((epAt ws k).getD 0), .bool (epAt ws k).isSome]) ∧ w' = w := by
  obtain ⟨sb, ps, h⟩ := h
  by_cases hk : 0 ≤ k ∧ k < ws.length
  · obtain ⟨m, rfl⟩ := Int.eq_ofNat_of_zero_le hk.1
    have hm : m < ws.length := by omega
    rcases ep_none_of h hm with ⟨h1, h2⟩ | ⟨p, a, _, h1, h2, h3⟩
    · rw [epAt_of h1]; exact ep_in_out b ws.length m sb w hn hm (h.head.cell 1) h2
    · rw [epAt_of h1]; exact ep_in_yes b ws.length m p sb a w hn hm (h.head.cell 1) h2 h3
  · have : epAt ws k = none := by unfold epAt epIs; rw [if_neg (by simpa using hk)]
    rw [this]
    exact ep_in_no b ws.length k _ w hn hk0 hk1 hk (h.head.cell 1)

theorem Ep.leave_ (h : Ep w S b now ws) (hn : ws.length ≤ 8) (k : Int) (hk0 : -9223372036854775808 ≤ k) (hk1 : k ≤ 9223372036854775807) :
    Calls Try.prog 10 #[.pointer (some ⟨b, 0, none⟩), .int .i64 k] w (EpPost w S b (.int .i64 (epLeaveE ws k)) now (epLeave ws k)) := by
  obtain ⟨sb, ps, h⟩ := h
  by_cases hk : 0 ≤ k ∧ k < ws.length
  · obtain ⟨m, rfl⟩ := Int.eq_ofNat_of_zero_le hk.1
    have hm : m < ws.length := by omega
    rcases ep_none_of h hm with ⟨h1, h2⟩ | ⟨p, a, _, h1, h2, h3⟩
    · have e1 : epLeaveE ws m = 10 := by unfold epLeaveE; rw [epIs_yes hm, epAt_of h1]; rfl
      have e2 : epLeave ws m = ws := by
        unfold epLeave; rw [epIs_yes hm]
        apply List.ext_getElem? ; intro i
        show (ws.set m none)[i]? = _
        rw [List.getElem?_set]
        split
        · rename_i hi; subst hi; first | exact h1.symm | (rw [if_pos hm, h1])
        · rfl
      rw [e1, e2]
      exact (ep_leave_out b ws.length m sb w hn hm (h.head.cell 1) h2).mono fun e w' ⟨he, hw⟩ => EpPost.same ⟨sb, ps, h⟩ he ⟨0, hw⟩
    · have e1 : epLeaveE ws m = 0 := by unfold epLeaveE; rw [epIs_yes hm, epAt_of h1]; rfl
      have e2 : epLeave ws m = ws.set m none := by unfold epLeave; rw [epIs_yes hm]; rfl
      rw [e1, e2]
      refine (ep_leave_yes b ws.length m p sb w hn hm (h.head.cell 1) h2 (h.row.frozen m)).mono fun e w' ⟨he, hw⟩ => ?_
      subst hw
      exact ⟨he, S, ⟨sb, _, h.set_none m⟩, (Mod.refl S w).setCell (.inl h.sb_in) _, fun k hk => .inl hk⟩
  · have hi : epIs ws k = false := by unfold epIs; simpa using hk
    have e1 : epLeaveE ws k = 1 := by unfold epLeaveE; rw [hi]; rfl
    have e2 : epLeave ws k = ws := by unfold epLeave; rw [hi]; rfl
    rw [e1, e2]
    exact (ep_leave_no b ws.length k _ w hn hk0 hk1 hk (h.head.cell 1)).mono fun e w' ⟨he, hw⟩ => EpPost.same ⟨sb, ps, h⟩ he ⟨0, hw⟩

theorem Ep.enter_ (h : Ep w S b now ws) (hn : ws.length ≤ 8) (k : Int) (hk0 : -9223372036854775808 ≤ k) (hk1 : k ≤ 9223372036854775807) :
    Calls Try.prog 9 #[.pointer (some ⟨b, 0, none⟩), .int .i64 k] w (EpPost w S b (.tuple #[.int .u32 (epEnterN now ws k), .int .i64 (epEnterE ws k)]) now (epEnter now ws k)) := by
  obtain ⟨sb, ps, h⟩ := h
  by_cases hk : 0 ≤ k ∧ k < ws.length
  · obtain ⟨m, rfl⟩ := Int.eq_ofNat_of_zero_le hk.1
    have hm : m < ws.length := by omega
    rcases ep_none_of h hm with ⟨h1, h2⟩ | ⟨p, a, _, h1, h2, h3⟩
    · have e1 : epEnterN now ws m = now := by unfold epEnterN; rw [epIs_yes hm, epAt_of h1]; rfl
      have e2 : epEnterE ws m = 0 := by unfold epEnterE; rw [epIs_yes hm, epAt_of h1]; rfl
      have e3 : epEnter now ws m = ws.set m (some now) := by unfold epEnter; rw [epIs_yes hm, epAt_of h1]; rfl
      rw [e1, e2, e3]
      refine (ep_enter_yes b ws.length m sb now w hn hm (h.head.cell 0) (h.head.cell 1) h2 (h.row.frozen) h.head.lt h.row.lt).mono fun e w' ⟨he, hw⟩ => ?_
      subst hw
      exact ⟨he, _, ⟨sb, _, h.set_some m⟩, ((Mod.refl S w).setCell (.inl h.sb_in) _).alloc _, fun k hk => by
        rcases hk with hk | rfl
        · exact .inl hk
        · exact .inr (Nat.le_refl _)⟩
    · have e1 : epEnterN now ws m = 0 := by unfold epEnterN; rw [epIs_yes hm, epAt_of h1]; rfl
      have e2 : epEnterE ws m = 10 := by unfold epEnterE; rw [epIs_yes hm, epAt_of h1]; rfl
      have e3 : epEnter now ws m = ws := by unfold epEnter; rw [epIs_yes hm, epAt_of h1]; rfl
      rw [e1, e2, e3]
      exact (ep_enter_in b ws.length m p sb w hn hm (h.head.cell 1) h2).mono fun e w' ⟨he, hw⟩ => EpPost.same ⟨sb, ps, h⟩ he ⟨0, hw⟩
  · have hi : epIs ws k = false := by unfold epIs; simpa using hk
    have e1 : epEnterN now ws k = 0 := by unfold epEnterN; rw [hi]; rfl
    have e2 : epEnterE ws k = 1 := by unfold epEnterE; rw [hi]; rfl
    have e3 : epEnter now ws k = ws := by unfold epEnter; rw [hi]; rfl
    rw [e1, e2, e3]
    exact (ep_enter_no b ws.length k _ w hn hk0 hk1 hk (h.head.cell 1)).mono fun e w' ⟨he, hw⟩ => EpPost.same ⟨sb, ps, h⟩ he ⟨0, hw⟩

theorem Ep.advance_ (h : Ep w S b now ws) (ok : EpOk now ws) :
    Calls Try.prog 11 #[.pointer (some ⟨b, 0, none⟩)] w (EpPost w S b (.bool (epMay now ws)) (epAdvance now ws) ws) := by
  obtain ⟨sb, ps, h⟩ := h
  cases hm : epMay now ws with
  | false =>
    have e1 : epAdvance now ws = now := by unfold epAdvance; rw [hm]; rfl
    rw [e1]
    exact (ep_advance_no w S b sb ps now ws h ok.len hm).mono fun e w' ⟨he, hw⟩ => EpPost.same ⟨sb, ps, h⟩ he hw
  | true =>
    have e1 : epAdvance now ws = now + 1 := by unfold epAdvance; rw [hm]; rfl
    rw [e1]
    refine (ep_advance_yes w S b sb ps now ws h ok.len hm ok.lo ok.hi).mono fun e w' ⟨he, n, hw⟩ => ?_
    subst hw
    have hne : b ≠ sb := h.head.ne_ h.row (by decide)
    refine ⟨he, S, ⟨sb, ps, ?_⟩, ((Mod.refl S w).drewN n).setCell (.inl h.b_in) _, fun k hk => .inl hk⟩
    refine ⟨fun j hj => by simpa using h.lt j hj, h.sb_in, h.b_in, ?_, h.row.far (w := w.drewN n) (p := ⟨b, 0, none⟩) hne.symm _, h.len, ?_, h.none_⟩
    · have := (h.head.drewN n).set_ 0 (.int .u32 (now + 1)); simpa using this
    · intro i p hp
      obtain ⟨a, ha, hs, hblk⟩ := h.some_ i p hp
      exact ⟨a, ha, hs, hblk.far (w := w.drewN n) (p := ⟨b, 0, none⟩) (hblk.ne_ h.head (by decide)) _⟩
end

/-- New: the epochs lie in two new blocks. -/
theorem ep_new (w : World) (n : Nat) (t : Int) (h1 : 1 ≤ n) (h8 : n ≤ 8) (ht : 1 ≤ t) :
    Calls Try.prog 8 #[.int .i64 n, .int .u32 t] w (EpPost w Foot.none (w.heap.size + 1) (.tuple #[.pointer (some ⟨w.heap.size + 1, 0, none⟩), .int .i64 0]) t (List.replicate n none)) := by
  refine (ep_new_yes n t w h1 h8 ht).mono fun e w' ⟨he, hw⟩ => ?_
  subst hw
  refine ⟨he, fun k => k = w.heap.size ∨ k = w.heap.size + 1, ⟨w.heap.size, List.replicate n none, ?_⟩, ((Mod.refl _ w).alloc _).alloc _, fun k hk => by omega⟩
  refine ⟨fun k hk => by simp; omega, .inl rfl, .inr rfl, ?_, ?_, by simp, ?_, ?_⟩
  · have := Blk.new (w.alloc (.cells (madeCells #[.pointer none] n) 50)) 48 #[.int .u32 t, .slice (some ⟨w.heap.size, 0, none⟩) n n]
    simpa using this
  · have := (Blk.new w 50 (madeCells #[.pointer none] n)).alloc (.cells #[.int .u32 t, .slice (some ⟨w.heap.size, 0, none⟩) n n] 48)
    rw [made_one] at this
    rw [made_one]
    simpa [epPtr] using this
  · intro i p hp
    simp only [List.getElem?_replicate] at hp
    split at hp <;> cases hp
  · intro i hi
    rw [List.getElem?_replicate] at hi ⊢
    split at hi
    · rename_i hl; rw [if_pos hl]
    · cases hi
end Go.Proofs.Ytpdifebbbolheaa
