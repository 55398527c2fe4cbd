/- DERIVED. 'tidemarklaw03.DiskPlays' returns true at every input. -/
import Derived.Test.YtbkenickmiapdaaSame
namespace Go.Proofs.Ytbkenickmiapdaa
set_option linter.unusedVariables false
set_option linter.unusedSimpArgs false
open Go.RowKit

/-- A step among those that came in. -/
theorem step_at {w : World} {A : Option Addr} {l : List StepV} {c : Nat} (h : (kSl kStep 5).is w ⟨A, l, c⟩ [(⟨A, l, c⟩ : Sl StepV).val]) {k : Nat} (hk : k < l.length) :
    ∃ g o, A = some ⟨g, o, none⟩ ∧ g < w.heap.size ∧ l[k].Ok w ∧ w.cell? ⟨g, o + k * 5, none⟩ = some (.int .i64 l[k].kind) ∧ w.cell? ⟨g, o + k * 5 + 1, none⟩ = some (.string ⟨l[k].a.toArray⟩) ∧
      w.cell? ⟨g, o + k * 5 + 2, none⟩ = some (.string ⟨l[k].b.toArray⟩) ∧ w.cell? ⟨g, o + k * 5 + 3, none⟩ = some l[k].data.val ∧ w.cell? ⟨g, o + k * 5 + 4, none⟩ = some l[k].keep.val := by
  obtain ⟨g, o, h1, h2, ds, h3, ⟨h4, h5⟩, h6⟩ := h.2.2.2.2.2 k hk
  simp only at h1 h4 h5
  rw [h4] at h6
  refine ⟨g, o, h1, h2, h5, ?_, ?_, ?_, ?_, ?_⟩
  · have := h6 0 _ rfl; rwa [show o + (k * 5 + 0) = o + k * 5 by omega] at this
  · have := h6 1 _ rfl; rwa [show o + (k * 5 + 1) = o + k * 5 + 1 by omega] at this
  · have := h6 2 _ rfl; rwa [show o + (k * 5 + 2) = o + k * 5 + 2 by omega] at this
  · have := h6 3 _ rfl; rwa [show o + (k * 5 + 3) = o + k * 5 + 3 by omega] at this
  · have := h6 4 _ rfl; rwa [show o + (k * 5 + 4) = o + k * 5 + 4 by omega] at this

set_option maxRecDepth 100000 in
set_option maxHeartbeats 2000000 in
theorem plays_walk (lim : Int) (A : Option Addr) (l : List StepV) (c : Nat) (w : World) (hl0 : lim ≤ 9223372036854775807) (hl : (kSl kStep 5).is w ⟨A, l, c⟩ [(⟨A, l, c⟩ : Sl StepV).val]) :
    Calls Try.prog 8 #[.int .i64 lim, .slice A l.length c] w fun e w' => e = .returned (.bool true) ∧ Below w.heap.size w w' := by
  have hll : l.length ≤ 9223372036854775807 := by have := hl.2.1; have := hl.2.2.1; simp only [maxLen] at *; omega
  have HL := hide hl
  have HL0 := hide hl0
  clear hl hl0
  go_enter Try.func8, Try.ntmps8
  go_wp2_with fail
  refine (dk_shown w).mono ?_
  rintro e w1 ⟨rfl, hb1⟩
  have E : Env w w1 [] := .nil hb1
  clear hb1
  go_wp2_with fail
  refine (E.dk_new lim HL0.out).mono ?_
  rintro e w2 ⟨b1, rfl, E⟩
  go_wp2_with fail
  refine (E.rf_new lim HL0.out).mono ?_
  rintro e w3 ⟨b2, rfl, E⟩
  replace E := E.swap
  generalize (⟨if lim < 0 then 0 else lim, [], false⟩ : DS) = d0 at E
  go_wp2_with fail
  go_loopw [8] (fun i wr => ∃ (k : Nat) (d : DS), i = .int .i64 k ∧ k ≤ 100 ∧ Env w wr [dkO b1 d k (100 * k), rfO b2 d k (100 * k)]) (fun i _ => 100 - (intOf i).toNat)
  case atStart => exact ⟨0, d0, rfl, by omega, E⟩
  case round =>
    clear E
    obtain ⟨k, d, rfl, hk, E⟩ := hrel
    by_cases hkl : k < l.length
    · by_cases hk4 : k < 100
      · obtain ⟨g, o, hA, hgl, hok, q0, q1, q2, q3, q4⟩ := step_at HL.out hkl
        subst hA
        generalize l[k] = s at *
        obtain ⟨kind, a, b, ⟨Ad, ld, cd⟩, ⟨Ak, lk, ck⟩⟩ := s
        have r0 := (E.below.cell (p := ⟨g, o + k * 5, none⟩) hgl).trans q0
        have r1 := (E.below.cell (p := ⟨g, o + k * 5 + 1, none⟩) hgl).trans q1
        have r2 := (E.below.cell (p := ⟨g, o + k * 5 + 2, none⟩) hgl).trans q2
        have r3 : wr.cell? ⟨g, o + k * 5 + 3, none⟩ = some (.slice Ad ld.length cd) := (E.below.cell (p := ⟨g, o + k * 5 + 3, none⟩) hgl).trans q3
        have r4 : wr.cell? ⟨g, o + k * 5 + 4, none⟩ = some (.slice Ak lk.length ck) := (E.below.cell (p := ⟨g, o + k * 5 + 4, none⟩) hgl).trans q4
        have HOK := hide hok
        clear q0 q1 q2 q3 q4 hok
        go_wp2_with fail
        refine (does_walk HOK.out E (by omega) (by omega) (by omega) (by omega)).mono ?_
        rintro e w5 ⟨r, rfl, hr, E5⟩
        obtain rfl : r = true := hr rfl
        clear r0 r1 r2 r3 r4 hr E
        go_wp2_with fail
        refine (same_walk E5 (by omega) (by omega) (by omega) (by omega)).mono ?_
        rintro e w6 ⟨rfl, E6⟩
        clear E5
        go_wp2_with fail
        go_roundw
        case rel => exact ⟨k + 1, _, by go_num, by omega, E6⟩
        case measure => simp [intOf]; omega
      · go_wp2_with fail
        go_ret
        exact ⟨rfl, E.below⟩
    · go_wp2_with fail
      go_ret
      exact ⟨rfl, E.below⟩
-- ROW DiskPlays|tidemark/tidemarklaw03|plays_walk a0 A1 l1 c1 W b0.2 hs1|i64 int;sl []tidemarklaw03.Step opSteps
-- ROWPART
open Go.ChangeShapes Go.WideShapes Go.ChangeAt in
open Go.ChangeMaps (open_string) in
set_option maxRecDepth 100000 in
theorem diskPlays_lifted (os : Os) (started : os.Started) (H : Type) (enc : TypeId × Value → H) :
    ReturnsInHanded {} Try.checked os 8 .any (Rows.diskPlaysSpec.pre6 enc Try.prog Try.f8 Rows.diskPlaysRow.domain false) (Rows.diskPlaysSpec.post enc Try.prog Try.f8 false true false false) := by
  refine returnsInHanded_of_change (C := Try.checked) own started (by kernel_rfl) Try.func8
    (ChangeSpec.witness6 (enc := enc) (C := Try.checked) false ⟨#[], #[.int .i64 0, .slice none 0 0], []⟩ 8 (by kernel_rfl) (by kernel_rfl) (by kernel_rfl) (by kernel_rfl)) ?_
  intro W base args ds gs before hval0 hW _ _
  have hval : ∀ (j : Nat) t v, Try.f8.params[j]? = some t → args[j]? = some v → Value.okWide Try.prog W .any base t v := hval0
  have hW' := hW
  obtain ⟨p, q, hA0, hV, rfl, hfz, hnd⟩ := hW
  have hA : DataW.TrodAll enc Try.prog W 0 (fun _ => true) true Try.f8.params.toList args.toList ds p := hA0
  rw [Try.params8] at hA hval
  obtain ⟨v0, vs0, d0, ds0, p0, q0, hargs, rfl, rfl, h0, r0⟩ := trodAll_cons hA
  obtain ⟨v1, vs1, d1, ds1, p1, q1, rfl, rfl, rfl, h1, r1⟩ := trodAll_cons r0
  obtain ⟨rfl, rfl, rfl⟩ := trodAll_nil r1
  obtain rfl : args = #[v0, v1] := by cases args; simp_all
  obtain ⟨rfl, rfl⟩ := trodVars_none hV
  obtain ⟨a0, rfl, -, -, w0⟩ := open_int Try.underlying3 (hval 0 _ v0 rfl rfl) h0
  have b0 := bounds_i64 w0
  obtain ⟨⟨A1, l1, c1⟩, rfl, hs1⟩ := sl_of Try.underlying45 opSteps (hval 1 _ v1 rfl rfl) h1
  refine (plays_walk a0 A1 l1 c1 W b0.2 hs1).mono fun e W' ⟨he, hb⟩ => ?_
  subst he
  exact ⟨_, rfl, law_post (tb := 4) laidOut (params_ok _ (by kernel_rfl)) rfl rfl Try.underlying4 hW' rfl hb⟩

theorem diskPlays_over : Rows.diskPlaysRow.holds Try.pinned (OpenSpec.ofChange Rows.diskPlaysSpec) :=
  OpenClaim.holds_of_wide 8 Try.f8 rfl rfl rfl rfl rfl rfl rfl ⟨rfl, rfl, rfl, rfl, rfl⟩ rfl rfl rfl rfl rfl (by kernel_rfl) Try.func8 (by kernel_rfl)
    (of_decide_eq_true (by kernel_rfl)) (by unfold Func.isWrapper; first | (rw [if_pos (by decide +kernel)]; kernel_rfl) | (rw [if_neg (by decide +kernel)]; exact ⟨rfl, rfl⟩))
    (fun os started H enc _ => diskPlays_lifted os started H enc)

theorem diskPlays_holds : Rows.DiskPlaysSaid := diskPlays_over
end Go.Proofs.Ytbkenickmiapdaa
