/- DERIVED. 'tidemarklaw03.DiskDown' returns true at every input. -/
import Derived.Test.YtbkenickmiapdaaPlays
namespace Go.Proofs.Ytbkenickmiapdaa
set_option linter.unusedVariables false
set_option linter.unusedSimpArgs false
open Go.RowKit

theorem step_down {d : DS} (hd : d.down = true) (s : StepV) (h7 : s.kind ≠ 7) : dStep d s = d := by
  have hm : ∀ t n m, dMay d t n m = 7 := fun t n m => by unfold dMay; rw [hd]; rfl
  unfold dStep
  split
  · unfold dAppend dAppendE; rw [hm]; rfl
  split
  · unfold dSync; rw [hm]; rfl
  split
  · unfold dRename; rw [hm]; rfl
  split
  · unfold dDelete; rw [hm]; rfl
  split
  · unfold dCrash; rw [hd]; rfl
  rfl

set_option maxRecDepth 100000 in
set_option maxHeartbeats 2000000 in
theorem down_walk (A : Option Addr) (l : List StepV) (c : Nat) (A2 : Option Addr) (l2 : List StepV) (c2 : Nat) (w : World) (hl : (kSl kStep 5).is w ⟨A, l, c⟩ [(⟨A, l, c⟩ : Sl StepV).val]) (hl2 : (kSl kStep 5).is w ⟨A2, l2, c2⟩ [(⟨A2, l2, c2⟩ : Sl StepV).val]) :
    Calls Try.prog 11 #[.slice A l.length c, .slice A2 l2.length c2] w fun e w' => e = .returned (.bool true) ∧ Below w.heap.size w w' := by
  have hll : l.length ≤ 9223372036854775807 := by have := hl.2.1; have := hl.2.2.1; simp only [maxLen] at *; omega
  have hll2 : l2.length ≤ 9223372036854775807 := by have := hl2.2.1; have := hl2.2.2.1; simp only [maxLen] at *; omega
  have HL := hide hl
  have HL2 := hide hl2
  clear hl hl2
  go_enter Try.func11, Try.ntmps11
  go_wp2_with fail
  refine (dk_shown w).mono ?_
  rintro e w1 ⟨rfl, hb1⟩
  have E : Env w w1 [] := .nil hb1
  clear hb1
  go_wp2_with fail
  refine (E.dk_new 500 (by decide)).mono ?_
  rintro e w2 ⟨b1, rfl, E⟩
  go_wp2_with fail
  refine (E.rf_new 500 (by decide)).mono ?_
  rintro e w3 ⟨b2, rfl, E⟩
  replace E := E.swap
  generalize (⟨if (500 : Int) < 0 then 0 else 500, [], false⟩ : DS) = d0 at E
  go_upto_block 0 with (fail)
  go_cut [] (fun wr => ∃ d : DS, Env w wr [dkO b1 d 40 4000, rfO b2 d 40 4000])
  case first =>
    go_wp2_with fail
    go_loopw [8] (fun i wr => ∃ (k : Nat) (d : DS), i = .int .i64 k ∧ k ≤ 40 ∧ Env w wr [dkO b1 d k (100 * k), rfO b2 d k (100 * k)]) (fun i _ => 40 - (intOf i).toNat)
    case atStart => exact ⟨0, d0, rfl, by omega, E⟩
    case round =>
      clear E
      obtain ⟨k, d, rfl, hk, E⟩ := hrel
      by_cases hkl : k < l.length
      · by_cases hk4 : k < 40
        · obtain ⟨g, o, hA, hgl, hok, q0, q1, q2, q3, q4⟩ := step_at HL.out hkl
          subst hA
          generalize l[k] = s at *
          obtain ⟨kind, a, b, ⟨Ad, ld, cd⟩, ⟨Ak, lk, ck⟩⟩ := s
          have r0 := (E.below.cell (p := ⟨g, o + k * 5, none⟩) hgl).trans q0
          have r1 := (E.below.cell (p := ⟨g, o + k * 5 + 1, none⟩) hgl).trans q1
          have r2 := (E.below.cell (p := ⟨g, o + k * 5 + 2, none⟩) hgl).trans q2
          have r3 : wr.cell? ⟨g, o + k * 5 + 3, none⟩ = some (.slice Ad ld.length cd) := (E.below.cell (p := ⟨g, o + k * 5 + 3, none⟩) hgl).trans q3
          have r4 : wr.cell? ⟨g, o + k * 5 + 4, none⟩ = some (.slice Ak lk.length ck) := (E.below.cell (p := ⟨g, o + k * 5 + 4, none⟩) hgl).trans q4
          have HOK := hide hok
          clear q0 q1 q2 q3 q4 hok
          go_wp2_with fail
          refine (does_walk HOK.out E (by omega) (by omega) (by omega) (by omega)).mono ?_
          rintro e w5 ⟨r, rfl, hr, E5⟩
          clear r0 r1 r2 r3 r4 hr E
          go_wp2_with fail
          go_roundw
          case rel => exact ⟨k + 1, _, by go_num, by omega, E5⟩
          case measure => simp [intOf]; omega
        · go_wp2_with fail
          go_meet
          case rel => exact ⟨d, ((E.dk_mono (N' := 40) (U' := 4000) (by omega) (by omega)).swap.rf_mono (by omega) (by omega)).swap⟩
      · go_wp2_with fail
        go_meet
        case rel => exact ⟨d, ((E.dk_mono (N' := 40) (U' := 4000) (by omega) (by omega)).swap.rf_mono (by omega) (by omega)).swap⟩
  case rest =>
    clear E
    obtain ⟨d, E⟩ := hcut
    go_wp2_with fail
    refine (E.dk_crash_nil 0 (by decide) (by decide)).mono ?_
    rintro e w4 ⟨rfl, E4⟩
    go_wp2_with fail
    refine (E4.swap.rf_crash [] none 0 Reads.none_ (by simp) (fun j h => by cases h) (fun ad h => by cases h) (by decide) (by decide)).mono ?_
    rintro e w5 ⟨rfl, E5⟩
    obtain ⟨D, hD, hdn⟩ : ∃ D, dCrash d [] = D ∧ D.down = true := ⟨_, rfl, by unfold dCrash; split; assumption; rfl⟩
    rw [hD] at E5
    clear hD E4 E
    go_wp2_with fail
    refine (E5.rf_copy (by decide)).mono ?_
    rintro e w6 ⟨b3, rfl, E6⟩
    replace E6 : Env w w6 [dkO b1 D 40 4000, rfO b2 D 40 4000, rfO b3 D 40 4000] := ((E6.front 2 rfl).front 2 rfl).swap
    have HDN := hide hdn
    clear hdn E5
    go_upto_block 2 with (fail)
    go_cut [] (fun wr => Env w wr [dkO b1 D 80 8000, rfO b2 D 80 8000, rfO b3 D 40 4000])
    case first =>
      go_wp2_with fail
      go_loopw [10] (fun i wr => ∃ k : Nat, i = .int .i64 k ∧ k ≤ 40 ∧ Env w wr [dkO b1 D (40 + k) (4000 + 100 * k), rfO b2 D (40 + k) (4000 + 100 * k), rfO b3 D 40 4000]) (fun i _ => 40 - (intOf i).toNat)
      case atStart => exact ⟨0, rfl, by omega, E6⟩
      case round =>
        clear E6
        obtain ⟨k, rfl, hk, E⟩ := hrel
        by_cases hkl : k < l2.length
        · by_cases hk4 : k < 40
          · have kd := E.dk_down
            rw [HDN.out] at kd
            obtain ⟨g, o, hA, hgl, hok, q0, q1, q2, q3, q4⟩ := step_at HL2.out hkl
            subst hA
            generalize l2[k] = s at *
            by_cases h7 : s.kind = 7
            · have r0 := (E.below.cell (p := ⟨g, o + k * 5, none⟩) hgl).trans q0
              rw [h7] at r0
              clear q0 q1 q2 q3 q4 hok h7
              go_wp2_with fail
              refine kd.mono ?_
              rintro e w7 ⟨rfl, rfl⟩
              go_wp2_with fail
              have kl := E.dk_list (by omega)
              rw [show dList D = [] by unfold dList; rw [HDN.out]; rfl] at kl
              refine kl.mono ?_
              rintro e w8 ⟨A8, c8, rfl, E8⟩
              clear kl kd
              go_wp2_with fail
              go_roundw
              case rel => exact ⟨k + 1, by go_num, by omega, ((E8.drop.dk_mono (by omega) (by omega)).swap.rf_mono (by omega) (by omega)).swap⟩
              case measure => simp [intOf]; omega
            · have hst : dStep D s = D := step_down HDN.out s h7
              obtain ⟨kind, a, b, ⟨Ad, ld, cd⟩, ⟨Ak, lk, ck⟩⟩ := s
              have r0 := (E.below.cell (p := ⟨g, o + k * 5, none⟩) hgl).trans q0
              have r1 := (E.below.cell (p := ⟨g, o + k * 5 + 1, none⟩) hgl).trans q1
              have r2 := (E.below.cell (p := ⟨g, o + k * 5 + 2, none⟩) hgl).trans q2
              have r3 : wr.cell? ⟨g, o + k * 5 + 3, none⟩ = some (.slice Ad ld.length cd) := (E.below.cell (p := ⟨g, o + k * 5 + 3, none⟩) hgl).trans q3
              have r4 : wr.cell? ⟨g, o + k * 5 + 4, none⟩ = some (.slice Ak lk.length ck) := (E.below.cell (p := ⟨g, o + k * 5 + 4, none⟩) hgl).trans q4
              have k7 : (kind == 7) = false := by simpa using h7
              have k7b : (kind != 7) = true := by simpa using h7
              have HOK := hide hok
              have HST := hide hst
              clear q0 q1 q2 q3 q4 hok h7 hst kd
              go_wp2_with fail
              refine (does_walk HOK.out E (by omega) (by omega) (by omega) (by omega)).mono ?_
              rintro e w5 ⟨r, rfl, hr, E5⟩
              obtain rfl : r = true := hr rfl
              rw [HST.out] at E5
              clear r0 r1 r2 r3 r4 hr E
              have kd := E5.dk_down
              rw [HDN.out] at kd
              go_wp2_with fail
              refine kd.mono ?_
              rintro e w7 ⟨rfl, rfl⟩
              go_wp2_with fail
              have kl := E5.dk_list (by omega)
              rw [show dList D = [] by unfold dList; rw [HDN.out]; rfl] at kl
              refine kl.mono ?_
              rintro e w8 ⟨A8, c8, rfl, E8⟩
              clear kl kd E5
              go_wp2_with fail
              go_roundw
              case rel => exact ⟨k + 1, by go_num, by omega, ((E8.drop.dk_mono (by omega) (by omega)).swap.rf_mono (by omega) (by omega)).swap⟩
              case measure => simp [intOf]; omega
          · go_wp2_with fail
            go_meet
            case rel => exact ((E.dk_mono (by omega) (by omega)).swap.rf_mono (by omega) (by omega)).swap
        · go_wp2_with fail
          go_meet
          case rel => exact ((E.dk_mono (by omega) (by omega)).swap.rf_mono (by omega) (by omega)).swap
    case rest =>
      clear E6
      have E := hcut
      go_wp2_with fail
      refine E.dk_start.mono ?_
      rintro e w7 ⟨rfl, E7⟩
      go_wp2_with fail
      refine (E7.front 2 rfl).rf_start.mono ?_
      rintro e w8 ⟨rfl, E8⟩
      go_wp2_with fail
      refine (same_walk E8.swap (by omega) (by omega) (by omega) (by omega)).mono ?_
      rintro e w9 ⟨rfl, E9⟩
      go_wp2_with fail
      go_ret
      exact ⟨rfl, E9.below⟩
-- ROW DiskDown|tidemark/tidemarklaw03|down_walk A0 l0 c0 A1 l1 c1 W hs0 hs1|sl []tidemarklaw03.Step opSteps;sl []tidemarklaw03.Step opSteps
-- ROWPART
open Go.ChangeShapes Go.WideShapes Go.ChangeAt in
open Go.ChangeMaps (open_string) in
set_option maxRecDepth 100000 in
theorem diskDown_lifted (os : Os) (started : os.Started) (H : Type) (enc : TypeId × Value → H) :
    ReturnsInHanded {} Try.checked os 11 .any (Rows.diskDownSpec.pre6 enc Try.prog Try.f11 Rows.diskDownRow.domain false) (Rows.diskDownSpec.post enc Try.prog Try.f11 false true false false) := by
  refine returnsInHanded_of_change (C := Try.checked) own started (by kernel_rfl) Try.func11
    (ChangeSpec.witness6 (enc := enc) (C := Try.checked) false ⟨#[], #[.slice none 0 0, .slice none 0 0], []⟩ 8 (by kernel_rfl) (by kernel_rfl) (by kernel_rfl) (by kernel_rfl)) ?_
  intro W base args ds gs before hval0 hW _ _
  have hval : ∀ (j : Nat) t v, Try.f11.params[j]? = some t → args[j]? = some v → Value.okWide Try.prog W .any base t v := hval0
  have hW' := hW
  obtain ⟨p, q, hA0, hV, rfl, hfz, hnd⟩ := hW
  have hA : DataW.TrodAll enc Try.prog W 0 (fun _ => true) true Try.f11.params.toList args.toList ds p := hA0
  rw [Try.params11] at hA hval
  obtain ⟨v0, vs0, d0, ds0, p0, q0, hargs, rfl, rfl, h0, r0⟩ := trodAll_cons hA
  obtain ⟨v1, vs1, d1, ds1, p1, q1, rfl, rfl, rfl, h1, r1⟩ := trodAll_cons r0
  obtain ⟨rfl, rfl, rfl⟩ := trodAll_nil r1
  obtain rfl : args = #[v0, v1] := by cases args; simp_all
  obtain ⟨rfl, rfl⟩ := trodVars_none hV
  obtain ⟨⟨A0, l0, c0⟩, rfl, hs0⟩ := sl_of Try.underlying45 opSteps (hval 0 _ v0 rfl rfl) h0
  obtain ⟨⟨A1, l1, c1⟩, rfl, hs1⟩ := sl_of Try.underlying45 opSteps (hval 1 _ v1 rfl rfl) h1
  refine (down_walk A0 l0 c0 A1 l1 c1 W hs0 hs1).mono fun e W' ⟨he, hb⟩ => ?_
  subst he
  exact ⟨_, rfl, law_post (tb := 4) laidOut (params_ok _ (by kernel_rfl)) rfl rfl Try.underlying4 hW' rfl hb⟩

theorem diskDown_over : Rows.diskDownRow.holds Try.pinned (OpenSpec.ofChange Rows.diskDownSpec) :=
  OpenClaim.holds_of_wide 11 Try.f11 rfl rfl rfl rfl rfl rfl rfl ⟨rfl, rfl, rfl, rfl, rfl⟩ rfl rfl rfl rfl rfl (by kernel_rfl) Try.func11 (by kernel_rfl)
    (of_decide_eq_true (by kernel_rfl)) (by unfold Func.isWrapper; first | (rw [if_pos (by decide +kernel)]; kernel_rfl) | (rw [if_neg (by decide +kernel)]; exact ⟨rfl, rfl⟩))
    (fun os started H enc _ => diskDown_lifted os started H enc)

theorem diskDown_holds : Rows.DiskDownSaid := diskDown_over
end Go.Proofs.Ytbkenickmiapdaa
