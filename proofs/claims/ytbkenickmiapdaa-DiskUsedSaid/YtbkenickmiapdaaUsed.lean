/- DERIVED. 'tidemarklaw03.DiskUsed' returns true at every input. -/
import Derived.Test.YtbkenickmiapdaaPlays
import Derived.Laws.Cover1
namespace Go.Proofs.Ytbkenickmiapdaa
set_option linter.unusedVariables false
set_option linter.unusedSimpArgs false
open Go.RowKit

section
variable {d : DS}
/-- A file by its place. -/
theorem read_at {N U : Nat} (f : DFit d N U) (hd : d.down = false) {k : Nat} (hk : k < d.l.length) : dReadB d d.l[k].1 = d.l[k].2.b ∧ dMay d true d.l[k].1 d.l[k].1 = 0 := by
  have hm := List.getElem_mem hk
  have hg : fGet d.l[k].1 d.l = some d.l[k].2 := fGet_of_mem f.ok.sort hm
  have h0 : dMay d true d.l[k].1 d.l[k].1 = 0 := by
    unfold dMay
    rw [hd, f.ok.names _ hm, hg]
    rfl
  exact ⟨by unfold dReadB dOld; rw [if_pos h0, hg]; rfl, h0⟩
theorem names_rise (hs : fSort d.l) {j k : Nat} (hj : j < k) (hk : k < d.l.length) : bytesBefore (d.l[j]'(by omega)).1 d.l[k].1 = true := List.pairwise_iff_getElem.1 hs j k (by omega) hk hj
theorem lim_step (d : DS) (s : StepV) : (dStep d s).lim = d.lim := by
  unfold dStep dAppend dSync dRename dDelete dCrash
  repeat (first | rfl | split)
end

set_option maxRecDepth 100000 in
set_option maxHeartbeats 2000000 in
theorem used_walk (lim : Int) (A : Option Addr) (l : List StepV) (c : Nat) (w : World) (hl0 : lim ≤ 9223372036854775807) (hl : (kSl kStep 5).is w ⟨A, l, c⟩ [(⟨A, l, c⟩ : Sl StepV).val]) :
    Calls Try.prog 12 #[.int .i64 lim, .slice A l.length c] w fun e w' => e = .returned (.bool true) ∧ Below w.heap.size w w' := by
  have hll : l.length ≤ 9223372036854775807 := by have := hl.2.1; have := hl.2.2.1; simp only [maxLen] at *; omega
  have HL := hide hl
  have HL0 := hide hl0
  obtain ⟨lm, hlm, hlm2⟩ : ∃ lm : Int, (if lim < 0 then 0 else lim) = lm ∧ max lim 0 = lm := ⟨_, rfl, by split <;> omega⟩
  clear hl hl0
  go_enter Try.func12, Try.ntmps12
  go_wp2_with fail
  refine (dk_shown w).mono ?_
  rintro e w1 ⟨rfl, hb1⟩
  have E : Env w w1 [] := .nil hb1
  clear hb1
  go_wp2_with fail
  refine (E.dk_new lim HL0.out).mono ?_
  rintro e w2 ⟨b1, rfl, E⟩
  go_wp2_with fail
  refine (E.rf_new lim HL0.out).mono ?_
  rintro e w3 ⟨b2, rfl, E⟩
  replace E := E.swap
  rw [hlm] at E
  have D0 : Hid ((⟨lm, [], false⟩ : DS).lim = lm) := hide rfl
  generalize (⟨lm, [], false⟩ : DS) = d0 at E D0
  clear hlm
  go_wp2_with fail
  go_loopw [8] (fun i wr => ∃ (k : Nat) (d : DS), i = .int .i64 k ∧ k ≤ 80 ∧ Hid (d.lim = lm) ∧ Env w wr [dkO b1 d k (100 * k), rfO b2 d k (100 * k)]) (fun i _ => 80 - (intOf i).toNat)
  case atStart => exact ⟨0, d0, rfl, by omega, D0, E⟩
  case round =>
    clear E D0
    obtain ⟨k, d, rfl, hk, D, E⟩ := hrel
    by_cases hkl : k < l.length
    · by_cases hk4 : k < 80
      · obtain ⟨g, o, hA, hgl, hok, q0, q1, q2, q3, q4⟩ := step_at HL.out hkl
        subst hA
        generalize l[k] = s at *
        have D5 : Hid ((dStep d s).lim = lm) := (lim_step d s).trans D.out
        obtain ⟨kind, a, b, ⟨Ad, ld, cd⟩, ⟨Ak, lk, ck⟩⟩ := s
        have r0 := (E.below.cell (p := ⟨g, o + k * 5, none⟩) hgl).trans q0
        have r1 := (E.below.cell (p := ⟨g, o + k * 5 + 1, none⟩) hgl).trans q1
        have r2 := (E.below.cell (p := ⟨g, o + k * 5 + 2, none⟩) hgl).trans q2
        have r3 : wr.cell? ⟨g, o + k * 5 + 3, none⟩ = some (.slice Ad ld.length cd) := (E.below.cell (p := ⟨g, o + k * 5 + 3, none⟩) hgl).trans q3
        have r4 : wr.cell? ⟨g, o + k * 5 + 4, none⟩ = some (.slice Ak lk.length ck) := (E.below.cell (p := ⟨g, o + k * 5 + 4, none⟩) hgl).trans q4
        have HOK := hide hok
        clear q0 q1 q2 q3 q4 hok
        go_wp2_with fail
        refine (does_walk HOK.out E (by omega) (by omega) (by omega) (by omega)).mono ?_
        rintro e w5 ⟨r, rfl, hr, E5⟩
        clear r0 r1 r2 r3 r4 hr E
        generalize dStep d ⟨kind, a, b, ⟨Ad, ld, cd⟩, ⟨Ak, lk, ck⟩⟩ = d5 at *
        have kd := E5.dk_down
        cases hdn : d5.down with
        | true =>
          rw [hdn] at kd
          go_wp2_with fail
          refine kd.mono ?_
          rintro e w6 ⟨rfl, rfl⟩
          clear kd hdn
          go_wp2_with fail
          go_roundw
          case rel => exact ⟨k + 1, _, by go_num, by omega, D5, E5⟩
          case measure => simp [intOf]; omega
        | false =>
          rw [hdn] at kd
          have HDN := hide hdn
          have hfit := E5.dk_fit
          have HFIT := hide hfit
          have hnl : d5.l.length ≤ 100 := by have := hfit.files; omega
          have hub : dUsed d5.l ≤ 100 * (k + 1) := hfit.bytes
          have hul : (dUsed d5.l : Int) ≤ lm := by have := hfit.ok.used; rw [D5.out] at this; exact this
          clear hdn hfit
          go_wp2_with fail
          refine kd.mono ?_
          rintro e w6 ⟨rfl, rfl⟩
          clear kd
          go_wp2_with fail
          have kl := E5.dk_list (by omega)
          rw [show dList d5 = d5.l.map (·.1) by unfold dList; rw [HDN.out]; rfl] at kl
          refine kl.mono ?_
          rintro e w7 ⟨A7, c7, rfl, E7⟩
          rw [List.length_map] at E7
          rw [List.length_map]
          clear kl E5
          go_upto_block 2 with (fail)
          go_cut [10] (fun n wr => n = .int .i64 (dUsed d5.l) ∧ Env w wr [dkO b1 d5 (k + 1) (100 * k + 100), rfO b2 d5 (k + 1) (100 * k + 100)])
          case first =>
            go_wp2_with fail
            go_loopw [10, 11] (fun n i wr => ∃ j : Nat, i = .int .i64 j ∧ n = .int .i64 (dUsed (d5.l.take j)) ∧ j ≤ d5.l.length ∧ Env w wr [rowO 9 1 (.slice A7 d5.l.length c7) ((d5.l.map (·.1)).map strV), dkO b1 d5 (k + 1) (100 * k + 100), rfO b2 d5 (k + 1) (100 * k + 100)]) (fun _ i _ => d5.l.length - (intOf i).toNat)
            case atStart => exact ⟨0, rfl, rfl, Nat.zero_le _, E7⟩
            case round =>
              clear E7
              obtain ⟨j, rfl, rfl, hj, E⟩ := hrel
              by_cases hlt : j < d5.l.length
              · obtain ⟨x, hx⟩ : ∃ x, d5.l[j].1 = x := ⟨_, rfl⟩
                obtain ⟨y, hy⟩ : ∃ y, d5.l[j].2.b = y := ⟨_, rfl⟩
                have hrd := read_at HFIT.out HDN.out hlt
                have hjn : ∀ i (h : i < d5.l.length), (((d5.l.map (·.1)).map strV))[i]? = some (strV d5.l[i].1) := fun i h => by simp [h]
                obtain ⟨g7, h7, q7⟩ := E.row_cell (by simp; omega)
                subst h7
                have hnm : d5.l[j].1.length ≤ maxLen := by
                  have := HFIT.out.ok.short _ (List.getElem_mem hlt)
                  simp only [maxLen]; omega
                have l7 : wr.cell? ⟨g7, j, none⟩ = some (.string ⟨d5.l[j].1.toArray⟩) := q7 j _ (hjn j hlt)
                have hsum : dUsed (d5.l.take (j + 1)) = dUsed (d5.l.take j) + d5.l[j].2.b.length := by rw [List.take_succ_eq_append_getElem hlt, used_snoc]
                have hsl := used_take d5.l (j + 1)
                have hless : ∀ i (h : i < j), Op.bytesLess (d5.l[i]'(by omega)).1 d5.l[j].1 = true := fun i h => by rw [less_before]; exact names_rise HFIT.out.ok.sort h hlt
                rw [hx] at hrd hnm l7 hless
                rw [hy] at hrd hsum
                have HX := hide hx
                have HJN := hide hjn
                have HNM := hide hnm
                have HSUM := hide hsum
                have HLESS := hide hless
                have hbl : y.length ≤ 10000 := by omega
                have hUb : dUsed (d5.l.take j) ≤ 10000 := by omega
                clear q7 hjn hnm hsum hless hx hy hsl
                generalize dUsed (d5.l.take j) = U1 at *
                go_wp2_with fail
                have kr := E.swap.dk_read x HNM.out (by omega)
                rw [hrd.1, hrd.2] at kr
                refine kr.mono ?_
                rintro e w8 ⟨A8, c8, rfl, E8⟩
                clear kr E l7 hrd
                obtain ⟨g7', h7, q7⟩ := Env.row_cell (E8.front 2 rfl) (by simp; omega)
                obtain rfl : g7 = g7' := by injection h7 with h7; injection h7
                have l7 : w8.cell? ⟨g7, j, none⟩ = some (.string ⟨x.toArray⟩) := by
                  have := q7 j _ (HJN.out j hlt)
                  rwa [HX.out] at this
                clear h7
                by_cases hj0 : j = 0
                · have d1 : decide (0 < (j : Int)) = false := by simp; omega
                  have d2 : decide (0 < j) = false := by simp; omega
                  clear q7
                  go_wp2_with fail
                  go_quiet (fail)
                  go_wp2_with fail
                  go_roundw
                  case rel => exact ⟨j + 1, by go_num, by rw [HSUM.out]; go_num, by omega, (((E8.drop).drewN nq).swap)⟩
                  case measure => simp [intOf]; omega
                · obtain ⟨i, hij⟩ : ∃ i, j = i + 1 := ⟨j - 1, by omega⟩
                  have d1 : decide (0 < (j : Int)) = true := by simp; omega
                  have d2 : decide (0 < j) = true := by simp; omega
                  obtain ⟨x0, l6, hless⟩ : ∃ x0 : Nm, w8.cell? ⟨g7, i, none⟩ = some (.string ⟨x0.toArray⟩) ∧ Op.bytesLess x0 x = true := ⟨_, q7 i _ (HJN.out i (by omega)), HLESS.out i (by omega)⟩
                  have hj1 : (j : Int) - 1 = (i : Int) := by omega
                  have hwr1 : IntKind.i64.wrap ((j : Int) - 1) = (i : Int) := by rw [hj1]; exact IntWalk.i64_in _ (by omega)
                  have hi1 : (i : Int) < (d5.l.length : Int) := by omega
                  have hi0 : (0 : Int) ≤ (i : Int) := by omega
                  clear q7 hj0 hij
                  go_wp2_with fail
                  go_quiet (fail)
                  go_wp2_with fail
                  go_roundw
                  case rel => exact ⟨j + 1, by go_num, by rw [HSUM.out]; go_num, by omega, (((E8.drop).drewN nq).swap)⟩
                  case measure => simp [intOf]; omega
              · obtain rfl : j = d5.l.length := by omega
                go_wp2_with fail
                go_meet
                case rel => exact ⟨by rw [List.take_length], E.drop⟩
          case rest =>
            clear E7
            obtain ⟨rfl, E7⟩ := hcut
            have hnn : ¬ (lm < (dUsed d5.l : Int)) := by omega
            go_wp2_with fail
            refine (E7.dk_used (by omega)).mono ?_
            rintro e w9 ⟨rfl, E9⟩
            clear E7
            go_wp2_with fail
            go_roundw
            case rel => exact ⟨k + 1, _, by go_num, by omega, D5, E9⟩
            case measure => simp [intOf]; omega
      · go_wp2_with fail
        go_ret
        exact ⟨rfl, E.below⟩
    · go_wp2_with fail
      go_ret
      exact ⟨rfl, E.below⟩
-- ROW DiskUsed|tidemark/tidemarklaw03|used_walk a0 A1 l1 c1 W b0.2 hs1|i64 int;sl []tidemarklaw03.Step opSteps
-- ROWPART
open Go.ChangeShapes Go.WideShapes Go.ChangeAt in
open Go.ChangeMaps (open_string) in
set_option maxRecDepth 100000 in
theorem diskUsed_lifted (os : Os) (started : os.Started) (H : Type) (enc : TypeId × Value → H) :
    ReturnsInHanded {} Try.checked os 12 .any (Rows.diskUsedSpec.pre6 enc Try.prog Try.f12 Rows.diskUsedRow.domain false) (Rows.diskUsedSpec.post enc Try.prog Try.f12 false true false false) := by
  refine returnsInHanded_of_change (C := Try.checked) own started (by kernel_rfl) Try.func12
    (ChangeSpec.witness6 (enc := enc) (C := Try.checked) false ⟨#[], #[.int .i64 0, .slice none 0 0], []⟩ 8 (by kernel_rfl) (by kernel_rfl) (by kernel_rfl) (by kernel_rfl)) ?_
  intro W base args ds gs before hval0 hW _ _
  have hval : ∀ (j : Nat) t v, Try.f12.params[j]? = some t → args[j]? = some v → Value.okWide Try.prog W .any base t v := hval0
  have hW' := hW
  obtain ⟨p, q, hA0, hV, rfl, hfz, hnd⟩ := hW
  have hA : DataW.TrodAll enc Try.prog W 0 (fun _ => true) true Try.f12.params.toList args.toList ds p := hA0
  rw [Try.params12] at hA hval
  obtain ⟨v0, vs0, d0, ds0, p0, q0, hargs, rfl, rfl, h0, r0⟩ := trodAll_cons hA
  obtain ⟨v1, vs1, d1, ds1, p1, q1, rfl, rfl, rfl, h1, r1⟩ := trodAll_cons r0
  obtain ⟨rfl, rfl, rfl⟩ := trodAll_nil r1
  obtain rfl : args = #[v0, v1] := by cases args; simp_all
  obtain ⟨rfl, rfl⟩ := trodVars_none hV
  obtain ⟨a0, rfl, -, -, w0⟩ := open_int Try.underlying3 (hval 0 _ v0 rfl rfl) h0
  have b0 := bounds_i64 w0
  obtain ⟨⟨A1, l1, c1⟩, rfl, hs1⟩ := sl_of Try.underlying45 opSteps (hval 1 _ v1 rfl rfl) h1
  refine (used_walk a0 A1 l1 c1 W b0.2 hs1).mono fun e W' ⟨he, hb⟩ => ?_
  subst he
  exact ⟨_, rfl, law_post (tb := 4) laidOut (params_ok _ (by kernel_rfl)) rfl rfl Try.underlying4 hW' rfl hb⟩

theorem diskUsed_over : Rows.diskUsedRow.holds Try.pinned (OpenSpec.ofChange Rows.diskUsedSpec) :=
  OpenClaim.holds_of_wide 12 Try.f12 rfl rfl rfl rfl rfl rfl rfl ⟨rfl, rfl, rfl, rfl, rfl⟩ rfl rfl rfl rfl rfl (by kernel_rfl) Try.func12 (by kernel_rfl)
    (of_decide_eq_true (by kernel_rfl)) (by unfold Func.isWrapper; first | (rw [if_pos (by decide +kernel)]; kernel_rfl) | (rw [if_neg (by decide +kernel)]; exact ⟨rfl, rfl⟩))
    (fun os started H enc _ => diskUsed_lifted os started H enc)

theorem diskUsed_holds : Rows.DiskUsedSaid := diskUsed_over
end Go.Proofs.Ytbkenickmiapdaa
