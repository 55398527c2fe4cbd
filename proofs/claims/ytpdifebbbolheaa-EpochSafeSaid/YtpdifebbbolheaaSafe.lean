/- 'tidemarklaw12.EpochSafe' returns true at every input: an epoch that is over stays over. No condition. -/
import Derived.Test.YtpdifebbbolheaaEps
namespace Go.Proofs.Ytpdifebbbolheaa
open Go.RowKit

def SfRel (w0 : World) (b N k : Nat) (s : Int) (wr : World) : Prop := ∃ now ws, EpB w0 wr Foot.none b now ws ∧ EpOk now ws ∧ ws.length = N ∧ now ≤ 16777216 + k ∧ s = epSafe now ws
def SfAft (w0 : World) (b N k : Nat) (s : Int) (wr : World) : Prop := ∃ now ws, EpB w0 wr Foot.none b now ws ∧ EpOk now ws ∧ ws.length = N ∧ now ≤ 16777216 + k + 1 ∧ s ≤ epSafe now ws

set_option maxRecDepth 100000 in
set_option maxHeartbeats 1000000 in
theorem safe_walk (wk t : Int) (A : Option Addr) (l : List (Int × Int)) (c : Nat) (w : World) (hn : l.length ≤ maxLen) (ht0 : 0 ≤ t) (ht1 : t < 4294967296) (hl : StepsIn w A l) :
    Calls Try.prog 5 #[.int .i64 wk, .int .u32 t, .slice A l.length c] w fun e w' => e = .returned (.bool true) ∧ Below w.heap.size w w' := by
  unfold maxLen at hn
  have hb := i64_and7 wk
  have hb2 := u32_and24 t ht0 ht1
  obtain ⟨N, hN⟩ : ∃ N : Nat, 1 + wk % 8 = (N : Int) := ⟨(1 + wk % 8).toNat, by omega⟩
  have hN1 : 1 ≤ N ∧ N ≤ 8 := by omega
  have HN := hide hN
  clear hN
  go_enter Try.func5, Try.ntmps5
  go_wp2_with fail
  refine (ep_shown w).mono ?_
  rintro e w1 ⟨rfl, hb1⟩
  go_wp2_with fail
  try rw [HN.out]
  have ht2 : 1 ≤ 1 + t % 16777216 ∧ 1 + t % 16777216 ≤ 16777216 := by omega
  generalize 1 + t % 16777216 = T at *
  refine (epb_new w w1 Foot.none N T hN1.1 hN1.2 ht2.1 no_T hb1).mono ?_
  rintro e w2 ⟨rfl, h2, -⟩
  have ok2 : EpOk T (List.replicate N none) := epOk_new N T hN1.2 ht2.1 (by omega)
  generalize w1.heap.size + 1 = b at *
  go_wp2_with fail
  refine (h2.safe_ ok2).mono ?_
  rintro e w3 ⟨rfl, rfl⟩
  have R0 : SfRel w b N 0 (epSafe T (List.replicate N none)) w3 := ⟨T, _, h2, ok2, by simp, by omega, rfl⟩
  generalize epSafe T (List.replicate N none) = s0 at *
  clear h2 ok2 ht2
  go_wp2_with fail
  go_loopw [10, 11] (fun s i wr => ∃ (k : Nat) (sv : Int), i = .int .i64 k ∧ s = .int .u32 sv ∧ k ≤ l.length ∧ k ≤ 200 ∧ SfRel w b N k sv wr) (fun _ i _ => 200 - (intOf i).toNat)
  case atStart => exact ⟨0, s0, rfl, rfl, by omega, by omega, R0⟩
  case round =>
    clear R0 hb1
    obtain ⟨k, sv, rfl, rfl, hk, hk2, hrel⟩ := hrel
    by_cases hlk : k < l.length
    · by_cases hk3 : k < 200
      · obtain ⟨ab, ao, rfl, hab, hc1, hc2, hw0, hw1⟩ := hl k hlk
        obtain ⟨now, ws, hE, ok, hlen, hnow, hs⟩ := hrel
        have hc1' := (hE.below.cell (p := ⟨ab, ao + k * 2, none⟩) hab).trans hc1
        have hc2' := (hE.below.cell (p := ⟨ab, ao + k * 2 + 1, none⟩) hab).trans hc2
        have hsv : sv ≤ epSafe now ws := by omega
        clear hs
        have R0' : SfAft w b N k sv wr := ⟨now, ws, hE, ok, hlen, by omega, hsv⟩
        go_upto_block 2 with (fail)
        go_cut [] (fun wr => SfAft w b N k sv wr)
        case first =>
          go_wp2_with (first
            | (go_at_call 9; refine (hE.enter_ no_T ok _ hw0 hw1).mono ?_; rintro e w' ⟨rfl, hE', -⟩; have R1 : SfAft w b N k sv w' := ⟨_, _, hE', ok.enter _, (epEnter_len _ _ _).trans hlen, by omega, by have := epSafe_enter now ws l[k].2; omega⟩; clear hE' hE R0')
            | (go_at_call 10; refine (hE.leave_ no_T ok _ hw0 hw1).mono ?_; rintro e w' ⟨rfl, hE', -⟩; have R1 : SfAft w b N k sv w' := ⟨_, _, hE', ok.leave _, (epLeave_len _ _).trans hlen, by omega, by have := epSafe_leave now ws l[k].2; omega⟩; clear hE' hE R0')
            | (go_at_call 11; refine (hE.advance_ no_T ok).mono ?_; rintro e w' ⟨rfl, hE', -⟩; have R1 : SfAft w b N k sv w' := ⟨_, _, hE', ok.advance, hlen, by have := epAdvance_le now ws; omega, by have := epSafe_advance now ws; omega⟩; clear hE' hE R0'))
          all_goals
            go_meet
            case rel => assumption
        case rest =>
          clear R0' hE ok hlen hnow hsv hc1' hc2' hc1 hc2 hw0 hw1 now ws hl
          obtain ⟨now, ws, hE, ok, hlen, hnow, hsv⟩ := hcut
          have f1 := epLeast_le now ws
          have f2 := ok.least_near
          have f3 := ok.least_ge
          have f4 := ok.hi
          have g0 : ¬ epSafe now ws < sv := by omega
          have g1 : epSafe now ws < now := by unfold epSafe; omega
          have g2 : now - epSafe now ws ≤ 2 := by unfold epSafe; omega
          have g3 : 0 ≤ epSafe now ws := by unfold epSafe; omega
          generalize hs : epSafe now ws = s at *
          have HS := hide hs
          clear hs f1 f2 f3
          have ks : ∀ w', w' = wc → Calls Try.prog 13 #[.pointer (some ⟨b, 0, none⟩)] w' fun e w2 => e = .returned (.int .u32 s) ∧ w2 = wc := by
            rintro w' rfl; have := hE.safe_ ok; rw [HS.out] at this; exact this
          have KS := hide ks
          clear ks
          go_wp2_with fail
          refine hE.now_.mono ?_
          rintro e w3 ⟨rfl, rfl⟩
          go_wp2_with (go_at_call 13; refine (KS.out _ rfl).mono ?_; rintro e w3 ⟨rfl, rfl⟩)
          go_loop [13] (fun i => ∃ j : Nat, i = .int .i64 j ∧ j ≤ N) (fun i => N - (intOf i).toNat)
          case atStart => exact ⟨0, rfl, Nat.zero_le _⟩
          case round =>
            obtain ⟨j, rfl, hj⟩ := hrel
            by_cases hlt : j < N
            · have kin := hE.in_ ok j (by omega) (by omega)
              cases hat : epAt ws j with
              | none =>
                rw [hat] at kin
                have KIN := hide kin
                clear kin hat KS
                go_wp2_with fail
                refine KIN.out.mono ?_
                rintro e w4 ⟨rfl, rfl⟩
                go_wp2_with fail
                go_round
                case rel => exact ⟨j + 1, by go_num, by omega⟩
                case measure => simp [intOf]; omega
              | some a =>
                rw [hat] at kin
                have hmem := epAt_mem hat
                have m1 := epLeast_mem (now := now) hmem
                have m2 := ok.at_hi a hmem
                have m3 := ok.at_near a hmem
                have m4 : s < a := by have := HS.out; unfold epSafe at this; omega
                have m5 := ok.at_lo a hmem
                have KIN := hide kin
                clear kin hat KS hmem m1
                go_wp2_with fail
                refine KIN.out.mono ?_
                rintro e w4 ⟨rfl, rfl⟩
                go_wp2_with fail
                go_round
                case rel => exact ⟨j + 1, by go_num, by omega⟩
                case measure => simp [intOf]; omega
            · have R1 : SfRel w b N (k + 1) s w3 := ⟨now, ws, hE, ok, hlen, by omega, HS.out.symm⟩
              clear hE ok KS
              go_wp2_with fail
              go_roundw
              case rel => exact ⟨k + 1, s, by go_num, rfl, by omega, by omega, R1⟩
              case measure => simp [intOf]; omega
      · have hbw : Below w.heap.size w wr := by obtain ⟨now, ws, hE, _⟩ := hrel; exact hE.below
        clear hrel
        go_wp2_with fail
        go_ret
        exact ⟨rfl, hbw⟩
    · have hbw : Below w.heap.size w wr := by obtain ⟨now, ws, hE, _⟩ := hrel; exact hE.below
      clear hrel
      go_wp2_with fail
      go_ret
      exact ⟨rfl, hbw⟩

open Go.ChangeShapes Go.WideShapes Go.ChangeAt in
open Go.ChangeMaps (open_string) in
set_option maxRecDepth 100000 in
theorem epochSafe_lifted (os : Os) (started : os.Started) (H : Type) (enc : TypeId × Value → H) :
    ReturnsInHanded {} Try.checked os 5 .any (Rows.epochSafeSpec.pre6 enc Try.prog Try.f5 Rows.epochSafeRow.domain false) (Rows.epochSafeSpec.post enc Try.prog Try.f5 false true false false) := by
  refine returnsInHanded_of_change (C := Try.checked) own started (by kernel_rfl) Try.func5
    (ChangeSpec.witness6 (enc := enc) (C := Try.checked) false ⟨#[], #[.int .i64 0, .int .u32 0, .slice none 0 0], []⟩ 8 (by kernel_rfl) (by kernel_rfl) (by kernel_rfl) (by kernel_rfl)) ?_
  intro W base args ds gs before hval0 hW _ _
  have hval : ∀ (j : Nat) t v, Try.f5.params[j]? = some t → args[j]? = some v → Value.okWide Try.prog W .any base t v := hval0
  have hW' := hW
  obtain ⟨p, q, hA0, hV, rfl, hfz, hnd⟩ := hW
  have hA : DataW.TrodAll enc Try.prog W 0 (fun _ => true) true Try.f5.params.toList args.toList ds p := hA0
  rw [Try.params5] at hA hval
  obtain ⟨v0, vs0, d0, ds0, p0, q0, hargs, rfl, rfl, h0, r0⟩ := trodAll_cons hA
  obtain ⟨v1, vs1, d1, ds1, p1, q1, rfl, rfl, rfl, h1, r1⟩ := trodAll_cons r0
  obtain ⟨v2, vs2, d2, ds2, p2, q2, rfl, rfl, rfl, h2, r2⟩ := trodAll_cons r1
  obtain ⟨rfl, rfl, rfl⟩ := trodAll_nil r2
  obtain rfl : args = #[v0, v1, v2] := by cases args; simp_all
  obtain ⟨rfl, rfl⟩ := trodVars_none hV
  obtain ⟨a0, rfl, -, -, w0⟩ := open_int Try.underlying3 (hval 0 _ v0 rfl rfl) h0
  have b0 := bounds_i64 w0
  obtain ⟨a1, rfl, -, -, w1⟩ := open_int Try.underlying22 (hval 1 _ v1 rfl rfl) h1
  have b1 := bounds_u32 w1
  obtain ⟨A, l, c, rfl, hm, hl⟩ := steps_of (hval 2 _ v2 rfl rfl) h2
  refine (safe_walk a0 a1 A l c W hm b1.1 (by omega) hl).mono fun e W' ⟨he, hb⟩ => ?_
  subst he
  exact ⟨_, rfl, law_post (tb := 4) laidOut (params_ok _ (by kernel_rfl)) rfl rfl Try.underlying4 hW' rfl hb⟩

theorem epochSafe_over : Rows.epochSafeRow.holds Try.pinned (OpenSpec.ofChange Rows.epochSafeSpec) :=
  OpenClaim.holds_of_wide 5 Try.f5 rfl rfl rfl rfl rfl rfl rfl ⟨rfl, rfl, rfl, rfl, rfl⟩ rfl rfl rfl rfl rfl (by kernel_rfl) Try.func5 (by kernel_rfl)
    (of_decide_eq_true (by kernel_rfl)) (by unfold Func.isWrapper; first | (rw [if_pos (by decide +kernel)]; kernel_rfl) | (rw [if_neg (by decide +kernel)]; exact ⟨rfl, rfl⟩))
    (fun os started H enc _ => epochSafe_lifted os started H enc)

theorem epochSafe_holds : Rows.EpochSafeSaid := epochSafe_over
end Go.Proofs.Ytpdifebbbolheaa
