import Derived.Test.YtpdifebbbolheaaEps
import Derived.Deep.DeepCutAuto
import Derived.Deep.CutBlock
import Derived.Deep.Light
namespace Go.Proofs.Ytpdifebbbolheaa
open Go.RowKit

def LvRel (w0 : World) (b N k : Nat) (wr : World) : Prop := ∃ now ws, EpB w0 wr Foot.none b now ws ∧ EpOk now ws ∧ ws.length = N ∧ now ≤ 16777216 + k

def LvRel2 (w0 : World) (b N k : Nat) (wr : World) : Prop := ∃ now ws, EpB w0 wr Foot.none b now ws ∧ EpOk now ws ∧ ws.length = N ∧ now ≤ 16777316 ∧ ∀ i, i < k → ws[i]? = some none
theorem LvRel.start {w0 wr : World} {b N : Nat} (h : LvRel w0 b N 100 wr) : LvRel2 w0 b N 0 wr := by
  obtain ⟨now, ws, h1, h2, h3, h4⟩ := h
  exact ⟨now, ws, h1, h2, h3, by omega, fun i hi => by omega⟩
theorem LvRel2.done {w0 wr : World} {b N : Nat} (h : LvRel2 w0 b N N wr) : ∃ now, EpB w0 wr Foot.none b now (List.replicate N none) ∧ 1 ≤ now ∧ now ≤ 16777316 := by
  obtain ⟨now, ws, h1, h2, h3, h4, h5⟩ := h
  have : ws = List.replicate N none := by
    apply List.ext_getElem?
    intro i
    rw [List.getElem?_replicate]
    split
    · rename_i hi; exact h5 i hi
    · exact List.getElem?_eq_none (by omega)
  subst this
  exact ⟨now, h1, h2.lo, h4⟩
theorem epLeave_clear {ws : List (Option Int)} {k : Nat} (h : ∀ i, i < k → ws[i]? = some none) (hk : k < ws.length) : ∀ i, i < k + 1 → (epLeave ws k)[i]? = some none := by
  intro i hi
  unfold epLeave
  rw [epIs_yes hk]
  show (ws.set k none)[i]? = _
  rw [List.getElem?_set]
  by_cases e : k = i
  · rw [if_pos e]
    first | rfl | (rw [if_pos (by omega)])
  · rw [if_neg e]; exact h i (by omega)
theorem epFold_none (k : Nat) (n : Int) : (List.replicate k none).foldl epStep n = n := by
  induction k generalizing n with
  | zero => rfl
  | succ k ih => simp [List.replicate_succ, epStep, ih]
theorem epLeast_none (k : Nat) (n : Int) : epLeast n (List.replicate k none) = n := epFold_none k n

theorem LvRel.mono {w0 wr : World} {b N k j : Nat} (h : LvRel w0 b N k wr) (hj : k ≤ j) : LvRel w0 b N j wr := by
  obtain ⟨now, ws, h1, h2, h3, h4⟩ := h
  exact ⟨now, ws, h1, h2, h3, by omega⟩

set_option maxHeartbeats 1000000 in
theorem leaves_walk (wk t : Int) (A : Option Addr) (l : List (Int × Int)) (c : Nat) (m : Int) (w : World) (hn : l.length ≤ maxLen) (ht0 : 0 ≤ t) (ht1 : t < 4294967296) (hl : StepsIn w A l) :
    Calls Try.prog 3 #[.int .i64 wk, .int .u32 t, .slice A l.length c, .int .i64 m] w fun e w' => e = .returned (.bool true) ∧ Below w.heap.size w w' := by
  unfold maxLen at hn
  have hb := i64_and7 wk
  have hb2 := u32_and24 t ht0 ht1
  have hb3 := i64_and127 m
  obtain ⟨N, hN⟩ : ∃ N : Nat, 1 + wk % 8 = (N : Int) := ⟨(1 + wk % 8).toNat, by omega⟩
  obtain ⟨M, hM⟩ : ∃ M : Nat, m % 128 = (M : Int) := ⟨(m % 128).toNat, by omega⟩
  have hN1 : 1 ≤ N ∧ N ≤ 8 := by omega
  have hM1 : M ≤ 127 := by omega
  have HN := hide hN
  have HM := hide hM
  clear hN hM
  go_enter Try.func3, Try.ntmps3
  go_wp2_with fail
  refine (ep_shown w).mono ?_
  rintro e w1 ⟨rfl, hb1⟩
  go_wp2_with fail
  try rw [HN.out]
  have ht2 : 1 ≤ 1 + t % 16777216 ∧ 1 + t % 16777216 ≤ 16777216 := by omega
  generalize 1 + t % 16777216 = T at *
  refine (epb_new w w1 Foot.none N T hN1.1 hN1.2 ht2.1 no_T hb1).mono ?_
  rintro e w2 ⟨rfl, h2, -⟩
  have ok2 : EpOk T (List.replicate N none) := epOk_new N T hN1.2 ht2.1 (by omega)
  generalize w1.heap.size + 1 = b at *
  have R0 : LvRel w b N 0 w2 := ⟨T, _, h2, ok2, by simp, by omega⟩
  clear h2 ok2 hb1
  go_upto_block 0 with (fail)
  go_cut [] (fun wr => LvRel w b N 100 wr)
  case first =>
   go_wp2_with fail
   go_loopw [12] (fun i wr => ∃ k : Nat, i = .int .i64 k ∧ k ≤ l.length ∧ k ≤ 100 ∧ LvRel w b N k wr) (fun i _ => 100 - (intOf i).toNat)
   case atStart => exact ⟨0, rfl, by omega, by omega, R0⟩
   case round =>
     obtain ⟨k, rfl, hk, hk2, hrel⟩ := hrel
     by_cases hlk : k < l.length
     · by_cases hk3 : k < 100
       rotate_left
       · go_wp2_with fail
         go_meet
         case rel => exact hrel.mono (by omega)
       obtain ⟨ab, ao, rfl, hab, hc1, hc2, hw0, hw1⟩ := hl k hlk
       obtain ⟨now, ws, hE, ok, hlen, hnow⟩ := hrel
       have hc1' := (hE.below.cell (p := ⟨ab, ao + k * 2, none⟩) hab).trans hc1
       have hc2' := (hE.below.cell (p := ⟨ab, ao + k * 2 + 1, none⟩) hab).trans hc2
       have R0' : LvRel w b N (k + 1) wr := ⟨now, ws, hE, ok, hlen, by omega⟩
       go_wp2_with (first
         | (go_at_call 9; refine (hE.enter_ no_T ok _ hw0 hw1).mono ?_; rintro e w' ⟨rfl, hE', -⟩; have R1 : LvRel w b N (k + 1) w' := ⟨_, _, hE', ok.enter _, (epEnter_len _ _ _).trans hlen, by omega⟩; clear hE' hE R0')
         | (go_at_call 10; refine (hE.leave_ no_T ok _ hw0 hw1).mono ?_; rintro e w' ⟨rfl, hE', -⟩; have R1 : LvRel w b N (k + 1) w' := ⟨_, _, hE', ok.leave _, (epLeave_len _ _).trans hlen, by omega⟩; clear hE' hE R0')
         | (go_at_call 11; refine (hE.advance_ no_T ok).mono ?_; rintro e w' ⟨rfl, hE', -⟩; have R1 : LvRel w b N (k + 1) w' := ⟨_, _, hE', ok.advance, hlen, by have := epAdvance_le now ws; omega⟩; clear hE' hE R0'))
       all_goals
         go_roundw
         case rel => exact ⟨k + 1, by go_num, by omega, by omega, by assumption⟩
         case measure => simp [intOf]; omega
     · go_wp2_with fail
       go_meet
       case rel => exact hrel.mono (by omega)
  case rest =>
    clear R0 hl ht0 ht1 hb hb2 ht2
    go_wp2_with fail
    go_loopw [13] (fun i wr => ∃ k : Nat, i = .int .i64 k ∧ k ≤ N ∧ LvRel2 w b N k wr) (fun i _ => N - (intOf i).toNat)
    case atStart => exact ⟨0, rfl, Nat.zero_le _, hcut.start⟩
    case round =>
      obtain ⟨k, rfl, hk, hrel⟩ := hrel
      by_cases hlt : k < N
      · go_wp2_with fail
        obtain ⟨now, ws, hE, ok, hlen, hnow, hz⟩ := hrel
        refine (hE.leave_ no_T ok _ (by omega) (by omega)).mono ?_
        rintro e w' ⟨rfl, hE', -⟩
        have R1 : LvRel2 w b N (k + 1) w' := ⟨now, _, hE', ok.leave _, (epLeave_len _ _).trans hlen, hnow, epLeave_clear hz (by omega)⟩
        clear hE' hE
        go_wp2_with fail
        go_roundw
        case rel => exact ⟨k + 1, by go_num, by omega, R1⟩
        case measure => simp [intOf]; omega
      · obtain rfl : k = N := by omega
        obtain ⟨now, hE, hnow1, hnow⟩ := hrel.done
        clear hrel hlt hk hcut
        go_wp2_with fail
        refine hE.now_.mono ?_
        rintro e w' ⟨rfl, rfl⟩
        go_wp2_with fail
        rw [HM.out]
        go_loopw [15] (fun i wr => ∃ j : Nat, i = .int .i64 j ∧ j ≤ M ∧ EpB w wr Foot.none b (now + j) (List.replicate k none)) (fun i _ => M - (intOf i).toNat)
        case atStart => exact ⟨0, rfl, Nat.zero_le _, by simpa using hE⟩
        case round =>
          obtain ⟨j, rfl, hj, hE2⟩ := hrel
          have ok2 : EpOk (now + j) (List.replicate k none) := epOk_new k (now + j) hN1.2 (by omega) (by omega)
          by_cases hlt : j < M
          · have e1 : epMay (now + j) (List.replicate k none) = true := by unfold epMay; rw [epLeast_none]; simp; omega
            have e2 : epAdvance (now + j) (List.replicate k none) = now + j + 1 := by unfold epAdvance; rw [e1]; rfl
            have e3 : epSafe (now + j + 1) (List.replicate k none) = now + j := by unfold epSafe; rw [epLeast_none]; omega
            have ok3 : EpOk (now + j + 1) (List.replicate k none) := epOk_new k (now + j + 1) hN1.2 (by omega) (by omega)
            have k1 := hE2.advance_ no_T ok2
            rw [e1, e2] at k1
            have K1 := hide k1
            have E3 := hide e3
            clear k1 e1 e2 e3
            go_wp2_with fail
            refine K1.out.mono ?_
            rintro e w2 ⟨rfl, hE3, -⟩
            clear hE2 K1
            go_wp2_with fail
            refine (hE3.safe_ ok3).mono ?_
            rintro e w3 ⟨rfl, rfl⟩
            rw [E3.out]
            go_wp2_with fail
            refine hE3.now_.mono ?_
            rintro e w4 ⟨rfl, rfl⟩
            go_wp2_with fail
            go_roundw
            case rel => exact ⟨j + 1, by go_num, by omega, by rw [show now + ((j + 1 : Nat) : Int) = now + j + 1 from by omega]; exact hE3⟩
            case measure => simp [intOf]; omega
          · obtain rfl : j = M := by omega
            have hbw := hE2.below
            go_wp2_with fail
            refine hE2.now_.mono ?_
            rintro e w3 ⟨rfl, rfl⟩
            go_wp2_with fail
            go_ret
            exact ⟨rfl, hbw⟩

open Go.ChangeShapes Go.WideShapes Go.ChangeAt in
set_option maxRecDepth 100000 in
theorem leaves_lifted (os : Os) (started : os.Started) (H : Type) (enc : TypeId × Value → H) :
    ReturnsInHanded {} Try.checked os 3 .any (Rows.epochLeavesSpec.pre6 enc Try.prog Try.f3 Rows.epochLeavesRow.domain false) (Rows.epochLeavesSpec.post enc Try.prog Try.f3 false true false false) := by
  refine returnsInHanded_of_change (C := Try.checked) own started (by kernel_rfl) Try.func3
    (ChangeSpec.witness6 (enc := enc) (C := Try.checked) false ⟨#[], #[.int .i64 0, .int .u32 0, .slice none 0 0, .int .i64 0], []⟩ 8 (by kernel_rfl) (by kernel_rfl) (by kernel_rfl) (by kernel_rfl)) ?_
  intro W base args ds gs before hval0 hW _ _
  have hval : ∀ (j : Nat) t v, Try.f3.params[j]? = some t → args[j]? = some v → Value.okWide Try.prog W .any base t v := hval0
  have hW' := hW
  obtain ⟨p, q, hA0, hV, rfl, hfz, hnd⟩ := hW
  have hA : DataW.TrodAll enc Try.prog W 0 (fun _ => true) true Try.f3.params.toList args.toList ds p := hA0
  rw [Try.params3] at hA hval
  obtain ⟨v0, vs0, d0, ds0, p0, q0, hargs, rfl, rfl, h0, r0⟩ := trodAll_cons hA
  obtain ⟨v1, vs1, d1, ds1, p1, q1, rfl, rfl, rfl, h1, r1⟩ := trodAll_cons r0
  obtain ⟨v2, vs2, d2, ds2, p2, q2, rfl, rfl, rfl, h2, r2⟩ := trodAll_cons r1
  obtain ⟨v3, vs3, d3, ds3, p3, q3, rfl, rfl, rfl, h3, r3⟩ := trodAll_cons r2
  obtain ⟨rfl, rfl, rfl⟩ := trodAll_nil r3
  obtain rfl : args = #[v0, v1, v2, v3] := by cases args; simp_all
  obtain ⟨rfl, rfl⟩ := trodVars_none hV
  obtain ⟨a0, rfl, -, -, w0⟩ := open_int Try.underlying3 (hval 0 _ v0 rfl rfl) h0
  obtain ⟨a1, rfl, -, -, w1⟩ := open_int Try.underlying22 (hval 1 _ v1 rfl rfl) h1
  obtain ⟨A, l, c, rfl, hm, hl⟩ := steps_of (hval 2 _ v2 rfl rfl) h2
  obtain ⟨a3, rfl, -, -, w3⟩ := open_int Try.underlying3 (hval 3 _ v3 rfl rfl) h3
  have b1 := bounds_u32 w1
  refine (leaves_walk a0 a1 A l c a3 W hm b1.1 (by omega) hl).mono fun e W' ⟨he, hb⟩ => ?_
  subst he
  exact ⟨_, rfl, law_post (tb := 4) laidOut (params_ok _ (by kernel_rfl)) rfl rfl Try.underlying4 hW' rfl hb⟩

theorem leaves_over : Rows.epochLeavesRow.holds Try.pinned (OpenSpec.ofChange Rows.epochLeavesSpec) :=
  OpenClaim.holds_of_wide 3 Try.f3 rfl rfl rfl rfl rfl rfl rfl ⟨rfl, rfl, rfl, rfl, rfl⟩ rfl rfl rfl rfl rfl (by kernel_rfl) Try.func3 (by kernel_rfl)
    (of_decide_eq_true (by kernel_rfl)) (by unfold Func.isWrapper; first | (rw [if_pos (by decide +kernel)]; kernel_rfl) | (rw [if_neg (by decide +kernel)]; exact ⟨rfl, rfl⟩))
    (fun os started H enc _ => leaves_lifted os started H enc)

theorem epochLeaves_holds : Rows.EpochLeavesSaid := leaves_over
end Go.Proofs.Ytpdifebbbolheaa
