/- 'tidemarklaw12.EpochTells' returns true at every input: epochs go as the document says. No condition. -/
import Derived.Test.YtpdifebbbolheaaRf
namespace Go.Proofs.Ytpdifebbbolheaa
set_option linter.unusedVariables false
set_option linter.unusedSimpArgs false
open Go.RowKit

abbrev tlT (b2 sb2 : Nat) : Foot := fun k => k = b2 ∨ k = sb2

structure TlAt (w0 : World) (b b2 sb2 : Nat) (wr : World) (now : Int) (ws : List (Option Int)) : Prop where
  ep : EpB w0 wr (tlT b2 sb2) b now ws
  rf : Rf wr b2 sb2 now ws
  ok : EpOk now ws
  new : w0.heap.size ≤ b2 ∧ w0.heap.size ≤ sb2
def TlRel (w0 : World) (b b2 sb2 : Nat) (wr : World) : Prop := ∃ now ws, TlAt w0 b b2 sb2 wr now ws

theorem TlAt.hT {w0 wr : World} {b b2 sb2 : Nat} {now : Int} {ws : List (Option Int)} (h : TlAt w0 b b2 sb2 wr now ws) : ∀ k, tlT b2 sb2 k → k < wr.heap.size := by
  rintro k (rfl | rfl)
  · exact h.rf.head.lt
  · exact h.rf.row.lt
theorem TlAt.drewN {w0 wr : World} {b b2 sb2 : Nat} {now : Int} {ws : List (Option Int)} (h : TlAt w0 b b2 sb2 wr now ws) (n : Nat) : TlAt w0 b b2 sb2 (wr.drewN n) now ws := ⟨h.ep.drewN n, h.rf.keep rfl rfl, h.ok, h.new⟩
theorem TlAt.mid {w0 wr w' : World} {b b2 sb2 : Nat} {now : Int} {ws : List (Option Int)} (h : TlAt w0 b b2 sb2 wr now ws) (hs : Stays (tlT b2 sb2) wr w') : Rf w' b2 sb2 now ws :=
  h.rf.keep (hs.block _ (.inl rfl)) (hs.block _ (.inr rfl))
theorem TlAt.aft {w0 w' w'' : World} {b b2 sb2 : Nat} {now : Int} {ws : List (Option Int)} (hE : EpB w0 w' (tlT b2 sb2) b now ws) (hR : Rf w'' b2 sb2 now ws) (hm : Mod (fun k => k = b2 ∨ k = sb2) w' w'') (ok : EpOk now ws) (hn : w0.heap.size ≤ b2 ∧ w0.heap.size ≤ sb2) :
    TlAt w0 b b2 sb2 w'' now ws :=
  ⟨hE.keep (fun k _ hk hlt => hm.block k hlt hk) (fun hb => hb.trans (hm.below (fun k hk => by rcases hk with rfl | rfl; exact hn.1; exact hn.2) hb.size)), hR, ok, hn⟩

set_option maxRecDepth 100000 in
set_option maxHeartbeats 1000000 in
theorem tells_walk (wk t : Int) (A : Option Addr) (l : List (Int × Int)) (c : Nat) (w : World) (hn : l.length ≤ maxLen) (ht0 : 0 ≤ t) (ht1 : t ≤ 4294967295) (hl : StepsIn w A l) :
    Calls Try.prog 4 #[.int .i64 wk, .int .u32 t, .slice A l.length c] w fun e w' => e = .returned (.bool true) ∧ Below w.heap.size w w' := by
  unfold maxLen at hn
  by_cases hno : (wk < 1 ∨ 8 < wk) ∨ t = 0
  · go_enter Try.func4, Try.ntmps4
    have HNO := hide hno
    clear hno
    go_wp2_with fail
    refine (ep_shown w).mono ?_
    rintro e w1 ⟨rfl, hb1⟩
    go_wp2_with fail
    refine (ep_new_no wk t w1 HNO.out).mono ?_
    rintro e w2 ⟨rfl, rfl⟩
    go_wp2_with fail
    refine (rf_new_no wk t _ HNO.out).mono ?_
    rintro e w3 ⟨rfl, rfl⟩
    go_wp2_with fail
    go_ret
    exact ⟨rfl, hb1⟩
  obtain ⟨N, rfl⟩ := Int.eq_ofNat_of_zero_le (show 0 ≤ wk by omega)
  have hN1 : 1 ≤ N ∧ N ≤ 8 := by omega
  have ht : 1 ≤ t := by omega
  clear hno
  have ok0 : EpOk t (List.replicate N none) := epOk_new N t hN1.2 ht ht1
  go_enter Try.func4, Try.ntmps4
  go_wp2_with fail
  refine (ep_shown w).mono ?_
  rintro e w1 ⟨rfl, hb1⟩
  go_wp2_with fail
  refine (epb_new w w1 Foot.none N t hN1.1 hN1.2 ht no_T hb1).mono ?_
  rintro e w2 ⟨rfl, h2, -⟩
  generalize w1.heap.size + 1 = b at *
  clear hb1
  go_wp2_with fail
  refine (rf_new w2 N t hN1.1 hN1.2 ht).mono ?_
  rintro e w3 ⟨rfl, hw3⟩
  have R0 : TlRel w b (w2.heap.size + 1) w2.heap.size w3 := by
    obtain ⟨S, hS, hS1, hS2⟩ := h2
    have hlt : ∀ k, S k → k < w2.heap.size := by obtain ⟨_, _, hS⟩ := hS; exact hS.lt
    refine ⟨t, List.replicate N none, ?_, hw3 ▸ rf_made w2 N t, ok0, by have := hS2.size; omega⟩
    subst hw3
    refine ⟨S, hS.keep fun k hk => ?_, fun k hk => ⟨(hS1 k hk).1, fun e => ?_⟩, (hS2.alloc hS2.size _).alloc (by simp; have := hS2.size; omega) _⟩
    · have := hlt k hk
      rw [Below.heap_alloc _ _ _ (by simp; omega), Below.heap_alloc _ _ _ this]
    · have := hlt k hk
      rcases e with e | e <;> omega
  clear hw3 h2 ok0
  generalize w2.heap.size + 1 = b2 at *
  generalize w2.heap.size = sb2 at *
  go_wp2_with fail
  go_loopw [12] (fun i wr => ∃ k : Nat, i = .int .i64 k ∧ k ≤ l.length ∧ k ≤ 200 ∧ TlRel w b b2 sb2 wr) (fun i _ => 200 - (intOf i).toNat)
  case atStart => exact ⟨0, rfl, by omega, by omega, R0⟩
  case round =>
    clear R0
    obtain ⟨k, rfl, hk, hk2, hrel⟩ := hrel
    by_cases hlk : k < l.length
    · by_cases hk3 : k < 200
      · obtain ⟨ab, ao, rfl, hab, hc1, hc2, hw0, hw1⟩ := hl k hlk
        obtain ⟨now, ws, hI⟩ := hrel
        have hc1' := (hI.ep.below.cell (p := ⟨ab, ao + k * 2, none⟩) hab).trans hc1
        have hc2' := (hI.ep.below.cell (p := ⟨ab, ao + k * 2 + 1, none⟩) hab).trans hc2
        have R0' : TlRel w b b2 sb2 wr := ⟨now, ws, hI⟩
        clear hl hc1 hc2 hab
        go_upto_block 2 with (fail)
        go_cut [14] (fun s wr => s = .bool true ∧ TlRel w b b2 sb2 wr)
        case first =>
          go_wp2_with (first
            | (go_at_call 9; refine (hI.ep.enter_ hI.hT hI.ok _ hw0 hw1).mono ?_; rintro e w' ⟨rfl, hE', hst⟩; have hm := hI.mid hst; have kr := hm.enter_ hI.ok l[k].2)
            | (go_at_call 15; refine kr.mono ?_; rintro e w'' ⟨rfl, hR, hmod⟩; have R1 : TlRel w b b2 sb2 w'' := ⟨_, _, TlAt.aft hE' hR hmod (hI.ok.enter _) hI.new⟩; clear hm hE' hst hR hmod hI R0')
            | (go_at_call 10; refine (hI.ep.leave_ hI.hT hI.ok _ hw0 hw1).mono ?_; rintro e w' ⟨rfl, hE', hst⟩; have hm := hI.mid hst; have kr := hm.leave_ hI.ok l[k].2)
            | (go_at_call 16; refine kr.mono ?_; rintro e w'' ⟨rfl, hR, hmod⟩; have R1 : TlRel w b b2 sb2 w'' := ⟨_, _, TlAt.aft hE' hR hmod (hI.ok.leave _) hI.new⟩; clear hm hE' hst hR hmod hI R0')
            | (go_at_call 11; refine (hI.ep.advance_ hI.hT hI.ok).mono ?_; rintro e w' ⟨rfl, hE', hst⟩; have hm := hI.mid hst; have kr := hm.advance_ hI.ok)
            | (go_at_call 17; refine kr.mono ?_; rintro e w'' ⟨rfl, hR, hmod⟩; have R1 : TlRel w b b2 sb2 w'' := ⟨_, _, TlAt.aft hE' hR hmod hI.ok.advance hI.new⟩; clear hm hE' hst hR hmod hI R0'))
          all_goals
            go_meet
            case rel => exact ⟨by simp, by assumption⟩
        case rest =>
          obtain ⟨rfl, now2, ws2, hI2⟩ := hcut
          clear hI R0' hc1' hc2'
          go_wp2_with fail
          refine (hI2.ep.in_ hI2.ok _ hw0 hw1).mono ?_
          rintro e w4 ⟨rfl, rfl⟩
          go_wp2_with fail
          refine (hI2.rf.in_ hI2.ok _).mono ?_
          rintro e w5 ⟨rfl, rfl⟩
          have c0 : w5.cell? ⟨b2, 0, none⟩ = some (.int .u32 now2) := hI2.rf.head.cell 0
          generalize (epAt ws2 l[k].snd).getD 0 = x1 at *
          generalize (epAt ws2 l[k].snd).isSome = x2 at *
          go_wp2_with fail
          go_quiet ((first
            | (go_at_call 12; exact Calls.quiet_of_same (hI2.drewN _).ep.now_)
            | (go_at_call 13; exact Calls.quiet_of_same ((hI2.drewN _).ep.safe_ hI2.ok))
            | (go_at_call 20; exact Calls.quiet_of_same ((hI2.drewN _).rf.safe_ hI2.ok))))
          have R1 : TlRel w b b2 sb2 (w5.drewN nq) := ⟨now2, ws2, hI2.drewN nq⟩
          clear hI2
          go_wp2_with fail
          go_roundw
          case rel => exact ⟨k + 1, by go_num, by omega, by omega, R1⟩
          case measure => simp [intOf]; omega
      · have hbw : Below w.heap.size w wr := by obtain ⟨now, ws, hI⟩ := hrel; exact hI.ep.below
        clear hrel
        go_wp2_with fail
        go_ret
        exact ⟨rfl, hbw⟩
    · have hbw : Below w.heap.size w wr := by obtain ⟨now, ws, hI⟩ := hrel; exact hI.ep.below
      clear hrel
      go_wp2_with fail
      go_ret
      exact ⟨rfl, hbw⟩

open Go.ChangeShapes Go.WideShapes Go.ChangeAt in
open Go.ChangeMaps (open_string) in
set_option maxRecDepth 100000 in
theorem epochTells_lifted (os : Os) (started : os.Started) (H : Type) (enc : TypeId × Value → H) :
    ReturnsInHanded {} Try.checked os 4 .any (Rows.epochTellsSpec.pre6 enc Try.prog Try.f4 Rows.epochTellsRow.domain false) (Rows.epochTellsSpec.post enc Try.prog Try.f4 false true false false) := by
  refine returnsInHanded_of_change (C := Try.checked) own started (by kernel_rfl) Try.func4
    (ChangeSpec.witness6 (enc := enc) (C := Try.checked) false ⟨#[], #[.int .i64 0, .int .u32 0, .slice none 0 0], []⟩ 8 (by kernel_rfl) (by kernel_rfl) (by kernel_rfl) (by kernel_rfl)) ?_
  intro W base args ds gs before hval0 hW _ _
  have hval : ∀ (j : Nat) t v, Try.f4.params[j]? = some t → args[j]? = some v → Value.okWide Try.prog W .any base t v := hval0
  have hW' := hW
  obtain ⟨p, q, hA0, hV, rfl, hfz, hnd⟩ := hW
  have hA : DataW.TrodAll enc Try.prog W 0 (fun _ => true) true Try.f4.params.toList args.toList ds p := hA0
  rw [Try.params4] at hA hval
  obtain ⟨v0, vs0, d0, ds0, p0, q0, hargs, rfl, rfl, h0, r0⟩ := trodAll_cons hA
  obtain ⟨v1, vs1, d1, ds1, p1, q1, rfl, rfl, rfl, h1, r1⟩ := trodAll_cons r0
  obtain ⟨v2, vs2, d2, ds2, p2, q2, rfl, rfl, rfl, h2, r2⟩ := trodAll_cons r1
  obtain ⟨rfl, rfl, rfl⟩ := trodAll_nil r2
  obtain rfl : args = #[v0, v1, v2] := by cases args; simp_all
  obtain ⟨rfl, rfl⟩ := trodVars_none hV
  obtain ⟨a0, rfl, -, -, w0⟩ := open_int Try.underlying3 (hval 0 _ v0 rfl rfl) h0
  have b0 := bounds_i64 w0
  obtain ⟨a1, rfl, -, -, w1⟩ := open_int Try.underlying22 (hval 1 _ v1 rfl rfl) h1
  have b1 := bounds_u32 w1
  obtain ⟨A, l, c, rfl, hm, hl⟩ := steps_of (hval 2 _ v2 rfl rfl) h2
  refine (tells_walk a0 a1 A l c W hm b1.1 b1.2 hl).mono fun e W' ⟨he, hb⟩ => ?_
  subst he
  exact ⟨_, rfl, law_post (tb := 4) laidOut (params_ok _ (by kernel_rfl)) rfl rfl Try.underlying4 hW' rfl hb⟩

theorem epochTells_over : Rows.epochTellsRow.holds Try.pinned (OpenSpec.ofChange Rows.epochTellsSpec) :=
  OpenClaim.holds_of_wide 4 Try.f4 rfl rfl rfl rfl rfl rfl rfl ⟨rfl, rfl, rfl, rfl, rfl⟩ rfl rfl rfl rfl rfl (by kernel_rfl) Try.func4 (by kernel_rfl)
    (of_decide_eq_true (by kernel_rfl)) (by unfold Func.isWrapper; first | (rw [if_pos (by decide +kernel)]; kernel_rfl) | (rw [if_neg (by decide +kernel)]; exact ⟨rfl, rfl⟩))
    (fun os started H enc _ => epochTells_lifted os started H enc)

theorem epochTells_holds : Rows.EpochTellsSaid := epochTells_over
end Go.Proofs.Ytpdifebbbolheaa
