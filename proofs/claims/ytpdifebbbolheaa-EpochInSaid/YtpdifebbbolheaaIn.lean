/- 'tidemarklaw12.EpochIn' returns true at every input: who is in stays in at the epoch that it came in at. No condition. -/
import Derived.Test.YtpdifebbbolheaaEps
namespace Go.Proofs.Ytpdifebbbolheaa
open Go.RowKit

theorem i64_and255 (n : Int) : bits .and .i64 n 255 = n % 256 := by
  have h : (BitVec.ofInt 64 n &&& BitVec.ofInt 64 255).toNat = (n % 256).toNat := by
    rw [BitVec.toNat_and, show (BitVec.ofInt 64 255).toNat = 255 from rfl, nat_mask8, BitVec.toNat_ofInt]
    omega
  show IntKind.i64.wrap ((BitVec.ofInt 64 n &&& BitVec.ofInt 64 255).toNat : Int) = _
  rw [h, IntKind.wrap_i64]
  omega

theorem in_info : (Try.prog.info? 22).map (fun i => (i.zero, i.size, i.bytes)) = some (some (.int .u32 0), 1, 4) := by kernel_rfl

/-- What the law's own row says of a worker. -/
def inVal (x : Option Int) : Value := .int .u32 (x.getD 0)

structure InAt (w0 : World) (b ob N k : Nat) (wr : World) (now : Int) (ws : List (Option Int)) : Prop where
  ep : EpB w0 wr (fun j => j = ob) b now ws
  ok : EpOk now ws
  len : ws.length = N
  hi : now ≤ 9 + k
  row : Blk wr ob 22 (ws.map inVal).toArray
  new : w0.heap.size ≤ ob
def InRel (w0 : World) (b ob N k : Nat) (wr : World) : Prop := ∃ now ws, InAt w0 b ob N k wr now ws

theorem InAt.hT {w0 wr : World} {b ob N k : Nat} {now : Int} {ws : List (Option Int)} (h : InAt w0 b ob N k wr now ws) : ∀ j, (fun j => j = ob) j → j < wr.heap.size := by
  rintro j rfl; exact h.row.lt
theorem InAt.cell {w0 wr : World} {b ob N k : Nat} {now : Int} {ws : List (Option Int)} (h : InAt w0 b ob N k wr now ws) {q : Nat} (hq : q < N) : wr.cell? ⟨ob, q, none⟩ = some (.int .u32 ((epAt ws q).getD 0)) := by
  rw [h.row.cell q]
  have hl : q < ws.length := by rw [h.len]; exact hq
  rw [epAt_of (List.getElem?_eq_getElem hl)]
  simp [hl, inVal]
/-- A call that leaves the row alone. -/
theorem InAt.call {w0 wr w' : World} {b ob N k : Nat} {now now' : Int} {ws ws' : List (Option Int)} (h : InAt w0 b ob N k wr now ws) (hE : EpB w0 w' (fun j => j = ob) b now' ws') (hs : Stays (fun j => j = ob) wr w') (ok : EpOk now' ws') (hw : ws' = ws) (hi : now' ≤ 9 + (k + 1)) : InAt w0 b ob N (k + 1) w' now' ws' := by
  subst hw
  exact ⟨hE, ok, h.len, hi, h.row.keep (hs.block ob rfl), h.new⟩
theorem InAt.next {w0 wr : World} {b ob N k : Nat} {now : Int} {ws : List (Option Int)} (h : InAt w0 b ob N k wr now ws) : InAt w0 b ob N (k + 1) wr now ws :=
  ⟨h.ep, h.ok, h.len, by have := h.hi; omega, h.row, h.new⟩
/-- A call, and a store into the row. -/
theorem InAt.store {w0 wr w' : World} {b ob N k q : Nat} {now : Int} {ws ws' : List (Option Int)} {x : Option Int} (h : InAt w0 b ob N k wr now ws) (hE : EpB w0 w' (fun j => j = ob) b now ws') (hs : Stays (fun j => j = ob) wr w') (ok : EpOk now ws')
    (hw : ws' = ws.set q x) : InAt w0 b ob N (k + 1) (w'.setCell ⟨ob, q, none⟩ (inVal x)) now ws' := by
  subst hw
  have hrow : Blk w' ob 22 (ws.map inVal).toArray := h.row.keep (hs.block ob rfl)
  refine ⟨hE.keep (fun j _ hj _ => ?_) (fun hb => hb.setCell (p := ⟨ob, q, none⟩) h.new _), ok, by simp [h.len], by have := h.hi; omega, ?_, h.new⟩
  · exact Below.heap_setCell w' ⟨ob, q, none⟩ _ j hj
  · have := hrow.set_ q (inVal x)
    simpa [List.map_set] using this

theorem epEnter_some {now : Int} {ws : List (Option Int)} {q : Nat} {a : Int} (h : epAt ws q = some a) : epEnter now ws q = ws ∧ epEnterN now ws q = 0 ∧ epEnterE ws q = 10 := by
  have hi : epIs ws q = true := by
    cases hx : epIs ws q with
    | true => rfl
    | false => unfold epAt at h; rw [hx] at h; cases h
  unfold epEnter epEnterN epEnterE
  rw [hi, h]
  exact ⟨rfl, rfl, rfl⟩
theorem epEnter_free {now : Int} {ws : List (Option Int)} {q : Nat} (hq : q < ws.length) (h : epAt ws q = none) : epEnter now ws q = ws.set q (some now) ∧ epEnterN now ws q = now ∧ epEnterE ws q = 0 := by
  unfold epEnter epEnterN epEnterE
  rw [epIs_yes hq, h]
  exact ⟨rfl, rfl, rfl⟩
theorem epLeave_in {ws : List (Option Int)} {q : Nat} {a : Int} (hq : q < ws.length) (h : epAt ws q = some a) : epLeave ws q = ws.set q none ∧ epLeaveE ws q = 0 := by
  unfold epLeave epLeaveE
  rw [epIs_yes hq, h]
  exact ⟨rfl, rfl⟩
theorem epLeave_free {ws : List (Option Int)} {q : Nat} (hq : q < ws.length) (h : epAt ws q = none) : epLeave ws q = ws.set q none ∧ epLeaveE ws q = 10 := by
  unfold epLeave epLeaveE
  rw [epIs_yes hq, h]
  exact ⟨rfl, rfl⟩
theorem epMay_cases (now : Int) (ws : List (Option Int)) : (epMay now ws = false ∧ epAdvance now ws = now) ∨ (epMay now ws = true ∧ epAdvance now ws = now + 1) := by
  unfold epAdvance
  cases epMay now ws with
  | true => exact .inr ⟨rfl, rfl⟩
  | false => exact .inl ⟨rfl, rfl⟩

set_option maxRecDepth 100000 in
set_option maxHeartbeats 1000000 in
theorem in_walk (wk : Int) (A : Option Addr) (l : List (Int × Int)) (c : Nat) (w : World) (hn : l.length ≤ maxLen) (hl : StepsIn w A l) :
    Calls Try.prog 6 #[.int .i64 wk, .slice A l.length c] w fun e w' => e = .returned (.bool true) ∧ Below w.heap.size w w' := by
  unfold maxLen at hn
  have hb := i64_and7 wk
  obtain ⟨N, hN⟩ : ∃ N : Nat, 1 + wk % 8 = (N : Int) := ⟨(1 + wk % 8).toNat, by omega⟩
  have hN1 : 1 ≤ N ∧ N ≤ 8 := by omega
  have HN := hide hN
  clear hN
  go_enter Try.func6, Try.ntmps6
  go_wp2_with fail
  refine (ep_shown w).mono ?_
  rintro e w1 ⟨rfl, hb1⟩
  go_wp2_with fail
  try rw [HN.out]
  refine (epb_new w w1 Foot.none N 9 hN1.1 hN1.2 (by decide) no_T hb1).mono ?_
  rintro e w2 ⟨rfl, h2, -⟩
  have ok2 : EpOk 9 (List.replicate N none) := epOk_new N 9 hN1.2 (by decide) (by decide)
  generalize w1.heap.size + 1 = b at *
  have hmk := run_make_row' (P := Try.prog) 41 22 (.int .u32 0) 4 Try.underlying41 in_info rfl .i64 .i64 N (by omega) (by omega)
  have R0 : InRel w b w2.heap.size N 0 (w2.alloc (.cells (madeCells #[.int .u32 0] N) 22)) := by
    refine ⟨9, List.replicate N none, ?_, ok2, by simp, by omega, ?_, h2.below.size⟩
    · obtain ⟨S, hS, hS1, hS2⟩ := h2
      have hlt : ∀ k, S k → k < w2.heap.size := by obtain ⟨_, _, hS⟩ := hS; exact hS.lt
      refine ⟨S, hS.keep fun k hk => Below.heap_alloc _ _ _ (hlt k hk), fun k hk => ⟨(hS1 k hk).1, fun e => ?_⟩, hS2.alloc hS2.size _⟩
      have := hlt k hk
      simp at e; omega
    · have := Blk.new w2 22 (madeCells #[.int .u32 0] N)
      rw [made_one] at this
      rw [made_one]
      simpa [inVal] using this
  generalize hob : w2.heap.size = ob at R0
  go_wp2_with fail

  clear hob h2 ok2 hb1 hmk
  generalize w2.alloc (.cells (madeCells #[.int .u32 0] N) 22) = w3 at *
  go_loopw [9] (fun i wr => ∃ k : Nat, i = .int .i64 k ∧ k ≤ l.length ∧ k ≤ 200 ∧ InRel w b ob N k wr) (fun i _ => 200 - (intOf i).toNat)
  case atStart => exact ⟨0, rfl, by omega, by omega, R0⟩
  case round =>
    clear R0
    obtain ⟨k, rfl, hk, hk2, hrel⟩ := hrel
    by_cases hlk : k < l.length
    · by_cases hk3 : k < 200
      · obtain ⟨ab, ao, rfl, hab, hc1, hc2, hw0, hw1⟩ := hl k hlk
        obtain ⟨now, ws, hI⟩ := hrel
        have hc1' := (hI.ep.below.cell (p := ⟨ab, ao + k * 2, none⟩) hab).trans hc1
        have hc2' := (hI.ep.below.cell (p := ⟨ab, ao + k * 2 + 1, none⟩) hab).trans hc2
        clear hl hc1 hc2 hab
        have hm := i64_and255 l[k].2
        obtain ⟨q, hq⟩ : ∃ q : Nat, l[k].2 % 256 % (N : Int) = (q : Int) := ⟨(l[k].2 % 256 % (N : Int)).toNat, by have := Int.emod_nonneg (l[k].2 % 256) (b := (N : Int)) (by omega); omega⟩
        have hqN : q < N := by have := Int.emod_lt_of_pos (l[k].2 % 256) (b := (N : Int)) (by omega); omega
        have HQ := hide hq
        clear hq
        go_wp2_with fail
        rw [HQ.out]
        refine hI.ep.now_.mono ?_
        rintro e w4 ⟨rfl, rfl⟩
        have hcell := hI.cell hqN
        have hfz : ∀ i, w4.frozen? ⟨ob, i, none⟩ = false := hI.row.frozen
        have R0' : InRel w b ob N (k + 1) w4 := ⟨now, ws, hI.next⟩
        have hqw : q < ws.length := by rw [hI.len]; exact hqN
        have ha0 : ∀ a, epAt ws q = some a → (a == 0) = false := fun a h => by have := hI.ok.at_lo a (epAt_mem h); simp; omega
        have hn1 := hI.ok.lo
        have hn2 := hI.hi
        have HA0 := hide ha0
        clear ha0
        go_upto_block 2 with (fail)
        go_cut [] (fun wr => InRel w b ob N (k + 1) wr)
        case first =>
          cases hat : epAt ws q with
          | none =>
            rw [hat] at hcell
            obtain ⟨x1, x2, x3⟩ := epEnter_free (now := now) hqw hat
            obtain ⟨y1, y2⟩ := epLeave_free hqw hat
            have ke := hI.ep.enter_ hI.hT hI.ok q (by omega) (by omega)
            rw [x2, x3] at ke
            have kl := hI.ep.leave_ hI.hT hI.ok q (by omega) (by omega)
            rw [y2] at kl
            have ka := hI.ep.advance_ hI.hT hI.ok
            have KE := hide ke
            have KL := hide kl
            have KA := hide ka
            have X1 := hide x1
            have Y1 := hide y1
            clear ke kl ka x1 x2 x3 y1 y2 hat
            go_wp2_with (first
              | (go_at_call 9; refine KE.out.mono ?_; rintro e w' ⟨rfl, hE', hst⟩; have R1 : InRel w b ob N (k + 1) (w'.setCell ⟨ob, q, none⟩ (.int .u32 now)) := ⟨_, _, hI.store (x := some now) hE' hst (hI.ok.enter _) X1.out⟩; have hc4 := (World.cell?_of_block (hst.block ob rfl) : w'.cell? ⟨ob, q, none⟩ = _).trans hcell; have hf4 := (World.frozen?_of_block (hst.block ob rfl) : w'.frozen? ⟨ob, q, none⟩ = _).trans (hfz q); clear hE' hst hcell hfz hI KE KL KA R0')
              | (go_at_call 10; refine KL.out.mono ?_; rintro e w' ⟨rfl, hE', hst⟩; have R1 : InRel w b ob N (k + 1) (w'.setCell ⟨ob, q, none⟩ (.int .u32 0)) := ⟨_, _, hI.store (x := none) hE' hst (hI.ok.leave _) Y1.out⟩; have hc4 := (World.cell?_of_block (hst.block ob rfl) : w'.cell? ⟨ob, q, none⟩ = _).trans hcell; have hf4 := (World.frozen?_of_block (hst.block ob rfl) : w'.frozen? ⟨ob, q, none⟩ = _).trans (hfz q); clear hE' hst hcell hfz hI KE KL KA R0')
              | (go_at_call 11; refine KA.out.mono ?_; rintro e w' ⟨rfl, hE', hst⟩; have R1 : InRel w b ob N (k + 1) w' := ⟨_, _, hI.call hE' hst hI.ok.advance rfl (by have := epAdvance_le now ws; omega)⟩; have kn := hE'.now_; clear hE' hst; rcases epMay_cases now ws with ⟨e1, e2⟩ | ⟨e1, e2⟩ <;> (rw [e2] at kn; rw [e1]; clear e1 e2 hI KE KL KA R0'))
              | (go_at_call 12; refine kn.mono ?_; rintro e w'' ⟨rfl, rfl⟩))
            all_goals
              go_meet
              case rel => assumption
          | some a =>
            rw [hat] at hcell
            have haz := HA0.out a hat
            have haz2 : (a != 0) = true := by rw [bne, haz]; rfl
            obtain ⟨x1, x2, x3⟩ := epEnter_some (now := now) hat
            obtain ⟨y1, y2⟩ := epLeave_in hqw hat
            have ke := hI.ep.enter_ hI.hT hI.ok q (by omega) (by omega)
            rw [x2, x3] at ke
            have kl := hI.ep.leave_ hI.hT hI.ok q (by omega) (by omega)
            rw [y2] at kl
            have ka := hI.ep.advance_ hI.hT hI.ok
            have KE := hide ke
            have KL := hide kl
            have KA := hide ka
            have X1 := hide x1
            have Y1 := hide y1
            clear ke kl ka x1 x2 x3 y1 y2 hat
            go_wp2_with (first
              | (go_at_call 9; refine KE.out.mono ?_; rintro e w' ⟨rfl, hE', hst⟩; have R1 : InRel w b ob N (k + 1) w' := ⟨_, _, hI.call hE' hst (hI.ok.enter _) X1.out (by omega)⟩; have hc4 := (World.cell?_of_block (hst.block ob rfl) : w'.cell? ⟨ob, q, none⟩ = _).trans hcell; have hf4 := (World.frozen?_of_block (hst.block ob rfl) : w'.frozen? ⟨ob, q, none⟩ = _).trans (hfz q); clear hE' hst hcell hfz hI KE KL KA R0')
              | (go_at_call 10; refine KL.out.mono ?_; rintro e w' ⟨rfl, hE', hst⟩; have R1 : InRel w b ob N (k + 1) (w'.setCell ⟨ob, q, none⟩ (.int .u32 0)) := ⟨_, _, hI.store (x := none) hE' hst (hI.ok.leave _) Y1.out⟩; have hc4 := (World.cell?_of_block (hst.block ob rfl) : w'.cell? ⟨ob, q, none⟩ = _).trans hcell; have hf4 := (World.frozen?_of_block (hst.block ob rfl) : w'.frozen? ⟨ob, q, none⟩ = _).trans (hfz q); clear hE' hst hcell hfz hI KE KL KA R0')
              | (go_at_call 11; refine KA.out.mono ?_; rintro e w' ⟨rfl, hE', hst⟩; have R1 : InRel w b ob N (k + 1) w' := ⟨_, _, hI.call hE' hst hI.ok.advance rfl (by have := epAdvance_le now ws; omega)⟩; have kn := hE'.now_; clear hE' hst; rcases epMay_cases now ws with ⟨e1, e2⟩ | ⟨e1, e2⟩ <;> (rw [e2] at kn; rw [e1]; clear e1 e2 hI KE KL KA R0'))
              | (go_at_call 12; refine kn.mono ?_; rintro e w'' ⟨rfl, rfl⟩))
            all_goals
              go_meet
              case rel => assumption
        case rest =>
          clear R0' hcell hfz hqw HA0 hn1 hn2 hI hc1' hc2' hw0 hw1 hm HQ hqN
          obtain ⟨now2, ws2, hI⟩ := hcut
          go_wp2_with fail
          go_loop [16] (fun i => ∃ j : Nat, i = .int .i64 j ∧ j ≤ N) (fun i => N - (intOf i).toNat)
          case atStart => exact ⟨0, rfl, Nat.zero_le _⟩
          case round =>
            obtain ⟨j, rfl, hj⟩ := hrel
            by_cases hlt : j < N
            · have kin := hI.ep.in_ hI.ok j (by omega) (by omega)
              have hcell := hI.cell hlt
              cases hat : epAt ws2 j with
              | none =>
                rw [hat] at kin hcell
                have KIN := hide kin
                clear kin hat
                go_wp2_with fail
                refine KIN.out.mono ?_
                rintro e w5 ⟨rfl, rfl⟩
                go_wp2_with fail
                go_round
                case rel => exact ⟨j + 1, by go_num, by omega⟩
                case measure => simp [intOf]; omega
              | some a =>
                rw [hat] at kin hcell
                have haz : (a == 0) = false := by have := hI.ok.at_lo a (epAt_mem hat); simp; omega
                have haz2 : (a != 0) = true := by rw [bne, haz]; rfl
                have KIN := hide kin
                clear kin hat
                go_wp2_with fail
                refine KIN.out.mono ?_
                rintro e w5 ⟨rfl, rfl⟩
                go_wp2_with fail
                go_round
                case rel => exact ⟨j + 1, by go_num, by omega⟩
                case measure => simp [intOf]; omega
            · have R1 : InRel w b ob N (k + 1) wc := ⟨now2, ws2, hI⟩
              clear hI
              go_wp2_with fail
              go_roundw
              case rel => exact ⟨k + 1, by go_num, by omega, by omega, R1⟩
              case measure => simp [intOf]; omega
      · have hbw : Below w.heap.size w wr := by obtain ⟨now, ws, hI⟩ := hrel; exact hI.ep.below
        clear hrel
        go_wp2_with fail
        go_ret
        exact ⟨rfl, hbw⟩
    · have hbw : Below w.heap.size w wr := by obtain ⟨now, ws, hI⟩ := hrel; exact hI.ep.below
      clear hrel
      go_wp2_with fail
      go_ret
      exact ⟨rfl, hbw⟩

open Go.ChangeShapes Go.WideShapes Go.ChangeAt in
open Go.ChangeMaps (open_string) in
set_option maxRecDepth 100000 in
theorem epochIn_lifted (os : Os) (started : os.Started) (H : Type) (enc : TypeId × Value → H) :
    ReturnsInHanded {} Try.checked os 6 .any (Rows.epochInSpec.pre6 enc Try.prog Try.f6 Rows.epochInRow.domain false) (Rows.epochInSpec.post enc Try.prog Try.f6 false true false false) := by
  refine returnsInHanded_of_change (C := Try.checked) own started (by kernel_rfl) Try.func6
    (ChangeSpec.witness6 (enc := enc) (C := Try.checked) false ⟨#[], #[.int .i64 0, .slice none 0 0], []⟩ 8 (by kernel_rfl) (by kernel_rfl) (by kernel_rfl) (by kernel_rfl)) ?_
  intro W base args ds gs before hval0 hW _ _
  have hval : ∀ (j : Nat) t v, Try.f6.params[j]? = some t → args[j]? = some v → Value.okWide Try.prog W .any base t v := hval0
  have hW' := hW
  obtain ⟨p, q, hA0, hV, rfl, hfz, hnd⟩ := hW
  have hA : DataW.TrodAll enc Try.prog W 0 (fun _ => true) true Try.f6.params.toList args.toList ds p := hA0
  rw [Try.params6] at hA hval
  obtain ⟨v0, vs0, d0, ds0, p0, q0, hargs, rfl, rfl, h0, r0⟩ := trodAll_cons hA
  obtain ⟨v1, vs1, d1, ds1, p1, q1, rfl, rfl, rfl, h1, r1⟩ := trodAll_cons r0
  obtain ⟨rfl, rfl, rfl⟩ := trodAll_nil r1
  obtain rfl : args = #[v0, v1] := by cases args; simp_all
  obtain ⟨rfl, rfl⟩ := trodVars_none hV
  obtain ⟨a0, rfl, -, -, w0⟩ := open_int Try.underlying3 (hval 0 _ v0 rfl rfl) h0
  have b0 := bounds_i64 w0
  obtain ⟨A, l, c, rfl, hm, hl⟩ := steps_of (hval 1 _ v1 rfl rfl) h1
  refine (in_walk a0 A l c W hm hl).mono fun e W' ⟨he, hb⟩ => ?_
  subst he
  exact ⟨_, rfl, law_post (tb := 4) laidOut (params_ok _ (by kernel_rfl)) rfl rfl Try.underlying4 hW' rfl hb⟩

theorem epochIn_over : Rows.epochInRow.holds Try.pinned (OpenSpec.ofChange Rows.epochInSpec) :=
  OpenClaim.holds_of_wide 6 Try.f6 rfl rfl rfl rfl rfl rfl rfl ⟨rfl, rfl, rfl, rfl, rfl⟩ rfl rfl rfl rfl rfl (by kernel_rfl) Try.func6 (by kernel_rfl)
    (of_decide_eq_true (by kernel_rfl)) (by unfold Func.isWrapper; first | (rw [if_pos (by decide +kernel)]; kernel_rfl) | (rw [if_neg (by decide +kernel)]; exact ⟨rfl, rfl⟩))
    (fun os started H enc _ => epochIn_lifted os started H enc)

theorem epochIn_holds : Rows.EpochInSaid := epochIn_over
end Go.Proofs.Ytpdifebbbolheaa
