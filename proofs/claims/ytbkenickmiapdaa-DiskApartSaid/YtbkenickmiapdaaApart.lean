/- DERIVED. 'tidemarklaw03.DiskApart' returns true at every input. -/
import Derived.Test.YtbkenickmiapdaaPlays
namespace Go.Proofs.Ytbkenickmiapdaa
set_option linter.unusedVariables false
set_option linter.unusedSimpArgs false
open Go.RowKit

abbrev mine : Nm := [109, 105, 110, 101]
abbrev ap (l : List (Nm × DF)) : DS := ⟨1048576, l, false⟩
section
variable {d : DS} {x : List UInt8}
theorem crash_get {n : Nm} {f : DF} : ∀ {l : List (Nm × DF)} (ks : List Int), fGet n l = some f → ∃ o, fGet n (dCrashL l ks) = some (dCut f o)
  | p :: r, ks, h => by
    unfold dCrashL
    rw [fGet_cons] at h ⊢
    split at h
    · rename_i e
      injection h with h
      subst h
      exact ⟨ks.head?, by simp only [e]; rfl⟩
    · rename_i e
      obtain ⟨o, ho⟩ := crash_get ks.tail h
      exact ⟨o, by simp only [e]; exact ho⟩
theorem cut_whole (o : Option Int) : dCut ⟨x, x.length⟩ o = ⟨x, x.length⟩ := by
  have h : dKeep ⟨x, x.length⟩ o = x.length := by
    unfold dKeep
    cases o with
    | none => rfl
    | some v => simp [Nat.mod_one]
  unfold dCut
  rw [h]
  simp
/-- A step that does not name it leaves it. -/
theorem apart_step (hs : fSort d.l) (h : fGet mine d.l = some ⟨x, x.length⟩) (s : StepV) (ha : s.a ≠ mine) (hb : s.b ≠ mine) : fGet mine (dStep d s).l = some ⟨x, x.length⟩ := by
  unfold dStep
  split
  · unfold dAppend; split
    · exact (fGet_put_other hs (Ne.symm ha)).trans h
    · exact h
  split
  · unfold dSync; split
    · exact (fGet_put_other hs (Ne.symm ha)).trans h
    · exact h
  split
  · unfold dRename; split
    · split
      · exact h
      · show fGet mine (fDel s.a (fPut s.b _ d.l)) = _
        rw [fGet_del_other hs.put (Ne.symm ha), fGet_put_other hs (Ne.symm hb)]
        exact h
    · exact h
  split
  · unfold dDelete; split
    · exact (fGet_del_other hs (Ne.symm ha)).trans h
    · exact h
  split
  · unfold dCrash; split
    · exact h
    · obtain ⟨o, ho⟩ := crash_get s.keep.l h
      rw [cut_whole] at ho
      exact ho
  split
  · exact h
  · exact h
theorem ap_e1 (h : x.length ≤ 100) : dAppendE (ap []) mine x = 0 := by
  have hm : dMay (ap []) false mine mine = 0 := by rfl
  unfold dAppendE
  rw [if_pos hm, if_neg]
  simp [dUsed]; omega
theorem ap_a1 (h : x.length ≤ 100) : dAppend (ap []) mine x = ap [(mine, ⟨x, 0⟩)] := by
  unfold dAppend
  rw [if_pos (ap_e1 h)]
  rfl
theorem ap_e2 : dMay (ap [(mine, ⟨x, 0⟩)]) true mine mine = 0 := by rfl
theorem ap_a2 : dSync (ap [(mine, ⟨x, 0⟩)]) mine = ap [(mine, ⟨x, x.length⟩)] := by rfl
theorem ap_read (hd : d.down = false) (h : fGet mine d.l = some ⟨x, x.length⟩) : dReadB d mine = x ∧ dMay d true mine mine = 0 := by
  have hm : dMay d true mine mine = 0 := by
    unfold dMay
    rw [hd, h]
    rfl
  exact ⟨by unfold dReadB dOld; rw [if_pos hm, h]; rfl, hm⟩
end

set_option maxRecDepth 100000 in
set_option maxHeartbeats 2000000 in
theorem apart_walk (B : Option Addr) (lb : List UInt8) (cb : Nat) (A : Option Addr) (l : List StepV) (c : Nat) (w : World) (hb : (kSl kU8 1).is w ⟨B, lb, cb⟩ [(⟨B, lb, cb⟩ : Sl UInt8).val]) (hl : (kSl kStep 5).is w ⟨A, l, c⟩ [(⟨A, l, c⟩ : Sl StepV).val]) :
    Calls Try.prog 7 #[.slice B lb.length cb, .slice A l.length c] w fun e w' => e = .returned (.bool true) ∧ Below w.heap.size w w' := by
  obtain ⟨m, hm⟩ : ∃ m : Nat, min (lb.length : Int) 100 = (m : Int) := ⟨min lb.length 100, by omega⟩
  have hmc : m ≤ cb := by have := hb.2.1; simp only at this; omega
  obtain ⟨x, hx, hx0, hxr⟩ : ∃ x : List UInt8, x.length = m ∧ x.length ≤ 100 ∧ Reads w w.heap.size 1 B x.length (x.map u8V) := ⟨lb.take m, by simp; omega, by simp; omega, Reads.cut (sl_reads hb fun _ _ h => h) m⟩
  subst hx
  have HX := hide hxr
  have HX0 := hide hx0
  have hll : l.length ≤ 9223372036854775807 := by have := hl.2.1; have := hl.2.2.1; simp only [maxLen] at *; omega
  have HL := hide hl
  clear hl hb hxr hx0
  go_enter Try.func7, Try.ntmps7
  go_wp2_with fail
  refine (dk_shown w).mono ?_
  rintro e w1 ⟨rfl, hb1⟩
  have E : Env w w1 [] := .nil hb1
  clear hb1
  go_wp2_with fail
  refine (E.dk_new 1048576 (by decide)).mono ?_
  rintro e w2 ⟨b1, rfl, E⟩
  replace E : Env w w2 [dkO b1 (ap []) 0 0] := E
  go_wp2_with fail
  have k1 := E.dk_append mine (by decide) B cb x (E.arg HX.out) (by decide) (by have := HX0.out; omega)
  rw [ap_e1 HX0.out, ap_a1 HX0.out] at k1
  refine k1.mono ?_
  rintro e w3 ⟨rfl, E⟩
  clear k1
  go_wp2_with fail
  have k1 := E.dk_sync mine (by decide)
  rw [ap_e2, ap_a2] at k1
  refine k1.mono ?_
  rintro e w4 ⟨rfl, E⟩
  clear k1
  go_wp2_with fail
  refine (E.rf_new 1048576 (by decide)).mono ?_
  rintro e w5 ⟨b2, rfl, E⟩
  replace E : Env w w5 [rfO b2 (ap []) 0 0, dkO b1 (ap [(mine, ⟨x, x.length⟩)]) (0 + 1) (0 + x.length)] := E
  have sx := str_of w5 _ B cb x (E.arg HX.out)
  go_wp2_with fail
  have k1 := E.rf_append mine x (by decide) (by have := HX0.out; omega) (by decide) (by decide)
  rw [ap_e1 HX0.out, ap_a1 HX0.out] at k1
  refine k1.mono ?_
  rintro e w6 ⟨rfl, E⟩
  clear k1 sx
  go_wp2_with fail
  have k1 := E.rf_sync mine (by decide) (by decide) (by have := HX0.out; omega)
  rw [ap_e2, ap_a2] at k1
  refine k1.mono ?_
  rintro e w7 ⟨rfl, E⟩
  clear k1
  have G0 : Hid (fGet mine (ap [(mine, ⟨x, x.length⟩)]).l = some ⟨x, x.length⟩) := hide rfl
  replace E := ((E.rf_mono (N' := 1) (U' := 100) (by omega) (by have := HX0.out; omega)).swap.dk_mono (N' := 1) (U' := 100) (by omega) (by have := HX0.out; omega))
  generalize ap [(mine, ⟨x, x.length⟩)] = d0 at *
  go_upto_block 0 with (fail)
  go_cut [] (fun wr => ∃ d : DS, Hid (fGet mine d.l = some ⟨x, x.length⟩) ∧ Env w wr [dkO b1 d 100 10000, rfO b2 d 100 10000])
  case first =>
    go_wp2_with fail
    go_loopw [8] (fun i wr => ∃ (k : Nat) (d : DS), i = .int .i64 k ∧ k ≤ 60 ∧ Hid (fGet mine d.l = some ⟨x, x.length⟩) ∧ Env w wr [dkO b1 d (1 + k) (100 + 100 * k), rfO b2 d (1 + k) (100 + 100 * k)]) (fun i _ => 60 - (intOf i).toNat)
    case atStart => exact ⟨0, d0, rfl, by omega, G0, E⟩
    case round =>
      clear E G0
      obtain ⟨k, d, rfl, hk, G, E⟩ := hrel
      by_cases hkl : k < l.length
      · by_cases hk4 : k < 60
        · obtain ⟨g, o, hA, hgl, hok, q0, q1, q2, q3, q4⟩ := step_at HL.out hkl
          subst hA
          generalize l[k] = s at *
          have hso : fSort d.l := E.dk_fit.ok.sort
          have HAP : Hid (s.a ≠ mine → s.b ≠ mine → fGet mine (dStep d s).l = some ⟨x, x.length⟩) := apart_step hso G.out s
          obtain ⟨kind, a, b, ⟨Ad, ld, cd⟩, ⟨Ak, lk, ck⟩⟩ := s
          have r0 := (E.below.cell (p := ⟨g, o + k * 5, none⟩) hgl).trans q0
          have r1 := (E.below.cell (p := ⟨g, o + k * 5 + 1, none⟩) hgl).trans q1
          have r2 := (E.below.cell (p := ⟨g, o + k * 5 + 2, none⟩) hgl).trans q2
          have r3 : wr.cell? ⟨g, o + k * 5 + 3, none⟩ = some (.slice Ad ld.length cd) := (E.below.cell (p := ⟨g, o + k * 5 + 3, none⟩) hgl).trans q3
          have r4 : wr.cell? ⟨g, o + k * 5 + 4, none⟩ = some (.slice Ak lk.length ck) := (E.below.cell (p := ⟨g, o + k * 5 + 4, none⟩) hgl).trans q4
          have HOK := hide hok
          clear q0 q1 q2 q3 q4 hok hso
          by_cases ha : a = mine
          · subst ha
            go_wp2_with fail
            go_roundw
            case rel => exact ⟨k + 1, d, by go_num, by omega, G, ((E.dk_mono (by omega) (by omega)).swap.rf_mono (by omega) (by omega)).swap⟩
            case measure => simp [intOf]; omega
          · have ha1 : (a == mine) = false := by simpa using ha
            have ha2 : (a != mine) = true := by simpa using ha
            by_cases hb : b = mine
            · subst hb
              clear ha
              go_wp2_with fail
              go_roundw
              case rel => exact ⟨k + 1, d, by go_num, by omega, G, ((E.dk_mono (by omega) (by omega)).swap.rf_mono (by omega) (by omega)).swap⟩
              case measure => simp [intOf]; omega
            · have hb1 : (b == mine) = false := by simpa using hb
              have hb2 : (b != mine) = true := by simpa using hb
              have G2 : Hid (fGet mine (dStep d ⟨kind, a, b, ⟨Ad, ld, cd⟩, ⟨Ak, lk, ck⟩⟩).l = some ⟨x, x.length⟩) := HAP.out ha hb
              clear ha hb
              go_wp2_with fail
              refine (does_walk HOK.out E (by omega) (by omega) (by omega) (by omega)).mono ?_
              rintro e w8 ⟨r, rfl, hr, E8⟩
              obtain rfl : r = true := hr rfl
              clear r0 r1 r2 r3 r4 hr E ha1 ha2 hb1 hb2
              go_wp2_with fail
              go_roundw
              case rel => exact ⟨k + 1, _, by go_num, by omega, G2, ((E8.dk_mono (by omega) (by omega)).swap.rf_mono (by omega) (by omega)).swap⟩
              case measure => simp [intOf]; omega
        · go_wp2_with fail
          go_meet
          case rel => exact ⟨d, G, ((E.dk_mono (by omega) (by omega)).swap.rf_mono (by omega) (by omega)).swap⟩
      · go_wp2_with fail
        go_meet
        case rel => exact ⟨d, G, ((E.dk_mono (by omega) (by omega)).swap.rf_mono (by omega) (by omega)).swap⟩
  case rest =>
    clear E G0
    obtain ⟨d, G, E⟩ := hcut
    go_wp2_with fail
    refine E.dk_start.mono ?_
    rintro e w8 ⟨rfl, E8⟩
    have hr := ap_read (d := { d with down := false }) rfl G.out
    go_wp2_with fail
    have k1 := E8.dk_read mine (by decide) (by decide)
    rw [hr.1, hr.2] at k1
    refine k1.mono ?_
    rintro e w9 ⟨A9, c9, rfl, E9⟩
    clear k1 hr E8
    have s9 := E9.str
    have sx := str_of w9 _ B cb x (E9.arg HX.out)
    have exx : (x == x) = true := by simp
    go_wp2_with fail
    go_ret
    exact ⟨rfl, E9.below⟩
-- ROW DiskApart|tidemark/tidemarklaw03|apart_walk A0 l0 c0 A1 l1 c1 W hs0 hs1|sl []uint8 opU8s;sl []tidemarklaw03.Step opSteps
-- ROWPART
open Go.ChangeShapes Go.WideShapes Go.ChangeAt in
open Go.ChangeMaps (open_string) in
set_option maxRecDepth 100000 in
theorem diskApart_lifted (os : Os) (started : os.Started) (H : Type) (enc : TypeId × Value → H) :
    ReturnsInHanded {} Try.checked os 7 .any (Rows.diskApartSpec.pre6 enc Try.prog Try.f7 Rows.diskApartRow.domain false) (Rows.diskApartSpec.post enc Try.prog Try.f7 false true false false) := by
  refine returnsInHanded_of_change (C := Try.checked) own started (by kernel_rfl) Try.func7
    (ChangeSpec.witness6 (enc := enc) (C := Try.checked) false ⟨#[], #[.slice none 0 0, .slice none 0 0], []⟩ 8 (by kernel_rfl) (by kernel_rfl) (by kernel_rfl) (by kernel_rfl)) ?_
  intro W base args ds gs before hval0 hW _ _
  have hval : ∀ (j : Nat) t v, Try.f7.params[j]? = some t → args[j]? = some v → Value.okWide Try.prog W .any base t v := hval0
  have hW' := hW
  obtain ⟨p, q, hA0, hV, rfl, hfz, hnd⟩ := hW
  have hA : DataW.TrodAll enc Try.prog W 0 (fun _ => true) true Try.f7.params.toList args.toList ds p := hA0
  rw [Try.params7] at hA hval
  obtain ⟨v0, vs0, d0, ds0, p0, q0, hargs, rfl, rfl, h0, r0⟩ := trodAll_cons hA
  obtain ⟨v1, vs1, d1, ds1, p1, q1, rfl, rfl, rfl, h1, r1⟩ := trodAll_cons r0
  obtain ⟨rfl, rfl, rfl⟩ := trodAll_nil r1
  obtain rfl : args = #[v0, v1] := by cases args; simp_all
  obtain ⟨rfl, rfl⟩ := trodVars_none hV
  obtain ⟨⟨A0, l0, c0⟩, rfl, hs0⟩ := sl_of Try.underlying22 opU8s (hval 0 _ v0 rfl rfl) h0
  obtain ⟨⟨A1, l1, c1⟩, rfl, hs1⟩ := sl_of Try.underlying45 opSteps (hval 1 _ v1 rfl rfl) h1
  refine (apart_walk A0 l0 c0 A1 l1 c1 W hs0 hs1).mono fun e W' ⟨he, hb⟩ => ?_
  subst he
  exact ⟨_, rfl, law_post (tb := 4) laidOut (params_ok _ (by kernel_rfl)) rfl rfl Try.underlying4 hW' rfl hb⟩

theorem diskApart_over : Rows.diskApartRow.holds Try.pinned (OpenSpec.ofChange Rows.diskApartSpec) :=
  OpenClaim.holds_of_wide 7 Try.f7 rfl rfl rfl rfl rfl rfl rfl ⟨rfl, rfl, rfl, rfl, rfl⟩ rfl rfl rfl rfl rfl (by kernel_rfl) Try.func7 (by kernel_rfl)
    (of_decide_eq_true (by kernel_rfl)) (by unfold Func.isWrapper; first | (rw [if_pos (by decide +kernel)]; kernel_rfl) | (rw [if_neg (by decide +kernel)]; exact ⟨rfl, rfl⟩))
    (fun os started H enc _ => diskApart_lifted os started H enc)

theorem diskApart_holds : Rows.DiskApartSaid := diskApart_over
end Go.Proofs.Ytbkenickmiapdaa
