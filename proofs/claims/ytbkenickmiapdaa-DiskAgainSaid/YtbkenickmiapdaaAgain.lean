/- DERIVED. 'tidemarklaw03.DiskAgain' returns true at every input. -/
import Derived.Test.YtbkenickmiapdaaPlays
namespace Go.Proofs.Ytbkenickmiapdaa
set_option linter.unusedVariables false
set_option linter.unusedSimpArgs false
open Go.RowKit

abbrev d00 : DS := ⟨0, [], false⟩
abbrev ptrO (b : Nat) : Value := .pointer (some ⟨b, 0, none⟩)
/-- Behind i rounds: so many of the document's disks are made. -/
def AgRel (w0 : World) (g i : Nat) (R : List Ob) (w : World) : Prop :=
  (i = 0 ∧ Env w0 w (cellsO g 55 #[.pointer none, .pointer none] :: R)) ∨
  (∃ c, i = 1 ∧ Env w0 w (cellsO g 55 #[ptrO c, .pointer none] :: rfO c d00 0 0 :: R)) ∨
  (∃ c e, i = 2 ∧ Env w0 w (cellsO g 55 #[ptrO c, ptrO e] :: rfO c d00 0 0 :: rfO e d00 0 0 :: R))

set_option maxRecDepth 100000 in
set_option maxHeartbeats 4000000 in
theorem again_walk (lim : Int) (A : Option Addr) (l : List StepV) (c : Nat) (w : World) (hl0 : lim ≤ 9223372036854775807) (hl : (kSl kStep 5).is w ⟨A, l, c⟩ [(⟨A, l, c⟩ : Sl StepV).val]) :
    Calls Try.prog 10 #[.int .i64 lim, .slice A l.length c] w fun e w' => e = .returned (.bool true) ∧ Below w.heap.size w w' := by
  have hll : l.length ≤ 9223372036854775807 := by have := hl.2.1; have := hl.2.2.1; simp only [maxLen] at *; omega
  have HL := hide hl
  have HL0 := hide hl0
  clear hl hl0
  go_enter Try.func10, Try.ntmps10
  go_wp2_with fail
  refine (dk_shown w).mono ?_
  rintro e w1 ⟨rfl, hb1⟩
  have E : Env w w1 [] := .nil hb1
  clear hb1
  go_wp2_with fail
  refine (E.dk_new lim HL0.out).mono ?_
  rintro e w2 ⟨b1, rfl, E⟩
  go_wp2_with fail
  refine (E.dk_new lim HL0.out).mono ?_
  rintro e w3 ⟨b2, rfl, E⟩
  replace E := E.swap
  generalize (⟨if lim < 0 then 0 else lim, [], false⟩ : DS) = d0 at E
  go_wp2_with fail
  go_loopw [8] (fun i wr => ∃ (k : Nat) (d : DS), i = .int .i64 k ∧ k ≤ 80 ∧ Env w wr [dkO b1 d k (100 * k), dkO b2 d k (100 * k)]) (fun i _ => 80 - (intOf i).toNat)
  case atStart => exact ⟨0, d0, rfl, by omega, E⟩
  case round =>
    clear E
    obtain ⟨k, d, rfl, hk, E⟩ := hrel
    by_cases hkl : k < l.length
    · by_cases hk4 : k < 80
      · have hfit := E.dk_fit
        have hns := list_short hfit.ok
        have hnl : (dList d).length ≤ 100 := by
          have := hfit.files
          unfold dList
          split
          · simp
          · simp; omega
        have HNS := hide hns
        clear hfit hns
        go_wp2_with fail
        refine (E.swap.dk_list (by omega)).mono ?_
        rintro e w4 ⟨A4, c4, rfl, E4⟩
        generalize dList d = ns at *
        clear E
        go_upto_block 2 with (fail)
        go_cut [] (fun wr => Env w wr [dkO b2 d k (100 * k), dkO b1 d k (100 * k)])
        case first =>
          go_wp2_with fail
          go_loopw [10] (fun i wr => ∃ j : Nat, i = .int .i64 j ∧ j ≤ ns.length ∧ Env w wr [rowO 9 1 (.slice A4 ns.length c4) (ns.map strV), dkO b2 d k (100 * k), dkO b1 d k (100 * k)]) (fun i _ => ns.length - (intOf i).toNat)
          case atStart => exact ⟨0, rfl, Nat.zero_le _, E4⟩
          case round =>
            clear E4
            obtain ⟨j, rfl, hj, E⟩ := hrel
            by_cases hlt : j < ns.length
            · have hjn : (ns.map strV)[j]? = some (strV ns[j]) := by simp [hlt]
              obtain ⟨g4, h4, q4⟩ := E.row_cell (by simp; omega)
              subst h4
              have l4 : wr.cell? ⟨g4, j, none⟩ = some (.string ⟨ns[j].toArray⟩) := q4 j _ hjn
              have hx64 := HNS.out _ (List.getElem_mem hlt)
              generalize ns[j] = x at *
              have HJN := hide hjn
              have hnm : Hid (x.length ≤ maxLen) := by simp only [maxLen]; exact hide (by omega)
              have hnm2 : Hid ((x ++ [63]).length ≤ maxLen) := by simp only [maxLen, List.length_append, List.length_singleton]; exact hide (by omega)
              have hcat : (⟨x.toArray⟩ : ByteArray) ++ ⟨#[63]⟩ = ⟨(x ++ [63]).toArray⟩ := by
                apply ByteArray.ext
                simp
              clear q4 hjn
              go_wp2_with fail
              refine (E.swap.dk_read x hnm.out (by omega)).mono ?_
              rintro e w5 ⟨A5, c5, rfl, E5⟩
              clear l4 E
              obtain ⟨g4', h4, q4⟩ := Env.row_cell (E5.front 2 rfl) (by simp; omega)
              obtain rfl : g4 = g4' := by injection h4 with h4; injection h4
              have l4 : w5.cell? ⟨g4, j, none⟩ = some (.string ⟨x.toArray⟩) := q4 j _ HJN.out
              clear q4 h4
              obtain ⟨y, hy⟩ : ∃ y, x ++ [63] = y := ⟨_, rfl⟩
              rw [hy] at hcat hnm2
              clear hy
              go_wp2_with fail
              refine (E5.drop.dk_read y hnm2.out (by omega)).mono ?_
              rintro e w6 ⟨A6, c6, rfl, E6⟩
              clear l4 E5 hcat
              go_wp2_with fail
              go_roundw
              case rel => exact ⟨j + 1, by go_num, by omega, E6.drop.swap⟩
              case measure => simp [intOf]; omega
            · go_wp2_with fail
              go_meet
              case rel => exact E.drop
        case rest =>
          clear E4 hnl HNS
          have E := hcut
          replace E := E.swap
          go_upto_block 4 with (fail)
          have E5 := E.alloc 55 #[.pointer none, .pointer none]
          generalize hg : wc.heap.size = g at E5
          generalize hw5 : wc.alloc (.cells #[.pointer none, .pointer none] 55) = w5 at E5
          try rw [hg]
          try rw [hw5]
          clear hg hw5 E
          go_cut [] (fun wr => ∃ p q, Env w wr [cellsO g 55 #[ptrO p, ptrO q], rfO p d00 0 0, rfO q d00 0 0, dkO b1 d k (100 * k), dkO b2 d k (100 * k)])
          case first =>
            go_wp2_with fail
            go_loopw [12] (fun i wr => ∃ j : Nat, i = .int .i64 j ∧ Hid (AgRel w g j [dkO b1 d k (100 * k), dkO b2 d k (100 * k)] wr)) (fun i _ => 2 - (intOf i).toNat)
            case atStart => exact ⟨0, rfl, .inl ⟨rfl, E5⟩⟩
            case round =>
              clear E5
              obtain ⟨j, rfl, hR⟩ := hrel
              rcases hR.out with ⟨rfl, E⟩ | ⟨p, rfl, E⟩ | ⟨p, q, rfl, E⟩
              · go_wp2_with fail
                refine (E.rf_new 0 (by decide)).mono ?_
                rintro e w6 ⟨p, rfl, E6⟩
                replace E6 : Env w w6 (cellsO g 55 #[.pointer none, .pointer none] :: rfO p d00 0 0 :: _) := E6.swap
                have m0 : w6.cell? ⟨g, 0, none⟩ = some (.pointer none) := E6.cell 0
                have m1 : w6.frozen? ⟨g, 0, none⟩ = false := E6.blk.frozen 0
                have E7 := E6.set 0 (ptrO p)
                clear E E6 hR
                go_wp2_with fail
                go_roundw
                case rel => exact ⟨1, by go_num, .inr (.inl ⟨p, rfl, E7⟩)⟩
                case measure => simp [intOf]
              · go_wp2_with fail
                refine (E.rf_new 0 (by decide)).mono ?_
                rintro e w6 ⟨q, rfl, E6⟩
                replace E6 : Env w w6 (cellsO g 55 #[ptrO p, .pointer none] :: rfO p d00 0 0 :: rfO q d00 0 0 :: _) := ((E6.front 2 rfl).front 2 rfl)
                have m0 : w6.cell? ⟨g, 1, none⟩ = some (.pointer none) := E6.cell 1
                have m1 : w6.frozen? ⟨g, 1, none⟩ = false := E6.blk.frozen 1
                have E7 := E6.set 1 (ptrO q)
                clear E E6 hR
                go_wp2_with fail
                go_roundw
                case rel => exact ⟨2, by go_num, .inr (.inr ⟨p, q, rfl, E7⟩)⟩
                case measure => simp [intOf]
              · go_wp2_with fail
                go_meet
                case rel => exact ⟨p, q, E⟩
          case rest =>
            clear E5
            obtain ⟨p, q, E⟩ := hcut
            obtain ⟨g0, o, hA, hgl, hok, q0, q1, q2, q3, q4⟩ := step_at HL.out hkl
            subst hA
            generalize l[k] = s at *
            obtain ⟨kind, a, b, ⟨Ad, ld, cd⟩, ⟨Ak, lk, ck⟩⟩ := s
            have HOK := hide hok
            have HAT : Hid (∀ w' L, Env w w' L → w'.cell? ⟨g0, o + k * 5, none⟩ = some (.int .i64 kind) ∧ w'.cell? ⟨g0, o + k * 5 + 1, none⟩ = some (.string ⟨a.toArray⟩) ∧ w'.cell? ⟨g0, o + k * 5 + 2, none⟩ = some (.string ⟨b.toArray⟩) ∧ w'.cell? ⟨g0, o + k * 5 + 3, none⟩ = some (.slice Ad ld.length cd) ∧ w'.cell? ⟨g0, o + k * 5 + 4, none⟩ = some (.slice Ak lk.length ck)) := fun w' L E =>
              ⟨(E.below.cell (p := ⟨g0, o + k * 5, none⟩) hgl).trans q0, (E.below.cell (p := ⟨g0, o + k * 5 + 1, none⟩) hgl).trans q1, (E.below.cell (p := ⟨g0, o + k * 5 + 2, none⟩) hgl).trans q2, (E.below.cell (p := ⟨g0, o + k * 5 + 3, none⟩) hgl).trans q3, (E.below.cell (p := ⟨g0, o + k * 5 + 4, none⟩) hgl).trans q4⟩
            have HD : Hid (∀ (w' : World) (bb : Nat) (r : Nat) (R : List Ob), Env w w' (dkO bb d k (100 * k) :: rfO r d00 0 0 :: R) → Calls Try.prog 26 #[.pointer (some ⟨bb, 0, none⟩), .pointer (some ⟨r, 0, none⟩), .agg #[.int .i64 kind, .string ⟨a.toArray⟩, .string ⟨b.toArray⟩, .slice Ad ld.length cd, .slice Ak lk.length ck]] w' fun e w'' => ∃ r', e = .returned (.bool r') ∧ Env w w'' (dkO bb (dStep d ⟨kind, a, b, ⟨Ad, ld, cd⟩, ⟨Ak, lk, ck⟩⟩) (k + 1) (100 * k + 100) :: R)) := fun w' bb r R E =>
              (does_walk hok E (by omega) (by omega) (by omega) (by omega)).mono fun e w'' ⟨r', h1, _, h3⟩ => ⟨r', h1, h3.swap.drop⟩
            clear q0 q1 q2 q3 q4 hok
            generalize dStep d ⟨kind, a, b, ⟨Ad, ld, cd⟩, ⟨Ak, lk, ck⟩⟩ = d5 at *
            have m0 : wc.cell? ⟨g, 0, none⟩ = some (ptrO p) := E.cell 0
            obtain ⟨r0, r1, r2, r3, r4⟩ := HAT.out _ _ E
            replace E : Env w wc (dkO b1 d k (100 * k) :: rfO p d00 0 0 :: cellsO g 55 #[ptrO p, ptrO q] :: rfO q d00 0 0 :: dkO b2 d k (100 * k) :: []) := ((E.front 1 rfl).front 3 rfl)
            go_upto_region 20 with (fail)
            go_region_held3 (fun w' => w'.cell? ⟨g, 0, none⟩ = some (ptrO p) ∧ w'.cell? ⟨g0, o + k * 5, none⟩ = some (.int .i64 kind) ∧ w'.cell? ⟨g0, o + k * 5 + 1, none⟩ = some (.string ⟨a.toArray⟩) ∧ w'.cell? ⟨g0, o + k * 5 + 2, none⟩ = some (.string ⟨b.toArray⟩) ∧ w'.cell? ⟨g0, o + k * 5 + 3, none⟩ = some (.slice Ad ld.length cd) ∧ w'.cell? ⟨g0, o + k * 5 + 4, none⟩ = some (.slice Ak lk.length ck))
              (first | exact ⟨by assumption, by assumption, by assumption, by assumption, by assumption, by assumption⟩ | go_keep)
              (first | (go_at_call 26
                        refine (HD.out _ _ _ _ E.drew).mono ?_
                        rintro e w6 ⟨r', rfl, E6⟩
                        have n0 : (w6).cell? ⟨g, 0, none⟩ = some (ptrO p) := (E6.front 1 rfl).cell 0
                        obtain ⟨t0, t1, t2, t3, t4⟩ := HAT.out _ _ E6))
            clear m0 r0 r1 r2 r3 r4 E
            have m1 : w6.cell? ⟨g, 1, none⟩ = some (ptrO q) := (E6.front 1 rfl).cell 1
            clear n0
            replace E6 : Env w w6 (dkO b2 d k (100 * k) :: rfO q d00 0 0 :: cellsO g 55 #[ptrO p, ptrO q] :: dkO b1 d5 (k + 1) (100 * k + 100) :: []) := ((E6.front 1 rfl).front 2 rfl).front 3 rfl
            go_wp2_with fail
            go_region_held3 (fun w' => w'.cell? ⟨g, 1, none⟩ = some (ptrO q) ∧ w'.cell? ⟨g0, o + k * 5, none⟩ = some (.int .i64 kind) ∧ w'.cell? ⟨g0, o + k * 5 + 1, none⟩ = some (.string ⟨a.toArray⟩) ∧ w'.cell? ⟨g0, o + k * 5 + 2, none⟩ = some (.string ⟨b.toArray⟩) ∧ w'.cell? ⟨g0, o + k * 5 + 3, none⟩ = some (.slice Ad ld.length cd) ∧ w'.cell? ⟨g0, o + k * 5 + 4, none⟩ = some (.slice Ak lk.length ck))
              (first | exact ⟨by assumption, by assumption, by assumption, by assumption, by assumption, by assumption⟩ | go_keep)
              (first | (go_at_call 26
                        refine (HD.out _ _ _ _ E6.drew).mono ?_
                        rintro e w7 ⟨r', rfl, E7⟩
                        have n0 : (w7).cell? ⟨g, 1, none⟩ = some (ptrO q) := (E7.front 1 rfl).cell 1
                        obtain ⟨t0, t1, t2, t3, t4⟩ := HAT.out _ _ E7))
            clear m1 t0 t1 t2 t3 t4 n0 HD HAT HOK E6
            replace E7 : Env w w7 [dkO b1 d5 (k + 1) (100 * k + 100), dkO b2 d5 (k + 1) (100 * k + 100)] := ((E7.front 2 rfl).front 2 rfl).drop
            have hfit := E7.dk_fit
            have hns := list_short hfit.ok
            have hnl : (dList d5).length ≤ 100 := by
              have := hfit.files
              unfold dList
              split
              · simp
              · simp; omega
            have HNS := hide hns
            clear hfit hns
            go_wp2_with fail
            refine (E7.swap.dk_list (by omega)).mono ?_
            rintro e w8 ⟨A8, c8, rfl, E8⟩
            go_wp2_with fail
            refine ((E8.front 2 rfl).dk_list (by omega)).mono ?_
            rintro e w9 ⟨A9, c9, rfl, E9⟩
            clear E8 E7
            generalize dList d5 = ns at *
            replace E9 : Env w w9 [dkO b1 d5 (k + 1) (100 * k + 100), dkO b2 d5 (k + 1) (100 * k + 100), rowO 9 1 (.slice A8 ns.length c8) (ns.map strV), rowO 9 1 (.slice A9 ns.length c9) (ns.map strV)] := ((((E9.front 3 rfl).front 2 rfl).front 3 rfl).front 2 rfl).front 2 rfl
            go_wp2_with fail
            refine (E9.dk_used (by omega)).mono ?_
            rintro e w10 ⟨rfl, E10⟩
            go_wp2_with fail
            refine (E10.swap.dk_used (by omega)).mono ?_
            rintro e w11 ⟨rfl, E11⟩
            clear E9 E10
            replace E11 := E11.swap
            go_wp2_with fail
            obtain ⟨dn, hdn⟩ : ∃ dn, d5.down = dn := ⟨_, rfl⟩
            have kd1 := E11.dk_down
            have kd2 := E11.swap.dk_down
            rw [hdn] at kd1 kd2
            clear hdn
            have KD2 := hide kd2
            have f1 : (dn != dn) = false := by simp
            have f2 : (dn == dn) = true := by simp
            clear kd2
            refine kd1.mono ?_
            rintro e w12 ⟨rfl, rfl⟩
            clear kd1
            go_wp2_with fail
            refine KD2.out.mono ?_
            rintro e w12 ⟨rfl, rfl⟩
            go_wp2_with fail
            clear f1 f2 KD2
            go_loopw [15] (fun i wr => ∃ j : Nat, i = .int .i64 j ∧ j ≤ ns.length ∧ Env w wr [dkO b1 d5 (k + 1) (100 * k + 100), dkO b2 d5 (k + 1) (100 * k + 100), rowO 9 1 (.slice A8 ns.length c8) (ns.map strV), rowO 9 1 (.slice A9 ns.length c9) (ns.map strV)]) (fun i _ => ns.length - (intOf i).toNat)
            case atStart => exact ⟨0, rfl, Nat.zero_le _, E11⟩
            case round =>
              clear E11
              obtain ⟨j, rfl, hj, E⟩ := hrel
              by_cases hlt : j < ns.length
              · have hkn : (ns.map strV)[j]? = some (strV ns[j]) := by simp [hlt]
                obtain ⟨g8, h8, q8⟩ := Env.row_cell (E.front 2 rfl) (by simp; omega)
                subst h8
                obtain ⟨g9, h9, q9⟩ := Env.row_cell (E.front 3 rfl) (by simp; omega)
                subst h9
                have l9 : wr.cell? ⟨g9, j, none⟩ = some (.string ⟨ns[j].toArray⟩) := q9 j _ hkn
                have hnm : ns[j].length ≤ maxLen := by have := HNS.out _ (List.getElem_mem hlt); simp only [maxLen]; omega
                generalize ns[j] = x at *
                have HKN := hide hkn
                have HNM := hide hnm
                clear hkn hnm q8 q9
                go_wp2_with fail
                refine (E.dk_read x HNM.out (by omega)).mono ?_
                rintro e w13 ⟨A13, c13, rfl, E13⟩
                clear l9 E
                obtain ⟨g8', h8, q8⟩ := Env.row_cell (E13.front 3 rfl) (by simp; omega)
                obtain rfl : g8 = g8' := by injection h8 with h8; injection h8
                have l8 : w13.cell? ⟨g8, j, none⟩ = some (.string ⟨x.toArray⟩) := q8 j _ HKN.out
                clear q8 h8
                go_wp2_with fail
                refine ((E13.front 2 rfl).dk_read x HNM.out (by omega)).mono ?_
                rintro e w14 ⟨A14, c14, rfl, E14⟩
                clear l8 E13
                obtain ⟨g8', h8, q8⟩ := Env.row_cell (E14.front 4 rfl) (by simp; omega)
                obtain rfl : g8 = g8' := by injection h8 with h8; injection h8
                obtain ⟨g9', h9, q9⟩ := Env.row_cell (E14.front 5 rfl) (by simp; omega)
                obtain rfl : g9 = g9' := by injection h9 with h9; injection h9
                have l8 : w14.cell? ⟨g8, j, none⟩ = some (.string ⟨x.toArray⟩) := q8 j _ HKN.out
                have l9 : w14.cell? ⟨g9, j, none⟩ = some (.string ⟨x.toArray⟩) := q9 j _ HKN.out
                have s13 : ∀ n, (convert 22 9 (.slice A13 (dReadB d5 x).length c13)).run Try.prog (w14.drewN n) = .ok (.string ⟨(dReadB d5 x).toArray⟩) (w14.drewN n) := fun n => Env.str ((E14.front 2 rfl).drewN n)
                have s14 : ∀ n, (convert 22 9 (.slice A14 (dReadB d5 x).length c14)).run Try.prog (w14.drewN n) = .ok (.string ⟨(dReadB d5 x).toArray⟩) (w14.drewN n) := fun n => (E14.drewN n).str
                clear q8 q9 h8 h9
                generalize dReadB d5 x = y at *
                generalize dMay d5 true x x = m at *
                have e1 : (x != x) = false := by simp
                have e2 : (y != y) = false := by simp
                have e3 : (m != m) = false := by simp
                go_wp2_with fail
                go_quiet (fail)
                go_wp2_with fail
                go_roundw
                case rel => exact ⟨j + 1, by go_num, by omega, (E14.drop.front 1 rfl).drop.drewN nq |>.swap⟩
                case measure => simp [intOf]; omega
              · go_wp2_with fail
                go_roundw
                case rel => exact ⟨k + 1, d5, by go_num, by omega, E.front 2 rfl |>.drop |>.front 2 rfl |>.drop⟩
                case measure => simp [intOf]; omega
      · go_wp2_with fail
        go_ret
        exact ⟨rfl, E.below⟩
    · go_wp2_with fail
      go_ret
      exact ⟨rfl, E.below⟩
-- ROW DiskAgain|tidemark/tidemarklaw03|again_walk a0 A1 l1 c1 W b0.2 hs1|i64 int;sl []tidemarklaw03.Step opSteps
-- ROWPART
open Go.ChangeShapes Go.WideShapes Go.ChangeAt in
open Go.ChangeMaps (open_string) in
set_option maxRecDepth 100000 in
theorem diskAgain_lifted (os : Os) (started : os.Started) (H : Type) (enc : TypeId × Value → H) :
    ReturnsInHanded {} Try.checked os 10 .any (Rows.diskAgainSpec.pre6 enc Try.prog Try.f10 Rows.diskAgainRow.domain false) (Rows.diskAgainSpec.post enc Try.prog Try.f10 false true false false) := by
  refine returnsInHanded_of_change (C := Try.checked) own started (by kernel_rfl) Try.func10
    (ChangeSpec.witness6 (enc := enc) (C := Try.checked) false ⟨#[], #[.int .i64 0, .slice none 0 0], []⟩ 8 (by kernel_rfl) (by kernel_rfl) (by kernel_rfl) (by kernel_rfl)) ?_
  intro W base args ds gs before hval0 hW _ _
  have hval : ∀ (j : Nat) t v, Try.f10.params[j]? = some t → args[j]? = some v → Value.okWide Try.prog W .any base t v := hval0
  have hW' := hW
  obtain ⟨p, q, hA0, hV, rfl, hfz, hnd⟩ := hW
  have hA : DataW.TrodAll enc Try.prog W 0 (fun _ => true) true Try.f10.params.toList args.toList ds p := hA0
  rw [Try.params10] at hA hval
  obtain ⟨v0, vs0, d0, ds0, p0, q0, hargs, rfl, rfl, h0, r0⟩ := trodAll_cons hA
  obtain ⟨v1, vs1, d1, ds1, p1, q1, rfl, rfl, rfl, h1, r1⟩ := trodAll_cons r0
  obtain ⟨rfl, rfl, rfl⟩ := trodAll_nil r1
  obtain rfl : args = #[v0, v1] := by cases args; simp_all
  obtain ⟨rfl, rfl⟩ := trodVars_none hV
  obtain ⟨a0, rfl, -, -, w0⟩ := open_int Try.underlying3 (hval 0 _ v0 rfl rfl) h0
  have b0 := bounds_i64 w0
  obtain ⟨⟨A1, l1, c1⟩, rfl, hs1⟩ := sl_of Try.underlying45 opSteps (hval 1 _ v1 rfl rfl) h1
  refine (again_walk a0 A1 l1 c1 W b0.2 hs1).mono fun e W' ⟨he, hb⟩ => ?_
  subst he
  exact ⟨_, rfl, law_post (tb := 4) laidOut (params_ok _ (by kernel_rfl)) rfl rfl Try.underlying4 hW' rfl hb⟩

theorem diskAgain_over : Rows.diskAgainRow.holds Try.pinned (OpenSpec.ofChange Rows.diskAgainSpec) :=
  OpenClaim.holds_of_wide 10 Try.f10 rfl rfl rfl rfl rfl rfl rfl ⟨rfl, rfl, rfl, rfl, rfl⟩ rfl rfl rfl rfl rfl (by kernel_rfl) Try.func10 (by kernel_rfl)
    (of_decide_eq_true (by kernel_rfl)) (by unfold Func.isWrapper; first | (rw [if_pos (by decide +kernel)]; kernel_rfl) | (rw [if_neg (by decide +kernel)]; exact ⟨rfl, rfl⟩))
    (fun os started H enc _ => diskAgain_lifted os started H enc)

theorem diskAgain_holds : Rows.DiskAgainSaid := diskAgain_over
end Go.Proofs.Ytbkenickmiapdaa
