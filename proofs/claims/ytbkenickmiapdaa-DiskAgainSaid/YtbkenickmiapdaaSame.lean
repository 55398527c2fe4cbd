/- DERIVED. 'same' of the laws on disks, of a disk and the document's that have the same. -/
import Derived.Test.YtbkenickmiapdaaDoes
namespace Go.Proofs.Ytbkenickmiapdaa
set_option linter.unusedVariables false
set_option linter.unusedSimpArgs false
open Go.RowKit

theorem list_short {d : DS} (ok : DOk d) : ∀ n ∈ dList d, n.length ≤ 64 := fun n hn => by
  unfold dList at hn
  split at hn
  · cases hn
  · obtain ⟨p, hp, rfl⟩ := List.mem_map.1 hn
    exact ok.short p hp
theorem read_short {d : DS} {N U : Nat} (f : DFit d N U) (n : Nm) : (dReadB d n).length ≤ U := by
  have := f.bytes
  unfold dReadB
  split
  · unfold dOld
    cases hg : fGet n d.l with
    | none => simp
    | some x => have := dUsed_mem (fGet_mem hg); simp; omega
  · simp

section
variable {w0 w w' : World} {R : List Ob} {b1 b2 N1 U1 N2 U2 : Nat} {d : DS}
def SamePost (w0 : World) (L : List Ob) (e : Ending) (w' : World) : Prop := e = .returned (.bool true) ∧ Env w0 w' L
set_option maxRecDepth 100000 in
set_option maxHeartbeats 4000000 in
theorem same_walk (E : Env w0 w (dkO b1 d N1 U1 :: rfO b2 d N2 U2 :: R)) (n1 : N1 ≤ 100000) (u1 : U1 ≤ 1000000000) (n2 : N2 ≤ 100000) (u2 : U2 ≤ 1000000000) :
    Calls Try.prog 27 #[.pointer (some ⟨b1, 0, none⟩), .pointer (some ⟨b2, 0, none⟩)] w (SamePost w0 (dkO b1 d N1 U1 :: rfO b2 d N2 U2 :: R)) := by
  have hfit := E.dk_fit
  have HFIT := hide hfit
  have hns := list_short hfit.ok
  have hnl : (dList d).length ≤ 100000 := by
    have := hfit.files
    unfold dList
    split
    · simp
    · simp; omega
  clear hfit
  go_enter Try.func27, Try.ntmps27
  go_wp2_with fail
  refine (E.dk_list (by omega)).mono ?_
  rintro e w2 ⟨A5, c5, rfl, E2⟩
  go_wp2_with fail
  refine ((E2.front 2 rfl).rf_list (by omega)).mono ?_
  rintro e w3 ⟨A6, c6, rfl, E3⟩
  replace E3 : Env w0 w3 (dkO b1 d N1 U1 :: rfO b2 d N2 U2 :: rowO 9 1 (.slice A5 (dList d).length c5) ((dList d).map strV) :: rowO 9 1 (.slice A6 (dList d).length c6) ((dList d).map strV) :: R) := ((E3.front 2 rfl).front 2 rfl).front 3 rfl
  generalize dList d = ns at *
  have HNS := hide hns
  clear hns E E2
  obtain ⟨dn, hdn⟩ : ∃ dn, d.down = dn := ⟨_, rfl⟩
  have hKU : Hid (∀ w', Env w0 w' (dkO b1 d N1 U1 :: rfO b2 d N2 U2 :: rowO 9 1 (.slice A5 ns.length c5) (ns.map strV) :: rowO 9 1 (.slice A6 ns.length c6) (ns.map strV) :: R) →
      Calls Try.prog 20 #[.pointer (some ⟨b1, 0, none⟩)] w' fun e w'' => e = .returned (.int .i64 (dUsed d.l)) ∧ Env w0 w'' (dkO b1 d N1 U1 :: rfO b2 d N2 U2 :: rowO 9 1 (.slice A5 ns.length c5) (ns.map strV) :: rowO 9 1 (.slice A6 ns.length c6) (ns.map strV) :: R)) := fun w' E => E.dk_used (by omega)
  have hKV : Hid (∀ w', Env w0 w' (dkO b1 d N1 U1 :: rfO b2 d N2 U2 :: rowO 9 1 (.slice A5 ns.length c5) (ns.map strV) :: rowO 9 1 (.slice A6 ns.length c6) (ns.map strV) :: R) →
      Calls Try.prog 38 #[.pointer (some ⟨b2, 0, none⟩)] w' fun e w'' => e = .returned (.int .i64 (dUsed d.l)) ∧ w' = w'') := fun w' E => E.swap.rf_used (by omega) (by omega)
  have hKD : Hid (∀ w', Env w0 w' (dkO b1 d N1 U1 :: rfO b2 d N2 U2 :: rowO 9 1 (.slice A5 ns.length c5) (ns.map strV) :: rowO 9 1 (.slice A6 ns.length c6) (ns.map strV) :: R) →
      Calls Try.prog 29 #[.pointer (some ⟨b1, 0, none⟩)] w' fun e w'' => e = .returned (.bool dn) ∧ w' = w'') := fun w' E => by
    have := E.dk_down
    rw [hdn] at this
    exact this.mono fun _ _ ⟨h1, h2⟩ => ⟨h1, h2.symm⟩
  have hIS : Hid (∀ w', Env w0 w' (dkO b1 d N1 U1 :: rfO b2 d N2 U2 :: rowO 9 1 (.slice A5 ns.length c5) (ns.map strV) :: rowO 9 1 (.slice A6 ns.length c6) (ns.map strV) :: R) → w'.cell? ⟨b2, 2, none⟩ = some (.bool dn)) := fun w' E => by
    have := E.swap.rf_is
    rwa [hdn] at this
  have HDN := hide hdn
  clear hdn
  generalize dUsed d.l = us at *
  go_wp2_with fail
  have i3 := hIS.out _ E3
  go_region_held3 (fun w' => w'.cell? ⟨b2, 2, none⟩ = some (.bool dn) ∧ Env w0 w' (dkO b1 d N1 U1 :: rfO b2 d N2 U2 :: rowO 9 1 (.slice A5 ns.length c5) (ns.map strV) :: rowO 9 1 (.slice A6 ns.length c6) (ns.map strV) :: R))
    (first | exact ⟨by assumption, by assumption⟩ | exact ⟨i3, E3.drew⟩ | exact ⟨hIS.out _ (by assumption), by assumption⟩)
    (first
      | (go_at_call 20; refine (hKU.out _ (by first | assumption | exact E3.drew)).mono ?_; rintro e w4 ⟨rfl, E4⟩)
      | (go_at_call 38; refine (hKV.out _ (by assumption)).mono ?_; rintro e w5 ⟨rfl, rfl⟩)
      | (go_at_call 29; refine (hKD.out _ (by assumption)).mono ?_; rintro e w6 ⟨rfl, rfl⟩))
  all_goals
    clear hKU hKV hKD i3 E3
    go_wp2_with fail
    go_loopw [7] (fun i wr => ∃ k : Nat, i = .int .i64 k ∧ k ≤ ns.length ∧ Env w0 wr (dkO b1 d N1 U1 :: rfO b2 d N2 U2 :: rowO 9 1 (.slice A5 ns.length c5) (ns.map strV) :: rowO 9 1 (.slice A6 ns.length c6) (ns.map strV) :: R)) (fun i _ => ns.length - (intOf i).toNat)
    case atStart => exact ⟨0, rfl, Nat.zero_le _, E4⟩
    case round =>
      clear E4
      obtain ⟨k, rfl, hk, E⟩ := hrel
      by_cases hlt : k < ns.length
      · have hkn : (ns.map strV)[k]? = some (strV ns[k]) := by simp [hlt]
        obtain ⟨g5, h5, q5⟩ := Env.row_cell (E.front 2 rfl) (by simp; omega)
        subst h5
        obtain ⟨g6, h6, q6⟩ := Env.row_cell (E.front 3 rfl) (by simp; omega)
        subst h6
        have l5 : wr.cell? ⟨g5, k, none⟩ = some (.string ⟨ns[k].toArray⟩) := q5 k _ hkn
        have hnm : ns[k].length ≤ maxLen := by have := HNS.out _ (List.getElem_mem hlt); simp only [maxLen]; omega
        generalize hx : ns[k] = x at *
        have HX := hide hx
        have HKN := hide hkn
        have HNM := hide hnm
        clear hx hkn hnm q5 q6
        go_wp2_with fail
        refine (E.dk_read x HNM.out (by omega)).mono ?_
        rintro e w5 ⟨A7, c7, rfl, E5⟩
        clear l5
        obtain ⟨g6', h6, q6⟩ := Env.row_cell (E5.front 4 rfl) (by simp; omega)
        obtain rfl : g6 = g6' := by injection h6 with h6; injection h6
        have l6 : w5.cell? ⟨g6, k, none⟩ = some (.string ⟨x.toArray⟩) := q6 k _ HKN.out
        clear q6 h6
        go_wp2_with fail
        refine ((E5.front 2 rfl).rf_read x HNM.out (by omega)).mono ?_
        rintro e w6 ⟨rfl, E6⟩
        clear l6 E5 E
        obtain ⟨g5', h5, q5⟩ := Env.row_cell (E6.front 3 rfl) (by simp; omega)
        obtain rfl : g5 = g5' := by injection h5 with h5; injection h5
        obtain ⟨g6', h6, q6⟩ := Env.row_cell (E6.front 4 rfl) (by simp; omega)
        obtain rfl : g6 = g6' := by injection h6 with h6; injection h6
        have l5 : w6.cell? ⟨g5, k, none⟩ = some (.string ⟨x.toArray⟩) := q5 k _ HKN.out
        have l6 : w6.cell? ⟨g6, k, none⟩ = some (.string ⟨x.toArray⟩) := q6 k _ HKN.out
        have s7 : ∀ n, (convert 22 9 (.slice A7 (dReadB d x).length c7)).run Try.prog (w6.drewN n) = .ok (.string ⟨(dReadB d x).toArray⟩) (w6.drewN n) := fun n => (E6.drewN n).swap.str
        clear q5 q6 h5 h6
        generalize dReadB d x = y at *
        generalize dMay d true x x = m at *
        have e1 : (x != x) = false := by simp
        have e2 : (y != y) = false := by simp
        have e3 : (m != m) = false := by simp
        go_wp2_with fail
        go_quiet (fail)
        go_wp2_with fail
        go_roundw
        case rel => exact ⟨k + 1, by go_num, by omega, ((E6.swap.drop.front 1 rfl).drewN nq)⟩
        case measure => simp [intOf]; omega
      · go_wp2_with fail
        go_ret
        exact ⟨rfl, (E.front 2 rfl).drop |> fun E => (E.front 2 rfl).drop⟩
end
end Go.Proofs.Ytbkenickmiapdaa
