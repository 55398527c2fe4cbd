/- DERIVED. 'does' of the laws on disks: a step on a disk and on the document's. -/
import Derived.Test.YtbkenickmiapdaaRfe
import Derived.Test.YtbkenickmiapdaaDop
namespace Go.Proofs.Ytbkenickmiapdaa
set_option linter.unusedVariables false
set_option linter.unusedSimpArgs false
open Go.RowKit

/-- A step. -/
def dStep (d : DS) (s : StepV) : DS :=
  if s.kind = 1 then dAppend d s.a (s.data.l.take 100) else if s.kind = 2 then dSync d s.a else if s.kind = 3 then dRename d s.a s.b else if s.kind = 4 then dDelete d s.a else
    if s.kind = 6 then dCrash d s.keep.l else if s.kind = 7 then { d with down := false } else d
theorem DFit.step {d : DS} {N U : Nat} (h : DFit d N U) (s : StepV) : DFit (dStep d s) (N + 1) (U + 100) := by
  unfold dStep
  split
  · exact (h.append s.a _).mono (Nat.le_refl _) (by have := List.length_take_le 100 s.data.l; omega)
  split
  · exact (h.sync s.a).mono (by omega) (by omega)
  split
  · exact (h.rename s.a s.b).mono (by omega) (by omega)
  split
  · exact (h.delete s.a).mono (by omega) (by omega)
  split
  · exact (h.crash s.keep.l).mono (by omega) (by omega)
  split
  · exact h.start.mono (by omega) (by omega)
  · exact h.mono (by omega) (by omega)

section
variable {w0 w w' : World} {R : List Ob} {e : TypeId} {A : Option Addr} {n c g : Nat} {xs : List Value}
/-- A cell of a row of its own, written. -/
theorem Env.row_set (E : Env w0 w (rowO e 1 (.slice (some ⟨g, 0, none⟩) n c) xs :: R)) {i : Nat} (hi : i < xs.length) (u : Value) : Env w0 (w.setCell ⟨g, i, none⟩ u) (rowO e 1 (.slice (some ⟨g, 0, none⟩) n c) (xs.set i u) :: R) := by
  obtain ⟨S, ⟨A, B, ⟨⟨m, hr⟩, hA⟩, hB, hd, hS⟩, h2, h3⟩ := E
  have hAg : A g := (hA g).2 rfl
  refine ⟨S, ⟨A, B, ⟨⟨m, by rw [List.length_set]; exact hr.1, ?_⟩, hA⟩, hB.keep fun k hk => Below.heap_setCell _ _ _ _ (fun e => hd k (by have e : k = g := e; rw [e]; exact hAg) hk), hd, hS⟩, h2, h3.setCell (h2 g ((hS g).2 (.inl hAg))) u⟩
  rcases hr.2 with ⟨h0, _⟩ | ⟨g', cap, cur, hv, hg, hh, q1, q2, q3, q4⟩
  · cases h0
  · refine .inr ⟨g', cap, cur.setIfInBounds i u, hv, hg, ?_, q1, q2, by simpa using q3, ?_⟩
    · have e : g = g' := by injection hv with hv; injection hv with hv; injection hv
      subst e
      have : Blk w g e cur := hh
      exact this.set_ i u
    · rw [← q4]
      simp [List.take_set]
theorem Env.row_at (E : Env w0 w (rowO e 1 (.slice A n c) xs :: R)) {i : Nat} (hi : i < xs.length) : ∃ g u, A = some ⟨g, 0, none⟩ ∧ xs[i]? = some u ∧ w.cell? ⟨g, i, none⟩ = some u ∧ w.frozen? ⟨g, i, none⟩ = false := by
  obtain ⟨g, rfl, hc⟩ := E.row_cell (by omega)
  refine ⟨g, xs[i], rfl, List.getElem?_eq_getElem hi, hc i _ (List.getElem?_eq_getElem hi), ?_⟩
  rcases E.row1.2 with ⟨h0, _⟩ | ⟨g', cap, cur, hv, hg, hh, _⟩
  · cases h0
  · have e : g = g' := by injection hv with hv; injection hv with hv; injection hv
    subst e
    have : Blk w g e cur := hh
    exact this.frozen i
end

/-- Behind a step: were the answers the same? -/
def DoesPost (w0 : World) (b1 : Nat) (d1 : DS) (N1 U1 b2 : Nat) (d2 : DS) (N2 U2 : Nat) (s : StepV) (R : List Ob) (e : Ending) (w' : World) : Prop :=
  ∃ r : Bool, e = .returned (.bool r) ∧ (d1 = d2 → r = true) ∧ Env w0 w' (dkO b1 (dStep d1 s) (N1 + 1) (U1 + 100) :: rfO b2 (dStep d2 s) (N2 + 1) (U2 + 100) :: R)

section
variable {w0 w w' : World} {R : List Ob} {b1 b2 N1 U1 N2 U2 : Nat} {d1 d2 : DS} {s : StepV}
theorem DoesPost.mk {D1 D2 : DS} {M1 V1 M2 V2 : Nat} {r : Bool} (h1 : D1 = dStep d1 s) (h2 : D2 = dStep d2 s) (hr : d1 = d2 → r = true) (E : Env w0 w' (dkO b1 D1 M1 V1 :: rfO b2 D2 M2 V2 :: R)) (m1 : M1 ≤ N1 + 1) (v1 : V1 ≤ U1 + 100) (m2 : M2 ≤ N2 + 1) (v2 : V2 ≤ U2 + 100) :
    DoesPost w0 b1 d1 N1 U1 b2 d2 N2 U2 s R (.returned (.bool r)) w' := by
  subst h1; subst h2
  exact ⟨r, rfl, hr, ((E.dk_mono m1 v1).swap.rf_mono m2 v2).swap⟩

set_option maxRecDepth 100000 in
set_option maxHeartbeats 4000000 in
theorem does_walk (hs : s.Ok w0) (E : Env w0 w (dkO b1 d1 N1 U1 :: rfO b2 d2 N2 U2 :: R)) (n1 : N1 < 100000) (u1 : U1 ≤ 1000000000) (n2 : N2 < 100000) (u2 : U2 ≤ 1000000000) :
    Calls Try.prog 26 #[.pointer (some ⟨b1, 0, none⟩), .pointer (some ⟨b2, 0, none⟩), .agg #[.int .i64 s.kind, .string ⟨s.a.toArray⟩, .string ⟨s.b.toArray⟩, s.data.val, s.keep.val]] w (DoesPost w0 b1 d1 N1 U1 b2 d2 N2 U2 s R) := by
  have HS := hide hs
  obtain ⟨kind, a, b, ⟨Ad, ld, cd⟩, ⟨Ak, lk, ck⟩⟩ := s
  simp only [Sl.val]
  have hkd := hs.kind
  have hxr : Reads w0 w0.heap.size 1 Ad ld.length (ld.map u8V) := sl_reads hs.data fun _ _ h => h
  have hkr : Reads w0 w0.heap.size 1 Ak lk.length (lk.map intV) := sl_reads hs.keep fun _ _ h => h.1
  have hdc : ld.length ≤ cd := hs.data.2.1
  have hkl : lk.length ≤ maxLen := by have := hs.keep.2.1; have := hs.keep.2.2.1; simp only at *; omega
  have ha : a.length ≤ maxLen := hs.a
  have hb : b.length ≤ maxLen := hs.b
  obtain ⟨m, hm⟩ : ∃ m : Nat, min (ld.length : Int) 100 = (m : Int) := ⟨min ld.length 100, by omega⟩
  have hmc : m ≤ cd := by omega
  obtain ⟨x, hx, hx0, hxd, hxr⟩ : ∃ x : List UInt8, x.length = m ∧ x.length ≤ 100 ∧ x = ld.take 100 ∧ Reads w0 w0.heap.size 1 Ad x.length (x.map u8V) := ⟨ld.take 100, by simp; omega, by simp; omega, rfl, Reads.cut hxr 100⟩
  subst hx
  have HXD := hide hxd
  have HX := hide hxr
  have HKR := hide hkr
  have HKL := hide hkl
  have HA := hide ha
  have HB := hide hb
  have HX0 := hide hx0
  clear hs hkd hxr hkr hkl ha hb hxd hx0
  have E1 := E.alloc 49 #[.int .i64 kind, .string ⟨a.toArray⟩, .string ⟨b.toArray⟩, .slice Ad ld.length cd, .slice Ak lk.length ck]
  generalize hg : w.heap.size = g at E1
  generalize hw1 : w.alloc (.cells #[.int .i64 kind, .string ⟨a.toArray⟩, .string ⟨b.toArray⟩, .slice Ad ld.length cd, .slice Ak lk.length ck] 49) = w1 at E1
  have HG := hide hg
  have HW1 := hide hw1
  clear hg hw1 E
  go_enter Try.func26, Try.ntmps26
  go_upto_region 2 with (fail)
  rw [HG.out, HW1.out]
  clear HG HW1
  by_cases hk : kind = 2
  · subst hk
    have c0 : w1.cell? ⟨g, 0, none⟩ = some (.int .i64 2) := E1.cell 0
    have c1 : w1.cell? ⟨g, 1, none⟩ = some (.string ⟨a.toArray⟩) := E1.cell 1
    have c2 : w1.cell? ⟨g, 2, none⟩ = some (.string ⟨b.toArray⟩) := E1.cell 2
    have c4 : w1.cell? ⟨g, 4, none⟩ = some (.slice Ak lk.length ck) := E1.cell 4
    go_wp2_with fail
    have ED : Hid (∀ w', Env w0 w' (cellsO g 49 #[.int .i64 2, .string ⟨a.toArray⟩, .string ⟨b.toArray⟩, .slice Ad ld.length cd, .slice Ak lk.length ck] :: dkO b1 d1 N1 U1 :: rfO b2 d2 N2 U2 :: R) → Calls Try.prog 16 #[.pointer (some ⟨b1, 0, none⟩), .string ⟨a.toArray⟩] w' fun e w'' => e = .returned (.int .i64 (dMay d1 true a a)) ∧ Env w0 w'' (cellsO g 49 #[.int .i64 2, .string ⟨a.toArray⟩, .string ⟨b.toArray⟩, .slice Ad ld.length cd, .slice Ak lk.length ck] :: dkO b1 (dSync d1 a) N1 U1 :: rfO b2 d2 N2 U2 :: R)) := fun w' E => (E.swap.dk_sync a HA.out).mono fun _ _ ⟨h1, h2⟩ => ⟨h1, h2.swap⟩
    have ER : Hid (∀ w', Env w0 w' (cellsO g 49 #[.int .i64 2, .string ⟨a.toArray⟩, .string ⟨b.toArray⟩, .slice Ad ld.length cd, .slice Ak lk.length ck] :: dkO b1 (dSync d1 a) N1 U1 :: rfO b2 d2 N2 U2 :: R) → Calls Try.prog 25 #[.pointer (some ⟨b2, 0, none⟩), .string ⟨a.toArray⟩] w' fun e w'' => e = .returned (.int .i64 (dMay d2 true a a)) ∧ Env w0 w'' (rfO b2 (dSync d2 a) N2 U2 :: cellsO g 49 #[.int .i64 2, .string ⟨a.toArray⟩, .string ⟨b.toArray⟩, .slice Ad ld.length cd, .slice Ak lk.length ck] :: dkO b1 (dSync d1 a) N1 U1 :: R)) := fun w' E => (E.front 2 rfl).rf_sync a HA.out (by omega) (by omega)
    go_region_held3 (fun w' => w'.cell? ⟨g, 1, none⟩ = some (.string ⟨a.toArray⟩) ∧ w'.cell? ⟨g, 2, none⟩ = some (.string ⟨b.toArray⟩))
      (first | exact ⟨by assumption, by assumption⟩ | go_keep)
      (first
        | (go_at_call 16
           refine (ED.out _ E1.drew).mono ?_
           rintro e w2 ⟨rfl, E2⟩
           have q1 : w2.cell? ⟨g, 1, none⟩ = some (.string ⟨a.toArray⟩) := E2.cell 1
           have q2 : w2.cell? ⟨g, 2, none⟩ = some (.string ⟨b.toArray⟩) := E2.cell 2)
        | (go_at_call 25
           refine (ER.out _ E2).mono ?_
           rintro e w3 ⟨rfl, E3⟩
           have q3 : w3.cell? ⟨g, 1, none⟩ = some (.string ⟨a.toArray⟩) := E3.swap.cell 1
           have q4 : w3.cell? ⟨g, 2, none⟩ = some (.string ⟨b.toArray⟩) := E3.swap.cell 2))
    all_goals
      go_wp2_with fail
      go_ret
      exact DoesPost.mk (D1 := dSync d1 a) (D2 := dSync d2 a) (by simp [dStep]) (by simp [dStep]) (fun h => by subst h; simp) (E3.swap.drop.swap) (by omega) (by omega) (by omega) (by omega)
  have k2 : (kind == 2) = false := by simpa using hk
  clear hk
  by_cases hk : kind = 3
  · subst hk
    have c0 : w1.cell? ⟨g, 0, none⟩ = some (.int .i64 3) := E1.cell 0
    have c1 : w1.cell? ⟨g, 1, none⟩ = some (.string ⟨a.toArray⟩) := E1.cell 1
    have c2 : w1.cell? ⟨g, 2, none⟩ = some (.string ⟨b.toArray⟩) := E1.cell 2
    have c4 : w1.cell? ⟨g, 4, none⟩ = some (.slice Ak lk.length ck) := E1.cell 4
    go_wp2_with fail
    have ED : Hid (∀ w', Env w0 w' (cellsO g 49 #[.int .i64 3, .string ⟨a.toArray⟩, .string ⟨b.toArray⟩, .slice Ad ld.length cd, .slice Ak lk.length ck] :: dkO b1 d1 N1 U1 :: rfO b2 d2 N2 U2 :: R) → Calls Try.prog 21 #[.pointer (some ⟨b1, 0, none⟩), .string ⟨a.toArray⟩, .string ⟨b.toArray⟩] w' fun e w'' => e = .returned (.int .i64 (dMay d1 true a b)) ∧ Env w0 w'' (cellsO g 49 #[.int .i64 3, .string ⟨a.toArray⟩, .string ⟨b.toArray⟩, .slice Ad ld.length cd, .slice Ak lk.length ck] :: dkO b1 (dRename d1 a b) (N1 + 1) U1 :: rfO b2 d2 N2 U2 :: R)) := fun w' E => (E.swap.dk_rename a b HA.out HB.out (by omega)).mono fun _ _ ⟨h1, h2⟩ => ⟨h1, h2.swap⟩
    have ER : Hid (∀ w', Env w0 w' (cellsO g 49 #[.int .i64 3, .string ⟨a.toArray⟩, .string ⟨b.toArray⟩, .slice Ad ld.length cd, .slice Ak lk.length ck] :: dkO b1 (dRename d1 a b) (N1 + 1) U1 :: rfO b2 d2 N2 U2 :: R) → Calls Try.prog 41 #[.pointer (some ⟨b2, 0, none⟩), .string ⟨a.toArray⟩, .string ⟨b.toArray⟩] w' fun e w'' => e = .returned (.int .i64 (dMay d2 true a b)) ∧ Env w0 w'' (rfO b2 (dRename d2 a b) (N2 + 1) U2 :: cellsO g 49 #[.int .i64 3, .string ⟨a.toArray⟩, .string ⟨b.toArray⟩, .slice Ad ld.length cd, .slice Ak lk.length ck] :: dkO b1 (dRename d1 a b) (N1 + 1) U1 :: R)) := fun w' E => (E.front 2 rfl).rf_rename a b HA.out HB.out (by omega)
    go_region_held3 (fun w' => w'.cell? ⟨g, 1, none⟩ = some (.string ⟨a.toArray⟩) ∧ w'.cell? ⟨g, 2, none⟩ = some (.string ⟨b.toArray⟩))
      (first | exact ⟨by assumption, by assumption⟩ | go_keep)
      (first
        | (go_at_call 21
           refine (ED.out _ E1.drew).mono ?_
           rintro e w2 ⟨rfl, E2⟩
           have q1 : w2.cell? ⟨g, 1, none⟩ = some (.string ⟨a.toArray⟩) := E2.cell 1
           have q2 : w2.cell? ⟨g, 2, none⟩ = some (.string ⟨b.toArray⟩) := E2.cell 2)
        | (go_at_call 41
           refine (ER.out _ E2).mono ?_
           rintro e w3 ⟨rfl, E3⟩
           have q3 : w3.cell? ⟨g, 1, none⟩ = some (.string ⟨a.toArray⟩) := E3.swap.cell 1
           have q4 : w3.cell? ⟨g, 2, none⟩ = some (.string ⟨b.toArray⟩) := E3.swap.cell 2))
    all_goals
      go_wp2_with fail
      go_ret
      exact DoesPost.mk (D1 := dRename d1 a b) (D2 := dRename d2 a b) (by simp [dStep]) (by simp [dStep]) (fun h => by subst h; simp) (E3.swap.drop.swap) (by omega) (by omega) (by omega) (by omega)
  have k3 : (kind == 3) = false := by simpa using hk
  clear hk
  by_cases hk : kind = 4
  · subst hk
    have c0 : w1.cell? ⟨g, 0, none⟩ = some (.int .i64 4) := E1.cell 0
    have c1 : w1.cell? ⟨g, 1, none⟩ = some (.string ⟨a.toArray⟩) := E1.cell 1
    have c2 : w1.cell? ⟨g, 2, none⟩ = some (.string ⟨b.toArray⟩) := E1.cell 2
    have c4 : w1.cell? ⟨g, 4, none⟩ = some (.slice Ak lk.length ck) := E1.cell 4
    go_wp2_with fail
    have ED : Hid (∀ w', Env w0 w' (cellsO g 49 #[.int .i64 4, .string ⟨a.toArray⟩, .string ⟨b.toArray⟩, .slice Ad ld.length cd, .slice Ak lk.length ck] :: dkO b1 d1 N1 U1 :: rfO b2 d2 N2 U2 :: R) → Calls Try.prog 28 #[.pointer (some ⟨b1, 0, none⟩), .string ⟨a.toArray⟩] w' fun e w'' => e = .returned (.int .i64 (dMay d1 true a a)) ∧ Env w0 w'' (cellsO g 49 #[.int .i64 4, .string ⟨a.toArray⟩, .string ⟨b.toArray⟩, .slice Ad ld.length cd, .slice Ak lk.length ck] :: dkO b1 (dDelete d1 a) N1 U1 :: rfO b2 d2 N2 U2 :: R)) := fun w' E => (E.swap.dk_delete a HA.out).mono fun _ _ ⟨h1, h2⟩ => ⟨h1, h2.swap⟩
    have ER : Hid (∀ w', Env w0 w' (cellsO g 49 #[.int .i64 4, .string ⟨a.toArray⟩, .string ⟨b.toArray⟩, .slice Ad ld.length cd, .slice Ak lk.length ck] :: dkO b1 (dDelete d1 a) N1 U1 :: rfO b2 d2 N2 U2 :: R) → Calls Try.prog 42 #[.pointer (some ⟨b2, 0, none⟩), .string ⟨a.toArray⟩] w' fun e w'' => e = .returned (.int .i64 (dMay d2 true a a)) ∧ Env w0 w'' (rfO b2 (dDelete d2 a) N2 U2 :: cellsO g 49 #[.int .i64 4, .string ⟨a.toArray⟩, .string ⟨b.toArray⟩, .slice Ad ld.length cd, .slice Ak lk.length ck] :: dkO b1 (dDelete d1 a) N1 U1 :: R)) := fun w' E => (E.front 2 rfl).rf_delete a HA.out (by omega)
    go_region_held3 (fun w' => w'.cell? ⟨g, 1, none⟩ = some (.string ⟨a.toArray⟩) ∧ w'.cell? ⟨g, 2, none⟩ = some (.string ⟨b.toArray⟩))
      (first | exact ⟨by assumption, by assumption⟩ | go_keep)
      (first
        | (go_at_call 28
           refine (ED.out _ E1.drew).mono ?_
           rintro e w2 ⟨rfl, E2⟩
           have q1 : w2.cell? ⟨g, 1, none⟩ = some (.string ⟨a.toArray⟩) := E2.cell 1
           have q2 : w2.cell? ⟨g, 2, none⟩ = some (.string ⟨b.toArray⟩) := E2.cell 2)
        | (go_at_call 42
           refine (ER.out _ E2).mono ?_
           rintro e w3 ⟨rfl, E3⟩
           have q3 : w3.cell? ⟨g, 1, none⟩ = some (.string ⟨a.toArray⟩) := E3.swap.cell 1
           have q4 : w3.cell? ⟨g, 2, none⟩ = some (.string ⟨b.toArray⟩) := E3.swap.cell 2))
    all_goals
      go_wp2_with fail
      go_ret
      exact DoesPost.mk (D1 := dDelete d1 a) (D2 := dDelete d2 a) (by simp [dStep]) (by simp [dStep]) (fun h => by subst h; simp) (E3.swap.drop.swap) (by omega) (by omega) (by omega) (by omega)
  have k4 : (kind == 4) = false := by simpa using hk
  clear hk
  by_cases hk : kind = 7
  · subst hk
    have c0 : w1.cell? ⟨g, 0, none⟩ = some (.int .i64 7) := E1.cell 0
    go_wp2_with fail
    refine E1.swap.dk_start.mono ?_
    rintro e w2 ⟨rfl, E2⟩
    go_wp2_with fail
    refine (E2.front 2 rfl).rf_start.mono ?_
    rintro e w3 ⟨rfl, E3⟩
    go_wp2_with fail
    go_ret
    exact DoesPost.mk (D1 := { d1 with down := false }) (D2 := { d2 with down := false }) (by simp [dStep]) (by simp [dStep]) (fun _ => rfl) ((E3.swap.front 2 rfl).drop) (by omega) (by omega) (by omega) (by omega)
  have k7 : (kind == 7) = false := by simpa using hk
  have n7 := hk
  clear hk
  by_cases hk : kind = 6
  · subst hk
    have c0 : w1.cell? ⟨g, 0, none⟩ = some (.int .i64 6) := E1.cell 0
    have c4 : w1.cell? ⟨g, 4, none⟩ = some (.slice Ak lk.length ck) := E1.cell 4
    go_wp2_with fail
    refine (E1.swap.dk_crash lk Ak ck HKR.out HKL.out (by omega) (by omega)).mono ?_
    rintro e w2 ⟨rfl, E2⟩
    have d4 : w2.cell? ⟨g, 4, none⟩ = some (.slice Ak lk.length ck) := E2.swap.cell 4
    go_wp2_with fail
    refine ((E2.front 2 rfl).rf_crash lk Ak ck (E2.arg HKR.out) HKL.out (fun j h => by obtain ⟨_, _, _, _, ds, _, ⟨_, hwf⟩, _⟩ := HS.out.keep.2.2.2.2.2 j h; exact bounds_i64 hwf) (fun ad e h0 => HS.out.keep.2.2.2.2.1 ad e h0) (by omega) (by omega)).mono ?_
    rintro e w3 ⟨rfl, E3⟩
    go_wp2_with fail
    go_ret
    exact DoesPost.mk (D1 := dCrash d1 lk) (D2 := dCrash d2 lk) (by simp [dStep]) (by simp [dStep]) (fun _ => rfl) ((E3.swap.front 2 rfl).drop) (by omega) (by omega) (by omega) (by omega)
  have k6 : (kind == 6) = false := by simpa using hk
  have n6 := hk
  clear hk
  by_cases hk : kind = 1
  · subst hk
    have c0 : w1.cell? ⟨g, 0, none⟩ = some (.int .i64 1) := E1.cell 0
    have hb1 : (([] : List Value).length + (x.map u8V).length) * 1 ≤ 140737488355328 := by have := HX0.out; simp; omega
    have HB1 := hide hb1
    clear hb1
    go_wp2_with (at_builtin
                 refine wpList_append_env rfl (.tmp 28) (.tmp 29) rfl Try.underlying22 u8_info rfl (by decide) (by decide) (by rfl) (by rfl) (E1.lit0 5 1) ((E1.lit0 5 1).arg HX.out) u8V_one HB1.out ?_
                 intro v2 w2 E2
                 have hr2 := E2.row1
                 rw [List.nil_append, List.length_map] at hr2
                 obtain ⟨A2, c2, rfl, -⟩ := slice_form hr2
                 rw [List.nil_append] at E2
                 clear hr2
                 have c1 : w2.cell? ⟨g, 1, none⟩ = some (.string ⟨a.toArray⟩) := E2.swap.cell 1)
    have hr2 := E2.reads (by simp)
    refine ((E2.front 2 rfl).dk_append a HA.out A2 c2 x hr2 (by omega) (by have := HX0.out; omega)).mono ?_
    rintro e w3 ⟨rfl, E3⟩
    clear hr2 E2 c1
    replace E3 : Env w0 w3 (rowO 5 1 (.slice A2 x.length c2) (x.map u8V) :: dkO b1 (dAppend d1 a x) (N1 + 1) (U1 + x.length) :: cellsO g 49 #[.int .i64 1, .string ⟨a.toArray⟩, .string ⟨b.toArray⟩, .slice Ad ld.length cd, .slice Ak lk.length ck] :: rfO b2 d2 N2 U2 :: R) := E3.swap
    go_wp2_with fail
    go_loopw [10] (fun i wr => ∃ (k : Nat) (xs : List Value), i = .int .i64 k ∧ k ≤ x.length ∧ xs.length = x.length ∧ Env w0 wr (rowO 5 1 (.slice A2 x.length c2) xs :: dkO b1 (dAppend d1 a x) (N1 + 1) (U1 + x.length) :: cellsO g 49 #[.int .i64 1, .string ⟨a.toArray⟩, .string ⟨b.toArray⟩, .slice Ad ld.length cd, .slice Ak lk.length ck] :: rfO b2 d2 N2 U2 :: R)) (fun i _ => x.length - (intOf i).toNat)
    case atStart => exact ⟨0, _, rfl, Nat.zero_le _, by simp, E3⟩
    case round =>
      clear E3
      obtain ⟨k, xs, rfl, hk, hxs, E⟩ := hrel
      by_cases hlt : k < x.length
      · have HXS := hide hxs
        obtain ⟨g2, u, hA2, -, q1, q2⟩ := E.row_at (i := k) (by omega)
        subst hA2
        have E' := E.row_set (i := k) (by omega) (.int .u8 63)
        have E' := hide E'
        clear hxs E
        go_wp2_with fail
        go_roundw
        case rel => exact ⟨k + 1, _, by go_num, by omega, by rw [List.length_set]; exact HXS.out, E'.out⟩
        case measure => simp [intOf]; omega
      · have c1 : wr.cell? ⟨g, 1, none⟩ = some (.string ⟨a.toArray⟩) := (E.front 2 rfl).cell 1
        have sx := str_of wr _ Ad cd x (E.arg HX.out)
        clear hxs
        go_wp2_with fail
        refine ((E.front 3 rfl).rf_append a x HA.out (by have := HX0.out; omega) (by omega) (by omega)).mono ?_
        rintro e w4 ⟨rfl, E4⟩
        clear sx E c1
        go_wp2_with fail
        go_ret
        exact DoesPost.mk (D1 := dAppend d1 a x) (D2 := dAppend d2 a x) (by have := HXD.out; simp [dStep, this]) (by have := HXD.out; simp [dStep, this]) (fun h => by subst h; simp) ((E4.swap.drop.front 2 rfl).drop.swap) (by omega) (by have := HX0.out; omega) (by omega) (by have := HX0.out; omega)
  have k1 : (kind == 1) = false := by simpa using hk
  have n1' := hk
  clear hk
  by_cases hk : kind = 5
  · subst hk
    have hst1 : dStep d1 ⟨5, a, b, ⟨Ad, ld, cd⟩, ⟨Ak, lk, ck⟩⟩ = d1 := by simp [dStep]
    have hst2 : dStep d2 ⟨5, a, b, ⟨Ad, ld, cd⟩, ⟨Ak, lk, ck⟩⟩ = d2 := by simp [dStep]
    have HST1 := hide hst1
    have HST2 := hide hst2
    clear hst1 hst2
    have c0 : w1.cell? ⟨g, 0, none⟩ = some (.int .i64 5) := E1.cell 0
    have c1 : w1.cell? ⟨g, 1, none⟩ = some (.string ⟨a.toArray⟩) := E1.cell 1
    go_wp2_with fail
    refine (E1.swap.dk_read a HA.out (by omega)).mono ?_
    rintro e w2 ⟨A2, c2, rfl, E2⟩
    have d1' : w2.cell? ⟨g, 1, none⟩ = some (.string ⟨a.toArray⟩) := (E2.front 2 rfl).cell 1
    go_wp2_with fail
    refine ((E2.front 3 rfl).rf_read a HA.out (by omega)).mono ?_
    rintro e w3 ⟨rfl, E3⟩
    replace E3 : Env w0 w3 (rowO 5 1 (.slice A2 (dReadB d1 a).length c2) ((dReadB d1 a).map u8V) :: dkO b1 d1 N1 U1 :: cellsO g 49 #[.int .i64 5, .string ⟨a.toArray⟩, .string ⟨b.toArray⟩, .slice Ad ld.length cd, .slice Ak lk.length ck] :: rfO b2 d2 N2 U2 :: R) := ((E3.front 3 rfl).front 3 rfl).front 3 rfl
    have s3 := E3.str
    have hrl : (dReadB d1 a).length ≤ 1000000000 := by
      have hf := (E3.front 1 rfl).dk_fit
      unfold dReadB
      split
      · unfold dOld
        cases hg : fGet a d1.l with
        | none => simp
        | some f => have := dUsed_mem (fGet_mem hg); have := hf.bytes; simp; omega
      · simp
    have hpe : Hid (d1 = d2 → (dReadB d1 a == dReadB d2 a) = true ∧ (dMay d1 true a a == dMay d2 true a a) = true) := fun h => by subst h; simp
    obtain ⟨p, hp⟩ : ∃ p, (dReadB d1 a == dReadB d2 a) = p := ⟨_, rfl⟩
    obtain ⟨q, hq⟩ : ∃ q, (dMay d1 true a a == dMay d2 true a a) = q := ⟨_, rfl⟩
    have HPE : Hid (d1 = d2 → p = true ∧ q = true) := by rw [← hp, ← hq]; exact hpe
    clear hpe E2 d1' c1
    generalize dReadB d1 a = y at *
    generalize dReadB d2 a = z at *
    generalize dMay d1 true a a = m1 at *
    generalize dMay d2 true a a = m2 at *
    have hpq : Hid (d1 = d2 → (p && q) = true) := fun h => by obtain ⟨h1, h2⟩ := HPE.out h; rw [h1, h2]; rfl
    clear HPE
    cases p with
    | true => 
      go_wp2_with fail
      clear s3
      go_loopw [16] (fun i wr => ∃ (k : Nat) (xs : List Value), i = .int .i64 k ∧ k ≤ y.length ∧ xs.length = y.length ∧ Env w0 wr (rowO 5 1 (.slice A2 y.length c2) xs :: dkO b1 d1 N1 U1 :: cellsO g 49 #[.int .i64 5, .string ⟨a.toArray⟩, .string ⟨b.toArray⟩, .slice Ad ld.length cd, .slice Ak lk.length ck] :: rfO b2 d2 N2 U2 :: R)) (fun i _ => y.length - (intOf i).toNat)
      case atStart => exact ⟨0, _, rfl, Nat.zero_le _, by simp, E3⟩
      case round =>
        clear E3
        obtain ⟨k, xs, rfl, hk, hxs, E⟩ := hrel
        by_cases hlt : k < y.length
        · have HXS := hide hxs
          obtain ⟨g2, u, hA2, -, q1, q2⟩ := E.row_at (i := k) (by omega)
          subst hA2
          have E' := E.row_set (i := k) (by omega) (.int .u8 33)
          have E' := hide E'
          clear hxs E
          go_wp2_with fail
          go_roundw
          case rel => exact ⟨k + 1, _, by go_num, by omega, by rw [List.length_set]; exact HXS.out, E'.out⟩
          case measure => simp [intOf]; omega
        · clear hxs
          go_wp2_with fail
          go_ret
          exact DoesPost.mk (D1 := d1) (D2 := d2) HST1.out.symm HST2.out.symm hpq.out ((E.drop.front 1 rfl).drop) (by omega) (by omega) (by omega) (by omega)
    | false => 
      go_wp2_with fail
      clear s3
      go_loopw [16] (fun i wr => ∃ (k : Nat) (xs : List Value), i = .int .i64 k ∧ k ≤ y.length ∧ xs.length = y.length ∧ Env w0 wr (rowO 5 1 (.slice A2 y.length c2) xs :: dkO b1 d1 N1 U1 :: cellsO g 49 #[.int .i64 5, .string ⟨a.toArray⟩, .string ⟨b.toArray⟩, .slice Ad ld.length cd, .slice Ak lk.length ck] :: rfO b2 d2 N2 U2 :: R)) (fun i _ => y.length - (intOf i).toNat)
      case atStart => exact ⟨0, _, rfl, Nat.zero_le _, by simp, E3⟩
      case round =>
        clear E3
        obtain ⟨k, xs, rfl, hk, hxs, E⟩ := hrel
        by_cases hlt : k < y.length
        · have HXS := hide hxs
          obtain ⟨g2, u, hA2, -, q1, q2⟩ := E.row_at (i := k) (by omega)
          subst hA2
          have E' := E.row_set (i := k) (by omega) (.int .u8 33)
          have E' := hide E'
          clear hxs E
          go_wp2_with fail
          go_roundw
          case rel => exact ⟨k + 1, _, by go_num, by omega, by rw [List.length_set]; exact HXS.out, E'.out⟩
          case measure => simp [intOf]; omega
        · clear hxs
          go_wp2_with fail
          go_ret
          exact DoesPost.mk (D1 := d1) (D2 := d2) HST1.out.symm HST2.out.symm hpq.out ((E.drop.front 1 rfl).drop) (by omega) (by omega) (by omega) (by omega)
  have k5 : (kind == 5) = false := by simpa using hk
  have n5 := hk
  clear hk
  have c0 : w1.cell? ⟨g, 0, none⟩ = some (.int .i64 kind) := E1.cell 0
  have hst : ∀ d, dStep d ⟨kind, a, b, ⟨Ad, ld, cd⟩, ⟨Ak, lk, ck⟩⟩ = d := fun d => by
    unfold dStep
    have n2 : ¬ kind = 2 := by simpa using k2
    have n3 : ¬ kind = 3 := by simpa using k3
    have n4 : ¬ kind = 4 := by simpa using k4
    simp only [n1', n2, n3, n4, n6, n7, if_false]
  have HST := hide hst
  clear hst n5 n1' n6 n7
  go_wp2_with fail
  go_ret
  exact DoesPost.mk (D1 := d1) (D2 := d2) (HST.out _).symm (HST.out _).symm (fun _ => rfl) E1.drop (by omega) (by omega) (by omega) (by omega)
end
end Go.Proofs.Ytbkenickmiapdaa
