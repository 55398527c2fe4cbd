/- DERIVED. Walks of package disk: Sync, Delete, Read's error; the contracts over 'Dk'. -/
import Derived.Test.YtbkenickmiapdaaDk2
namespace Go.Proofs.Ytbkenickmiapdaa
set_option linter.unusedVariables false
set_option linter.unusedSimpArgs false
open Go.RowKit

theorem texts_one {w : World} {n : Nm} {k : Nat} : TextsAt ((w.alloc (.cells #[.string ⟨n.toArray⟩] 9)).drewN k) w.heap.size [n] := by
  intro i h
  have : i = 0 := by simpa using h
  subst this
  simp

/-- 'may' behind a row of one name: the answer for a disk. -/
theorem dMay_of {d : DS} {L : List (Nm × FB)} (hv : dkView L = d.l) (there : Bool) (n : Nm) : dMayV d.down there [n] (fGet n L).isSome = dMay d there n n := by
  unfold dMayV dMay
  rw [← hv, dkView_get]
  cases hg : fGet n L <;> simp [hg]
theorem dMay_of2 {d : DS} {L : List (Nm × FB)} (hv : dkView L = d.l) (there : Bool) (n m : Nm) : dMayV d.down there [n, m] (fGet n L).isSome = dMay d there n m := by
  unfold dMayV dMay
  rw [← hv, dkView_get]
  cases hg : fGet n L <;> simp [hg]

theorem alloc_foot {w : World} {b mb : Nat} {L : List (Nm × FB)} {lim : Int} {down : Bool} (h : DkAt w b mb L lim down) (o : Obj) (k : Nat) : DkAt ((w.alloc o).drewN k) b mb L lim down :=
  h.keep fun j hj => Below.heap_alloc w o j (by
    rcases hj with rfl | rfl | ⟨p, hp, rfl | hr⟩
    · exact h.head.lt
    · exact h.map.lt
    · exact (h.files p hp).blk_lt
    · exact (h.files p hp).row_lt hr)

set_option maxHeartbeats 400000 in
theorem dk_may1 (b mb : Nat) (L : List (Nm × FB)) (lim : Int) (down there : Bool) (n : Nm) (w : World) (h : DkAt w b mb L lim down) (hn : n.length ≤ maxLen) :
    Calls Try.prog 33 #[.pointer (some ⟨b, 0, none⟩), .bool there, .slice (some ⟨w.heap.size, 0, none⟩) 1 1] (w.alloc (.cells #[.string ⟨n.toArray⟩] 9)) fun e w' =>
      e = .returned (.int .i64 (dMayV down there [n] (fGet n L).isSome)) ∧ ∃ k, w' = (w.alloc (.cells #[.string ⟨n.toArray⟩] 9)).drewN k :=
  dk_may b mb w.heap.size 1 L lim down there n [] _ (alloc_foot h (.cells #[.string ⟨n.toArray⟩] 9) 0) (by simp) (fun m hm => by simp at hm; rw [hm]; exact hn) (texts_one (k := 0))

set_option maxHeartbeats 400000 in
/-- Sync, where the name may not be. -/
theorem dk_sync_no (b mb : Nat) (L : List (Nm × FB)) (lim : Int) (down : Bool) (n : Nm) (w : World) (h : DkAt w b mb L lim down) (hn : n.length ≤ maxLen) (E : Int) (hE : dMayV down true [n] (fGet n L).isSome = E) (h0 : (E == 0) = false) :
    Calls Try.prog 16 #[.pointer (some ⟨b, 0, none⟩), .string ⟨n.toArray⟩] w fun e w' => e = .returned (.int .i64 E) ∧ Below w.heap.size w w' := by
  have km := dk_may1 b mb L lim down true n w h hn
  rw [hE] at km
  have KM := hide km
  clear km h hE
  go_enter Try.func16, Try.ntmps16
  go_wp2_with fail
  refine KM.out.mono ?_
  rintro e w' ⟨rfl, k, rfl⟩
  go_wp2_with fail
  go_ret
  exact ⟨rfl, ((Below.refl _ w).alloc (Nat.le_refl _) _).trans ⟨rfl, rfl, rfl, Nat.le_refl _, fun _ _ => rfl⟩⟩

set_option maxHeartbeats 400000 in
theorem dk_sync_yes (b mb : Nat) (L : List (Nm × FB)) (lim : Int) (down : Bool) (n : Nm) (x : FB) (sv : Value) (A : Option Addr) (c : Nat) (w : World) (h : DkAt w b mb L lim down) (hn : n.length ≤ maxLen) (hE : dMayV down true [n] (fGet n L).isSome = 0) (hg : fGet n L = some x)
    (hsv : sv = .slice A x.f.b.length c) (hblk : Blk w x.blk 64 #[sv, .int .i64 x.f.s]) :
    Calls Try.prog 16 #[.pointer (some ⟨b, 0, none⟩), .string ⟨n.toArray⟩] w fun e w' => e = .returned (.int .i64 0) ∧ ∃ k, w' = ((w.alloc (.cells #[.string ⟨n.toArray⟩] 9)).drewN k).setCell ⟨x.blk, 1, none⟩ (.int .i64 x.f.b.length) := by
  subst hsv
  have km := dk_may1 b mb L lim down true n w h hn
  rw [hE] at km
  have KM := hide km
  have hA := alloc_foot h (.cells #[.string ⟨n.toArray⟩] 9)
  have c1 : ∀ k, ((w.alloc (.cells #[.string ⟨n.toArray⟩] 9)).drewN k).cell? ⟨b, 1, none⟩ = some (.map (some mb)) := fun k => (hA k).head.cell 1
  have hlook : ∀ k, (Instr.lookup 58 (.map (some mb)) (.string ⟨n.toArray⟩) false).run Try.prog ((w.alloc (.cells #[.string ⟨n.toArray⟩] 9)).drewN k) = .ok (.pointer (some ⟨x.blk, 0, none⟩)) ((w.alloc (.cells #[.string ⟨n.toArray⟩] 9)).drewN k) := fun k => by
    have := (hA k).look n hn 0
    rw [hg] at this
    exact this
  have hb2 : ∀ k, Blk ((w.alloc (.cells #[.string ⟨n.toArray⟩] 9)).drewN k) x.blk 64 #[.slice A x.f.b.length c, .int .i64 x.f.s] := fun k => (hblk.alloc _).drewN k
  have d0 : ∀ k, ((w.alloc (.cells #[.string ⟨n.toArray⟩] 9)).drewN k).cell? ⟨x.blk, 0, none⟩ = some (.slice A x.f.b.length c) := fun k => (hb2 k).cell 0
  have d1 : ∀ k, ((w.alloc (.cells #[.string ⟨n.toArray⟩] 9)).drewN k).cell? ⟨x.blk, 1, none⟩ = some (.int .i64 x.f.s) := fun k => (hb2 k).cell 1
  have d2 : ∀ k, ((w.alloc (.cells #[.string ⟨n.toArray⟩] 9)).drewN k).frozen? ⟨x.blk, 1, none⟩ = false := fun k => (hb2 k).frozen 1
  clear km h hE hg hA hblk hb2
  generalize hw1 : w.alloc (.cells #[.string ⟨n.toArray⟩] 9) = w1 at *
  have HW1 := hide hw1
  go_enter Try.func16, Try.ntmps16
  go_wp2_with fail
  refine KM.out.mono ?_
  rintro e w' ⟨rfl, k, rfl⟩
  clear hw1
  have c1 := c1 k
  have hlook := hlook k
  have d0 := d0 k
  have d1 := d1 k
  have d2 := d2 k
  go_wp2_with fail
  go_ret
  exact ⟨rfl, k, rfl⟩
end Go.Proofs.Ytbkenickmiapdaa
