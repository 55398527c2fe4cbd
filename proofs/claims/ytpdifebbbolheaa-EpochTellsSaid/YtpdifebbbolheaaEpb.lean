/- DERIVED. The contracts of package epoch for a caller that made the epochs: nothing that was there before the caller has turned; nor have the blocks of T. And 'shown'. -/
import Derived.Test.YtpdifebbbolheaaEpc
namespace Go.Proofs.Ytpdifebbbolheaa
set_option linter.unusedVariables false
set_option linter.unusedSimpArgs false
open Go.RowKit

/-- The epochs at b, made since w0; their blocks are none of T. -/
def EpB (w0 w : World) (T : Foot) (b : Nat) (now : Int) (ws : List (Option Int)) : Prop :=
  ∃ S : Foot, Ep w S b now ws ∧ (∀ k, S k → w0.heap.size ≤ k ∧ ¬ T k) ∧ Below w0.heap.size w0 w

/-- The blocks of T have stayed. -/
structure Stays (T : Foot) (w w' : World) : Prop where
  block : ∀ k, T k → w'.heap[k]? = w.heap[k]?
  size : w.heap.size ≤ w'.heap.size

def EpBPost (w0 w : World) (T : Foot) (b : Nat) (r : Value) (now : Int) (ws : List (Option Int)) (e : Ending) (w' : World) : Prop :=
  e = .returned r ∧ EpB w0 w' T b now ws ∧ Stays T w w'

theorem EpPost.toB {w0 w w' : World} {S T : Foot} {b : Nat} {r : Value} {now : Int} {ws : List (Option Int)} {e : Ending}
    (h : EpPost w S b r now ws e w') (hS : ∀ k, S k → w0.heap.size ≤ k ∧ ¬ T k) (hB : Below w0.heap.size w0 w) (hT : ∀ k, T k → k < w.heap.size) : EpBPost w0 w T b r now ws e w' := by
  obtain ⟨he, S', h1, h2, h3⟩ := h
  refine ⟨he, ⟨S', h1, fun k hk => ?_, hB.trans (h2.below (fun k hk => (hS k hk).1) hB.size)⟩, ⟨fun k hk => h2.block k (hT k hk) fun hs => (hS k hs).2 hk, h2.size⟩⟩
  rcases h3 k hk with hk | hk
  · exact hS k hk
  · have := hB.size
    exact ⟨by omega, fun ht => by have := hT k ht; omega⟩

theorem EpB.keep {w0 w w' : World} {T : Foot} {b : Nat} {now : Int} {ws : List (Option Int)} (h : EpB w0 w T b now ws) (hk : ∀ k, w0.heap.size ≤ k → ¬ T k → k < w.heap.size → w'.heap[k]? = w.heap[k]?) (hB : Below w0.heap.size w0 w → Below w0.heap.size w0 w') : EpB w0 w' T b now ws := by
  obtain ⟨S, h, hS, hb⟩ := h
  refine ⟨S, h.keep fun k hs => hk k (hS k hs).1 (hS k hs).2 ?_, hS, hB hb⟩
  obtain ⟨_, _, h⟩ := h
  exact h.lt k hs
theorem EpB.drewN {w0 w : World} {T : Foot} {b : Nat} {now : Int} {ws : List (Option Int)} (h : EpB w0 w T b now ws) (n : Nat) : EpB w0 (w.drewN n) T b now ws :=
  h.keep (fun _ _ _ _ => rfl) fun h => ⟨h.os, h.tape, h.output, h.size, h.block⟩
theorem EpB.below {w0 w : World} {T : Foot} {b : Nat} {now : Int} {ws : List (Option Int)} (h : EpB w0 w T b now ws) : Below w0.heap.size w0 w := by
  obtain ⟨S, _, _, hb⟩ := h
  exact hb

section
variable {w0 w : World} {T : Foot} {b : Nat} {now : Int} {ws : List (Option Int)}

theorem EpB.now_ (h : EpB w0 w T b now ws) : Calls Try.prog 12 #[.pointer (some ⟨b, 0, none⟩)] w fun e w' => e = .returned (.int .u32 now) ∧ w' = w := by
  obtain ⟨S, h, _, _⟩ := h
  exact h.now_
theorem EpB.safe_ (h : EpB w0 w T b now ws) (ok : EpOk now ws) : Calls Try.prog 13 #[.pointer (some ⟨b, 0, none⟩)] w fun e w' => e = .returned (.int .u32 (epSafe now ws)) ∧ w' = w := by
  obtain ⟨S, h, _, _⟩ := h
  exact h.safe_ ok
theorem EpB.in_ (h : EpB w0 w T b now ws) (ok : EpOk now ws) (k : Int) (hk0 : -9223372036854775808 ≤ k) (hk1 : k ≤ 9223372036854775807) :
    Calls Try.prog 18 #[.pointer (some ⟨b, 0, none⟩), .int .i64 k] w fun e w' => e = .returned (.tuple #[.int .u32 ((epAt ws k).getD 0), .bool (epAt ws k).isSome]) ∧ w' = w := by
  obtain ⟨S, h, _, _⟩ := h
  exact h.in_ ok.len k hk0 hk1
theorem EpB.leave_ (h : EpB w0 w T b now ws) (hT : ∀ k, T k → k < w.heap.size) (ok : EpOk now ws) (k : Int) (hk0 : -9223372036854775808 ≤ k) (hk1 : k ≤ 9223372036854775807) :
    Calls Try.prog 10 #[.pointer (some ⟨b, 0, none⟩), .int .i64 k] w (EpBPost w0 w T b (.int .i64 (epLeaveE ws k)) now (epLeave ws k)) := by
  obtain ⟨S, h, hS, hB⟩ := h
  exact (h.leave_ ok.len k hk0 hk1).mono fun e w' hp => hp.toB hS hB hT
theorem EpB.enter_ (h : EpB w0 w T b now ws) (hT : ∀ k, T k → k < w.heap.size) (ok : EpOk now ws) (k : Int) (hk0 : -9223372036854775808 ≤ k) (hk1 : k ≤ 9223372036854775807) :
    Calls Try.prog 9 #[.pointer (some ⟨b, 0, none⟩), .int .i64 k] w (EpBPost w0 w T b (.tuple #[.int .u32 (epEnterN now ws k), .int .i64 (epEnterE ws k)]) now (epEnter now ws k)) := by
  obtain ⟨S, h, hS, hB⟩ := h
  exact (h.enter_ ok.len k hk0 hk1).mono fun e w' hp => hp.toB hS hB hT
theorem EpB.advance_ (h : EpB w0 w T b now ws) (hT : ∀ k, T k → k < w.heap.size) (ok : EpOk now ws) :
    Calls Try.prog 11 #[.pointer (some ⟨b, 0, none⟩)] w (EpBPost w0 w T b (.bool (epMay now ws)) (epAdvance now ws) ws) := by
  obtain ⟨S, h, hS, hB⟩ := h
  exact (h.advance_ ok).mono fun e w' hp => hp.toB hS hB hT
end
theorem epb_new (w0 w : World) (T : Foot) (n : Nat) (t : Int) (h1 : 1 ≤ n) (h8 : n ≤ 8) (ht : 1 ≤ t) (hT : ∀ k, T k → k < w.heap.size) (hB : Below w0.heap.size w0 w) :
    Calls Try.prog 8 #[.int .i64 n, .int .u32 t] w (EpBPost w0 w T (w.heap.size + 1) (.tuple #[.pointer (some ⟨w.heap.size + 1, 0, none⟩), .int .i64 0]) t (List.replicate n none)) :=
  (ep_new w n t h1 h8 ht).mono fun e w' hp => hp.toB (by intro k hk; cases hk) hB hT

theorem no_T {w : World} : ∀ k, Foot.none k → k < w.heap.size := fun k hk => by cases hk

theorem epOk_new (n : Nat) (t : Int) (h8 : n ≤ 8) (h1 : 1 ≤ t) (h2 : t ≤ 4294967295) : EpOk t (List.replicate n none) :=
  ⟨h1, h2, by simpa using h8, fun a ha => by simp at ha, fun a ha => by simp at ha, fun a ha => by simp at ha⟩

set_option maxHeartbeats 1000000 in
theorem ep_shown (w : World) : Calls Try.prog 7 #[] w fun e w' => e = .returned (.bool true) ∧ Below w.heap.size w w' := by
  have k0 := epb_new w w Foot.none 2 5 (by decide) (by decide) (by decide) no_T (Below.refl _ _)
  have ok0 : EpOk 5 (List.replicate 2 none) := epOk_new 2 5 (by decide) (by decide) (by decide)
  have ok1 : EpOk 5 (epEnter 5 (List.replicate 2 none) 0) := ok0.enter 0
  have ok2 : EpOk 6 (epEnter 5 (List.replicate 2 none) 0) := ok1.advance
  have ok3 : EpOk 6 (epLeave (epEnter 5 (List.replicate 2 none) 0) 0) := ok2.leave 0
  have ok4 : EpOk 7 (epLeave (epEnter 5 (List.replicate 2 none) 0) 0) := ok3.advance
  have K0 := hide k0
  have O0 := hide ok0
  have O1 := hide ok1
  have O2 := hide ok2
  have O3 := hide ok3
  have O4 := hide ok4
  clear k0 ok0 ok1 ok2 ok3 ok4
  go_enter Try.func7, Try.ntmps7
  go_wp2_with fail
  refine K0.out.mono ?_
  rintro e w1 ⟨rfl, h1, -⟩
  go_wp2_with fail
  refine (h1.enter_ no_T O0.out 0 (by decide) (by decide)).mono ?_
  rintro e w2 ⟨rfl, h2, -⟩
  clear h1
  rw [show epEnterN 5 (List.replicate 2 none) 0 = 5 from rfl, show epEnterE (List.replicate 2 none) 0 = 0 from rfl]
  go_wp2_with fail
  refine (h2.advance_ no_T O1.out).mono ?_
  rintro e w3 ⟨rfl, h3, -⟩
  clear h2
  rw [show epMay 5 (epEnter 5 (List.replicate 2 none) 0) = true from rfl]
  replace h3 : EpB w w3 Foot.none (w.heap.size + 1) 6 (epEnter 5 (List.replicate 2 none) 0) := h3
  go_wp2_with fail
  refine (h3.advance_ no_T O2.out).mono ?_
  rintro e w4 ⟨rfl, h4, -⟩
  clear h3
  rw [show epMay 6 (epEnter 5 (List.replicate 2 none) 0) = false from rfl]
  replace h4 : EpB w w4 Foot.none (w.heap.size + 1) 6 (epEnter 5 (List.replicate 2 none) 0) := h4
  go_wp2_with fail
  refine (h4.safe_ O2.out).mono ?_
  rintro e w5 ⟨rfl, rfl⟩
  rw [show epSafe 6 (epEnter 5 (List.replicate 2 none) 0) = 4 from rfl]
  go_wp2_with fail
  refine (h4.leave_ no_T O2.out 0 (by decide) (by decide)).mono ?_
  rintro e w6 ⟨rfl, h6, -⟩
  clear h4
  rw [show epLeaveE (epEnter 5 (List.replicate 2 none) 0) 0 = 0 from rfl]
  go_wp2_with fail
  refine (h6.advance_ no_T O3.out).mono ?_
  rintro e w7 ⟨rfl, h7, -⟩
  clear h6
  rw [show epMay 6 (epLeave (epEnter 5 (List.replicate 2 none) 0) 0) = true from rfl]
  replace h7 : EpB w w7 Foot.none (w.heap.size + 1) 7 (epLeave (epEnter 5 (List.replicate 2 none) 0) 0) := h7
  go_wp2_with fail
  refine (h7.enter_ no_T O4.out 2 (by decide) (by decide)).mono ?_
  rintro e w8 ⟨rfl, h8, -⟩
  clear h7
  rw [show epEnterE (epLeave (epEnter 5 (List.replicate 2 none) 0) 0) 2 = 1 from rfl]
  replace h8 : EpB w w8 Foot.none (w.heap.size + 1) 7 (epLeave (epEnter 5 (List.replicate 2 none) 0) 0) := h8
  go_wp2_with fail
  refine h8.now_.mono ?_
  rintro e w9 ⟨rfl, rfl⟩
  go_wp2_with fail
  refine (h8.safe_ O4.out).mono ?_
  rintro e w10 ⟨rfl, rfl⟩
  rw [show epSafe 7 (epLeave (epEnter 5 (List.replicate 2 none) 0) 0) = 6 from rfl]
  go_wp2_with fail
  go_ret
  exact ⟨rfl, h8.below⟩
end Go.Proofs.Ytpdifebbbolheaa
