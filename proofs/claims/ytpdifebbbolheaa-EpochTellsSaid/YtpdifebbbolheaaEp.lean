/- DERIVED. The contracts of package epoch. -/
import Derived.Test.YtpdifebbbolheaaMem
import Derived.Test.YtpdifebbbolheaaEpm
namespace Go.Proofs.Ytpdifebbbolheaa
set_option linter.unusedVariables false
set_option linter.unusedSimpArgs false
open Go.RowKit

/-- The pointer that stands for a worker. -/
def epPtr : Option Nat → Value
  | none => .pointer none
  | some p => .pointer (some ⟨p, 0, none⟩)

/-- Behind block b stand the epochs (now, ws); their blocks lie in S. -/
structure EpAt (w : World) (S : Foot) (b sb : Nat) (ps : List (Option Nat)) (now : Int) (ws : List (Option Int)) : Prop where
  lt : ∀ k, S k → k < w.heap.size
  sb_in : S sb
  b_in : S b
  head : Blk w b 48 #[.int .u32 now, .slice (some ⟨sb, 0, none⟩) ws.length ws.length]
  row : Blk w sb 50 (ps.map epPtr).toArray
  len : ps.length = ws.length
  some_ : ∀ (i p : Nat), ps[i]? = some (some p) → ∃ a, ws[i]? = some (some a) ∧ S p ∧ Blk w p 22 #[.int .u32 a]
  none_ : ∀ (i : Nat), ps[i]? = some none → ws[i]? = some none

def Ep (w : World) (S : Foot) (b : Nat) (now : Int) (ws : List (Option Int)) : Prop := ∃ sb ps, EpAt w S b sb ps now ws

theorem EpAt.keep {w w' : World} {S : Foot} {b sb : Nat} {ps : List (Option Nat)} {now : Int} {ws : List (Option Int)} (h : EpAt w S b sb ps now ws) (hk : ∀ k, S k → w'.heap[k]? = w.heap[k]?) : EpAt w' S b sb ps now ws :=
  ⟨fun k hs => lt_of_same (hk k hs) (h.lt k hs), h.sb_in, h.b_in, h.head.keep (hk _ h.b_in), h.row.keep (hk _ h.sb_in), h.len, fun i p hp => let ⟨a, h1, h2, h3⟩ := h.some_ i p hp; ⟨a, h1, h2, h3.keep (hk _ h2)⟩, h.none_⟩
theorem Ep.keep {w w' : World} {S : Foot} {b : Nat} {now : Int} {ws : List (Option Int)} (h : Ep w S b now ws) (hk : ∀ k, S k → w'.heap[k]? = w.heap[k]?) : Ep w' S b now ws :=
  let ⟨sb, ps, h⟩ := h; ⟨sb, ps, h.keep hk⟩
theorem Ep.drewN {w : World} {S : Foot} {b : Nat} {now : Int} {ws : List (Option Int)} (h : Ep w S b now ws) (n : Nat) : Ep (w.drewN n) S b now ws := h.keep fun _ _ => rfl

set_option maxHeartbeats 400000 in
theorem ep_now (b : Nat) (now : Int) (w : World) (h0 : w.cell? ⟨b, 0, none⟩ = some (.int .u32 now)) :
    Calls Try.prog 12 #[.pointer (some ⟨b, 0, none⟩)] w fun e w' => e = .returned (.int .u32 now) ∧ w' = w := by
  go_enter Try.func12, Try.ntmps12
  go_wp2
  go_ret
  exact ⟨rfl, rfl⟩

set_option maxHeartbeats 400000 in
theorem ep_is (b n : Nat) (k : Int) (sb : Option Addr) (w : World) (hn : n ≤ 8) (hk0 : -9223372036854775808 ≤ k) (hk1 : k ≤ 9223372036854775807) (h0 : w.cell? ⟨b, 1, none⟩ = some (.slice sb n n)) :
    Calls Try.prog 21 #[.pointer (some ⟨b, 0, none⟩), .int .i64 k] w fun e w' => e = .returned (.bool (decide (0 ≤ k ∧ k < n))) ∧ w' = w := by
  go_enter Try.func21, Try.ntmps21
  go_wp2
  go_ret
  refine ⟨ret_bool ?_, rfl⟩
  rw [Bool.eq_iff_iff]
  simp [IntKind.wrap, IntKind.signed, IntKind.bits]
  omega

theorem ep_is_yes (b n : Nat) (k : Int) (sb : Option Addr) (w : World) (hn : n ≤ 8) (hk0 : 0 ≤ k) (hk1 : k < n) (h0 : w.cell? ⟨b, 1, none⟩ = some (.slice sb n n)) :
    Calls Try.prog 21 #[.pointer (some ⟨b, 0, none⟩), .int .i64 k] w fun e w' => e = .returned (.bool true) ∧ w' = w :=
  (ep_is b n k sb w hn (by omega) (by omega) h0).mono fun e w' ⟨he, hw⟩ => ⟨he.trans (ret_bool (by simp; omega)), hw⟩
theorem ep_is_no (b n : Nat) (k : Int) (sb : Option Addr) (w : World) (hn : n ≤ 8) (hk0 : -9223372036854775808 ≤ k) (hk1 : k ≤ 9223372036854775807) (hk : ¬ (0 ≤ k ∧ k < n)) (h0 : w.cell? ⟨b, 1, none⟩ = some (.slice sb n n)) :
    Calls Try.prog 21 #[.pointer (some ⟨b, 0, none⟩), .int .i64 k] w fun e w' => e = .returned (.bool false) ∧ w' = w :=
  (ep_is b n k sb w hn hk0 hk1 h0).mono fun e w' ⟨he, hw⟩ => ⟨he.trans (ret_bool (by simp; omega)), hw⟩

set_option maxHeartbeats 400000 in
theorem ep_in_yes (b n k p sb : Nat) (a : Int) (w : World) (hn : n ≤ 8) (hk : k < n) (h1 : w.cell? ⟨b, 1, none⟩ = some (.slice (some ⟨sb, 0, none⟩) n n))
    (h2 : w.cell? ⟨sb, k, none⟩ = some (.pointer (some ⟨p, 0, none⟩))) (h3 : w.cell? ⟨p, 0, none⟩ = some (.int .u32 a)) :
    Calls Try.prog 18 #[.pointer (some ⟨b, 0, none⟩), .int .i64 k] w fun e w' => e = .returned (.tuple #[.int .u32 a, .bool true]) ∧ w' = w := by
  go_enter Try.func18, Try.ntmps18
  go_wp2_with (go_at_call 21; refine (ep_is_yes b n k (some ⟨sb, 0, none⟩) _ hn (by omega) (by omega) h1).mono ?_; rintro e w' ⟨rfl, rfl⟩)
  go_ret2
  exact ⟨rfl, rfl⟩
set_option maxHeartbeats 400000 in
theorem ep_in_out (b n k sb : Nat) (w : World) (hn : n ≤ 8) (hk : k < n) (h1 : w.cell? ⟨b, 1, none⟩ = some (.slice (some ⟨sb, 0, none⟩) n n))
    (h2 : w.cell? ⟨sb, k, none⟩ = some (.pointer none)) :
    Calls Try.prog 18 #[.pointer (some ⟨b, 0, none⟩), .int .i64 k] w fun e w' => e = .returned (.tuple #[.int .u32 0, .bool false]) ∧ w' = w := by
  go_enter Try.func18, Try.ntmps18
  go_wp2_with (go_at_call 21; refine (ep_is_yes b n k (some ⟨sb, 0, none⟩) _ hn (by omega) (by omega) h1).mono ?_; rintro e w' ⟨rfl, rfl⟩)
  go_ret2
  exact ⟨rfl, rfl⟩
set_option maxHeartbeats 400000 in
theorem ep_in_no (b n : Nat) (k : Int) (sb : Option Addr) (w : World) (hn : n ≤ 8) (hk0 : -9223372036854775808 ≤ k) (hk1 : k ≤ 9223372036854775807) (hk : ¬ (0 ≤ k ∧ k < n)) (h1 : w.cell? ⟨b, 1, none⟩ = some (.slice sb n n)) :
    Calls Try.prog 18 #[.pointer (some ⟨b, 0, none⟩), .int .i64 k] w fun e w' => e = .returned (.tuple #[.int .u32 0, .bool false]) ∧ w' = w := by
  go_enter Try.func18, Try.ntmps18
  go_wp2_with (go_at_call 21; refine (ep_is_no b n k sb _ hn hk0 hk1 hk h1).mono ?_; rintro e w' ⟨rfl, rfl⟩)
  go_ret2
  exact ⟨rfl, rfl⟩

set_option maxHeartbeats 400000 in
theorem ep_leave_yes (b n k p sb : Nat) (w : World) (hn : n ≤ 8) (hk : k < n) (h1 : w.cell? ⟨b, 1, none⟩ = some (.slice (some ⟨sb, 0, none⟩) n n))
    (h2 : w.cell? ⟨sb, k, none⟩ = some (.pointer (some ⟨p, 0, none⟩))) (h3 : w.frozen? ⟨sb, k, none⟩ = false) :
    Calls Try.prog 10 #[.pointer (some ⟨b, 0, none⟩), .int .i64 k] w fun e w' => e = .returned (.int .i64 0) ∧ w' = w.setCell ⟨sb, k, none⟩ (.pointer none) := by
  go_enter Try.func10, Try.ntmps10
  go_wp2_with (go_at_call 21; refine (ep_is_yes b n k (some ⟨sb, 0, none⟩) _ hn (by omega) (by omega) h1).mono ?_; rintro e w' ⟨rfl, rfl⟩)
  go_ret
  exact ⟨rfl, rfl⟩
set_option maxHeartbeats 400000 in
theorem ep_leave_out (b n k sb : Nat) (w : World) (hn : n ≤ 8) (hk : k < n) (h1 : w.cell? ⟨b, 1, none⟩ = some (.slice (some ⟨sb, 0, none⟩) n n))
    (h2 : w.cell? ⟨sb, k, none⟩ = some (.pointer none)) :
    Calls Try.prog 10 #[.pointer (some ⟨b, 0, none⟩), .int .i64 k] w fun e w' => e = .returned (.int .i64 10) ∧ w' = w := by
  go_enter Try.func10, Try.ntmps10
  go_wp2_with (go_at_call 21; refine (ep_is_yes b n k (some ⟨sb, 0, none⟩) _ hn (by omega) (by omega) h1).mono ?_; rintro e w' ⟨rfl, rfl⟩)
  go_ret
  exact ⟨rfl, rfl⟩
set_option maxHeartbeats 400000 in
theorem ep_leave_no (b n : Nat) (k : Int) (sb : Option Addr) (w : World) (hn : n ≤ 8) (hk0 : -9223372036854775808 ≤ k) (hk1 : k ≤ 9223372036854775807) (hk : ¬ (0 ≤ k ∧ k < n)) (h1 : w.cell? ⟨b, 1, none⟩ = some (.slice sb n n)) :
    Calls Try.prog 10 #[.pointer (some ⟨b, 0, none⟩), .int .i64 k] w fun e w' => e = .returned (.int .i64 1) ∧ w' = w := by
  go_enter Try.func10, Try.ntmps10
  go_wp2_with (go_at_call 21; refine (ep_is_no b n k sb _ hn hk0 hk1 hk h1).mono ?_; rintro e w' ⟨rfl, rfl⟩)
  go_ret
  exact ⟨rfl, rfl⟩

set_option maxHeartbeats 400000 in
theorem ep_enter_yes (b n k sb : Nat) (now : Int) (w : World) (hn : n ≤ 8) (hk : k < n) (h0 : w.cell? ⟨b, 0, none⟩ = some (.int .u32 now)) (h1 : w.cell? ⟨b, 1, none⟩ = some (.slice (some ⟨sb, 0, none⟩) n n))
    (h2 : w.cell? ⟨sb, k, none⟩ = some (.pointer none)) (h3 : ∀ i, w.frozen? ⟨sb, i, none⟩ = false) (hb : b < w.heap.size) (hsb : sb < w.heap.size) :
    Calls Try.prog 9 #[.pointer (some ⟨b, 0, none⟩), .int .i64 k] w fun e w' => e = .returned (.tuple #[.int .u32 now, .int .i64 0]) ∧
      w' = (w.setCell ⟨sb, k, none⟩ (.pointer (some ⟨w.heap.size, 0, none⟩))).alloc (.cells #[.int .u32 now] 22) := by
  have hk2 : (k : Int) < (n : Int) := by omega
  go_enter Try.func9, Try.ntmps9
  go_wp2_with (go_at_call 21; refine (ep_is_yes b n k (some ⟨sb, 0, none⟩) _ hn (by omega) (by omega) h1).mono ?_; rintro e w' ⟨rfl, rfl⟩)
  go_ret2
  exact ⟨rfl, rfl⟩
set_option maxHeartbeats 400000 in
theorem ep_enter_in (b n k p sb : Nat) (w : World) (hn : n ≤ 8) (hk : k < n) (h1 : w.cell? ⟨b, 1, none⟩ = some (.slice (some ⟨sb, 0, none⟩) n n))
    (h2 : w.cell? ⟨sb, k, none⟩ = some (.pointer (some ⟨p, 0, none⟩))) :
    Calls Try.prog 9 #[.pointer (some ⟨b, 0, none⟩), .int .i64 k] w fun e w' => e = .returned (.tuple #[.int .u32 0, .int .i64 10]) ∧ w' = w := by
  have hk2 : (k : Int) < (n : Int) := by omega
  go_enter Try.func9, Try.ntmps9
  go_wp2_with (go_at_call 21; refine (ep_is_yes b n k (some ⟨sb, 0, none⟩) _ hn (by omega) (by omega) h1).mono ?_; rintro e w' ⟨rfl, rfl⟩)
  go_ret2
  exact ⟨rfl, rfl⟩
set_option maxHeartbeats 400000 in
theorem ep_enter_no (b n : Nat) (k : Int) (sb : Option Addr) (w : World) (hn : n ≤ 8) (hk0 : -9223372036854775808 ≤ k) (hk1 : k ≤ 9223372036854775807) (hk : ¬ (0 ≤ k ∧ k < n)) (h1 : w.cell? ⟨b, 1, none⟩ = some (.slice sb n n)) :
    Calls Try.prog 9 #[.pointer (some ⟨b, 0, none⟩), .int .i64 k] w fun e w' => e = .returned (.tuple #[.int .u32 0, .int .i64 1]) ∧ w' = w := by
  go_enter Try.func9, Try.ntmps9
  go_wp2_with (go_at_call 21; refine (ep_is_no b n k sb _ hn hk0 hk1 hk h1).mono ?_; rintro e w' ⟨rfl, rfl⟩)
  go_ret2
  exact ⟨rfl, rfl⟩
end Go.Proofs.Ytpdifebbbolheaa
