/- DERIVED. The contracts of package epoch: least, Safe, Advance, New; and all of them over the words 'Ep'. -/
import Derived.Test.YtpdifebbbolheaaEp
import Derived.Deep.OwnRows
namespace Go.Proofs.Ytpdifebbbolheaa
set_option linter.unusedVariables false
set_option linter.unusedSimpArgs false
open Go.RowKit

set_option maxHeartbeats 400000 in
theorem ep_least (w : World) (S : Foot) (b sb : Nat) (ps : List (Option Nat)) (now : Int) (ws : List (Option Int)) (h : EpAt w S b sb ps now ws) (hn : ws.length ≤ 8) :
    Calls Try.prog 22 #[.pointer (some ⟨b, 0, none⟩)] w fun e w' => e = .returned (.int .u32 (epLeast now ws)) ∧ w' = w := by
  have h0 : w.cell? ⟨b, 0, none⟩ = some (.int .u32 now) := h.head.cell 0
  have h1 : w.cell? ⟨b, 1, none⟩ = some (.slice (some ⟨sb, 0, none⟩) ws.length ws.length) := h.head.cell 1
  go_enter Try.func22, Try.ntmps22
  go_wp2
  go_loop [3, 15] (fun n i => ∃ k : Nat, k ≤ ws.length ∧ i = .int .i64 k ∧ n = .int .u32 ((ws.take k).foldl epStep now)) (fun _ i => ws.length - (intOf i).toNat)
  case atStart => exact ⟨0, Nat.zero_le _, rfl, rfl⟩
  case round =>
    obtain ⟨k, hk, rfl, rfl⟩ := hrel
    by_cases hlt : k < ws.length
    · have hr : w.cell? ⟨sb, k, none⟩ = ((ps.map epPtr).toArray)[k]? := h.row.cell k
      have hkp : k < ps.length := by rw [h.len]; exact hlt
      have HS : Hid ((ws.take (k + 1)).foldl epStep now = epStep ((ws.take k).foldl epStep now) ws[k]) := by
        rw [List.take_succ_eq_append_getElem hlt, List.foldl_append]; exact rfl
      generalize hg : (ws.take k).foldl epStep now = n0 at *
      have HG := hide hg
      clear hg
      have hcase : ∃ q, ps[k]? = some q := ⟨_, List.getElem?_eq_getElem hkp⟩
      obtain ⟨q, hq⟩ := hcase
      have hr2 : w.cell? ⟨sb, k, none⟩ = some (epPtr q) := by rw [hr]; simp [hq]
      have hws := List.getElem?_eq_getElem hlt
      cases q with
      | none =>
        have h2 : w.cell? ⟨sb, k, none⟩ = some (.pointer none) := hr2
        have hx : Hid (ws[k] = none) := by have := h.none_ k hq; rw [hws] at this; injection this
        clear hr hr2 hq hws hkp
        go_wp2
        go_round
        case rel => exact ⟨k + 1, by omega, by go_num, by rw [HS.out, hx.out]; rfl⟩
        case measure => simp [intOf]; omega
      | some p =>
        have h2 : w.cell? ⟨sb, k, none⟩ = some (.pointer (some ⟨p, 0, none⟩)) := hr2
        obtain ⟨a, ha, _, hblk⟩ := h.some_ k p hq
        have h3 : w.cell? ⟨p, 0, none⟩ = some (.int .u32 a) := hblk.cell 0
        have hx : Hid (ws[k] = some a) := by rw [hws] at ha; injection ha
        clear hr hr2 hq hws hkp ha hblk
        go_wp2
        go_round
        case rel => exact ⟨k + 1, by omega, by go_num, by rw [HS.out, hx.out]; rfl⟩
        case measure => simp [intOf]; omega
    · have : k = ws.length := by omega
      subst this
      go_wp2
      go_ret
      exact ⟨ret_int rfl, rfl⟩

set_option maxHeartbeats 400000 in
theorem ep_safe (w : World) (S : Foot) (b sb : Nat) (ps : List (Option Nat)) (now : Int) (ws : List (Option Int)) (h : EpAt w S b sb ps now ws) (hn : ws.length ≤ 8) (hl : 1 ≤ epLeast now ws) (hu : epLeast now ws ≤ 4294967295) :
    Calls Try.prog 13 #[.pointer (some ⟨b, 0, none⟩)] w fun e w' => e = .returned (.int .u32 (epSafe now ws)) ∧ w' = w := by
  go_enter Try.func13, Try.ntmps13
  go_wp2_with (go_at_call 22; refine (ep_least _ S b sb ps now ws h hn).mono ?_; rintro e w' ⟨rfl, rfl⟩)
  go_ret
  exact ⟨ret_int rfl, rfl⟩

set_option maxHeartbeats 400000 in
theorem ep_advance_no (w : World) (S : Foot) (b sb : Nat) (ps : List (Option Nat)) (now : Int) (ws : List (Option Int)) (h : EpAt w S b sb ps now ws) (hn : ws.length ≤ 8) (hm : epMay now ws = false) :
    Calls Try.prog 11 #[.pointer (some ⟨b, 0, none⟩)] w fun e w' => e = .returned (.bool false) ∧ ∃ n, w' = w.drewN n := by
  have h0 : w.cell? ⟨b, 0, none⟩ = some (.int .u32 now) := h.head.cell 0
  have hcall : ∀ n, Calls Try.prog 22 #[.pointer (some ⟨b, 0, none⟩)] (w.drewN n) fun e w' => e = .returned (.int .u32 (epLeast now ws)) ∧ w' = w.drewN n := fun n => ep_least _ S b sb ps now ws (h.keep fun _ _ => rfl) hn
  have hm2 : Hid (epMay now ws = false) := hm
  clear hm
  generalize hL : epLeast now ws = L at *
  have hle : L ≤ now := hL ▸ epLeast_le now ws
  have HL := hide hL
  clear hL
  by_cases hlt : L < now
  · have hd : decide (L < now) = true := by simpa using hlt
    go_enter Try.func11, Try.ntmps11
    go_wp2
    go_quiet ((go_at_call 22; exact Calls.quiet_of_same (hcall _)))
    go_wp2
    go_ret
    exact ⟨rfl, _, rfl⟩
  · have hd : decide (L < now) = false := by simpa using hlt
    have he : (now == 4294967295) = true := by
      have := hm2.out
      unfold epMay at this
      rw [HL.out] at this
      simp at this ⊢
      omega
    go_enter Try.func11, Try.ntmps11
    go_wp2
    go_quiet ((go_at_call 22; exact Calls.quiet_of_same (hcall _)))
    go_wp2
    go_ret
    exact ⟨rfl, _, rfl⟩

set_option maxHeartbeats 400000 in
theorem ep_advance_yes (w : World) (S : Foot) (b sb : Nat) (ps : List (Option Nat)) (now : Int) (ws : List (Option Int)) (h : EpAt w S b sb ps now ws) (hn : ws.length ≤ 8) (hm : epMay now ws = true) (h1 : 1 ≤ now) (hu : now ≤ 4294967295) :
    Calls Try.prog 11 #[.pointer (some ⟨b, 0, none⟩)] w fun e w' => e = .returned (.bool true) ∧ ∃ n, w' = (w.drewN n).setCell ⟨b, 0, none⟩ (.int .u32 (now + 1)) := by
  have h0 : w.cell? ⟨b, 0, none⟩ = some (.int .u32 now) := h.head.cell 0
  have hf : w.frozen? ⟨b, 0, none⟩ = false := h.head.frozen 0
  have hcall : ∀ n, Calls Try.prog 22 #[.pointer (some ⟨b, 0, none⟩)] (w.drewN n) fun e w' => e = .returned (.int .u32 (epLeast now ws)) ∧ w' = w.drewN n := fun n => ep_least _ S b sb ps now ws (h.keep fun _ _ => rfl) hn
  simp only [epMay, decide_eq_true_eq] at hm
  generalize hL : epLeast now ws = L at *
  have HL := hide hL
  clear hL
  obtain ⟨hm1, hm2⟩ := hm
  have hd : decide (L < now) = false := by simpa using hm1
  have he : (now == 4294967295) = false := by simpa using hm2
  have hlt : now < 4294967295 := by omega
  clear hm2
  go_enter Try.func11, Try.ntmps11
  go_wp2
  go_quiet ((go_at_call 22; exact Calls.quiet_of_same (hcall _)))
  go_wp2
  go_ret
  exact ⟨rfl, _, rfl⟩

theorem ep_info : (Try.prog.info? 50).map (fun i => (i.zero, i.size, i.bytes)) = some (some (.pointer none), 1, 8) := by kernel_rfl

set_option maxHeartbeats 400000 in
theorem ep_new_yes (n : Nat) (t : Int) (w : World) (h1 : 1 ≤ n) (h8 : n ≤ 8) (ht : 1 ≤ t) :
    Calls Try.prog 8 #[.int .i64 n, .int .u32 t] w fun e w' => e = .returned (.tuple #[.pointer (some ⟨w.heap.size + 1, 0, none⟩), .int .i64 0]) ∧
      w' = (w.alloc (.cells (madeCells #[.pointer none] n) 50)).alloc (.cells #[.int .u32 t, .slice (some ⟨w.heap.size, 0, none⟩) n n] 48) := by
  have ht0 : (t == 0) = false := by simp; omega
  have hmk := run_make_row' (P := Try.prog) 46 50 (.pointer none) 8 Try.underlying46 ep_info rfl .i64 .i64 n (by omega) (by omega)
  go_enter Try.func8, Try.ntmps8
  go_wp2
  go_ret2
  exact ⟨rfl, rfl⟩

set_option maxHeartbeats 400000 in
theorem ep_new_no (n : Int) (t : Int) (w : World) (h : (n < 1 ∨ 8 < n) ∨ t = 0) :
    Calls Try.prog 8 #[.int .i64 n, .int .u32 t] w fun e w' => e = .returned (.tuple #[.pointer none, .int .i64 1]) ∧ w' = w := by
  by_cases h1 : n < 1
  · go_enter Try.func8, Try.ntmps8
    go_wp2
    go_ret2
    exact ⟨rfl, rfl⟩
  by_cases h8 : 8 < n
  · go_enter Try.func8, Try.ntmps8
    go_wp2
    go_ret2
    exact ⟨rfl, rfl⟩
  have ht0 : (t == 0) = true := by simp; omega
  clear h
  go_enter Try.func8, Try.ntmps8
  go_wp2
  go_ret2
  exact ⟨rfl, rfl⟩
end Go.Proofs.Ytpdifebbbolheaa
