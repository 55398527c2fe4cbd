/- DERIVED. 'shown' of the laws on disks; bytes as texts; literals. -/
import Derived.Test.YtbkenickmiapdaaDkb
import Derived.Lib.SlBytesConst
import Derived.Laws.IdiomStrings
import Derived.Deep.Light
namespace Go.Proofs.Ytbkenickmiapdaa
set_option linter.unusedVariables false
set_option linter.unusedSimpArgs false
open Go.RowKit

/-- string(b). -/
theorem str_of (w : World) (B : Nat) (A : Option Addr) (c : Nat) (l : List UInt8) (hr : Reads w B 1 A l.length (l.map u8V)) :
    (convert 22 9 (.slice A l.length c)).run Try.prog w = .ok (.string ⟨l.toArray⟩) w := by
  cases A with
  | none =>
    have hl : l = [] := by
      rcases Nat.eq_zero_or_pos l.length with h0 | h0
      · exact List.eq_nil_of_length_eq_zero h0
      · obtain ⟨ad, h, _⟩ := hr.2 h0
        cases h
    subst hl
    rw [run_convert_bytes_string w _ _ 5 none _ c Try.underlying22 Try.underlying5 Try.underlying9]
    rfl
  | some ad =>
    refine run_convert_bytes_back w _ _ 5 ad c l Try.underlying22 Try.underlying5 Try.underlying9 fun j hj => ?_
    obtain ⟨ad', e, _, hc⟩ := hr.2 (by omega)
    injection e with e
    subst e
    exact hc j _ (by simp [hj, u8V])

/-- A literal's row. -/
theorem Reads.lit (w : World) (C : Array Value) (e : TypeId) (z : Nat × Nat) (xs : List Value) (h : C.toList = xs) : Reads (w.alloc (.cells C e z)) (w.heap.size + 1) 1 (some ⟨w.heap.size, 0, none⟩) xs.length xs := by
  refine ⟨by simp, fun _ => ⟨_, rfl, by simp, fun j u hu => ?_⟩⟩
  rw [addr_add, cell_of_row _ w.heap.size (0 + j) C e z (World.alloc_heap_new w _)]
  subst h
  simpa using hu
theorem Reads.upto {w : World} {B B' size n : Nat} {A : Option Addr} {xs : List Value} (h : Reads w B size A n xs) (hB : B ≤ B') : Reads w B' size A n xs := h.more hB

/-- A beginning of a slice. -/
theorem Reads.cut {w : World} {B : Nat} {A : Option Addr} {l : List UInt8} (h : Reads w B 1 A l.length (l.map u8V)) (m : Nat) : Reads w B 1 A (l.take m).length ((l.take m).map u8V) := by
  refine ⟨by simp, fun h0 => ?_⟩
  obtain ⟨ad, e, hb, hc⟩ := h.2 (by simp at h0; omega)
  refine ⟨ad, e, hb, fun j u hu => hc j u ?_⟩
  rw [List.map_take, List.getElem?_take] at hu
  split at hu
  · exact hu
  · cases hu

theorem DkB.alloc {w0 w : World} {T : Foot} {b : Nat} {d : DS} (h : DkB w0 w T b d) (o : Obj) : DkB w0 (w.alloc o) T b d := h.more ((Below.refl _ w).alloc (Nat.le_refl _) _)
theorem no_T {w : World} : ∀ k, Foot.none k → k < w.heap.size := fun k h => h.elim

set_option maxRecDepth 100000 in
set_option maxHeartbeats 1000000 in
theorem dk_shown (w : World) : Calls Try.prog 13 #[] w fun e w' => e = .returned (.bool true) ∧ Below w.heap.size w w' := by
  have kc := fun (w : World) (C : Array Value) (n c : Nat) => Lib.run_convert_bytes_const (P := Try.prog) w 22 5 C n c Try.underlying22 Try.underlying5
  go_enter Try.func13, Try.ntmps13
  go_wp2_with fail
  refine (dkb_new w w Foot.none 10 no_T (Below.refl _ _)).mono ?_
  rintro e w1 ⟨b, rfl, h1, -⟩
  have f1 : DFit ⟨10, [], false⟩ 0 0 := DFit.new 10 (by decide)
  replace h1 : DkB w w1 Foot.none b ⟨10, [], false⟩ := h1
  go_wp2_with fail
  have k1 := (h1.alloc (.cells #[.int .u8 120, .int .u8 121] 5 (2, 3))).append_ no_T f1 [97] (by decide) (some ⟨w1.heap.size, 0, none⟩) 2 [120, 121] ((Reads.lit w1 #[.int .u8 120, .int .u8 121] 5 (2, 3) _ rfl).upto (by simp)) (by decide) (by decide)
  have a1 : dAppendE ⟨10, [], false⟩ [97] [120, 121] = 0 := by kernel_rfl
  have b1 : dAppend ⟨10, [], false⟩ [97] [120, 121] = ⟨10, [([97], ⟨[120, 121], 0⟩)], false⟩ := by kernel_rfl
  have f2 := f1.append [97] [120, 121]
  rw [a1, b1] at k1
  rw [b1] at f2
  refine k1.mono ?_
  rintro e w2 ⟨rfl, h2, -⟩
  clear k1 a1 b1 h1 f1
  go_wp2_with fail
  have k2 := h2.sync_ no_T f2 [97] (by decide)
  have a2 : dMay ⟨10, [([97], ⟨[120, 121], 0⟩)], false⟩ true [97] [97] = 0 := by kernel_rfl
  have b2 : dSync ⟨10, [([97], ⟨[120, 121], 0⟩)], false⟩ [97] = ⟨10, [([97], ⟨[120, 121], 2⟩)], false⟩ := by kernel_rfl
  have f3 := f2.sync [97]
  rw [a2, b2] at k2
  rw [b2] at f3
  refine k2.mono ?_
  rintro e w3 ⟨rfl, h3, -⟩
  clear k2 a2 b2 h2 f2
  go_wp2_with fail
  have k3 := (h3.alloc (.cells #[.int .u8 122, .int .u8 49, .int .u8 50] 5 (3, 4))).append_ no_T f3 [97] (by decide) (some ⟨w3.heap.size, 0, none⟩) 3 [122, 49, 50] ((Reads.lit w3 #[.int .u8 122, .int .u8 49, .int .u8 50] 5 (3, 4) _ rfl).upto (by simp)) (by decide) (by decide)
  have a3 : dAppendE ⟨10, [([97], ⟨[120, 121], 2⟩)], false⟩ [97] [122, 49, 50] = 0 := by kernel_rfl
  have b3 : dAppend ⟨10, [([97], ⟨[120, 121], 2⟩)], false⟩ [97] [122, 49, 50] = ⟨10, [([97], ⟨[120, 121, 122, 49, 50], 2⟩)], false⟩ := by kernel_rfl
  have f4 := f3.append [97] [122, 49, 50]
  rw [a3, b3] at k3
  rw [b3] at f4
  refine k3.mono ?_
  rintro e w4 ⟨rfl, h4, -⟩
  clear k3 a3 b3 h3 f3
  go_wp2_with fail
  have k4 := (h4.alloc (.cells #[.int .u8 49, .int .u8 50, .int .u8 51, .int .u8 52, .int .u8 53, .int .u8 54] 5 (6, 7))).append_ no_T f4 [98] (by decide) (some ⟨w4.heap.size, 0, none⟩) 6 [49, 50, 51, 52, 53, 54] ((Reads.lit w4 #[.int .u8 49, .int .u8 50, .int .u8 51, .int .u8 52, .int .u8 53, .int .u8 54] 5 (6, 7) _ rfl).upto (by simp)) (by decide) (by decide)
  have a4 : dAppendE ⟨10, [([97], ⟨[120, 121, 122, 49, 50], 2⟩)], false⟩ [98] [49, 50, 51, 52, 53, 54] = 5 := by kernel_rfl
  have b4 : dAppend ⟨10, [([97], ⟨[120, 121, 122, 49, 50], 2⟩)], false⟩ [98] [49, 50, 51, 52, 53, 54] = ⟨10, [([97], ⟨[120, 121, 122, 49, 50], 2⟩)], false⟩ := by kernel_rfl
  have f5 := f4.append [98] [49, 50, 51, 52, 53, 54]
  rw [a4, b4] at k4
  rw [b4] at f5
  refine k4.mono ?_
  rintro e w5 ⟨rfl, h5, -⟩
  clear k4 a4 b4 h4 f4
  go_wp2_with fail
  have g5 : DkB w (w5.alloc (.cells #[.int .i64 2] 3)) (fun k => k = w5.heap.size) b ⟨10, [([97], ⟨[120, 121, 122, 49, 50], 2⟩)], false⟩ := (h5.foot fun k hk => .inr (.inr (by omega))).alloc _
  have k5 := g5.crash_ (fun k hk => by subst hk; simp) f5 [2] (some ⟨w5.heap.size, 0, none⟩) 1 ((Reads.lit w5 #[.int .i64 2] 3 (0, 0) _ rfl).upto (by simp)) (by decide) (fun ad e => by injection e with e; subst e; exact ⟨.inr rfl, rfl⟩) (by decide) (by decide)
  have b5 : dCrash ⟨10, [([97], ⟨[120, 121, 122, 49, 50], 2⟩)], false⟩ [2] = ⟨10, [([97], ⟨[120, 121, 122, 49], 4⟩)], true⟩ := by kernel_rfl
  have f6 := f5.crash [2]
  rw [b5] at k5 f6
  refine k5.mono ?_
  rintro e w6 ⟨rfl, h6, -⟩
  replace h6 := h6.foot (T' := Foot.none) fun k hk => hk.elim
  clear k5 b5 h5 f5 g5
  go_wp2_with fail
  refine h6.down_.mono ?_
  rintro e w' ⟨rfl, rfl⟩
  go_wp2_with fail
  have k7 := h6.read_ no_T f6 [97] (by decide) (by decide)
  have a7 : dMay ⟨10, [([97], ⟨[120, 121, 122, 49], 4⟩)], true⟩ true [97] [97] = 7 := by kernel_rfl
  rw [a7] at k7
  refine k7.mono ?_
  rintro e w7 ⟨v7, rfl, -, h7, -, -⟩
  clear k7 a7 h6
  go_wp2_with fail
  have f8 : DFit ⟨10, [([97], ⟨[120, 121, 122, 49], 4⟩)], false⟩ _ _ := f6.start
  refine (h7.start_ no_T).mono ?_
  rintro e w8 ⟨rfl, h8, -⟩
  replace h8 : DkB w w8 Foot.none b ⟨10, [([97], ⟨[120, 121, 122, 49], 4⟩)], false⟩ := h8
  clear h7 f6
  go_wp2_with fail
  have k8 := h8.read_ no_T f8 [97] (by decide) (by decide)
  have a8 : dMay ⟨10, [([97], ⟨[120, 121, 122, 49], 4⟩)], false⟩ true [97] [97] = 0 := by kernel_rfl
  have b8 : dReadB ⟨10, [([97], ⟨[120, 121, 122, 49], 4⟩)], false⟩ [97] = [120, 121, 122, 49] := by kernel_rfl
  rw [a8, b8] at k8
  refine k8.mono ?_
  rintro e w9 ⟨v9, rfl, r9, h9, -, -⟩
  obtain ⟨A9, c9, rfl, -⟩ := slice_form r9
  have s9 := str_of w9 _ A9 c9 [120, 121, 122, 49] (Reads.of_own r9)
  replace s9 : (convert 22 9 (.slice A9 4 c9)).run Try.prog w9 = .ok (.string ⟨#[120, 121, 122, 49]⟩) w9 := s9
  clear k8 a8 b8 h8 r9
  go_wp2_with fail
  refine h9.down_.mono ?_
  rintro e w' ⟨rfl, rfl⟩
  go_wp2_with fail
  refine (h9.used_ no_T f8 (by decide)).mono ?_
  rintro e w10 ⟨rfl, h10, -⟩
  go_wp2_with fail
  go_ret
  exact ⟨rfl, h10.below⟩
end Go.Proofs.Ytbkenickmiapdaa
