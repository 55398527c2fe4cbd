/- DERIVED. The document's disk: cut, put. -/
import Derived.Test.YtbkenickmiapdaaRf1
import Derived.Test.YtbkenickmiapdaaEnr
namespace Go.Proofs.Ytbkenickmiapdaa
set_option linter.unusedVariables false
set_option linter.unusedSimpArgs false
open Go.RowKit

/-- Behind a change of the files: the row made new, then stored. -/
def RfPut (w : World) (b : Nat) (l' : List (Nm × DF)) (e : Ending) (w' : World) : Prop :=
  e = .returned (.tuple #[]) ∧ ∃ v w3, Env w w3 [rowO 74 3 v (filesC l')] ∧ w' = w3.setCell ⟨b, 1, none⟩ v
theorem file_info : (Try.prog.info? 74).map (fun i => (i.zero, i.size, i.bytes)) = some (some (.agg #[.string ⟨#[]⟩, .string ⟨#[]⟩, .int .i64 0]), 3, 40) := by kernel_rfl

theorem filesC_take (l : List (Nm × DF)) (i : Nat) : (filesC l).take (i * 3) = filesC (l.take i) := by
  conv => lhs; rw [← List.take_append_drop i l, filesC_app]
  by_cases h : i ≤ l.length
  · have e : (filesC (l.take i)).length = i * 3 := by rw [filesC_len, List.length_take]; omega
    rw [List.take_append_of_le_length (by omega), List.take_of_length_le (by omega)]
  · rw [List.drop_eq_nil_of_le (by omega)]
    simp only [filesC, List.flatMap_nil, List.append_nil]
    exact List.take_of_length_le (by have := filesC_len (l.take i); rw [List.length_take] at this; unfold filesC at this; omega)
theorem filesC_drop (l : List (Nm × DF)) (i : Nat) (h : i ≤ l.length) : (filesC l).drop (i * 3) = filesC (l.drop i) := by
  conv => lhs; rw [← List.take_append_drop i l, filesC_app]
  have e : (filesC (l.take i)).length = i * 3 := by rw [filesC_len, List.length_take]; omega
  rw [← e, List.drop_left]
theorem filesC_one (l : List (Nm × DF)) : ∀ u ∈ filesC l, u.oneCell' = true := by
  intro u hu
  obtain ⟨p, _, hp⟩ := List.mem_flatMap.1 hu
  simp [filC] at hp
  rcases hp with rfl | rfl | rfl <;> rfl

section
variable {w w' : World} {b c : Nat} {A : Option Addr} {d : DS} {B size n : Nat} {xs : List Value}
theorem Reads.head_ (h : Reads w B size A n xs) {k : Nat} (hk : k ≤ n) : Reads w B size A k (xs.take (k * size)) := by
  refine ⟨?_, fun h0 => ?_⟩
  · rw [List.length_take, h.1]
    exact Nat.min_eq_left (Nat.mul_le_mul_right _ hk)
  · obtain ⟨ad, e, hb, hc⟩ := h.2 (by omega)
    refine ⟨ad, e, hb, fun j u hu => hc j u ?_⟩
    rw [List.getElem?_take] at hu
    split at hu
    · exact hu
    · cases hu
theorem add_more (a : Addr) (i j : Nat) : (a.add i).add j = a.add (i + j) := by
  unfold Addr.add
  by_cases hi : i = 0 <;> by_cases hj : j = 0 <;> simp [hi, hj, Nat.add_assoc]
theorem Reads.tail_ {g : Nat} (h : Reads w B size (some ⟨g, 0, none⟩) n xs) {k : Nat} (hk : k ≤ n) : Reads w B size (some ⟨g, k * size, none⟩) (n - k) (xs.drop (k * size)) := by
  refine ⟨by rw [List.length_drop, h.1, Nat.sub_mul], fun hn => ?_⟩
  obtain ⟨ad, e, hb, hcell⟩ := h.2 (by omega)
  injection e with e
  subst e
  refine ⟨_, rfl, hb, fun j u hu => ?_⟩
  rw [addr_add]
  have := hcell (k * size + j) u (by rw [← hu, List.getElem?_drop])
  rwa [addr_add, Nat.zero_add] at this
theorem RfAt.reads (h : RfAt w b A c d) : Reads w w.heap.size 3 A d.l.length (filesC d.l) := Reads.of_own h.row
theorem RfAt.cap (h : RfAt w b A c d) : d.l.length ≤ c ∧ c ≤ maxLen := by
  rcases h.row.2 with ⟨h1, h2⟩ | ⟨g, cap, cur, hv, hg, hh, h3, h4, h5⟩
  · injection h1 with _ h3 h4
    omega
  · injection hv with _ _ h6
    subst h6
    exact ⟨h3, h4⟩

set_option maxRecDepth 100000 in
set_option maxHeartbeats 2000000 in
theorem rf_cut (i : Nat) (hi : i < d.l.length) (h : RfAt w b A c d) (hl : d.l.length ≤ 1000000) :
    Calls Try.prog 51 #[.pointer (some ⟨b, 0, none⟩), .int .i64 i] w (RfPut w b (d.l.eraseIdx i)) := by
  have h1 : w.cell? ⟨b, 1, none⟩ = some (.slice A d.l.length c) := h.head.cell 1
  have hf : w.frozen? ⟨b, 1, none⟩ = false := h.head.frozen 1
  obtain ⟨hc1, hc2⟩ := h.cap
  simp only [maxLen] at hc2
  obtain ⟨g, hA, -⟩ := h.file hi
  subst hA
  have hR := h.reads
  have r1 := hR.head_ (k := i) (by omega)
  rw [filesC_take] at r1
  have r2 := hR.tail_ (k := i + 1) (by omega)
  rw [filesC_drop _ _ (by omega)] at r2
  have R1 := hide r1
  have R2 := hide r2
  have hbl := h.head.lt
  have H1 := hide h1
  have HF := hide hf
  clear h hR r1 r2
  generalize hn : d.l.length = n at *
  have HN := hide hn
  clear hn
  have hi0 : (0 : Int) ≤ (i : Int) := by omega
  have hi1 : (i : Int) ≤ (n : Int) := by omega
  have hi1c : (i : Int) ≤ (c : Int) := by omega
  have hwr : IntKind.i64.wrap ((i : Int) + 1) = (i : Int) + 1 := IntWalk.i64_in _ (by omega)
  have hi3 : (0 : Int) ≤ (i : Int) + 1 := by omega
  have hi4 : (i : Int) + 1 ≤ (n : Int) := by omega
  have hi5 : (i : Int) + 1 ≤ (c : Int) := by omega
  have hi6 : ((i : Int) + 1).toNat = i + 1 := by omega
  have he : ([] ++ filesC (d.l.take i)) ++ filesC (d.l.drop (i + 1)) = filesC (d.l.eraseIdx i) := by rw [List.nil_append, ← filesC_app, ← List.eraseIdx_eq_take_drop_succ]
  have HE := hide he
  clear he
  have hb1 : (([] : List Value).length + (filesC (d.l.take i)).length) * 40 ≤ 140737488355328 := by rw [filesC_len, List.length_take]; simp; omega
  have hb2 : (([] ++ filesC (d.l.take i)).length + (filesC (d.l.drop (i + 1))).length) * 40 ≤ 140737488355328 := by rw [List.nil_append, filesC_len, filesC_len, List.length_take, List.length_drop, HN.out]; omega
  have HB1 := hide hb1
  have HB2 := hide hb2
  clear hb1 hb2
  by_cases hce : c = i + 1
  · have hni : n = i + 1 := by omega
    have r3 : Reads w w.heap.size 3 (some ⟨g, 0, none⟩) 0 (filesC (d.l.drop (i + 1))) := by
      have : d.l.drop (i + 1) = [] := List.drop_eq_nil_of_le (by rw [HN.out]; omega)
      rw [this]
      exact ⟨rfl, fun h => absurd h (by decide)⟩
    have R3 := hide r3
    clear r3
    subst hce hni
    have q1 : (i : Int) ≤ (i : Int) + 1 := by omega
    clear hi1 hi1c hi4 hi5 hi hl hc1 hc2
    have E0 : Env w (w.alloc (.cells #[] 74)).drew [rowO 74 3 (.slice (some ⟨w.heap.size, 0, none⟩) 0 0) []] := ((Env.nil (Below.refl _ w)).lit0 _ 3).drew
    go_enter Try.func51, Try.ntmps51
    go_wp2_with fail
    go_region_law (first
      | (refine step_append_env rfl (.tmp 5) (.tmp 11) rfl Try.underlying70 file_info rfl (by decide) (by decide) (by rfl) (by rfl) E0 (E0.arg R1.out) (filesC_one _) HB1.out ?_
         intro v1 w1 E1
         have hc1 : w1.cell? ⟨b, 1, none⟩ = some (.slice (some ⟨g, 0, none⟩) (i + 1) (i + 1)) := (E1.below.cell hbl).trans H1.out)
      | (refine step_append_env rfl (.tmp 12) (.tmp 19) rfl Try.underlying70 file_info rfl (by decide) (by decide) (by rfl) (by rfl) E1 (E1.arg R3.out) (filesC_one _) HB2.out ?_
         intro v2 w2 E2
         obtain ⟨n2, hr2⟩ := E2.row
         obtain ⟨A2, c2, rfl, -⟩ := slice_form hr2
         clear hr2
         have hc2 : w2.cell? ⟨b, 1, none⟩ = some (.slice (some ⟨g, 0, none⟩) (i + 1) (i + 1)) := (E2.below.cell hbl).trans H1.out
         have hf2 : w2.frozen? ⟨b, 1, none⟩ = false := (E2.below.frozen hbl).trans HF.out))
    all_goals
      go_end0
      exact ⟨rfl, _, _, HE.out ▸ E2, rfl⟩
  · have E0 : Env w (w.alloc (.cells #[] 74)).drew [rowO 74 3 (.slice (some ⟨w.heap.size, 0, none⟩) 0 0) []] := ((Env.nil (Below.refl _ w)).lit0 _ 3).drew
    go_enter Try.func51, Try.ntmps51
    go_wp2_with fail
    go_region_law (first
      | (refine step_append_env rfl (.tmp 5) (.tmp 11) rfl Try.underlying70 file_info rfl (by decide) (by decide) (by rfl) (by rfl) E0 (E0.arg R1.out) (filesC_one _) HB1.out ?_
         intro v1 w1 E1
         have hc1 : w1.cell? ⟨b, 1, none⟩ = some (.slice (some ⟨g, 0, none⟩) n c) := (E1.below.cell hbl).trans H1.out)
      | (refine step_append_env rfl (.tmp 12) (.tmp 19) rfl Try.underlying70 file_info rfl (by decide) (by decide) (by rfl) (by rfl) E1 (E1.arg R2.out) (filesC_one _) HB2.out ?_
         intro v2 w2 E2
         obtain ⟨n2, hr2⟩ := E2.row
         obtain ⟨A2, c2, rfl, -⟩ := slice_form hr2
         clear hr2
         have hc2 : w2.cell? ⟨b, 1, none⟩ = some (.slice (some ⟨g, 0, none⟩) n c) := (E2.below.cell hbl).trans H1.out
         have hf2 : w2.frozen? ⟨b, 1, none⟩ = false := (E2.below.frozen hbl).trans HF.out))
    all_goals
      go_end0
      exact ⟨rfl, _, _, HE.out ▸ E2, rfl⟩
end
end Go.Proofs.Ytbkenickmiapdaa
