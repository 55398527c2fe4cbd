/- DERIVED. The steps of the epochs' laws as they came in; masks. -/
import Derived.Test.YtpdifebbbolheaaEpb
import Derived.Test.YtpdifebbbolheaaRow
import Derived.Deep.DeepCutAuto
import Derived.Deep.CutBlock
import Derived.Deep.Light
namespace Go.Proofs.Ytpdifebbbolheaa
set_option linter.unusedVariables false
set_option linter.unusedSimpArgs false
open Go.RowKit

theorem i64_and7 (n : Int) : bits .and .i64 n 7 = n % 8 := by
  have h : (BitVec.ofInt 64 n &&& BitVec.ofInt 64 7).toNat = (n % 8).toNat := by
    rw [BitVec.toNat_and, show (BitVec.ofInt 64 7).toNat = 7 from rfl, nat_mask3, BitVec.toNat_ofInt]
    omega
  show IntKind.i64.wrap ((BitVec.ofInt 64 n &&& BitVec.ofInt 64 7).toNat : Int) = _
  rw [h, IntKind.wrap_i64]
  omega
theorem u32_and24 (t : Int) (h0 : 0 ≤ t) (h1 : t < 4294967296) : bits .and .u32 t 16777215 = t % 16777216 := by
  obtain ⟨n, rfl⟩ := Int.eq_ofNat_of_zero_le h0
  have := u32_and_nat n 16777215 (by omega) (by omega)
  rw [nat_mask24] at this
  exact this

/-- The steps (kind, worker) that came in. -/
def StepsIn (w : World) (A : Option Addr) (l : List (Int × Int)) : Prop :=
  ∀ (i : Nat) (h : i < l.length), ∃ ab ao, A = some ⟨ab, ao, none⟩ ∧ ab < w.heap.size ∧ w.cell? ⟨ab, ao + i * 2, none⟩ = some (.int .i64 l[i].1) ∧ w.cell? ⟨ab, ao + i * 2 + 1, none⟩ = some (.int .i64 l[i].2) ∧ -9223372036854775808 ≤ l[i].2 ∧ l[i].2 ≤ 9223372036854775807

open Go.ChangeShapes Go.WideShapes Go.Deep in
theorem steps_of {H : Type} {enc : TypeId × Value → H} {w : World} {r : Reach} {b0 base : Nat} {spare : Nat → Bool} {held : Bool} {v : Value} {d : DataW H} {ps : List MemPlace}
    (hv : Value.okWide Try.prog w r b0 23 v) (h : DataW.Trod enc Try.prog w base spare held 23 v d ps) :
    ∃ (A : Option Addr) (l : List (Int × Int)) (c : Nat), v = .slice A l.length c ∧ l.length ≤ maxLen ∧ StepsIn w A l := by
  obtain ⟨A, n, c, rfl⟩ := okWide_slice Try.underlying23 hv
  obtain ⟨fuel, hf⟩ := h
  rcases open_slice_fields Try.underlying23 Try.underlying30 (by kernel_rfl) (by kernel_rfl) hf with ⟨hcs, _⟩ | ⟨a, len, cap, m, D, Pl, hcs, _, hlc, hcm, hmm, _, hi⟩
  · simp [Value.cells] at hcs
    obtain ⟨rfl, rfl, rfl⟩ := hcs
    exact ⟨none, [], 0, rfl, Nat.zero_le _, fun i h => by cases h⟩
  · simp [Value.cells] at hcs
    obtain ⟨rfl, rfl, rfl⟩ := hcs
    have hlm : n ≤ m := by rw [hmm]; split <;> omega
    have hex : ∀ i, i < n → ∃ x : Int × Int, w.cell? (a.add (i * 2)) = some (.int .i64 x.1) ∧ w.cell? (a.add (i * 2 + 1)) = some (.int .i64 x.2) ∧ -9223372036854775808 ≤ x.2 ∧ x.2 ≤ 9223372036854775807 := by
      intro i hin
      obtain ⟨ys, k, _, _, _, hfs⟩ := hi i (by omega)
      obtain ⟨v1, y1, hc1, _, ht1⟩ := hfs 0 _ rfl
      obtain ⟨v2, y2, hc2, _, ht2⟩ := hfs 1 _ rfl
      obtain ⟨n1, e1, _, _⟩ := DataW.trod_int Try.underlying3 ht1
      obtain ⟨n2, e2, _, w2⟩ := DataW.trod_int Try.underlying3 ht2
      injection e1 with e1 _
      injection e2 with e2 _
      subst e1; subst e2
      exact ⟨(n1, n2), hc1, hc2, bounds_i64 w2⟩
    let F : Nat → Int × Int := fun i => if h : i < n then Classical.choose (hex i h) else (0, 0)
    have hF : ∀ i, i < n → w.cell? (a.add (i * 2)) = some (.int .i64 (F i).1) ∧ w.cell? (a.add (i * 2 + 1)) = some (.int .i64 (F i).2) ∧ -9223372036854775808 ≤ (F i).2 ∧ (F i).2 ≤ 9223372036854775807 := by
      intro i hin
      have e : F i = Classical.choose (hex i hin) := by simp only [F, dif_pos hin]
      rw [e]
      exact Classical.choose_spec (hex i hin)
    refine ⟨some a, (List.range n).map F, c, by simp, by simp; omega, fun i h => ?_⟩
    have hin : i < n := by simpa using h
    obtain ⟨h1, h2, h3, h4⟩ := hF i hin
    have e : ((List.range n).map F)[i] = F i := by simp
    rw [e]
    have s1 := spot_none h1 (.inr trivial)
    have s2 := spot_none h2 (.inr trivial)
    have h0 := (hF 0 (by omega)).1
    have s0 : a = ⟨a.block, a.off, none⟩ := by
      have := spot_none h0 (.inr trivial)
      simpa [Addr.add] using this
    rw [s1] at h1
    rw [s2] at h2
    refine ⟨a.block, a.off, by rw [← s0], ?_, h1, by rw [Nat.add_assoc]; exact h2, h3, h4⟩
    exact World.block_lt_of_cell? w ⟨a.block, a.off + i * 2, none⟩ h1
end Go.Proofs.Ytpdifebbbolheaa
