/- DERIVED. A slice of slices of bytes that came in. -/
import Derived.Test.YtbkenickmiapdaaBy
namespace Go.Proofs.Ytbkenickmiapdaa
set_option linter.unusedVariables false
set_option linter.unusedSimpArgs false
set_option maxRecDepth 100000
open Go.RowKit Go.ChangeShapes Go.WideShapes Go.ChangeAt Go.Deep

/-- A slice of bytes as a value: address, bytes, capacity. -/
structure BS where
  A : Option Addr
  l : List UInt8
  c : Nat
def BS.val (b : BS) : Value := .slice b.A b.l.length b.c
structure BS.Ok (w : World) (B : Nat) (b : BS) : Prop where
  reads : Reads w B 1 b.A b.l.length (b.l.map u8V)
  cap : b.l.length ≤ b.c

theorem bytes_in {H : Type} {enc : TypeId × Value → H} {W : World} {fuel : Nat} {V : Value} {y : DataW H × List MemPlace} (hf : DataW.trod enc Try.prog W 0 (fun _ => true) true fuel 22 [V] = some y) : ∃ b : BS, V = b.val ∧ b.Ok W W.heap.size := by
  rcases open_ints Try.underlying22 Try.underlying5 u8_cells hf with ⟨hcs, hx⟩ | ⟨a, len, cap, zs, hcs, _, hl, hm, hz, hx, hcell, hwz⟩
  · injection hcs with hcs
    exact ⟨⟨none, [], 0⟩, hcs, Reads.none_, Nat.le_refl _⟩
  · injection hcs with hcs
    simp only [if_true] at hz
    have hlen : ((zs.take len).map fun n => UInt8.ofNat n.toNat).length = len := by simp; omega
    refine ⟨⟨some a, (zs.take len).map fun n => UInt8.ofNat n.toNat, cap⟩, by rw [hcs]; unfold BS.val; simp only; rw [hlen], ?_, by simp only; rw [hlen]; exact hl⟩
    simp only
    rw [hlen]
    refine ⟨by simp; omega, fun h0 => ⟨a, rfl, ?_, fun j u hu => ?_⟩⟩
    · have := lt_of_cell (hcell 0 (by omega))
      rwa [block_of_add] at this
    · have hj : j < len := by
        have := (List.getElem?_eq_some_iff.1 hu).1
        simp at this
        omega
      rw [hcell j (by omega)]
      have hb := range_u8 hwz j
      have e : zs.getD j 0 = zs[j]'(by omega) := by simp [List.getD, List.getElem?_eq_getElem (show j < zs.length by omega)]
      have e2 : zs[j]?.getD 0 = zs[j]'(by omega) := by rw [← List.getD_eq_getElem?_getD]; exact e
      rw [e2] at hb
      rw [e]
      simp [hj, List.getElem?_eq_getElem (show j < zs.length by omega)] at hu
      rw [← hu]
      simp only [u8V, UInt8.toNat_ofNat']
      congr 2
      omega

/-- The slice at A holds these slices of bytes. -/
def RowsIn2 (w : World) (A : Option Addr) (ls : List BS) : Prop := ∀ (i : Nat) (h : i < ls.length), ∃ g o, A = some ⟨g, o, none⟩ ∧ g < w.heap.size ∧ w.cell? ⟨g, o + i, none⟩ = some ls[i].val ∧ ls[i].Ok w w.heap.size

theorem bys_cells : Try.prog.cellsOf 22 = 1 := by kernel_rfl
theorem rows_of {H : Type} {enc : TypeId × Value → H} {W : World} {base : Nat} {v : Value} {d : DataW H} {p : List MemPlace} (hval : Value.okWide Try.prog W .any base 35 v) (h : DataW.Trod enc Try.prog W 0 (fun _ => true) true 35 v d p) :
    ∃ (A : Option Addr) (ls : List BS) (c : Nat), v = .slice A ls.length c ∧ RowsIn2 W A ls ∧ ls.length ≤ maxLen := by
  obtain ⟨a1, len, cap, rfl⟩ := okWide_slice Try.underlying35 hval
  obtain ⟨fuel, hf⟩ := h
  rcases open_slice1 Try.underlying35 bys_cells hf with ⟨hcs, hx⟩ | ⟨a, len', cap', m, n, V, D, Pl, hcs, _, hl, hm, hmm, hx, hi⟩
  · simp [Value.cells] at hcs
    obtain ⟨rfl, rfl, rfl⟩ := hcs
    exact ⟨none, [], 0, rfl, (fun i h => by cases h), Nat.zero_le _⟩
  · simp [Value.cells] at hcs
    obtain ⟨rfl, rfl, rfl⟩ := hcs
    have hlm : len ≤ m := by rw [hmm]; split <;> omega
    have hex : ∀ i, ∃ b : BS, i < len → V i = b.val ∧ b.Ok W W.heap.size := fun i => by
      by_cases hil : i < len
      · obtain ⟨b, hb⟩ := bytes_in (hi i (by omega)).2
        exact ⟨b, fun _ => hb⟩
      · exact ⟨⟨none, [], 0⟩, fun h => absurd h hil⟩
    obtain ⟨F, hF⟩ := Classical.axiomOfChoice hex
    refine ⟨some a, (List.range len).map F, cap, by simp, fun i h => ?_, by simp; omega⟩
    have hil : i < len := by simpa using h
    have hc := (hi i (by omega)).1
    obtain ⟨g, o, spot⟩ := a
    have hspot : spot = none := by
      have := (hi 0 (by omega)).1
      simpa [Addr.add] using World.cell?_spot this
    subst hspot
    rw [addr_add] at hc
    have he : ((List.range len).map F)[i] = F i := by simp
    rw [he]
    exact ⟨g, o, rfl, lt_of_cell hc, by rw [hc, (hF i hil).1], (hF i hil).2⟩
end Go.Proofs.Ytbkenickmiapdaa
