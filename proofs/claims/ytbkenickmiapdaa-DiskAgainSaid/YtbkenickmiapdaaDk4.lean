/- DERIVED. Package disk: Used. -/
import Derived.Test.YtbkenickmiapdaaDk3
import Derived.Maps.RangeWalk
namespace Go.Proofs.Ytbkenickmiapdaa
set_option linter.unusedVariables false
set_option linter.unusedSimpArgs false
open Go.RowKit

/-- How many bytes the files have that have been passed. -/
def passed (left : Lit → Bool) (L : List (Nm × FB)) : Nat := (L.map fun p => if left (.string p.1) then 0 else p.2.f.b.length).sum
def fbUsed (L : List (Nm × FB)) : Nat := (L.map fun p => p.2.f.b.length).sum
theorem passed_all {left : Lit → Bool} {L : List (Nm × FB)} (h : ∀ kl, left kl = false) : passed left L = fbUsed L := by
  unfold passed fbUsed
  simp [h]
theorem passed_le (left : Lit → Bool) (L : List (Nm × FB)) : passed left L ≤ fbUsed L := by
  unfold passed fbUsed
  induction L with
  | nil => exact Nat.le_refl _
  | cons p r ih =>
    simp only [List.map_cons, List.sum_cons]
    split <;> omega
theorem passed_start (L : List (Nm × FB)) : passed (Maps.has (.map (L.map encF))) L = 0 := by
  have : ∀ M : List (Nm × FB), (∀ p ∈ M, Maps.has (.map (L.map encF)) (.string p.1) = true) → passed (Maps.has (.map (L.map encF))) M = 0 := by
    intro M
    induction M with
    | nil => intro _; rfl
    | cons p r ih =>
      intro h
      have h1 := h p (by simp)
      have h2 := ih fun q hq => h q (by simp [hq])
      unfold passed at h2 ⊢
      simp [h1, h2]
  refine this L fun p hp => ?_
  rw [Maps.has_eq]
  exact List.any_eq_true.2 ⟨encF p, List.mem_map.2 ⟨p, hp, rfl⟩, by show (p.1 == p.1) = true; simp⟩
theorem passed_step {left : Lit → Bool} {L : List (Nm × FB)} {n : Nm} {x : FB} (hs : fSort L) (hg : fGet n L = some x) (hl : left (.string n) = true) :
    passed (fun y => left y && !y.sameKey (.string n)) L = passed left L + x.f.b.length := by
  induction L with
  | nil => cases hg
  | cons p r ih =>
    rw [fGet_cons] at hg
    obtain ⟨h1, h2⟩ := List.pairwise_cons.1 hs
    unfold passed at ih ⊢
    simp only [List.map_cons, List.sum_cons]
    by_cases e : p.1 = n
    · rw [if_pos (by simpa using e)] at hg
      injection hg with hg
      subst hg; subst e
      have hr : (r.map fun q => if (left (.string q.1) && !(Lit.string q.1).sameKey (.string p.1)) = true then 0 else q.2.f.b.length) = r.map fun q => if left (.string q.1) = true then 0 else q.2.f.b.length := by
        refine List.map_congr_left fun q hq => ?_
        have : (Lit.string q.1).sameKey (.string p.1) = false := by show (q.1 == p.1) = false; simpa using (before_ne (h1 q hq)).symm
        simp [this]
      rw [hr]
      simp [hl, same_str]
      omega
    · rw [if_neg (by simpa using e)] at hg
      rw [ih h2 hg]
      have : (Lit.string p.1).sameKey (.string n) = false := by show (p.1 == n) = false; simpa using e
      simp [this]
      omega

theorem at_enc_some {L : List (Nm × FB)} {kl : Lit} {y : DataW Value} (hkl : ∃ n, kl = .string n) (h : ∀ zd, (DataW.map (L.map encF)).atKey kl zd = y) : ∃ n x, kl = .string n ∧ fGet n L = some x ∧ y = .held (ptrV x.blk) := by
  obtain ⟨n, rfl⟩ := hkl
  cases hg : fGet n L with
  | some x =>
    refine ⟨n, x, rfl, hg, ?_⟩
    have := h .nil
    rw [at_enc, hg] at this
    exact this.symm
  | none =>
    have h1 := h .nil
    have h2 := h (.held .nilFunc)
    rw [at_enc, hg] at h1 h2
    rw [← h1] at h2
    cases h2

theorem FileAt.lenCell {w : World} {x : FB} (h : FileAt w x) : ∃ A c, w.cell? ⟨x.blk, 0, none⟩ = some (.slice A x.f.b.length c) := by
  obtain ⟨sv, h1, h2, _⟩ := h
  rcases h2.2 with ⟨h0, hn⟩ | ⟨g, cap, cur, hv, _⟩
  · subst h0
    exact ⟨none, 0, by rw [hn]; exact h1.cell 0⟩
  · subst hv
    exact ⟨_, _, h1.cell 0⟩

set_option maxHeartbeats 1000000 in
theorem dk_used (b mb : Nat) (L : List (Nm × FB)) (lim : Int) (down : Bool) (w : World) (h : DkAt w b mb L lim down) (hs : fSort L) (hn : ∀ p ∈ L, p.1.length ≤ maxLen) (hu : fbUsed L ≤ 4611686018427387904) :
    Calls Try.prog 20 #[.pointer (some ⟨b, 0, none⟩)] w fun e w' => e = .returned (.int .i64 (fbUsed L)) ∧ Below w.heap.size w w' := by
  have h1 : w.cell? ⟨b, 1, none⟩ = some (.map (some mb)) := h.head.cell 1
  obtain ⟨w1, hrun, hrg, hgrow, hsz⟩ := h.map.range keyed Try.underlying58
  have hB1 : Below w.heap.size w w1 := ⟨hgrow.os, hgrow.tape, hgrow.output, hgrow.size, fun k hk => hgrow.block k hk (by simp)⟩
  have hp0 : Hid (passed (Maps.has (.map (L.map encF))) L = 0) := passed_start L
  go_enter Try.func20, Try.ntmps20
  go_wp2_with fail
  go_loopw [2] (fun n wr => ∃ left cnt, n = .int .i64 (passed left L : Nat) ∧ wr.ranges Try.prog 9 heldR mb w.heap.size L.length (.map (L.map encF)) left cnt ∧ Below w.heap.size w wr) (fun _ wr => wr.rangeLeft mb w.heap.size)
  case atStart => exact ⟨_, _, by rw [hp0.out]; rfl, hrg, hB1⟩
  case round =>
    clear hrun hrg hgrow hsz hB1 hp0
    obtain ⟨left, cnt, rfl, hr, hB⟩ := hrel
    have hle := passed_le left L
    have hcnt : Hid (wr.rangeLeft mb w.heap.size = cnt) := hr.left_eq
    rcases hr.next keyed 0 with ⟨h0, hall, hrun⟩ | ⟨key, v, kl, y, w2, cnt', hkey, hleft, hR, hat, hrun, hr2, hlt, hg2, hsz2, hentry⟩
    · have HALL := hide hall
      clear hall hr
      go_wp2_with fail
      go_ret
      exact ⟨ret_int (by rw [passed_all HALL.out]), hB⟩
    · have hy : ∃ n, kl = .string n := (Go.WideMaps.string_law (P := Try.prog) Try.underlying9).str hkey
      obtain ⟨n, x, rfl, hg, hyx⟩ := at_enc_some hy hat
      have hv : v = ptrV x.blk := by
        have hR' := Option.some.inj hR
        have e1 : y.1 = .held v := by rw [← hR']
        exact DataW.held.inj (e1.symm.trans hyx)
      subst hv
      have hf := h.files _ (fGet_mem hg)
      have hB2 : Below w.heap.size w w2 := hB.grown hg2 hB.size (fun k e => by injection e with e; omega)
      obtain ⟨A, c, hc0⟩ := hf.lenCell
      have hc : w2.cell? ⟨x.blk, 0, none⟩ = some (.slice A x.f.b.length c) := (hB2.cell hf.blk_lt).trans hc0
      have hstep : Hid (passed (fun y => left y && !y.sameKey (.string n)) L = passed left L + x.f.b.length) := passed_step hs hg hleft
      have hle2 := passed_le (fun y => left y && !y.sameKey (.string n)) L
      have hsum : passed left L + x.f.b.length ≤ 4611686018427387904 := by have := hstep.out; omega
      have hlt' : Hid (w2.rangeLeft mb w.heap.size < cnt) := by rw [hr2.left_eq]; exact hlt
      replace hrun : (Instr.next (.pointer (some ⟨w.heap.size, 0, none⟩)) false 0).run Try.prog wr = .ok (.tuple #[.bool true, key, .pointer (some ⟨x.blk, 0, none⟩)]) w2 := hrun
      replace hentry : (Instr.entry (.pointer (some ⟨w.heap.size, 0, none⟩))).run Try.prog w2 = .ok (.tuple #[key, .pointer (some ⟨x.blk, 0, none⟩)]) w2 := hentry
      clear hr hat hR hkey hleft hg2 hsz2 hlt hyx hy hle2 hc0 hf
      go_wp2_with fail
      go_roundw
      case rel => exact ⟨_, _, by rw [hstep.out]; go_num, hr2, hB2⟩
      case measure => rw [hcnt.out]; exact hlt'.out
end Go.Proofs.Ytbkenickmiapdaa
