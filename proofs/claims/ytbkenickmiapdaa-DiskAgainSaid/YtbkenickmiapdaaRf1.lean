/- DERIVED. The document's disk in memory; Find, Used, wrong, Start, New. -/
import Derived.Test.YtbkenickmiapdaaDke
namespace Go.Proofs.Ytbkenickmiapdaa
set_option linter.unusedVariables false
set_option linter.unusedSimpArgs false
open Go.RowKit

def filC (p : Nm × DF) : List Value := [.string ⟨p.1.toArray⟩, .string ⟨p.2.b.toArray⟩, .int .i64 p.2.s]
def filesC (l : List (Nm × DF)) : List Value := l.flatMap filC
theorem filesC_len (l : List (Nm × DF)) : (filesC l).length = l.length * 3 := by
  induction l with
  | nil => rfl
  | cons p r ih =>
    have : filesC (p :: r) = filC p ++ filesC r := rfl
    rw [this, List.length_append, ih]
    simp [filC]; omega
theorem filesC_app (l r : List (Nm × DF)) : filesC (l ++ r) = filesC l ++ filesC r := by simp [filesC]
theorem filesC_at {l : List (Nm × DF)} : ∀ {i : Nat} (h : i < l.length), (filesC l)[i * 3]? = some (.string ⟨l[i].1.toArray⟩) ∧ (filesC l)[i * 3 + 1]? = some (.string ⟨l[i].2.b.toArray⟩) ∧ (filesC l)[i * 3 + 2]? = some (.int .i64 l[i].2.s) := by
  induction l with
  | nil => intro i h; cases h
  | cons p r ih =>
    intro i h
    have : filesC (p :: r) = filC p ++ filesC r := rfl
    rw [this]
    cases i with
    | zero => exact ⟨rfl, rfl, rfl⟩
    | succ i =>
      have h' : i < r.length := by simpa using h
      obtain ⟨h1, h2, h3⟩ := ih h'
      have hl : (filC p).length = 3 := rfl
      refine ⟨?_, ?_, ?_⟩
      all_goals rw [List.getElem?_append_right (by omega), hl]
      · rw [show (i + 1) * 3 - 3 = i * 3 by omega]; exact h1
      · rw [show (i + 1) * 3 + 1 - 3 = i * 3 + 1 by omega]; exact h2
      · rw [show (i + 1) * 3 + 2 - 3 = i * 3 + 2 by omega]; exact h3

/-- The parts of the document's disk. -/
structure RfAt (w : World) (b : Nat) (A : Option Addr) (c : Nat) (d : DS) : Prop where
  head : Blk w b 72 #[.int .i64 d.lim, .slice A d.l.length c, .bool d.down]
  row : w.ownsRow 0 74 3 (.slice A d.l.length c) d.l.length (filesC d.l)
def rfFoot (b : Nat) (v : Value) : Foot := fun k => k = b ∨ v.ownBlock = some k
/-- The document's disk, and how much it may have. -/
def rfO (b : Nat) (d : DS) (N U : Nat) : Ob where
  is w S := ∃ A c, RfAt w b A c d ∧ DFit d N U ∧ ∀ k, S k ↔ rfFoot b (.slice A d.l.length c) k
  keep {w w' S} h hk := by
    obtain ⟨A, c, h1, h2, h3⟩ := h
    refine ⟨A, c, ⟨h1.head.keep (hk b ((h3 b).2 (.inl rfl))), h1.row.1, ?_⟩, h2, h3⟩
    rcases h1.row.2 with h0 | ⟨g, cap, cur, hv, hg, hh, rest⟩
    · exact .inl h0
    · exact .inr ⟨g, cap, cur, hv, hg, (hk g ((h3 g).2 (.inr (by rw [hv]; rfl)))).trans hh, rest⟩
  lt {w S} h k hk := by
    obtain ⟨A, c, h1, h2, h3⟩ := h
    rcases (h3 k).1 hk with e | e
    · rw [e]; exact h1.head.lt
    · exact (h1.row.lt k e).2

section
variable {w : World} {b c : Nat} {A : Option Addr} {d : DS}
/-- A file's cells. -/
theorem RfAt.file (h : RfAt w b A c d) {i : Nat} (hi : i < d.l.length) : ∃ g, A = some ⟨g, 0, none⟩ ∧ w.cell? ⟨g, i * 3, none⟩ = some (.string ⟨d.l[i].1.toArray⟩) ∧ w.cell? ⟨g, i * 3 + 1, none⟩ = some (.string ⟨d.l[i].2.b.toArray⟩) ∧ w.cell? ⟨g, i * 3 + 2, none⟩ = some (.int .i64 d.l[i].2.s) := by
  obtain ⟨g, cap, hv, _, hlt⟩ := h.row.form (by omega)
  have hA : A = some ⟨g, 0, none⟩ := by injection hv
  subst hA
  have hc := h.row.cells (g := g) rfl
  obtain ⟨h1, h2, h3⟩ := filesC_at hi
  refine ⟨g, rfl, ?_, ?_, ?_⟩
  · have := hc _ _ h1; rwa [addr_add, Nat.zero_add] at this
  · have := hc _ _ h2; rwa [addr_add, Nat.zero_add] at this
  · have := hc _ _ h3; rwa [addr_add, Nat.zero_add] at this

/-- A file's place. -/
def rIdx (n : Nm) (l : List (Nm × DF)) : Int := match l.findIdx? (fun p => p.1 == n) with | some i => i | none => -1

set_option maxRecDepth 100000 in
set_option maxHeartbeats 400000 in
theorem rf_find (n : Nm) (h : RfAt w b A c d) (hl : d.l.length ≤ 1000000) :
    Calls Try.prog 39 #[.pointer (some ⟨b, 0, none⟩), .string ⟨n.toArray⟩] w fun e w' => e = .returned (.int .i64 (rIdx n d.l)) ∧ w = w' := by
  have h1 : w.cell? ⟨b, 1, none⟩ = some (.slice A d.l.length c) := h.head.cell 1
  have H := hide h
  clear h
  go_enter Try.func39, Try.ntmps39
  go_wp2
  go_loop [5] (fun i => ∃ k : Nat, i = .int .i64 k ∧ k ≤ d.l.length ∧ Hid ((d.l.take k).findIdx? (fun p => p.1 == n) = none)) (fun i => d.l.length - (intOf i).toNat)
  case atStart => exact ⟨0, rfl, Nat.zero_le _, rfl⟩
  case round =>
    obtain ⟨k, rfl, hk, hno⟩ := hrel
    by_cases hlt : k < d.l.length
    · obtain ⟨g, hA, c0, -, -⟩ := H.out.file hlt
      subst hA
      obtain ⟨p, hp⟩ : ∃ p : Bool, (d.l[k].1 == n) = p := ⟨_, rfl⟩
      have hs : (d.l.take (k + 1)).findIdx? (fun p => p.1 == n) = if p then some k else none := by
        rw [List.take_succ_eq_append_getElem hlt, List.findIdx?_append, hno.out, ← hp]
        have e : (d.l.take k).length = k := by rw [List.length_take]; omega
        cases h : (d.l[k].1 == n) <;> simp [List.findIdx?_cons, h, e]
      have HS := hide hs
      have hall : p = true → d.l.findIdx? (fun p => p.1 == n) = some k := fun hpt => by
        have e : d.l = d.l.take (k + 1) ++ d.l.drop (k + 1) := (List.take_append_drop _ _).symm
        rw [e, List.findIdx?_append, hs, hpt]
        rfl
      have HL := hide hall
      clear hs hall
      cases p with
      | true =>
        go_wp2
        go_ret
        exact ⟨ret_int (by unfold rIdx; rw [HL.out trivial]), rfl⟩
      | false =>
        go_wp2
        go_round
        case rel => exact ⟨k + 1, by go_num, by omega, HS⟩
        case measure => simp [intOf]; omega
    · obtain rfl : k = d.l.length := by omega
      go_wp2
      go_ret
      exact ⟨ret_int (by have := hno.out; rw [List.take_length] at this; unfold rIdx; rw [this]), rfl⟩

theorem idx_ways (n : Nm) : ∀ (l : List (Nm × DF)), (rIdx n l = -1 ∧ fGet n l = none) ∨ ∃ (i : Nat) (h : i < l.length), rIdx n l = i ∧ l[i].1 = n ∧ fGet n l = some l[i].2 ∧ ∀ j (hj : j < i), (l[j]'(by omega)).1 ≠ n
  | [] => .inl ⟨rfl, rfl⟩
  | p :: r => by
    by_cases e : p.1 = n
    · refine .inr ⟨0, by simp, ?_, e, ?_, fun j h => by omega⟩
      · simp [rIdx, List.findIdx?_cons, e]
      · rw [fGet_cons, if_pos (by simpa using e)]; rfl
    · have e' : (p.1 == n) = false := by simpa using e
      rcases idx_ways n r with ⟨h1, h2⟩ | ⟨i, hi, h1, h2, h3, h4⟩
      · refine .inl ⟨?_, by rw [fGet_cons, e']; simpa using h2⟩
        unfold rIdx at h1 ⊢
        rw [List.findIdx?_cons, e']
        cases h : r.findIdx? (fun p => p.1 == n) with
        | none => simp
        | some j => rw [h] at h1; simp at h1
      · refine .inr ⟨i + 1, by simpa using hi, ?_, by simpa using h2, by rw [fGet_cons, e']; simpa using h3, fun j hj => ?_⟩
        · unfold rIdx at h1 ⊢
          rw [List.findIdx?_cons, e']
          cases h : r.findIdx? (fun p => p.1 == n) with
          | none => rw [h] at h1; simp at h1
          | some j => rw [h] at h1; simp at h1; simp; omega
        · cases j with
          | zero => simpa using e
          | succ j => simpa using h4 j (by omega)

/-- A name is empty, too long, or good. -/
theorem rf_ways (f : Nm) : (f = [] ∧ nmBad f = true) ∨ (((f == []) = false) ∧ 64 < f.length ∧ nmBad f = true) ∨ (((f == []) = false) ∧ ¬ 64 < f.length ∧ nmBad f = false) := by
  by_cases h : f = []
  · exact .inl ⟨h, by simp [h, nmBad]⟩
  · have : (f == []) = false := by simpa using h
    by_cases h2 : 64 < f.length
    · exact .inr (.inl ⟨this, h2, by simp [nmBad, h2]⟩)
    · exact .inr (.inr ⟨this, h2, by simp [nmBad, h2, h]⟩)

set_option maxRecDepth 100000 in
set_option maxHeartbeats 1000000 in
theorem rf_wrong (n m : Nm) (hn : n.length ≤ maxLen) (hm : m.length ≤ maxLen) (h : RfAt w b A c d) (hl : d.l.length ≤ 1000000) :
    Calls Try.prog 37 #[.pointer (some ⟨b, 0, none⟩), .string ⟨n.toArray⟩, .string ⟨m.toArray⟩] w fun e w' => e = .returned (.int .i64 (dMay d true n m)) ∧ w = w' := by
  have h2 : w.cell? ⟨b, 2, none⟩ = some (.bool d.down) := h.head.cell 2
  have kf := rf_find n h hl
  have KF := hide kf
  have hn' : n.length ≤ 9223372036854775807 := hn
  have hm' : m.length ≤ 9223372036854775807 := hm
  clear h hn hm kf
  cases hd : d.down with
  | true =>
    rw [hd] at h2
    have HD := hide hd
    clear hd
    go_enter Try.func37, Try.ntmps37
    go_wp2
    go_ret
    exact ⟨ret_int (by unfold dMay; rw [HD.out]; rfl), rfl⟩
  | false =>
    rw [hd] at h2
    have HD := hide hd
    clear hd
    rcases rf_ways n with ⟨rfl, gn⟩ | ⟨n1, n2, gn⟩ | ⟨n1, n2, gn⟩
    · go_enter Try.func37, Try.ntmps37
      go_wp2
      go_ret
      exact ⟨ret_int (by unfold dMay; rw [HD.out, gn]; rfl), rfl⟩
    · have n2' : decide (64 < n.length) = true := by simpa using n2
      have GN := hide gn
      clear gn
      go_enter Try.func37, Try.ntmps37
      go_wp2
      go_ret
      exact ⟨ret_int (by unfold dMay; rw [HD.out, GN.out]; rfl), rfl⟩
    · rcases rf_ways m with ⟨rfl, gm⟩ | ⟨m1, m2, gm⟩ | ⟨m1, m2, gm⟩
      · have GN := hide gn
        have GM := hide gm
        clear gn gm
        go_enter Try.func37, Try.ntmps37
        go_wp2
        go_ret
        exact ⟨ret_int (by unfold dMay; rw [HD.out, GN.out, GM.out]; rfl), rfl⟩
      · have GN := hide gn
        have GM := hide gm
        clear gn gm
        go_enter Try.func37, Try.ntmps37
        go_wp2
        go_ret
        exact ⟨ret_int (by unfold dMay; rw [HD.out, GN.out, GM.out]; rfl), rfl⟩
      · have GN := hide gn
        have GM := hide gm
        clear gn gm
        go_enter Try.func37, Try.ntmps37
        rcases idx_ways n d.l with ⟨i1, i2⟩ | ⟨i, hi, i1, -, i2, -⟩
        · rw [i1] at KF
          have I2 := hide i2
          clear i1 i2
          go_wp2_with (go_at_call 39; refine KF.out.mono ?_; rintro e w' ⟨rfl, rfl⟩)
          go_ret
          exact ⟨ret_int (by unfold dMay; rw [HD.out, GN.out, GM.out, I2.out]; rfl), rfl⟩
        · rw [i1] at KF
          have I2 := hide i2
          clear i1 i2
          go_wp2_with (go_at_call 39; refine KF.out.mono ?_; rintro e w' ⟨rfl, rfl⟩)
          go_ret
          exact ⟨ret_int (by unfold dMay; rw [HD.out, GN.out, GM.out, I2.out]; rfl), rfl⟩

theorem used_snoc (l : List (Nm × DF)) (p : Nm × DF) : dUsed (l ++ [p]) = dUsed l + p.2.b.length := by simp [dUsed]
theorem used_take (l : List (Nm × DF)) (k : Nat) : dUsed (l.take k) ≤ dUsed l := by
  have e : l = l.take k ++ l.drop k := (List.take_append_drop _ _).symm
  have : dUsed l = dUsed (l.take k) + dUsed (l.drop k) := by
    unfold dUsed
    rw [← List.sum_append, ← List.map_append, List.take_append_drop]
  omega
set_option maxRecDepth 100000 in
set_option maxHeartbeats 400000 in
theorem rf_used (h : RfAt w b A c d) (hl : d.l.length ≤ 1000000) (hu : dUsed d.l ≤ 140737488355328) :
    Calls Try.prog 38 #[.pointer (some ⟨b, 0, none⟩)] w fun e w' => e = .returned (.int .i64 (dUsed d.l)) ∧ w = w' := by
  have h1 : w.cell? ⟨b, 1, none⟩ = some (.slice A d.l.length c) := h.head.cell 1
  have H := hide h
  clear h
  go_enter Try.func38, Try.ntmps38
  go_wp2
  go_loop [3, 4] (fun u i => ∃ k n : Nat, i = .int .i64 k ∧ u = .int .i64 n ∧ k ≤ d.l.length ∧ Hid (n = dUsed (d.l.take k))) (fun _ i => d.l.length - (intOf i).toNat)
  case atStart => exact ⟨0, 0, rfl, rfl, Nat.zero_le _, rfl⟩
  case round =>
    obtain ⟨k, n, rfl, rfl, hk, hno⟩ := hrel
    by_cases hlt : k < d.l.length
    · obtain ⟨g, hA, -, c0, -⟩ := H.out.file hlt
      subst hA
      have hs : dUsed (d.l.take (k + 1)) = n + d.l[k].2.b.length := by rw [List.take_succ_eq_append_getElem hlt, used_snoc, hno.out]
      have hb := used_take d.l (k + 1)
      generalize d.l[k].2.b = x at *
      have hb2 : n + x.length ≤ 140737488355328 := by omega
      have HS := hide hs
      clear hs hb
      go_wp2
      go_round
      case rel => exact ⟨k + 1, n + x.length, by go_num, by go_num, by omega, HS.out.symm⟩
      case measure => simp [intOf]; omega
    · obtain rfl : k = d.l.length := by omega
      go_wp2
      go_ret
      exact ⟨ret_int (by have := hno.out; rw [List.take_length] at this; omega), rfl⟩

set_option maxHeartbeats 400000 in
theorem rf_start (h : RfAt w b A c d) : Calls Try.prog 32 #[.pointer (some ⟨b, 0, none⟩)] w fun e w' => e = .returned (.tuple #[]) ∧ w' = w.setCell ⟨b, 2, none⟩ (.bool false) := by
  have h2 : w.cell? ⟨b, 2, none⟩ = some (.bool d.down) := h.head.cell 2
  have hf : w.frozen? ⟨b, 2, none⟩ = false := h.head.frozen 2
  clear h
  go_enter Try.func32, Try.ntmps32
  go_wp2
  go_end0
  exact ⟨rfl, rfl⟩
set_option maxHeartbeats 400000 in
theorem rf_new (lim : Int) (w : World) :
    Calls Try.prog 23 #[.int .i64 lim] w fun e w' => e = .returned (.pointer (some ⟨w.heap.size, 0, none⟩)) ∧
      w' = w.alloc (.cells #[.int .i64 (if lim < 0 then 0 else lim), .slice none 0 0, .bool false] 72) := by
  obtain ⟨z, hz, hm⟩ : ∃ z, (if lim < 0 then 0 else lim) = z ∧ max lim 0 = z := ⟨_, rfl, by split <;> omega⟩
  rw [hz]
  clear hz
  go_enter Try.func23, Try.ntmps23
  go_wp2
  go_ret
  exact ⟨rfl, rfl⟩
end
end Go.Proofs.Ytbkenickmiapdaa
