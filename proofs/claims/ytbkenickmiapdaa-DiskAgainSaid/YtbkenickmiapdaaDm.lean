/- DERIVED. The plain law on disks: what the methods of package disk compute, on lists alone. -/
import Derived.WideShapes
namespace Go.Proofs.Ytbkenickmiapdaa
set_option linter.unusedVariables false
set_option linter.unusedSimpArgs false

abbrev Nm := List UInt8

section
variable {α : Type}
def fIns (x : Nm × α) : List (Nm × α) → List (Nm × α)
  | [] => [x]
  | y :: r => if bytesBefore x.1 y.1 then x :: y :: r else y :: fIns x r
def fDel (n : Nm) (l : List (Nm × α)) : List (Nm × α) := l.filter fun p => !(p.1 == n)
def fPut (n : Nm) (v : α) (l : List (Nm × α)) : List (Nm × α) := fIns (n, v) (fDel n l)
def fGet (n : Nm) (l : List (Nm × α)) : Option α := (l.find? fun p => p.1 == n).map (·.2)
def fSet (n : Nm) (v : α) (l : List (Nm × α)) : List (Nm × α) := l.map fun p => if p.1 == n then (n, v) else p
/-- By rising names, each once. -/
def fSort (l : List (Nm × α)) : Prop := l.Pairwise fun p q => bytesBefore p.1 q.1 = true

theorem mem_fIns {x p : Nm × α} {l : List (Nm × α)} : p ∈ fIns x l ↔ p = x ∨ p ∈ l := by
  induction l with
  | nil => simp [fIns]
  | cons y r ih =>
    unfold fIns
    split
    · simp
    · simp only [List.mem_cons, ih]
      constructor
      · rintro (h | h | h)
        · exact .inr (.inl h)
        · exact .inl h
        · exact .inr (.inr h)
      · rintro (h | h | h)
        · exact .inr (.inl h)
        · exact .inl h
        · exact .inr (.inr h)
theorem mem_fDel {n : Nm} {p : Nm × α} {l : List (Nm × α)} : p ∈ fDel n l ↔ p ∈ l ∧ p.1 ≠ n := by
  simp [fDel]
theorem mem_fPut {n : Nm} {v : α} {p : Nm × α} {l : List (Nm × α)} : p ∈ fPut n v l ↔ p = (n, v) ∨ (p ∈ l ∧ p.1 ≠ n) := by
  rw [fPut, mem_fIns, mem_fDel]
theorem mem_fSet {n : Nm} {v : α} {p : Nm × α} {l : List (Nm × α)} (h : p ∈ fSet n v l) : p = (n, v) ∨ (p ∈ l ∧ p.1 ≠ n) := by
  simp only [fSet, List.mem_map] at h
  obtain ⟨q, hq, rfl⟩ := h
  by_cases e : q.1 = n
  · rw [if_pos (by simpa using e)]; exact .inl rfl
  · rw [if_neg (by simpa using e)]; exact .inr ⟨hq, e⟩

theorem fSort.ins {x : Nm × α} {l : List (Nm × α)} (h : fSort l) (hx : ∀ p ∈ l, p.1 ≠ x.1) : fSort (fIns x l) := by
  induction l with
  | nil => simp [fIns, fSort]
  | cons y r ih =>
    obtain ⟨h1, h2⟩ := List.pairwise_cons.1 h
    unfold fIns
    split
    · rename_i hb
      refine List.pairwise_cons.2 ⟨fun p hp => ?_, h⟩
      rcases List.mem_cons.1 hp with rfl | hp
      · exact hb
      · exact Go.WideShapes.bytes_trans _ _ _ hb (h1 p hp)
    · rename_i hb
      refine List.pairwise_cons.2 ⟨fun p hp => ?_, ih h2 fun p hp => hx p (List.mem_cons_of_mem _ hp)⟩
      rcases mem_fIns.1 hp with rfl | hp
      · rcases Go.WideAt.bytes_total y.1 p.1 (hx y (by simp)) with h | h
        · exact h
        · exact absurd h hb
      · exact h1 p hp
theorem fSort.del {n : Nm} {l : List (Nm × α)} (h : fSort l) : fSort (fDel n l) := h.filter _
theorem fSort.put {n : Nm} {v : α} {l : List (Nm × α)} (h : fSort l) : fSort (fPut n v l) := h.del.ins fun p hp => (mem_fDel.1 hp).2
theorem fSort.set_ {n : Nm} {v : α} {l : List (Nm × α)} (h : fSort l) : fSort (fSet n v l) := by
  unfold fSort fSet
  rw [List.pairwise_map]
  refine h.imp ?_
  intro p q hpq
  by_cases e1 : p.1 = n <;> by_cases e2 : q.1 = n
  all_goals simp only [e1, e2, beq_self_eq_true, beq_iff_eq, if_true, if_false] at *
  all_goals simpa using hpq
theorem fSort.names {l : List (Nm × α)} (h : fSort l) : (l.map (·.1)).Pairwise fun a b => bytesBefore a b = true := List.pairwise_map.2 h
theorem before_ne {a b : Nm} (h : bytesBefore a b = true) : a ≠ b := by
  rintro rfl
  rw [Go.WideAt.bytes_irrefl] at h; cases h
theorem fSort.ne_ {l : List (Nm × α)} (h : fSort l) : l.Pairwise fun p q => p.1 ≠ q.1 := List.Pairwise.imp (fun h => before_ne h) h
theorem fSort.nodup {l : List (Nm × α)} (h : fSort l) : (l.map (·.1)).Nodup := List.pairwise_map.2 h.ne_

theorem fGet_cons (n : Nm) (p : Nm × α) (r : List (Nm × α)) : fGet n (p :: r) = if p.1 == n then some p.2 else fGet n r := by
  unfold fGet
  rw [List.find?_cons]
  split <;> simp_all
theorem fGet_mem {n : Nm} {v : α} {l : List (Nm × α)} (h : fGet n l = some v) : (n, v) ∈ l := by
  induction l with
  | nil => cases h
  | cons p r ih =>
    rw [fGet_cons] at h
    split at h
    · rename_i e
      have e : p.1 = n := by simpa using e
      injection h with h
      subst h; subst e
      simp
    · exact List.mem_cons_of_mem _ (ih h)
theorem fGet_none {n : Nm} {l : List (Nm × α)} (h : fGet n l = none) : ∀ p ∈ l, p.1 ≠ n := by
  induction l with
  | nil => intro p hp; cases hp
  | cons q r ih =>
    rw [fGet_cons] at h
    split at h
    · cases h
    · rename_i e
      intro p hp
      rcases List.mem_cons.1 hp with rfl | hp
      · simpa using e
      · exact ih h p hp
theorem fGet_of_mem {n : Nm} {v : α} {l : List (Nm × α)} (hs : fSort l) (h : (n, v) ∈ l) : fGet n l = some v := by
  induction l with
  | nil => cases h
  | cons p r ih =>
    rw [fGet_cons]
    obtain ⟨h1, h2⟩ := List.pairwise_cons.1 hs
    rcases List.mem_cons.1 h with e | hm
    · subst e; simp
    · have := before_ne (h1 _ hm)
      rw [if_neg (by simpa using this)]
      exact ih h2 hm
theorem fGet_of_no {n : Nm} {l : List (Nm × α)} (h : ∀ p ∈ l, p.1 ≠ n) : fGet n l = none := by
  cases hg : fGet n l with
  | none => rfl
  | some v => exact absurd rfl (h _ (fGet_mem hg))
theorem fGet_put_same {n : Nm} {v : α} {l : List (Nm × α)} (hs : fSort l) : fGet n (fPut n v l) = some v := fGet_of_mem hs.put (mem_fPut.2 (.inl rfl))
theorem fGet_put_other {n k : Nm} {v : α} {l : List (Nm × α)} (hs : fSort l) (h : k ≠ n) : fGet k (fPut n v l) = fGet k l := by
  cases hg : fGet k l with
  | none =>
    refine fGet_of_no fun p hp => ?_
    rcases mem_fPut.1 hp with rfl | ⟨hp, _⟩
    · exact fun e => h e.symm
    · exact fGet_none hg p hp
  | some u => exact fGet_of_mem hs.put (mem_fPut.2 (.inr ⟨fGet_mem hg, h⟩))
theorem fGet_del_same {n : Nm} {l : List (Nm × α)} : fGet n (fDel n l) = none := fGet_of_no fun p hp => (mem_fDel.1 hp).2
theorem fGet_del_other {n k : Nm} {l : List (Nm × α)} (hs : fSort l) (h : k ≠ n) : fGet k (fDel n l) = fGet k l := by
  cases hg : fGet k l with
  | none => exact fGet_of_no fun p hp => fGet_none hg p (mem_fDel.1 hp).1
  | some u => exact fGet_of_mem hs.del (mem_fDel.2 ⟨fGet_mem hg, h⟩)
/-- Two lists by rising names with the same items are one. -/
theorem fSort.ext {l l' : List (Nm × α)} (h : fSort l) (h' : fSort l') (hm : ∀ p, p ∈ l ↔ p ∈ l') : l = l' := by
  induction l generalizing l' with
  | nil =>
    cases l' with
    | nil => rfl
    | cons p r => have := (hm p).2 (by simp); cases this
  | cons p r ih =>
    cases l' with
    | nil => have := (hm p).1 (by simp); cases this
    | cons q s =>
      obtain ⟨h1, h2⟩ := List.pairwise_cons.1 h
      obtain ⟨h1', h2'⟩ := List.pairwise_cons.1 h'
      have hpq : p = q := by
        rcases List.mem_cons.1 ((hm p).1 (by simp)) with e | e
        · exact e
        · rcases List.mem_cons.1 ((hm q).2 (by simp)) with e' | e'
          · exact e'.symm
          · have a := h1 q e'
            have b := h1' p e
            exact absurd rfl (before_ne (Go.WideShapes.bytes_trans _ _ _ a b))
      subst hpq
      congr 1
      refine ih h2 h2' fun x => ?_
      have := hm x
      simp only [List.mem_cons] at this
      constructor
      · intro hx
        rcases this.1 (.inr hx) with e | e
        · subst e; exact absurd rfl (before_ne (h1 x hx))
        · exact e
      · intro hx
        rcases this.2 (.inr hx) with e | e
        · subst e; exact absurd rfl (before_ne (h1' x hx))
        · exact e
theorem fPut_eq_set {n : Nm} {v u : α} {l : List (Nm × α)} (hs : fSort l) (hg : fGet n l = some u) : fPut n v l = fSet n v l := by
  refine hs.put.ext hs.set_ fun p => ?_
  rw [mem_fPut]
  constructor
  · rintro (rfl | ⟨hp, hn⟩)
    · exact List.mem_map.2 ⟨(n, u), fGet_mem hg, by simp⟩
    · exact List.mem_map.2 ⟨p, hp, by rw [if_neg (by simpa using hn)]⟩
  · exact mem_fSet
end

/-- A file: its bytes, and how many of them are synced. -/
structure DF where
  b : List UInt8
  s : Nat

/-- A disk. -/
structure DS where
  lim : Int
  l : List (Nm × DF)
  down : Bool

def nmBad (n : Nm) : Bool := n.isEmpty || decide (64 < n.length)
def dMay (d : DS) (there : Bool) (n m : Nm) : Int := if d.down then 7 else if nmBad n || nmBad m then 1 else if there && (fGet n d.l).isNone then 6 else 0
def dUsed (l : List (Nm × DF)) : Nat := (l.map fun p => p.2.b.length).sum
theorem dUsed_mem {n : Nm} {f : DF} {l : List (Nm × DF)} (h : (n, f) ∈ l) : f.b.length ≤ dUsed l := by
  induction l with
  | nil => cases h
  | cons p r ih =>
    unfold dUsed at ih ⊢
    simp only [List.map_cons, List.sum_cons]
    rcases List.mem_cons.1 h with e | h
    · subst e; exact Nat.le_add_right _ _
    · have := ih h; omega
def dOld (n : Nm) (l : List (Nm × DF)) : DF := (fGet n l).getD ⟨[], 0⟩

def dAppendE (d : DS) (n : Nm) (b : List UInt8) : Int := if dMay d false n n = 0 then (if d.lim - dUsed d.l < b.length then 5 else 0) else dMay d false n n
def dAppend (d : DS) (n : Nm) (b : List UInt8) : DS := if dAppendE d n b = 0 then { d with l := fPut n ⟨(dOld n d.l).b ++ b, (dOld n d.l).s⟩ d.l } else d
def dSync (d : DS) (n : Nm) : DS := if dMay d true n n = 0 then { d with l := fPut n ⟨(dOld n d.l).b, (dOld n d.l).b.length⟩ d.l } else d
def dRename (d : DS) (n m : Nm) : DS := if dMay d true n m = 0 then (if n = m then d else { d with l := fDel n (fPut m (dOld n d.l) d.l) }) else d
def dDelete (d : DS) (n : Nm) : DS := if dMay d true n n = 0 then { d with l := fDel n d.l } else d
def dReadB (d : DS) (n : Nm) : List UInt8 := if dMay d true n n = 0 then (dOld n d.l).b else []
def dList (d : DS) : List Nm := if d.down then [] else d.l.map (·.1)
def dKeep (f : DF) (k : Option Int) : Nat := f.s + (match k with | some v => v.toNat % (f.b.length - f.s + 1) | none => 0)
def dCut (f : DF) (k : Option Int) : DF := ⟨f.b.take (dKeep f k), dKeep f k⟩
def dCrashL : List (Nm × DF) → List Int → List (Nm × DF)
  | [], _ => []
  | p :: r, ks => (p.1, dCut p.2 ks.head?) :: dCrashL r ks.tail
def dCrash (d : DS) (ks : List Int) : DS := if d.down then d else { d with l := dCrashL d.l ks, down := true }

/-- What a disk that was made by New is, at any time. -/
structure DOk (d : DS) : Prop where
  lim : 0 ≤ d.lim
  sort : fSort d.l
  names : ∀ p ∈ d.l, nmBad p.1 = false
  synced : ∀ p ∈ d.l, p.2.s ≤ p.2.b.length
  used : (dUsed d.l : Int) ≤ d.lim
end Go.Proofs.Ytbkenickmiapdaa
