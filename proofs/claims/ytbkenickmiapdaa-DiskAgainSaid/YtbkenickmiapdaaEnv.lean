/- DERIVED. Objects side by side in memory: each holds on blocks of its own, all made since a first world. -/
import Derived.Test.YtbkenickmiapdaaApp
namespace Go.Proofs.Ytbkenickmiapdaa
set_option linter.unusedVariables false
set_option linter.unusedSimpArgs false
open Go.RowKit

/-- An object: it holds in a world on some blocks, and as long as these stay. -/
structure Ob where
  is : World → Foot → Prop
  keep : ∀ {w w' : World} {S : Foot}, is w S → (∀ k, S k → w'.heap[k]? = w.heap[k]?) → is w' S
  lt : ∀ {w : World} {S : Foot}, is w S → ∀ k, S k → k < w.heap.size

/-- Objects on blocks that are apart. -/
def Has (w : World) : List Ob → Foot → Prop
  | [], S => ∀ k, ¬ S k
  | P :: L, S => ∃ A B : Foot, P.is w A ∧ Has w L B ∧ (∀ k, A k → ¬ B k) ∧ ∀ k, S k ↔ A k ∨ B k

/-- Objects made since w0; what was there then is as it was. -/
def Env (w0 w : World) (L : List Ob) : Prop := ∃ S, Has w L S ∧ (∀ k, S k → w0.heap.size ≤ k) ∧ Below w0.heap.size w0 w

/-- Behind a call on objects: these, on their blocks or on new ones; nothing else has turned. -/
def Post (w : World) (S : Foot) (L : List Ob) (w' : World) : Prop := ∃ S', Has w' L S' ∧ Mod S w w' ∧ ∀ k, S' k → S k ∨ w.heap.size ≤ k

section
variable {w0 w w' : World} {S : Foot} {L R : List Ob} {P Q P1 P2 P3 P4 P5 P6 : Ob}
theorem Has.lt : ∀ {L : List Ob} {S : Foot}, Has w L S → ∀ k, S k → k < w.heap.size
  | [], _, h, k, hk => absurd hk (h k)
  | P :: _, _, ⟨A, B, hA, hB, _, hS⟩, k, hk => by
    rcases (hS k).1 hk with h | h
    · exact P.lt hA k h
    · exact Has.lt hB k h
theorem Has.keep : ∀ {L : List Ob} {S : Foot}, Has w L S → (∀ k, S k → w'.heap[k]? = w.heap[k]?) → Has w' L S
  | [], _, h, _ => h
  | P :: _, _, ⟨A, B, hA, hB, hd, hS⟩, hk => ⟨A, B, P.keep hA fun k h => hk k ((hS k).2 (.inl h)), Has.keep hB fun k h => hk k ((hS k).2 (.inr h)), hd, hS⟩
theorem Has.one (h : P.is w S) : Has w [P] S := ⟨S, Foot.none, h, fun _ h => h, fun _ _ h => h, fun k => by simp [Foot.none]⟩
theorem Has.of_one (h : Has w [P] S) : P.is w S := by
  obtain ⟨A, B, hA, hB, _, hS⟩ := h
  have : A = S := funext fun k => propext ⟨fun h => (hS k).2 (.inl h), fun h => by
    rcases (hS k).1 h with h | h
    · exact h
    · exact absurd h (hB k)⟩
  rwa [← this]
theorem Has.cons (h : P.is w S) {T : Foot} (hL : Has w L T) (hd : ∀ k, S k → ¬ T k) : Has w (P :: L) (fun k => S k ∨ T k) := ⟨S, T, h, hL, hd, fun _ => Iff.rfl⟩
theorem Has.app : ∀ {L R : List Ob} {S T : Foot}, Has w L S → Has w R T → (∀ k, S k → ¬ T k) → Has w (L ++ R) (fun k => S k ∨ T k)
  | [], R, S, T, h, hR, _ => by
    have : (fun k => S k ∨ T k) = T := funext fun k => propext ⟨fun h' => h'.resolve_left (h k), .inr⟩
    rw [this]
    exact hR
  | P :: L, R, S, T, ⟨A, B, hA, hB, hd, hS⟩, hR, hST =>
    ⟨A, fun k => B k ∨ T k, hA, Has.app hB hR fun k hb => hST k ((hS k).2 (.inr hb)), fun k ha hb => hb.elim (hd k ha) (hST k ((hS k).2 (.inl ha))), fun k => by show (S k ∨ T k) ↔ (A k ∨ (B k ∨ T k)); rw [hS k, or_assoc]⟩
theorem Has.split : ∀ {L R : List Ob} {S : Foot}, Has w (L ++ R) S → ∃ A B, Has w L A ∧ Has w R B ∧ (∀ k, A k → ¬ B k) ∧ ∀ k, S k ↔ A k ∨ B k
  | [], R, S, h => ⟨Foot.none, S, fun _ h => h, h, fun _ h => h.elim, fun k => by simp [Foot.none]⟩
  | P :: L, R, S, ⟨A, B, hA, hB, hd, hS⟩ => by
    obtain ⟨C, D, hC, hD, hcd, hs⟩ := Has.split hB
    refine ⟨fun k => A k ∨ C k, D, ⟨A, C, hA, hC, fun k ha hc => hd k ha ((hs k).2 (.inl hc)), fun _ => Iff.rfl⟩, hD, fun k hk hdk => ?_, fun k => by rw [hS k, hs k, or_assoc]⟩
    rcases hk with hk | hk
    · exact hd k hk ((hs k).2 (.inr hdk))
    · exact hcd k hk hdk
theorem Has.iff {S' : Foot} (h : Has w L S) (he : ∀ k, S' k ↔ S k) : Has w L S' := by
  have : S' = S := funext fun k => propext (he k)
  rwa [this]
theorem Has.swap (h : Has w (P :: Q :: L) S) : Has w (Q :: P :: L) S := by
  obtain ⟨A, B, hA, ⟨C, D, hC, hD, hcd, hs⟩, hab, hS⟩ := h
  refine ⟨C, fun k => A k ∨ D k, hC, ⟨A, D, hA, hD, fun k ha hd => hab k ha ((hs k).2 (.inr hd)), fun _ => Iff.rfl⟩, fun k hc h => ?_, fun k => ?_⟩
  · rcases h with h | h
    · exact hab k h ((hs k).2 (.inl hc))
    · exact hcd k hc h
  · rw [hS k, hs k]
    constructor
    · rintro (h | h | h)
      · exact .inr (.inl h)
      · exact .inl h
      · exact .inr (.inr h)
    · rintro (h | h | h)
      · exact .inr (.inl h)
      · exact .inl h
      · exact .inr (.inr h)
theorem Has.perm {L' : List Ob} (h : L.Perm L') : ∀ {S : Foot}, Has w L S → Has w L' S := by
  induction h with
  | nil => exact id
  | cons x _ ih => rintro S ⟨A, B, hA, hB, hd, hS⟩; exact ⟨A, B, hA, ih hB, hd, hS⟩
  | swap x y l => exact Has.swap
  | trans _ _ h1 h2 => exact fun h => h2 (h1 h)
/-- Its objects behind a call that turned other blocks. -/
theorem Has.away {T : Foot} (h : Has w L S) (m : Mod T w w') (hd : ∀ k, S k → ¬ T k) : Has w' L S := h.keep fun k hk => m.block k (h.lt k hk) (hd k hk)

theorem Env.below (E : Env w0 w L) : Below w0.heap.size w0 w := by
  obtain ⟨_, _, _, h⟩ := E
  exact h
theorem Env.size (E : Env w0 w L) : w0.heap.size ≤ w.heap.size := E.below.size
theorem Env.perm {L' : List Ob} (E : Env w0 w L) (h : L.Perm L') : Env w0 w L' := by
  obtain ⟨S, h1, h2, h3⟩ := E
  exact ⟨S, h1.perm h, h2, h3⟩
theorem Env.swap (E : Env w0 w (P :: Q :: L)) : Env w0 w (Q :: P :: L) := E.perm (.swap _ _ _)
theorem Env.front (E : Env w0 w L) (i : Nat) (h : L[i]? = some P) : Env w0 w (P :: L.eraseIdx i) := by
  refine E.perm ?_
  obtain ⟨hi, rfl⟩ := List.getElem?_eq_some_iff.1 h
  clear h E
  induction L generalizing i with
  | nil => simp at hi
  | cons x l ih =>
    cases i with
    | zero => exact .refl _
    | succ i => exact (List.Perm.cons x (ih i (by simpa using hi))).trans (.swap _ _ _)
theorem Env.drop (E : Env w0 w (P :: L)) : Env w0 w L := by
  obtain ⟨S, ⟨A, B, _, hB, _, hS⟩, h2, h3⟩ := E
  exact ⟨B, hB, fun k hk => h2 k ((hS k).2 (.inr hk)), h3⟩
theorem Env.nil (h : Below w0.heap.size w0 w) : Env w0 w [] := ⟨Foot.none, fun _ h => h, fun _ h => h.elim, h⟩
theorem Env.only (E : Env w0 w L) : Env w0 w [] := .nil E.below
theorem Env.more (E : Env w0 w L) (hb : Below w.heap.size w w') : Env w0 w' L := by
  obtain ⟨S, h1, h2, h3⟩ := E
  exact ⟨S, h1.keep fun k hk => hb.block k (h1.lt k hk), h2, h3.trans (hb.mono h3.size)⟩
theorem Env.drewN (E : Env w0 w L) (n : Nat) : Env w0 (w.drewN n) L := by
  obtain ⟨S, h1, h2, h3⟩ := E
  exact ⟨S, h1.keep fun k hk => rfl, h2, ⟨h3.os, h3.tape, h3.output, h3.size, h3.block⟩⟩
theorem Env.drew (E : Env w0 w L) : Env w0 w.drew L := E.drewN 1
/-- A world that is as it was but for draws. -/
theorem Env.like (E : Env w0 w L) (h : Like w' w) : Env w0 w' L := by
  obtain ⟨S, h1, h2, h3⟩ := E
  exact ⟨S, h1.keep fun k hk => by rw [h.1], h2, ⟨h.2.1.trans h3.os, h.2.2.2.trans h3.tape, h.2.2.1.trans h3.output, by rw [h.1]; exact h3.size, fun k hk => by rw [h.1]; exact h3.block k hk⟩⟩
/-- The first object, alone. -/
theorem Env.get (E : Env w0 w (P :: L)) : ∃ S, P.is w S ∧ ∀ k, S k → w0.heap.size ≤ k := by
  obtain ⟨S, ⟨A, B, hA, hB, _, hS⟩, h2, h3⟩ := E
  exact ⟨A, hA, fun k hk => h2 k ((hS k).2 (.inl hk))⟩

/-- A call on the first objects. -/
theorem Env.lift {X : Type} {prog : Program} {f : Nat} {args : Array Value} {r : X → Value} {Q : X → List Ob} {C : X → Prop} (E : Env w0 w (L ++ R))
    (hc : ∀ S, Has w L S → (∀ k, S k → w0.heap.size ≤ k) → Calls prog f args w fun e w' => ∃ x, e = .returned (r x) ∧ C x ∧ Post w S (Q x) w') :
    Calls prog f args w fun e w' => ∃ x, e = .returned (r x) ∧ C x ∧ Env w0 w' (Q x ++ R) := by
  obtain ⟨S, h1, h2, h3⟩ := E
  obtain ⟨A, B, hA, hB, hd, hS⟩ := h1.split
  refine (hc A hA fun k hk => h2 k ((hS k).2 (.inl hk))).mono ?_
  rintro e w' ⟨x, he, hx, S', hQ, hm, hS'⟩
  have hB' := hB.away hm fun k hb ha => hd k ha hb
  refine ⟨x, he, hx, _, hQ.app hB' fun k hs hb => ?_, fun k hk => ?_, h3.trans (hm.below (fun k hk => h2 k ((hS k).2 (.inl hk))) h3.size)⟩
  · rcases hS' k hs with h | h
    · exact hd k h hb
    · have := hB.lt k hb; omega
  · have := h3.size
    rcases hk with hk | hk
    · rcases hS' k hk with h | h
      · exact h2 k ((hS k).2 (.inl h))
      · omega
    · exact h2 k ((hS k).2 (.inr hk))
/-- A call on the first object that hands back one value. -/
theorem Env.call1 {prog : Program} {f : Nat} {args : Array Value} {r : Value} (E : Env w0 w (P :: R))
    (hc : ∀ S, P.is w S → (∀ k, S k → w0.heap.size ≤ k) → Calls prog f args w fun e w' => e = .returned r ∧ Post w S [Q] w') :
    Calls prog f args w fun e w' => e = .returned r ∧ Env w0 w' (Q :: R) :=
  (Env.lift (L := [P]) (X := Unit) (r := fun _ => r) (Q := fun _ => [Q]) (C := fun _ => True) E fun S h hS => (hc S h.of_one hS).mono fun e w' ⟨h1, h2⟩ => ⟨(), h1, trivial, h2⟩).mono fun e w' ⟨_, h1, _, h2⟩ => ⟨h1, h2⟩
/-- A call on the first two. -/
theorem Env.call2 {prog : Program} {f : Nat} {args : Array Value} {r : Value} (E : Env w0 w (P1 :: P2 :: R))
    (hc : ∀ S, Has w [P1, P2] S → (∀ k, S k → w0.heap.size ≤ k) → Calls prog f args w fun e w' => e = .returned r ∧ Post w S [P3, P4] w') :
    Calls prog f args w fun e w' => e = .returned r ∧ Env w0 w' (P3 :: P4 :: R) :=
  (Env.lift (L := [P1, P2]) (X := Unit) (r := fun _ => r) (Q := fun _ => [P3, P4]) (C := fun _ => True) E fun S h hS => (hc S h hS).mono fun e w' ⟨h1, h2⟩ => ⟨(), h1, trivial, h2⟩).mono fun e w' ⟨_, h1, _, h2⟩ => ⟨h1, h2⟩

theorem Post.of_below (h : Has w L S) (hb : Below w.heap.size w w') : Post w S L w' :=
  ⟨S, h.keep fun k hk => hb.block k (h.lt k hk), .of_below hb _, fun k hk => .inl hk⟩
theorem Post.mono {T : Foot} (h : Post w S L w') (hS : ∀ k, S k → T k) : Post w T L w' := by
  obtain ⟨S', h1, h2, h3⟩ := h
  exact ⟨S', h1, h2.mono fun k _ hk => hS k hk, fun k hk => (h3 k hk).imp (hS k) id⟩
theorem Post.trans {L' L'' : List Ob} {w1 : World} (h : Post w S L' w1) (hc : ∀ S', Has w1 L' S' → Post w1 S' L'' w') : Post w S L'' w' := by
  obtain ⟨S', h1, h2, h3⟩ := h
  obtain ⟨S'', k1, k2, k3⟩ := hc S' h1
  refine ⟨S'', k1, h2.trans k2 h3, fun k hk => ?_⟩
  rcases k3 k hk with h | h
  · exact h3 k h
  · exact .inr (Nat.le_trans h2.size h)
/-- What stands beside stays. -/
theorem Post.frame {A B : Foot} {L' : List Ob} (h : Post w A L' w') (hB : Has w R B) (hd : ∀ k, A k → ¬ B k) (hS : ∀ k, S k ↔ A k ∨ B k) : Post w S (L' ++ R) w' := by
  obtain ⟨A', h1, h2, h3⟩ := h
  refine ⟨_, h1.app (hB.away h2 fun k hb ha => hd k ha hb) fun k ha hb => ?_, h2.mono fun k _ hk => (hS k).2 (.inl hk), fun k hk => ?_⟩
  · rcases h3 k ha with h | h
    · exact hd k h hb
    · have := hB.lt k hb; omega
  · rcases hk with hk | hk
    · exact (h3 k hk).imp (fun h => (hS k).2 (.inl h)) id
    · exact .inl ((hS k).2 (.inr hk))
end

/-- A block known whole. -/
def cellsO (g : Nat) (t : TypeId) (cs : Array Value) : Ob where
  is w S := Blk w g t cs ∧ ∀ k, S k ↔ k = g
  keep h hk := ⟨h.1.keep (hk g ((h.2 g).2 rfl)), h.2⟩
  lt h k hk := by rw [(h.2 k).1 hk]; exact h.1.lt
/-- A row of the call's own. -/
def rowO (e : TypeId) (size : Nat) (v : Value) (xs : List Value) : Ob where
  is w S := (∃ n, w.ownsRow 0 e size v n xs) ∧ ∀ k, S k ↔ v.ownBlock = some k
  keep {w w' S} h hk := by
    obtain ⟨⟨n, h⟩, hS⟩ := h
    refine ⟨⟨n, h.1, ?_⟩, hS⟩
    rcases h.2 with h0 | ⟨g, cap, cur, hv, hg, hh, rest⟩
    · exact .inl h0
    · exact .inr ⟨g, cap, cur, hv, hg, (hk g ((hS g).2 (by rw [hv]; rfl))).trans hh, rest⟩
  lt h k hk := by
    obtain ⟨⟨n, h⟩, hS⟩ := h
    exact (h.lt k ((hS k).1 hk)).2

section
variable {w0 w w' : World} {S : Foot} {L R : List Ob} {P : Ob} {g : Nat} {t e : TypeId} {cs : Array Value} {v : Value} {xs : List Value} {size : Nat}
/-- What is made new stands beside what is there. -/
theorem Env.new {S : Foot} (E : Env w0 w R) (hb : Below w.heap.size w w') (hP : Has w' L S) (hS : ∀ k, S k → w.heap.size ≤ k) : Env w0 w' (L ++ R) := by
  obtain ⟨T, h1, h2, h3⟩ := E
  refine ⟨_, hP.app (h1.keep fun k hk => hb.block k (h1.lt k hk)) fun k hs ht => ?_, fun k hk => ?_, h3.trans (hb.mono h3.size)⟩
  · have := hS k hs; have := h1.lt k ht; omega
  · have := h3.size
    rcases hk with hk | hk
    · have := hS k hk; omega
    · exact h2 k hk
theorem Env.alloc (E : Env w0 w R) (t : TypeId) (cs : Array Value) : Env w0 (w.alloc (.cells cs t)) (cellsO w.heap.size t cs :: R) :=
  Env.new (L := [cellsO w.heap.size t cs]) (S := fun k => k = w.heap.size) E ((Below.refl _ w).alloc (Nat.le_refl _) _) (Has.one ⟨Blk.new _ _ _, fun _ => Iff.rfl⟩) fun k hk => by omega
theorem Env.skip (E : Env w0 w R) (o : Obj) : Env w0 (w.alloc o) R := E.more ((Below.refl _ w).alloc (Nat.le_refl _) _)
theorem Env.blk (E : Env w0 w (cellsO g t cs :: R)) : Blk w g t cs := by
  obtain ⟨S, h, _⟩ := E.get
  exact h.1
theorem Env.blk_new (E : Env w0 w (cellsO g t cs :: R)) : w0.heap.size ≤ g := by
  obtain ⟨S, h, hS⟩ := E.get
  exact hS g ((h.2 g).2 rfl)
theorem Env.cell (E : Env w0 w (cellsO g t cs :: R)) (i : Nat) : w.cell? ⟨g, i, none⟩ = cs[i]? := E.blk.cell i
theorem Env.set (E : Env w0 w (cellsO g t cs :: R)) (i : Nat) (u : Value) : Env w0 (w.setCell ⟨g, i, none⟩ u) (cellsO g t (cs.setIfInBounds i u) :: R) := by
  have hg := E.blk_new
  obtain ⟨S, ⟨A, B, hA, hB, hd, hS⟩, h2, h3⟩ := E
  refine ⟨S, ⟨A, B, ⟨hA.1.set_ i u, hA.2⟩, hB.keep fun k hk => Below.heap_setCell _ _ _ _ (fun e => hd k ((hA.2 k).2 e) hk), hd, hS⟩, h2, h3.setCell hg u⟩
theorem Env.row (E : Env w0 w (rowO e size v xs :: R)) : ∃ n, w.ownsRow w0.heap.size e size v n xs := by
  obtain ⟨S, ⟨⟨n, h⟩, hS⟩, h2⟩ := E.get
  refine ⟨n, h.1, ?_⟩
  rcases h.2 with h0 | ⟨g, cap, cur, hv, hg, hh, rest⟩
  · exact .inl h0
  · exact .inr ⟨g, cap, cur, hv, h2 g ((hS g).2 (by rw [hv]; rfl)), hh, rest⟩
theorem Env.row1 (E : Env w0 w (rowO e 1 v xs :: R)) : w.ownsRow w0.heap.size e 1 v xs.length xs := by
  obtain ⟨n, h⟩ := E.row
  have : n = xs.length := by have := h.1; omega
  exact this ▸ h
theorem row_has {base n : Nat} (h : w.ownsRow base e size v n xs) : (rowO e size v xs).is w (fun k => v.ownBlock = some k) := ⟨⟨n, ownsRow_low h (Nat.zero_le _)⟩, fun _ => Iff.rfl⟩
/-- A call that hands back a new row. -/
theorem Env.new_row {base n : Nat} (E : Env w0 w R) (hb : Below w.heap.size w w') (h : w'.ownsRow base e size v n xs) (hbase : w.heap.size ≤ base) : Env w0 w' (rowO e size v xs :: R) :=
  Env.new (L := [rowO e size v xs]) E hb (Has.one (row_has h)) fun k hk => Nat.le_trans hbase (h.lt k hk).1
theorem Env.nil_row (E : Env w0 w R) (e : TypeId) (size : Nat) : Env w0 w (rowO e size (.slice none 0 0) [] :: R) :=
  E.new_row (Below.refl _ _) (World.ownsRow_nil w w.heap.size e size) (Nat.le_refl _)
/-- Behind an append onto a row of its own. -/
theorem Env.grown {v' : Value} {ys : List Value} {n' : Nat} (E : Env w0 w (rowO e size v xs :: R)) (hr : w'.ownsRow w0.heap.size e size v' n' ys) (hg : w.grownBy w' v.ownBlock) (hv : v'.ownBlock = v.ownBlock ∨ ∀ k, v'.ownBlock = some k → w.heap.size ≤ k) : Env w0 w' (rowO e size v' ys :: R) := by
  have hrow := E.row
  obtain ⟨S, ⟨A, B, hA, hB, hd, hS⟩, h2, h3⟩ := E
  obtain ⟨n, hrow⟩ := hrow
  have hkeep : Has w' R B := hB.keep fun k hk => hg.block k (hB.lt k hk) fun e => hd k ((hA.2 k).2 e.symm) hk
  refine ⟨_, (row_has hr).1 |> fun _ => Has.cons (row_has hr) hkeep fun k hs hb => ?_, fun k hk => ?_, h3.grown hg h3.size fun k hk => (hrow.lt k hk).1⟩
  · rcases hv with hv | hv
    · exact hd k ((hA.2 k).2 (hv ▸ hs)) hb
    · have := hv k hs; have := hB.lt k hb; omega
  · rcases hk with hk | hk
    · exact (hr.lt k hk).1
    · exact h2 k ((hS k).2 (.inr hk))
theorem Env.row_cell {A : Option Addr} {n c : Nat} (E : Env w0 w (rowO e 1 (.slice A n c) xs :: R)) (h0 : 0 < xs.length) : ∃ g, A = some ⟨g, 0, none⟩ ∧ ∀ (j : Nat) (u : Value), xs[j]? = some u → w.cell? ⟨g, j, none⟩ = some u := by
  have h := E.row1
  obtain ⟨g, cap, hv, _, hlt⟩ := h.form h0
  have hA : A = some ⟨g, 0, none⟩ := by injection hv
  subst hA
  refine ⟨g, rfl, fun j u hu => ?_⟩
  have := h.cells (g := g) rfl j u hu
  unfold Addr.add at this
  split at this
  · rename_i h; rw [h]; exact this
  · simpa using this
theorem Env.reads {A : Option Addr} {n c : Nat} (E : Env w0 w (rowO e 1 (.slice A n c) xs :: R)) (hn : n = xs.length) : Reads w w.heap.size 1 A n xs := by
  have := E.row1
  rw [← hn] at this
  exact Reads.of_own this
end
end Go.Proofs.Ytbkenickmiapdaa
