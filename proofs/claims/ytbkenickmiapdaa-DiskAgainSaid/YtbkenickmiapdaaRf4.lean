/- DERIVED. The document's disk: Append, Sync, Rename, Delete, Read. -/
import Derived.Test.YtbkenickmiapdaaRf3
import Derived.Deep.RegionHeld3
namespace Go.Proofs.Ytbkenickmiapdaa
set_option linter.unusedVariables false
set_option linter.unusedSimpArgs false
open Go.RowKit

section
variable {w w' w1 : World} {b c : Nat} {A : Option Addr} {d d' : DS}
theorem RfAt.keep (h : RfAt w b A c d) (hb : w'.heap[b]? = w.heap[b]?) (hr : ∀ k, (Value.slice A d.l.length c).ownBlock = some k → w'.heap[k]? = w.heap[k]?) : RfAt w' b A c d := by
  refine ⟨h.head.keep hb, h.row.1, ?_⟩
  rcases h.row.2 with h0 | ⟨g, cap, cur, hv, hg, hh, rest⟩
  · exact .inl h0
  · exact .inr ⟨g, cap, cur, hv, hg, (hr g (by rw [hv]; rfl)).trans hh, rest⟩
theorem RfAt.below (h : RfAt w b A c d) (hb : Below w.heap.size w w') : RfAt w' b A c d := h.keep (hb.block b h.head.lt) fun k hk => hb.block k (h.row.lt k hk).2
theorem RfAt.drewN (h : RfAt w b A c d) (n : Nat) : RfAt (w.drewN n) b A c d := h.keep rfl fun _ _ => rfl
theorem RfAt.apart (h : RfAt w b A c d) : ∀ k, (Value.slice A d.l.length c).ownBlock = some k → k ≠ b := fun k hk => by
  rcases h.row.2 with ⟨h0, _⟩ | ⟨g, cap, cur, hv, hg, hh, rest⟩
  · rw [h0] at hk; cases hk
  · rw [hv] at hk
    have e : g = k := by injection hk
    subst e
    exact Blk.ne_ hh h.head (by decide)

/-- Behind a method: the disk, its row the old one or a new one. -/
def RfPost (w : World) (b : Nat) (A : Option Addr) (c n : Nat) (r : Value) (d' : DS) (e : Ending) (w' : World) : Prop :=
  e = .returned r ∧ ∃ A' c', RfAt w' b A' c' d' ∧ Mod (fun k => k = b) w w' ∧ ∀ k, (Value.slice A' d'.l.length c').ownBlock = some k → (Value.slice A n c).ownBlock = some k ∨ w.heap.size ≤ k
theorem RfPost.same {r : Value} {e : Ending} (h : RfAt w b A c d) (he : e = .returned r) (hb : Below w.heap.size w w') : RfPost w b A c d.l.length r d e w' :=
  ⟨he, A, c, h.below hb, .of_below hb _, fun k hk => .inl hk⟩
theorem RfPut.post {l' : List (Nm × DF)} {e : Ending} (h : RfAt w b A c d) (hw : Below w.heap.size w w1) (hp : RfPut w1 b l' e w') : RfPost w b A c d.l.length (.tuple #[]) { d with l := l' } e w' := by
  obtain ⟨he, v, w3, E, rfl⟩ := hp
  obtain ⟨n, hrow⟩ := E.row
  have hn : n = l'.length := by have := hrow.1; rw [filesC_len] at this; omega
  subst hn
  obtain ⟨A', c', rfl, -⟩ := slice_form hrow
  have hsz := hw.size
  have hb3 : Below w.heap.size w w3 := hw.trans (E.below.mono hsz)
  have h3 := (h.below hb3).head
  refine ⟨he, A', c', ⟨?_, ?_⟩, (Mod.of_below hb3 (fun k => k = b)).setCell (p := ⟨b, 1, none⟩) (.inl rfl) _, fun k hk => .inr ?_⟩
  · exact h3.set_ 1 _
  · refine ⟨(ownsRow_low hrow (Nat.zero_le _)).1, ?_⟩
    rcases hrow.2 with h0 | ⟨g, cap, cur, hv, hg, hh, rest⟩
    · exact .inl h0
    · exact .inr ⟨g, cap, cur, hv, Nat.zero_le _, (Below.heap_setCell _ _ _ _ (fun e => by have := h.head.lt; have : g = b := e; omega)).trans hh, rest⟩
  · have := (hrow.lt k hk).1
    omega
theorem RfPost.trans {r r' : Value} {e e' : Ending} {A1 : Option Addr} {c1 : Nat} {n : Nat} {w2 : World} (h : RfPost w b A c n r d e w1) (hk : ∀ A1 c1, RfAt w1 b A1 c1 d → RfPost w1 b A1 c1 d.l.length r' d' e' w2) : RfPost w b A c n r' d' e' w2 := by
  obtain ⟨_, A1, c1, h1, h2, h3⟩ := h
  obtain ⟨he, A2, c2, k1, k2, k3⟩ := hk A1 c1 h1
  refine ⟨he, A2, c2, k1, h2.trans k2 fun i hi => .inl hi, fun k hk => ?_⟩
  rcases k3 k hk with h | h
  · exact h3 k h
  · exact .inr (Nat.le_trans h2.size h)

theorem rf_put (nm : Nm) (v : DF) (h : RfAt w b A c d) (hs : fSort d.l) (hl : d.l.length ≤ 1000000) :
    Calls Try.prog 40 #[.pointer (some ⟨b, 0, none⟩), .agg #[.string ⟨nm.toArray⟩, .string ⟨v.b.toArray⟩, .int .i64 v.s]] w (RfPut w b (fPut nm v d.l)) := by
  rcases h.row.2 with ⟨h1, h2⟩ | ⟨g, cap, cur, hv, hg, hh, h3, h4, h5⟩
  · have : A = none := by injection h1
    subst this
    exact rf_put_none nm v (List.eq_nil_of_length_eq_zero h2) h
  · have : A = some ⟨g, 0, none⟩ := by injection hv
    subst this
    exact rf_put_some g nm v h hs hl

set_option maxRecDepth 100000 in
set_option maxHeartbeats 1000000 in
theorem rf_read (n : Nm) (hn : n.length ≤ maxLen) (h : RfAt w b A c d) (hl : d.l.length ≤ 1000000) :
    Calls Try.prog 43 #[.pointer (some ⟨b, 0, none⟩), .string ⟨n.toArray⟩] w fun e w' => e = .returned (.tuple #[.string ⟨(dReadB d n).toArray⟩, .int .i64 (dMay d true n n)]) ∧ ∃ m, w' = w.drewN m := by
  have kw := rf_wrong n n hn hn h hl
  have KW := hide kw
  have h1 : w.cell? ⟨b, 1, none⟩ = some (.slice A d.l.length c) := h.head.cell 1
  have KF : Hid (∀ m, Calls Try.prog 39 #[.pointer (some ⟨b, 0, none⟩), .string ⟨n.toArray⟩] (w.drewN m) fun e w' => e = .returned (.int .i64 (rIdx n d.l)) ∧ w' = w.drewN m) := fun m => (rf_find n (h.drewN m) hl).mono fun _ _ ⟨h1, h2⟩ => ⟨h1, h2.symm⟩
  have H := hide h
  have HN := hide hn
  clear kw h hn
  by_cases h0 : dMay d true n n = 0
  · obtain ⟨e1, e2, e3, e4⟩ := dMay_names h0
    obtain ⟨f, hf⟩ := e4 rfl
    rcases idx_ways n d.l with ⟨i1, i2⟩ | ⟨i, hi, i1, i2, i3, -⟩
    · rw [i2] at hf; cases hf
    · have hrd : dReadB d n = d.l[i].2.b := by unfold dReadB dOld; rw [if_pos h0, i3]; rfl
      obtain ⟨g, hA, -, c1, -⟩ := H.out.file hi
      subst hA
      rw [hrd, h0]
      rw [h0] at KW
      rw [i1] at KF
      have hi0 : (0 : Int) ≤ (i : Int) := by omega
      have hi1 : (i : Int) < (d.l.length : Int) := by omega
      generalize d.l[i].2.b = x at *
      clear h0 e1 e2 e3 e4 hf i1 i2 i3 hrd
      go_enter Try.func43, Try.ntmps43
      go_wp2_with (go_at_call 37; refine KW.out.mono ?_; rintro e w' ⟨rfl, rfl⟩)
      go_quiet ((go_at_call 39; exact Calls.quiet_of_same (KF.out _)))
      go_wp2_with fail
      go_ret2
      exact ⟨rfl, _, rfl⟩
  · have hrd : dReadB d n = [] := by unfold dReadB; rw [if_neg h0]
    rw [hrd]
    generalize dMay d true n n = er at *
    have hne : (er == 0) = false := by simpa using h0
    have hne2 : (er != 0) = true := by simpa using h0
    go_enter Try.func43, Try.ntmps43
    go_wp2_with (go_at_call 37; refine KW.out.mono ?_; rintro e w' ⟨rfl, rfl⟩)
    go_ret2
    exact ⟨rfl, 0, rfl⟩

theorem may_false {d : DS} {n : Nm} : dMay d false n n = if dMay d true n n = 6 then 0 else dMay d true n n := by
  unfold dMay
  split
  · rfl
  · split
    · rfl
    · cases (fGet n d.l).isNone <;> rfl
theorem may_old {d : DS} {n : Nm} (h : dMay d true n n = 0 ∨ dMay d true n n = 6) : (dMay d true n n = 0 ∧ ∃ f, fGet n d.l = some f) ∨ (dMay d true n n = 6 ∧ fGet n d.l = none) := by
  rcases h with h | h
  · exact .inl ⟨h, (dMay_names h).2.2.2 rfl⟩
  · refine .inr ⟨h, ?_⟩
    cases hg : fGet n d.l with
    | none => rfl
    | some f =>
      unfold dMay at h
      rw [hg] at h
      split at h
      · cases h
      · split at h
        · cases h
        · simp at h

set_option maxRecDepth 100000 in
set_option maxHeartbeats 2000000 in
theorem rf_append (n : Nm) (x : List UInt8) (hn : n.length ≤ maxLen) (hx : x.length ≤ 1000000) (h : RfAt w b A c d) (ok : DOk d) (hl : d.l.length ≤ 1000000) (hu : dUsed d.l ≤ 140737488355328) (hlim : d.lim ≤ 9223372036854775807) :
    Calls Try.prog 24 #[.pointer (some ⟨b, 0, none⟩), .string ⟨n.toArray⟩, .string ⟨x.toArray⟩] w (RfPost w b A c d.l.length (.int .i64 (dAppendE d n x)) (dAppend d n x)) := by
  have kw := rf_wrong n n hn hn h hl
  have KW := hide kw
  have KU : Hid (∀ m, Calls Try.prog 38 #[.pointer (some ⟨b, 0, none⟩)] (w.drewN m) fun e w' => e = .returned (.int .i64 (dUsed d.l)) ∧ w' = w.drewN m) := fun m => (rf_used (h.drewN m) hl hu).mono fun _ _ ⟨h1, h2⟩ => ⟨h1, h2.symm⟩
  have c0 : w.cell? ⟨b, 0, none⟩ = some (.int .i64 d.lim) := h.head.cell 0
  have H := hide h
  have HN := hide hn
  have HOK := hide ok
  have hE : dAppendE d n x = if dMay d true n n = 0 ∨ dMay d true n n = 6 then (if d.lim - dUsed d.l < x.length then 5 else 0) else dMay d true n n := by
    unfold dAppendE
    rw [may_false]
    by_cases h6 : dMay d true n n = 6
    · simp [h6]
    · by_cases h0 : dMay d true n n = 0
      · simp [h0]
      · simp [h0, h6]
  by_cases hg : dMay d true n n = 0 ∨ dMay d true n n = 6
  · rw [if_pos hg] at hE
    by_cases hfull : d.lim - (dUsed d.l : Int) < x.length
    · rw [if_pos hfull] at hE
      have hA : dAppend d n x = d := by unfold dAppend; rw [if_neg (by rw [hE]; decide)]
      rw [hE, hA]
      have hgt : (dUsed d.l : Int) + x.length > d.lim := by omega
      have hgt2 : decide (d.lim < (dUsed d.l : Int) + x.length) = true := by simpa using hgt
      have hwr : IntKind.i64.wrap ((dUsed d.l : Int) + x.length) = (dUsed d.l : Int) + x.length := IntWalk.i64_in _ (by omega)
      generalize hu2 : dUsed d.l = u at *
      clear hn h hE hA hfull hu2 ok kw
      rcases hg with hg | hg
      all_goals
        rw [hg] at KW
        clear hg
        go_enter Try.func24, Try.ntmps24
        go_wp2_with (go_at_call 37; refine KW.out.mono ?_; rintro e w' ⟨rfl, rfl⟩)
        go_quiet ((go_at_call 38; exact Calls.quiet_of_same (KU.out _)))
        go_wp2_with fail
        go_ret
        exact RfPost.same H.out rfl ⟨rfl, rfl, rfl, Nat.le_refl _, fun _ _ => rfl⟩
    · rw [if_neg hfull] at hE
      have hA : dAppend d n x = { d with l := fPut n ⟨(dOld n d.l).b ++ x, (dOld n d.l).s⟩ d.l } := by unfold dAppend; rw [if_pos hE]
      rw [hE, hA]
      have hgt2 : decide (d.lim < (dUsed d.l : Int) + x.length) = false := by simp; omega
      have hwr : IntKind.i64.wrap ((dUsed d.l : Int) + x.length) = (dUsed d.l : Int) + x.length := IntWalk.i64_in _ (by omega)
      have hw := may_old hg
      generalize hu2 : dUsed d.l = u at *
      have HU2 := hide (show dUsed d.l ≤ 140737488355328 by rw [hu2]; exact hu)
      clear hn h hE hA hfull hu2 ok kw hg
      rcases hw with ⟨hg, f, hf⟩ | ⟨hg, hf⟩
      · rcases idx_ways n d.l with ⟨i1, i2⟩ | ⟨i, hi, i1, i2, i3, -⟩
        · rw [i2] at hf; cases hf
        have hold : dOld n d.l = d.l[i].2 := by unfold dOld; rw [i3]; rfl
        rw [hold]
        rw [hg] at KW
        have KF : Hid (∀ w', RfAt w' b A c d → Calls Try.prog 39 #[.pointer (some ⟨b, 0, none⟩), .string ⟨n.toArray⟩] w' fun e w'' => e = .returned (.int .i64 i) ∧ w' = w'') := fun w' h => by
          have := rf_find n h hl
          rwa [i1] at this
        clear hg hold hf i1 i3
        have hi0 : (0 : Int) ≤ (i : Int) := by omega
        have hi1 : (i : Int) < (d.l.length : Int) := by omega
        go_enter Try.func24, Try.ntmps24
        go_wp2_with (go_at_call 37; refine KW.out.mono ?_; rintro e w' ⟨rfl, rfl⟩)
        go_quiet ((go_at_call 38; exact Calls.quiet_of_same (KU.out _)))
        have H1 := hide (H.out.drewN nq)
        have HB : Hid (Below w.heap.size w (w.drewN nq)) := ⟨rfl, rfl, rfl, Nat.le_refl _, fun _ _ => rfl⟩
        clear c0
        generalize w.drewN nq = w1 at *
        obtain ⟨g, hA, f0, f1, f2⟩ := H1.out.file hi
        subst hA
        rw [i2] at f0
        have HI2 := hide i2
        clear i2
        have hgl := lt_of_cell f0
        have b1 : w1.cell? ⟨b, 1, none⟩ = some (.slice (some ⟨g, 0, none⟩) d.l.length c) := H1.out.head.cell 1
        have hbl := H1.out.head.lt
        generalize hF : d.l[i].2 = F at *
        have HF := hide hF
        clear hF
        have hcat : (⟨F.b.toArray⟩ : ByteArray) ++ ⟨x.toArray⟩ = ⟨(F.b ++ x).toArray⟩ := by
          apply ByteArray.ext
          simp
        have hFl : F.b.length ≤ 140737488355328 := by
          have : F.b.length ≤ dUsed d.l := by rw [← HF.out]; exact dUsed_mem (n := d.l[i].1) (List.getElem_mem hi)
          have := HU2.out
          omega
        have hsum : ¬ (9223372036854775807 < F.b.length + x.length) := by omega
        have hsum2 : ¬ (9223372036854775807 < (⟨F.b.toArray⟩ : ByteArray).size + (⟨x.toArray⟩ : ByteArray).size) := by simpa [ByteArray.size] using hsum
        go_wp2_with fail
        refine (KF.out _ (H1.out.below ((Below.refl _ _).alloc (Nat.le_refl _) _))).mono ?_
        rintro e w2 ⟨rfl, rfl⟩
        go_wp2_with fail
        have hb2 : Below w1.heap.size w1 (w1.alloc (.cells #[.string ⟨n.toArray⟩, .string ⟨(F.b ++ x).toArray⟩, .int .i64 F.s] 74)) := (Below.refl _ _).alloc (Nat.le_refl _) _
        refine (rf_put n ⟨F.b ++ x, F.s⟩ (H1.out.below hb2) HOK.out.sort hl).mono ?_
        intro e w3 hp
        have hq := hp.post H.out (HB.out.trans (hb2.mono HB.out.size))
        obtain ⟨he, hq⟩ := hq
        subst he
        have HQ := hide hq
        clear hq hp hb2
        go_wp2_with fail
        go_ret
        exact ⟨rfl, by rw [HF.out]; exact HQ.out⟩
      · have hold : dOld n d.l = ⟨[], 0⟩ := by unfold dOld; rw [hf]; rfl
        rw [hold]
        rw [hg] at KW
        clear hg hold
        have KF : Hid (∀ w', RfAt w' b A c d → Calls Try.prog 39 #[.pointer (some ⟨b, 0, none⟩), .string ⟨n.toArray⟩] w' fun e w'' => e = .returned (.int .i64 (-1)) ∧ w' = w'') := fun w' h => by
          have := rf_find n h hl
          rcases idx_ways n d.l with ⟨i1, i2⟩ | ⟨i, hi, i1, i2, i3, -⟩
          · rwa [i1] at this
          · rw [i3] at hf; cases hf
        clear hf
        go_enter Try.func24, Try.ntmps24
        go_wp2_with (go_at_call 37; refine KW.out.mono ?_; rintro e w' ⟨rfl, rfl⟩)
        go_quiet ((go_at_call 38; exact Calls.quiet_of_same (KU.out _)))
        have H1 := hide (H.out.drewN nq)
        have HB : Hid (Below w.heap.size w (w.drewN nq)) := ⟨rfl, rfl, rfl, Nat.le_refl _, fun _ _ => rfl⟩
        generalize w.drewN nq = w1 at *
        have hcat : (⟨#[]⟩ : ByteArray) ++ ⟨x.toArray⟩ = ⟨x.toArray⟩ := by
          apply ByteArray.ext
          simp
        go_wp2_with fail
        refine (KF.out _ (H1.out.below ((Below.refl _ _).alloc (Nat.le_refl _) _))).mono ?_
        rintro e w2 ⟨rfl, rfl⟩
        go_wp2_with fail
        have hb2 : Below w1.heap.size w1 (w1.alloc (.cells #[.string ⟨n.toArray⟩, .string ⟨x.toArray⟩, .int .i64 0] 74)) := (Below.refl _ _).alloc (Nat.le_refl _) _
        refine (rf_put n ⟨x, 0⟩ (H1.out.below hb2) HOK.out.sort hl).mono ?_
        intro e w3 hp
        have hq := hp.post H.out (HB.out.trans (hb2.mono HB.out.size))
        obtain ⟨he, hq⟩ := hq
        subst he
        have HQ := hide hq
        clear hq hp hb2
        go_wp2_with fail
        go_ret
        exact ⟨rfl, HQ.out⟩
  · rw [if_neg hg] at hE
    have hA : dAppend d n x = d := by unfold dAppend; rw [if_neg (by rw [hE]; exact fun h => hg (.inl h))]
    rw [hE, hA]
    have h0 : ¬ dMay d true n n = 0 := fun h => hg (.inl h)
    have h6 : ¬ dMay d true n n = 6 := fun h => hg (.inr h)
    generalize dMay d true n n = er at *
    have q1 : (er != 0) = true := by simpa using h0
    have q2 : (er != 6) = true := by simpa using h6
    clear hn h hE hA hg ok kw
    go_enter Try.func24, Try.ntmps24
    go_wp2_with (go_at_call 37; refine KW.out.mono ?_; rintro e w' ⟨rfl, rfl⟩)
    go_ret
    exact RfPost.same H.out rfl (Below.refl _ _)

theorem del_erase {n : Nm} {l : List (Nm × DF)} (hs : fSort l) {i : Nat} (hi : i < l.length) (h : l[i].1 = n) : l.eraseIdx i = fDel n l := by
  induction l generalizing i with
  | nil => cases hi
  | cons p r ih =>
    obtain ⟨s1, s2⟩ := List.pairwise_cons.1 hs
    cases i with
    | zero =>
      have h : p.1 = n := h
      have : fDel n r = r := del_none fun q hq => by rw [← h]; exact (before_ne (s1 q hq)).symm
      unfold fDel at this ⊢
      rw [List.filter_cons_of_neg (by simpa using h)]
      simpa using this.symm
    | succ i =>
      have hi' : i < r.length := by simpa using hi
      have h' : r[i].1 = n := h
      have hne : p.1 ≠ n := by rw [← h']; exact before_ne (s1 _ (List.getElem_mem hi'))
      have := ih s2 hi' h'
      unfold fDel at this ⊢
      rw [List.filter_cons_of_pos (by simpa using hne), List.eraseIdx_cons_succ, this]

set_option maxRecDepth 100000 in
set_option maxHeartbeats 2000000 in
theorem rf_sync (n : Nm) (hn : n.length ≤ maxLen) (h : RfAt w b A c d) (ok : DOk d) (hl : d.l.length ≤ 1000000) (hu : dUsed d.l ≤ 140737488355328) :
    Calls Try.prog 25 #[.pointer (some ⟨b, 0, none⟩), .string ⟨n.toArray⟩] w (RfPost w b A c d.l.length (.int .i64 (dMay d true n n)) (dSync d n)) := by
  have kw := rf_wrong n n hn hn h hl
  have KW := hide kw
  have H := hide h
  have HOK := hide ok
  by_cases hg : dMay d true n n = 0
  · obtain ⟨e1, e2, e3, e4⟩ := dMay_names hg
    obtain ⟨f, hf⟩ := e4 rfl
    rcases idx_ways n d.l with ⟨i1, i2⟩ | ⟨i, hi, i1, i2, i3, -⟩
    · rw [i2] at hf; cases hf
    have hS : dSync d n = { d with l := fPut n ⟨d.l[i].2.b, d.l[i].2.b.length⟩ d.l } := by
      have hold : dOld n d.l = d.l[i].2 := by unfold dOld; rw [i3]; rfl
      unfold dSync
      rw [if_pos hg, hold]
    rw [hg, hS]
    rw [hg] at KW
    have KF : Hid (∀ w', RfAt w' b A c d → ∀ m, Calls Try.prog 39 #[.pointer (some ⟨b, 0, none⟩), .string ⟨n.toArray⟩] (w'.drewN m) fun e w'' => e = .returned (.int .i64 i) ∧ w'' = w'.drewN m) := fun w' h m => by
      have := rf_find n (h.drewN m) hl
      rw [i1] at this
      exact this.mono fun _ _ ⟨h1, h2⟩ => ⟨h1, h2.symm⟩
    clear hf i1 i3 hg hS kw ok hn e1 e2 e3 e4
    have hi0 : (0 : Int) ≤ (i : Int) := by omega
    have hi1 : (i : Int) < (d.l.length : Int) := by omega
    obtain ⟨g, hA, f0, f1, f2⟩ := h.file hi
    subst hA
    rw [i2] at f0
    have HI2 := hide i2
    clear i2
    have b1 : w.cell? ⟨b, 1, none⟩ = some (.slice (some ⟨g, 0, none⟩) d.l.length c) := h.head.cell 1
    have hbl := h.head.lt
    have hgl := lt_of_cell f0
    generalize hF : d.l[i].2 = F at *
    have HF := hide hF
    have hFl : F.b.length ≤ 140737488355328 := by
      have : F.b.length ≤ dUsed d.l := by rw [← hF]; exact dUsed_mem (n := d.l[i].1) (List.getElem_mem hi)
      omega
    clear hF hu h
    go_enter Try.func25, Try.ntmps25
    go_wp2_with (go_at_call 37; refine KW.out.mono ?_; rintro e w' ⟨rfl, rfl⟩)
    have hB0 := Below.refl w.heap.size w
    have hB1 : ∀ o, Below w.heap.size w (w.alloc o).drew := fun o => (hB0.alloc (Nat.le_refl _) o).drew
    have hB2 : Below w.heap.size w w.drew := hB0.drew
    have KF2 : Hid (∀ w', Below w.heap.size w w' → Calls Try.prog 39 #[.pointer (some ⟨b, 0, none⟩), .string ⟨n.toArray⟩] w' fun e w'' => e = .returned (.int .i64 i) ∧ w' = w'') := fun w' hb => (KF.out w' (H.out.below hb) 0).mono fun _ _ ⟨h1, h2⟩ => ⟨h1, h2.symm⟩
    go_region_held3 (fun w' => w'.cell? ⟨b, 1, none⟩ = some (.slice (some ⟨g, 0, none⟩) d.l.length c) ∧ w'.cell? ⟨g, i * 3, none⟩ = some (.string ⟨n.toArray⟩) ∧ w'.cell? ⟨g, i * 3 + 1, none⟩ = some (.string ⟨F.b.toArray⟩) ∧ w'.cell? ⟨g, i * 3 + 2, none⟩ = some (.int .i64 F.s) ∧ Below w.heap.size w w')
      (first
        | exact ⟨by assumption, by assumption, by assumption, by assumption, by assumption⟩
        | (refine ⟨?_, ?_, ?_, ?_, ?_⟩
           all_goals first
             | assumption
             | exact hB1 _
             | exact hB2
             | go_keep))
      (first | (go_at_call 39; refine (KF2.out _ (by first | assumption | exact hB1 _)).mono ?_; rintro e w' ⟨rfl, rfl⟩))
    all_goals
      clear hB1 hB2
      go_wp2_with fail
      have hb2 : Below w.heap.size w (w.alloc (.cells #[.string ⟨n.toArray⟩, .string ⟨F.b.toArray⟩, .int .i64 F.b.length] 74)).drew := ((Below.refl _ _).alloc (Nat.le_refl _) _).drew
      refine (rf_put n ⟨F.b, F.b.length⟩ (H.out.below hb2) HOK.out.sort hl).mono ?_
      intro e w3 hp
      have hq := hp.post H.out hb2
      obtain ⟨he, hq⟩ := hq
      subst he
      have HQ := hide hq
      clear hq hp hb2
      go_wp2_with fail
      go_ret
      exact ⟨rfl, HQ.out⟩
  · have hS : dSync d n = d := by unfold dSync; rw [if_neg hg]
    rw [hS]
    generalize dMay d true n n = er at *
    have q1 : (er != 0) = true := by simpa using hg
    clear hg hS kw ok hn h
    go_enter Try.func25, Try.ntmps25
    go_wp2_with (go_at_call 37; refine KW.out.mono ?_; rintro e w' ⟨rfl, rfl⟩)
    go_ret
    exact RfPost.same H.out rfl (Below.refl _ _)

set_option maxRecDepth 100000 in
set_option maxHeartbeats 2000000 in
theorem rf_delete (n : Nm) (hn : n.length ≤ maxLen) (h : RfAt w b A c d) (ok : DOk d) (hl : d.l.length ≤ 1000000) :
    Calls Try.prog 42 #[.pointer (some ⟨b, 0, none⟩), .string ⟨n.toArray⟩] w (RfPost w b A c d.l.length (.int .i64 (dMay d true n n)) (dDelete d n)) := by
  have kw := rf_wrong n n hn hn h hl
  have KW := hide kw
  have H := hide h
  by_cases hg : dMay d true n n = 0
  · obtain ⟨e1, e2, e3, e4⟩ := dMay_names hg
    obtain ⟨f, hf⟩ := e4 rfl
    rcases idx_ways n d.l with ⟨i1, i2⟩ | ⟨i, hi, i1, i2, i3, -⟩
    · rw [i2] at hf; cases hf
    have hD : dDelete d n = { d with l := d.l.eraseIdx i } := by
      unfold dDelete
      rw [if_pos hg, del_erase ok.sort hi i2]
    rw [hg, hD]
    rw [hg] at KW
    have KF : Calls Try.prog 39 #[.pointer (some ⟨b, 0, none⟩), .string ⟨n.toArray⟩] w fun e w'' => e = .returned (.int .i64 i) ∧ w = w'' := by
      have := rf_find n h hl
      rwa [i1] at this
    have KF := hide KF
    clear hf i1 i2 i3 hg hD kw ok hn e1 e2 e3 e4 h
    go_enter Try.func42, Try.ntmps42
    go_wp2_with (first
      | (go_at_call 37; refine KW.out.mono ?_; rintro e w' ⟨rfl, rfl⟩)
      | (go_at_call 39; refine KF.out.mono ?_; rintro e w' ⟨rfl, rfl⟩))
    refine (rf_cut i hi H.out hl).mono ?_
    intro e w3 hp
    have hq := hp.post H.out (Below.refl _ _)
    obtain ⟨he, hq⟩ := hq
    subst he
    have HQ := hide hq
    clear hq hp
    go_wp2_with fail
    go_ret
    exact ⟨rfl, HQ.out⟩
  · have hS : dDelete d n = d := by unfold dDelete; rw [if_neg hg]
    rw [hS]
    generalize dMay d true n n = er at *
    have q1 : (er != 0) = true := by simpa using hg
    clear hg hS kw ok hn h
    go_enter Try.func42, Try.ntmps42
    go_wp2_with (go_at_call 37; refine KW.out.mono ?_; rintro e w' ⟨rfl, rfl⟩)
    go_ret
    exact RfPost.same H.out rfl (Below.refl _ _)

set_option maxRecDepth 100000 in
set_option maxHeartbeats 2000000 in
theorem rf_rename (n m : Nm) (hn : n.length ≤ maxLen) (hm : m.length ≤ maxLen) (h : RfAt w b A c d) (ok : DOk d) (hl : d.l.length ≤ 1000000) :
    Calls Try.prog 41 #[.pointer (some ⟨b, 0, none⟩), .string ⟨n.toArray⟩, .string ⟨m.toArray⟩] w (RfPost w b A c d.l.length (.int .i64 (dMay d true n m)) (dRename d n m)) := by
  have kw := rf_wrong n m hn hm h hl
  have KW := hide kw
  have H := hide h
  have HOK := hide ok
  by_cases hg : dMay d true n m = 0
  · obtain ⟨e1, e2, e3, e4⟩ := dMay_names hg
    obtain ⟨f, hf⟩ := e4 rfl
    rcases idx_ways n d.l with ⟨i1, i2⟩ | ⟨i, hi, i1, i2, i3, -⟩
    · rw [i2] at hf; cases hf
    have hD : dRename d n m = { d with l := fPut m d.l[i].2 (d.l.eraseIdx i) } := by
      have hold : dOld n d.l = d.l[i].2 := by unfold dOld; rw [i3]; rfl
      unfold dRename
      rw [if_pos hg, hold, del_erase ok.sort hi i2]
      by_cases hnm : n = m
      · rw [if_pos hnm]
        subst hnm
        have : fPut n d.l[i].2 (fDel n d.l) = d.l := by
          have h1 : fDel n (fDel n d.l) = fDel n d.l := del_none fun p hp => (mem_fDel.1 hp).2
          have h2 : fPut n d.l[i].2 (fDel n d.l) = fPut n d.l[i].2 d.l := by unfold fPut; rw [h1]
          rw [h2, fPut_eq_set ok.sort i3]
          unfold fSet
          have : ∀ p ∈ d.l, (if (p.1 == n) = true then (n, d.l[i].2) else p) = p := fun p hp => by
            split
            · rename_i e
              have e : p.1 = n := by simpa using e
              have := fGet_of_mem ok.sort (n := n) (v := p.2) (by rw [← e]; exact hp)
              rw [i3] at this
              injection this with this
              rw [this, ← e]
            · rfl
          exact (List.map_congr_left this).trans (List.map_id _)
        rw [this]
      · rw [if_neg hnm, del_put ok.sort hnm]
    rw [hg, hD]
    rw [hg] at KW
    have KF : Calls Try.prog 39 #[.pointer (some ⟨b, 0, none⟩), .string ⟨n.toArray⟩] w fun e w'' => e = .returned (.int .i64 i) ∧ w = w'' := by
      have := rf_find n h hl
      rwa [i1] at this
    have KF := hide KF
    have hi0 : (0 : Int) ≤ (i : Int) := by omega
    have hi1 : (i : Int) < (d.l.length : Int) := by omega
    obtain ⟨g, hA, f0, f1, f2⟩ := h.file hi
    subst hA
    have b1 : w.cell? ⟨b, 1, none⟩ = some (.slice (some ⟨g, 0, none⟩) d.l.length c) := h.head.cell 1
    have hbl := h.head.lt
    have hgl := lt_of_cell f0
    have hso : fSort (d.l.eraseIdx i) := by rw [del_erase ok.sort hi i2]; exact ok.sort.del
    have hle : (d.l.eraseIdx i).length ≤ 1000000 := Nat.le_trans (List.length_eraseIdx_le _ _) hl
    have HSO := hide hso
    generalize hF : d.l[i].2 = F at *
    have HF := hide hF
    generalize hG : d.l[i].1 = G at f0
    clear hf i1 i2 i3 hg hD kw ok hn hm e1 e2 e3 e4 h hso hF hG
    go_enter Try.func41, Try.ntmps41
    go_wp2_with (first
      | (go_at_call 37; refine KW.out.mono ?_; rintro e w' ⟨rfl, rfl⟩)
      | (go_at_call 39; refine KF.out.mono ?_; rintro e w' ⟨rfl, rfl⟩))
    have hb2 : ∀ C, Below w.heap.size w (w.alloc (.cells C 74)) := fun C => (Below.refl _ _).alloc (Nat.le_refl _) _
    have HB2 := hide hb2
    clear hb2
    have E1 := (Env.nil (Below.refl _ w)).alloc 74 #[.string ⟨G.toArray⟩, .string ⟨F.b.toArray⟩, .int .i64 F.s]
    obtain ⟨wA, hwA⟩ : ∃ wA, w.alloc (.cells #[.string ⟨G.toArray⟩, .string ⟨F.b.toArray⟩, .int .i64 F.s] 74) = wA := ⟨_, rfl⟩
    have hBA : Below w.heap.size w wA := by rw [← hwA]; exact HB2.out _
    have hsA : wA.heap.size = w.heap.size + 1 := by rw [← hwA]; simp
    have hkA : Blk wA w.heap.size 74 #[.string ⟨G.toArray⟩, .string ⟨F.b.toArray⟩, .int .i64 F.s] := by rw [← hwA]; exact Blk.new _ _ _
    rw [hwA]
    clear hwA E1
    generalize hsz : w.heap.size = sz at *
    refine (rf_cut i hi (H.out.below (by rw [hsz]; exact hBA)) hl).mono ?_
    intro e w3 hp
    have hq := hp.post (H.out.below (by rw [hsz]; exact hBA)) (Below.refl _ _)
    obtain ⟨he, A1, c1, h1, m1, r1⟩ := hq
    subst he
    have hk3 := m1.blk hkA (by omega)
    have p0 : w3.cell? ⟨sz, 0, none⟩ = some (.string ⟨G.toArray⟩) := hk3.cell 0
    have p1 : w3.cell? ⟨sz, 1, none⟩ = some (.string ⟨F.b.toArray⟩) := hk3.cell 1
    have p2 : w3.cell? ⟨sz, 2, none⟩ = some (.int .i64 F.s) := hk3.cell 2
    have pf : w3.frozen? ⟨sz, 0, none⟩ = false := hk3.frozen 0
    have h4 : RfAt (w3.setCell ⟨sz, 0, none⟩ (.string ⟨m.toArray⟩)) b A1 c1 { d with l := d.l.eraseIdx i } := h1.keep (Below.heap_setCell _ _ _ _ (fun e => by have : b = sz := e; omega)) fun k hk => Below.heap_setCell _ _ _ _ (fun e => by
      have e : k = sz := e
      subst e
      rcases r1 _ hk with h | h
      · have := (H.out.row.lt _ h).2; omega
      · omega)
    have m4 : Mod (fun k => k = b) w (w3.setCell ⟨sz, 0, none⟩ (.string ⟨m.toArray⟩)) := ((Mod.of_below (hsz ▸ hBA) (fun k => k = b)).trans m1 fun i hi => .inl hi).setCell (.inr (by rw [hsz]; exact Nat.le_refl _)) _
    have R1 : Hid (∀ k, (Value.slice A1 (d.l.eraseIdx i).length c1).ownBlock = some k → (Value.slice (some ⟨g, 0, none⟩) d.l.length c).ownBlock = some k ∨ w.heap.size ≤ k) := fun k hk => (r1 k hk).imp id fun h => by omega
    have H4 := hide h4
    have M4 := hide m4
    clear hp h1 m1 r1 hk3 hkA h4 m4 hBA hsA b1 f0 f1 f2 hbl hgl
    go_wp2_with fail
    refine (rf_put m F H4.out HSO.out hle).mono ?_
    intro e w5 hp
    have hq := hp.post H4.out (Below.refl _ _)
    obtain ⟨he, A2, c2, h5, m5, r5⟩ := hq
    subst he
    have HQ : Hid (∃ A' c', RfAt w5 b A' c' { d with l := fPut m F (d.l.eraseIdx i) } ∧ Mod (fun k => k = b) w w5 ∧ ∀ k, (Value.slice A' (fPut m F (d.l.eraseIdx i)).length c').ownBlock = some k → (Value.slice (some ⟨g, 0, none⟩) d.l.length c).ownBlock = some k ∨ w.heap.size ≤ k) :=
      ⟨A2, c2, h5, M4.out.trans m5 fun i hi => .inl hi, fun k hk => by
        rcases r5 k hk with h | h
        · exact R1.out k h
        · exact .inr (Nat.le_trans M4.out.size h)⟩
    clear hp h5 m5 r5
    go_wp2_with fail
    go_ret
    exact ⟨rfl, HQ.out⟩
  · have hS : dRename d n m = d := by unfold dRename; rw [if_neg hg]
    rw [hS]
    generalize dMay d true n m = er at *
    have q1 : (er != 0) = true := by simpa using hg
    clear hg hS kw ok hn h
    go_enter Try.func41, Try.ntmps41
    go_wp2_with (go_at_call 37; refine KW.out.mono ?_; rintro e w' ⟨rfl, rfl⟩)
    go_ret
    exact RfPost.same H.out rfl (Below.refl _ _)
end
end Go.Proofs.Ytbkenickmiapdaa
