/- DERIVED. Package disk: what becomes of the disk in memory where one file turns, comes, or goes. -/
import Derived.Test.YtbkenickmiapdaaDk1
namespace Go.Proofs.Ytbkenickmiapdaa
set_option linter.unusedVariables false
set_option linter.unusedSimpArgs false
open Go.RowKit

theorem fSort_view {L : List (Nm × FB)} : fSort (dkView L) ↔ fSort L := by
  unfold fSort dkView
  rw [List.pairwise_map]
theorem view_set {n : Nm} {x : FB} {L : List (Nm × FB)} : dkView (fSet n x L) = fSet n x.f (dkView L) := by
  unfold dkView fSet
  rw [List.map_map, List.map_map]
  refine List.map_congr_left fun p _ => ?_
  simp only [Function.comp_apply]
  split <;> rfl
theorem view_del {n : Nm} {L : List (Nm × FB)} : dkView (fDel n L) = fDel n (dkView L) := by
  induction L with
  | nil => rfl
  | cons p r ih =>
    show dkView (fDel n (p :: r)) = fDel n ((p.1, p.2.f) :: dkView r)
    simp only [fDel, List.filter_cons] at ih ⊢
    split
    · rename_i h; show (p.1, p.2.f) :: dkView _ = _; rw [ih]
    · exact ih
theorem view_ins {x : Nm × FB} {L : List (Nm × FB)} : dkView (fIns x L) = fIns (x.1, x.2.f) (dkView L) := by
  induction L with
  | nil => rfl
  | cons y r ih =>
    show dkView (fIns x (y :: r)) = fIns (x.1, x.2.f) ((y.1, y.2.f) :: dkView r)
    simp only [fIns]
    split
    · rfl
    · show (y.1, y.2.f) :: dkView _ = _; rw [ih]
theorem view_put {n : Nm} {x : FB} {L : List (Nm × FB)} : dkView (fPut n x L) = fPut n x.f (dkView L) := by
  unfold fPut
  rw [view_ins, view_del]

theorem FileAt.blk_lt {w : World} {x : FB} (h : FileAt w x) : x.blk < w.heap.size := by
  obtain ⟨sv, h1, _⟩ := h
  exact h1.lt
theorem FileAt.row_lt {w : World} {x : FB} (h : FileAt w x) {r : Nat} (hr : x.row = some r) : r < w.heap.size := by
  obtain ⟨sv, _, h2, h3⟩ := h
  exact (h2.lt r (h3.trans hr)).2
theorem FileAt.row_is {w : World} {x : FB} (h : FileAt w x) {r : Nat} (hr : x.row = some r) : ∃ cs, Blk w r 5 cs := by
  obtain ⟨sv, _, h2, h3⟩ := h
  rcases h2.2 with ⟨h0, _⟩ | ⟨g, cap, cur, hv, hg, hh, _⟩
  · rw [h0] at h3; rw [← h3] at hr; cases hr
  · rw [hv] at h3
    have : some g = some r := h3.trans hr
    injection this with this
    subst this
    exact ⟨cur, hh⟩
theorem map_not_cells {w : World} {mb g : Nat} {P : Program} {k : TypeId} {R : Value → Option (DataW Value × List MemPlace)} {n : Nat} {D : DataW Value} {t : TypeId} {cs : Array Value} (h : w.ownsMap P k R mb n D) (hb : Blk w g t cs) : g ≠ mb := by
  rintro rfl
  obtain ⟨es, clock, h1, _⟩ := h
  unfold Blk at hb
  rw [hb] at h1; cases h1

section
variable {w w' : World} {b mb : Nat} {L : List (Nm × FB)} {lim : Int} {down : Bool} {n : Nm} {x x' : FB}

theorem DkAt.file_ne (h : DkAt w b mb L lim down) (hs : fSort L) (hg : fGet n L = some x) : ∀ p ∈ L, p.1 ≠ n → p.2.blk ≠ x.blk ∧ (∀ r, x.row = some r → p.2.row ≠ some r) ∧ (∀ r, p.2.row = some r → r ≠ x.blk) ∧ (x.row ≠ some p.2.blk) := by
  intro p hp hn
  have hx := fGet_mem hg
  have hpq : (p.2.blk ≠ x.blk ∧ ∀ r, x.row = some r → p.2.row ≠ some r) := by
    have h1 : ∀ (M : List (Nm × FB)), (M.Pairwise fun p q => p.2.blk ≠ q.2.blk) → (M.Pairwise fun p q => ∀ r, p.2.row = some r → q.2.row ≠ some r) → ∀ p q, p ∈ M → q ∈ M → p.1 ≠ q.1 → p.2.blk ≠ q.2.blk ∧ ∀ r, q.2.row = some r → p.2.row ≠ some r := by
      intro M
      induction M with
      | nil => intro _ _ p q hp; cases hp
      | cons y s ih =>
        intro ha hr p q hp hq hne
        obtain ⟨a1, a2⟩ := List.pairwise_cons.1 ha
        obtain ⟨r1, r2⟩ := List.pairwise_cons.1 hr
        rcases List.mem_cons.1 hp with rfl | hp' <;> rcases List.mem_cons.1 hq with rfl | hq'
        · exact absurd rfl hne
        · exact ⟨a1 q hq', fun r hr hpr => r1 q hq' r hpr hr⟩
        · exact ⟨(a1 p hp').symm, fun r hr => r1 p hp' r hr⟩
        · exact ih a2 r2 p q hp' hq' hne
    exact h1 L h.apart h.rows p (n, x) hp hx hn
  refine ⟨hpq.1, hpq.2, fun r hr => ?_, fun e => ?_⟩
  · obtain ⟨cs, hc⟩ := (h.files p hp).row_is hr
    obtain ⟨sv, hb, _⟩ := h.files _ hx
    exact hc.ne_ hb (by decide)
  · obtain ⟨cs, hc⟩ := (h.files _ hx).row_is e
    obtain ⟨sv, hb, _⟩ := h.files p hp
    exact hc.ne_ hb (by decide) rfl

/-- One file has turned. -/
theorem DkAt.setFile (h : DkAt w b mb L lim down) (hs : fSort L) (hg : fGet n L = some x) (hblk : x'.blk = x.blk) (hrow : x'.row = x.row ∨ ∃ r, x'.row = some r ∧ w.heap.size ≤ r) (hfile : FileAt w' x')
    (hk : ∀ k, dkFoot b mb L k → k < w.heap.size → k ≠ x.blk → x.row ≠ some k → w'.heap[k]? = w.heap[k]?) : DkAt w' b mb (fSet n x' L) lim down := by
  have hx := fGet_mem hg
  obtain ⟨sv, hxb, _⟩ := h.files _ hx
  have hothers := h.file_ne hs hg
  have hmap : (fSet n x' L).map encF = L.map encF := by
    unfold fSet
    rw [List.map_map]
    refine List.map_congr_left fun p hp => ?_
    simp only [Function.comp_apply]
    by_cases e : p.1 = n
    · rw [if_pos (by simpa using e)]
      have : p = (n, x) := by
        have h1 : fGet n L = some p.2 := fGet_of_mem hs (by rw [← e]; exact hp)
        rw [hg] at h1; injection h1 with h1
        exact Prod.ext e h1.symm
      rw [this]; simp [encF, hblk]
    · rw [if_neg (by simpa using e)]
  refine ⟨h.head.keep (hk _ (.inl rfl) h.head.lt (h.head.ne_ hxb (by decide)) fun e => ?_), ?_, fun p hp => ?_, ?_, ?_⟩
  · obtain ⟨cs, hc⟩ := (h.files _ hx).row_is e
    exact hc.ne_ h.head (by decide) rfl
  · rw [hmap, show (fSet n x' L).length = L.length from by simp [fSet]]
    refine ownsMap_keep h.map (hk _ (.inr (.inl rfl)) h.map.lt (map_not_cells h.map hxb).symm fun e => ?_)
    obtain ⟨cs, hc⟩ := (h.files _ hx).row_is e
    exact map_not_cells h.map hc rfl
  · rcases mem_fSet hp with rfl | ⟨hp, hn⟩
    · exact hfile
    · obtain ⟨o1, o2, o3, o4⟩ := hothers p hp hn
      have hf := h.files p hp
      exact hf.keep (hk _ (.inr (.inr ⟨p, hp, .inl rfl⟩)) hf.blk_lt o1 o4) fun g hgr => hk _ (.inr (.inr ⟨p, hp, .inr hgr⟩)) (hf.row_lt hgr) (o3 g hgr) fun e => o2 g e hgr
  · unfold fSet
    rw [List.pairwise_map]
    refine List.Pairwise.imp_of_mem ?_ h.apart
    intro p q hp hq hpq
    have hb : ∀ r ∈ L, (if (r.1 == n) = true then (n, x') else r).2.blk = r.2.blk := by
      intro r hr
      by_cases e : r.1 = n
      · rw [if_pos (by simpa using e)]
        have h1 : fGet n L = some r.2 := fGet_of_mem hs (by rw [← e]; exact hr)
        rw [hg] at h1; injection h1 with h1
        show x'.blk = _
        rw [hblk, h1]
      · rw [if_neg (by simpa using e)]
    rw [hb p hp, hb q hq]; exact hpq
  · unfold fSet
    rw [List.pairwise_map]
    refine List.Pairwise.imp_of_mem ?_ (h.rows.and hs.ne_)
    intro p q hp hq ⟨hpq, hne⟩ r hr1 hr2
    by_cases e1 : p.1 = n <;> by_cases e2 : q.1 = n
    · exact hne (e1.trans e2.symm)
    · rw [if_pos (by simpa using e1)] at hr1
      rw [if_neg (by simpa using e2)] at hr2
      rcases hrow with h1 | ⟨r', h1, h2⟩
      · exact (hothers q hq e2).2.1 r (h1.symm.trans hr1) hr2
      · have e3 : r' = r := by have := h1.symm.trans hr1; injection this
        have := (h.files q hq).row_lt hr2
        omega
    · rw [if_neg (by simpa using e1)] at hr1
      rw [if_pos (by simpa using e2)] at hr2
      rcases hrow with h1 | ⟨r', h1, h2⟩
      · exact (hothers p hp e1).2.1 r (h1.symm.trans hr2) hr1
      · have e3 : r' = r := by have := h1.symm.trans hr2; injection this
        have := (h.files p hp).row_lt hr1
        omega
    · rw [if_neg (by simpa using e1)] at hr1
      rw [if_neg (by simpa using e2)] at hr2
      exact hpq r hr1 hr2

/-- A map's word: as many entries as there are. -/
theorem ownsMap_tight {P : Program} {k : TypeId} {R : Value → Option (DataW Value × List MemPlace)} {g m : Nat} {es : List (Lit × DataW Value)} (h : w.ownsMap P k R g m (.map es)) : w.ownsMap P k R g es.length (.map es) := by
  obtain ⟨es', clock, h1, h2, h3, h4⟩ := h
  refine ⟨es', clock, h1, h2, ?_, h4⟩
  injection h4 with h4
  rw [h4, length_sorted]
  simp

/-- Files have gone, or come, or bear another name: the map's block alone has turned, and new ones. -/
theorem DkAt.reMap (h : DkAt w b mb L lim down) {L' : List (Nm × FB)} (hm : w'.ownsMap Try.prog 9 heldR mb L'.length (.map (L'.map encF))) (hold : ∀ p ∈ L', (∃ q ∈ L, q.2 = p.2) ∨ FileAt w' p.2)
    (happ : L'.Pairwise fun p q => p.2.blk ≠ q.2.blk) (hrows : L'.Pairwise fun p q => ∀ r, p.2.row = some r → q.2.row ≠ some r) (hk : ∀ k, k < w.heap.size → k ≠ mb → w'.heap[k]? = w.heap[k]?) : DkAt w' b mb L' lim down := by
  refine ⟨h.head.keep (hk _ h.head.lt (map_not_cells h.map h.head)), hm, fun p hp => ?_, happ, hrows⟩
  rcases hold p hp with ⟨q, hq, e⟩ | h1
  · rw [← e]
    have hf := h.files q hq
    obtain ⟨sv, hb, _⟩ := h.files q hq
    exact hf.keep (hk _ hf.blk_lt (map_not_cells h.map hb)) fun g hg => hk _ (hf.row_lt hg) (by obtain ⟨cs, hc⟩ := hf.row_is hg; exact map_not_cells h.map hc)
  · exact h1
end
end Go.Proofs.Ytbkenickmiapdaa
