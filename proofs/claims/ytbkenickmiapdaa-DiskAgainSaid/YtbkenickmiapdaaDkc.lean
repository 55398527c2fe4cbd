/- DERIVED. Package disk: Crash. -/
import Derived.Test.YtbkenickmiapdaaRnd
import Derived.Test.YtbkenickmiapdaaDmc
namespace Go.Proofs.Ytbkenickmiapdaa
set_option linter.unusedVariables false
set_option linter.unusedSimpArgs false
open Go.RowKit Go.Shelf
attribute [local go_sem] Oper.semAt_some

def intV (k : Int) : Value := .int .i64 k

theorem addr_add (g o n : Nat) : (⟨g, o, none⟩ : Addr).add n = ⟨g, o + n, none⟩ := by
  unfold Addr.add
  by_cases h : n = 0
  · subst h; simp
  · simp [h]

theorem ownsRow_cut {w : World} {e : TypeId} {A : Option Addr} {n c k : Nat} {xs : List Value} (h : w.ownsRow 0 e 1 (.slice A n c) n xs) (hk : k ≤ n) : w.ownsRow 0 e 1 (.slice A k c) k (xs.take k) := by
  refine ⟨by simp [h.1]; omega, ?_⟩
  rcases h.2 with ⟨h1, h2⟩ | ⟨g, cap, cur, h1, h2, h3, h4, h5, h6, h7⟩
  · left
    injection h1 with h1 h3 h4
    subst h1; subst h4
    obtain rfl : k = 0 := by omega
    exact ⟨rfl, rfl⟩
  · right
    injection h1 with h1 _ h8
    subst h1; subst h8
    refine ⟨g, c, cur, rfl, h2, h3, by omega, h5, h6, ?_⟩
    rw [← h7, List.take_take]
    congr 1
    omega

theorem DkAt.setDown {w : World} {b mb : Nat} {L : List (Nm × FB)} {lim : Int} {down : Bool} (hA : DkAt w b mb L lim down) (v : Bool) : DkAt (w.setCell ⟨b, 2, none⟩ (.bool v)) b mb L lim v := by
  have hb := hA.head.set_ 2 (.bool v)
  have hfar : ∀ k, k ≠ b → (w.setCell ⟨b, 2, none⟩ (.bool v)).heap[k]? = w.heap[k]? := fun k hk => Below.heap_setCell _ _ _ _ hk
  refine ⟨by simpa using hb, ownsMap_keep hA.map (hfar _ (map_not_cells hA.map hA.head).symm), fun p hp => ?_, hA.apart, hA.rows⟩
  have hf := hA.files p hp
  obtain ⟨sv, hfb, _⟩ := hf
  refine (hA.files p hp).keep (hfar _ (hfb.ne_ hA.head (by decide))) fun g hg => hfar _ ?_
  obtain ⟨cs, hc⟩ := (hA.files p hp).row_is hg
  exact hc.ne_ hA.head (by decide)

structure CrI (w : World) (S : Foot) (b mb : Nat) (l0 : List (Nm × DF)) (lim : Int) (ks : List Int) (A : Option Addr) (c : Nat) (pre : List Nm) (W : World) : Prop where
  mod : Mod S w W
  size : w.heap.size + 4 ≤ W.heap.size
  dk : ∃ L', DkAt W b mb L' lim false ∧ dkView L' = cFold ks 0 l0 pre ∧ ∀ k, dkFoot b mb L' k → S k
  b0 : Blk W w.heap.size 26 #[.pointer (some ⟨b, 0, none⟩)]
  b1 : Blk W (w.heap.size + 1) 23 #[.slice A ks.length c]
  b2 : Blk W (w.heap.size + 2) 3 #[.int .i64 pre.length]

section
variable {w : World} {S : Foot} {b mb : Nat} {l0 : List (Nm × DF)} {lim : Int} {ks : List Int} {A : Option Addr} {c : Nat}
theorem CrI.keep {pre : List Nm} {W W' : World} (h : CrI w S b mb l0 lim ks A c pre W) (hS : ∀ k, S k → k < w.heap.size) (ho : W'.os = W.os ∧ W'.tape = W.tape ∧ W'.output = W.output) (hsz : W.heap.size ≤ W'.heap.size) (hk : ∀ k, k < w.heap.size + 4 → W'.heap[k]? = W.heap[k]?) : CrI w S b mb l0 lim ks A c pre W' := by
  obtain ⟨L', h1, h2, h3⟩ := h.dk
  have hs := h.size
  exact ⟨⟨ho.1.trans h.mod.os, ho.2.1.trans h.mod.tape, ho.2.2.trans h.mod.output, by omega, fun k hk1 hk2 => (hk k (by omega)).trans (h.mod.block k hk1 hk2)⟩, by omega,
    ⟨L', h1.keep fun k hf => hk k (by have := hS k (h3 k hf); omega), h2, h3⟩, h.b0.keep (hk _ (by omega)), h.b1.keep (hk _ (by omega)), h.b2.keep (hk _ (by omega))⟩

theorem CrI.own {α : Type} (f : α → Nm) (hS : ∀ k, S k → k < w.heap.size) {B : Nat} (hB : w.heap.size + 4 ≤ B) : OwnFrom B (fun (pre : List α) W => CrI w S b mb l0 lim ks A c (pre.map f) W) := fun s W W' row h hg hr =>
  h.keep hS ⟨hg.os, hg.tape, hg.output⟩ hg.size fun k hk => hg.block k (by have := h.size; omega) fun e => by have := (hr _ e.symm).1; omega

theorem CrI.step {pre : List Nm} {W W' : World} (h : CrI w S b mb l0 lim ks A c pre W) (hS : ∀ k, S k → k < w.heap.size) (hs0 : fSort l0) {L' : List (Nm × FB)} (hA : DkAt W b mb L' lim false) (hv : dkView L' = cFold ks 0 l0 pre) (hf : ∀ k, dkFoot b mb L' k → S k) {x : Nm} {f : FB} (hg : fGet x L' = some f)
    (hsync : f.f.s ≤ f.f.b.length) (sv' : Value) (ho : W'.os = W.os ∧ W'.tape = W.tape ∧ W'.output = W.output) (hsz : W'.heap.size = W.heap.size) (hfb : Blk W' f.blk 64 #[sv', .int .i64 (dKeep f.f ks[pre.length]?)])
    (hrow : W.ownsRow 0 5 1 sv' (dKeep f.f ks[pre.length]?) ((f.f.b.map u8V).take (dKeep f.f ks[pre.length]?))) (hown : sv'.ownBlock = f.row) (hb2 : Blk W' (w.heap.size + 2) 3 #[.int .i64 ((pre.length : Int) + 1)])
    (hk : ∀ k, k ≠ f.blk → k ≠ w.heap.size + 2 → W'.heap[k]? = W.heap[k]?) : CrI w S b mb l0 lim ks A c (pre ++ [x]) W' := by
  have hsL : fSort L' := by
    refine fSort_view.1 ?_
    rw [hv]
    exact fSort_of_names (cFold_names ks pre 0 l0) hs0
  have hmem := fGet_mem hg
  have hSf : S f.blk := hf _ (.inr (.inr ⟨_, hmem, .inl rfl⟩))
  have hlt := hS _ hSf
  have hw := h.size
  obtain ⟨sv, hb, hr0, ho0⟩ := (hA.files _ hmem).ex
  have hrne : f.row ≠ some f.blk := fun e => by
    obtain ⟨cs, hc⟩ := (hA.files _ hmem).row_is e
    exact hc.ne_ hb (by decide) rfl
  refine ⟨⟨ho.1.trans h.mod.os, ho.2.1.trans h.mod.tape, ho.2.2.trans h.mod.output, by omega, fun k hk1 hk2 => (hk k (fun e => hk2 (by rw [e]; exact hSf)) (by omega)).trans (h.mod.block k hk1 hk2)⟩, by omega,
    ⟨fSet x ⟨f.blk, f.row, dCut f.f ks[pre.length]?⟩ L', ?_, ?_, ?_⟩, h.b0.keep (hk _ (by omega) (by omega)), h.b1.keep (hk _ (by omega) (by omega)), ?_⟩
  · refine hA.setFile hsL hg rfl (.inl rfl) ⟨sv', hfb, ?_, hown⟩ fun k hkf hk1 hk2 hk3 => hk k hk2 (by have := hS k (hf k hkf); omega)
    have e1 : (dCut f.f ks[pre.length]?).b.length = dKeep f.f ks[pre.length]? := dCut_len hsync _
    have e2 : (dCut f.f ks[pre.length]?).b.map u8V = (f.f.b.map u8V).take (dKeep f.f ks[pre.length]?) := by
      show (f.f.b.take _).map u8V = _
      rw [List.map_take]
    show W'.ownsRow 0 5 1 sv' (dCut f.f ks[pre.length]?).b.length ((dCut f.f ks[pre.length]?).b.map u8V)
    rw [e1, e2]
    refine ⟨hrow.1, ?_⟩
    rcases hrow.2 with h0 | ⟨g, cap, cur, h1, h2, h3, h4⟩
    · exact .inl h0
    · refine .inr ⟨g, cap, cur, h1, h2, ?_, h4⟩
      have hgr : f.row = some g := by rw [← hown, h1]; rfl
      have hSg := hS g (hf g (.inr (.inr ⟨_, hmem, .inr hgr⟩)))
      exact (hk g (fun e => hrne (by rw [hgr, e])) (by omega)).trans h3
  · rw [view_set, hv, cFold_snoc]
    unfold cStep
    have hgv : fGet x (cFold ks 0 l0 pre) = some f.f := by rw [← hv, dkView_get, hg]; rfl
    rw [hgv]
    simp
  · rintro k (rfl | rfl | ⟨p, hp, hpk⟩)
    · exact hf _ (.inl rfl)
    · exact hf _ (.inr (.inl rfl))
    · rcases mem_fSet hp with rfl | ⟨hp1, _⟩
      · exact hf k (.inr (.inr ⟨_, hmem, hpk⟩))
      · exact hf k (.inr (.inr ⟨p, hp1, hpk⟩))
  · simpa using hb2

end

set_option maxHeartbeats 400000 in
/-- Crash of a disk that is down: nothing. -/
theorem dk_crash_down (b mb : Nat) (L : List (Nm × FB)) (lim : Int) (A : Option Addr) (n c : Nat) (w : World) (h : DkAt w b mb L lim true) :
    Calls Try.prog 17 #[.pointer (some ⟨b, 0, none⟩), .slice A n c] w fun e w' => e = .returned (.tuple #[]) ∧ Below w.heap.size w w' := by
  have hA := ((alloc_foot h (.cells #[.pointer (some ⟨b, 0, none⟩)] 26) 0))
  have hA2 := alloc_foot hA (.cells #[.slice A n c] 23) 0
  have c2 : ((w.alloc (.cells #[.pointer (some ⟨b, 0, none⟩)] 26)).alloc (.cells #[.slice A n c] 23)).cell? ⟨b, 2, none⟩ = some (.bool true) := hA2.head.cell 2
  clear h hA hA2
  have hB : Below w.heap.size w ((w.alloc (.cells #[.pointer (some ⟨b, 0, none⟩)] 26)).alloc (.cells #[.slice A n c] 23)) := ((Below.refl _ w).alloc (Nat.le_refl _) _).alloc (by simp) _
  go_enter Try.func17, Try.ntmps17
  go_wp2
  refine bodyPost_ret (results_none rfl _ _ _) rfl ?_
  exact ⟨rfl, hB⟩

set_option maxRecDepth 100000 in
set_option maxHeartbeats 4000000 in
theorem dk_crash_up (b mb : Nat) (L : List (Nm × FB)) (lim : Int) (ks : List Int) (A : Option Addr) (c : Nat) (S : Foot) (w : World) (h : DkAt w b mb L lim false) (hSf : ∀ k, dkFoot b mb L k → S k) (hS : ∀ k, S k → k < w.heap.size) (hs : fSort L) (hl : L.length ≤ 1000000)
    (hsync : ∀ p ∈ L, p.2.f.s ≤ p.2.f.b.length) (hnm : ∀ p ∈ L, p.1.length ≤ maxLen) (hshort : ∀ p ∈ L, p.2.f.b.length ≤ 140737488355328) (hks : Reads w w.heap.size 1 A ks.length (ks.map intV)) (hkl : ks.length ≤ maxLen) (hkS : ∀ ad, A = some ad → 0 < ks.length → ¬ S ad.block ∧ ad = ⟨ad.block, ad.off, none⟩) :
    Calls Try.prog 17 #[.pointer (some ⟨b, 0, none⟩), .slice A ks.length c] w (DkPost w S b (.tuple #[]) ⟨lim, dCrashL (dkView L) ks, true⟩) := by
  refine (callsIn_wide (n := 6)).1 ?_
  have hfN : Fence.wide.fn 34 := trivial
  have hA1 := hide (alloc_foot (alloc_foot h (.cells #[.pointer (some ⟨b, 0, none⟩)] 26) 0) (.cells #[.slice A ks.length c] 23) 0)
  have c2 : ((w.alloc (.cells #[.pointer (some ⟨b, 0, none⟩)] 26)).alloc (.cells #[.slice A ks.length c] 23)).cell? ⟨b, 2, none⟩ = some (.bool false) := hA1.out.head.cell 2
  refine callsIn_of_wp_marks Try.func17 rfl trivial ?_ rfl
  simp only [Try.ntmps17, List.size_toArray, List.length_cons, List.length_nil, Nat.reduceAdd, Nat.reduceSub, Array.replicate_succ, Array.replicate_zero, List.push_toArray, List.append_toArray, List.nil_append, List.cons_append]
  gi_wp2_with (gi_at_call 34; refine (callsIn_wide.2 (dk_names b _)).mono ?_; rintro e w' ⟨rfl, rfl⟩)
  have HA4 := hide (alloc_foot (alloc_foot hA1.out (.cells #[.int .i64 0] 3) 0) (.cells #[.pointer (some ⟨b, 0, none⟩)] 26) 0)
  have hsS : ∀ k, (S k ∨ k = w.heap.size + 2) → k < w.heap.size + 4 := fun k hk => by
    rcases hk with hk | hk
    · have := hS k hk; omega
    · omega
  obtain ⟨w4, hw4⟩ : ∃ w4, ((((w.alloc (.cells #[.pointer (some ⟨b, 0, none⟩)] 26)).alloc (.cells #[.slice A ks.length c] 23)).alloc (.cells #[.int .i64 0] 3)).alloc (.cells #[.pointer (some ⟨b, 0, none⟩)] 26)) = w4 := ⟨_, rfl⟩
  have hsz4 : w4.heap.size = w.heap.size + 4 := by rw [← hw4]; simp
  have hA4 : DkAt w4 b mb L lim false := by rw [← hw4]; exact HA4.out
  have q0 : Blk w4 w.heap.size 26 #[.pointer (some ⟨b, 0, none⟩)] := by
    rw [← hw4]; exact (((Blk.new w _ _).alloc _).alloc _).alloc _
  have q1 : Blk w4 (w.heap.size + 1) 23 #[.slice A ks.length c] := by
    have := (((Blk.new (w.alloc (.cells #[.pointer (some ⟨b, 0, none⟩)] 26)) 23 #[.slice A ks.length c]).alloc (.cells #[.int .i64 0] 3)).alloc (.cells #[.pointer (some ⟨b, 0, none⟩)] 26))
    rw [hw4] at this
    simpa using this
  have q2 : Blk w4 (w.heap.size + 2) 3 #[.int .i64 0] := by
    have := ((Blk.new ((w.alloc (.cells #[.pointer (some ⟨b, 0, none⟩)] 26)).alloc (.cells #[.slice A ks.length c] 23)) 3 #[.int .i64 0]).alloc (.cells #[.pointer (some ⟨b, 0, none⟩)] 26))
    rw [hw4] at this
    simpa using this
  have q3 : Blk w4 (w.heap.size + 3) 26 #[.pointer (some ⟨b, 0, none⟩)] := by
    have := (Blk.new (((w.alloc (.cells #[.pointer (some ⟨b, 0, none⟩)] 26)).alloc (.cells #[.slice A ks.length c] 23)).alloc (.cells #[.int .i64 0] 3)) 26 #[.pointer (some ⟨b, 0, none⟩)])
    rw [hw4] at this
    simpa using this
  have qm : Mod S w w4 := by
    rw [← hw4]
    exact (((((Mod.refl S w).alloc _).alloc _).alloc _).alloc _)
  have hI0 : CrI w S b mb (dkView L) lim ks A c [] w4 := ⟨qm, by omega, ⟨L, hA4, rfl, hSf⟩, q0, q1, q2⟩
  have hBn : w4.cell? ⟨w.heap.size + 1 + 1 + 1, 0, none⟩ = some (.pointer (some ⟨b, 0, none⟩)) := q3.cell 0
  rw [hw4]
  clear hw4 HA4 c2 hA1
  refine wpIn_rangeFunc_ownG rfl (by omega) (gf := 47) (lb := #[.pointer (some ⟨w.heap.size + 1 + 1 + 1, 0, none⟩)]) rfl trivial (enters_of Try.func47 (by kernel_rfl) rfl)
    (names_stops 5 (by omega) (KpS fun k => S k ∨ k = w.heap.size + 2) (fun _ g => ¬ (S g ∨ g = w.heap.size + 2)) (fun W1 W' g cs t z hk hs hg => ⟨hk.2 g cs t z hs hg, hs⟩) (fun W' hW' g w2 hg _ hk => by have := hsS g hk; have := hW'.size; omega) hBn (by rw [hsz4]; omega) hA4 hs hl) (fun h k => h.trans k) KpS.book (Below.refl _ _) (fun _ => rfl)
    (fun pre W => CrI w S b mb (dkView L) lim ks A c (pre.map (·.1)) W) (fun _ _ _ => False) (CrI.own _ hS (by omega)) (fun _ _ _ _ _ hs _ _ => hs) hI0
    (fun x => { tmps := #[.pointer (some ⟨b, 0, none⟩), .slice A ks.length c, .pointer (some ⟨w.heap.size, 0, none⟩), .pointer (some ⟨w.heap.size + 1, 0, none⟩), .pointer (some ⟨w.heap.size + 1 + 1, 0, none⟩), .string ⟨x.1.toArray⟩, undef, .pointer (some ⟨b, 0, none⟩), .pointer (some ⟨b, 0, none⟩), .pointer (some ⟨b, 2, none⟩), .bool false, .pointer (some ⟨b, 0, none⟩), .func (.func 47) #[] #[.pointer (some ⟨w.heap.size + 1 + 1 + 1, 0, none⟩)], .string ⟨x.1.toArray⟩, undef, undef, undef, undef, undef, undef, undef, undef, undef, undef, undef, undef, undef, undef, undef, undef, undef, undef, undef, undef, undef, undef, undef, undef, undef, undef, undef, undef, undef, undef, undef, undef, undef, undef, undef, undef, undef, undef, undef, undef, undef, undef, undef, undef, undef, undef, undef, undef, undef, undef, undef], defers := [] }) ?assign ?body ?done ?stop
  case assign =>
    intro l x W K hK
    gi_wp2
    exact hK
  case stop =>
    rintro D c pre W _ _ h _
    exact h.elim
  case body =>
    intro l pre x W hI hlt
    obtain ⟨L', hA', hv', hf'⟩ := hI.dk
    have hnames : L'.map (·.1) = L.map (·.1) := by
      have e1 : (dkView L').map (·.1) = (dkView L).map (·.1) := by rw [hv', cFold_names]
      unfold dkView at e1
      rw [List.map_map, List.map_map] at e1
      exact e1
    obtain ⟨f, hg⟩ : ∃ f, fGet x.1 L' = some f := by
      cases hg : fGet x.1 L' with
      | some f => exact ⟨f, rfl⟩
      | none =>
        have hx : x.1 ∈ L'.map (·.1) := by rw [hnames]; exact x.2
        obtain ⟨p, hp, hpe⟩ := List.mem_map.1 hx
        exact absurd hpe (fGet_none hg p hp)
    have hview : (x.1, f.f) ∈ cFold ks 0 (dkView L) (pre.map (·.1)) := by
      rw [← hv']
      exact List.mem_map.2 ⟨(x.1, f), fGet_mem hg, rfl⟩
    have hsy : f.f.s ≤ f.f.b.length := cFold_synced ks _ 0 _ (fun p hp => by
      obtain ⟨q, hq, rfl⟩ := List.mem_map.1 hp
      exact hsync q hq) _ hview
    have hsh : f.f.b.length ≤ 140737488355328 := cFold_short ks _ _ 0 _ (fun p hp => by
      obtain ⟨q, hq, rfl⟩ := List.mem_map.1 hp
      exact hshort q hq) _ hview
    have hxl : x.1.length ≤ maxLen := by
      obtain ⟨p, hp, hpe⟩ := List.mem_map.1 x.2
      rw [← hpe]; exact hnm p hp
    obtain ⟨sv, hb, hrow, hown⟩ := (hA'.files _ (fGet_mem hg)).ex
    obtain ⟨A2, c2, rfl, _⟩ := slice_form hrow
    have hcap : f.f.b.length ≤ c2 := by
      rcases hrow.2 with ⟨h1, h2⟩ | ⟨g, cap, cur, h1, _, _, h4, _⟩
      · have h2 : f.f.b.length = 0 := h2
        omega
      · injection h1 with _ _ e3
        subst e3
        exact h4
    have STEP := hide (fun (W' : World) => hI.step (W' := W') hS (fSort_view.2 hs) hA' hv' hf' hg hsy)
    have HROW := hide hrow
    have HOWN := hide hown
    have HI := hide hI
    have HB := hide hb
    have hlook : (Instr.lookup 58 (.map (some mb)) (.string ⟨x.1.toArray⟩) false).run Try.prog W = .ok (.pointer (some ⟨f.blk, 0, none⟩)) W := by
      have := hA'.look x.1 hxl 0
      rw [hg] at this
      exact this
    have k0 : W.cell? ⟨w.heap.size, 0, none⟩ = some (.pointer (some ⟨b, 0, none⟩)) := hI.b0.cell 0
    have k1 : W.cell? ⟨w.heap.size + 1, 0, none⟩ = some (.slice A ks.length c) := hI.b1.cell 0
    have k2 : W.cell? ⟨w.heap.size + 1 + 1, 0, none⟩ = some (.int .i64 (pre.length : Nat)) := by have := hI.b2.cell 0; simpa using this
    have k3 : W.frozen? ⟨w.heap.size + 1 + 1, 0, none⟩ = false := hI.b2.frozen 0
    have km : W.cell? ⟨b, 1, none⟩ = some (.map (some mb)) := hA'.head.cell 1
    have f0 : W.cell? ⟨f.blk, 0, none⟩ = some (.slice A2 f.f.b.length c2) := hb.cell 0
    have f1 : W.cell? ⟨f.blk, 1, none⟩ = some (.int .i64 f.f.s) := hb.cell 1
    have f2 : W.frozen? ⟨f.blk, 0, none⟩ = false := hb.frozen 0
    have f3 : W.frozen? ⟨f.blk, 1, none⟩ = false := hb.frozen 1
    have hpl : pre.length ≤ 1000000 := by omega
    have HSF := hide (hf' _ (.inr (.inr ⟨_, fGet_mem hg, .inl rfl⟩)) : S f.blk)
    have hfb : f.blk < w.heap.size := hS _ (hf' _ (.inr (.inr ⟨_, fGet_mem hg, .inl rfl⟩)))
    have hne : w.heap.size + 1 + 1 ≠ f.blk := by omega
    by_cases hlt2 : pre.length < ks.length
    · obtain ⟨ad, hAd, hadB, hadc⟩ := hks.2 (by omega)
      obtain ⟨hnS, hlit⟩ := hkS ad hAd (by omega)
      obtain ⟨kb, koff, rfl⟩ : ∃ kb koff, ad = ⟨kb, koff, none⟩ := ⟨_, _, hlit⟩
      subst hAd
      have hki : (ks.map intV)[pre.length]? = some (intV ks[pre.length]) := by simp [hlt2]
      have hkc : W.cell? ⟨kb, koff + pre.length, none⟩ = some (.int .i64 ks[pre.length]) := (hI.mod.cell (p := ⟨kb, koff + pre.length, none⟩) hadB hnS).trans (by
        have := hadc pre.length _ hki
        rw [addr_add] at this
        exact this)
      have hsome : ks[(pre.map (·.1)).length]? = some ks[pre.length] := by simp [hlt2]
      generalize ks[pre.length] = kk at hkc hsome
      have HSOME := hide hsome
      have hlt3 : decide ((pre.length : Int) < (ks.length : Int)) = true := by simp; omega
      have hlt4 : decide (pre.length < ks.length) = true := by simp; omega
      have hw1 : IntKind.i64.wrap ((f.f.b.length : Int) - (f.f.s : Int)) = (f.f.b.length : Int) - (f.f.s : Int) := IntWalk.i64_in _ (by omega)
      obtain ⟨D, hD⟩ : ∃ D : Nat, (D : Int) = (f.f.b.length : Int) - (f.f.s : Int) := ⟨f.f.b.length - f.f.s, by omega⟩
      have hw2 : IntKind.i64.wrap ((D : Int) + 1) = (D : Int) + 1 := IntWalk.i64_in _ (by omega)
      obtain ⟨M, hM0⟩ : ∃ M : Nat, M = kk.toNat % (D + 1) := ⟨_, rfl⟩
      have hM1 : M < D + 1 := by rw [hM0]; exact Nat.mod_lt _ (by omega)
      have hM : (max kk 0).tmod ((D : Int) + 1) = (M : Int) := by
        have e1 : max kk 0 = (kk.toNat : Int) := by omega
        rw [e1, hM0]
        rfl
      have hw3 : IntKind.i64.wrap (M : Int) = (M : Int) := IntWalk.i64_in _ (by omega)
      obtain ⟨KK, hK0⟩ : ∃ KK : Nat, KK = f.f.s + M := ⟨_, rfl⟩
      have hw4 : IntKind.i64.wrap ((f.f.s : Int) + (M : Int)) = (KK : Int) := by
        rw [IntWalk.i64_in _ (by omega)]; omega
      have hd0 : ¬ ((D : Int) + 1 = 0) := by omega
      have hd1 : ((D : Int) + 1 == 0) = false := by simpa using hd0
      have hKK := hide (show dKeep f.f (some kk) = KK by rw [hK0]; unfold dKeep; rw [hM0, show f.f.b.length - f.f.s = D by omega])
      have HKL := hide (show KK ≤ f.f.b.length by omega)
      have hsc : KK ≤ c2 := by omega
      replace hw1 : IntKind.i64.wrap ((f.f.b.length : Int) - (f.f.s : Int)) = (D : Int) := hw1.trans hD.symm
      have HD := hide hD
      clear hD hM0 hM1 hK0
      clear hI hA' hv' hf' hg hview hrow hown hb hnames hkS hks hI0 hBn q0 q1 q2 q3 qm hsS hA4 h hSf hS hs hsync hshort hki hsome hadc hadB hnS hlit
      gi_wp2_with fail
      refine region_round_tail 22 rfl (by kernel_rfl) ?_
      simp only [List.take_succ_cons, List.take_zero, List.drop_succ_cons, List.drop_zero]
      repeat still_step
      refine wpStill_nil ?_
      gi_wp2_with fail
      refine region_round_tail 10 rfl (by kernel_rfl) ?_
      simp only [List.take_succ_cons, List.take_zero, List.drop_succ_cons, List.drop_zero]
      repeat still_step
      refine wpStill_nil ?_
      gi_wp2_with fail
      have hkeep : dKeep f.f ks[(pre.map (·.1)).length]? = KK := by rw [HSOME.out]; exact hKK.out
      refine ⟨((((KeepsOthers.setCell _ _ _).trans (KeepsOthers.setCell _ _ _)).trans (KeepsOthers.setCell _ _ _)).trans ((KeepsOthers.drew _).trans (KeepsOthers.drew _))).from _, KpS.of_mod ((((((Mod.refl _ W).setCell (.inl (.inl HSF.out)) _).setCell (.inl (.inl HSF.out)) _).setCell (.inl (.inr rfl)) _).drew).drew), ?_⟩
      show CrI w S b mb (dkView L) lim ks (some ⟨kb, koff, none⟩) c ((pre ++ [x]).map (·.1)) _
      rw [List.map_append]
      refine STEP.out _ (.slice A2 KK c2) ⟨rfl, rfl, rfl⟩ (by simp) ?_ ?_ (by have := HOWN.out; cases A2 <;> exact this) ?_ ?_
      · rw [hkeep]
        have := (((HB.out.set_ 1 (.int .i64 KK)).set_ 0 (.slice A2 KK c2)).far (p := ⟨w.heap.size + 1 + 1, 0, none⟩) (by simp; omega) (.int .i64 (pre.length + 1))).drew.drew
        simpa using this
      · rw [hkeep]
        exact ownsRow_cut HROW.out HKL.out
      · have := (((HI.out.b2.far (p := ⟨f.blk, 1, none⟩) (by simp; omega) (.int .i64 KK)).far (p := ⟨f.blk, 0, none⟩) (by simp; omega) (.slice A2 KK c2)).set_ 0 (.int .i64 (pre.length + 1))).drew.drew
        simpa using this
      · intro k h1 h2
        exact (Below.heap_setCell _ _ _ _ (show k ≠ w.heap.size + 1 + 1 from h2)).trans ((Below.heap_setCell _ _ _ _ h1).trans (Below.heap_setCell _ _ _ _ h1))
    · have hlt3 : decide ((pre.length : Int) < (ks.length : Int)) = false := by simp; omega
      have hsc : f.f.s ≤ c2 := Nat.le_trans hsy hcap
      have hlt4 : decide (pre.length < ks.length) = false := by simp; omega
      have HKS := hide hkS
      have HKR := hide hks
      clear hI hA' hv' hf' hg hview hrow hown hb hnames hkS hks hI0 hBn q0 q1 q2 q3 qm hsS hA4 h hSf hS hs hsync hshort
      gi_wp2_with fail
      refine region_round_tail 10 rfl (by kernel_rfl) ?_
      simp only [List.take_succ_cons, List.take_zero, List.drop_succ_cons, List.drop_zero]
      repeat still_step
      refine wpStill_nil ?_
      gi_wp2_with fail
      have hnone : ks[(pre.map (·.1)).length]? = none := by simp; omega
      have hkeep : dKeep f.f ks[(pre.map (·.1)).length]? = f.f.s := by rw [hnone]; rfl
      refine ⟨(((KeepsOthers.setCell _ _ _).trans (KeepsOthers.setCell _ _ _)).trans (KeepsOthers.drew _)).from _, KpS.of_mod ((((Mod.refl _ W).setCell (.inl (.inl HSF.out)) _).setCell (.inl (.inr rfl)) _).drew), ?_⟩
      show CrI w S b mb (dkView L) lim ks A c ((pre ++ [x]).map (·.1)) _
      rw [List.map_append]
      refine STEP.out _ (.slice A2 f.f.s c2) ⟨rfl, rfl, rfl⟩ (by simp) ?_ ?_ (by have := HOWN.out; cases A2 <;> exact this) ?_ ?_
      · rw [hkeep]
        have := ((HB.out.set_ 0 (.slice A2 f.f.s c2)).far (p := ⟨w.heap.size + 1 + 1, 0, none⟩) (by simp; omega) (.int .i64 (pre.length + 1))).drew
        simpa using this
      · rw [hkeep]
        exact ownsRow_cut HROW.out hsy
      · have := ((HI.out.b2.far (p := ⟨f.blk, 0, none⟩) (by simp; omega) (.slice A2 f.f.s c2)).set_ 0 (.int .i64 (pre.length + 1))).drew
        simpa using this
      · intro k h1 h2
        exact (Below.heap_setCell _ _ _ _ (show k ≠ w.heap.size + 1 + 1 from h2)).trans (Below.heap_setCell _ _ _ _ h1)
  case done =>
    rintro D xs W hD hxs hI hK
    obtain ⟨L', hA', hv', hf'⟩ := hI.dk
    rw [hxs] at hv'
    have e1 : L.map (·.1) = (dkView L).map (·.1) := by unfold dkView; rw [List.map_map]; rfl
    rw [e1, cFold_crash (fSort_view.2 hs)] at hv'
    have k0 : W.cell? ⟨w.heap.size, 0, none⟩ = some (.pointer (some ⟨b, 0, none⟩)) := hI.b0.cell 0
    have k1 : W.cell? ⟨b, 2, none⟩ = some (.bool false) := hA'.head.cell 2
    have k2 : W.frozen? ⟨b, 2, none⟩ = false := hA'.head.frozen 2
    have HA' := hide hA'
    have HV' := hide hv'
    have HF' := hide hf'
    have HI := hide hI
    have HK := hide hK
    have HSZ := hide hsz4
    have HD := hide hD
    clear hA' hv' hf' hI hK hxs e1 hI0 hBn q0 q1 q2 q3 qm hsS hA4 h hs hsync hshort hkS hks hD
    gi_wp2_with fail
    have hK3 := (KeepsOthers.setCell W ⟨b, 2, none⟩ (.bool true)).same D _ HK.out rfl
    refine ⟨by simp, .inl ⟨_, _, rfl, run_takeDeferred hK3, ?_⟩⟩
    refine ⟨_, results_none rfl _ _ _, rfl, S, ⟨mb, L', ?_, HV'.out, HF'.out, ?_⟩, ?_, fun k hk => .inl hk⟩
    · refine (HA'.out.setDown true).keep fun k hk => World.putObj_heap_other fun e => ?_
      have h1 := hS k (HF'.out k hk)
      have h2 := HD.out
      have h3 := HSZ.out
      omega
    · intro k hk
      have h1 := hS k hk
      have h2 := HI.out.size
      simp
      omega
    · have hb := HF'.out b (.inl rfl)
      have hm := HI.out.mod.setCell (p := ⟨b, 2, none⟩) (.inl hb) (.bool true)
      refine ⟨hm.os, hm.tape, hm.output, by have := hm.size; simpa using this, fun k hk hn => ?_⟩
      refine (World.putObj_heap_other fun e => ?_).trans (hm.block k hk hn)
      have h2 := HD.out
      have h3 := HSZ.out
      omega

section
variable {w : World} {S : Foot} {b : Nat} {d : DS}
theorem Dk.crash_ (h : Dk w S b d) (ok : DOk d) (ks : List Int) (A : Option Addr) (c : Nat) (hks : Reads w w.heap.size 1 A ks.length (ks.map intV)) (hkl : ks.length ≤ maxLen) (hkS : ∀ ad, A = some ad → 0 < ks.length → ¬ S ad.block ∧ ad = ⟨ad.block, ad.off, none⟩) (hl : d.l.length ≤ 1000000) (hu : dUsed d.l ≤ 140737488355328) :
    Calls Try.prog 17 #[.pointer (some ⟨b, 0, none⟩), .slice A ks.length c] w (DkPost w S b (.tuple #[]) (dCrash d ks)) := by
  have h' := h
  obtain ⟨mb, L, hA, hv, hS, hlt⟩ := h
  cases hd : d.down with
  | true =>
    have e : dCrash d ks = d := by unfold dCrash; rw [hd]; rfl
    rw [e]
    rw [hd] at hA
    exact (dk_crash_down b mb L d.lim A ks.length c w hA).mono fun e w' ⟨he, hB⟩ => DkPost.same h' he hB
  | false =>
    have e : dCrash d ks = ⟨d.lim, dCrashL (dkView L) ks, true⟩ := by unfold dCrash; rw [hd, hv]; rfl
    rw [e]
    rw [hd] at hA
    have hin : ∀ p ∈ L, (p.1, p.2.f) ∈ d.l := fun p hp => by rw [← hv]; exact List.mem_map.2 ⟨p, hp, rfl⟩
    refine dk_crash_up b mb L d.lim ks A c S w hA hS hlt (fSort_view.1 (by rw [hv]; exact ok.sort)) (by rw [← hv] at hl; simpa [dkView] using hl) (fun p hp => ok.synced _ (hin p hp)) (view_names hv ok) (fun p hp => Nat.le_trans (dUsed_mem (hin p hp)) hu) hks hkl hkS
end
end Go.Proofs.Ytbkenickmiapdaa
