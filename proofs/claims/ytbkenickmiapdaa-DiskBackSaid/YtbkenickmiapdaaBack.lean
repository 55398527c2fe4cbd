/- DERIVED. 'tidemarklaw03.DiskBack' returns true at every input: the walk. -/
import Derived.Test.YtbkenickmiapdaaBy
import Derived.Deep.DeepCutAuto
import Derived.Deep.CutBlock
namespace Go.Proofs.Ytbkenickmiapdaa
set_option linter.unusedVariables false
set_option linter.unusedSimpArgs false
open Go.RowKit

abbrev bk (l : List (Nm × DF)) : DS := ⟨1000, l, false⟩
section
variable {x y : List UInt8} {F : DF}
theorem bk_e1 (h : x.length ≤ 50) : dAppendE (bk []) [102] x = 0 := by
  have hm : dMay (bk []) false [102] [102] = 0 := by rfl
  unfold dAppendE
  rw [if_pos hm, if_neg]
  simp [dUsed]; omega
theorem bk_a1 (h : x.length ≤ 50) : dAppend (bk []) [102] x = bk [([102], ⟨x, 0⟩)] := by
  unfold dAppend
  rw [if_pos (bk_e1 h)]
  rfl
theorem bk_e2 : dMay (bk [([102], ⟨x, 0⟩)]) true [102] [102] = 0 := by rfl
theorem bk_a2 : dSync (bk [([102], ⟨x, 0⟩)]) [102] = bk [([102], ⟨x, x.length⟩)] := by rfl
theorem bk_e3 (h : x.length ≤ 50) (h2 : y.length ≤ 50) : dAppendE (bk [([102], ⟨x, x.length⟩)]) [102] y = 0 := by
  have hm : dMay (bk [([102], ⟨x, x.length⟩)]) false [102] [102] = 0 := by rfl
  unfold dAppendE
  rw [if_pos hm, if_neg]
  simp [dUsed]; omega
theorem bk_a3 (h : x.length ≤ 50) (h2 : y.length ≤ 50) : dAppend (bk [([102], ⟨x, x.length⟩)]) [102] y = bk [([102], ⟨x ++ y, x.length⟩)] := by
  unfold dAppend
  rw [if_pos (bk_e3 h h2)]
  rfl
theorem bk_e4 : dMay (bk [([102], F)]) true [102] [103] = 0 := by rfl
theorem bk_a4 : dRename (bk [([102], F)]) [102] [103] = bk [([103], F)] := by rfl
theorem bk_e5 : dMay (bk [([103], F)]) true [103] [102] = 0 := by rfl
theorem bk_a5 : dRename (bk [([103], F)]) [103] [102] = bk [([102], F)] := by rfl
theorem bk_a6 (k : Int) : dCrash (bk [([102], F)]) [k] = ⟨1000, [([102], dCut F (some k))], true⟩ := by rfl
theorem bk_e8 : dMay (bk [([102], F)]) true [102] [102] = 0 := by rfl
theorem bk_a8 : dReadB (bk [([102], F)]) [102] = F.b := by rfl
theorem bk_a9 : dList (bk [([102], F)]) = [[102]] := by rfl
end

def BkText (x y : List UInt8) (k : Int) : Value := .string ⟨(dCut ⟨x ++ y, x.length⟩ (some k)).b.toArray⟩
/-- Behind k rounds. -/
def BkRel (w : World) (rb : Nat) (R : Value) (k : Nat) (wr : World) : Prop := Below w.heap.size w wr ∧ w.heap.size ≤ rb ∧ Blk wr rb 41 #[if 1 ≤ k then R else .string ⟨#[]⟩, if 2 ≤ k then R else .string ⟨#[]⟩]

set_option maxRecDepth 100000 in
set_option maxHeartbeats 2000000 in
theorem back_walk (A B : Option Addr) (la lb : List UInt8) (ca cb : Nat) (keep : Int) (w : World) (ha : Reads w w.heap.size 1 A la.length (la.map u8V)) (hb : Reads w w.heap.size 1 B lb.length (lb.map u8V)) (hca : la.length ≤ ca) (hcb : lb.length ≤ cb) :
    Calls Try.prog 6 #[.slice A la.length ca, .slice B lb.length cb, .int .i64 keep] w fun e w' => e = .returned (.bool true) ∧ Below w.heap.size w w' := by
  obtain ⟨m, hm⟩ : ∃ m : Nat, min (la.length : Int) 50 = (m : Int) := ⟨min la.length 50, by omega⟩
  obtain ⟨n, hn⟩ : ∃ n : Nat, min (lb.length : Int) 50 = (n : Int) := ⟨min lb.length 50, by omega⟩
  have hmc : m ≤ ca := by omega
  have hnc : n ≤ cb := by omega
  obtain ⟨x, hx, hx0, hxr⟩ : ∃ x : List UInt8, x.length = m ∧ x.length ≤ 50 ∧ Reads w w.heap.size 1 A x.length (x.map u8V) := ⟨la.take m, by simp; omega, by simp; omega, ha.cut m⟩
  obtain ⟨y, hy, hy0, hyr⟩ : ∃ y : List UInt8, y.length = n ∧ y.length ≤ 50 ∧ Reads w w.heap.size 1 B y.length (y.map u8V) := ⟨lb.take n, by simp; omega, by simp; omega, hb.cut n⟩
  have HXR := hide hxr
  have HYR := hide hyr
  subst hx; subst hy
  have HX0 := hide hx0
  have HY0 := hide hy0
  clear ha hb hca hcb hxr hyr hx0 hy0
  go_enter Try.func6, Try.ntmps6
  go_wp2_with fail
  refine (dk_shown w).mono ?_
  rintro e w1 ⟨rfl, hb1⟩
  have HB1 := hide hb1
  clear hb1
  go_wp2_with fail
  obtain ⟨w2, hw2⟩ : ∃ w2, w1.alloc (.cells #[.string ⟨#[]⟩, .string ⟨#[]⟩] 41) = w2 := ⟨_, rfl⟩
  have hrb : Hid (w.heap.size ≤ w1.heap.size) := HB1.out.size
  have hrel0 : Hid (BkRel w w1.heap.size (BkText x y keep) 0 w2) := by
    rw [← hw2]
    exact ⟨HB1.out.alloc hrb.out _, hrb.out, Blk.new _ _ _⟩
  try rw [hw2]
  generalize w1.heap.size = rb at *
  clear hw2 HB1
  go_loopw [9] (fun i wr => ∃ k : Nat, i = .int .i64 k ∧ k ≤ 2 ∧ Hid (BkRel w rb (BkText x y keep) k wr)) (fun i _ => 2 - (intOf i).toNat)
  case atStart => exact ⟨0, rfl, by omega, hrel0⟩
  case round =>
    obtain ⟨k, rfl, hk, hR⟩ := hrel
    have hk3 : k = 0 ∨ k = 1 ∨ k = 2 := by omega
    have HRB := hR.out.1
    have hT : ∀ j, (fun j => j = rb) j → j < wr.heap.size := fun j hj => by
      have hj : j = rb := hj
      subst hj
      exact hR.out.2.2.lt
    rcases hk3 with rfl | rfl | rfl
    · go_wp2_with fail
      refine (dkb_new w wr (fun j => j = rb) 1000 hT HRB).mono ?_
      rintro e u1 ⟨b, rfl, h1, t1⟩
      replace h1 : DkB w u1 (fun j => j = rb) b (bk []) := h1
      have f1 : DFit (bk []) 0 0 := DFit.new 1000 (by decide)
      go_wp2_with fail
      have T1 : ∀ j, j = rb → j < u1.heap.size := fun j hj => Nat.lt_of_lt_of_le (hT j hj) t1.size
      have k1 := h1.append_ T1 f1 [102] (by decide) A ca x ((HXR.out.below h1.below).upto h1.below.size) (by decide) (by have := HX0.out; omega)
      rw [bk_e1 HX0.out, bk_a1 HX0.out] at k1
      have f2 := f1.append [102] x
      rw [bk_a1 HX0.out] at f2
      refine k1.mono ?_
      rintro e u2 ⟨rfl, h2, t2⟩
      clear k1 h1 f1
      go_wp2_with fail
      have T2 : ∀ j, j = rb → j < u2.heap.size := fun j hj => Nat.lt_of_lt_of_le (T1 j hj) t2.size
      have k2 := h2.sync_ T2 f2 [102] (by decide)
      rw [bk_e2, bk_a2] at k2
      have f3 := f2.sync [102]
      rw [bk_a2] at f3
      refine k2.mono ?_
      rintro e u3 ⟨rfl, h3, t3⟩
      clear k2 h2 f2 T1
      go_wp2_with fail
      have T3 : ∀ j, j = rb → j < u3.heap.size := fun j hj => Nat.lt_of_lt_of_le (T2 j hj) t3.size
      have k3 := h3.append_ T3 f3 [102] (by decide) B cb y ((HYR.out.below h3.below).upto h3.below.size) (by decide) (by have := HX0.out; have := HY0.out; omega)
      rw [bk_e3 HX0.out HY0.out, bk_a3 HX0.out HY0.out] at k3
      have f4 := f3.append [102] y
      rw [bk_a3 HX0.out HY0.out] at f4
      refine k3.mono ?_
      rintro e u4 ⟨rfl, h4, t4⟩
      clear k3 h3 f3 T2
      have T4 : ∀ j, j = rb → j < u4.heap.size := fun j hj => Nat.lt_of_lt_of_le (T3 j hj) t4.size
      have t4' := ((t1.trans t2).trans t3).trans t4
      clear t1 t2 t3 t4 T3
      go_wp2_with fail
      have h6 := h4
      have f6 := f4
      have T6 := T4
      have t6' := t4'
      clear h4 f4 T4 t4'
      have e46 : u4 = u4 := rfl
      obtain ⟨U6, hU6⟩ : ∃ u, u = u4 := ⟨_, rfl⟩
      have g6 : DkB w (u4.alloc (.cells #[.int .i64 keep] 3)) (fun j => j = rb ∨ j = u4.heap.size) b (bk [([102], ⟨x ++ y, x.length⟩)]) := (h6.foot fun j hj => hj.imp id fun e => .inr (by omega)).alloc _
      have k6 := g6.crash_ (fun j hj => by rcases hj with hj | hj; · have := T6 j hj; simp; omega
                                           · simp; omega) f6 [keep] (some ⟨u4.heap.size, 0, none⟩) 1 ((Reads.lit u4 #[.int .i64 keep] 3 (0, 0) _ rfl).upto (by simp)) (by simp [maxLen]) (fun ad e => by injection e with e; subst e; exact ⟨.inr (.inr rfl), rfl⟩) (by decide) (by have := HX0.out; have := HY0.out; omega)
      rw [bk_a6] at k6
      have f7 := f6.crash [keep]
      rw [bk_a6] at f7
      refine k6.mono ?_
      rintro e u7 ⟨rfl, h7, t7⟩
      have t7' : Stay (fun j => j = rb) wr u7 := (t6'.trans (Stay.of_below ((Below.refl _ u4).alloc (Nat.le_refl _) _) T6)).trans (t7.mono fun j hj => .inl hj)
      replace h7 := h7.foot (T' := fun j => j = rb) fun j hj => .inl (.inl hj)
      have T7 : ∀ j, j = rb → j < u7.heap.size := fun j hj => Nat.lt_of_lt_of_le (hT j hj) t7'.size
      clear k6 g6 h6 f6 t6' t7 T6
      go_wp2_with fail
      have f8 : DFit (bk [([102], dCut ⟨x ++ y, x.length⟩ (some keep))]) _ _ := f7.start
      refine (h7.start_ T7).mono ?_
      rintro e u8 ⟨rfl, h8, t8⟩
      replace h8 : DkB w u8 (fun j => j = rb) b (bk [([102], dCut ⟨x ++ y, x.length⟩ (some keep))]) := h8
      have T8 : ∀ j, j = rb → j < u8.heap.size := fun j hj => Nat.lt_of_lt_of_le (T7 j hj) t8.size
      clear h7 f7
      go_wp2_with fail
      have k8 := h8.read_ T8 f8 [102] (by decide) (by have := HX0.out; have := HY0.out; omega)
      rw [bk_e8, bk_a8] at k8
      refine k8.mono ?_
      rintro e u9 ⟨v9, rfl, r9, h9, t9, -⟩
      have T9 : ∀ j, j = rb → j < u9.heap.size := fun j hj => Nat.lt_of_lt_of_le (T8 j hj) t9.size
      obtain ⟨A9, c9, rfl, -⟩ := slice_form r9
      have R9 := hide (Reads.of_own r9)
      clear k8 h8 r9
      go_wp2_with fail
      have k9 := h9.list_ T9 f8 (by decide)
      rw [bk_a9] at k9
      refine k9.mono ?_
      rintro e u10 ⟨v10, rfl, r10, h10, t10, b10⟩
      obtain ⟨A10, c10, rfl, -⟩ := slice_form r10
      have s9 := str_of u10 _ A9 c9 (dCut ⟨x ++ y, x.length⟩ (some keep)).b (by have := R9.out.below b10; simpa using this)
      have tt := ((t7'.trans t8).trans t9).trans t10
      have hb10 : Blk u10 rb 41 _ := hR.out.2.2.keep (tt.block rb rfl)
      have HB10 := hide hb10
      have hfz := hb10.frozen 0
      have hfz1 := hb10.frozen 1
      have hc0 := hb10.cell 0
      have hc1 := hb10.cell 1
      clear k9 h9 r10 R9 hb10
      go_wp2_with fail
      go_roundw
      case rel =>
        refine ⟨1, by go_num, by omega, ?_⟩
        refine ⟨h10.below.setCell (p := ⟨rb, 0, none⟩) hR.out.2.1 _, hR.out.2.1, ?_⟩
        have := HB10.out.set_ 0 (BkText x y keep)
        exact this
      case measure => simp [intOf]
    · go_wp2_with fail
      refine (dkb_new w wr (fun j => j = rb) 1000 hT HRB).mono ?_
      rintro e u1 ⟨b, rfl, h1, t1⟩
      replace h1 : DkB w u1 (fun j => j = rb) b (bk []) := h1
      have f1 : DFit (bk []) 0 0 := DFit.new 1000 (by decide)
      go_wp2_with fail
      have T1 : ∀ j, j = rb → j < u1.heap.size := fun j hj => Nat.lt_of_lt_of_le (hT j hj) t1.size
      have k1 := h1.append_ T1 f1 [102] (by decide) A ca x ((HXR.out.below h1.below).upto h1.below.size) (by decide) (by have := HX0.out; omega)
      rw [bk_e1 HX0.out, bk_a1 HX0.out] at k1
      have f2 := f1.append [102] x
      rw [bk_a1 HX0.out] at f2
      refine k1.mono ?_
      rintro e u2 ⟨rfl, h2, t2⟩
      clear k1 h1 f1
      go_wp2_with fail
      have T2 : ∀ j, j = rb → j < u2.heap.size := fun j hj => Nat.lt_of_lt_of_le (T1 j hj) t2.size
      have k2 := h2.sync_ T2 f2 [102] (by decide)
      rw [bk_e2, bk_a2] at k2
      have f3 := f2.sync [102]
      rw [bk_a2] at f3
      refine k2.mono ?_
      rintro e u3 ⟨rfl, h3, t3⟩
      clear k2 h2 f2 T1
      go_wp2_with fail
      have T3 : ∀ j, j = rb → j < u3.heap.size := fun j hj => Nat.lt_of_lt_of_le (T2 j hj) t3.size
      have k3 := h3.append_ T3 f3 [102] (by decide) B cb y ((HYR.out.below h3.below).upto h3.below.size) (by decide) (by have := HX0.out; have := HY0.out; omega)
      rw [bk_e3 HX0.out HY0.out, bk_a3 HX0.out HY0.out] at k3
      have f4 := f3.append [102] y
      rw [bk_a3 HX0.out HY0.out] at f4
      refine k3.mono ?_
      rintro e u4 ⟨rfl, h4, t4⟩
      clear k3 h3 f3 T2
      have T4 : ∀ j, j = rb → j < u4.heap.size := fun j hj => Nat.lt_of_lt_of_le (T3 j hj) t4.size
      have t4' := ((t1.trans t2).trans t3).trans t4
      clear t1 t2 t3 t4 T3
      go_wp2_with fail
      have k4 := h4.rename_ T4 f4 [102] [103] (by decide) (by decide) (by decide)
      rw [bk_e4, bk_a4] at k4
      have f5 := f4.rename [102] [103]
      rw [bk_a4] at f5
      refine k4.mono ?_
      rintro e u5 ⟨rfl, h5, t5⟩
      clear k4 h4 f4
      go_wp2_with fail
      have T5 : ∀ j, j = rb → j < u5.heap.size := fun j hj => Nat.lt_of_lt_of_le (T4 j hj) t5.size
      have k5 := h5.rename_ T5 f5 [103] [102] (by decide) (by decide) (by decide)
      rw [bk_e5, bk_a5] at k5
      have f6 := f5.rename [103] [102]
      rw [bk_a5] at f6
      refine k5.mono ?_
      rintro e u6 ⟨rfl, h6, t6⟩
      clear k5 h5 f5
      have T6 : ∀ j, j = rb → j < u6.heap.size := fun j hj => Nat.lt_of_lt_of_le (T5 j hj) t6.size
      have t6' := (t4'.trans t5).trans t6
      clear t4' t5 t6 T4 T5
      go_wp2_with fail
      obtain ⟨U6, hU6⟩ : ∃ u, u = u6 := ⟨_, rfl⟩
      have g6 : DkB w (u6.alloc (.cells #[.int .i64 keep] 3)) (fun j => j = rb ∨ j = u6.heap.size) b (bk [([102], ⟨x ++ y, x.length⟩)]) := (h6.foot fun j hj => hj.imp id fun e => .inr (by omega)).alloc _
      have k6 := g6.crash_ (fun j hj => by rcases hj with hj | hj; · have := T6 j hj; simp; omega
                                           · simp; omega) f6 [keep] (some ⟨u6.heap.size, 0, none⟩) 1 ((Reads.lit u6 #[.int .i64 keep] 3 (0, 0) _ rfl).upto (by simp)) (by simp [maxLen]) (fun ad e => by injection e with e; subst e; exact ⟨.inr (.inr rfl), rfl⟩) (by decide) (by have := HX0.out; have := HY0.out; omega)
      rw [bk_a6] at k6
      have f7 := f6.crash [keep]
      rw [bk_a6] at f7
      refine k6.mono ?_
      rintro e u7 ⟨rfl, h7, t7⟩
      have t7' : Stay (fun j => j = rb) wr u7 := (t6'.trans (Stay.of_below ((Below.refl _ u6).alloc (Nat.le_refl _) _) T6)).trans (t7.mono fun j hj => .inl hj)
      replace h7 := h7.foot (T' := fun j => j = rb) fun j hj => .inl (.inl hj)
      have T7 : ∀ j, j = rb → j < u7.heap.size := fun j hj => Nat.lt_of_lt_of_le (hT j hj) t7'.size
      clear k6 g6 h6 f6 t6' t7 T6
      go_wp2_with fail
      have f8 : DFit (bk [([102], dCut ⟨x ++ y, x.length⟩ (some keep))]) _ _ := f7.start
      refine (h7.start_ T7).mono ?_
      rintro e u8 ⟨rfl, h8, t8⟩
      replace h8 : DkB w u8 (fun j => j = rb) b (bk [([102], dCut ⟨x ++ y, x.length⟩ (some keep))]) := h8
      have T8 : ∀ j, j = rb → j < u8.heap.size := fun j hj => Nat.lt_of_lt_of_le (T7 j hj) t8.size
      clear h7 f7
      go_wp2_with fail
      have k8 := h8.read_ T8 f8 [102] (by decide) (by have := HX0.out; have := HY0.out; omega)
      rw [bk_e8, bk_a8] at k8
      refine k8.mono ?_
      rintro e u9 ⟨v9, rfl, r9, h9, t9, -⟩
      have T9 : ∀ j, j = rb → j < u9.heap.size := fun j hj => Nat.lt_of_lt_of_le (T8 j hj) t9.size
      obtain ⟨A9, c9, rfl, -⟩ := slice_form r9
      have R9 := hide (Reads.of_own r9)
      clear k8 h8 r9
      go_wp2_with fail
      have k9 := h9.list_ T9 f8 (by decide)
      rw [bk_a9] at k9
      refine k9.mono ?_
      rintro e u10 ⟨v10, rfl, r10, h10, t10, b10⟩
      obtain ⟨A10, c10, rfl, -⟩ := slice_form r10
      have s9 := str_of u10 _ A9 c9 (dCut ⟨x ++ y, x.length⟩ (some keep)).b (by have := R9.out.below b10; simpa using this)
      have tt := ((t7'.trans t8).trans t9).trans t10
      have hb10 : Blk u10 rb 41 _ := hR.out.2.2.keep (tt.block rb rfl)
      have HB10 := hide hb10
      have hfz := hb10.frozen 0
      have hfz1 := hb10.frozen 1
      have hc0 := hb10.cell 0
      have hc1 := hb10.cell 1
      clear k9 h9 r10 R9 hb10
      go_wp2_with fail
      go_roundw
      case rel =>
        refine ⟨2, by go_num, by omega, ?_⟩
        refine ⟨h10.below.setCell (p := ⟨rb, 1, none⟩) hR.out.2.1 _, hR.out.2.1, ?_⟩
        have := HB10.out.set_ 1 (BkText x y keep)
        exact this
      case measure => simp [intOf]
    · have hc0 : wr.cell? ⟨rb, 0, none⟩ = some (BkText x y keep) := hR.out.2.2.cell 0
      have hc1 : wr.cell? ⟨rb, 1, none⟩ = some (BkText x y keep) := hR.out.2.2.cell 1
      unfold BkText at hc0 hc1
      go_wp2_with fail
      go_ret
      exact ⟨rfl, HRB⟩

open Go.ChangeShapes Go.WideShapes Go.ChangeAt in
open Go.ChangeMaps (open_string) in
set_option maxRecDepth 100000 in
theorem diskBack_lifted (os : Os) (started : os.Started) (H : Type) (enc : TypeId × Value → H) :
    ReturnsInHanded {} Try.checked os 6 .any (Rows.diskBackSpec.pre6 enc Try.prog Try.f6 Rows.diskBackRow.domain false) (Rows.diskBackSpec.post enc Try.prog Try.f6 false true false false) := by
  refine returnsInHanded_of_change (C := Try.checked) own started (by kernel_rfl) Try.func6
    (ChangeSpec.witness6 (enc := enc) (C := Try.checked) false ⟨#[], #[.slice none 0 0, .slice none 0 0, .int .i64 0], []⟩ 8 (by kernel_rfl) (by kernel_rfl) (by kernel_rfl) (by kernel_rfl)) ?_
  intro W base args ds gs before hval0 hW _ _
  have hval : ∀ (j : Nat) t v, Try.f6.params[j]? = some t → args[j]? = some v → Value.okWide Try.prog W .any base t v := hval0
  have hW' := hW
  obtain ⟨p, q, hA0, hV, rfl, hfz, hnd⟩ := hW
  have hA : DataW.TrodAll enc Try.prog W 0 (fun _ => true) true Try.f6.params.toList args.toList ds p := hA0
  rw [Try.params6] at hA hval
  obtain ⟨v0, vs0, d0, ds0, p0, q0, hargs, rfl, rfl, h0, r0⟩ := trodAll_cons hA
  obtain ⟨v1, vs1, d1, ds1, p1, q1, rfl, rfl, rfl, h1, r1⟩ := trodAll_cons r0
  obtain ⟨v2, vs2, d2, ds2, p2, q2, rfl, rfl, rfl, h2, r2⟩ := trodAll_cons r1
  obtain ⟨rfl, rfl, rfl⟩ := trodAll_nil r2
  obtain rfl : args = #[v0, v1, v2] := by cases args; simp_all
  obtain ⟨rfl, rfl⟩ := trodVars_none hV
  obtain ⟨A, la, ca, rfl, ha, hca, -⟩ := bytes_of (hval 0 _ v0 rfl rfl) h0
  obtain ⟨B, lb, cb, rfl, hb2, hcb, -⟩ := bytes_of (hval 1 _ v1 rfl rfl) h1
  obtain ⟨a2, rfl, -, -, w2⟩ := open_int Try.underlying3 (hval 2 _ v2 rfl rfl) h2
  have b2 := bounds_i64 w2
  refine (back_walk A B la lb ca cb a2 W ha hb2 hca hcb).mono fun e W' ⟨he, hb⟩ => ?_
  subst he
  exact ⟨_, rfl, law_post (tb := 4) laidOut (params_ok _ (by kernel_rfl)) rfl rfl Try.underlying4 hW' rfl hb⟩

theorem diskBack_over : Rows.diskBackRow.holds Try.pinned (OpenSpec.ofChange Rows.diskBackSpec) :=
  OpenClaim.holds_of_wide 6 Try.f6 rfl rfl rfl rfl rfl rfl rfl ⟨rfl, rfl, rfl, rfl, rfl⟩ rfl rfl rfl rfl rfl (by kernel_rfl) Try.func6 (by kernel_rfl)
    (of_decide_eq_true (by kernel_rfl)) (by unfold Func.isWrapper; first | (rw [if_pos (by decide +kernel)]; kernel_rfl) | (rw [if_neg (by decide +kernel)]; exact ⟨rfl, rfl⟩))
    (fun os started H enc _ => diskBack_lifted os started H enc)

theorem diskBack_holds : Rows.DiskBackSaid := diskBack_over
end Go.Proofs.Ytbkenickmiapdaa
