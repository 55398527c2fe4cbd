/- DERIVED. 'tidemarklaw03.DiskNames' returns true at every input. -/
import Derived.Test.YtbkenickmiapdaaDke
import Derived.Test.YtbkenickmiapdaaDop
import Derived.Deep.RegionHeld3
namespace Go.Proofs.Ytbkenickmiapdaa
set_option linter.unusedVariables false
set_option linter.unusedSimpArgs false
open Go.RowKit

abbrev nm (l : List (Nm × DF)) : DS := ⟨1000, l, false⟩
section
variable {f t : Nm} {x y : List UInt8} {F : DF} {l : List (Nm × DF)}
theorem nm_e (h : dUsed l + x.length ≤ 1000) : dAppendE (nm l) f x = if nmBad f then 1 else 0 := by
  unfold dAppendE dMay
  cases hb : nmBad f with
  | true => simp
  | false => simp; omega
theorem nm_a (h : dUsed l + x.length ≤ 1000) (hf : nmBad f = false) : dAppend (nm l) f x = nm (fPut f ⟨(dOld f l).b ++ x, (dOld f l).s⟩ l) := by
  unfold dAppend
  rw [nm_e h, hf]
  rfl
theorem nm_bad (h : dUsed l + x.length ≤ 1000) (hf : nmBad f = true) : dAppend (nm l) f x = nm l := by
  unfold dAppend
  rw [nm_e h, hf]
  rfl
/-- What stands ahead of the renaming. -/
structure NmMid (f t : Nm) (want : List UInt8) (n : Nat) (d : DS) : Prop where
  len : (dList d).length = n
  may : dMay d true f t = 0
  ren : dRename d f t = nm [(t, ⟨want, 0⟩)]
theorem nm_same (ht : nmBad t = false) : NmMid t t (x ++ y) 1 (nm (fPut t ⟨(dOld t [(t, ⟨x, 0⟩)]).b ++ y, (dOld t [(t, ⟨x, 0⟩)]).s⟩ [(t, ⟨x, 0⟩)])) := by
  have e : (fPut t (⟨(dOld t [(t, ⟨x, 0⟩)]).b ++ y, (dOld t [(t, ⟨x, 0⟩)]).s⟩ : DF) [(t, ⟨x, 0⟩)] : List (Nm × DF)) = [(t, ⟨x ++ y, 0⟩)] := by simp [fPut, fDel, fIns, dOld, fGet]
  rw [e]
  have hm : dMay (nm [(t, ⟨x ++ y, 0⟩)]) true t t = 0 := by simp [dMay, ht, fGet]
  exact ⟨rfl, hm, by unfold dRename; rw [if_pos hm, if_pos rfl]⟩
theorem nm_other (hf : nmBad f = false) (ht : nmBad t = false) (hne : f ≠ t) : NmMid f t x 2 (nm (fPut t ⟨(dOld t [(f, ⟨x, 0⟩)]).b ++ y, (dOld t [(f, ⟨x, 0⟩)]).s⟩ [(f, ⟨x, 0⟩)])) := by
  have h1 : (f == t) = false := by simpa using hne
  have h2 : (t == f) = false := by simpa using hne.symm
  have e : (fPut t (⟨(dOld t [(f, ⟨x, 0⟩)]).b ++ y, (dOld t [(f, ⟨x, 0⟩)]).s⟩ : DF) [(f, ⟨x, 0⟩)] : List (Nm × DF)) = if bytesBefore t f then [(t, ⟨y, 0⟩), (f, ⟨x, 0⟩)] else [(f, ⟨x, 0⟩), (t, ⟨y, 0⟩)] := by
    simp [fPut, fDel, fIns, dOld, fGet, h1]
  rw [e]
  split
  · rename_i hb
    have hm : dMay (nm [(t, ⟨y, 0⟩), (f, ⟨x, 0⟩)]) true f t = 0 := by simp [dMay, hf, ht, fGet]
    refine ⟨rfl, hm, ?_⟩
    unfold dRename
    rw [if_pos hm, if_neg hne]
    simp [fPut, fDel, fIns, dOld, fGet, h1, h2, hb]
  · rename_i hb
    have hm : dMay (nm [(f, ⟨x, 0⟩), (t, ⟨y, 0⟩)]) true f t = 0 := by simp [dMay, hf, ht, fGet]
    refine ⟨rfl, hm, ?_⟩
    unfold dRename
    rw [if_pos hm, if_neg hne]
    simp [fPut, fDel, fIns, dOld, fGet, h1, h2, hb]
theorem nm_r (ht : nmBad t = false) : dReadB (nm [(t, F)]) t = F.b ∧ dMay (nm [(t, F)]) true t t = 0 := by
  have hm : dMay (nm [(t, F)]) true t t = 0 := by simp [dMay, ht, fGet]
  exact ⟨by unfold dReadB; rw [if_pos hm]; simp [dOld, fGet], hm⟩
theorem nm_r2 (hf : nmBad f = false) (hne : f ≠ t) : dMay (nm [(t, F)]) true f f = 6 := by
  have h2 : (t == f) = false := by simpa using hne.symm
  simp [dMay, hf, fGet, h2]
abbrev oth : Nm := [111, 116, 104, 101, 114]
/-- With the file 'other', and then without the first. -/
theorem nm_end (ht : nmBad t = false) (d : DS) (hd : d = nm (fPut oth ⟨(dOld oth [(t, F)]).b ++ [], (dOld oth [(t, F)]).s⟩ [(t, F)])) :
    dMay d true t t = 0 ∧ dDelete d t = (if t = oth then nm [] else nm [(oth, ⟨[], 0⟩)]) := by
  by_cases h : t = oth
  · subst h
    have e : d = nm [(oth, ⟨F.b, F.s⟩)] := by rw [hd]; simp [fPut, fDel, fIns, dOld, fGet]
    rw [e]
    have hm : dMay (nm [(oth, ⟨F.b, F.s⟩)]) true oth oth = 0 := by rfl
    exact ⟨hm, by unfold dDelete; rw [if_pos hm, if_pos rfl]; simp [fDel]⟩
  · have h1 : (oth == t) = false := by simpa using fun e => h e.symm
    have h2 : (t == oth) = false := by simpa using h
    have e : d = nm (if bytesBefore oth t then [(oth, ⟨[], 0⟩), (t, F)] else [(t, F), (oth, ⟨[], 0⟩)]) := by
      rw [hd]; simp [fPut, fDel, fIns, dOld, fGet, h2]
    rw [e, if_neg h]
    split
    · have hm : dMay (nm [(oth, ⟨[], 0⟩), (t, F)]) true t t = 0 := by simp [dMay, ht, fGet]
      exact ⟨hm, by unfold dDelete; rw [if_pos hm]; simp [fDel, h1]⟩
    · have hm : dMay (nm [(t, F), (oth, ⟨[], 0⟩)]) true t t = 0 := by simp [dMay, ht, fGet]
      exact ⟨hm, by unfold dDelete; rw [if_pos hm]; simp [fDel, h1]⟩
end

theorem str_ne {a b : Nm} (h : a ≠ b) : (a == b) = false := by simpa using h
/-- A name is empty, too long, or good. -/
theorem nm_ways (f : Nm) : (f = [] ∧ nmBad f = true) ∨ (((f == []) = false) ∧ 64 < f.length ∧ nmBad f = true) ∨ (((f == []) = false) ∧ ¬ 64 < f.length ∧ nmBad f = false) := by
  by_cases h : f = []
  · exact .inl ⟨h, by simp [h, nmBad]⟩
  · have := str_ne (b := []) h
    by_cases h2 : 64 < f.length
    · exact .inr (.inl ⟨this, h2, by simp [nmBad, h2]⟩)
    · exact .inr (.inr ⟨this, h2, by simp [nmBad, h2, h]⟩)

set_option maxRecDepth 100000 in
set_option maxHeartbeats 2000000 in
theorem names_walk (f t : Nm) (A : Option Addr) (la : List UInt8) (ca : Nat) (B : Option Addr) (lb : List UInt8) (cb : Nat) (w : World) (hf : f.length ≤ maxLen) (ht : t.length ≤ maxLen)
    (ha : (kSl kU8 1).is w ⟨A, la, ca⟩ [(⟨A, la, ca⟩ : Sl UInt8).val]) (hb : (kSl kU8 1).is w ⟨B, lb, cb⟩ [(⟨B, lb, cb⟩ : Sl UInt8).val]) :
    Calls Try.prog 9 #[.string ⟨f.toArray⟩, .string ⟨t.toArray⟩, .slice A la.length ca, .slice B lb.length cb] w fun e w' => e = .returned (.bool true) ∧ Below w.heap.size w w' := by
  obtain ⟨m, hm⟩ : ∃ m : Nat, min (la.length : Int) 100 = (m : Int) := ⟨min la.length 100, by omega⟩
  obtain ⟨n, hn⟩ : ∃ n : Nat, min (lb.length : Int) 100 = (n : Int) := ⟨min lb.length 100, by omega⟩
  have hmc : m ≤ ca := by have := ha.2.1; simp only at this; omega
  have hnc : n ≤ cb := by have := hb.2.1; simp only at this; omega
  obtain ⟨x, hx, hx0, hxr⟩ : ∃ x : List UInt8, x.length = m ∧ x.length ≤ 100 ∧ Reads w w.heap.size 1 A x.length (x.map u8V) := ⟨la.take m, by simp; omega, by simp; omega, Reads.cut (sl_reads ha fun _ _ h => h) m⟩
  obtain ⟨y, hy, hy0, hyr⟩ : ∃ y : List UInt8, y.length = n ∧ y.length ≤ 100 ∧ Reads w w.heap.size 1 B y.length (y.map u8V) := ⟨lb.take n, by simp; omega, by simp; omega, Reads.cut (sl_reads hb fun _ _ h => h) n⟩
  subst hx; subst hy
  have HX := hide hxr
  have HY := hide hyr
  have HX0 := hide hx0
  have HY0 := hide hy0
  have HF := hide hf
  have HT := hide ht
  have u0 : dUsed ([] : List (Nm × DF)) + x.length ≤ 1000 := by simp [dUsed]; omega
  have U0 := hide u0
  have hfm : f.length ≤ 9223372036854775807 := hf
  have htm : t.length ≤ 9223372036854775807 := ht
  clear ha hb hxr hyr hx0 hy0 hf ht u0
  go_enter Try.func9, Try.ntmps9
  go_wp2_with fail
  refine (dk_shown w).mono ?_
  rintro e w1 ⟨rfl, hb1⟩
  have E : Env w w1 [] := .nil hb1
  clear hb1
  go_wp2_with fail
  refine (E.dk_new 1000 (by decide)).mono ?_
  rintro e w2 ⟨b, rfl, E⟩
  replace E : Env w w2 (dkO b (nm []) 0 0 :: []) := E
  go_wp2_with fail
  have k1 := E.dk_append f HF.out A ca x (E.arg HX.out) (by decide) (by have := HX0.out; omega)
  rw [nm_e U0.out] at k1
  by_cases hgood : nmBad f = false ∧ nmBad t = false
  · obtain ⟨gf, gt⟩ := hgood
    rw [nm_a U0.out gf, gf] at k1
    refine k1.mono ?_
    rintro e w3 ⟨rfl, E3⟩
    replace E3 : Env w w3 [dkO b (nm [(f, ⟨x, 0⟩)]) (0 + 1) (0 + x.length)] := E3
    clear k1
    have u1 : dUsed [(f, (⟨x, 0⟩ : DF))] + y.length ≤ 1000 := by have := HX0.out; have := HY0.out; simp [dUsed]; omega
    go_wp2_with fail
    have k1 := E3.dk_append t HT.out B cb y (E3.arg HY.out) (by decide) (by have := HX0.out; have := HY0.out; omega)
    rw [nm_e u1, nm_a u1 gt, gt] at k1
    refine k1.mono ?_
    rintro e w4 ⟨rfl, E4⟩
    clear k1
    replace E4 := E4.dk_mono (N' := 2) (U' := 200) (by decide) (by have := HX0.out; have := HY0.out; omega)
    have GF := hide gf
    have GT := hide gt
    clear gf gt u1
    have sx := str_of w4 _ A ca x (E4.arg HX.out)
    have sy := str_of w4 _ B cb y (E4.arg HY.out)
    obtain ⟨z, hz⟩ : ∃ z, x ++ y = z := ⟨_, rfl⟩
    have hcat : (⟨x.toArray⟩ : ByteArray) ++ ⟨y.toArray⟩ = ⟨z.toArray⟩ := by
      subst hz
      apply ByteArray.ext
      simp
    have HZ2 : Hid (z.length ≤ 200) := by rw [← hz, List.length_append]; have := HX0.out; have := HY0.out; exact hide (by omega)
    have HX2 : Hid (x.length ≤ 200) := by have := HX0.out; exact hide (by omega)
    have HZ := hide hz
    clear hz
    obtain ⟨p, hp⟩ : ∃ p, (f == t) = p := ⟨_, rfl⟩
    go_upto_if 84 with (fail)
    have HP := hide hp
    clear hp
    go_cut [14, 15] (fun s14 s15 wr => ∃ (want : List UInt8) (n : Nat) (d : DS), s14 = .string ⟨want.toArray⟩ ∧ s15 = .int .i64 n ∧ Hid (want.length ≤ 200) ∧ Hid (NmMid f t want n d) ∧ Env w wr [dkO b d 2 200])
    case first =>
      cases p with
      | true =>
        have hft : f = t := by simpa using HP.out
        go_wp2_with fail
        go_meet
        case rel => exact ⟨z, 1, _, rfl, rfl, HZ2, by rw [← HZ.out, hft]; exact nm_same GT.out, E4⟩
      | false =>
        have hft : f ≠ t := by simpa using HP.out
        go_wp2_with fail
        go_meet
        case rel => exact ⟨x, 2, _, rfl, rfl, HX2, nm_other GF.out GT.out hft, E4⟩
    case rest =>
      clear sx sy hcat E4 E3 E
      obtain ⟨want, n, d, rfl, rfl, HW, HD, E⟩ := hcut
      go_wp2_with fail
      have k1 := E.dk_list (by decide)
      rw [HD.out.len] at k1
      refine k1.mono ?_
      rintro e w5 ⟨A5, c5, rfl, E5⟩
      clear k1 E
      go_wp2_with fail
      have k1 := E5.drop.dk_rename f t HF.out HT.out (by decide)
      rw [HD.out.may, HD.out.ren] at k1
      refine k1.mono ?_
      rintro e w6 ⟨rfl, E6⟩
      clear k1 E5
      go_wp2_with fail
      have hr := nm_r (F := ⟨want, 0⟩) GT.out
      have k1 := E6.dk_read t HT.out (by decide)
      rw [hr.1, hr.2] at k1
      clear hr
      refine k1.mono ?_
      rintro e w7 ⟨A7, c7, rfl, E7⟩
      clear k1 E6
      go_wp2_with fail
      obtain ⟨e2, he2, hpe⟩ : ∃ (e2 : Int), dMay (nm [(t, ⟨want, 0⟩)]) true f f = e2 ∧ ((p = true ∧ e2 = 0) ∨ (p = false ∧ e2 = 6)) := by
        cases p with
        | true =>
          have hft : f = t := by simpa using HP.out
          exact ⟨_, by rw [hft]; exact (nm_r GT.out).2, .inl ⟨rfl, rfl⟩⟩
        | false =>
          have hft : f ≠ t := by simpa using HP.out
          exact ⟨_, nm_r2 GF.out hft, .inr ⟨rfl, rfl⟩⟩
      have hp := HP.out
      have k1 := E7.swap.dk_read f HF.out (by decide)
      rw [he2] at k1
      clear he2
      refine k1.mono ?_
      rintro e w8 ⟨A8, c8, rfl, E8⟩
      clear k1 E7
      replace E8 : Env w w8 [rowO 5 1 (.slice A7 want.length c7) (want.map u8V), dkO b (nm [(t, ⟨want, 0⟩)]) 3 200] := E8.drop.swap
      have s8 := E8.str
      replace E8 := E8.swap
      rcases hpe with ⟨rfl, rfl⟩ | ⟨rfl, rfl⟩
      all_goals
        go_wp2_with fail
        refine (E8.dk_list (by decide)).mono ?_
        rintro e w9 ⟨A9, c9, rfl, E9⟩
        replace E9 : Env w w9 [dkO b (nm [(t, ⟨want, 0⟩)]) 3 200] := E9.drop.swap.drop
        clear s8 E8 hp
        go_wp2_with fail
        have u3 : dUsed [(t, (⟨want, 0⟩ : DF))] + ([] : List UInt8).length ≤ 1000 := by have : want.length ≤ 200 := HW.out; simp [dUsed]; omega
        have k1 := E9.dk_append oth (by decide) none 0 [] Reads.none_ (by decide) (by decide)
        rw [nm_e u3, nm_a u3 (by rfl), show nmBad oth = false from rfl] at k1
        obtain ⟨d4, hd4⟩ : ∃ d4, d4 = nm (fPut oth ⟨(dOld oth [(t, ⟨want, 0⟩)]).b ++ [], (dOld oth [(t, ⟨want, 0⟩)]).s⟩ [(t, ⟨want, 0⟩)]) := ⟨_, rfl⟩
        rw [← hd4] at k1
        obtain ⟨he, hdel⟩ := nm_end GT.out d4 hd4
        clear hd4 u3
        refine k1.mono ?_
        rintro e w10 ⟨rfl, E10⟩
        clear k1 E9
        go_wp2_with fail
        have k1 := E10.dk_delete t HT.out
        rw [he, hdel] at k1
        clear he hdel
        refine k1.mono ?_
        rintro e w11 ⟨rfl, E11⟩
        clear k1 E10
        by_cases hto : t = oth
        · rw [if_pos hto] at E11
          subst hto
          go_wp2_with fail
          have k1 := E11.dk_read oth (by decide) (by decide)
          rw [show dMay (nm []) true oth oth = 6 from rfl] at k1
          refine k1.mono ?_
          rintro e w12 ⟨A12, c12, rfl, E12⟩
          clear k1 E11
          go_wp2_with fail
          refine (E12.drop.dk_list (by decide)).mono ?_
          rintro e w13 ⟨A13, c13, rfl, E13⟩
          clear E12
          go_wp2_with fail
          have k1 := E13.drop.dk_delete oth (by decide)
          rw [show dMay (nm []) true oth oth = 6 from rfl] at k1
          refine k1.mono ?_
          rintro e w14 ⟨rfl, E14⟩
          clear k1 E13
          go_wp2_with fail
          go_ret
          exact ⟨rfl, E14.below⟩
        · rw [if_neg hto] at E11
          have hte := str_ne hto
          have h6 := nm_r2 (F := ⟨[], 0⟩) GT.out hto
          go_wp2_with fail
          have k1 := E11.dk_read t HT.out (by decide)
          rw [h6] at k1
          refine k1.mono ?_
          rintro e w12 ⟨A12, c12, rfl, E12⟩
          clear k1 E11
          go_wp2_with fail
          have k1 := E12.drop.dk_list (by decide)
          rw [show dList (nm [(oth, ⟨[], 0⟩)]) = [oth] from rfl] at k1
          refine k1.mono ?_
          rintro e w13 ⟨A13, c13, rfl, E13⟩
          clear E12 k1
          go_wp2_with fail
          have k1 := E13.swap.dk_delete t HT.out
          rw [h6] at k1
          refine k1.mono ?_
          rintro e w14 ⟨rfl, E14⟩
          clear k1 E13
          obtain ⟨g, hA, hcell⟩ := E14.swap.row_cell (by decide)
          subst hA
          have hc0 : w14.cell? ⟨g, 0, none⟩ = some (.string ⟨#[111, 116, 104, 101, 114]⟩) := hcell 0 _ rfl
          clear hcell
          go_wp2_with fail
          go_ret
          exact ⟨rfl, E14.below⟩
  · have u1 : ∀ F : DF, F = ⟨x, 0⟩ → dUsed [(f, F)] + y.length ≤ 1000 := fun F h => by subst h; have := HX0.out; have := HY0.out; simp [dUsed]; omega
    have u2 : dUsed ([] : List (Nm × DF)) + y.length ≤ 1000 := by have := HY0.out; simp [dUsed]; omega
    rcases nm_ways f with ⟨rfl, gf⟩ | ⟨f1, f2, gf⟩ | ⟨f1, f2, gf⟩
    all_goals rcases nm_ways t with ⟨rfl, gt⟩ | ⟨t1, t2, gt⟩ | ⟨t1, t2, gt⟩
    all_goals try exact absurd (And.intro gf gt) hgood
    all_goals clear hgood
    all_goals (try have f2' : decide (64 < (f.length : Int)) = true := by simpa using f2); (try have f2' : decide (64 < (f.length : Int)) = false := by simpa using f2); (try have t2' : decide (64 < (t.length : Int)) = true := by simpa using t2); (try have t2' : decide (64 < (t.length : Int)) = false := by simpa using t2)
    all_goals first
      | rw [nm_bad U0.out gf, gf] at k1
        refine k1.mono ?_
        rintro e w3 ⟨rfl, E3⟩
        clear k1
        go_wp2_with fail
        have k1 := E3.dk_append _ HT.out B cb y (E3.arg HY.out) (by decide) (by have := HX0.out; have := HY0.out; omega)
        rw [nm_e u2, gt] at k1
        refine k1.mono ?_
        rintro e w4 ⟨rfl, E4⟩
        clear k1
        go_wp2_with fail
        go_ret
        refine ⟨?_, E4.below⟩
        first | rfl | (simp; omega) | simp [*]
      | rw [nm_a U0.out gf, gf] at k1
        refine k1.mono ?_
        rintro e w3 ⟨rfl, E3⟩
        replace E3 : Env w w3 [dkO b (nm [(f, ⟨x, 0⟩)]) (0 + 1) (0 + x.length)] := E3
        clear k1
        go_wp2_with fail
        have k1 := E3.dk_append _ HT.out B cb y (E3.arg HY.out) (by decide) (by have := HX0.out; have := HY0.out; omega)
        rw [nm_e (u1 _ rfl), gt] at k1
        refine k1.mono ?_
        rintro e w4 ⟨rfl, E4⟩
        clear k1
        go_wp2_with fail
        go_ret
        refine ⟨?_, E4.below⟩
        first | rfl | (simp; omega) | simp [*]
-- ROW DiskNames|tidemark/tidemarklaw03|names_walk a0.data.toList a1.data.toList A2 l2 c2 A3 l3 c3 W (by simpa using w0) (by simpa using w1) hs2 hs3|string string;string string;sl []uint8 opU8s;sl []uint8 opU8s
-- ROWPART
open Go.ChangeShapes Go.WideShapes Go.ChangeAt in
open Go.ChangeMaps (open_string) in
set_option maxRecDepth 100000 in
theorem diskNames_lifted (os : Os) (started : os.Started) (H : Type) (enc : TypeId × Value → H) :
    ReturnsInHanded {} Try.checked os 9 .any (Rows.diskNamesSpec.pre6 enc Try.prog Try.f9 Rows.diskNamesRow.domain false) (Rows.diskNamesSpec.post enc Try.prog Try.f9 false true false false) := by
  refine returnsInHanded_of_change (C := Try.checked) own started (by kernel_rfl) Try.func9
    (ChangeSpec.witness6 (enc := enc) (C := Try.checked) false ⟨#[], #[.string ByteArray.empty, .string ByteArray.empty, .slice none 0 0, .slice none 0 0], []⟩ 8 (by kernel_rfl) (by kernel_rfl) (by kernel_rfl) (by kernel_rfl)) ?_
  intro W base args ds gs before hval0 hW _ _
  have hval : ∀ (j : Nat) t v, Try.f9.params[j]? = some t → args[j]? = some v → Value.okWide Try.prog W .any base t v := hval0
  have hW' := hW
  obtain ⟨p, q, hA0, hV, rfl, hfz, hnd⟩ := hW
  have hA : DataW.TrodAll enc Try.prog W 0 (fun _ => true) true Try.f9.params.toList args.toList ds p := hA0
  rw [Try.params9] at hA hval
  obtain ⟨v0, vs0, d0, ds0, p0, q0, hargs, rfl, rfl, h0, r0⟩ := trodAll_cons hA
  obtain ⟨v1, vs1, d1, ds1, p1, q1, rfl, rfl, rfl, h1, r1⟩ := trodAll_cons r0
  obtain ⟨v2, vs2, d2, ds2, p2, q2, rfl, rfl, rfl, h2, r2⟩ := trodAll_cons r1
  obtain ⟨v3, vs3, d3, ds3, p3, q3, rfl, rfl, rfl, h3, r3⟩ := trodAll_cons r2
  obtain ⟨rfl, rfl, rfl⟩ := trodAll_nil r3
  obtain rfl : args = #[v0, v1, v2, v3] := by cases args; simp_all
  obtain ⟨rfl, rfl⟩ := trodVars_none hV
  obtain ⟨a0, rfl, -, -, w0⟩ := open_string Try.underlying9 (hval 0 _ v0 rfl rfl) h0
  obtain ⟨a1, rfl, -, -, w1⟩ := open_string Try.underlying9 (hval 1 _ v1 rfl rfl) h1
  obtain ⟨⟨A2, l2, c2⟩, rfl, hs2⟩ := sl_of Try.underlying22 opU8s (hval 2 _ v2 rfl rfl) h2
  obtain ⟨⟨A3, l3, c3⟩, rfl, hs3⟩ := sl_of Try.underlying22 opU8s (hval 3 _ v3 rfl rfl) h3
  refine (names_walk a0.data.toList a1.data.toList A2 l2 c2 A3 l3 c3 W (by simpa using w0) (by simpa using w1) hs2 hs3).mono fun e W' ⟨he, hb⟩ => ?_
  subst he
  exact ⟨_, rfl, law_post (tb := 4) laidOut (params_ok _ (by kernel_rfl)) rfl rfl Try.underlying4 hW' rfl hb⟩

theorem diskNames_over : Rows.diskNamesRow.holds Try.pinned (OpenSpec.ofChange Rows.diskNamesSpec) :=
  OpenClaim.holds_of_wide 9 Try.f9 rfl rfl rfl rfl rfl rfl rfl ⟨rfl, rfl, rfl, rfl, rfl⟩ rfl rfl rfl rfl rfl (by kernel_rfl) Try.func9 (by kernel_rfl)
    (of_decide_eq_true (by kernel_rfl)) (by unfold Func.isWrapper; first | (rw [if_pos (by decide +kernel)]; kernel_rfl) | (rw [if_neg (by decide +kernel)]; exact ⟨rfl, rfl⟩))
    (fun os started H enc _ => diskNames_lifted os started H enc)

theorem diskNames_holds : Rows.DiskNamesSaid := diskNames_over
end Go.Proofs.Ytbkenickmiapdaa
