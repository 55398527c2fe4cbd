/- DERIVED. 'tidemarklaw03.DiskKeeps' returns true at every input. -/
import Derived.Test.YtbkenickmiapdaaDke
import Derived.Test.YtbkenickmiapdaaDop
namespace Go.Proofs.Ytbkenickmiapdaa
set_option linter.unusedVariables false
set_option linter.unusedSimpArgs false
open Go.RowKit

abbrev kp (l : List (Nm × DF)) (down : Bool) : DS := ⟨1000, l, down⟩
section
variable {x y : List UInt8} {F : DF}
theorem kp_e1 (h : x.length ≤ 100) : dAppendE (kp [] false) [102] x = 0 := by
  have hm : dMay (kp [] false) false [102] [102] = 0 := by rfl
  unfold dAppendE
  rw [if_pos hm, if_neg]
  simp [dUsed]; omega
theorem kp_a1 (h : x.length ≤ 100) : dAppend (kp [] false) [102] x = kp [([102], ⟨x, 0⟩)] false := by
  unfold dAppend
  rw [if_pos (kp_e1 h)]
  rfl
theorem kp_e2 : dMay (kp [([102], F)] false) true [102] [102] = 0 := by rfl
theorem kp_a2 : dSync (kp [([102], ⟨x, 0⟩)] false) [102] = kp [([102], ⟨x, x.length⟩)] false := by rfl
theorem kp_e3 (h : x.length ≤ 100) (h2 : y.length ≤ 100) : dAppendE (kp [([102], ⟨x, x.length⟩)] false) [102] y = 0 := by
  have hm : dMay (kp [([102], ⟨x, x.length⟩)] false) false [102] [102] = 0 := by rfl
  unfold dAppendE
  rw [if_pos hm, if_neg]
  simp [dUsed]; omega
theorem kp_a3 (h : x.length ≤ 100) (h2 : y.length ≤ 100) : dAppend (kp [([102], ⟨x, x.length⟩)] false) [102] y = kp [([102], ⟨x ++ y, x.length⟩)] false := by
  unfold dAppend
  rw [if_pos (kp_e3 h h2)]
  rfl
theorem kp_c (ks : List Int) : dCrash (kp [([102], F)] false) ks = kp [([102], dCut F ks.head?)] true := by rfl
theorem kp_cd (ks : List Int) : dCrash (kp [([102], F)] true) ks = kp [([102], F)] true := by rfl
theorem kp_r : dReadB (kp [([102], F)] false) [102] = F.b := by rfl

/-- The file behind k crashes: m bytes of z, of which s are synced. -/
structure KpF (z : List UInt8) (n : Nat) (F : DF) (m k : Nat) : Prop where
  b : F.b = z.take m
  lo : n ≤ F.s
  hi : F.s ≤ m
  len : m ≤ z.length
  all : 0 < k → F.s = m
theorem KpF.cut {z : List UInt8} {n m k : Nat} (h : KpF z n F m k) (o : Option Int) : ∃ m', KpF z n (dCut F o) m' (k + 1) ∧ m' ≤ m ∧ n ≤ m' ∧ (0 < k → m' = m) := by
  have hb : F.b.length = m := by rw [h.b, List.length_take]; have := h.len; omega
  have h1 : dKeep F o ≤ m := by rw [← hb]; exact dKeep_le (by rw [hb]; exact h.hi) o
  have h2 : F.s ≤ dKeep F o := Nat.le_add_right _ _
  have := h.lo; have := h.hi; have := h.len
  refine ⟨dKeep F o, ⟨?_, by simp only [dCut]; omega, Nat.le_refl _, by omega, fun _ => rfl⟩, h1, by omega, fun hk => ?_⟩
  · show F.b.take _ = _
    rw [h.b, List.take_take, Nat.min_eq_left h1]
  · have := h.all hk
    omega
end

set_option maxRecDepth 100000 in
set_option maxHeartbeats 2000000 in
theorem keeps_walk (A : Option Addr) (la : List UInt8) (ca : Nat) (B : Option Addr) (lb : List UInt8) (cb : Nat) (K : Option Addr) (lk : List Int) (ck : Nat) (G : Option Addr) (lg : List (Sl Int)) (cg : Nat) (w : World)
    (ha : (kSl kU8 1).is w ⟨A, la, ca⟩ [(⟨A, la, ca⟩ : Sl UInt8).val]) (hb : (kSl kU8 1).is w ⟨B, lb, cb⟩ [(⟨B, lb, cb⟩ : Sl UInt8).val]) (hk : (kSl (kInt .i64) 1).is w ⟨K, lk, ck⟩ [(⟨K, lk, ck⟩ : Sl Int).val]) (hg : (kSl (kSl (kInt .i64) 1) 1).is w ⟨G, lg, cg⟩ [(⟨G, lg, cg⟩ : Sl (Sl Int)).val]) :
    Calls Try.prog 3 #[.slice A la.length ca, .slice B lb.length cb, .slice K lk.length ck, .slice G lg.length cg] w fun e w' => e = .returned (.bool true) ∧ Below w.heap.size w w' := by
  obtain ⟨m, hm⟩ : ∃ m : Nat, min (la.length : Int) 100 = (m : Int) := ⟨min la.length 100, by omega⟩
  obtain ⟨n, hn⟩ : ∃ n : Nat, min (lb.length : Int) 100 = (n : Int) := ⟨min lb.length 100, by omega⟩
  have hmc : m ≤ ca := by have := ha.2.1; simp only at this; omega
  have hnc : n ≤ cb := by have := hb.2.1; simp only at this; omega
  obtain ⟨x, hx, hx0, hxr⟩ : ∃ x : List UInt8, x.length = m ∧ x.length ≤ 100 ∧ Reads w w.heap.size 1 A x.length (x.map u8V) := ⟨la.take m, by simp; omega, by simp; omega, Reads.cut (sl_reads ha fun _ _ h => h) m⟩
  obtain ⟨y, hy, hy0, hyr⟩ : ∃ y : List UInt8, y.length = n ∧ y.length ≤ 100 ∧ Reads w w.heap.size 1 B y.length (y.map u8V) := ⟨lb.take n, by simp; omega, by simp; omega, Reads.cut (sl_reads hb fun _ _ h => h) n⟩
  subst hx; subst hy
  have HX := hide hxr
  have HY := hide hyr
  have HX0 := hide hx0
  have HY0 := hide hy0
  have HK := hide hk
  have HG := hide hg
  have hgl : lg.length ≤ 9223372036854775807 := by have := hg.2.1; have := hg.2.2.1; simp only [maxLen] at *; omega
  clear ha hb hk hg hxr hyr hx0 hy0
  go_enter Try.func3, Try.ntmps3
  go_wp2_with fail
  refine (dk_shown w).mono ?_
  rintro e w1 ⟨rfl, hb1⟩
  have E : Env w w1 [] := .nil hb1
  clear hb1
  go_wp2_with fail
  refine (E.dk_new 1000 (by decide)).mono ?_
  rintro e w2 ⟨b, rfl, E⟩
  replace E : Env w w2 (dkO b (kp [] false) 0 0 :: []) := E
  go_wp2_with fail
  have k1 := E.dk_append [102] (by decide) A ca x (E.arg HX.out) (by decide) (by have := HX0.out; omega)
  rw [kp_e1 HX0.out, kp_a1 HX0.out] at k1
  refine k1.mono ?_
  rintro e w3 ⟨rfl, E⟩
  clear k1
  go_wp2_with fail
  have k1 := E.dk_sync [102] (by decide)
  rw [kp_e2, kp_a2] at k1
  refine k1.mono ?_
  rintro e w4 ⟨rfl, E⟩
  clear k1
  go_wp2_with fail
  have k1 := E.dk_append [102] (by decide) B cb y (E.arg HY.out) (by decide) (by have := HX0.out; have := HY0.out; omega)
  rw [kp_e3 HX0.out HY0.out, kp_a3 HX0.out HY0.out] at k1
  refine k1.mono ?_
  rintro e w5 ⟨rfl, E⟩
  clear k1
  replace E := E.dk_mono (N' := 2) (U' := 200) (by decide) (by have := HX0.out; have := HY0.out; omega)
  have sx := str_of w5 _ A ca x (E.arg HX.out)
  have sy := str_of w5 _ B cb y (E.arg HY.out)
  obtain ⟨z, hz⟩ : ∃ z, x ++ y = z := ⟨_, rfl⟩
  have hcat : (⟨x.toArray⟩ : ByteArray) ++ ⟨y.toArray⟩ = ⟨z.toArray⟩ := by
    subst hz
    apply ByteArray.ext
    simp
  have hzl : z.length ≤ 200 := by rw [← hz, List.length_append]; have := HX0.out; have := HY0.out; omega
  rw [hz] at E
  have F0 : Hid (KpF z x.length ⟨z, x.length⟩ z.length 0) := ⟨by simp, Nat.le_refl _, by rw [← hz]; simp, Nat.le_refl _, fun h => absurd h (by decide)⟩
  clear hz
  go_wp2_with fail
  clear hcat sx sy
  go_loopw [12, 13] (fun l i wr => ∃ (k m : Nat) (F : DF), i = .int .i64 k ∧ l = .int .i64 m ∧ k ≤ 20 ∧ Hid (KpF z x.length F m k) ∧ Env w wr [dkO b (kp [([102], F)] false) 2 200]) (fun _ i _ => 20 - (intOf i).toNat)
  case atStart => exact ⟨0, z.length, _, rfl, rfl, by omega, F0, E⟩
  case round =>
    obtain ⟨k, m, F, rfl, rfl, hk20, HF, E⟩ := hrel
    by_cases hkl : k ≤ lg.length
    · by_cases hk : k < 20
      · have hq : ∀ ks : List Int, Hid (∃ m', KpF z x.length (dCut F ks.head?) m' (k + 1) ∧ m' ≤ m ∧ x.length ≤ m' ∧ (0 < k → m' = m)) := fun ks => HF.out.cut _
        have HQ := hide hq
        clear hq
        go_upto_if 65 with (fail)
        go_cut [] (fun wr => ∃ (F' : DF) (m' : Nat), Hid (KpF z x.length F' m' (k + 1)) ∧ Hid (m' ≤ m ∧ x.length ≤ m' ∧ (0 < k → m' = m)) ∧ Env w wr [dkO b (kp [([102], F')] true) 2 200])
        case first =>
          by_cases hk0 : k = 0
          · subst hk0
            go_wp2_with fail
            have k1 := E.dk_crash lk K ck (sl_reads HK.out fun _ _ h => h.1) (by have := HK.out; have := this.2.1; have := HK.out.2.2.1; simp only at *; omega) (by decide) (by decide)
            rw [kp_c] at k1
            refine k1.mono ?_
            rintro e w6 ⟨rfl, E6⟩
            clear k1
            go_wp2_with fail
            have k1 := E6.dk_crash_nil 0 (by decide) (by decide)
            rw [kp_cd] at k1
            refine k1.mono ?_
            rintro e w7 ⟨rfl, E7⟩
            clear k1
            go_wp2_with fail
            go_meet
            case rel =>
              obtain ⟨m', h1, h2⟩ := (HQ.out lk).out
              exact ⟨_, m', h1, h2, E7⟩
          · obtain ⟨j, rfl⟩ : ∃ j, k = j + 1 := ⟨k - 1, by omega⟩
            obtain ⟨g, o, hG, hgw, ds, hds, hK, hcl⟩ := HG.out.2.2.2.2.2 j (show j < lg.length by omega)
            generalize lg[j] = sl at hK
            obtain ⟨Ak, lj, cj⟩ := sl
            have e1 := hK.1
            subst e1
            have hcj : wr.cell? ⟨g, o + j, none⟩ = some (.slice Ak lj.length cj) := (E.below.cell hgw).trans (by have := hcl 0 _ rfl; rw [show j * 1 + 0 = j by omega] at this; exact this)
            have HK2 := hide hK
            have hj1 : (((j + 1 : Nat) : Int)) - 1 = (j : Int) := by omega
            simp only at hG
            subst hG
            clear hds hK hcl
            go_wp2_with fail
            have k1 := E.dk_crash lj Ak cj ((sl_reads HK2.out fun _ _ h => h.1)) (by have := HK2.out.2.1; have := HK2.out.2.2.1; simp only at *; omega) (by decide) (by decide)
            rw [kp_c] at k1
            refine k1.mono ?_
            rintro e w6 ⟨rfl, E6⟩
            clear k1
            go_wp2_with fail
            go_meet
            case rel =>
              obtain ⟨m', h1, h2⟩ := (HQ.out lj).out
              exact ⟨_, m', h1, h2, E6⟩
        case rest =>
          clear E HQ HF
          obtain ⟨F', m', HF, HM, E⟩ := hcut
          go_wp2_with fail
          refine E.dk_start.mono ?_
          rintro e w6 ⟨rfl, E6⟩
          replace E6 : Env w w6 [dkO b (kp [([102], F')] false) 2 200] := E6
          go_wp2_with fail
          have k1 := E6.dk_read [102] (by decide) (by decide)
          rw [kp_e2, kp_r] at k1
          refine k1.mono ?_
          rintro e w7 ⟨A7, c7, rfl, E7⟩
          clear k1
          have hb : F'.b = z.take m' := HF.out.b
          have hlen : F'.b.length = m' := by rw [hb, List.length_take]; have := HF.out.len; omega
          have s7 : ∀ n, (convert 22 9 (.slice A7 m' c7)).run Try.prog (w7.drewN n) = .ok (.string ⟨F'.b.toArray⟩) (w7.drewN n) := fun n => by
            have := (E7.drewN n).str
            rwa [hlen] at this
          rw [hlen]
          have hc1 : ¬ (m' < x.length) := by have := HM.out.2.1; omega
          have hc2 : ¬ (m < m') := by have := HM.out.1; omega
          have hex : (⟨z.toArray⟩ : ByteArray).extract 0 m' = ⟨F'.b.toArray⟩ := by
            rw [hb]
            apply ByteArray.ext
            simp
          have hszz : m' ≤ (⟨z.toArray⟩ : ByteArray).size := by have := HF.out.len; simpa [ByteArray.size] using this
          go_wp2_with fail
          have d1 : decide (m' < x.length) = false := by simpa using hc1
          have d2 : decide (m < m') = false := by simpa using hc2
          have HB := hide hb
          have HL := hide hlen
          clear hb hlen hc1 hc2
          by_cases hk0 : k = 0
          · have d3 : decide (0 < (k : Int)) = false := by simp; omega
            go_quiet (fail)
            go_wp2_with fail
            go_roundw
            case rel => exact ⟨k + 1, m', F', by go_num, rfl, by omega, HF, E7.drop.drewN nq⟩
            case measure => simp [intOf]; omega
          · have hm' : m' = m := HM.out.2.2 (by omega)
            subst hm'
            have d3 : decide (0 < k) = true := by simp; omega
            go_quiet (fail)
            go_wp2_with fail
            go_roundw
            case rel => exact ⟨k + 1, m', F', by go_num, rfl, by omega, HF, E7.drop.drewN nq⟩
            case measure => simp [intOf]; omega
      · go_wp2_with fail
        go_ret
        exact ⟨rfl, E.below⟩
    · go_wp2_with fail
      go_ret
      exact ⟨rfl, E.below⟩

-- ROW DiskKeeps|tidemark/tidemarklaw03|keeps_walk A0 l0 c0 A1 l1 c1 A2 l2 c2 A3 l3 c3 W hs0 hs1 hs2 hs3|sl []uint8 opU8s;sl []uint8 opU8s;sl []int opInts;sl [][]int opIntss
-- ROWPART
open Go.ChangeShapes Go.WideShapes Go.ChangeAt in
open Go.ChangeMaps (open_string) in
set_option maxRecDepth 100000 in
theorem diskKeeps_lifted (os : Os) (started : os.Started) (H : Type) (enc : TypeId × Value → H) :
    ReturnsInHanded {} Try.checked os 3 .any (Rows.diskKeepsSpec.pre6 enc Try.prog Try.f3 Rows.diskKeepsRow.domain false) (Rows.diskKeepsSpec.post enc Try.prog Try.f3 false true false false) := by
  refine returnsInHanded_of_change (C := Try.checked) own started (by kernel_rfl) Try.func3
    (ChangeSpec.witness6 (enc := enc) (C := Try.checked) false ⟨#[], #[.slice none 0 0, .slice none 0 0, .slice none 0 0, .slice none 0 0], []⟩ 8 (by kernel_rfl) (by kernel_rfl) (by kernel_rfl) (by kernel_rfl)) ?_
  intro W base args ds gs before hval0 hW _ _
  have hval : ∀ (j : Nat) t v, Try.f3.params[j]? = some t → args[j]? = some v → Value.okWide Try.prog W .any base t v := hval0
  have hW' := hW
  obtain ⟨p, q, hA0, hV, rfl, hfz, hnd⟩ := hW
  have hA : DataW.TrodAll enc Try.prog W 0 (fun _ => true) true Try.f3.params.toList args.toList ds p := hA0
  rw [Try.params3] at hA hval
  obtain ⟨v0, vs0, d0, ds0, p0, q0, hargs, rfl, rfl, h0, r0⟩ := trodAll_cons hA
  obtain ⟨v1, vs1, d1, ds1, p1, q1, rfl, rfl, rfl, h1, r1⟩ := trodAll_cons r0
  obtain ⟨v2, vs2, d2, ds2, p2, q2, rfl, rfl, rfl, h2, r2⟩ := trodAll_cons r1
  obtain ⟨v3, vs3, d3, ds3, p3, q3, rfl, rfl, rfl, h3, r3⟩ := trodAll_cons r2
  obtain ⟨rfl, rfl, rfl⟩ := trodAll_nil r3
  obtain rfl : args = #[v0, v1, v2, v3] := by cases args; simp_all
  obtain ⟨rfl, rfl⟩ := trodVars_none hV
  obtain ⟨⟨A0, l0, c0⟩, rfl, hs0⟩ := sl_of Try.underlying22 opU8s (hval 0 _ v0 rfl rfl) h0
  obtain ⟨⟨A1, l1, c1⟩, rfl, hs1⟩ := sl_of Try.underlying22 opU8s (hval 1 _ v1 rfl rfl) h1
  obtain ⟨⟨A2, l2, c2⟩, rfl, hs2⟩ := sl_of Try.underlying23 opInts (hval 2 _ v2 rfl rfl) h2
  obtain ⟨⟨A3, l3, c3⟩, rfl, hs3⟩ := sl_of Try.underlying24 opIntss (hval 3 _ v3 rfl rfl) h3
  refine (keeps_walk A0 l0 c0 A1 l1 c1 A2 l2 c2 A3 l3 c3 W hs0 hs1 hs2 hs3).mono fun e W' ⟨he, hb⟩ => ?_
  subst he
  exact ⟨_, rfl, law_post (tb := 4) laidOut (params_ok _ (by kernel_rfl)) rfl rfl Try.underlying4 hW' rfl hb⟩

theorem diskKeeps_over : Rows.diskKeepsRow.holds Try.pinned (OpenSpec.ofChange Rows.diskKeepsSpec) :=
  OpenClaim.holds_of_wide 3 Try.f3 rfl rfl rfl rfl rfl rfl rfl ⟨rfl, rfl, rfl, rfl, rfl⟩ rfl rfl rfl rfl rfl (by kernel_rfl) Try.func3 (by kernel_rfl)
    (of_decide_eq_true (by kernel_rfl)) (by unfold Func.isWrapper; first | (rw [if_pos (by decide +kernel)]; kernel_rfl) | (rw [if_neg (by decide +kernel)]; exact ⟨rfl, rfl⟩))
    (fun os started H enc _ => diskKeeps_lifted os started H enc)

theorem diskKeeps_holds : Rows.DiskKeepsSaid := diskKeeps_over
end Go.Proofs.Ytbkenickmiapdaa
