/- DERIVED. 'tidemarklaw03.DiskTail' returns true at every input. -/
import Derived.Test.YtbkenickmiapdaaDke
import Derived.Test.YtbkenickmiapdaaDop
import Derived.Deep.RegionHeld3
namespace Go.Proofs.Ytbkenickmiapdaa
set_option linter.unusedVariables false
set_option linter.unusedSimpArgs false
open Go.RowKit

abbrev tl (l : List (Nm × DF)) (down : Bool) : DS := ⟨1048576, l, down⟩
section
variable {x : List UInt8} {F : DF}
theorem tl_e0 : dAppendE (tl [] false) [102] [] = 0 := by rfl
theorem tl_a0 : dAppend (tl [] false) [102] [] = tl [([102], ⟨[], 0⟩)] false := by rfl
theorem tl_e (h : F.b.length + x.length ≤ 10000) : dAppendE (tl [([102], F)] false) [102] x = 0 := by
  have hm : dMay (tl [([102], F)] false) false [102] [102] = 0 := by rfl
  unfold dAppendE
  rw [if_pos hm, if_neg]
  simp [dUsed]; omega
theorem tl_a (h : F.b.length + x.length ≤ 10000) : dAppend (tl [([102], F)] false) [102] x = tl [([102], ⟨F.b ++ x, F.s⟩)] false := by
  unfold dAppend
  rw [if_pos (tl_e h)]
  rfl
theorem tl_s0 : dMay (tl [([102], F)] false) true [102] [102] = 0 := by rfl
theorem tl_s : dSync (tl [([102], F)] false) [102] = tl [([102], ⟨F.b, F.b.length⟩)] false := by rfl
theorem tl_c (ks : List Int) : dCrash (tl [([102], F)] false) ks = tl [([102], dCut F ks.head?)] true := by rfl
theorem tl_r : dReadB (tl [([102], F)] false) [102] = F.b := by rfl
theorem tl_u : dUsed (tl [([102], F)] false).l = F.b.length := by simp [dUsed]
end

set_option maxRecDepth 100000 in
set_option maxHeartbeats 2000000 in
theorem tail_walk (A : Option Addr) (ls : List (Sl UInt8)) (ca : Nat) (B : Option Addr) (lb : List Bool) (cb : Nat) (keep : Int) (w : World) (hk0 : -9223372036854775808 ≤ keep) (hk1 : keep ≤ 9223372036854775807)
    (ha : (kSl (kSl kU8 1) 1).is w ⟨A, ls, ca⟩ [(⟨A, ls, ca⟩ : Sl (Sl UInt8)).val]) (hb : (kSl kBool 1).is w ⟨B, lb, cb⟩ [(⟨B, lb, cb⟩ : Sl Bool).val]) :
    Calls Try.prog 5 #[.slice A ls.length ca, .slice B lb.length cb, .int .i64 keep] w fun e w' => e = .returned (.bool true) ∧ Below w.heap.size w w' := by
  have HA := hide ha
  have HB := hide hb
  have hll : ls.length ≤ 9223372036854775807 := by have := ha.2.1; have := ha.2.2.1; simp only [maxLen] at *; omega
  have hbl : lb.length ≤ 9223372036854775807 := by have := hb.2.1; have := hb.2.2.1; simp only [maxLen] at *; omega
  clear ha hb
  go_enter Try.func5, Try.ntmps5
  go_wp2_with fail
  refine (dk_shown w).mono ?_
  rintro e w1 ⟨rfl, hb1⟩
  have E : Env w w1 [] := .nil hb1
  clear hb1
  go_wp2_with fail
  refine (E.dk_new 1048576 (by decide)).mono ?_
  rintro e w2 ⟨b, rfl, E⟩
  replace E : Env w w2 (dkO b (tl [] false) 0 0 :: []) := E
  go_wp2_with fail
  have k1 := E.dk_append [102] (by decide) none 0 [] Reads.none_ (by decide) (by decide)
  rw [tl_e0, tl_a0] at k1
  refine k1.mono ?_
  rintro e w3 ⟨rfl, E⟩
  clear k1
  go_wp2_with fail
  go_loopw [9, 10, 11] (fun t9 t10 t11 wr => ∃ (k : Nat) (F : DF), t11 = .int .i64 k ∧ t9 = .string ⟨F.b.toArray⟩ ∧ t10 = .int .i64 F.s ∧ k ≤ 20 ∧ Hid (F.s ≤ F.b.length ∧ F.b.length ≤ 50 * k) ∧ Env w wr [dkO b (tl [([102], F)] false) (k + 1) (50 * k)]) (fun _ _ i _ => 20 - (intOf i).toNat)
  case atStart => exact ⟨0, ⟨[], 0⟩, rfl, rfl, rfl, by omega, ⟨Nat.le_refl _, Nat.le_refl _⟩, E⟩
  case round =>
    obtain ⟨k, F, rfl, rfl, rfl, hk20, HF, E⟩ := hrel
    by_cases hkl : k < ls.length
    · by_cases hk : k < 20
      · obtain ⟨g, o, hA, hgw, ds, hds, hK, hcl⟩ := HA.out.2.2.2.2.2 k hkl
        simp only at hA
        subst hA
        simp only at hK
        generalize ls[k] = sl at hK
        obtain ⟨Ak, lk, ck⟩ := sl
        have e1 := hK.1
        subst e1
        have hcj : wr.cell? ⟨g, o + k, none⟩ = some (.slice Ak lk.length ck) := (E.below.cell hgw).trans (by have := hcl 0 _ rfl; rw [show k * 1 + 0 = k by omega] at this; exact this)
        have HK2 := hide hK
        obtain ⟨m, hm⟩ : ∃ m : Nat, min (lk.length : Int) 50 = (m : Int) := ⟨min lk.length 50, by omega⟩
        have hmc : m ≤ ck := by have := hK.2.1; simp only at this; omega
        obtain ⟨x, hx, hx0, hxr⟩ : ∃ x : List UInt8, x.length = m ∧ x.length ≤ 50 ∧ Reads w w.heap.size 1 Ak x.length (x.map u8V) := ⟨lk.take m, by simp; omega, by simp; omega, Reads.cut (sl_reads hK fun _ _ h => h) m⟩
        subst hx
        have HX := hide hxr
        have HX0 := hide hx0
        have hft : F.b.length + x.length ≤ 10000 := by have := HF.out.2; omega
        have HFT := hide hft
        clear hds hK hcl hxr hx0 hft
        go_wp2_with fail
        go_quiet (fail)
        go_wp2_with fail
        have k1 := (E.drewN nq).dk_append [102] (by decide) Ak ck x ((E.drewN nq).arg HX.out) (by omega) (by omega)
        rw [tl_e HFT.out, tl_a HFT.out] at k1
        refine k1.mono ?_
        rintro e w4 ⟨rfl, E4⟩
        clear k1
        have E4 : Env w w4 [dkO b (tl [([102], ⟨F.b ++ x, F.s⟩)] false) (k + 1 + 1) (50 * (k + 1))] := E4.dk_mono (Nat.le_refl _) (by have := HX0.out; omega)
        have sx := str_of w4 _ Ak ck x (E4.arg HX.out)
        obtain ⟨z, hz⟩ : ∃ z, F.b ++ x = z := ⟨_, rfl⟩
        have hzl : z.length = F.b.length + x.length := by rw [← hz, List.length_append]
        have hcat : (⟨F.b.toArray⟩ : ByteArray) ++ ⟨x.toArray⟩ = ⟨z.toArray⟩ := by
          rw [← hz]
          apply ByteArray.ext
          simp
        rw [hz] at E4
        have HF4 : Hid (F.s ≤ z.length ∧ z.length ≤ 50 * (k + 1)) := ⟨by have := HF.out; omega, by have := HF.out; have := HX0.out; omega⟩
        have hfx : F.b.length + x.length ≤ 10000 := HFT.out
        clear hz
        have hzl2 : z.length ≤ 10000 := by omega
        have HZL := hide hzl
        clear hzl
        by_cases hkb : k < lb.length
        · obtain ⟨g2, o2, hB, hgw2, ds2, hds2, hK2, hcl2⟩ := HB.out.2.2.2.2.2 k hkb
          simp only at hB
          subst hB
          simp only at hK2
          have e2 : ds2 = [.bool lb[k]] := hK2
          subst e2
          have hcj2 : w4.cell? ⟨g2, o2 + k, none⟩ = some (.bool lb[k]) := (E4.below.cell hgw2).trans (by have := hcl2 0 _ rfl; rw [show k * 1 + 0 = k by omega] at this; exact this)
          clear hK2 hcl2 hds2
          cases hbk : lb[k] with
          | false =>
            rw [hbk] at hcj2
            clear hbk
            go_wp2_with fail
            go_roundw
            case rel => exact ⟨k + 1, ⟨z, F.s⟩, by go_num, rfl, rfl, by omega, HF4, E4⟩
            case measure => simp [intOf]; omega
          | true =>
            rw [hbk] at hcj2
            clear hbk
            go_wp2_with fail
            have k1 := E4.dk_sync [102] (by decide)
            rw [tl_s0, tl_s] at k1
            refine k1.mono ?_
            rintro e w5 ⟨rfl, E5⟩
            clear k1 E4
            go_wp2_with fail
            go_roundw
            case rel => exact ⟨k + 1, ⟨z, z.length⟩, by go_num, rfl, rfl, by omega, ⟨Nat.le_refl _, HF4.out.2⟩, E5⟩
            case measure => simp [intOf]; omega
        · go_wp2_with fail
          go_roundw
          case rel => exact ⟨k + 1, ⟨z, F.s⟩, by go_num, rfl, rfl, by omega, HF4, E4⟩
          case measure => simp [intOf]; omega
      · go_wp2_with fail
        have hs := HF.out.1
        have hl := HF.out.2
        have E1 := E.alloc 3 #[.int .i64 keep]
        have k1 := E1.swap.dk_crash_lit (c := 1) [keep] rfl (by simp [maxLen]) (by omega) (by omega)
        rw [tl_c] at k1
        obtain ⟨n, hn⟩ : ∃ n, dKeep F (some keep) = n := ⟨_, rfl⟩
        have hnl : n ≤ F.b.length := by rw [← hn]; exact dKeep_le hs _
        have hF : dCut F ([keep] : List Int).head? = ⟨F.b.take n, n⟩ := by show dCut F (some keep) = _; unfold dCut; rw [hn]
        have hnn : n = F.s + keep.toNat % (F.b.length - F.s + 1) := by rw [← hn]; rfl
        clear hn
        rw [hF] at k1
        refine k1.mono ?_
        rintro e w5 ⟨rfl, E5⟩
        clear k1 hF
        go_wp2_with fail
        refine E5.dk_start.mono ?_
        rintro e w6 ⟨rfl, E6⟩
        replace E6 : Env w w6 [dkO b (tl [([102], ⟨F.b.take n, n⟩)] false) (k + 1) (50 * k), cellsO wr.heap.size 3 #[.int .i64 keep]] := E6
        go_wp2_with fail
        have k1 := E6.dk_read [102] (by decide) (by omega)
        rw [tl_s0, tl_r] at k1
        refine k1.mono ?_
        rintro e w7 ⟨A7, c7, rfl, E7⟩
        clear k1
        have hlen : (F.b.take n).length = n := by rw [List.length_take]; omega
        rw [hlen]
        have hzn : F.b.length ≤ 1000 := by omega
        have hlt : F.b.length < 9223372036854775807 := by omega
        have hex : (⟨F.b.toArray⟩ : ByteArray).extract 0 n = ⟨(F.b.take n).toArray⟩ := by
          apply ByteArray.ext
          simp
        have hszz : n ≤ (⟨F.b.toArray⟩ : ByteArray).size := by simpa [ByteArray.size] using hnl
        have hu : ((dUsed (tl [([102], ⟨F.b.take n, n⟩)] false).l : Nat) : Int) = (n : Int) := by rw [tl_u, hlen]
        have hsc : ∀ w' : World, Env w w' [dkO b (tl [([102], ⟨F.b.take n, n⟩)] false) (k + 1) (50 * k), rowO 5 1 (.slice A7 n c7) ((F.b.take n).map u8V)] → (convert 22 9 (.slice A7 n c7)).run Try.prog w' = .ok (.string ⟨(F.b.take n).toArray⟩) w' := fun w' E => by
          have h := E.swap.reads (by rw [List.length_map, hlen])
          have := str_of w' _ A7 c7 (F.b.take n) (by rw [hlen]; exact h)
          rwa [hlen] at this
        rw [hlen] at E7
        have E8 : Env w w7 [dkO b (tl [([102], ⟨F.b.take n, n⟩)] false) (k + 1) (50 * k), rowO 5 1 (.slice A7 n c7) ((F.b.take n).map u8V)] := ((E7.front 2 rfl).drop.swap)
        have hku : ∀ w' : World, Env w w' [dkO b (tl [([102], ⟨F.b.take n, n⟩)] false) (k + 1) (50 * k), rowO 5 1 (.slice A7 n c7) ((F.b.take n).map u8V)] → Calls Try.prog 20 #[.pointer (some ⟨b, 0, none⟩)] w' fun e w'' => e = .returned (.int .i64 n) ∧ Env w w'' [dkO b (tl [([102], ⟨F.b.take n, n⟩)] false) (k + 1) (50 * k), rowO 5 1 (.slice A7 n c7) ((F.b.take n).map u8V)] := fun w' E => by
          have := E.dk_used (by omega)
          rw [hu] at this
          exact this
        have HSC := hide hsc
        have HKU := hide hku
        clear hsc hku hu E7
        by_cases hkp : 0 < keep
        · have hq : wrap64 ((F.s : Int) + keep % ((F.b.length : Int) - F.s + 1)) = n := by
            have : keep % ((F.b.length : Int) - F.s + 1) = ((keep.toNat % (F.b.length - F.s + 1) : Nat) : Int) := by
              rw [Int.natCast_emod]
              congr 1
              · omega
              · omega
            rw [this]
            unfold wrap64
            omega
          have HQ := hide hq
          have HNN := hide hnn
          clear hq hnn
          go_wp2_with fail
          rw [HQ.out]
          have HEX := hide hex
          go_region_held3 (fun w' => Env w w' [dkO b (tl [([102], ⟨F.b.take n, n⟩)] false) (k + 1) (50 * k), rowO 5 1 (.slice A7 n c7) ((F.b.take n).map u8V)] ∧ (convert 22 9 (.slice A7 n c7)).run Try.prog w' = .ok (.string ⟨(F.b.take n).toArray⟩) w')
            (first | exact ⟨by assumption, HSC.out _ (by assumption)⟩ | exact ⟨Env.drew (by assumption), HSC.out _ (Env.drew (by assumption))⟩)
            (first | (go_at_call 20; refine (HKU.out _ (by first | assumption | exact Env.drew (by assumption))).mono ?_; rintro e w' ⟨rfl, E9⟩))
          all_goals
            go_wp2_with fail
            go_ret
            exact ⟨rfl, Env.below (by assumption)⟩
        · have hn0 : n = F.s := by
            have : keep.toNat = 0 := by omega
            rw [hnn, this]
            simp
          clear hnn
          have HN0 := hide (show (F.s : Int) = (n : Int) by omega)
          clear hn0
          go_wp2_with fail
          rw [HN0.out]
          have HEX := hide hex
          go_region_held3 (fun w' => Env w w' [dkO b (tl [([102], ⟨F.b.take n, n⟩)] false) (k + 1) (50 * k), rowO 5 1 (.slice A7 n c7) ((F.b.take n).map u8V)] ∧ (convert 22 9 (.slice A7 n c7)).run Try.prog w' = .ok (.string ⟨(F.b.take n).toArray⟩) w')
            (first | exact ⟨by assumption, HSC.out _ (by assumption)⟩ | exact ⟨Env.drew (by assumption), HSC.out _ (Env.drew (by assumption))⟩)
            (first | (go_at_call 20; refine (HKU.out _ (by first | assumption | exact Env.drew (by assumption))).mono ?_; rintro e w' ⟨rfl, E9⟩))
          all_goals
            go_wp2_with fail
            go_ret
            exact ⟨rfl, Env.below (by assumption)⟩
    · go_wp2_with fail
      have hs := HF.out.1
      have hl := HF.out.2
      have E1 := E.alloc 3 #[.int .i64 keep]
      have k1 := E1.swap.dk_crash_lit (c := 1) [keep] rfl (by simp [maxLen]) (by omega) (by omega)
      rw [tl_c] at k1
      obtain ⟨n, hn⟩ : ∃ n, dKeep F (some keep) = n := ⟨_, rfl⟩
      have hnl : n ≤ F.b.length := by rw [← hn]; exact dKeep_le hs _
      have hF : dCut F ([keep] : List Int).head? = ⟨F.b.take n, n⟩ := by show dCut F (some keep) = _; unfold dCut; rw [hn]
      have hnn : n = F.s + keep.toNat % (F.b.length - F.s + 1) := by rw [← hn]; rfl
      clear hn
      rw [hF] at k1
      refine k1.mono ?_
      rintro e w5 ⟨rfl, E5⟩
      clear k1 hF
      go_wp2_with fail
      refine E5.dk_start.mono ?_
      rintro e w6 ⟨rfl, E6⟩
      replace E6 : Env w w6 [dkO b (tl [([102], ⟨F.b.take n, n⟩)] false) (k + 1) (50 * k), cellsO wr.heap.size 3 #[.int .i64 keep]] := E6
      go_wp2_with fail
      have k1 := E6.dk_read [102] (by decide) (by omega)
      rw [tl_s0, tl_r] at k1
      refine k1.mono ?_
      rintro e w7 ⟨A7, c7, rfl, E7⟩
      clear k1
      have hlen : (F.b.take n).length = n := by rw [List.length_take]; omega
      rw [hlen]
      have hzn : F.b.length ≤ 1000 := by omega
      have hlt : F.b.length < 9223372036854775807 := by omega
      have hex : (⟨F.b.toArray⟩ : ByteArray).extract 0 n = ⟨(F.b.take n).toArray⟩ := by
        apply ByteArray.ext
        simp
      have hszz : n ≤ (⟨F.b.toArray⟩ : ByteArray).size := by simpa [ByteArray.size] using hnl
      have hu : ((dUsed (tl [([102], ⟨F.b.take n, n⟩)] false).l : Nat) : Int) = (n : Int) := by rw [tl_u, hlen]
      have hsc : ∀ w' : World, Env w w' [dkO b (tl [([102], ⟨F.b.take n, n⟩)] false) (k + 1) (50 * k), rowO 5 1 (.slice A7 n c7) ((F.b.take n).map u8V)] → (convert 22 9 (.slice A7 n c7)).run Try.prog w' = .ok (.string ⟨(F.b.take n).toArray⟩) w' := fun w' E => by
        have h := E.swap.reads (by rw [List.length_map, hlen])
        have := str_of w' _ A7 c7 (F.b.take n) (by rw [hlen]; exact h)
        rwa [hlen] at this
      rw [hlen] at E7
      have E8 : Env w w7 [dkO b (tl [([102], ⟨F.b.take n, n⟩)] false) (k + 1) (50 * k), rowO 5 1 (.slice A7 n c7) ((F.b.take n).map u8V)] := ((E7.front 2 rfl).drop.swap)
      have hku : ∀ w' : World, Env w w' [dkO b (tl [([102], ⟨F.b.take n, n⟩)] false) (k + 1) (50 * k), rowO 5 1 (.slice A7 n c7) ((F.b.take n).map u8V)] → Calls Try.prog 20 #[.pointer (some ⟨b, 0, none⟩)] w' fun e w'' => e = .returned (.int .i64 n) ∧ Env w w'' [dkO b (tl [([102], ⟨F.b.take n, n⟩)] false) (k + 1) (50 * k), rowO 5 1 (.slice A7 n c7) ((F.b.take n).map u8V)] := fun w' E => by
        have := E.dk_used (by omega)
        rw [hu] at this
        exact this
      have HSC := hide hsc
      have HKU := hide hku
      clear hsc hku hu E7
      by_cases hkp : 0 < keep
      · have hq : wrap64 ((F.s : Int) + keep % ((F.b.length : Int) - F.s + 1)) = n := by
          have : keep % ((F.b.length : Int) - F.s + 1) = ((keep.toNat % (F.b.length - F.s + 1) : Nat) : Int) := by
            rw [Int.natCast_emod]
            congr 1
            · omega
            · omega
          rw [this]
          unfold wrap64
          omega
        have HQ := hide hq
        have HNN := hide hnn
        clear hq hnn
        go_wp2_with fail
        rw [HQ.out]
        have HEX := hide hex
        go_region_held3 (fun w' => Env w w' [dkO b (tl [([102], ⟨F.b.take n, n⟩)] false) (k + 1) (50 * k), rowO 5 1 (.slice A7 n c7) ((F.b.take n).map u8V)] ∧ (convert 22 9 (.slice A7 n c7)).run Try.prog w' = .ok (.string ⟨(F.b.take n).toArray⟩) w')
          (first | exact ⟨by assumption, HSC.out _ (by assumption)⟩ | exact ⟨Env.drew (by assumption), HSC.out _ (Env.drew (by assumption))⟩)
          (first | (go_at_call 20; refine (HKU.out _ (by first | assumption | exact Env.drew (by assumption))).mono ?_; rintro e w' ⟨rfl, E9⟩))
        all_goals
          go_wp2_with fail
          go_ret
          exact ⟨rfl, Env.below (by assumption)⟩
      · have hn0 : n = F.s := by
          have : keep.toNat = 0 := by omega
          rw [hnn, this]
          simp
        clear hnn
        have HN0 := hide (show (F.s : Int) = (n : Int) by omega)
        clear hn0
        go_wp2_with fail
        rw [HN0.out]
        have HEX := hide hex
        go_region_held3 (fun w' => Env w w' [dkO b (tl [([102], ⟨F.b.take n, n⟩)] false) (k + 1) (50 * k), rowO 5 1 (.slice A7 n c7) ((F.b.take n).map u8V)] ∧ (convert 22 9 (.slice A7 n c7)).run Try.prog w' = .ok (.string ⟨(F.b.take n).toArray⟩) w')
          (first | exact ⟨by assumption, HSC.out _ (by assumption)⟩ | exact ⟨Env.drew (by assumption), HSC.out _ (Env.drew (by assumption))⟩)
          (first | (go_at_call 20; refine (HKU.out _ (by first | assumption | exact Env.drew (by assumption))).mono ?_; rintro e w' ⟨rfl, E9⟩))
        all_goals
          go_wp2_with fail
          go_ret
          exact ⟨rfl, Env.below (by assumption)⟩

-- ROW DiskTail|tidemark/tidemarklaw03|tail_walk A0 l0 c0 A1 l1 c1 a2 W b2.1 b2.2 hs0 hs1|sl [][]uint8 opU8ss;sl []bool opBools;i64 int
-- ROWPART
open Go.ChangeShapes Go.WideShapes Go.ChangeAt in
open Go.ChangeMaps (open_string) in
set_option maxRecDepth 100000 in
theorem diskTail_lifted (os : Os) (started : os.Started) (H : Type) (enc : TypeId × Value → H) :
    ReturnsInHanded {} Try.checked os 5 .any (Rows.diskTailSpec.pre6 enc Try.prog Try.f5 Rows.diskTailRow.domain false) (Rows.diskTailSpec.post enc Try.prog Try.f5 false true false false) := by
  refine returnsInHanded_of_change (C := Try.checked) own started (by kernel_rfl) Try.func5
    (ChangeSpec.witness6 (enc := enc) (C := Try.checked) false ⟨#[], #[.slice none 0 0, .slice none 0 0, .int .i64 0], []⟩ 8 (by kernel_rfl) (by kernel_rfl) (by kernel_rfl) (by kernel_rfl)) ?_
  intro W base args ds gs before hval0 hW _ _
  have hval : ∀ (j : Nat) t v, Try.f5.params[j]? = some t → args[j]? = some v → Value.okWide Try.prog W .any base t v := hval0
  have hW' := hW
  obtain ⟨p, q, hA0, hV, rfl, hfz, hnd⟩ := hW
  have hA : DataW.TrodAll enc Try.prog W 0 (fun _ => true) true Try.f5.params.toList args.toList ds p := hA0
  rw [Try.params5] at hA hval
  obtain ⟨v0, vs0, d0, ds0, p0, q0, hargs, rfl, rfl, h0, r0⟩ := trodAll_cons hA
  obtain ⟨v1, vs1, d1, ds1, p1, q1, rfl, rfl, rfl, h1, r1⟩ := trodAll_cons r0
  obtain ⟨v2, vs2, d2, ds2, p2, q2, rfl, rfl, rfl, h2, r2⟩ := trodAll_cons r1
  obtain ⟨rfl, rfl, rfl⟩ := trodAll_nil r2
  obtain rfl : args = #[v0, v1, v2] := by cases args; simp_all
  obtain ⟨rfl, rfl⟩ := trodVars_none hV
  obtain ⟨⟨A0, l0, c0⟩, rfl, hs0⟩ := sl_of Try.underlying35 opU8ss (hval 0 _ v0 rfl rfl) h0
  obtain ⟨⟨A1, l1, c1⟩, rfl, hs1⟩ := sl_of Try.underlying39 opBools (hval 1 _ v1 rfl rfl) h1
  obtain ⟨a2, rfl, -, -, w2⟩ := open_int Try.underlying3 (hval 2 _ v2 rfl rfl) h2
  have b2 := bounds_i64 w2
  refine (tail_walk A0 l0 c0 A1 l1 c1 a2 W b2.1 b2.2 hs0 hs1).mono fun e W' ⟨he, hb⟩ => ?_
  subst he
  exact ⟨_, rfl, law_post (tb := 4) laidOut (params_ok _ (by kernel_rfl)) rfl rfl Try.underlying4 hW' rfl hb⟩

theorem diskTail_over : Rows.diskTailRow.holds Try.pinned (OpenSpec.ofChange Rows.diskTailSpec) :=
  OpenClaim.holds_of_wide 5 Try.f5 rfl rfl rfl rfl rfl rfl rfl ⟨rfl, rfl, rfl, rfl, rfl⟩ rfl rfl rfl rfl rfl (by kernel_rfl) Try.func5 (by kernel_rfl)
    (of_decide_eq_true (by kernel_rfl)) (by unfold Func.isWrapper; first | (rw [if_pos (by decide +kernel)]; kernel_rfl) | (rw [if_neg (by decide +kernel)]; exact ⟨rfl, rfl⟩))
    (fun os started H enc _ => diskTail_lifted os started H enc)

theorem diskTail_holds : Rows.DiskTailSaid := diskTail_over
end Go.Proofs.Ytbkenickmiapdaa
