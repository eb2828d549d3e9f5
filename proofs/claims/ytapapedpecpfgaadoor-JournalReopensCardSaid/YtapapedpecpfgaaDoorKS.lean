/- JournalReopens: the walk of the law. -/
import Derived.Test.YtapapedpecpfgaaDoorKR
import Derived.Deep.CutRange
set_option linter.unusedVariables false
set_option linter.unusedSimpArgs false
namespace Go.Proofs.YtapapedpecpfgaaDoor.J
open Go.RowKit Go.Proofs.YtapapedpecpfgaaDoorW.PrintWords

theorem rec_strW {w : World} {R E : Nat → Prop} {A : Option Addr} {n c : Nat} {rss : List (List Int)} (h : RecsAt w R E (.slice A n c) rss) (hn : rss.length = n) {i : Nat} (hi : i < n) :
    ∃ g A' c' l, A = some ⟨g, 0, none⟩ ∧ w.cell? ⟨g, i, none⟩ = some (.slice A' l c') ∧ ∀ W : World, W.heap = w.heap → (convert 39 9 (.slice A' l c')).run Tryd.prog W = .ok (.string (strOfNums (rss.getD i []))) W := by
  obtain ⟨⟨hl, hc⟩, _⟩ := h.reads hn
  obtain ⟨ad, e, _, hcs⟩ := hc (by omega)
  obtain ⟨v, hv, A', c', rfl, _, hr, _⟩ := hcs i hi
  obtain ⟨g, hg⟩ : ∃ g, A = some ⟨g, 0, none⟩ := by
    obtain ⟨_, ho, _⟩ := h
    obtain ⟨g, cap, e, _⟩ := ho.form (by omega)
    injection e with e
    exact ⟨g, e⟩
  subst hg
  injection e with e
  subst e
  rw [add_plain] at hv
  refine ⟨g, A', c', (rss.getD i []).length, rfl, hv, fun W hW => ?_⟩
  rcases Nat.eq_zero_or_pos (rss.getD i []).length with h0 | h0
  · have hnil : rss.getD i [] = [] := List.length_eq_zero_iff.1 h0
    rw [hnil]
    exact conv_zero W A' c'
  · obtain ⟨ad', e', _⟩ := hr.2.2 h0
    subst e'
    obtain ⟨b, off, e3, hra, _⟩ := rd_addr hr h0
    subst e3
    exact run_convert_bytes_arg W 39 5 Tryd.underlying39 Tryd.underlying5 b off _ c' _ rfl (fun x hx => by
      have := hra x hx
      unfold World.cell? at this ⊢
      rw [hW]
      exact this) 9 Tryd.underlying9
def SmallRecs (x : Hf) (i : Nat) : Prop := x.ep ≤ i ∧ x.rs.length ≤ 4 * i ∧ ∀ r ∈ x.rs, r.length ≤ 300
def LawRel (w : World) (B0 d rm sz cN n : Nat) (iv jv : Value) (wr : World) : Prop :=
  ∃ i x cont j, i ≤ n ∧ iv = .int .i64 (i : Nat) ∧ jv = .pointer (some ⟨j, 0, none⟩) ∧ JOn wr B0 j d 0 rm sz cN x cont ∧ Inv sz 0 rm cN cont x ∧ SmallRecs x i ∧ Chg (fun _ => False) w wr
def CmpRel (w2 : World) (N : Nat) (kv : Value) (wr : World) : Prop := ∃ q : Nat, q ≤ N ∧ kv = .int .i64 q ∧ Chg (fun _ => False) w2 wr
theorem play_small {sz fi rm : Nat} {cont cont' : Nat → List Int} {x x' : Hf} {k r : Int} {b : List (List Int)} {i : Nat} (h : AppR sz fi rm cont x (playH k x) (playR k b) r x' cont') (hx : SmallRecs x i) (hb : b.length ≤ 4 ∧ ∀ y ∈ b, y.length ≤ 300) : SmallRecs x' (i + 1) ∧ (r ≠ 0 → x' = x) := by
  obtain ⟨h1, h2, h3⟩ := hx
  have hpr : (playR k b).length ≤ 4 ∧ ∀ y ∈ playR k b, y.length ≤ 300 := by
    unfold playR
    split
    · exact hb
    · refine ⟨by simp, fun y hy => ?_⟩
      obtain rfl := List.mem_singleton.1 hy
      cases b with
      | nil => simp
      | cons a tl => exact hb.2 a (by simp)
  have hph : (playH k x).ep ≤ i + 1 ∧ (playH k x).rs.length ≤ 4 * i ∧ ∀ y ∈ (playH k x).rs, y.length ≤ 300 := by
    unfold playH
    split
    · exact ⟨by omega, h2, h3⟩
    · exact ⟨by show x.ep + 1 ≤ i + 1; omega, by simp [resetH], fun y hy => by simp [resetH] at hy⟩
  rcases h with ⟨h, rfl, _, _⟩ | ⟨h, _, _, rfl, _⟩
  · exact ⟨⟨by omega, by omega, h3⟩, fun _ => rfl⟩
  · refine ⟨⟨hph.1, ?_, fun y hy => ?_⟩, fun e => absurd h e⟩
    · show ((playH k x).rs ++ playR k b).length ≤ 4 * (i + 1)
      rw [List.length_append]
      omega
    · rcases List.mem_append.1 (show y ∈ (playH k x).rs ++ playR k b from hy) with e | e
      · exact hph.2.2 y e
      · exact hpr.2 y e
theorem lenF_small {b : List (List Int)} (h : ∀ y ∈ b, y.length ≤ 300) : lenF b ≤ 304 * b.length := by
  induction b with
  | nil => simp [lenF]
  | cons a tl ih =>
    have h1 := h a (by simp)
    have h2 := ih (fun y hy => h y (by simp [hy]))
    simp only [lenF, List.length_cons]
    omega

set_option maxRecDepth 100000 in
set_option maxHeartbeats 8000000 in
theorem jLaw {w : World} {P : Nat → Prop} {A : Option Addr} {n c : Nat} {ops : List OpV} {size cnt : Int} (h : OpsAt w P A n ops) (hP : ∀ k, P k → k < w.heap.size) (hn : n ≤ 9223372036854775807) (hby : ∀ i, i < n → ∀ r ∈ (ops.getD i op0).batch, Byts r) (hk : Kst w) :
    Calls Tryd.prog 3 #[.int .i64 size, .int .i64 cnt, .slice A n c] w (fun e w' => e = .returned (.bool true) ∧ Chg (fun _ => False) w w') := by
  have HK := Lib.hid hk
  have hkl := hk.lt
  obtain ⟨B0, hB0⟩ : ∃ B0, w.heap.size = B0 := ⟨_, rfl⟩
  rw [hB0] at hkl
  have HB0 := Lib.hid hB0
  have HO := Lib.hid h
  have HP := Lib.hid hP
  have HBY := Lib.hid hby
  clear hk hB0 h hP hby
  go_enter Tryd.func3, Tryd.ntmps3
  go_wp2_with fail
  refine (jAwake HK.out).mono ?_
  rintro e w1 ⟨rfl, hc1⟩
  have HC1 := Lib.hid hc1
  clear hc1
  go_wp2_with fail
  refine (jSmall (HO.out.chg HC1.out (fun _ _ h => h)) hn).mono ?_
  rintro e w1' ⟨h11, b, rfl, hb⟩
  rw [h11]
  clear h11
  cases b with
  | false =>
    clear hb
    go_wp2
    go_ret
    exact ⟨rfl, HC1.out⟩
  | true =>
    obtain ⟨hs0, hs1, hc4, hc24, hn30, hsm⟩ := hb rfl
    have HSM := Lib.hid hsm
    clear hb hsm
    obtain ⟨sz, rfl⟩ : ∃ sz : Nat, size = (sz : Int) := Int.eq_ofNat_of_zero_le (by omega)
    obtain ⟨cN, rfl⟩ : ∃ cN : Nat, cnt = (cN : Int) := Int.eq_ofNat_of_zero_le (by omega)
    obtain ⟨rm, hrm⟩ : ∃ rm, cN / 2 = rm := ⟨_, rfl⟩
    have hrm1 : 2 ≤ rm ∧ rm ≤ 12 ∧ 2 * rm ≤ cN := by omega
    have HRM := Lib.hid hrm
    clear hrm
    go_wp2_with fail
    refine (dNew (sz := sz) (n := cN) (by omega) (by omega) (by omega) (by omega)).mono ?_
    rintro e w2 ⟨d, F, rfl, hD, hd, hF, hbel⟩
    have hc2 : Chg (fun _ => False) w1 w2 := ⟨hbel.os, hbel.tape, hbel.output, hbel.size, fun k hk _ => hbel.block k hk⟩
    have HD := Lib.hid hD
    have HF := Lib.hid hF
    have HC2 := Lib.hid (HC1.out.trans hc2)
    have HC12 := Lib.hid hc2
    clear hD hd hF hbel hc2
    go_wp2_with fail
    refine (jOpenD (B0 := B0) (fi := 0) (cnt := cN) (rm := rm) HD.out (fun k h => by have := HF.out k h; have := HC1.out.size; have := HB0.out; omega) (by have := HC2.out.size; have := HB0.out; omega) (inv_zero (by omega) (by omega)) (by omega) (by omega) (by omega) (by omega) (by omega) HRM.out (by omega) (HK.out.chg HC2.out (fun h => h))).mono ?_
    rintro e w3 ⟨j0, rfl, hj, _, hc3⟩
    have HJ := Lib.hid hj
    have HC3 := Lib.hid (HC2.out.trans hc3)
    clear hj hc3
    go_wp2
    go_loopw [11, 9] (fun iv jv wr => LawRel w B0 d rm sz cN n iv jv wr) (fun iv _ _ => n - (intOf iv).toNat)
    case atStart => exact ⟨0, zeroH, _, j0, Nat.zero_le _, rfl, rfl, HJ.out, inv_zero (by omega) (by omega), ⟨Nat.le_refl _, Nat.le_refl _, fun r hr => by simp [zeroH] at hr⟩, HC3.out⟩
    case round =>
      obtain ⟨i, x, cont, j, hi, rfl, rfl, hj, hinv, hsr, hch⟩ := hrel
      have HJR := Lib.hid hj
      have HINV := Lib.hid hinv
      have HSR := Lib.hid hsr
      have HCH := Lib.hid hch
      clear hj hinv hsr hch
      by_cases hlt : i < n
      · have hlti : (i : Int) < (n : Int) := by omega
        obtain ⟨_, hops⟩ := HO.out.chg HCH.out (fun _ _ h => h)
        obtain ⟨ad, A1, n1, c1, Nv, v3, rfl, hpa, p0, p1, p2, p3, hnc, hrd⟩ := hops i hlt
        obtain ⟨op, hop⟩ : ∃ op, ops.getD i op0 = op := ⟨_, rfl⟩
        rw [hop] at p0 hrd
        have HOP := Lib.hid hop
        have HRD := Lib.hid hrd
        have HN1 := Lib.hid hrd.1
        obtain ⟨kd, hkd⟩ : ∃ kd, op.kind = kd := ⟨_, rfl⟩
        rw [hkd] at p0
        have HKD := Lib.hid hkd
        clear hops hop hrd hkd
        by_cases hk2 : (2 : Int) < kd
        · go_wp2
          go_roundw
          case rel => exact ⟨i + 1, x, cont, j, by omega, by simp, rfl, HJR.out, HINV.out, ⟨by have := HSR.out.1; omega, by have := HSR.out.2.1; omega, HSR.out.2.2⟩, HCH.out⟩
          case measure => simp [intOf]; omega
        · obtain ⟨hsb, hsl⟩ : op.batch.length ≤ 4 ∧ ∀ y ∈ op.batch, y.length ≤ 300 := by
            have := HSM.out i hlt
            rw [HOP.out] at this
            exact this
          have hrecs : Recs op.batch := by
            have := HBY.out i hlt
            rw [HOP.out] at this
            exact fun r hr => ⟨this r hr, by have := hsl r hr; omega⟩
          have hlf : lenF op.batch ≤ 90000 := by
            have := lenF_small hsl
            omega
          have HSB := Lib.hid (And.intro hsb hsl)
          have HRECS := Lib.hid hrecs
          have HLF := Lib.hid hlf
          have hxl : x.rs.length ≤ 4 * i := HSR.out.2.1
          clear hsb hsl hrecs hlf
          obtain ⟨N, hN⟩ : ∃ N, x.rs.length = N := ⟨_, rfl⟩
          have HN := Lib.hid hN
          have hus := HINV.out.wf.us
          obtain ⟨LV, hLV⟩ : ∃ LV, leftF sz rm x.us = LV := ⟨_, rfl⟩
          have HLV := Lib.hid hLV
          clear hLV
          go_wp2_with fail
          refine (jRecords HJR.out (by omega) (fun r hr => by have := HSR.out.2.2 r hr; omega)).mono ?_
          rintro e w4 ⟨v, R4, E4, rfl, hrec4, _, _, hc4'⟩
          obtain ⟨A4, c4, rfl⟩ := hrec4.slice
          rw [hN]
          clear hN
          have HC4 := Lib.hid hc4'
          clear hrec4 hc4'
          go_wp2_with fail
          refine (jLeft (HJR.out.chg HC4.out) hus (by omega) (by omega)).mono ?_
          rintro e w5 ⟨rfl, k5, h5⟩
          rw [HLV.out]
          have HC5 := Lib.hid (show Chg (fun _ => False) wr w5 by rw [h5]; exact HC4.out.drewN _)
          clear h5
          have r0 := HC5.out.cell p0 (fun h => h)
          have r1 := HC5.out.cell p1 (fun h => h)
          have r2 := HC5.out.cell p2 (fun h => h)
          have r3 := HC5.out.cell p3 (fun h => h)
          go_wp2_with fail
          refine (jPlay (k := kd) (HJR.out.chg HC5.out) HINV.out (by omega) (by omega) (by omega) (by omega) (by omega) (by have := HSR.out.1; omega) (HRD.out.chg HC5.out (fun _ _ h => h)) (fun q hq => by have := HP.out q hq; have := HCH.out.size; have := HC5.out.size; omega) hnc (by have := HN1.out; have := HSB.out.1; omega) HLF.out HRECS.out (HK.out.chg (HCH.out.trans HC5.out) (fun h => h)) hkl).mono ?_
          rintro e w6 ⟨r, x', cont', rfl, hap, hj6, hi6, hc6⟩
          obtain ⟨hsr6, hrx⟩ := play_small hap HSR.out HSB.out
          have HJ6 := Lib.hid hj6
          have HI6 := Lib.hid hi6
          have HSR6 := Lib.hid hsr6
          have HRX := Lib.hid hrx
          have HC6 := Lib.hid ((HCH.out.trans HC5.out).trans' hc6 (U := fun _ => False) (fun _ _ h => h) (fun k hk h => by have := HB0.out; omega))
          obtain ⟨N', hN'⟩ : ∃ N', x'.rs.length = N' := ⟨_, rfl⟩
          have HN' := Lib.hid hN'
          have hxl' : N' ≤ 4 * (i + 1) := by rw [← hN']; exact hsr6.2.1
          have hus' := hi6.wf.us
          clear hap hj6 hi6 hc6 hsr6 hrx r0 r1 r2 r3 p0 p1 p2 p3
          go_wp2_with fail
          refine (jRecords HJ6.out (by omega) (fun r hr => by have := HSR6.out.2.2 r hr; omega)).mono ?_
          rintro e w7 ⟨v, R7, E7, rfl, hrec7, _, _, hc7⟩
          obtain ⟨A7, c7, rfl⟩ := hrec7.slice
          rw [hN']
          rw [hN'] at hrec7
          have HREC7 := Lib.hid hrec7
          have HC67 := Lib.hid hc7
          have HC7 := Lib.hid (HC6.out.trans hc7)
          have HJ7 := Lib.hid (HJ6.out.chg hc7)
          clear hrec7 hc7 hN'
          go_upto_region 16 with fail
          go_cut [79] from 63 to 79 (fun v79 wx => v79 = .bool false ∧ Chg (fun _ => False) w7 wx)
          case first =>
            by_cases hr0 : r = 0
            · subst hr0
              go_wp2
              go_meet
              case rel => exact ⟨rfl, Chg.refl _ _⟩
            · have hr0b : (r == 0) = false := by simp [hr0]
              have hxx := HRX.out hr0
              have hNN : N' = N := by have h1 := HN'.out; have h2 := HN.out; rw [hxx] at h1; omega
              subst hNN
              have HXX := Lib.hid hxx
              clear hxx
              go_wp2_with fail
              refine (jLeft HJ7.out hus' (by omega) (by omega)).mono ?_
              rintro e w8 ⟨rfl, k8, h8⟩
              rw [show leftF sz rm x'.us = LV by rw [HXX.out]; exact HLV.out]
              have HC8 := Lib.hid (show Chg (fun _ => False) w7 w8 by rw [h8]; exact (Chg.refl _ _).drewN _)
              clear h8
              go_wp2
              go_meet
              case rel => exact ⟨rfl, HC8.out⟩
          case rest =>
            obtain ⟨rfl, hcc⟩ := hcut
            have HCC := Lib.hid hcc
            have HJC := Lib.hid (HJ7.out.chg hcc)
            clear hcc
            go_wp2_with fail
            refine (jOpenJ (fi := 0) (cnt := cN) (rm := rm) HJC.out HI6.out (by omega) (by omega) (by omega) (by omega) (by omega) HRM.out (by omega) (HK.out.chg (HC7.out.trans HCC.out) (fun h => h))).mono ?_
            rintro e w9 ⟨j', rfl, hj9, _, hc9⟩
            have HJ9 := Lib.hid hj9
            have HJO9 := Lib.hid (HJC.out.chg hc9)
            have HC9 := Lib.hid (HCC.out.trans hc9)
            clear hj9 hc9
            obtain ⟨rvk, _, _, _, hjdk, _⟩ := HJ9.out
            obtain ⟨rvj, _, _, _, hjdj, _⟩ := HJO9.out
            have HJDK := Lib.hid hjdk
            have HJDJ := Lib.hid hjdj
            clear hjdk hjdj
            go_wp2_with fail
            refine (jEpoch HJDK.out).mono ?_
            rintro e w10 ⟨rfl, h10⟩
            rw [h10]
            clear h10
            go_wp2_with fail
            refine (jEpoch HJDJ.out).mono ?_
            rintro e w10 ⟨rfl, h10⟩
            rw [h10]
            clear h10
            obtain ⟨LV', hLV'⟩ : ∃ LV', leftF sz rm x'.us = LV' := ⟨_, rfl⟩
            have HLV' := Lib.hid hLV'
            clear hLV'
            go_wp2_with fail
            refine (jLeft HJ9.out hus' (by omega) (by omega)).mono ?_
            rintro e w10 ⟨rfl, k10, h10⟩
            rw [HLV'.out]
            have HC10 := Lib.hid (show Chg (fun _ => False) w9 w10 by rw [h10]; exact (Chg.refl _ _).drewN _)
            clear h10
            go_wp2_with fail
            refine (jLeft (HJO9.out.chg HC10.out) hus' (by omega) (by omega)).mono ?_
            rintro e w11 ⟨rfl, k11, h11⟩
            rw [HLV'.out]
            have HC11 := Lib.hid (show Chg (fun _ => False) w9 w11 by rw [h11]; exact HC10.out.drewN _)
            clear h11
            go_wp2_with fail
            refine (jRecords (HJ9.out.chg HC11.out) (by have := HN'.out; omega) (fun r hr => by have := HSR6.out.2.2 r hr; omega)).mono ?_
            rintro e w12 ⟨v, R12, E12, rfl, hrec12, _, _, hc12⟩
            obtain ⟨A12, c12, rfl⟩ := hrec12.slice
            rw [HN'.out]
            rw [HN'.out] at hrec12
            have HREC12 := Lib.hid hrec12
            have HC12' := Lib.hid (HC9.out.trans (HC11.out.trans hc12))
            have HCK12 := Lib.hid (HC11.out.trans hc12)
            clear hrec12 hc12
            go_wp2
            go_loopw [19] (fun kv wx => CmpRel w12 N' kv wx) (fun kv _ => N' - (intOf kv).toNat)
            case atStart => exact ⟨0, Nat.zero_le _, rfl, Chg.refl _ _⟩
            case round =>
              obtain ⟨q, hq, rfl, hcq⟩ := hrel
              have HCQ := Lib.hid hcq
              clear hcq
              by_cases hqN : q < N'
              · have hqi : (q : Int) < (N' : Int) := by omega
                obtain ⟨g7, B7, d7, l7, rfl, s1, s2⟩ := rec_strW (HREC7.out.chg (HC12'.out.trans HCQ.out) (fun _ _ h => h) (fun _ _ h => h)) HN'.out hqN
                obtain ⟨g12, B12, d12, l12, rfl, t1, t2⟩ := rec_strW (HREC12.out.chg HCQ.out (fun _ _ h => h) (fun _ _ h => h)) HN'.out hqN
                obtain ⟨S, hS⟩ : ∃ S, strOfNums (x'.rs.getD q []) = S := ⟨_, rfl⟩
                rw [hS] at s2 t2
                have s3 : ∀ k, _ := fun k => s2 (wr.drewN k) rfl
                have t3 : ∀ k, _ := fun k => t2 (wr.drewN k) rfl
                have s4 := s2 wr rfl
                have t4 := t2 wr rfl
                clear s2 t2 hS
                go_wp2
                go_quiet (fail)
                go_wp2
                go_roundw
                case rel => exact ⟨q + 1, by omega, by simp, HCQ.out.drewN _⟩
                case measure => simp [intOf]; omega
              · have hqi : ¬ (q : Int) < (N' : Int) := by omega
                go_wp2
                go_roundw
                case rel => exact ⟨i + 1, x', cont', j', by omega, by simp, rfl, HJ9.out.chg (HCK12.out.trans HCQ.out), HI6.out, HSR6.out, HC7.out.trans (HC12'.out.trans HCQ.out)⟩
                case measure => simp [intOf]; omega
      · have hlti : ¬ (i : Int) < (n : Int) := by omega
        go_wp2
        go_ret
        exact ⟨rfl, HCH.out⟩
end Go.Proofs.YtapapedpecpfgaaDoor.J
