/- sha256's State: Sum. -/
import Derived.Test.YtapapedpecpfgaaDoorJS
set_option linter.unusedVariables false
set_option linter.unusedSimpArgs false
namespace Go.Proofs.YtapapedpecpfgaaDoor.J
open Go.RowKit Go.Proofs.YtapapedpecpfgaaDoorW.PrintWords

def padN : Nat → List Int → List Int
  | 0, xs => xs
  | k + 1, xs => if xs.length % 64 = 56 then xs else padN k (xs ++ [0])
theorem padN_end {k : Nat} {xs : List Int} (h : xs.length % 64 = 56) : padN k xs = xs := by
  cases k with
  | zero => rfl
  | succ k => exact if_pos h
def PadRel (w4 : World) (g : Nat) (rest : List Int) (tv : Value) (wr : World) : Prop :=
  ∃ k ys, tv = .slice (some ⟨g, 0, none⟩) k 128 ∧ Room wr g 105 128 ys ∧ ys.length = k ∧ k ≤ 120 ∧ padN (120 - k) ys = padN (119 - rest.length) (rest ++ [128]) ∧ Chg (fun k => k = g) w4 wr
def padF (rest : List Int) : List Int := padN (119 - rest.length) (rest ++ [128])
def byteAt (n j : Nat) : Int := (n : Int) * 8 / 2 ^ (56 - 8 * j) % 256
def lenL (n j : Nat) : List Int := (List.range j).map (byteAt n)
theorem lenL_length (n j : Nat) : (lenL n j).length = j := by simp [lenL]
theorem lenL_succ (n j : Nat) : lenL n (j + 1) = lenL n j ++ [byteAt n j] := by simp [lenL, List.range_succ]
theorem lenL0 {n : Nat} {ys : List Int} : ys ++ lenL n 0 = ys := by simp [lenL]
def LenRel (wk : World) (g k n : Nat) (ys : List Int) (tv sv : Value) (wr : World) : Prop :=
  ∃ j, j ≤ 8 ∧ tv = .slice (some ⟨g, 0, none⟩) (k + j) 128 ∧ sv = .int .i64 (56 - 8 * (j : Int)) ∧ Room wr g 105 128 (ys ++ lenL n j) ∧ Chg (fun k => k = g) wk wr
def z32 : Array Value := #[Value.int IntKind.u8 0, Value.int IntKind.u8 0, Value.int IntKind.u8 0, Value.int IntKind.u8 0, Value.int IntKind.u8 0, Value.int IntKind.u8 0, Value.int IntKind.u8 0, Value.int IntKind.u8 0, Value.int IntKind.u8 0, Value.int IntKind.u8 0, Value.int IntKind.u8 0, Value.int IntKind.u8 0, Value.int IntKind.u8 0, Value.int IntKind.u8 0, Value.int IntKind.u8 0, Value.int IntKind.u8 0, Value.int IntKind.u8 0, Value.int IntKind.u8 0, Value.int IntKind.u8 0, Value.int IntKind.u8 0, Value.int IntKind.u8 0, Value.int IntKind.u8 0, Value.int IntKind.u8 0, Value.int IntKind.u8 0, Value.int IntKind.u8 0, Value.int IntKind.u8 0, Value.int IntKind.u8 0, Value.int IntKind.u8 0, Value.int IntKind.u8 0, Value.int IntKind.u8 0, Value.int IntKind.u8 0, Value.int IntKind.u8 0]
theorem wpl_load_V {ops : Array Oper} {rest : List Oper} {o : Oper} {a : Act} {w : World} {Q : Exit → Act → World → Prop} {vb : Nat} {v : List Int} {x : Operand} (h : Vw w vb 101 v []) (hgd : o.guard = none) (ho : o.op = .load 101 x)
    (hx : a.eval x = .pointer (some ⟨vb, 0, none⟩)) (hq : wpList Tryd.prog ops Q rest (a.put o.dst (.agg (nums .u32 v).toArray)) w) : wpList Tryd.prog ops Q (o :: rest) a w := by
  obtain ⟨hb, hl⟩ := h
  rw [List.append_nil] at hb
  exact wpList_load_row hgd 101 _ ho vb hx 101 _ (0, 0) _ hb Tryd.underlying101 rfl (by rw [List.size_toArray, nums_length, hl]; exact info101.trans (by rfl)) hq
def b4 (x : Int) : List Int := [x / 16777216 % 256, x / 65536 % 256, x / 256 % 256, x % 256]
def outL (v : List Int) : Nat → List Int
  | 0 => []
  | i + 1 => outL v i ++ b4 (v[i]?.getD 0)
theorem outL_length (v : List Int) (i : Nat) : (outL v i).length = 4 * i := by
  induction i with
  | zero => rfl
  | succ i ih => simp [outL, b4, ih]; omega
def OutRel (w6 : World) (g2 : Nat) (v : List Int) (tv iv : Value) (wr : World) : Prop :=
  ∃ i, i ≤ 8 ∧ tv = .slice (some ⟨g2, 0, none⟩) (4 * i) 32 ∧ iv = .int .i64 (i : Int) ∧ Room wr g2 107 32 (outL v i) ∧ Chg (fun i => i = g2) w6 wr
def TailRel (wq : World) (vb g : Nat) (v m : List Int) (tv : Value) (wr : World) : Prop :=
  ∃ off k c xs v', tv = .slice (some ⟨g, off, none⟩) k c ∧ ReadsInt wr .u8 (some ⟨g, off, none⟩) k xs ∧ k ≤ c ∧ k ≤ 128 ∧ k % 64 = 0 ∧ Vw wr vb 101 v' [] ∧ blocksF v' xs = blocksF v m ∧ Chg (fun i => i = vb) wq wr
/-- What Sum returns. -/
def sumF (v rest : List Int) (n : Nat) : ByteArray := strOfNums (outL (blocksF v (padF rest ++ lenL n 8)).1 8)
def SumPost (w : World) (v rest : List Int) (n : Nat) (e : Ending) (w' : World) : Prop :=
  e = .returned (.string (sumF v rest n)) ∧ Chg (fun _ => False) w w'

def Mid (w : World) (g r : Nat) (rest : List Int) (w3 : World) : Prop := Room w3 g 105 128 rest ∧ ReadsInt w3 .u8 (some ⟨w.heap.size, 0, none⟩) 1 [128] ∧ Chg (fun k => k = g) w w3
theorem fin3 {w2 w3 : World} {g r : Nat} {rest : List Int} (hR : Room w3 g 105 128 ([] ++ rest)) (hG : w2.drew.grownBy w3 (some g)) (hS : w3.heap.size = w2.drew.heap.size) : RowKit.Hid (Mid w2 g r rest (w3.alloc (.cells #[.int .u8 128] 5))) := Lib.hid (by
  refine ⟨hR.alloc _, ?_, (((Chg.refl (fun k => k = g) w2).drew).grown hG (fun k hk _ => by injection hk with hk; exact hk.symm)).alloc _⟩
  have := lit_reads w3 5 [128] (by decide)
  rw [show w3.heap.size = w2.heap.size from hS] at this
  exact this)
theorem fin3' {w2 w3 : World} {g r : Nat} {rest : List Int} (hR : Room w3 g 105 128 ([] ++ rest)) (hG : (w2.alloc (.cells #[.int .u8 128] 5)).drew.grownBy w3 (some g)) (hgl : g < w2.heap.size) : RowKit.Hid (Mid w2 g r rest w3) := Lib.hid (by
  refine ⟨hR, ?_, (((Chg.refl (fun k => k = g) w2).alloc _).drew).grown hG (fun k hk _ => by injection hk with hk; exact hk.symm)⟩
  have hc : Chg (fun k => k = g) (w2.alloc (.cells #[.int .u8 128] 5)).drew w3 := (Chg.refl (fun k => k = g) _).grown hG (fun k hk _ => by injection hk with hk; exact hk.symm)
  refine rd_chg (w := (w2.alloc (.cells #[.int .u8 128] 5)).drew) (lit_reads w2 5 [128] (by decide)) hc (fun ad e h => ?_)
  injection e with e
  subst e
  have h : w2.heap.size = g := h
  omega)
theorem info105 : (Tryd.prog.info? 105).map (·.size) = some 128 := by kernel_rfl
set_option maxRecDepth 100000 in
set_option maxHeartbeats 1000000 in
theorem sSum {w : World} {s n : Nat} {v rest : List Int} {F : Nat → Prop} (hS : StAt w s v rest n F) (hr : rest.length < 64) (hn : n ≤ 1000000000000) (hk : Kst w) :
    Calls Tryd.prog 51 #[.pointer (some ⟨s, 0, none⟩)] w (SumPost w v rest n) := by
  obtain ⟨rv, hI, hFs, hFr⟩ := hS
  clear hFs hFr
  obtain ⟨r, hrl⟩ : ∃ r, rest.length = r := ⟨_, rfl⟩
  rw [hrl] at hr
  obtain ⟨rA, rc, hrv⟩ : ∃ A c, rv = .slice A rest.length c := own_slice hI.own
  rw [hrl] at hrv
  have h8 := hI.c8
  have h9 := hI.c9
  rw [hrv] at h8
  have d0 := hI.blk.cell (j := 0) (by omega)
  have d1 := hI.blk.cell (j := 1) (by omega)
  have d2 := hI.blk.cell (j := 2) (by omega)
  have d3 := hI.blk.cell (j := 3) (by omega)
  have d4 := hI.blk.cell (j := 4) (by omega)
  have d5 := hI.blk.cell (j := 5) (by omega)
  have d6 := hI.blk.cell (j := 6) (by omega)
  have d7 := hI.blk.cell (j := 7) (by omega)
  have HI := Lib.hid hI
  have HRL := Lib.hid hrl
  have HRV := Lib.hid hrv
  have HK := Lib.hid hk
  clear hI hrl hrv hk
  go_enter Tryd.func51, Tryd.ntmps51
  go_wp2
  have hrr : ReadsInt w .u8 rA r rest := by
    obtain ⟨A', c', e, hr'⟩ := own_reads HI.out.own
    rw [HRV.out] at e
    injection e with e1 e2 e3
    rw [e1, e2]
    exact hr'
  obtain ⟨vb, hvb⟩ : ∃ vb, vb = w.heap.size := ⟨_, rfl⟩
  obtain ⟨g, hg⟩ : ∃ g, g = w.heap.size + 1 := ⟨_, rfl⟩
  have hvl : v.length = 8 := HI.out.blk.2
  have hvw : #[Value.int IntKind.u32 (v[0]?.getD 0), Value.int IntKind.u32 (v[1]?.getD 0), Value.int IntKind.u32 (v[2]?.getD 0), Value.int IntKind.u32 (v[3]?.getD 0), Value.int IntKind.u32 (v[4]?.getD 0), Value.int IntKind.u32 (v[5]?.getD 0), Value.int IntKind.u32 (v[6]?.getD 0), Value.int IntKind.u32 (v[7]?.getD 0)] = (nums .u32 v ++ []).toArray := by
    obtain ⟨a0, a1, a2, a3, a4, a5, a6, a7, rfl⟩ := list8 hvl
    rfl
  rw [hvw]
  have hV : Vw ((w.alloc (Obj.cells (nums .u32 v ++ []).toArray 101)).alloc (Obj.cells Tryd.zeroCells105 105)) vb 101 v [] := ⟨by rw [hvb]; exact blk_alloc (heap_alloc_new _ _) _, hvl⟩
  have hR : Room ((w.alloc (Obj.cells (nums .u32 v ++ []).toArray 101)).alloc (Obj.cells Tryd.zeroCells105 105)) g 105 128 [] := by
    have := Room.new (w.alloc (Obj.cells (nums .u32 v ++ []).toArray 101)) 105 Tryd.zeroCells105
    rw [hg]
    simpa using this
  have hC : Chg (fun _ => False) w ((w.alloc (Obj.cells (nums .u32 v ++ []).toArray 101)).alloc (Obj.cells Tryd.zeroCells105 105)) := ((Chg.refl (fun _ => False) w).alloc _).alloc _
  rw [← hvb, ← (show g = vb + 1 by omega)]
  generalize ((w.alloc (Obj.cells (nums .u32 v ++ []).toArray 101)).alloc (Obj.cells Tryd.zeroCells105 105)) = w2 at hV hR hC ⊢
  replace h8 := hC.cell h8 (fun h => h)
  replace h9 := hC.cell h9 (fun h => h)
  replace hrr := rd_chg hrr hC (fun _ _ h => h)
  have HI := Lib.hid HI.out
  clear d0 d1 d2 d3 d4 d5 d6 d7 hvw
  obtain ⟨i0, hi, hz0, hz1, hz2⟩ := info_parts info5
  have HZ := Lib.hid (And.intro hi hz1)
  clear hi hz0 hz1 hz2
  have hRd : Room w2.drew g 105 128 [] := hR
  have hrd : ReadsInt w2.drew .u8 rA r rest := hrr
  have HRD := Lib.hid hRd
  have HRR := Lib.hid hrd
  have HV := Lib.hid hV
  have HR := Lib.hid hR
  have HC := Lib.hid hC
  have HVL := Lib.hid hvl
  have HVB := Lib.hid hvb
  have HNE := Lib.hid (show ¬ s = g by have := blk_lt HI.out.blk.1; omega)
  have HG := Lib.hid hg
  clear hRd hrd hR hrr hV hC hvl hvb hg
  have hRA : ∀ o, Room (w2.alloc o).drew g 105 128 [] := fun o => HRD.out.alloc o
  have hrA : ∀ o, ReadsInt (w2.alloc o).drew .u8 rA r rest := fun o => reads_al HRR.out o
  have HRA := Lib.hid hRA
  have HrA := Lib.hid hrA
  have hgl : g < w2.heap.size := HR.out.lt
  have HGL := Lib.hid hgl
  have h8a := cell_al h8
  clear hRA hrA hgl
  go_region_law (first
    | (refine step_append_tb (by rfl) _ _ 39 (by rfl) 5 i0 Tryd.underlying39 HZ.out.1 HZ.out.2 (n := 0) (m := r) (cap := 128) (ys := []) (xs := rest) (by rfl) (by rfl) HRD.out rfl HRR.out (by omega) ?_; intro w3 hR3 hG3 hS3; have hK3 := fin3 (r := r) hR3 hG3 hS3; clear hR3 hG3)
    | (refine step_append_tb (by rfl) _ _ 39 (by rfl) 5 i0 Tryd.underlying39 HZ.out.1 HZ.out.2 (n := 0) (m := r) (cap := 128) (ys := []) (xs := rest) (by rfl) (by rfl) (HRA.out _) rfl (HrA.out _) (by omega) ?_; intro w3 hR3 hG3 hS3; have hK3 := fin3' (r := r) hR3 hG3 HGL.out; clear hR3 hG3)
    | (refine step_append_tb (by rfl) _ _ 39 (by rfl) 5 i0 Tryd.underlying39 HZ.out.1 HZ.out.2 (n := r) (m := 1) (cap := 128) (ys := rest) (xs := [128]) (by rfl) (by rfl) hK3.out.1 HRL.out hK3.out.2.1 (by omega) ?_; intro w4 hR4 hG4 hS4; have hK4 := hK3.out.2.2.grown hG4 (fun k hk _ => by injection hk with hk; exact hk.symm); clear hK3 hG4 hS4 hS3))
  all_goals (
    have h9' := hK4.cell h9 (fun e => HNE.out e)
    have HK4 := Lib.hid (HC.out.trans' hK4 (U := fun _ => False) (fun _ _ h => h) (fun i hi e => by have := HG.out; omega))
    have HV4 := Lib.hid (⟨hK4.blk HV.out.1 (fun e => by have := HG.out; have := HVB.out; omega), HVL.out⟩ : Vw w4 vb 101 v [])
    have HR4 := Lib.hid hR4
    clear hR4 hK4 h9 h8 h8a
    go_wp2
    simp only [Act.put, List.setIfInBounds_toArray, List.getElem_toArray, List.getElem_cons_succ, List.getElem_cons_zero, List.set_cons_succ, List.set_cons_zero]
    go_loopw [5] (fun tv wr => PadRel w4 g rest tv wr) (fun tv _ => 120 - sliceLen tv)
    case atStart => exact ⟨_, _, rfl, HR4.out, by simp [HRL.out], by omega, by rw [HRL.out]; congr 1; omega, Chg.refl _ _⟩
    case round =>
      obtain ⟨k, ys, rfl, hRr, hyl, hk, hpad, hch⟩ := hrel
      have HRX := Lib.hid hRr
      have HYL := Lib.hid hyl
      have HPAD := Lib.hid hpad
      have HCH := Lib.hid hch
      have h9w := hch.cell h9' (fun e => HNE.out e)
      clear hRr hyl hpad hch
      by_cases h56 : (k : Int) % 64 = 56
      · have hys : ys = padF rest := by
          have h := HPAD.out
          rw [padN_end (by rw [HYL.out]; omega)] at h
          exact h
        have HYS := Lib.hid hys
        obtain ⟨wk, hwk⟩ : ∃ wk, wk = wr := ⟨_, rfl⟩
        have HWK := Lib.hid hwk
        have HRK := Lib.hid (show Room wk g 105 128 ys by rw [hwk]; exact HRX.out)
        have HCK := Lib.hid (show Chg (fun k => k = g) w4 wk by rw [hwk]; exact HCH.out)
        clear hwk hys HRX HCH
        go_wp2
        rw [h56]
        have h56 : k % 64 = 56 := by omega
        go_loopw [5, 6] (fun tv sv wr => LenRel wk g k n ys tv sv wr) (fun tv _ _ => 128 - sliceLen tv)
        case atStart => exact ⟨0, by omega, rfl, rfl, by rw [lenL0]; rw [← HWK.out]; exact HRK.out, by rw [← HWK.out]; exact Chg.refl _ _⟩
        case round =>
          obtain ⟨j, hj, rfl, rfl, hRj, hchj⟩ := hrel
          have HRJ := Lib.hid hRj
          have HCJ := Lib.hid hchj
          have h9j := (HCK.out.trans hchj).cell h9' (fun e => HNE.out e)
          have hch4 : Chg (fun k => k = g) w4 wr := HCK.out.trans hchj
          have HCH4 := Lib.hid hch4
          clear hRj hchj hch4
          by_cases hj8 : j = 8
          · have hlt : ¬ (0 : Int) ≤ 56 - 8 * (j : Int) := by omega
            subst hj8
            have hkl : k + 8 ≤ 128 := by omega
            have hk64 : (k + 8) % 64 = 0 := by omega
            have hkl0 : 0 < k + 8 := by omega
            have hlen : (ys ++ lenL n 8).length = k + 8 := by rw [List.length_append, HYL.out, lenL_length]
            have hrds : ReadsInt wr .u8 (some ⟨g, 0, none⟩) (k + 8) (ys ++ lenL n 8) := by rw [← hlen]; exact HRJ.out.reads (by rw [hlen]; omega)
            have hvb4 : Vw wr vb 101 v [] := ⟨HCH4.out.blk HV4.out.1 (fun e => by have := HG.out; have := HVB.out; omega), HV4.out.2⟩
            have HRDS := Lib.hid hrds
            have HVB4 := Lib.hid hvb4
            obtain ⟨kk, hkk⟩ : ∃ kk, k + 8 = kk := ⟨_, rfl⟩
            have HKK := Lib.hid hkk
            rw [hkk] at hkl hk64 hkl0
            obtain ⟨wq, hwq⟩ : ∃ wq, wq = wr := ⟨_, rfl⟩
            have HWQ := Lib.hid hwq
            have HCQ := Lib.hid (show Chg (fun k => k = g) w4 wq by rw [hwq]; exact HCH4.out)
            have HKQ : RowKit.Hid (Kst wq) := Lib.hid (by
              obtain ⟨t0, fr0, h0⟩ := HK.out
              have h1 := blk_lt h0
              exact ⟨t0, fr0, HCQ.out.blk (HK4.out.blk h0 (fun h => h)) (fun e => by have := HG.out; omega)⟩)
            clear hlen hrds hvb4 hwq HRJ HCJ hlt h9j h9w
            go_wp2
            rw [hkk]
            rw [show (56 : Int) - 8 * ((8 : Nat) : Int) = -8 from rfl]
            clear hkk
            go_loopw [5] (fun tv wr => TailRel wq vb g v (ys ++ lenL n 8) tv wr) (fun tv _ => sliceLen tv)
            case atStart => exact ⟨0, kk, 128, _, v, rfl, by rw [← HKK.out]; exact HRDS.out, by omega, by omega, hk64, HVB4.out, rfl, by rw [HWQ.out]; exact Chg.refl _ _⟩
            case round =>
              obtain ⟨off, l, c, xs, v', rfl, hx, hlc, hl1, hl64, hv', hbl, hcht⟩ := hrel
              have HX := Lib.hid hx
              have HV' := Lib.hid hv'
              have HBL := Lib.hid hbl
              have HCT := Lib.hid hcht
              have hxl := hx.1
              have HXL := Lib.hid hxl
              clear hx hv' hbl hcht hxl
              by_cases hl0 : l = 0
              · have hl1 : ¬ (0 : Int) < (l : Int) := by omega
                have hv1 : v' = (blocksF v (ys ++ lenL n 8)).1 := by
                  have : xs = [] := List.eq_nil_of_length_eq_zero (by rw [HXL.out]; exact hl0)
                  rw [← HBL.out, this, blocksF_short (by simp)]
                have HV1 := Lib.hid hv1
                have hvlt : vb < wr.heap.size := blk_lt HV'.out.1
                have HVLT := Lib.hid hvlt
                obtain ⟨g2, hg2⟩ : ∃ g2, g2 = wr.heap.size := ⟨_, rfl⟩
                have HG2 := Lib.hid hg2
                clear hv1 hl64
                have hVA : ∀ o, Vw (wr.alloc o) vb 101 v' [] := fun o => ⟨blk_alloc HV'.out.1 o, HV'.out.2⟩
                have HVA := Lib.hid hVA
                have hC1 : ∀ o, Chg (fun _ => False) w (wr.alloc o) := fun o => by
                  have e1 := HK4.out.trans' HCQ.out (U := fun _ => False) (fun _ _ h => h) (fun i hi e => by have := HG.out; omega)
                  exact (e1.trans' HCT.out (U := fun _ => False) (fun _ _ h => h) (fun i hi e => by have := HVB.out; omega)).alloc o
                have HC1 := Lib.hid hC1
                have hg2w : w.heap.size ≤ g2 := by rw [hg2]; have h := (hC1 (.cells #[] 0)).size; have := HVB.out; omega
                have HG2W := Lib.hid hg2w
                clear hvlt hVA hC1 hg2w
                go_wp2_with (first | ((with_reducible show wpList _ _ _ _ _ _); refine wpl_load_V (HVA.out _) rfl (by rfl) (by rfl) ?_))
                rw [← hg2, show (#[Value.int IntKind.u8 0, Value.int IntKind.u8 0, Value.int IntKind.u8 0, Value.int IntKind.u8 0, Value.int IntKind.u8 0, Value.int IntKind.u8 0, Value.int IntKind.u8 0, Value.int IntKind.u8 0, Value.int IntKind.u8 0, Value.int IntKind.u8 0, Value.int IntKind.u8 0, Value.int IntKind.u8 0, Value.int IntKind.u8 0, Value.int IntKind.u8 0, Value.int IntKind.u8 0, Value.int IntKind.u8 0, Value.int IntKind.u8 0, Value.int IntKind.u8 0, Value.int IntKind.u8 0, Value.int IntKind.u8 0, Value.int IntKind.u8 0, Value.int IntKind.u8 0, Value.int IntKind.u8 0, Value.int IntKind.u8 0, Value.int IntKind.u8 0, Value.int IntKind.u8 0, Value.int IntKind.u8 0, Value.int IntKind.u8 0, Value.int IntKind.u8 0, Value.int IntKind.u8 0, Value.int IntKind.u8 0, Value.int IntKind.u8 0] : Array Value) = z32 from rfl]
                have hR6 : Room (wr.alloc (Obj.cells z32 107)) g2 107 32 [] := by
                  have := Room.new wr 107 z32
                  rw [hg2]
                  exact this
                have HC6 := HC1.out (Obj.cells z32 107)
                obtain ⟨w6, hw6⟩ : ∃ w6, wr.alloc (Obj.cells z32 107) = w6 := ⟨_, rfl⟩
                rw [hw6] at hR6 HC6 ⊢
                have HC6 := Lib.hid HC6
                have HR6 := Lib.hid hR6
                have HW6 := Lib.hid hw6
                have HVL' := Lib.hid HV'.out.2
                clear hR6 hg2 hw6
                go_loopw [8, 56] (fun tv iv wr => OutRel w6 g2 v' tv iv wr) (fun tv _ _ => 32 - sliceLen tv)
                case atStart => exact ⟨0, by omega, rfl, rfl, HR6.out, Chg.refl _ _⟩
                case round =>
                  obtain ⟨i, hi8, rfl, rfl, hRi, hci⟩ := hrel
                  have HRI := Lib.hid hRi
                  have HCI := Lib.hid hci
                  clear hRi hci
                  by_cases hi9 : i = 8
                  · have hni : ¬ (i : Int) < 8 := by omega
                    have hcv : (convert 39 9 (.slice (some ⟨g2, 0, none⟩) 32 32)).run Tryd.prog wr = .ok (.string (strOfNums (outL v' i))) wr := room_string Tryd.underlying39 Tryd.underlying5 Tryd.underlying9 HRI.out (by rw [outL_length, hi9])
                    go_wp2
                    go_ret
                    refine ⟨?_, (HC6.out.trans' HCI.out (U := fun _ => False) (fun _ _ h => h) (fun j hj e => by have := HG2W.out; omega))⟩
                    rw [HV1.out, HYS.out]
                    rfl
                  · have hni : (i : Int) < 8 := by omega
                    have hix : (Instr.index 101 (.agg (nums .u32 v').toArray) (.int .i64 (i : Int))).run Tryd.prog wr = .ok (.int .u32 (v'[i]?.getD 0)) wr := by
                      obtain ⟨i1, hi, hz0, hz1, hz2⟩ := info_parts info99
                      have hk' : i < v'.length := by rw [HVL'.out]; omega
                      exact run_index_words 101 99 8 _ i _ .u32 i1 Tryd.underlying101 Tryd.underlying99 hi hz1 (by omega) (by simp [nums, hk']) wr
                    obtain ⟨x, hx⟩ : ∃ x, v'[i]?.getD 0 = x := ⟨_, rfl⟩
                    have HXX := Lib.hid hx
                    rw [hx] at hix
                    clear hx
                    go_wp2_with (at_builtin; refine wpl_append_tb rfl (.tmp 59) (.tmp 71) 39 rfl 5 i0 Tryd.underlying39 HZ.out.1 HZ.out.2 (n := 4 * i) (m := 4) (cap := 32) (ys := outL v' i) (xs := b4 x) rfl rfl (HRI.out.alloc _) (outL_length v' i) (lit_reads _ _ (b4 x) (by simp [b4])) (by omega) ?_; intro w7 hR7 hG7 hS7; have HR7 := Lib.hid hR7; have HG7 := Lib.hid hG7; clear hR7 hG7)
                    go_roundw
                    case rel =>
                      refine ⟨i + 1, by omega, rfl, by simp, ?_, (HCI.out.alloc _).grown HG7.out (fun i hi _ => by injection hi with hi; exact hi.symm)⟩
                      show Room w7 g2 _ 32 (outL v' i ++ b4 (v'[i]?.getD 0))
                      rw [HXX.out]
                      exact HR7.out
                    case measure => simp [sliceLen]; omega
              · have hl00 : (0 : Int) < (l : Int) := by omega
                have hl64' : 64 ≤ l := by omega
                have hli : (64 : Int) ≤ (l : Int) := by omega
                have hci : (64 : Int) ≤ (c : Int) := by omega
                obtain ⟨b', off', e', hra, hbl2⟩ := rd_addr HX.out (by omega)
                injection e' with e1 e2
                subst e1 e2
                have hr64 : ReadsAt wr g off (xs.take 64) := fun j hj => by
                  have h1 : j < 64 := by simp at hj; omega
                  rw [hra j (by rw [HXL.out]; omega)]
                  simp [List.getD_eq_getElem?_getD, List.getElem?_take, h1]
                have HR64 := Lib.hid hr64
                have HL64 := Lib.hid (show (xs.take 64).length = 64 by simp [HXL.out]; omega)
                have HKW : RowKit.Hid (Kst wr) := Lib.hid (by
                  obtain ⟨t0, fr0, h0⟩ := HKQ.out
                  have h1 : 0 ≠ vb := by
                    obtain ⟨t1, fr1, h1⟩ := HK.out
                    have := blk_lt h1
                    have := HVB.out
                    omega
                  exact ⟨t0, fr0, HCT.out.blk h0 h1⟩)
                clear hr64 hra hbl2
                by_cases hcap : c = 64
                · subst hcap
                  obtain rfl : l = 64 := by omega
                  go_wp2_with fail
                  refine (sBlock HV'.out HR64.out HL64.out (by omega) HKW.out).mono ?_
                  rintro e w5 ⟨rfl, hv5, hch5⟩
                  have HV5 := Lib.hid hv5
                  have HC5 := Lib.hid hch5
                  clear hv5 hch5
                  go_wp2
                  go_roundw
                  case rel =>
                    refine ⟨_, 0, 0, [], blockF v' (xs.take 64), rfl, ⟨rfl, by omega, fun h => absurd h (by omega)⟩, by omega, by omega, rfl, HV5.out, ?_, HCT.out.trans HC5.out⟩
                    rw [← HBL.out, blocksF_long (m := xs) (by rw [HXL.out]; exact Nat.le_refl _), List.drop_eq_nil_of_le (by rw [HXL.out]; exact Nat.le_refl _)]
                  case measure => simp [sliceLen]
                · have hcap2 : ¬ ((c : Int) = 64) := by omega
                  go_wp2_with fail
                  refine (sBlock HV'.out HR64.out HL64.out (by omega) HKW.out).mono ?_
                  rintro e w5 ⟨rfl, hv5, hch5⟩
                  have HV5 := Lib.hid hv5
                  have HC5 := Lib.hid hch5
                  clear hv5 hch5
                  go_wp2
                  go_roundw
                  case rel =>
                    refine ⟨off + 64, l - 64, c - 64, xs.drop 64, blockF v' (xs.take 64), rfl, rd_chg (rd_drop HX.out 64 hl64') HC5.out (fun ad h e => by injection h with h; subst h; have h2 : g = vb := e; have := HG.out; have := HVB.out; omega), by omega, by omega, by omega, HV5.out, ?_, HCT.out.trans HC5.out⟩
                    rw [← HBL.out, blocksF_long (m := xs) (by rw [HXL.out]; exact hl64')]
                  case measure => simp [sliceLen]; omega
          · have hlt : (0 : Int) ≤ 56 - 8 * (j : Int) := by omega
            go_wp2_with (at_builtin; refine wpl_append_tb rfl (.tmp 34) (.tmp 44) 39 rfl 5 i0 Tryd.underlying39 HZ.out.1 HZ.out.2 (n := k + j) (m := 1) (cap := 128) (ys := ys ++ lenL n j) (xs := [byteAt n j]) rfl rfl (HRJ.out.alloc _) (by rw [List.length_append, HYL.out, lenL_length]) (lit_reads _ _ [byteAt n j] (by simp)) (by omega) ?_; intro w5 hR5 hG5 hS5; have HR5 := Lib.hid hR5; have HG5 := Lib.hid hG5; clear hR5 hG5)
            go_roundw
            case rel =>
              refine ⟨j + 1, by omega, by simp; omega, by simp; omega, ?_, (HCJ.out.alloc _).grown HG5.out (fun i hi _ => by injection hi with hi; exact hi.symm)⟩
              rw [lenL_succ, ← List.append_assoc]
              exact HR5.out
            case measure => simp [sliceLen]; omega
      · have hkk : k ≤ 119 := by omega
        go_wp2_with (at_builtin; refine wpl_append_tb rfl (.tmp 27) (.tmp 28) 39 rfl 5 i0 Tryd.underlying39 HZ.out.1 HZ.out.2 (n := k) (m := 1) (cap := 128) (ys := ys) (xs := [0]) rfl rfl (HRX.out.alloc _) HYL.out (lit_reads _ _ [0] (by decide)) (by omega) ?_; intro w5 hR5 hG5 hS5; have HR5 := Lib.hid hR5; have HG5 := Lib.hid hG5; clear hR5 hG5)
        go_roundw
        case rel =>
          refine ⟨k + 1, ys ++ [0], rfl, HR5.out, by simp [HYL.out], by omega, ?_, (HCH.out.alloc _).grown HG5.out (fun i hi _ => by injection hi with hi; exact hi.symm)⟩
          rw [← HPAD.out, show 120 - k = (120 - (k + 1)) + 1 by omega]
          exact (if_neg (by rw [HYL.out]; omega)).symm
        case measure => simp [sliceLen]; omega)
end Go.Proofs.YtapapedpecpfgaaDoor.J
