/- sha256's block. -/
import Derived.Test.YtapapedpecpfgaaDoorJM
set_option linter.unusedVariables false
set_option linter.unusedSimpArgs false
namespace Go.Proofs.YtapapedpecpfgaaDoor.J
open Go.RowKit Go.Proofs.YtapapedpecpfgaaDoorW.PrintWords

/-- The constants. -/
def KS : List Int := [1116352408, 1899447441, 3049323471, 3921009573, 961987163, 1508970993, 2453635748, 2870763221, 3624381080, 310598401, 607225278, 1426881987, 1925078388, 2162078206, 2614888103, 3248222580, 3835390401, 4022224774, 264347078, 604807628, 770255983, 1249150122, 1555081692, 1996064986, 2554220882, 2821834349, 2952996808, 3210313671, 3336571891, 3584528711, 113926993, 338241895, 666307205, 773529912, 1294757372, 1396182291, 1695183700, 1986661051, 2177026350, 2456956037, 2730485921, 2820302411, 3259730800, 3345764771, 3516065817, 3600352804, 4094571909, 275423344, 430227734, 506948616, 659060556, 883997877, 958139571, 1322822218, 1537002063, 1747873779, 1955562222, 2024104815, 2227730452, 2361852424, 2428436474, 2756734187, 3204031479, 3329325298]
theorem KS_length : KS.length = 64 := by decide
/-- The package's variable holds them. -/
def Kst (w : World) : Prop := ∃ t fr, w.heap[0]? = some (.cells (nums .u32 KS).toArray t fr)
theorem Kst.mv {w w' : World} (h : Kst w) (he : w'.heap[0]? = w.heap[0]?) : Kst w' := by
  obtain ⟨t, fr, h⟩ := h
  exact ⟨t, fr, he.trans h⟩

/-- The eight words of a state, more cells behind them. -/
def Vw (w : World) (b t : Nat) (v : List Int) (tl : List Value) : Prop := w.heap[b]? = some (.cells (nums .u32 v ++ tl).toArray t (0, 0)) ∧ v.length = 8
theorem Vw.cell {w : World} {b t : Nat} {v : List Int} {tl : List Value} (h : Vw w b t v tl) {j : Nat} (hj : j < 8) : w.cell? ⟨b, j, none⟩ = some (.int .u32 (v[j]?.getD 0)) := by
  have h1 : j < v.length := by rw [h.2]; exact hj
  rw [blk_cell h.1 j]
  simp [nums, h1, List.getElem?_append_left]
theorem Vw.set {w : World} {b t : Nat} {v : List Int} {tl : List Value} (h : Vw w b t v tl) {j : Nat} (hj : j < 8) (x : Int) : Vw (w.setCell ⟨b, j, none⟩ (.int .u32 x)) b t (v.set j x) tl := by
  have := blk_set h.1 j (.int .u32 x)
  refine ⟨?_, by simp [h.2]⟩
  rw [this]
  have h1 : j < (nums .u32 v).length := by rw [nums_length, h.2]; exact hj
  have : ((nums .u32 v ++ tl).toArray.setIfInBounds j (.int .u32 x)) = (nums .u32 (v.set j x) ++ tl).toArray := by
    rw [List.setIfInBounds_toArray, List.set_append_left _ _ h1]
    simp [nums, List.map_set]
  rw [this]

theorem sRotQ (x n : Int) (h : rotOk n = true) (w : World) :
    Calls Tryd.prog 63 #[.int .u32 x, .int .i64 n] w fun e w' => e = .returned (.int .u32 (rotF x n)) ∧ w' = w :=
  (sRot x n h w).mono fun _ _ h => ⟨h.1, h.2.symm⟩

theorem info110 : (Tryd.prog.info? 110).map (·.size) = some (nums .u32 KS).toArray.size := by kernel_rfl

theorem list8 {v : List Int} (h : v.length = 8) : ∃ a b c d e f g i, v = [a, b, c, d, e, f, g, i] := by
  match v, h with
  | [a, b, c, d, e, f, g, i], _ => exact ⟨a, b, c, d, e, f, g, i, rfl⟩

theorem wpl_K {ops : Array Oper} {rest : List Oper} {o : Oper} {a : Act} {w : World} {Q : Exit → Act → World → Prop} (h : Kst w) (hgd : o.guard = none) (ho : o.op = .load 110 (.global 0))
    (hk : a.eval (.global 0) = .pointer (some ⟨0, 0, none⟩))
    (hq : wpList Tryd.prog ops Q rest (a.put o.dst (.agg (nums .u32 KS).toArray)) w) : wpList Tryd.prog ops Q (o :: rest) a w := by
  obtain ⟨t, fr, hb⟩ := h
  exact wpList_load_row hgd 110 _ ho 0 hk t _ fr _ hb Tryd.underlying110 rfl info110 hq

theorem run_index_words {P : Program} (t e : TypeId) (n : Nat) (cs : Array Value) (k : Nat) (x : Value) (q : IntKind) (i0 : TypeInfo) (h : P.underlying t = some (.array n e)) (he : P.underlying e = some (.int q)) (hi : P.info? e = some i0) (hs : i0.size = 1) (hk : k < n) (hx : cs[k]? = some x) (W : World) :
    (Instr.index t (.agg cs) (.int .i64 (k : Int))).run P W = .ok x W := by
  simp [Instr.index, run_underlying h, asIntOf, go_sem, part, hk, sizeOf, typeInfo, hi, hs, isAgg, run_underlying he, hx]
theorem info99 : (Tryd.prog.info? 99).map (fun i => (i.zero, i.size, i.bytes)) = some (some (.int .u32 0), 1, 4) := by kernel_rfl
theorem run_index_KS (k : Nat) (hk : k < 64) (W : World) : (Instr.index 110 (.agg (nums .u32 KS).toArray) (.int .i64 (k : Int))).run Tryd.prog W = .ok (.int .u32 (KS[k]?.getD 0)) W := by
  obtain ⟨i0, hi, hz0, hz1, hz2⟩ := info_parts info99
  have hk' : k < KS.length := by rw [KS_length]; exact hk
  exact run_index_words 110 99 64 _ k _ .u32 i0 Tryd.underlying110 Tryd.underlying99 hi hz1 hk (by simp [nums, hk']) W

/-- A round. -/
def t1F (ws : List Int) (k : Nat) (e f g h : Int) : Int :=
  (h + Go.bits .xor .u32 (Go.bits .xor .u32 (rotF e 6) (rotF e 11)) (rotF e 25) + Go.bits .xor .u32 (Go.bits .and .u32 e f) (Go.bits .and .u32 (Go.bits .xor .u32 (if IntKind.u32.signed = true then -1 else IntKind.u32.max) e) g) + KS[k]?.getD 0 + ws[k]?.getD 0) % 4294967296
def t2F (a b c : Int) : Int :=
  (Go.bits .xor .u32 (Go.bits .xor .u32 (rotF a 2) (rotF a 13)) (rotF a 22) + Go.bits .xor .u32 (Go.bits .xor .u32 (Go.bits .and .u32 a b) (Go.bits .and .u32 a c)) (Go.bits .and .u32 b c)) % 4294967296
def stepF (ws : List Int) (k : Nat) : List Int → List Int
  | [a, b, c, d, e, f, g, h] => [(t1F ws k e f g h + t2F a b c) % 4294967296, a, b, c, (d + t1F ws k e f g h) % 4294967296, e, f, g]
  | _ => []
def roundsF (ws v : List Int) : Nat → List Int
  | 0 => v
  | k + 1 => stepF ws k (roundsF ws v k)

theorem stepF_length (ws : List Int) (k : Nat) {v : List Int} (h : v.length = 8) : (stepF ws k v).length = 8 := by
  obtain ⟨a, b, c, d, e, f, g, i, rfl⟩ := list8 h
  rfl
theorem roundsF_length (ws : List Int) {v : List Int} (h : v.length = 8) (k : Nat) : (roundsF ws v k).length = 8 := by
  induction k with
  | zero => exact h
  | succ k ih => exact stepF_length ws k ih
def add8 (v r : List Int) : List Int := List.zipWith (fun x y => (x + y) % 4294967296) v r
theorem add8_length {v r : List Int} (h : v.length = 8) (h' : r.length = 8) : (add8 v r).length = 8 := by simp [add8, h, h']
/-- The words behind a block. -/
def blockF (v bs : List Int) : List Int := add8 v (roundsF (schL bs 48) v 64)
theorem blockF_length {v bs : List Int} (h : v.length = 8) : (blockF v bs).length = 8 := add8_length h (roundsF_length _ h _)
/-- The first i words have been added. -/
def addI (v r : List Int) (i : Nat) : List Int := (add8 v r).take i ++ v.drop i
theorem addI_at {v r : List Int} {i : Nat} (h : v.length = 8) (h' : r.length = 8) (hi : i < 8) : (addI v r i)[i]?.getD 0 = v[i]?.getD 0 := by
  have : ((add8 v r).take i).length = i := by rw [List.length_take, add8_length h h']; omega
  simp only [addI]
  rw [List.getElem?_append_right (by omega), this, Nat.sub_self, List.getElem?_drop, Nat.add_zero]
theorem addI_set {v r : List Int} {i : Nat} (h : v.length = 8) (h' : r.length = 8) (hi : i < 8) : (addI v r i).set i ((v[i]?.getD 0 + r[i]?.getD 0) % 4294967296) = addI v r (i + 1) := by
  have hl : ((add8 v r).take i).length = i := by rw [List.length_take, add8_length h h']; omega
  have ha : i < (add8 v r).length := by rw [add8_length h h']; exact hi
  have hv : i < v.length := by omega
  have hr : i < r.length := by omega
  simp only [addI]
  rw [List.set_append_right _ _ (by omega), hl, Nat.sub_self, List.drop_eq_getElem_cons hv, List.set_cons_zero, List.take_succ_eq_append_getElem ha, List.append_assoc, List.singleton_append]
  simp [add8, hv, hr]

def BlkPost (w : World) (vb t : Nat) (v : List Int) (tl : List Value) (bs : List Int) (e : Ending) (w' : World) : Prop :=
  e = .returned (.tuple #[]) ∧ Vw w' vb t (blockF v bs) tl ∧ Chg (fun k => k = vb) w w'


set_option maxRecDepth 100000 in
set_option maxHeartbeats 4000000 in
theorem sBlock {w : World} {vb t bb off c : Nat} {v bs : List Int} {tl : List Value} (hv : Vw w vb t v tl) (hb : ReadsAt w bb off bs) (hl : bs.length = 64) (hc : 64 ≤ c) (hk : Kst w) :
    Calls Tryd.prog 59 #[.pointer (some ⟨vb, 0, none⟩), .slice (some ⟨bb, off, none⟩) 64 c] w (BlkPost w vb t v tl bs) := by
  have HV := Lib.hid hv
  have HB := Lib.hid hb
  have HL := Lib.hid hl
  have HK := Lib.hid hk
  have hvl : vb < w.heap.size := blk_lt hv.1
  have hbl : bb < w.heap.size := World.block_lt_of_cell? w _ (hb 0 (by omega))
  clear hv hb hl hk
  go_enter Tryd.func59, Tryd.ntmps59
  go_wp2_with fail
  refine (sSched (bs := bs) (wb := w.heap.size) (heap_alloc_new _ _) (HB.out.chg ((Chg.refl (fun _ => False) w).alloc _) (fun h => h)) HL.out (by omega) hc).mono ?_
  rintro e w1 ⟨rfl, hws, hch1⟩
  obtain ⟨wb, hwb⟩ : ∃ wb, wb = w.heap.size := ⟨_, rfl⟩
  have hsz1 : wb < w1.heap.size := by have := hch1.size; simp at this; omega
  rw [← hwb] at hws hch1 ⊢
  have hwl := schL_length bs 48
  obtain ⟨ws, hwse⟩ : ∃ ws, schL bs 48 = ws := ⟨_, rfl⟩
  rw [hwse] at hws hwl
  have hch2 : Chg (fun _ => False) w w1 := ((Chg.refl (fun _ => False) w).alloc _).trans' (U := fun _ => False) hch1 (fun _ _ h => h) (fun i hi h => by omega)
  have hv1 : Vw w1 vb t v tl := ⟨hch2.blk HV.out.1 (fun h => h), HV.out.2⟩
  have hk1 : Kst w1 := by
    obtain ⟨t0, fr0, h0⟩ := HK.out
    exact ⟨t0, fr0, hch2.blk h0 (fun h => h)⟩
  obtain ⟨v0, v1, v2, v3, v4, v5, v6, v7, hvv⟩ := list8 HV.out.2
  have d0 := hv1.cell (j := 0) (by omega)
  have d1 := hv1.cell (j := 1) (by omega)
  have d2 := hv1.cell (j := 2) (by omega)
  have d3 := hv1.cell (j := 3) (by omega)
  have d4 := hv1.cell (j := 4) (by omega)
  have d5 := hv1.cell (j := 5) (by omega)
  have d6 := hv1.cell (j := 6) (by omega)
  have d7 := hv1.cell (j := 7) (by omega)
  rw [hvv] at d0 d1 d2 d3 d4 d5 d6 d7
  simp only [List.getElem?_cons_zero, List.getElem?_cons_succ, Option.getD_some] at d0 d1 d2 d3 d4 d5 d6 d7
  have HWB := Lib.hid hwb
  have HWSE := Lib.hid hwse
  have HWS := Lib.hid hws
  have HCH := Lib.hid hch2
  have HV1 := Lib.hid hv1
  have HK1 := Lib.hid hk1
  have HVV := Lib.hid hvv
  have HWL := Lib.hid hwl
  clear hwb hwse hws hch1 hch2 hv1 hk1 hvv hwl
  go_wp2
  go_quiet (fail)
  go_wp2_with (first | ((with_reducible show wpList _ _ _ _ _ _); refine wpl_K HK1.out rfl (by rfl) (by rfl) ?_))
  go_loopw [5, 6, 7, 8, 9, 10, 11, 12, 54] (fun t5 t6 t7 t8 t9 t10 t11 t12 i wr => ∃ (k : Nat) (a b c d e f g h : Int), k ≤ 64 ∧ i = .int .i64 k ∧ t5 = .int .u32 a ∧ t6 = .int .u32 b ∧ t7 = .int .u32 c ∧ t8 = .int .u32 d ∧ t9 = .int .u32 e ∧ t10 = .int .u32 f ∧ t11 = .int .u32 g ∧ t12 = .int .u32 h ∧
      roundsF ws [v0, v1, v2, v3, v4, v5, v6, v7] k = [a, b, c, d, e, f, g, h] ∧ Chg (fun _ => False) w1 wr) (fun _ _ _ _ _ _ _ _ i _ => 64 - (intOf i).toNat)
  case atStart => exact ⟨0, v0, v1, v2, v3, v4, v5, v6, v7, by omega, rfl, rfl, rfl, rfl, rfl, rfl, rfl, rfl, rfl, rfl, (Chg.refl _ _).drewN nq⟩
  case round =>
    obtain ⟨k, a, b, c', d, e, f, g, h, hk, rfl, rfl, rfl, rfl, rfl, rfl, rfl, rfl, rfl, hr, hcr⟩ := hrel
    have HR := Lib.hid hr
    have HCR := Lib.hid hcr
    clear hr
    by_cases hlt : k < 64
    · have hix := run_index_KS k hlt
      have hwk : wr.cell? ⟨wb, k, none⟩ = some (.int .u32 (ws[k]?.getD 0)) := by
        refine hcr.cell ?_ (fun h => h)
        have := HWS.out.cell (j := k) (by rw [HWL.out]; omega)
        simpa [List.getD_eq_getElem?_getD] using this
      have hk0 : (0 : Int) ≤ (k : Int) := by omega
      have hk1 : (k : Int) < 64 := by omega
      clear hcr
      go_wp2
      go_quiet ((go_at_call 63; exact Calls.quiet_of_same (sRotQ _ _ (by rfl) _)))
      go_wp2_with (go_at_call 63; refine (sRot _ _ (by rfl) _).mono ?_; rintro e w' ⟨rfl, rfl⟩)
      go_roundw
      case rel =>
        refine ⟨k + 1, _, a, b, c', _, e, f, g, by omega, by go_num, rfl, rfl, rfl, rfl, rfl, rfl, rfl, rfl, ?_, HCR.out.drewN nq⟩
        simp only [roundsF, HR.out, stepF]
        rfl
      case measure => simp [intOf]; omega
    · obtain rfl : k = 64 := by omega
      have hrl : [a, b, c', d, e, f, g, h].length = 8 := rfl
      obtain ⟨r, hre⟩ : ∃ r, [a, b, c', d, e, f, g, h] = r := ⟨_, rfl⟩
      have HRE := Lib.hid hre
      have hv2 : Vw wr vb t v tl := ⟨hcr.blk HV1.out.1 (fun h => h), HV1.out.2⟩
      have HV2 := Lib.hid hv2
      have hbf : blockF v bs = add8 v r := by
        rw [blockF, HWSE.out, ← hre]
        have h1 := HR.out
        rw [← HVV.out] at h1
        rw [h1]
      have HBF := Lib.hid hbf
      have hr8 : r.length = 8 := by rw [← hre]; rfl
      have HR8 := Lib.hid hr8
      clear hre hv2 hbf hr8 hcr hrl
      go_wp2
      obtain ⟨w3, rfl⟩ : ∃ wo : World, wo = wr := ⟨_, rfl⟩
      go_loopw [125] (fun i wi => ∃ k : Nat, k ≤ 8 ∧ i = .int .i64 k ∧ Vw wi vb t (addI v r k) tl ∧ Chg (fun k => k = vb) w wi) (fun i _ => 8 - (intOf i).toNat)
      case atStart => exact ⟨0, by omega, rfl, HV2.out, (HCH.out.trans HCR.out).mono (fun _ _ h => h.elim)⟩
      case round =>
        obtain ⟨k, hk, rfl, hvk, hck⟩ := hrel
        have HVK := Lib.hid hvk
        have HCK := Lib.hid hck
        by_cases hlt : k < 8
        · have hcell : wr.cell? ⟨vb, k, none⟩ = some (.int .u32 (v[k]?.getD 0)) := by
            have := hvk.cell hlt
            rwa [addI_at HV.out.2 HR8.out hlt] at this
          have hfr : wr.frozen? ⟨vb, k, none⟩ = false := blk_frozen hvk.1 k
          have hix : ∀ W : World, (Instr.index 101 (.agg #[.int .u32 a, .int .u32 b, .int .u32 c', .int .u32 d, .int .u32 e, .int .u32 f, .int .u32 g, .int .u32 h]) (.int .i64 (k : Int))).run Tryd.prog W = .ok (.int .u32 (r[k]?.getD 0)) W := by
            intro W
            obtain ⟨i0, hi, hz0, hz1, hz2⟩ := info_parts info99
            have hk' : k < r.length := by rw [HR8.out]; exact hlt
            have hag : (#[.int .u32 a, .int .u32 b, .int .u32 c', .int .u32 d, .int .u32 e, .int .u32 f, .int .u32 g, .int .u32 h] : Array Value) = (nums .u32 r).toArray := by rw [← HRE.out]; rfl
            rw [hag]
            exact run_index_words 101 99 8 _ k _ .u32 i0 Tryd.underlying101 Tryd.underlying99 hi hz1 hlt (by simp [nums, hk']) W
          have hk0 : (0 : Int) ≤ (k : Int) := by omega
          have hk1 : (k : Int) < 8 := by omega
          clear hvk hck
          go_wp2
          go_region
          go_wp2
          go_roundw
          case rel =>
            refine ⟨k + 1, by omega, by go_num, ?_, (HCK.out.setCell (p := ⟨vb, k, none⟩) (fun _ => rfl) _).drew⟩
            have h1 := HVK.out.set hlt ((v[k]?.getD 0 + r[k]?.getD 0) % 4294967296)
            rw [addI_set HV.out.2 HR8.out hlt] at h1
            exact ⟨blk_drew h1.1, h1.2⟩
          case measure => simp [intOf]; omega
        · obtain rfl : k = 8 := by omega
          clear hvk hck
          go_wp2
          go_end0
          have h8 : addI v r 8 = add8 v r := by
            simp only [addI]
            rw [List.take_of_length_le (by rw [add8_length HV.out.2 HR8.out]; exact Nat.le_refl _), List.drop_eq_nil_of_le (by rw [HV.out.2]; exact Nat.le_refl _), List.append_nil]
          have h1 := HVK.out
          rw [h8] at h1
          exact ⟨rfl, by rw [HBF.out]; exact h1, HCK.out⟩
end Go.Proofs.YtapapedpecpfgaaDoor.J
