/- sha256's schedule. -/
import Derived.Test.YtapapedpecpfgaaDoorJL
set_option linter.unusedVariables false
set_option linter.unusedSimpArgs false
namespace Go.Proofs.YtapapedpecpfgaaDoor.J
open Go.RowKit Go.Proofs.YtapapedpecpfgaaDoorW.PrintWords

/-- Bytes read from a place on. -/
def ReadsAt (w : World) (b off : Nat) (xs : List Int) : Prop := ∀ j, j < xs.length → w.cell? ⟨b, off + j, none⟩ = some (.int .u8 (xs.getD j 0))
theorem ReadsAt.of {w : World} {A : Option Addr} {n : Nat} {xs : List Int} (h : ReadsInt w .u8 A n xs) (h0 : 0 < n) : ∃ b off, A = some ⟨b, off, none⟩ ∧ ReadsAt w b off xs := by
  obtain ⟨hl, _, hr⟩ := h
  obtain ⟨ad, rfl, hc⟩ := hr h0
  have h1 := hc 0 h0
  rw [add_zero'] at h1
  obtain ⟨b, off, spot⟩ := ad
  have hs : spot = none := by
    cases spot with
    | none => rfl
    | some s =>
      unfold World.cell? at h1
      split at h1 <;> simp_all
  subst hs
  refine ⟨b, off, rfl, fun j hj => ?_⟩
  have h2 := hc j (by omega)
  have : (⟨b, off, none⟩ : Addr).add j = ⟨b, off + j, none⟩ := by unfold Addr.add; split <;> simp_all
  rwa [this] at h2
theorem ReadsAt.chg {w w' : World} {b off : Nat} {xs : List Int} {S : Nat → Prop} (h : ReadsAt w b off xs) (hc : Chg S w w') (hb : ¬ S b) : ReadsAt w' b off xs := fun j hj => hc.cell (h j hj) hb

/-- A block of numbers of 32 bits. -/
def Wrd (w : World) (b t : Nat) (ws : List Int) : Prop := w.heap[b]? = some (.cells (nums .u32 ws).toArray t (0, 0))
theorem Wrd.cell {w : World} {b t : Nat} {ws : List Int} (h : Wrd w b t ws) {j : Nat} (hj : j < ws.length) : w.cell? ⟨b, j, none⟩ = some (.int .u32 (ws.getD j 0)) := by
  rw [blk_cell h j]; simp [nums, List.getD_eq_getElem?_getD, List.getElem?_eq_getElem hj]
theorem Wrd.set {w : World} {b t : Nat} {ws : List Int} (h : Wrd w b t ws) (j : Nat) (x : Int) : Wrd (w.setCell ⟨b, j, none⟩ (.int .u32 x)) b t (ws.set j x) := by
  have := blk_set h j (.int .u32 x)
  simpa [Wrd, nums, List.map_set] using this

def pad (l : List Int) : List Int := l ++ List.replicate (64 - l.length) 0
theorem pad_length {l : List Int} (h : l.length ≤ 64) : (pad l).length = 64 := by simp [pad]; omega
theorem pad_at {l : List Int} (j : Nat) : (pad l).getD j 0 = l.getD j 0 := by
  simp only [pad, List.getD_eq_getElem?_getD, List.getElem?_append]
  split
  · rfl
  · rename_i h
    rw [List.getElem?_eq_none (by omega : l.length ≤ j), List.getElem?_replicate]
    split <;> rfl
theorem pad_set {l : List Int} (h : l.length < 64) (x : Int) : (pad l).set l.length x = pad (l ++ [x]) := by
  obtain ⟨m, hm⟩ : ∃ m, 64 - l.length = m + 1 := ⟨64 - l.length - 1, by omega⟩
  have hm2 : 64 - (l ++ [x]).length = m := by simp; omega
  simp only [pad, hm, hm2, List.replicate_succ]
  rw [List.set_append_right _ _ (Nat.le_refl _), Nat.sub_self, List.set_cons_zero]
  simp
theorem pad_set_last {l : List Int} (h : l.length < 64) (x y : Int) : (pad (l ++ [x])).set l.length y = pad (l ++ [y]) := by
  simp only [pad, List.append_assoc]
  rw [List.set_append_right _ _ (Nat.le_refl _), Nat.sub_self]
  simp
theorem pad_zero {l : List Int} (h : l.length < 64) : pad (l ++ [0]) = pad l := by
  obtain ⟨m, hm⟩ : ∃ m, 64 - l.length = m + 1 := ⟨64 - l.length - 1, by omega⟩
  have hm2 : 64 - (l ++ [(0 : Int)]).length = m := by simp; omega
  simp only [pad, hm, hm2, List.replicate_succ]
  simp

/-- The word of bytes 4 t to 4 t + i - 1. -/
def partF (bs : List Int) (t : Nat) : Nat → Int
  | 0 => 0
  | i + 1 => Go.bits .or .u32 (partF bs t i * 256 % 4294967296) (bs[4 * t + i]?.getD 0 % 4294967296)
def wordsF (bs : List Int) (k : Nat) : List Int := (List.range k).map fun t => partF bs t 4
theorem wordsF_length (bs : List Int) (k : Nat) : (wordsF bs k).length = k := by simp [wordsF]
theorem wordsF_succ (bs : List Int) (k : Nat) : wordsF bs (k + 1) = wordsF bs k ++ [partF bs k 4] := by simp [wordsF, List.range_succ]

def nextF (l : List Int) (m : Nat) : Int :=
  (Go.bits .xor .u32 (Go.bits .xor .u32 (rotF (l[m + 14]?.getD 0) 17) (rotF (l[m + 14]?.getD 0) 19)) (l[m + 14]?.getD 0 / 1024) + l[m + 9]?.getD 0 +
    Go.bits .xor .u32 (Go.bits .xor .u32 (rotF (l[m + 1]?.getD 0) 7) (rotF (l[m + 1]?.getD 0) 18)) (l[m + 1]?.getD 0 / 8) + l[m]?.getD 0) % 4294967296
/-- The first m + 16 words of the schedule. -/
def schL (bs : List Int) : Nat → List Int
  | 0 => wordsF bs 16
  | m + 1 => schL bs m ++ [nextF (schL bs m) m]
theorem schL_length (bs : List Int) (m : Nat) : (schL bs m).length = m + 16 := by
  induction m with
  | zero => simp [schL, wordsF]
  | succ m ih => simp only [schL, List.length_append, ih, List.length_singleton]; first | done | omega

def SchPost (w : World) (wb : Nat) (bs : List Int) (e : Ending) (w' : World) : Prop := e = .returned (.tuple #[]) ∧ Wrd w' wb 110 (schL bs 48) ∧ Chg (fun k => k = wb) w w'

set_option maxHeartbeats 2000000 in
theorem sSched {w : World} {wb bb off c : Nat} {bs : List Int} (hw : Wrd w wb 110 (pad [])) (hb : ReadsAt w bb off bs) (hl : bs.length = 64) (hne : bb ≠ wb) (hc : 64 ≤ c) :
    Calls Tryd.prog 62 #[.pointer (some ⟨wb, 0, none⟩), .slice (some ⟨bb, off, none⟩) 64 c] w (SchPost w wb bs) := by
  have HW := Lib.hid hw
  have HB := Lib.hid hb
  have HL := Lib.hid hl
  clear hw hb hl
  go_enter Tryd.func62, Tryd.ntmps62
  go_wp2
  go_loopw [12] (fun v wr => ∃ t : Nat, t ≤ 16 ∧ v = .int .i64 t ∧ Wrd wr wb 110 (pad (wordsF bs t)) ∧ Chg (fun k => k = wb) w wr) (fun v _ => 16 - (intOf v).toNat)
  case atStart => exact ⟨0, by omega, rfl, HW.out, Chg.refl _ _⟩
  case round =>
    obtain ⟨t, ht, rfl, hwr, hch⟩ := hrel
    have HWR := Lib.hid hwr
    have HCH := Lib.hid hch
    clear hwr hch
    by_cases hlt : t < 16
    · go_wp2
      obtain ⟨wo, rfl⟩ : ∃ wo : World, wo = wr := ⟨_, rfl⟩
      go_loopw [23] (fun v wi => ∃ i : Nat, i ≤ 4 ∧ v = .int .i64 i ∧ Wrd wi wb 110 (pad (wordsF bs t ++ [partF bs t i])) ∧ Chg (fun k => k = wb) w wi) (fun v _ => 4 - (intOf v).toNat)
      case atStart => exact ⟨0, by omega, rfl, by rw [show partF bs t 0 = 0 from rfl, pad_zero (by rw [wordsF_length]; omega)]; exact HWR.out, HCH.out⟩
      case round =>
        obtain ⟨i, hi, rfl, hwi, hci⟩ := hrel
        by_cases hil : i < 4
        · have hcb : wr.cell? ⟨bb, off + 4 * t + i, none⟩ = some (.int .u8 (bs.getD (4 * t + i) 0)) := by
            have := hci.cell (HB.out (4 * t + i) (by rw [HL.out]; omega)) hne
            rwa [← Nat.add_assoc] at this
          have hcw : wr.cell? ⟨wb, t, none⟩ = some (.int .u32 (partF bs t i)) := by
            have := hwi.cell (j := t) (by rw [pad_length (by simp [wordsF_length]; omega)]; omega)
            rw [pad_at] at this
            simpa [List.getD_eq_getElem?_getD, wordsF_length] using this
          have hfw : wr.frozen? ⟨wb, t, none⟩ = false := blk_frozen hwi t
          have HWI := Lib.hid hwi
          have HCI := Lib.hid hci
          have ht0 : (0 : Int) ≤ (t : Int) := by omega
          have ht1 : (t : Int) < 64 := by omega
          clear hwi hci
          go_wp2
          go_region
          go_wp2
          go_roundw
          case rel =>
            refine ⟨i + 1, by omega, by go_num, ?_, ((HCI.out.setCell (p := ⟨wb, t, none⟩) (fun _ => rfl) _).drew)⟩
            have h1 := HWI.out.set t (partF bs t (i + 1))
            have h2 := pad_set_last (l := wordsF bs t) (by rw [wordsF_length]; omega) (partF bs t i) (partF bs t (i + 1))
            rw [wordsF_length] at h2
            rw [h2] at h1
            exact blk_drew h1
          case measure => simp [intOf]; omega
        · obtain rfl : i = 4 := by omega
          go_wp2
          go_roundw
          case rel => exact ⟨t + 1, by omega, by go_num, by rw [wordsF_succ]; exact hwi, hci⟩
          case measure => simp [intOf]; omega
    · obtain rfl : t = 16 := by omega
      rw [show ((16 : Nat) : Int) = 16 from rfl]
      go_wp2
      obtain ⟨w1, rfl⟩ : ∃ wo : World, wo = wr := ⟨_, rfl⟩
      go_loopw [7] (fun v wi => ∃ m : Nat, m ≤ 48 ∧ v = .int .i64 ((m : Int) + 16) ∧ Wrd wi wb 110 (pad (schL bs m)) ∧ Chg (fun k => k = wb) w wi) (fun v _ => 64 - (intOf v).toNat)
      case atStart => exact ⟨0, by omega, rfl, HWR.out, HCH.out⟩
      case round =>
        obtain ⟨m, hm, rfl, hwi, hci⟩ := hrel
        have hll := schL_length bs m
        obtain ⟨l, hle⟩ : ∃ l, schL bs m = l := ⟨_, rfl⟩
        rw [hle] at hwi hll
        have HLE := Lib.hid hle
        clear hle
        by_cases hlt2 : m < 48
        · have hcell : ∀ j, j < 64 → wr.cell? ⟨wb, j, none⟩ = some (.int .u32 (l[j]?.getD 0)) := fun j hj => by
            have := hwi.cell (j := j) (by rw [pad_length (by omega)]; exact hj)
            rw [pad_at] at this
            simpa [List.getD_eq_getElem?_getD] using this
          have c1 := hcell (m + 14) (by omega)
          have c2 := hcell (m + 1) (by omega)
          have c3 := hcell (m + 9) (by omega)
          have c4 := hcell m (by omega)
          have c5 := hcell (m + 16) (by omega)
          have hfw : wr.frozen? ⟨wb, m + 16, none⟩ = false := blk_frozen hwi _
          have HWI := Lib.hid hwi
          have HCI := Lib.hid hci
          have HLL := Lib.hid hll
          clear hwi hci hll hcell
          have b0 : (0 : Int) ≤ (m : Int) := by omega
          have b1 : (m : Int) < 48 := by omega
          go_wp2
          go_quiet (fail)
          go_wp2_with (go_at_call 63; refine (sRot _ _ (by rfl) _).mono ?_; rintro e w' ⟨rfl, rfl⟩)
          go_region
          go_wp2
          go_roundw
          case rel =>
            refine ⟨m + 1, by omega, by go_num, ?_, (((HCI.out.drewN (nq + 1)).setCell (p := ⟨wb, m + 16, none⟩) (fun _ => rfl) _))⟩
            have h1 := HWI.out.set (m + 16) (nextF l m)
            have h2 := pad_set (l := l) (by rw [HLL.out]; omega) (nextF l m)
            rw [HLL.out] at h2
            rw [h2] at h1
            have h3 : schL bs (m + 1) = l ++ [nextF l m] := by simp only [schL, HLE.out]
            rw [h3]
            exact h1
          case measure => simp [intOf]; omega
        · obtain rfl : m = 48 := by omega
          go_wp2
          go_end0
          have h4 : pad l = l := by simp [pad, hll]
          rw [h4] at hwi
          exact ⟨rfl, by rw [HLE.out]; exact hwi, hci⟩
end Go.Proofs.YtapapedpecpfgaaDoor.J
