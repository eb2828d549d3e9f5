/- sha256's State: what Write does. -/
import Derived.Test.YtapapedpecpfgaaDoorJN
import Derived.RegionCalls
set_option linter.unusedVariables false
set_option linter.unusedSimpArgs false
namespace Go.Proofs.YtapapedpecpfgaaDoor.J
open Go.RowKit Go.Proofs.YtapapedpecpfgaaDoorW.PrintWords

/-- All whole blocks of m. -/
def blocksF (v m : List Int) : List Int × List Int := if h : m.length < 64 then (v, m) else blocksF (blockF v (m.take 64)) (m.drop 64)
termination_by m.length
decreasing_by simp; omega
theorem blocksF_short {v m : List Int} (h : m.length < 64) : blocksF v m = (v, m) := by unfold blocksF; rw [dif_pos h]
theorem blocksF_long {v m : List Int} (h : 64 ≤ m.length) : blocksF v m = blocksF (blockF v (m.take 64)) (m.drop 64) := by
  rw [blocksF, dif_neg (by omega)]

def sliceLen : Value → Nat | .slice _ n _ => n | _ => 0

/-- A state at block s. -/
structure StIs (w : World) (s : Nat) (v rest : List Int) (n : Nat) (rv : Value) : Prop where
  blk : Vw w s 104 v [rv, .int .i64 n]
  own : w.ownsRow 0 5 1 rv rest.length (nums .u8 rest)
theorem StIs.c8 {w : World} {s : Nat} {v rest : List Int} {n : Nat} {rv : Value} (h : StIs w s v rest n rv) : w.cell? ⟨s, 8, none⟩ = some rv := by
  have hl := h.blk.2
  rw [blk_cell h.blk.1 8]
  rw [List.getElem?_toArray, List.getElem?_append_right (by rw [nums_length, hl]; exact Nat.le_refl _), nums_length, hl]
  rfl
theorem StIs.c9 {w : World} {s : Nat} {v rest : List Int} {n : Nat} {rv : Value} (h : StIs w s v rest n rv) : w.cell? ⟨s, 9, none⟩ = some (.int .i64 n) := by
  have hl := h.blk.2
  rw [blk_cell h.blk.1 9]
  rw [List.getElem?_toArray, List.getElem?_append_right (by rw [nums_length, hl]; omega), nums_length, hl]
  rfl
theorem StIs.ne {w : World} {s : Nat} {v rest : List Int} {n : Nat} {rv : Value} (h : StIs w s v rest n rv) : some s ≠ rv.ownBlock := fun e => by
  obtain ⟨cs, hc⟩ := own_typed h.own s e.symm
  exact absurd rfl (blk_ne h.blk.1 hc (by decide))
theorem Vw.set8 {w : World} {s t : Nat} {v : List Int} {a b : Value} (h : Vw w s t v [a, b]) (x : Value) : Vw (w.setCell ⟨s, 8, none⟩ x) s t v [x, b] := by
  have := blk_set h.1 8 x
  have hl := h.2
  refine ⟨?_, hl⟩
  rw [this, List.setIfInBounds_toArray, List.set_append_right _ _ (by rw [nums_length, hl]; exact Nat.le_refl _), nums_length, hl]
  rfl
theorem Vw.set9 {w : World} {s t : Nat} {v : List Int} {a b : Value} (h : Vw w s t v [a, b]) (x : Value) : Vw (w.setCell ⟨s, 9, none⟩ x) s t v [a, x] := by
  have := blk_set h.1 9 x
  have hl := h.2
  refine ⟨?_, hl⟩
  rw [this, List.setIfInBounds_toArray, List.set_append_right _ _ (by rw [nums_length, hl]; omega), nums_length, hl]
  rfl
theorem StIs.chg {w w' : World} {s : Nat} {v rest : List Int} {n : Nat} {rv : Value} {S : Nat → Prop} (h : StIs w s v rest n rv) (hc : Chg S w w') (hs : ¬ S s) (hr : ∀ k, rv.ownBlock = some k → ¬ S k) : StIs w' s v rest n rv :=
  ⟨⟨hc.blk h.blk.1 hs, h.blk.2⟩, own_move h.own (fun k hk => hc.block k (own_lt h.own k hk) (hr k hk))⟩

/-- .. its memory in F. -/
def StAt (w : World) (s : Nat) (v rest : List Int) (n : Nat) (F : Nat → Prop) : Prop := ∃ rv, StIs w s v rest n rv ∧ F s ∧ ∀ k, rv.ownBlock = some k → F k

def SwPost (w : World) (s : Nat) (v rest : List Int) (n : Nat) (xs : List Int) (F : Nat → Prop) (e : Ending) (w' : World) : Prop :=
  e = .returned (.tuple #[]) ∧ Chg F w w' ∧ ∃ F', StAt w' s (blocksF v (rest ++ xs)).1 (blocksF v (rest ++ xs)).2 (n + xs.length) F' ∧ ∀ k, k < w.heap.size → F' k → F k

/-- x[64:] -/
theorem rd_drop {w : World} {b off n : Nat} {xs : List Int} (h : ReadsInt w .u8 (some ⟨b, off, none⟩) n xs) (j : Nat) (hj : j ≤ n) :
    ReadsInt w .u8 (some ⟨b, off + j, none⟩) (n - j) (xs.drop j) := by
  obtain ⟨hl, hm, hr⟩ := h
  refine ⟨by simp [hl], by omega, fun h0 => ⟨_, rfl, fun i hi => ?_⟩⟩
  obtain ⟨ad, e, hc⟩ := hr (by omega)
  injection e with e
  subst e
  have h1 := hc (j + i) (by omega)
  have e1 : (⟨b, off, none⟩ : Addr).add (j + i) = ⟨b, off + (j + i), none⟩ := by unfold Addr.add; split <;> simp_all
  have e2 : (⟨b, off + j, none⟩ : Addr).add i = ⟨b, off + j + i, none⟩ := by unfold Addr.add; split <;> simp_all
  rw [e1] at h1
  rw [e2, Nat.add_assoc, h1]
  simp [List.getD_eq_getElem?_getD]
theorem rd_take {w : World} {A : Option Addr} {n : Nat} {xs : List Int} (h : ReadsInt w .u8 A n xs) (j : Nat) (hj : j ≤ n) : ReadsInt w .u8 A j (xs.take j) := by
  obtain ⟨hl, hm, hr⟩ := h
  refine ⟨by simp [hl]; omega, by omega, fun h0 => ?_⟩
  obtain ⟨ad, e, hc⟩ := hr (by omega)
  refine ⟨ad, e, fun i hi => ?_⟩
  rw [hc i (by omega)]
  simp [List.getD_eq_getElem?_getD, List.getElem?_take, hi]
theorem rd_chg {w w' : World} {A : Option Addr} {n : Nat} {xs : List Int} {S : Nat → Prop} (h : ReadsInt w .u8 A n xs) (hc : Chg S w w') (hS : ∀ ad, A = some ad → ¬ S ad.block) : ReadsInt w' .u8 A n xs := by
  obtain ⟨hl, hm, hr⟩ := h
  refine ⟨hl, hm, fun h0 => ?_⟩
  obtain ⟨ad, rfl, hcl⟩ := hr h0
  refine ⟨ad, rfl, fun i hi => hc.cell (hcl i hi) ?_⟩
  have := hS ad rfl
  unfold Addr.add
  split <;> simpa using this
theorem rd_addr {w : World} {ad : Addr} {n : Nat} {xs : List Int} (h : ReadsInt w .u8 (some ad) n xs) (h0 : 0 < n) : ∃ b off, ad = ⟨b, off, none⟩ ∧ ReadsAt w b off xs ∧ b < w.heap.size := by
  obtain ⟨b, off, e, hr⟩ := ReadsAt.of h h0
  injection e with e
  exact ⟨b, off, e, hr, World.block_lt_of_cell? w _ (hr 0 (by rw [h.1]; exact h0))⟩

/-- Ahead of the loop: x is what is left. -/
structure SwRel (w : World) (s : Nat) (v m : List Int) (n : Nat) (rv : Value) (F : Nat → Prop) (xv : Value) (wr : World) : Prop where
  ex : ∃ A k c xs v', xv = .slice A k c ∧ ReadsInt wr .u8 A k xs ∧ k ≤ c ∧ k ≤ 1000000 ∧ (∀ ad, A = some ad → ¬ F ad.block ∧ ad.block < w.heap.size) ∧ StIs wr s v' [] n rv ∧ blocksF v' xs = blocksF v m
  ch : Chg F w wr

theorem sw_end {w wr w1 : World} {s n : Nat} {v m xs : List Int} {v' : List Int} {rv v1 : Value} {F : Nat → Prop} (hS : StIs wr s v' [] n rv) (hF : F s) (hFr : ∀ k, rv.ownBlock = some k → F k ∨ w.heap.size ≤ k) (hch : Chg F w wr) (hb : blocksF v' xs = blocksF v m) (hl : xs.length < 64)
    (ho : w1.ownsRow 0 5 1 v1 xs.length (nums .u8 xs)) (hg : wr.grownBy w1 rv.ownBlock) (hat : v1.ownBlock = rv.ownBlock ∨ ∃ b, v1.ownBlock = some b ∧ wr.heap.size ≤ b) :
    Chg F w (w1.setCell ⟨s, 8, none⟩ v1) ∧ ∃ F', StAt (w1.setCell ⟨s, 8, none⟩ v1) s (blocksF v m).1 (blocksF v m).2 n F' ∧ ∀ k, k < w.heap.size → F' k → F k := by
  have hw1 : Vw w1 s 104 v' [rv, .int .i64 n] := ⟨(hg.block s (blk_lt hS.blk.1) hS.ne).trans hS.blk.1, hS.blk.2⟩
  have hne : some s ≠ v1.ownBlock := fun e => by
    obtain ⟨cs, hc⟩ := own_typed ho s e.symm
    exact absurd rfl (blk_ne hw1.1 hc (by decide))
  have hs := hw1.set8 v1
  rw [blocksF_short hl] at hb
  refine ⟨(hch.grown hg (fun k hk hlt => by rcases hFr k hk with h | h; exact h; omega)).setCell (p := ⟨s, 8, none⟩) (fun _ => hF) _, fun k => F k ∨ w.heap.size ≤ k, ⟨v1, ⟨by rw [← hb]; exact hs, ?_⟩, .inl hF, fun k hk => ?_⟩, fun k hk h => by rcases h with h | h; exact h; omega⟩
  · rw [← hb]
    exact own_move ho (fun k hk => Below.heap_setCell _ _ _ _ (fun e => hne (by rw [← (show k = s from e)]; exact hk.symm)))
  · rcases hat with h | ⟨b, h, hb⟩
    · exact hFr k (by rw [← h]; exact hk)
    · rw [h] at hk
      injection hk with hk
      exact .inr (by rw [← hk]; exact Nat.le_trans hch.size hb)

set_option maxRecDepth 100000 in
set_option maxHeartbeats 1000000 in
/-- Where nothing is pending. -/
theorem sWrite0 {w : World} {s n m c : Nat} {v xs : List Int} {F : Nat → Prop} {A : Option Addr} (hS : StAt w s v [] n F) (hx : ReadsInt w .u8 A m xs) (hc : m ≤ c) (hm : m ≤ 1000000) (hn : n ≤ 1000000000000)
    (hA : ∀ ad, A = some ad → ¬ F ad.block ∧ ad.block < w.heap.size) (hk : Kst w) (hF0 : ¬ F 0) :
    Calls Tryd.prog 49 #[.pointer (some ⟨s, 0, none⟩), .slice A m c] w (SwPost w s v [] n xs F) := by
  obtain ⟨rv, hI, hFs, hFr⟩ := hS
  have h9 := hI.c9
  have h8 := hI.c8
  have f9 : w.frozen? ⟨s, 9, none⟩ = false := blk_frozen hI.blk.1 9
  obtain ⟨rA, rc, hrv⟩ : ∃ A c, rv = .slice A 0 c := own_slice hI.own
  have HI := Lib.hid hI
  have HX := Lib.hid hx
  have HA := Lib.hid hA
  have HK := Lib.hid hk
  have HRV := Lib.hid hrv
  have HXL := Lib.hid hx.1
  have HFR := Lib.hid hFr
  rw [hrv] at h8
  clear hI hx hA hk hrv hFr
  have hc9 : Chg (fun k => k = s) w (w.setCell ⟨s, 9, none⟩ (.int .i64 ((n : Int) + m))) := (Chg.refl (fun k => k = s) w).setCell (p := ⟨s, 9, none⟩) (fun _ => rfl) _
  have hI9 : StIs (w.setCell ⟨s, 9, none⟩ (.int .i64 ((n : Int) + m))) s v [] (n + m) rv := ⟨by simpa using HI.out.blk.set9 (.int .i64 ((n : Int) + m)), own_move HI.out.own (fun k hk => Below.heap_setCell _ _ _ _ (fun e => HI.out.ne (by rw [← (show k = s from e)]; exact hk.symm)))⟩
  have h8' : (w.setCell ⟨s, 9, none⟩ (.int .i64 ((n : Int) + m))).cell? ⟨s, 8, none⟩ = some (.slice rA 0 rc) := by
    rw [hI9.c8, HRV.out]
  have HC9 := Lib.hid hc9
  have HI9 := Lib.hid hI9
  clear hc9 hI9
  go_enter Tryd.func49, Tryd.ntmps49
  go_wp2
  go_loopw [1] (fun xv wr => SwRel w s v xs (n + m) rv F xv wr) (fun xv _ => sliceLen xv)
  case atStart => exact ⟨⟨A, m, c, xs, v, rfl, rd_chg HX.out HC9.out (fun ad e h => by exact (HA.out ad e).1 (by rw [h]; exact hFs)), hc, hm, HA.out, HI9.out, rfl⟩, HC9.out.mono (fun i _ e => by rw [e]; exact hFs)⟩
  case round =>
    obtain ⟨⟨A', k, c', xs', v', rfl, hx', hkc, hk1, hA', hI', hbl⟩, hch⟩ := hrel
    have HI' := Lib.hid hI'
    have HX' := Lib.hid hx'
    have HA' := Lib.hid hA'
    have HBL := Lib.hid hbl
    have HCH := Lib.hid hch
    have hxl := hx'.1
    by_cases hlong : 64 ≤ k
    · obtain ⟨ad, rfl⟩ : ∃ ad, A' = some ad := by
        cases A' with
        | none => obtain ⟨_, _, h⟩ := hx'; obtain ⟨ad, e, _⟩ := h (by omega); cases e
        | some ad => exact ⟨ad, rfl⟩
      obtain ⟨b, off, rfl, hra, hbl2⟩ := rd_addr hx' (by omega)
      have hba := hA' ⟨b, off, none⟩ rfl
      have hbs : b ≠ s := fun e => hba.1 (by rw [e]; exact hFs)
      have hkw : Kst wr := by
        obtain ⟨t0, fr0, h0⟩ := HK.out
        exact ⟨t0, fr0, hch.blk h0 hF0⟩
      have hr64 : ReadsAt wr b off (xs'.take 64) := fun j hj => by
        have h1 : j < 64 := by simp at hj; omega
        rw [hra j (by omega)]
        simp [List.getD_eq_getElem?_getD, List.getElem?_take, h1]
      have hl64 : (xs'.take 64).length = 64 := by simp; omega
      have hvD : Vw wr.drew s 104 v' [rv, .int .i64 ((n + m : Nat) : Int)] := ⟨blk_drew hI'.blk.1, hI'.blk.2⟩
      have hrD : ReadsAt wr.drew b off (xs'.take 64) := hr64
      have hkD : Kst wr.drew := hkw
      have HVD := Lib.hid hvD
      have HRD := Lib.hid hrD
      have HKD := Lib.hid hkD
      have HL64 := Lib.hid hl64
      have HBA := Lib.hid hba
      have HXL' := Lib.hid hxl
      clear hI' hx' hA' hbl hch hxl hra hba hr64 hl64 hkw hvD hrD hkD
      have hcc : (64 : Int) ≤ (c' : Int) := by omega
      have hkk : (64 : Int) ≤ (k : Int) := by omega
      by_cases hcap : c' = 64
      · subst hcap
        obtain rfl : k = 64 := by omega
        go_wp2
        go_region_with ((go_at_call 59; ((with_reducible refine (sBlock HVD.out HRD.out HL64.out (by omega) HKD.out).mono ?_); rintro e w2 ⟨rfl, hv2, hch2⟩)))
        have HV2 := Lib.hid hv2
        have HC2 := Lib.hid hch2
        clear hv2 hch2
        go_wp2
        go_roundw
        case rel =>
          have hc2 : Chg (fun k => k = s) wr w2 := ⟨HC2.out.os, HC2.out.tape, HC2.out.output, HC2.out.size, HC2.out.block⟩
          refine ⟨⟨_, 0, 0, [], blockF v' (xs'.take 64), rfl, ⟨rfl, by omega, fun h => absurd h (by omega)⟩, by omega, by omega, fun ad h => by injection h with h; subst h; exact HBA.out, ⟨HV2.out, own_move HI'.out.own (fun k hk => hc2.block k (own_lt HI'.out.own k hk) (fun e => HI'.out.ne (by rw [← e]; exact hk.symm)))⟩, ?_⟩, HCH.out.trans' hc2 (fun _ _ h => h) (fun i _ e => by rw [e]; exact hFs)⟩
          rw [← HBL.out, blocksF_long (m := xs') (by rw [HXL'.out]; exact Nat.le_refl _), List.drop_eq_nil_of_le (by rw [HXL'.out]; exact Nat.le_refl _)]
        case measure => simp [sliceLen]
      · have hcap2 : ¬ ((c' : Int) = 64) := by omega
        go_wp2
        go_region_with ((go_at_call 59; ((with_reducible refine (sBlock HVD.out HRD.out HL64.out (by omega) HKD.out).mono ?_); rintro e w2 ⟨rfl, hv2, hch2⟩)))
        have HV2 := Lib.hid hv2
        have HC2 := Lib.hid hch2
        clear hv2 hch2
        go_wp2
        go_roundw
        case rel =>
          have hc2 : Chg (fun k => k = s) wr w2 := ⟨HC2.out.os, HC2.out.tape, HC2.out.output, HC2.out.size, HC2.out.block⟩
          refine ⟨⟨some ⟨b, off + 64, none⟩, k - 64, c' - 64, xs'.drop 64, blockF v' (xs'.take 64), rfl, rd_chg (rd_drop HX'.out 64 hlong) hc2 (fun ad h => by injection h with h; subst h; exact hbs), by omega, by omega, fun ad h => by injection h with h; subst h; exact HBA.out, ⟨HV2.out, own_move HI'.out.own (fun k hk => hc2.block k (own_lt HI'.out.own k hk) (fun e => HI'.out.ne (by rw [← e]; exact hk.symm)))⟩, ?_⟩, HCH.out.trans' hc2 (fun _ _ h => h) (fun i _ e => by rw [e]; exact hFs)⟩
          rw [← HBL.out, blocksF_long (m := xs') (by rw [HXL'.out]; exact hlong)]
        case measure => simp [sliceLen]; omega
    · have h8r : wr.cell? ⟨s, 8, none⟩ = some (.slice rA 0 rc) := by rw [hI'.c8, HRV.out]
      have hkk : ¬ (64 : Int) ≤ (k : Int) := by omega
      have hown : wr.ownsRow 0 5 1 (.slice rA 0 rc) ([] : List Int).length (nums .u8 []) := by have := hI'.own; rw [HRV.out] at this; exact this
      have HOWN := Lib.hid hown
      have HXL' := Lib.hid hxl
      have hsr : some s ≠ (Value.slice rA 0 rc).ownBlock := by have := hI'.ne; rw [HRV.out] at this; exact this
      have HSR := Lib.hid hsr
      have f8 : wr.frozen? ⟨s, 8, none⟩ = false := blk_frozen hI'.blk.1 8
      clear hI' hx' hA' hbl hch hxl hown hsr
      go_wp2_with (at_builtin; refine print_append_row (w0 := wr) 0 rfl _ _ 39 5 .u8 1 rfl Tryd.underlying39 info5 (by decide) (.slice rA 0 rc) [] xs' A' k c' rfl rfl HOWN.out HX'.out (Below.refl _ _) (Nat.zero_le _) (by simp; omega) ?_; intro v1 w1x ho hb hg hat; obtain ⟨A1, c1, rfl⟩ := own_slice ho; have hHO := Lib.hid ho; have hHG := Lib.hid hg; have hHA := Lib.hid hat; have h8x := (hg.cell_far ⟨s, 8, none⟩ (World.block_lt_of_cell? _ _ h8r) HSR.out).trans h8r; have f8x := (hg.frozen_far ⟨s, 8, none⟩ (World.block_lt_of_cell? _ _ h8r) HSR.out).trans f8; clear ho hb hg hat)
      go_end0
      have hfin := sw_end (w := w) (F := F) (v := v) (m := xs) HI'.out hFs (by rw [HRV.out]; exact (fun k hk => .inl (HFR.out k (by rw [HRV.out]; exact hk)))) HCH.out HBL.out (by rw [HXL'.out]; omega) (by simpa using hHO.out) (by rw [HRV.out]; exact hHG.out) (by rw [HRV.out]; exact hHA.out)
      refine ⟨rfl, hfin.1, ?_⟩
      have hml : n + xs.length = n + m := by rw [HXL.out]
      rw [hml]
      simpa using hfin.2
end Go.Proofs.YtapapedpecpfgaaDoor.J
