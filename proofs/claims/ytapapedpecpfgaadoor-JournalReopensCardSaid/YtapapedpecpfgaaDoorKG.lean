/- slices.Chunk, its parts told; the disk's blocks. -/
import Derived.Test.YtapapedpecpfgaaDoorKF
set_option linter.unusedVariables false
set_option linter.unusedSimpArgs false
namespace Go.Proofs.YtapapedpecpfgaaDoor.J
open Go.RowKit Go.Shelf Go.Proofs.YtapapedpecpfgaaDoorW.PrintWords

attribute [local go_sem] Oper.semAt_some
def cEncF {cnt : Nat} (bb size : Nat) (x : Fin cnt) : Array Value := #[.slice (some ⟨bb, x.1 * size, none⟩) size size]
def UptoF {cnt : Nat} (k : Nat) (l : List (Fin cnt)) : Prop := l.map (·.1) = List.range k
theorem UptoF.len {cnt k : Nat} {l : List (Fin cnt)} (h : UptoF k l) : l.length = k := by
  have := congrArg List.length h
  simpa using this
theorem UptoF.snoc {cnt k : Nat} {l : List (Fin cnt)} (h : UptoF k l) (hk : k < cnt) : UptoF (k + 1) (l ++ [⟨k, hk⟩]) := by
  unfold UptoF at *
  rw [List.map_append, h, List.range_succ]
  rfl
attribute [local go_sem] jmin2 jmin
set_option maxRecDepth 100000 in
set_option maxHeartbeats 2000000 in
theorem chunk1F (n : Nat) (hn : 1 ≤ n) (l B1 B2 bb size cnt len cap : Nat) (hlen : len = cnt * size) (hs0 : 0 < size) (hs1 : size ≤ 4096) (hc1 : cnt ≤ 100000) (hcap : len ≤ cap) (J Jx : List (Fin cnt) → World → Prop) (hJd : ∀ pre W, J pre W → J pre W.drew)
    (hY : ∀ pre x W, J pre W → pre.length < cnt → YieldAt Fence.wide (n - 1) Tryd.prog l (cEncF bb size x) W fun e W' =>
      (e = .returned (.bool true) ∧ J (pre ++ [x]) W' ∧ Same3 B1 B2 bb W W') ∨ (e = .returned (.bool false) ∧ Jx (pre ++ [x]) W'))
    (W : World) (hB1 : W.cell? ⟨B1, 0, none⟩ = some (.slice (some ⟨bb, 0, none⟩) len cap)) (hB2 : W.cell? ⟨B2, 0, none⟩ = some (.int .i64 size)) (h0 : J [] W) :
    CallsIn Fence.wide n Tryd.prog 61 #[.func (.yield l) #[] #[], .pointer (some ⟨B1, 0, none⟩), .pointer (some ⟨B2, 0, none⟩)] W fun e W' => (∃ v, e = .returned v) ∧
      ((∃ ys, UptoF cnt ys ∧ J ys W') ∨ (∃ pre, (∃ k, k ≤ cnt ∧ UptoF k pre) ∧ Jx pre W')) := by
  refine callsIn_of_wp Tryd.func61 rfl trivial ?_ rfl
  simp only [Tryd.ntmps61, List.size_toArray, List.length_cons, List.length_nil, Nat.reduceAdd, Nat.reduceSub, Array.replicate_succ, Array.replicate_zero, List.push_toArray, List.append_toArray, List.nil_append, List.cons_append]
  gi_wp2
  have HLEN := Lib.hid hlen
  clear hlen
  gi_loopw [4] (fun i wr => ∃ (k : Nat) (pre : List (Fin cnt)), k ≤ cnt ∧ i = .int .i64 ((k * size : Nat) : Int) ∧ UptoF k pre ∧ J pre wr ∧ wr.cell? ⟨B1, 0, none⟩ = some (.slice (some ⟨bb, 0, none⟩) len cap) ∧ wr.cell? ⟨B2, 0, none⟩ = some (.int .i64 size))
    (fun i _ => len - (intOf i).toNat)
  case atStart => exact ⟨0, [], Nat.zero_le _, by simp, rfl, h0, hB1, hB2⟩
  case round =>
    obtain ⟨k, pre, hk, rfl, hpre, hJs, hb1, hb2⟩ := hrel
    have hPre := Lib.hid hpre
    have hpl : pre.length = k := UptoF.len hpre
    clear hpre hB1 hB2
    obtain ⟨o, ho⟩ : ∃ o, k * size = o := ⟨_, rfl⟩
    rw [ho]
    by_cases hlt : k < cnt
    · obtain ⟨fn, tmps, assign, body, hy, hR⟩ := hY pre ⟨k, hlt⟩ wr.drew (hJd _ _ hJs) (by omega)
      simp only [cEncF, ho] at hy
      have hol : o + size ≤ len := by
        rw [HLEN.out, ← ho]
        have := Nat.mul_le_mul_right size (show k + 1 ≤ cnt by omega)
        rw [Nat.succ_mul] at this
        exact this
      have hlb : len ≤ 409600000 := by
        rw [HLEN.out]
        calc cnt * size ≤ 100000 * 4096 := Nat.mul_le_mul hc1 hs1
          _ = 409600000 := by decide
      have HO := Lib.hid ho
      have HPL := Lib.hid hpl
      clear ho hpl
      have ho0 : (0 : Int) ≤ (o : Int) := by omega
      have ho1 : (o : Int) ≤ (len : Int) := by omega
      have ho2 : (len : Int) ≤ (cap : Int) := by omega
      have ho3 : ¬ cap = o := by omega
      have ho4 : (o : Int) + (size : Int) ≤ (len : Int) := by omega
      gi_wp2
      gi_region
      gi_wp2
      refine hR.mono ?_
      rintro e W3 (⟨rfl, hJ3, hk3⟩ | ⟨rfl, hJx3⟩)
      · have k1 := (World.cell?_of_block (w := wr) (a := ⟨B1, 0, none⟩) hk3.1).trans hb1
        have k2 := (World.cell?_of_block (w := wr) (a := ⟨B2, 0, none⟩) hk3.2.1).trans hb2
        clear hb1 hb2
        gi_wp2
        go_roundw
        case rel => exact ⟨k + 1, pre ++ [⟨k, hlt⟩], by omega, by have := HO.out; rw [Nat.succ_mul, this]; go_num, hPre.out.snoc hlt, hJ3, k1, k2⟩
        case measure => simp [intOf]; omega
      · gi_wp2
        refine bodyPost_ret (results_none rfl _ _ _) rfl ?_
        exact ⟨⟨_, rfl⟩, .inr ⟨_, ⟨k + 1, by omega, hPre.out.snoc hlt⟩, hJx3⟩⟩
    · obtain rfl : k = cnt := by omega
      have hol : o = len := by rw [HLEN.out, ← ho]
      subst hol
      have HO := Lib.hid ho
      clear ho
      gi_wp2
      go_end0
      exact ⟨⟨_, rfl⟩, .inl ⟨pre, hPre.out, hJs⟩⟩


theorem chunk_stopsF (n : Nat) (hn : 1 ≤ n) (B1 B2 bb size cnt len cap : Nat) (hlen : len = cnt * size) (hs0 : 0 < size) (hs1 : size ≤ 4096) (hc1 : cnt ≤ 100000) (hcap : len ≤ cap) (w : World) (h1 : B1 < w.heap.size) (h2 : B2 < w.heap.size)
    (hc0 : w.cell? ⟨B1, 0, none⟩ = some (.slice (some ⟨bb, 0, none⟩) len cap)) (hc2 : w.cell? ⟨B2, 0, none⟩ = some (.int .i64 size)) :
    SeqStopsK Fence.wide n Tryd.prog 61 #[.pointer (some ⟨B1, 0, none⟩), .pointer (some ⟨B2, 0, none⟩)] (cEncF (cnt := cnt) bb size) (Same3 B1 B2 bb) (fun ys => UptoF cnt ys) (fun pre => ∃ k, k ≤ cnt ∧ UptoF k pre) cnt w :=
  fun l J Jx W hW hJ _ hY h0 => by
    refine chunk1F n hn l B1 B2 bb size cnt len cap hlen hs0 hs1 hc1 hcap J Jx (fun pre W hJW => hJ pre W _ none hJW ⟨rfl, rfl, rfl, Nat.le_refl _, fun _ _ _ => rfl⟩ (fun r e => by cases e)) (fun pre x W' hJW hl => hY pre x W' hJW hl) W ?_ ?_ h0
    · exact (hW.cell (p := ⟨B1, 0, none⟩) h1).trans hc0
    · exact (hW.cell (p := ⟨B2, 0, none⟩) h2).trans hc2

/-- The disk's blocks hold cells. -/
theorem DFoot.cells {w : World} {d g sz n : Nat} {D : Nat → Option Nat} {dc : Nat → List Int} {pv : Value} {ps : List PW} (hI : DiskIs w d g sz n D dc pv ps) {k : Nat} (hk : DFoot d g n D pv ps k) : ∃ o : Obj, w.heap[k]? = some o ∧ o.isCells = true := by
  rcases hk with rfl | rfl | h | ⟨i, hi, h⟩ | ⟨p, hp, rfl⟩
  · exact ⟨_, hI.hd, rfl⟩
  · obtain ⟨cs, hb, _⟩ := hI.du.arr
    exact ⟨_, hb, rfl⟩
  · obtain ⟨cs, hc⟩ := own_typed hI.pe.own k h
    exact ⟨_, hc, rfl⟩
  · exact ⟨_, hI.du.some_ i k hi h, rfl⟩
  · obtain ⟨cs, hb, _⟩ := (hI.pe.rd p hp).1
    exact ⟨_, hb, rfl⟩
theorem DiskAt.fit {w : World} {d sz n m : Nat} {cont : Nat → List Int} {F : Nat → Prop} (hD : DiskAt w d sz n cont m F) : DiskAt w d sz n cont m (fun k => F k ∧ k < w.heap.size ∧ ∃ o : Obj, w.heap[k]? = some o ∧ o.isCells = true) := by
  obtain ⟨g, D, dc, pv, ps, hI, hpm, hct, hF⟩ := hD
  exact ⟨g, D, dc, pv, ps, hI, hpm, hct, fun k hk => ⟨hF k hk, DFoot.lt hI hk, DFoot.cells hI hk⟩⟩
theorem DiskAt.congr {w : World} {d sz n m : Nat} {cont cont' : Nat → List Int} {F : Nat → Prop} (hD : DiskAt w d sz n cont m F) (h : ∀ i, i < n → cont' i = cont i) : DiskAt w d sz n cont' m F := by
  obtain ⟨g, D, dc, pv, ps, hI, hpm, hct, hF⟩ := hD
  exact ⟨g, D, dc, pv, ps, hI, hpm, fun i hi => (h i hi).trans (hct i hi), hF⟩

/-- A part of bytes; sectors from a on hold parts. -/
def cutP (B : List Int) (sz x : Nat) : List Int := (B.drop (x * sz)).take sz
def wrP (cont : Nat → List Int) (a : Nat) (B : List Int) (sz : Nat) (pre : List Nat) : Nat → List Int := fun i => if a ≤ i ∧ i < a + pre.length then cutP B sz (pre.getD (i - a) 0) else cont i
theorem wrP_nil (cont : Nat → List Int) (a : Nat) (B : List Int) (sz : Nat) : wrP cont a B sz [] = cont := by
  funext i
  unfold wrP
  rw [if_neg (by simp)]
theorem wrP_snoc (cont : Nat → List Int) (a : Nat) (B : List Int) (sz : Nat) (pre : List Nat) (x : Nat) : upd (wrP cont a B sz pre) (a + pre.length) (cutP B sz x) = wrP cont a B sz (pre ++ [x]) := by
  funext i
  unfold upd wrP
  by_cases e : i = a + pre.length
  · subst e
    rw [if_pos rfl, if_pos (by simp)]
    simp
  · rw [if_neg e]
    by_cases h : a ≤ i ∧ i < a + pre.length
    · rw [if_pos h, if_pos (by simp; omega)]
      simp [List.getD_eq_getElem?_getD, List.getElem?_append_left (show i - a < pre.length by omega)]
    · rw [if_neg h, if_neg (by simp; omega)]
end Go.Proofs.YtapapedpecpfgaaDoor.J
