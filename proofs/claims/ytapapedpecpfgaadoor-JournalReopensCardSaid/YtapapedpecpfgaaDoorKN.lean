/- Records, Left. -/
import Derived.Test.YtapapedpecpfgaaDoorKM
import Derived.Laws.MakeOwn
set_option linter.unusedVariables false
set_option linter.unusedSimpArgs false
namespace Go.Proofs.YtapapedpecpfgaaDoor.J
open Go.RowKit Go.Proofs.YtapapedpecpfgaaDoorW.PrintWords

def RecsPost (w : World) (rss : List (List Int)) (e : Ending) (w' : World) : Prop :=
  ∃ v R E, e = .returned v ∧ RecsAt w' R E v rss ∧ (∀ k, R k → w.heap.size ≤ k) ∧ (∀ k, E k → w.heap.size ≤ k) ∧ Chg (fun _ => False) w w'
def RecRel (w : World) (rss : List (List Int)) (iv v : Value) (wr : World) : Prop :=
  ∃ i R E, i ≤ rss.length ∧ iv = .int .i64 (i : Nat) ∧ RecsAt wr R E v (rss.take i) ∧ (∀ k, R k → w.heap.size ≤ k) ∧ (∀ k, E k → w.heap.size ≤ k) ∧ Chg (fun _ => False) w wr
set_option maxRecDepth 100000 in
set_option maxHeartbeats 4000000 in
theorem jRecords {w : World} {B0 j d fi rm sz n : Nat} {x : Hf} {cont : Nat → List Int} (h : JOn w B0 j d fi rm sz n x cont) (hl : x.rs.length ≤ 100000) (hb : ∀ r ∈ x.rs, r.length ≤ 1000000) :
    Calls Tryd.prog 11 #[.pointer (some ⟨j, 0, none⟩)] w (RecsPost w x.rs) := by
  obtain ⟨rv, R, E, F, h1, _, h3, _⟩ := h
  obtain ⟨rA, rc, rfl⟩ := h3.slice
  obtain ⟨hrd, hlc⟩ := h3.reads rfl
  obtain ⟨i0, hi, hz0, hz1, hz2⟩ := info_parts info39
  obtain ⟨w1, hmk, hown1, hg1⟩ := run_make_own (P := Tryd.prog) w 0 32 39 i0 (.slice none 0 0) 1 Tryd.underlying32 hi hz0 hz1 .i64 .i64 x.rs.length (by rw [hz2]; omega) (by unfold maxLen; omega) (Nat.zero_le _)
  have hch1 : Chg (fun _ => False) w w1 := ⟨hg1.os, hg1.tape, hg1.output, hg1.size, fun k hk _ => hg1.block k hk (fun e => by cases e)⟩
  have q7 := h1.c7
  have q7' := hch1.cell q7 (fun h => h)
  have hrec1 : RecsAt w1 (fun k => w.heap.size ≤ k) (fun _ => False) (.slice (some ⟨w.heap.size, 0, none⟩) 0 x.rs.length) [] :=
    ⟨[], hown1, fun k hk => ⟨by have : w.heap.size = k := by simpa [Value.ownBlock] using hk
                                omega, fun h => h⟩, fun _ h => h.elim, fun i hi => absurd hi (by simp)⟩
  have HRD := Lib.hid hrd
  have HREC1 := Lib.hid hrec1
  have HCH1 := Lib.hid hch1
  have HBN := Lib.hid hb
  obtain ⟨N, hN⟩ : ∃ N, x.rs.length = N := ⟨_, rfl⟩
  rw [hN] at hmk q7 q7'
  have HNN := Lib.hid hN
  have hN1 : N ≤ 100000 := by omega
  clear h1 h3 hrd hrec1 hch1 hown1 hg1 hi hz0 hz1 hz2 hb hN hl hlc
  go_enter Tryd.func11, Tryd.ntmps11
  go_wp2
  go_loopw [19, 3] (fun iv v wr => RecRel w x.rs iv v wr) (fun iv _ _ => N - (intOf iv).toNat)
  case atStart => exact ⟨0, fun k => w.heap.size ≤ k, fun _ => False, Nat.zero_le _, rfl, by rw [List.take_zero]; have := HREC1.out; rw [HNN.out] at this; exact this, fun _ h => h, fun _ h => h.elim, HCH1.out⟩
  case round =>
    obtain ⟨i, R1, E1, hiN, rfl, hrec, hR1, hE1, hch⟩ := hrel
    rw [HNN.out] at hiN
    obtain ⟨tA, tc, rfl⟩ := hrec.slice
    have htl : (x.rs.take i).length = i := by rw [List.length_take, HNN.out]; omega
    rw [htl]
    have HTL := Lib.hid htl
    have HREC := Lib.hid hrec
    have HRE := Lib.hid (And.intro hR1 hE1)
    have HCH := Lib.hid hch
    clear hrec hR1 hE1 hch htl
    by_cases hlt : i < N
    · have hlti : (i : Int) < (N : Int) := by omega
      obtain ⟨hl0, hcs⟩ := HRD.out.chg HCH.out (fun _ _ h => h)
      rw [HNN.out] at hcs
      obtain ⟨ad, rfl, _, hc⟩ := hcs (by omega)
      obtain ⟨u, hu, A', c', rfl, hlc, hrr, _⟩ := hc i hlt
      obtain ⟨rs, hrs⟩ : ∃ rs, x.rs.getD i [] = rs := ⟨_, rfl⟩
      rw [hrs] at hu hlc hrr
      have HRS := Lib.hid hrs
      have hrm : rs ∈ x.rs := by
        rw [← hrs, List.getD_eq_getElem?_getD, List.getElem?_eq_getElem (by rw [HNN.out]; exact hlt)]
        exact List.getElem_mem _
      have hrl := HBN.out rs hrm
      obtain ⟨L, hL⟩ : ∃ L, rs.length = L := ⟨_, rfl⟩
      have HL := Lib.hid hL
      rw [hL] at hu hlc hrl
      have HRR := Lib.hid hrr
      clear hl0 hcs hc hrr hrm hrs hL
      go_wp2_with fail
      refine (bClone (n := L) (by have := HRR.out; rw [HL.out] at this; exact this) (by omega)).mono ?_
      rintro e w3 ⟨v3, rfl, ho3, hb3⟩
      rw [HL.out] at ho3
      obtain ⟨A3, c3, rfl⟩ := own_slice ho3
      have hcd : Chg (fun k => ¬ k < wr.heap.size) wr w3 := ⟨hb3.os, hb3.tape, hb3.output, hb3.size, fun x hx h => hb3.block x (by simpa using h)⟩
      have hrec3 : RecsAt w3 (fun k => w.heap.size ≤ k ∧ k < wr.heap.size) E1 (.slice tA i tc) (x.rs.take i) := by
        have h0 := HREC.out
        rw [HTL.out] at h0
        exact (h0.fit.mono (R' := fun k => w.heap.size ≤ k ∧ k < wr.heap.size) (fun k a _ => ⟨HRE.out.1 k a.1, a.2⟩)).chg hcd (fun k h1 h2 => h2 h1.2) (fun k h1 h2 => h2 (h0.eb k h1))
      have hu3 : RdRec w3 (fun k => wr.heap.size ≤ k ∧ k < w3.heap.size) (.slice A3 L c3) rs := by
        obtain ⟨A4, c4, e4, hr4⟩ := own_reads ho3
        refine ⟨A4, c4, by rw [HL.out]; exact e4, by rw [HL.out]; rw [e4] at ho3; exact own_le ho3, by rw [HL.out]; exact hr4, fun ad e _ => ?_⟩
        have hob : (Value.slice A3 L c3).ownBlock = some ad.block := by rw [e4, e]; rfl
        exact ⟨(own_base ho3) _ hob, own_lt ho3 _ hob⟩
      have hE23 : ∀ y, (fun k => wr.heap.size ≤ k ∧ k < w3.heap.size) y → y < w3.heap.size ∧ (Value.slice tA i tc).ownBlock ≠ some y := fun y hy => ⟨hy.2, fun e => by
        obtain ⟨_, ho, _⟩ := HREC.out
        rw [HTL.out] at ho
        have := own_lt ho y e
        have := hy.1
        omega⟩
      have hcw3 : Chg (fun _ => False) w w3 := HCH.out.trans' hcd (fun _ _ h => h) (fun y hy h => by have := HCH.out.size; omega)
      have HREC3 := Lib.hid hrec3
      have HU3 := Lib.hid hu3
      have HE23 := Lib.hid hE23
      have HCW3 := Lib.hid hcw3
      have hsz3 : wr.heap.size ≤ w3.heap.size := hb3.size
      have hsz0 := HCH.out.size
      clear ho3 hb3 hcd hrec3 hu3 hE23 hcw3
      go_wp2_with (at_builtin; refine wpl_push HREC3.out HU3.out HE23.out (by rw [HTL.out]; omega) (by rfl) (.tmp 23) (.tmp 26) (by rfl) (by rfl) (by rfl) ?_; intro v4 w4 hR4 hg4; have HR4 := Lib.hid hR4; have HG4 := Lib.hid hg4; clear hR4 hg4)
      have hown : ∀ y, (Value.slice tA i tc).ownBlock = some y → w.heap.size ≤ y := fun y e => by
        obtain ⟨_, _, hv, _, _⟩ := HREC.out
        rw [HTL.out] at hv
        exact HRE.out.1 _ (hv y e).1
      have HOWN := Lib.hid hown
      clear hown
      go_roundw
      case rel =>
        have htk : x.rs.take (i + 1) = x.rs.take i ++ [rs] := by
          have hg : x.rs[i]? = some rs := by
            rw [← HRS.out, List.getD_eq_getElem?_getD, List.getElem?_eq_getElem (by rw [HNN.out]; exact hlt)]
            rfl
          rw [List.take_add_one, hg]
          rfl
        refine ⟨i + 1, fun k => (w.heap.size ≤ k ∧ k < wr.heap.size) ∨ w3.heap.size ≤ k, fun k => E1 k ∨ (wr.heap.size ≤ k ∧ k < w3.heap.size), by rw [HNN.out]; omega, by simp, ?_, fun k hk => ?_, fun k hk => ?_, ?_⟩
        · rw [htk]
          exact HR4.out
        · rcases hk with hk | hk
          · exact hk.1
          · omega
        · rcases hk with hk | hk
          · exact HRE.out.2 k hk
          · omega
        · exact HCW3.out.trans' (T := fun y => (Value.slice tA i tc).ownBlock = some y) ⟨HG4.out.os, HG4.out.tape, HG4.out.output, HG4.out.size, fun y hy h => HG4.out.block y hy (fun e => h e.symm)⟩ (fun _ _ h => h) (fun y hy e => by have := HOWN.out y e; omega)
      case measure => simp [intOf]; omega
    · have hlti : ¬ (i : Int) < (N : Int) := by omega
      obtain rfl : i = N := by omega
      go_wp2
      go_ret
      have h0 := HREC.out
      rw [List.take_of_length_le (by rw [HNN.out]; exact Nat.le_refl _)] at h0
      rw [HNN.out] at h0
      exact ⟨_, R1, E1, rfl, h0, HRE.out.1, HRE.out.2, HCH.out⟩

def leftF (sz rm us : Nat) : Int := if (((rm - us) * sz : Nat) : Int) - 40 - 4 < -1 then -1 else (((rm - us) * sz : Nat) : Int) - 40 - 4
attribute [local go_sem] jmax2 jmax
set_option maxHeartbeats 4000000 in
theorem jLeft {w : World} {B0 j d fi rm sz n : Nat} {x : Hf} {cont : Nat → List Int} (h : JOn w B0 j d fi rm sz n x cont) (hus : x.us ≤ rm) (hrm : rm ≤ 100) (hs1 : sz ≤ 1000) :
    Calls Tryd.prog 12 #[.pointer (some ⟨j, 0, none⟩)] w (fun e w' => e = .returned (.int .i64 (leftF sz rm x.us)) ∧ ∃ k, w' = w.drewN k) := by
  obtain ⟨rv, R, E, F, h1, h2, h3, _⟩ := h
  obtain ⟨dg, dpv, hdh⟩ := h2.hd
  have HD := Lib.hid hdh
  have c0 := h1.c0
  have c2 := h1.c2
  have c5 := h1.c5
  obtain ⟨q, hq⟩ : ∃ q, (rm - x.us) * sz = q := ⟨_, rfl⟩
  have hqi : ((rm : Int) - (x.us : Int)) * (sz : Int) = (q : Int) := by rw [← hq, Int.natCast_mul, Int.ofNat_sub hus]
  have hqb : q ≤ 100000 := by rw [← hq]; exact Nat.mul_le_mul (show rm - x.us ≤ 100 by omega) hs1
  have hw1 : IntKind.i64.wrap (q : Int) = (q : Int) := by rw [IntKind.wrap_i64]; omega
  have hw2 : IntKind.i64.wrap ((rm : Int) - (x.us : Int)) = (rm : Int) - (x.us : Int) := by rw [IntKind.wrap_i64]; omega
  unfold leftF
  rw [hq]
  clear h1 h2 h3 hdh hq
  go_enter Tryd.func12, Tryd.ntmps12
  go_wp2
  go_quiet ((go_at_call 27; exact Calls.quiet_of_same (dSizeQ HD.out _)))
  go_wp2
  all_goals (
    go_ret
    exact ⟨rfl, nq, rfl⟩)
end Go.Proofs.YtapapedpecpfgaaDoor.J
