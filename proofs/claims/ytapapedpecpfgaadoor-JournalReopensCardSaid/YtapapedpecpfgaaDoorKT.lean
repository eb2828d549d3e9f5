/- The row of JournalReopens. -/
import Derived.Test.YtapapedpecpfgaaDoorRows
import Derived.Test.YtapapedpecpfgaaDoorKU
import Derived.ProofKit
import Derived.LaidMore
import Derived.LaidLaws
import Derived.LaidHandle
import Derived.OpenShut
import Derived.ChangeVars
import Derived.ChangeOld
import Derived.Stop.Joined
set_option linter.unusedVariables false
set_option linter.unusedSimpArgs false
namespace Go.Proofs.YtapapedpecpfgaaDoor.J
open Go.ChangeShapes Go.WideShapes Go.ChangeAt Go.RowKit
open Go.Proofs.YtapapedpecpfgaaDoorW.PrintWords (nums)

theorem own : ownKnob Tryd.prog.godebug = none := by kernel_rfl
theorem laidOut : laidOutB Tryd.prog = true := by kernel_rfl
theorem gK : Tryd.prog.globalNamed "kinkeep/sha256.constants" = some 0 := by kernel_rfl
theorem tK : (Tryd.prog.globals[0]?).map (·.type) = some 110 := by kernel_rfl
theorem c99 : Tryd.prog.cellsOf 99 = 1 := by kernel_rfl
theorem c110 : Tryd.prog.cellsOf 110 = 64 := by kernel_rfl
abbrev laidK : List (String × DataW Unit) := [("kinkeep/sha256.constants", Rows.laid_kinkeep_sha256_constants)]
theorem laid_eq : (Rows.laid_kinkeep_sha256_constants : DataW Unit) = .agg (KS.map fun n => .lit (.int .u32 n)) := by rfl
theorem door_met (os : Os) (args : Array Value) : laidMetH Tryd.prog laidK ((World.doorLaid Tryd.prog 400 os).forCall (fun _ _ => 0) ⟨#[], args, []⟩).memory :=
  laidMetH_of_parts3 (fuel := 8) (laidMet_of_run' 8 (by kernel_rfl) (by kernel_rfl)) (by kernel_rfl) (by kernel_rfl)
set_option maxRecDepth 100000 in
theorem kst_of_laid {W : World} (h : laidMetH Tryd.prog laidK W) : Kst W := by
  rw [MakeChecks.laidMetH_plain _ _ _ (by kernel_rfl)] at h
  obtain ⟨ps, ⟨g0, t0, cs0, f0, p0, q0, hg0, ht0, hv0, hd0, _, _⟩, _⟩ := h
  obtain rfl := Option.some.inj (gK.symm.trans hg0)
  obtain rfl := Option.some.inj (tK.symm.trans ht0)
  obtain ⟨xs, m1, rfl, hx1, hlen, hn, hel⟩ := DataW.trod_array Tryd.underlying110 hd0
  rw [c110] at hlen
  have hxe : xs.map (·.1) = KS.map fun n => DataW.lit (.int .u32 n) := by
    have := congrArg Prod.fst hx1
    have h2 : DataW.agg (KS.map fun n => (DataW.lit (.int .u32 n) : DataW Unit)) = DataW.agg (xs.map (·.1)) := laid_eq.symm.trans this
    exact (DataW.agg.inj h2).symm
  have hcs : cs0.toList = nums .u32 KS := by
    apply List.ext_getElem?
    intro i
    by_cases hi : i < 64
    · have h1 := hel i hi
      rw [c99, Nat.mul_one] at h1
      have hxi : xs[i]? = some (xs[i]'(by omega)) := List.getElem?_eq_getElem (by omega)
      rw [hxi] at h1
      obtain ⟨k, e1, e2, _⟩ := DataW.trod_int Tryd.underlying99 h1
      have h2 : (cs0.toList.drop i).take 1 = [cs0.toList[i]'(by omega)] := by
        rw [List.drop_eq_getElem_cons (by omega)]
        rfl
      rw [h2] at e1
      injection e1 with e1
      have h3 : (xs.map (·.1))[i]? = some (DataW.lit (.int .u32 k)) := by
        rw [List.getElem?_map, hxi, e2]
        rfl
      rw [hxe, List.getElem?_map] at h3
      obtain ⟨k', h4, h5⟩ := Option.map_eq_some_iff.1 h3
      injection h5 with h5
      injection h5 with _ h5
      subst h5
      rw [List.getElem?_eq_getElem (by omega), e1]
      simp [nums, h4]
    · rw [List.getElem?_eq_none (by omega), List.getElem?_eq_none (by simp [nums, KS_length]; omega)]
  have hv := hv0
  simp only [World.var?, gK, Option.bind_some] at hv
  split at hv
  · rename_i cs t fr hh
    injection hv with hv
    subst hv
    exact ⟨t, fr, by rw [hh, ← hcs]⟩
  · cases hv

set_option maxRecDepth 100000 in
theorem lifted (os : Os) (started : os.Started) (H : Type) (enc : TypeId × Value → H) :
    ReturnsInHanded {} Tryd.checked os 3 .any (fun w args => (Rows.journalReopensSpec.pre enc Tryd.prog Tryd.f3 [] false w args ∧ laidMetH Tryd.prog laidK w) ∧ sizedMet enc Tryd.prog Tryd.f3 (OpenSpec.ofChange Rows.journalReopensSpec) false w args)
      (Rows.journalReopensSpec.post enc Tryd.prog Tryd.f3 false true false false) := by
  refine returnsInHanded_of_change_and (C := Tryd.checked) (X := fun w _ => laidMetH Tryd.prog laidK w) (fun _ _ _ hh h => h.of_heap hh) own started (by kernel_rfl) Tryd.func3
    (ChangeSpec.witness_shaped (enc := enc) (C := Tryd.checked) (os := os) (X := fun w _ => laidMetH Tryd.prog laidK w) false (World.doorLaid Tryd.prog 400 os) #[.int .i64 0, .int .i64 0, .slice none 0 0] 8 rfl (World.shaped_of_RefB (by kernel_rfl) (by kernel_rfl)) (by kernel_rfl) (by kernel_rfl) (by kernel_rfl) (door_met os _)) ?_
  intro W base args ds gs before hval0 hW _ _ hL _
  have hval : ∀ (j : Nat) t v, Tryd.f3.params[j]? = some t → args[j]? = some v → Value.okWide Tryd.prog W .any base t v := hval0
  have hW' := hW
  obtain ⟨p, q, hA0, hV, rfl, hfz, hnd⟩ := hW
  have hA : DataW.TrodAll enc Tryd.prog W 0 (fun _ => true) true Tryd.f3.params.toList args.toList ds p := hA0
  rw [Tryd.params3] at hA hval
  obtain ⟨v0, vs0, d0, ds0, p0, q0, hargs, rfl, rfl, h0, r0⟩ := trodAll_cons hA
  obtain ⟨v1, vs1, d1, ds1, p1, q1, rfl, rfl, rfl, h1, r1⟩ := trodAll_cons r0
  obtain ⟨v2, vs2, d2, ds2, p2, q2, rfl, rfl, rfl, h2, r2⟩ := trodAll_cons r1
  obtain ⟨rfl, rfl, rfl⟩ := trodAll_nil r2
  obtain rfl : args = #[v0, v1, v2] := by cases args; simp_all
  obtain ⟨rfl, rfl⟩ := trodVars_none hV
  obtain ⟨a0, rfl, rfl, rfl, w0⟩ := open_int Tryd.underlying3 (hval 0 3 v0 rfl rfl) h0
  obtain ⟨a1, rfl, rfl, rfl, w1⟩ := open_int Tryd.underlying3 (hval 1 3 v1 rfl rfl) h1
  obtain ⟨a2, len2, cap2, rfl⟩ := okWide_slice Tryd.underlying22 (hval 2 22 v2 rfl rfl)
  have k2 := h2
  have lt2 : ∀ x ∈ p2, x.block < W.heap.size := by
    obtain ⟨m, hm⟩ := k2
    exact DataW.trod_lt m _ _ _ hm
  obtain ⟨fuel, hf⟩ := h2
  obtain ⟨A, n, c, ops, he, hn, hops, hby⟩ := ops_of_trod (by simpa [Value.cells] using hf)
  injection he with e1 e2 e3
  subst e1
  subst e2
  subst e3
  have hk := kst_of_laid hL
  clear hA0 hval0
  refine (jLaw hops (fun _ h => h) hn hby hk).mono fun e W' ⟨he, hc⟩ => ?_
  subst he
  have bel : Below W.heap.size W W' := ⟨hc.os, hc.tape, hc.output, hc.size, fun k hk => hc.block k hk (fun h => h)⟩
  exact ⟨_, rfl, _, _, _, [], _, [], hW', trodAll_mk1 (shut_bool Tryd.underlying4 _), (trodAll_cons_mk (shut_int Tryd.underlying3 w0) (trodAll_cons_mk (shut_int Tryd.underlying3 w1) (trodAll_cons_mk (Below.trod laidOut (by kernel_rfl) (of_decide_eq_true (by kernel_rfl)) k2 bel lt2) trodAll_mk0))), rfl, bel.frame _, fun h => by cases h⟩

theorem over : Rows.JournalReopensSaid :=
  OpenClaim.holds_of_wide 3 Tryd.f3 rfl rfl rfl rfl rfl rfl rfl ⟨rfl, rfl, rfl, rfl, rfl⟩ rfl rfl rfl rfl rfl (by kernel_rfl) Tryd.func3 (by kernel_rfl)
    (of_decide_eq_true (by kernel_rfl)) (by unfold Func.isWrapper; first | (rw [if_pos (by decide +kernel)]; kernel_rfl) | (rw [if_neg (by decide +kernel)]; exact ⟨rfl, rfl⟩))
    (fun os started H enc _ => lifted os started H enc)
end Go.Proofs.YtapapedpecpfgaaDoor.J
