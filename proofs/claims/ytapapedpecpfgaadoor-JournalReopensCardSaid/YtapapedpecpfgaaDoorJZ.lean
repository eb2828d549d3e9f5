/- The Journal's encode. -/
import Derived.Test.YtapapedpecpfgaaDoorJY
set_option linter.unusedVariables false
set_option linter.unusedSimpArgs false
namespace Go.Proofs.YtapapedpecpfgaaDoor.J
open Go.RowKit Go.Proofs.YtapapedpecpfgaaDoorW.PrintWords

def recF : List (List Int) → List Int
  | [] => []
  | r :: rs => num4 (r.length : Int) ++ r ++ recF rs
theorem recF_append (a b : List (List Int)) : recF (a ++ b) = recF a ++ recF b := by
  induction a with
  | nil => rfl
  | cons r a ih => simp [recF, ih, List.append_assoc]
theorem recF_length (a : List (List Int)) : (recF a).length = lenF a := by
  induction a with
  | nil => rfl
  | cons r a ih => simp [recF, lenF, ih, num4]; omega
theorem recF_take (rss : List (List Int)) (i : Nat) (hi : i < rss.length) : recF (rss.take (i + 1)) = recF (rss.take i) ++ num4 ((rss.getD i []).length : Int) ++ rss.getD i [] := by
  rw [List.take_add_one, recF_append]
  simp [recF, List.getElem?_eq_getElem hi, List.getD_eq_getElem?_getD]
def bodyF (ep : Nat) (rss : List (List Int)) : List Int := num4 (ep : Int) ++ num4 (rss.length : Int) ++ recF rss
theorem bodyF_length (ep : Nat) (rss : List (List Int)) : (bodyF ep rss).length = 8 + lenF rss := by simp [bodyF, recF_length, num4]; omega
/-- A batch ahead of its zeros. -/
def rawF (la : ByteArray) (us ep : Nat) (rss : List (List Int)) : List Int := bytesOf (sumJ la us (bodyF ep rss)) ++ bodyF ep rss
/-- A batch. -/
def encF (sz : Nat) (la : ByteArray) (us ep : Nat) (rss : List (List Int)) : List Int := rawF la us ep rss ++ List.replicate (((rawF la us ep rss).length + sz - 1) / sz * sz - (rawF la us ep rss).length) 0

theorem sumJ_size (la : ByteArray) (us : Int) (xs : List Int) : (sumJ la us xs).size = 32 := by
  unfold sumJ sumF
  rw [strOfNums_size, outL_length]
theorem jNumL {w : World} {B L : Nat} {v : Value} {xs : List Int} {n : Nat} (h : w.ownsRow B 5 1 v L (nums .u8 xs)) (hl : xs.length = L) (hB : B ≤ w.heap.size) (hx : L ≤ 1000000) (hn : n < 4294967296) :
    Calls Tryd.prog 50 #[v, .int .i64 n] w (fun e w' => ∃ v1, e = .returned v1 ∧ w'.ownsRow B 5 1 v1 (L + 4) (nums .u8 (xs ++ num4 n)) ∧ Below B w w') := by
  subst hl
  refine (jNum h hB hx hn).mono ?_
  rintro e w' ⟨v1, rfl, ho, hb⟩
  exact ⟨v1, rfl, by simpa [num4] using ho, hb⟩

def Drw (w W : World) : Prop := W.os = w.os ∧ W.tape = w.tape ∧ W.output = w.output ∧ W.heap = w.heap

theorem Drw.keep {w W : World} {g : Nat} {o : Obj} (h : Drw w W) (hb : w.heap[g]? = some o) : W.heap[g]? = some o := by rw [h.2.2.2]; exact hb
theorem step_zerosM {w : World} {ops : Array Oper} {o : Oper} {a : Act} {K : Act → World → Prop} {Q : Exit → Act → World → Prop} {E : Prop} (hgd : o.guard = none) (s x : Operand)
    (ho : o.op = .call { callee := .builtin .append, args := #[s, x], argTypes := #[39, 3] })
    {B g cap n m : Nat} {ys : List Int} (hs : a.eval s = .slice (some ⟨g, 0, none⟩) n cap) (hx : a.eval x = .int .i64 m) (hR : RowM w B g cap ys) (hn : ys.length = n) (hl : n + m ≤ 1000000 ∧ B ≤ w.heap.size)
    (h : ∀ g' cap' w', RowM w' B g' cap' (ys ++ List.replicate m 0) → w.grownBy w' (some g) → (g' = g ∨ w.heap.size ≤ g') → K (a.put o.dst (.slice (some ⟨g', 0, none⟩) (n + m) cap')) w') :
    if Region.wanted o (yielded ops a.tmps) = true then Oper.wp Tryd.prog o a w K Q else E := by
  have hw : Region.wanted o (yielded ops a.tmps) = true := by simp [Region.wanted, hgd]
  rw [if_pos hw]
  obtain ⟨g', cap', w', hr, h1, h2, h3⟩ := run_zerosM (ty := o.type) hR hn hl.1 hl.2
  unfold Oper.wp
  simp [execOp, ho, resolve, invoke, builtin, hs, hx, hr, Result.andThen]
  exact h g' cap' w' h1 h2 h3
def EncPost (w : World) (bs : List Int) (e : Ending) (w' : World) : Prop :=
  ∃ g cap, e = .returned (.slice (some ⟨g, 0, none⟩) bs.length cap) ∧ RowM w' w.heap.size g cap bs ∧ Chg (fun _ => False) w w'

theorem RdRec.rd {w : World} {P : Nat → Prop} {A : Option Addr} {n c : Nat} {rs : List Int} (h : RdRec w P (.slice A n c) rs) : ReadsInt w .u8 A rs.length rs := by
  obtain ⟨A', c', e, _, hr, _⟩ := h
  injection e with e1 e2 e3
  rw [e1]
  exact hr
theorem below_chg {B : Nat} {w w' : World} (h : Below B w w') : Chg (fun k => ¬ k < B) w w' := ⟨h.os, h.tape, h.output, h.size, fun k hk h' => h.block k (by simpa using h')⟩
def EncRel (w2 : World) (B n : Nat) (pre : List Int) (rss : List (List Int)) (tv iv : Value) (wr : World) : Prop :=
  ∃ (i L : Nat) (xs : List Int), i ≤ n ∧ iv = .int .i64 i ∧ wr.ownsRow B 5 1 tv L (nums .u8 xs) ∧ xs.length = L ∧ xs = pre ++ recF (rss.take i) ∧ Below B w2 wr

set_option maxRecDepth 100000 in
set_option maxHeartbeats 1000000 in
theorem jEnc {w : World} {P : Nat → Prop} {j d fi rm ep0 ba0 us0 n c sz ep ba us : Nat} {la0 la : ByteArray} {rv0 rv du pe : Value} {dn : Bool} {A : Option Addr} {rss : List (List Int)}
    (hj : JHd w j d fi rm ep0 ba0 us0 la0 rv0 dn) (hd : DHd w d sz du pe) (hs0 : 0 < sz) (hs1 : sz ≤ 4096) (h : RdRecs w P A n rss) (hP : ∀ k, P k → k < w.heap.size) (hc : n ≤ c) (hn : n ≤ 1000) (hl : lenF rss ≤ 100000) (hep : ep < 4294967296) (hus : us < 4294967296) (hla : la.size ≤ 1000) (hk : Kst w) :
    Calls Tryd.prog 52 #[.pointer (some ⟨j, 0, none⟩), .agg #[.int .i64 ep, .int .i64 ba, .int .i64 us, .string la, rv], .slice A n c] w (EncPost w (encF sz la us ep rss)) := by
  have HJ := Lib.hid hj
  have HD := Lib.hid hd
  have H := Lib.hid h
  have HL := Lib.hid h.1
  have HK := Lib.hid hk
  clear hj hd h hk
  go_enter Tryd.func52, Tryd.ntmps52
  go_wp2_with fail
  refine (jNum (B := w.heap.size + 1) (xs := []) (own_nil _ _ _ _) (by simp) (by simp) hep).mono ?_
  rintro e w1 ⟨v1, rfl, ho1, hb1⟩
  rw [List.nil_append] at ho1
  obtain ⟨bx, hbx⟩ : ∃ bx, bx = w.heap.size := ⟨_, rfl⟩
  have hbox : w1.heap[bx]? = some (.cells #[.int .i64 ep, .int .i64 ba, .int .i64 us, .string la, rv] 57 (0, 0)) := by
    rw [hb1.block bx (by omega), hbx]
    exact heap_alloc_new w _
  have hq1 : Chg (fun _ => False) w w1 := ((Chg.refl (fun _ => False) w).alloc (.cells #[.int .i64 ep, .int .i64 ba, .int .i64 us, .string la, rv] 57)).trans' ⟨hb1.os, hb1.tape, hb1.output, hb1.size, fun k hk h => hb1.block k (by simpa using h)⟩ (T := fun k => ¬ k < w.heap.size + 1) (fun _ _ h => h) (fun i hi h => by omega)
  rw [← hbx]
  have HBX := Lib.hid hbx
  have HO1 := Lib.hid ho1
  have HBOX1 := Lib.hid hbox
  have HQ1 := Lib.hid hq1
  have hz1 : w.heap.size + 1 ≤ w1.heap.size := by have := hb1.size; simpa using this
  clear ho1 hbox hq1 hb1 hbx
  go_wp2_with fail
  refine (jNum (B := w.heap.size + 1) (xs := num4 ep) HO1.out hz1 (by simp [num4]) (by omega)).mono ?_
  rintro e w2 ⟨v2, rfl, ho2, hb2⟩
  have hbox2 : w2.heap[bx]? = some (.cells #[.int .i64 ep, .int .i64 ba, .int .i64 us, .string la, rv] 57 (0, 0)) := by
    rw [hb2.block bx (by rw [HBX.out]; omega)]
    exact HBOX1.out
  have hq2 : Chg (fun _ => False) w w2 := HQ1.out.trans' ⟨hb2.os, hb2.tape, hb2.output, hb2.size, fun k hk h => hb2.block k (by simpa using h)⟩ (T := fun k => ¬ k < w.heap.size + 1) (fun _ _ h => h) (fun i hi h => by omega)
  have hz2 : w.heap.size + 1 ≤ w2.heap.size := Nat.le_trans hz1 hb2.size
  have HO2 := Lib.hid ho2
  have HBOX2 := Lib.hid hbox2
  have HQ2 := Lib.hid hq2
  clear ho2 hbox2 hq2 hb2 HBOX1 HQ1
  obtain ⟨pre, hpre⟩ : ∃ pre, num4 (ep : Int) ++ num4 (n : Int) = pre := ⟨_, rfl⟩
  have hpl : pre.length = 8 := by rw [← hpre]; rfl
  have HPRE := Lib.hid hpre
  have HPL := Lib.hid hpl
  rw [hpre] at HO2
  clear hpre hpl
  go_wp2
  go_loopw [7, 19] (fun tv iv wr => EncRel w2 (w.heap.size + 1) n pre rss tv iv wr) (fun _ iv _ => n - (intOf iv).toNat)
  case atStart => exact ⟨0, _, pre, by omega, rfl, HO2.out, rfl, by simp [recF], Below.refl _ _⟩
  case round =>
    obtain ⟨i, L, xs, hi, rfl, ho, hxl, hxs, hb⟩ := hrel
    obtain ⟨tA, tc, rfl⟩ := own_slice ho
    have HXL := Lib.hid hxl
    have HXS := Lib.hid hxs
    have hLb : L ≤ 100008 := by
      have := lenF_take_le rss i
      rw [← hxl, hxs, List.length_append, HPL.out, recF_length]
      omega
    clear hxl hxs
    have HO := Lib.hid ho
    have HB := Lib.hid hb
    have hqr : Chg (fun _ => False) w wr := HQ2.out.trans' ⟨hb.os, hb.tape, hb.output, hb.size, fun k hk h => hb.block k (by simpa using h)⟩ (T := fun k => ¬ k < w.heap.size + 1) (fun _ _ h => h) (fun i hi h => by omega)
    have HQR := Lib.hid hqr
    have hboxr : wr.heap[bx]? = some (.cells #[.int .i64 ep, .int .i64 ba, .int .i64 us, .string la, rv] 57 (0, 0)) := by
      rw [hb.block bx (by rw [HBX.out]; omega)]
      exact HBOX2.out
    have HBOX := Lib.hid hboxr
    have hzr : w.heap.size + 1 ≤ wr.heap.size := Nat.le_trans hz2 hb.size
    clear ho hb hqr hboxr
    by_cases hin : i < n
    · have hlt : (i : Int) < (n : Int) := by omega
      have hrec := H.out.chg HQR.out (fun _ _ h => h)
      obtain ⟨ad, rfl, _, hcl⟩ := hrec.2 (by omega)
      obtain ⟨v, hv, hrec1⟩ := hcl i hin
      have HREC1 := Lib.hid hrec1
      obtain ⟨A', c', rfl, hrl, hrr, _⟩ := hrec1
      have hle := lenF_take rss i (by rw [HL.out]; exact hin)
      have hle2 := lenF_take_le rss (i + 1)
      have hbl : L + 4 + (rss.getD i []).length ≤ 100008 := by rw [← HXL.out, HXS.out, List.length_append, HPL.out, recF_length]; omega
      have hrt := recF_take rss i (by rw [HL.out]; exact hin)
      obtain ⟨r, hr⟩ : ∃ r, rss.getD i [] = r := ⟨_, rfl⟩
      rw [hr] at hv hle hbl hrt HREC1
      have HRT := Lib.hid hrt
      have hrb : r.length < 4294967296 := by omega
      clear hcl hrr hrl hle hle2 hrec hr hrt
      go_wp2_with fail
      refine (jNumL (B := w.heap.size + 1) HO.out HXL.out hzr (by omega) hrb).mono ?_
      rintro e w3 ⟨v3, rfl, ho3, hb3⟩
      obtain ⟨A3, c3, rfl⟩ := own_slice ho3
      have hread : ReadsInt w3 .u8 A' r.length r := (HREC1.out.chg (below_chg hb3) (fun k hk h => h (by have := hP k hk; omega))).rd
      have HO3 : RowKit.Hid (w3.ownsRow (w.heap.size + 1) 5 1 (.slice A3 (L + 4) c3) (xs ++ num4 (r.length : Int)).length (nums .u8 (xs ++ num4 (r.length : Int)))) := Lib.hid (by rw [List.length_append, HXL.out]; exact ho3)
      have HB3 := Lib.hid hb3
      have HRD := Lib.hid hread
      have hll : (xs ++ num4 (r.length : Int)).length + r.length ≤ 140737488355328 := by rw [List.length_append, HXL.out]; simp [num4]; omega
      have HLL := Lib.hid hll
      clear ho3 hb3 hread hll
      go_wp2_with (at_builtin; refine print_append_row (w0 := w3) (w.heap.size + 1) rfl _ _ 39 5 .u8 1 rfl Tryd.underlying39 info5 (by decide) (.slice A3 (L + 4) c3) (xs ++ num4 (r.length : Int)) r A' r.length c' rfl rfl HO3.out HRD.out (Below.refl _ _) (Nat.le_trans hzr HB3.out.size) (by rw [Nat.mul_one]; exact HLL.out) ?_; intro v4 w4 ho4 hb4 hg4 hat4; have HO4 := Lib.hid ho4; have HB4 := Lib.hid hb4; clear ho4 hb4 hg4 hat4)
      go_roundw
      case rel => exact ⟨i + 1, _, _, by omega, by simp, HO4.out, rfl, by rw [HRT.out, HXS.out, List.append_assoc, List.append_assoc, List.append_assoc], HB.out.trans (HB3.out.trans HB4.out)⟩
      case measure => simp [intOf]; omega
    · have hlt : ¬ (i : Int) < (n : Int) := by omega
      have hie : rss.take i = rss := List.take_of_length_le (by rw [HL.out]; omega)
      rw [hie] at HXS
      have hLe : L = 8 + lenF rss := by rw [← HXL.out, HXS.out, List.length_append, HPL.out, recF_length]
      have hL0 : 0 < L := by omega
      have HLE := Lib.hid hLe
      clear hLe
      have hbody : xs = bodyF ep rss := by rw [HXS.out, ← HPRE.out, bodyF, HL.out]
      have HBODY := Lib.hid hbody
      obtain ⟨g, cap, hgv, hM⟩ := RowM.of HO.out hL0
      injection hgv with e1 e2 e3
      subst e1 e3
      have hMl := hM.lt
      have hMr : ReadsInt wr .u8 (some ⟨g, 0, none⟩) L xs := by rw [← HXL.out]; exact hM.reads (by rw [HXL.out]; omega)
      have hMc : L ≤ tc := by have := hM.le; rwa [HXL.out] at this
      have hb0 := blk_cell HBOX.out 0
      have hb2 := blk_cell HBOX.out 2
      have hb3 := blk_cell HBOX.out 3
      have HMR := Lib.hid hMr
      clear hie hbody hM hMr
      go_wp2_with fail
      refine (jSum HMR.out hMc hL0 (by omega) (by omega) hus hMl (HK.out.chg HQR.out (fun h => h))).mono ?_
      rintro e w5 ⟨rfl, hc5⟩
      obtain ⟨S, hS⟩ : ∃ S, sumJ la us xs = S := ⟨_, rfl⟩
      have hSs : S.size = 32 := by rw [← hS]; exact sumJ_size _ _ _
      rw [hS]
      have HSS := Lib.hid hSs
      have HS := Lib.hid hS
      have HC5 := Lib.hid hc5
      have hbs := fun W => print_bytes (P := Tryd.prog) 9 39 5 Tryd.underlying9 Tryd.underlying39 Tryd.underlying5 S W
      have hcb : Chg (fun _ => False) w5 (Lib.bytesWorld w5 5 S) := Below.chg (bytes_below (Below.refl _ _) (Nat.le_refl _) _ S)
      obtain ⟨g6, cap6, w6, hrun6, hM6, hg6, hat6⟩ := run_appendM (ty := 39) (B := w.heap.size) (n := S.size) (m := L) (c := tc) ((RowM.new w5 S (by omega)).lower (Nat.le_trans HQR.out.size hc5.size)) (bytesOf_length S) (rd_chg (rd_chg HMR.out hc5 (fun _ _ h => h)) hcb (fun _ _ h => h)) (by omega) (Nat.le_trans (Nat.le_trans HQR.out.size hc5.size) hcb.size)
      have hq6 : Chg (fun _ => False) w w6 := ((HQR.out.trans hc5).trans hcb).trans' (T := fun k => w5.heap.size = k) ⟨hg6.os, hg6.tape, hg6.output, hg6.size, fun k hk h => hg6.block k hk (fun e => h (by injection e with e; exact e.symm))⟩ (fun _ _ h => h) (fun i hi e => by have := HQR.out.size; have := hc5.size; omega)
      have HM6 := Lib.hid hM6
      have HQ6 := Lib.hid hq6
      have HRUN6 := Lib.hid hrun6
      clear hS hSs hc5 hcb hM6 hg6 hat6 hq6 hb0 hb2 hb3 hrun6
      go_wp2_with (at_builtin; refine Lib.wpList_append_run _ rfl (.tmp 36) (.tmp 37) _ _ rfl _ _ rfl rfl _ _ HRUN6.out ?_)
      obtain ⟨M, hM⟩ : ∃ M, S.size + L = M := ⟨_, rfl⟩
      obtain ⟨q, hq⟩ : ∃ q, (M + sz - 1) / sz = q := ⟨_, rfl⟩
      obtain ⟨p, hp⟩ : ∃ p, q * sz = p := ⟨_, rfl⟩
      obtain ⟨z, hz⟩ : ∃ z, p - M = z := ⟨_, rfl⟩
      have hMb : M ≤ 100050 := by have := HSS.out; omega
      have hpM : M ≤ p := by
        have h1 := Nat.div_add_mod (M + sz - 1) sz
        have h2 := Nat.mod_lt (M + sz - 1) hs0
        rw [hq, Nat.mul_comm, hp] at h1
        omega
      have hpb : p ≤ M + sz := by
        have h1 := Nat.div_mul_le_self (M + sz - 1) sz
        rw [hq, hp] at h1
        omega
      have hpI : (q : Int) * (sz : Int) = (p : Int) := by rw [← hp]; simp
      have hzI : (p : Int) - (M : Int) = (z : Int) := by omega
      have hpc : p ≤ 110000 := by omega
      have hw1 : IntKind.i64.wrap (p : Int) = p := by rw [IntKind.wrap_i64]; omega
      have hw2 : IntKind.i64.wrap (z : Int) = z := by rw [IntKind.wrap_i64]; omega
      have hzc : z ≤ 110000 := by omega
      have hqc : q ≤ 110000 := by rw [← hq]; exact Nat.le_trans (Nat.div_le_self _ _) (by omega)
      have HJ6 : RowKit.Hid (∀ W, Drw w6 W → JHd W j d fi rm ep0 ba0 us0 la0 rv0 dn) := Lib.hid (fun W hW => hW.keep (HJ.out.chg HQ6.out (fun h => h)))
      have HD6 : RowKit.Hid (∀ W, Drw w6 W → DHd W d sz du pe) := Lib.hid (fun W hW => hW.keep (HQ6.out.blk HD.out (fun h => h)))
      have hc0 := (HQ6.out.cell HJ.out.c0 (fun h => h))
      have HMM := Lib.hid hM
      have HQM := Lib.hid hq
      have HPM := Lib.hid hp
      have HZM := Lib.hid hz
      rw [hM]
      have HM6 : RowKit.Hid (∀ W, Drw w6 W → RowM W w.heap.size g6 cap6 (bytesOf S ++ xs)) := Lib.hid (fun W hW => HM6.out.mv (by rw [hW.2.2.2]))
      have HML : RowKit.Hid ((bytesOf S ++ xs).length = M) := Lib.hid (by rw [List.length_append, bytesOf_length, HXL.out, hM])
      have HB6 := Lib.hid HQ6.out.size
      clear hM hp hz
      have hend : encF sz la us ep rss = bytesOf S ++ xs ++ List.replicate z 0 := by
        have h1 : rawF la us ep rss = bytesOf S ++ xs := by unfold rawF; rw [← HBODY.out, HS.out]
        unfold encF
        rw [h1, HML.out, HQM.out, HPM.out, HZM.out]
      have hendl : (bytesOf S ++ xs ++ List.replicate z 0).length = M + z := by rw [List.length_append, HML.out, List.length_replicate]
      have HEND := Lib.hid (And.intro hend hendl)
      clear hend hendl
      go_region_law (first
        | (go_simp; go_at_call 40; refine (jSectors (HJ6.out _ (by exact ⟨rfl, rfl, rfl, rfl⟩)) (HD6.out _ (by exact ⟨rfl, rfl, rfl, rfl⟩)) (by omega) hs0 hs1).mono ?_; rintro e w7 ⟨rfl, k7, rfl⟩; rw [hq])
        | (go_simp; go_at_call 27; refine (dSize (HD6.out _ (by exact ⟨rfl, rfl, rfl, rfl⟩))).mono ?_; rintro e w7 ⟨rfl, rfl⟩)
        | (refine step_zerosM (by rfl) _ _ (by rfl) (by rfl) (by rfl) (n := M) (m := z) (HM6.out _ (by exact ⟨rfl, rfl, rfl, rfl⟩)) HML.out ⟨by omega, HB6.out⟩ ?_; intro g7 cap7 w8 hM7 hg7 hat7)
        | fail)
      all_goals (
        have HF := Lib.hid (And.intro hM7 (HQ6.out.trans' (T := fun k => g6 = k) (U := fun _ => False) (⟨hg7.os, hg7.tape, hg7.output, hg7.size, fun k hk h => hg7.block k hk (fun e => h (by injection e with e; exact e.symm))⟩ : Chg (fun k => g6 = k) w6 w8) (fun _ _ h => h) (fun i hi e => by
          obtain ⟨_, _, _, _, _, _, _, _, hB⟩ := HM6.out w6 (by exact ⟨rfl, rfl, rfl, rfl⟩)
          omega)))
        clear hM7 hg7 hat7
        go_wp2
        go_ret
        exact ⟨g7, cap7, by rw [HEND.out.1, HEND.out.2]; rfl, by rw [HEND.out.1]; exact HF.out.1, HF.out.2⟩)
end Go.Proofs.YtapapedpecpfgaaDoor.J
