/- Disk.Read. -/
import Derived.Test.YtapapedpecpfgaaDoorJG
set_option linter.unusedVariables false
set_option linter.unusedSimpArgs false
namespace Go.Proofs.YtapapedpecpfgaaDoor.J
open Go.RowKit Go.Shelf Go.Proofs.YtapapedpecpfgaaDoorW.PrintWords

attribute [local go_sem] Oper.semAt_some

/-- Read hands back a slice of its own with the sector's bytes, and OK; nothing that was there has changed. -/
def RdPost (w : World) (xs : List Int) (e : Ending) (w' : World) : Prop :=
  ∃ b c, e = .returned (.tuple #[.slice (some ⟨b, 0, none⟩) xs.length c, .int .i64 0]) ∧ w.heap.size ≤ b ∧ BytP w' b xs ∧ Below w.heap.size w w'

/-- The frame of a round: the loop's variable lies in block Bx. -/
def rdAct (d s B Bx : Nat) (pA : Option Addr) (pn pc : Nat) {ps : List PW} (sz : Nat) (x : PAt ps) : Act :=
  { tmps := #[.pointer (some ⟨d, 0, none⟩), .int .i64 s, undef, .pointer (some ⟨B, 0, none⟩), .pointer (some ⟨B + 1, 0, none⟩), .pointer (some ⟨B + 1 + 1, 0, none⟩), undef, .pointer (some ⟨Bx, 0, none⟩),
      .pointer (some ⟨d, 0, none⟩), .pointer (some ⟨d, 0, none⟩), .pointer (some ⟨d, 3, none⟩), .bool false, .pointer (some ⟨d, 0, none⟩), .int .i64 s, .bool true, .bool false,
      .pointer (some ⟨d, 0, none⟩), .pointer (some ⟨d, 0, none⟩), .pointer (some ⟨d, 2, none⟩), .slice pA pn pc, .func (.func 57) #[] #[.pointer (some ⟨B + 1 + 1 + 1, 0, none⟩)],
      .int .i64 x.1.1, .agg #[.int .i64 x.1.2.sec, .slice (some ⟨x.1.2.blk, 0, none⟩) sz x.1.2.cap], undef, undef, undef, undef, undef, undef, undef, undef, undef, undef], defers := [] }

theorem cells_kept {W W' : World} {row : Option Nat} {k : Nat} {cs : Array Value} {t : TypeId} {fr : Nat × Nat} {B : Nat} (h : W.heap[k]? = some (.cells cs t fr)) (hg : W.grownBy W' row)
    (hr : ∀ r, row = some r → B ≤ r ∧ ∃ o : Obj, W.heap[r]? = some o ∧ o.isCells = false) : W'.heap[k]? = some (.cells cs t fr) := by
  refine (hg.block k (blk_lt h) (fun e => ?_)).trans h
  obtain ⟨_, o, ho, hc⟩ := hr k e.symm
  rw [h] at ho
  injection ho with ho
  subst ho
  cases hc

def Boxed2 (W : World) (B sz : Nat) (p : PW) : Prop := W.heap[B]? = some (.cells #[.int .i64 p.sec, .slice (some ⟨p.blk, 0, none⟩) sz p.cap] 69 (0, 0))

/-- What a round that returns has done: the boxes of the results; the copy. -/
def RdX (w : World) (B : Nat) (s : Nat) {ps : List PW} (pre : List (PAt ps)) (W : World) : Prop :=
  ∃ ini x, pre = ini ++ [x] ∧ (∀ y ∈ ini, y.1.2.sec ≠ s) ∧ x.1.2.sec = s ∧ ∃ b c, Boxed W (B + 1) 39 (.slice (some ⟨b, 0, none⟩) x.1.2.dat.length c) ∧ Boxed W (B + 1 + 1) 26 (.int .i64 0) ∧ B ≤ b ∧ BytP W b x.1.2.dat
theorem RdX.own (w : World) (B C s : Nat) {ps : List PW} : OwnFrom C (fun (pre : List (PAt ps)) W => RdX w B s pre W) := by
  rintro pre W W' row ⟨ini, x, e, h1, h2, b, c, h3, h4, h5, cs, h6, h7⟩ hg hr
  exact ⟨ini, x, e, h1, h2, b, c, cells_kept h3 hg hr, cells_kept h4 hg hr, h5, cs, cells_kept h6 hg hr, h7⟩

theorem contOf_none (dc : Nat → List Int) (ps : List PW) (s : Nat) (h : ∀ p ∈ ps, p.sec ≠ s) : contOf dc ps s = dc s := by
  induction ps generalizing dc with
  | nil => rfl
  | cons p ps ih =>
    have := ih (upd dc p.sec p.dat) (fun q hq => h q (List.mem_cons_of_mem _ hq))
    simp only [contOf, List.foldl_cons] at *
    rw [this]
    simp only [upd]
    rw [if_neg (fun e => h p List.mem_cons_self e.symm)]
theorem contOf_last (dc : Nat → List Int) (ps qs : List PW) (p : PW) (h : ∀ q ∈ qs, q.sec ≠ p.sec) : contOf dc (ps ++ p :: qs) p.sec = p.dat := by
  have e : contOf dc (ps ++ p :: qs) = contOf (upd (contOf dc ps) p.sec p.dat) qs := by simp [contOf]
  rw [e, contOf_none _ _ _ h]
  simp [upd]

/-- All came, and none was of this sector. -/
theorem bwd_all {ps : List PW} {pre : List (PAt ps)} (h : Bwd ps.length pre) {s : Nat} (hs : ∀ x ∈ pre, x.1.2.sec ≠ s) : ∀ p ∈ ps, p.sec ≠ s := by
  intro p hp
  obtain ⟨j, hj, hpj⟩ := List.mem_iff_getElem.1 hp
  have hl : ps.length - 1 - j < pre.length := by rw [h.1]; omega
  have hx := List.getElem?_eq_getElem hl
  have hx1 := h.2 _ _ hx
  have hxi : (pre[ps.length - 1 - j]).1.1 = j := by omega
  have hx2 := (pre[ps.length - 1 - j]).2
  rw [hxi, List.getElem?_eq_getElem hj, hpj] at hx2
  have := hs _ (List.getElem_mem hl)
  injection hx2 with hx2
  rw [hx2]
  exact this
theorem bwd_some {ps : List PW} {k : Nat} {ini : List (PAt ps)} {x : PAt ps} (h : Bwd k (ini ++ [x])) (dc : Nat → List Int) (hs : ∀ y ∈ ini, y.1.2.sec ≠ x.1.2.sec) : contOf dc ps x.1.2.sec = x.1.2.dat := by
  have hx := x.2
  obtain ⟨hl, hp⟩ := List.getElem?_eq_some_iff.1 hx
  have e : ps = ps.take x.1.1 ++ x.1.2 :: ps.drop (x.1.1 + 1) := by
    rw [← hp, ← List.drop_eq_getElem_cons hl, List.take_append_drop]
  have hk : ini.length + 1 = k := by have := h.1; simpa using this
  have hxi := h.2 ini.length x (by simp)
  have key := contOf_last dc (ps.take x.1.1) (ps.drop (x.1.1 + 1)) x.1.2 (fun q hq => by
    obtain ⟨i, hi, hqi⟩ := List.mem_iff_getElem.1 hq
    rw [List.getElem_drop] at hqi
    have hi' : i < ps.length - (x.1.1 + 1) := by simpa using hi
    have hl2 : ps.length - 1 - (x.1.1 + 1 + i) < ini.length := by omega
    have hy := List.getElem?_eq_getElem hl2
    have hy1 := h.2 _ _ (by rw [List.getElem?_append_left hl2]; exact hy)
    have hyi : (ini[ps.length - 1 - (x.1.1 + 1 + i)]).1.1 = x.1.1 + 1 + i := by omega
    have hy2 := (ini[ps.length - 1 - (x.1.1 + 1 + i)]).2
    rw [hyi, List.getElem?_eq_getElem (by omega), hqi] at hy2
    injection hy2 with hy2
    rw [hy2]
    exact hs _ (List.getElem_mem hl2))
  rw [← e] at key
  exact key

theorem bContentsP {w : World} {d g sz n c : Nat} {D : Nat → Option Nat} {dc : Nat → List Int} {pe : Value} (hd : DHd w d sz (.slice (some ⟨g, 0, none⟩) n c) pe) (h : Durs w g sz n D dc) (hs0 : 0 < sz) (hs1 : sz ≤ 4096) (i : Nat) (hi : i < n) :
    Calls Tryd.prog 47 #[.pointer (some ⟨d, 0, none⟩), .int .i64 i] w (OwnP w (dc i)) :=
  (dContents hd h hs0 hs1 i hi).mono fun e w' ⟨v, he, ho, hb⟩ => by
    obtain ⟨b, c, rfl, hb1, hb2⟩ := BytP.of_own ho (by rw [h.len i hi]; exact hs0)
    exact ⟨b, c, he, hb1, hb2, hb⟩

/-- The iterator's word, at the world in which the loop begins. -/
theorem backward_stops (n : Nat) (hn : 1 ≤ n) (Bs sz cap : Nat) (A : Option Addr) (ps : List PW) (gb : Nat) (hA : 0 < ps.length → A = some ⟨gb, 0, none⟩) (hlen : ps.length ≤ 1000000) (w : World) (hBs : Bs < w.heap.size) (hb : 0 < ps.length → gb < w.heap.size)
    (hc0 : w.cell? ⟨Bs, 0, none⟩ = some (.slice A ps.length cap))
    (hc : ∀ j p, ps[j]? = some p → w.cell? ⟨gb, j * 2, none⟩ = some (.int .i64 p.sec) ∧ w.cell? ⟨gb, j * 2 + 1, none⟩ = some (.slice (some ⟨p.blk, 0, none⟩) sz p.cap)) :
    SeqStopsK Fence.wide n Tryd.prog 57 #[.pointer (some ⟨Bs, 0, none⟩)] (pEnc sz (ps := ps)) (Below w.heap.size) (fun ys => Bwd ps.length ys) (fun pre => ∃ k, k ≤ ps.length ∧ Bwd k pre) ps.length w :=
  fun l J Jx W hW _ _ hY h0 => by
    refine backward1_in n hn l Bs w.heap.size sz gb cap ps hb hBs hlen J Jx hY W A hA ((hW.cell (p := ⟨Bs, 0, none⟩) hBs).trans hc0) (fun j p hp => ?_) h0
    have hl := hb (by have := (List.getElem?_eq_some_iff.1 hp).1; omega)
    exact ⟨(hW.cell (p := ⟨gb, j * 2, none⟩) hl).trans (hc j p hp).1, (hW.cell (p := ⟨gb, j * 2 + 1, none⟩) hl).trans (hc j p hp).2⟩

set_option maxRecDepth 100000 in
set_option maxHeartbeats 2000000 in
theorem dRead {w : World} {d sz n s m : Nat} {cont : Nat → List Int} {F : Nat → Prop}
    (hD : DiskAt w d sz n cont m F) (hs0 : 0 < sz) (hs1 : sz ≤ 4096) (hsn : s < n) (hm : m ≤ 1000000) :
    Calls Tryd.prog 36 #[.pointer (some ⟨d, 0, none⟩), .int .i64 s] w (RdPost w (cont s)) := by
  refine (callsIn_wide (n := 5)).1 ?_
  obtain ⟨g, D, dc, pv, ps, hI, hpm, hct, hF⟩ := hD
  have hhd := hI.hd
  have h2 := hhd.c2
  have h3 := hhd.c3
  obtain ⟨pA, pc, hpv⟩ : ∃ A c, pv = .slice A ps.length c := own_slice hI.pe.own
  have HI := Lib.hid hI
  have HH := Lib.hid hhd
  have HPV := Lib.hid hpv
  have hs2 : (0 : Int) ≤ (s : Int) := by omega
  have hs3 : (s : Int) < (n : Int) := by omega
  have h3a := cell_al h3
  rw [hpv] at h2
  have h3b : ∀ a b c, (((w.alloc a).alloc b).alloc c).cell? ⟨d, 3, none⟩ = some (.bool false) := fun a b c => cell_al (cell_al (cell_al h3 a) b) c
  have h2b : ∀ a b c, (((w.alloc a).alloc b).alloc c).cell? ⟨d, 2, none⟩ = some (.slice pA ps.length pc) := fun a b c => cell_al (cell_al (cell_al h2 a) b) c
  clear hI hhd hpv
  refine callsIn_of_wp_marks Tryd.func36 rfl trivial ?_ rfl
  simp only [Tryd.ntmps36, List.size_toArray, List.length_cons, List.length_nil, Nat.reduceAdd, Nat.reduceSub, Array.replicate_succ, Array.replicate_zero, List.push_toArray, List.append_toArray, List.nil_append, List.cons_append]
  gi_wp2_with (first
    | (refine ⟨trivial, ?_⟩; gi_at_call 45; refine (callsIn_wide.2 (dInside (blk_alloc (blk_alloc (blk_alloc HH.out _) _) _) s hs2 hs3)).mono ?_; rintro e w' ⟨rfl, rfl⟩)
    | (refine ⟨trivial, ?_⟩; gi_at_call 46; refine (backward_in _ _ _ _ _).mono ?_; rintro e w' ⟨rfl, rfl⟩))
  obtain ⟨B, hB⟩ : ∃ B, B = w.heap.size := ⟨_, rfl⟩
  rw [← hB]
  generalize hw4 : (((w.alloc (Obj.cells #[Value.int IntKind.i64 ↑s] 3)).alloc (Obj.cells #[Value.slice none 0 0] 39)).alloc (Obj.cells #[Value.int IntKind.i64 0] 26)).alloc (Obj.cells #[Value.slice pA ps.length pc] 53) = w4
  have hb4 : Below B w w4 := by
    rw [← hw4, hB]
    exact ((((Below.refl _ w).alloc (Nat.le_refl _) _).alloc (by simp) _).alloc (by simp; omega) _).alloc (by simp; omega) _
  have hz4 : w4.heap.size = B + 4 := by rw [← hw4, hB]; simp
  have bx0 : Boxed w4 B 3 (.int .i64 s) := by rw [← hw4, hB]; exact (((Boxed.new w _ _).alloc _).alloc _).alloc _
  have bx1 : Boxed w4 (B + 1) 39 (.slice none 0 0) := by
    have := (Boxed.new (w.alloc (.cells #[.int .i64 s] 3)) 39 (.slice none 0 0)).alloc (Obj.cells #[Value.int IntKind.i64 0] 26) |>.alloc (Obj.cells #[Value.slice pA ps.length pc] 53)
    rw [World.size_alloc] at this
    rw [← hw4, hB]; exact this
  have bx2 : Boxed w4 (B + 1 + 1) 26 (.int .i64 0) := by
    have := (Boxed.new ((w.alloc (.cells #[.int .i64 s] 3)).alloc (.cells #[.slice none 0 0] 39)) 26 (.int .i64 0)).alloc (Obj.cells #[Value.slice pA ps.length pc] 53)
    rw [World.size_alloc, World.size_alloc] at this
    rw [← hw4, hB]; exact this
  have bx3 : Boxed w4 (B + 1 + 1 + 1) 53 (.slice pA ps.length pc) := by
    have := (Boxed.new (((w.alloc (.cells #[.int .i64 s] 3)).alloc (.cells #[.slice none 0 0] 39)).alloc (.cells #[.int .i64 0] 26)) 53 (.slice pA ps.length pc))
    rw [World.size_alloc, World.size_alloc, World.size_alloc] at this
    rw [← hw4, hB]; exact this
  obtain ⟨gb, hA⟩ : ∃ gb, 0 < ps.length → pA = some ⟨gb, 0, none⟩ ∧ gb < w.heap.size := by
    by_cases h0 : 0 < ps.length
    · obtain ⟨gb, c1, e, _, hl⟩ := HI.out.pe.own.form h0
      rw [HPV.out] at e
      injection e with e
      exact ⟨gb, fun _ => ⟨e, hl⟩⟩
    · exact ⟨0, fun h => absurd h h0⟩
  have hcs : ∀ j p, ps[j]? = some p → w4.cell? ⟨gb, j * 2, none⟩ = some (.int .i64 p.sec) ∧ w4.cell? ⟨gb, j * 2 + 1, none⟩ = some (.slice (some ⟨p.blk, 0, none⟩) sz p.cap) := by
    intro j p hp
    obtain ⟨e, hl⟩ := hA (by have := (List.getElem?_eq_some_iff.1 hp).1; omega)
    obtain ⟨h1, h2⟩ := PW.at_ HI.out.pe (by rw [HPV.out, e]) hp
    exact ⟨(hb4.cell (p := ⟨gb, j * 2, none⟩) (by rw [hB]; exact hl)).trans h1, (hb4.cell (p := ⟨gb, j * 2 + 1, none⟩) (by rw [hB]; exact hl)).trans h2⟩
  have hseq := backward_stops 4 (by omega) (B + 1 + 1 + 1) sz pc pA ps gb (fun h => (hA h).1) (by omega) w4 (by omega) (fun h => by have := (hA h).2; omega) bx3.cell hcs
  have hD4 : DHd w4 d sz (.slice (some ⟨g, 0, none⟩) n n) pv := (hb4.block d (by rw [hB]; exact blk_lt HH.out)).trans HH.out
  have hdu4 : Durs w4 g sz n D dc := HI.out.du.chg (S := fun k => B ≤ k) ⟨hb4.os, hb4.tape, hb4.output, hb4.size, fun k _ hk => hb4.block k (by omega)⟩
    (by obtain ⟨cs, hga, _⟩ := HI.out.du.arr; have := blk_lt hga; omega) (fun i b hi he => by have := blk_lt (HI.out.du.some_ i b hi he); omega)
  have HD4 := Lib.hid hD4
  have HDU4 := Lib.hid hdu4
  have HB := Lib.hid hB
  have HZ4 := Lib.hid hz4
  have hz4' : B + 4 ≤ w4.heap.size := by omega
  clear hD4 hdu4 hw4 h2b h3b h3a hcs hB hz4 h2 h3
  refine wpIn_rangeFunc_ownH (F := Fence.wide) rfl (by omega) (gf := 57) (lb := #[.pointer (some ⟨B + 1 + 1 + 1, 0, none⟩)]) rfl trivial (enters_of Tryd.func57 (by kernel_rfl) rfl)
    hseq belowK_t (belowK_b (Nat.le_refl _)) (Below.refl _ _) (fun _ => rfl)
    (fun pre W => (∀ x ∈ pre, x.1.2.sec ≠ s) ∧ Below w4.heap.size w4 W)
    (fun c pre W => (c = .ret ∧ RdX w B s pre W) ∧ Below B w W)
    (OwnFrom.and (ownFrom_pure _ _) (ownFrom_below (Nat.le_refl _) (Nat.le_refl _)))
    (fun c => OwnFrom.and (OwnFrom.and (ownFrom_pure _ _) (RdX.own w B _ s)) (ownFrom_below (by rw [HB.out]; exact Nat.le_refl _) (by omega)))
    ⟨fun x hx => by simp at hx, Below.refl _ _⟩
    (fun x a' W => ∃ Bx, w4.heap.size ≤ Bx ∧ Boxed2 W Bx sz x.1.2 ∧ a' = rdAct d s B Bx pA ps.length pc sz x)
    (fun x a' u W W' row h hg hr => by obtain ⟨Bx, h1, h2, h3⟩ := h; exact ⟨Bx, h1, cells_kept h2 hg hr, h3⟩) ?assign ?body ?done ?stop
  case assign =>
    rintro l pre x W K ⟨hp, hbl⟩ hK
    dsimp only [pEnc]
    have hbz := hbl.size
    gi_wp2
    exact hK _ _ ((KeepsOthers.alloc _ _).from _) ((Below.refl _ W).alloc hbl.size _) ⟨hp, hbl.alloc hbl.size _⟩ ⟨W.heap.size, hbl.size, heap_alloc_new W _, rfl⟩
  case body =>
    rintro l pre x a' W hl ⟨r, hr⟩ ⟨hp, hbl⟩ ⟨Bx, hBx, bX, rfl⟩ hlt
    have cX0 : W.cell? ⟨Bx, 0, none⟩ = some (.int .i64 x.1.2.sec) := (blk_cell bX 0).trans rfl
    have cX1 : W.cell? ⟨Bx, 1, none⟩ = some (.slice (some ⟨x.1.2.blk, 0, none⟩) sz x.1.2.cap) := (blk_cell bX 1).trans rfl
    have c0 : W.cell? ⟨B, 0, none⟩ = some (.int .i64 s) := (hbl.cell (p := ⟨B, 0, none⟩) (by simp; omega)).trans bx0.cell
    have HBL := Lib.hid hbl
    dsimp only [rdAct]
    by_cases hs : x.1.2.sec = s
    · have hse : ((x.1.2.sec : Int) == (s : Int)) = true := by simp [hs]
      have hmem : x.1.2 ∈ ps := List.mem_of_getElem? x.2
      have HR := Lib.hid (HI.out.pe.rd _ hmem)
      have HS := Lib.hid hs
      clear hs hbl
      have b1 : Boxed W (B + 1) 39 (.slice none 0 0) := (HBL.out.block _ (by omega)).trans bx1
      have b2 : Boxed W (B + 1 + 1) 26 (.int .i64 0) := (HBL.out.block _ (by omega)).trans bx2
      have HB1 := Lib.hid b1
      have HB2 := Lib.hid b2
      have hrd : ReadsInt W .u8 (some ⟨x.1.2.blk, 0, none⟩) sz x.1.2.dat := by
        have h1 := HR.out.1.mv ((HBL.out.block _ (by have := HR.out.1.lt; rw [← HB.out] at this; omega)).trans (hb4.block _ (by rw [HB.out]; exact HR.out.1.lt)))
        have h2 := h1.reads (by rw [HR.out.2]; omega)
        rw [HR.out.2] at h2; exact h2
      have HRD := Lib.hid hrd
      clear b1 b2 hrd
      gi_wp2_with fail
      refine ⟨trivial, ?_⟩
      refine (CallsIn.inRound l (callsIn_wide.2 (bCloneP HRD.out (by omega) hs0))).mono ?_
      rintro e W2 ⟨b, c, rfl, hb, hbp, hbel⟩
      have HW2 := Lib.hid (And.intro hb (And.intro hbp hbel))
      have k1 := (hbel.cell (p := ⟨B + 1, 0, none⟩) HB1.out.lt).trans HB1.out.cell
      have k2 := (hbel.cell (p := ⟨B + 1 + 1, 0, none⟩) HB2.out.lt).trans HB2.out.cell
      have f1 := (hbel.frozen (p := ⟨B + 1, 0, none⟩) HB1.out.lt).trans HB1.out.frozen
      have f2 := (hbel.frozen (p := ⟨B + 1 + 1, 0, none⟩) HB2.out.lt).trans HB2.out.frozen
      clear hb hbp hbel
      gi_wp2_with fail
      obtain ⟨hb, hbp, hbel⟩ := HW2.out
      have hbB : B ≤ b := by have := HBL.out.size; omega
      have hne1 : b ≠ B + 1 := by have := HBL.out.size; omega
      have hne2 : b ≠ B + 1 + 1 := by have := HBL.out.size; omega
      have e1 : Boxed W2 (B + 1) 39 (.slice none 0 0) := (hbel.block _ HB1.out.lt).trans HB1.out
      have e2 : Boxed W2 (B + 1 + 1) 26 (.int .i64 0) := (hbel.block _ HB2.out.lt).trans HB2.out
      refine ⟨?_, ⟨rfl, pre, x, rfl, fun y hy => hp y hy, HS.out, b, c, ?_, ?_, hbB, ?_⟩, ?_⟩
      · exact ((KeepsOthers.of_grownBy (row := none) (grown_of_below hbel none) (fun _ _ h => by cases h)).trans ((KeepsOthers.setCell _ _ _).trans (KeepsOthers.setCell _ _ _))).from _
      · exact Boxed.other (Boxed.set _ e1) (by omega) _
      · exact Boxed.set _ (Boxed.other e2 (by omega) _)
      · exact (hbp.mv (Below.heap_setCell _ _ _ _ hne1)).mv (Below.heap_setCell _ _ _ _ hne2)
      · have hBW : Below B w W := hb4.trans (HBL.out.mono (by omega))
        have hBW2 : Below B w W2 := hBW.trans (hbel.mono (by have := HBL.out.size; omega))
        exact (hBW2.setCell (p := ⟨B + 1, 0, none⟩) (by simp) _).setCell (p := ⟨B + 1 + 1, 0, none⟩) (by simp; omega) _
    · have hse : ((x.1.2.sec : Int) == (s : Int)) = false := by simp; omega
      have HS := Lib.hid hs
      clear hs hbl
      gi_wp2
      exact ⟨KeepsFrom.refl _ _, Below.refl _ _, fun y hy => by
        rcases List.mem_append.1 hy with hy | hy
        · exact hp y hy
        · obtain rfl := List.mem_singleton.1 hy
          exact HS.out, HBL.out⟩
  case done =>
    rintro D' ys W hD hS ⟨hp, hbl⟩ hK
    have hnone := bwd_all hS hp
    have c0 : W.cell? ⟨B, 0, none⟩ = some (.int .i64 s) := (hbl.cell (p := ⟨B, 0, none⟩) (by simp; omega)).trans bx0.cell
    have b1 : Boxed W (B + 1) 39 (.slice none 0 0) := (hbl.block _ (by omega)).trans bx1
    have b2 : Boxed W (B + 1 + 1) 26 (.int .i64 0) := (hbl.block _ (by omega)).trans bx2
    have hdW : DHd W d sz (.slice (some ⟨g, 0, none⟩) n n) pv := (hbl.block _ (blk_lt HD4.out)).trans HD4.out
    have hduW : Durs W g sz n D dc := HDU4.out.chg (S := fun k => w4.heap.size ≤ k) ⟨hbl.os, hbl.tape, hbl.output, hbl.size, fun k _ hk => hbl.block k (by omega)⟩
      (by obtain ⟨cs, hga, _⟩ := HDU4.out.arr; have := blk_lt hga; omega) (fun i b hi he => by have := blk_lt (HDU4.out.some_ i b hi he); omega)
    have hcs : cont s = dc s := by rw [hct s hsn, contOf_none _ _ _ hnone]
    have HCS := Lib.hid hcs
    have HDW := Lib.hid hdW
    have HDUW := Lib.hid hduW
    have HB1 := Lib.hid b1
    have HB2 := Lib.hid b2
    have HBL := Lib.hid hbl
    have HK := Lib.hid hK
    clear hcs hdW hduW b1 b2 hbl hK hnone hp
    gi_wp2_with fail
    refine ⟨trivial, ?_⟩
    refine (callsIn_wide.2 (bContentsP HDW.out HDUW.out hs0 hs1 s hsn)).mono ?_
    rintro e W2 ⟨b, c, rfl, hb, hbp, hbel⟩
    have HW2 := Lib.hid (And.intro hb (And.intro hbp hbel))
    have k1 := (hbel.cell (p := ⟨B + 1, 0, none⟩) HB1.out.lt).trans HB1.out.cell
    have k2 := (hbel.cell (p := ⟨B + 1 + 1, 0, none⟩) HB2.out.lt).trans HB2.out.cell
    have f1 := (hbel.frozen (p := ⟨B + 1, 0, none⟩) HB1.out.lt).trans HB1.out.frozen
    have f2 := (hbel.frozen (p := ⟨B + 1 + 1, 0, none⟩) HB2.out.lt).trans HB2.out.frozen
    have hK2 : W2.heap[D']? = some (.deferred (some [])) := (hbel.block _ (Array.getElem?_eq_some_iff.1 HK.out).1).trans HK.out
    have HK2 := Lib.hid hK2
    clear hb hbp hbel hK2
    gi_wp2_with fail
    obtain ⟨hb, hbp, hbel⟩ := HW2.out
    have hWz := HBL.out.size
    have hDl := blk_lt HK.out
    have e1 : Boxed W2 (B + 1) 39 (.slice none 0 0) := (hbel.block _ HB1.out.lt).trans HB1.out
    have e2 : Boxed W2 (B + 1 + 1) 26 (.int .i64 0) := (hbel.block _ HB2.out.lt).trans HB2.out
    generalize hX : (W2.setCell { block := B + 1, off := 0 } (Value.slice (some { block := b, off := 0 }) (dc s).length c)).setCell { block := B + 1 + 1, off := 0 } (Value.int IntKind.i64 0) = X
    have x1 : Boxed X (B + 1) 39 (.slice (some ⟨b, 0, none⟩) (dc s).length c) := by rw [← hX]; exact Boxed.other (Boxed.set _ e1) (by omega) _
    have x2 : Boxed X (B + 1 + 1) 26 (.int .i64 0) := by rw [← hX]; exact Boxed.set _ (Boxed.other e2 (by omega) _)
    have xo : ∀ k, k ≠ B + 1 → k ≠ B + 1 + 1 → X.heap[k]? = W2.heap[k]? := fun k h1 h2 => by
      rw [← hX]; exact (Below.heap_setCell _ _ _ _ h2).trans (Below.heap_setCell _ _ _ _ h1)
    have hKX : X.heap[D']? = some (.deferred (some [])) := (xo D' (by omega) (by omega)).trans HK2.out
    have hbX : BytP X b (dc s) := hbp.mv (xo b (by omega) (by omega))
    have hBX : Below B w X := by
      rw [← hX]
      have hBW : Below B w W2 := (hb4.trans (HBL.out.mono (by omega))).trans (hbel.mono (by omega))
      exact (hBW.setCell (p := ⟨B + 1, 0, none⟩) (by simp) _).setCell (p := ⟨B + 1 + 1, 0, none⟩) (by simp; omega) _
    have hgr := grownBy_putObj' X D' (.deferred none)
    have hnc : ∀ r, some D' = some r → ∃ o : Obj, X.heap[r]? = some o ∧ o.isCells = false := fun r e => by cases e; exact ⟨_, hKX, rfl⟩
    have hnc2 : ∀ r, some D' = some r → B ≤ r ∧ ∃ o : Obj, X.heap[r]? = some o ∧ o.isCells = false := fun r e => by cases e; exact ⟨by omega, _, hKX, rfl⟩
    have q1 := cell_kept x1.cell hgr hnc
    have q2 := cell_kept x2.cell hgr hnc
    have HX := Lib.hid hX
    clear hX
    refine ⟨by simp, .inl ⟨_, _, rfl, run_takeDeferred hKX, ?_⟩⟩
    refine ⟨.tuple #[.slice (some ⟨b, 0, none⟩) (dc s).length c, .int .i64 0], by simp [results, Tryd.results36, go_sem, q1, q2], b, c, by rw [HCS.out], by rw [← HB.out]; omega, ?_, ?_⟩
    · rw [HCS.out]
      obtain ⟨cs, h7, h8⟩ := hbX
      exact ⟨cs, cells_kept h7 hgr hnc2, h8⟩
    · rw [← HB.out]
      exact hBX.grown hgr (by rw [HB.out]; exact hBX.size) (fun r e => by cases e; omega)
  case stop =>
    rintro D' c pre W hD hS ⟨⟨rfl, hX⟩, hbw⟩ hK
    gi_wp2
    obtain ⟨ini, x, rfl, h1, h2, b, c, h3, h4, h5, h6⟩ := hX
    obtain ⟨k, hk, hbk⟩ := hS
    have hcv : cont s = x.1.2.dat := by
      rw [hct s hsn, ← h2]
      exact bwd_some hbk dc (fun y hy => by rw [h2]; exact h1 y hy)
    have hgr := grownBy_putObj' W D' (.deferred none)
    have hnc : ∀ r, some D' = some r → ∃ o : Obj, W.heap[r]? = some o ∧ o.isCells = false := fun r e => by cases e; exact ⟨_, hK, rfl⟩
    have hnc2 : ∀ r, some D' = some r → B ≤ r ∧ ∃ o : Obj, W.heap[r]? = some o ∧ o.isCells = false := fun r e => by cases e; exact ⟨by omega, _, hK, rfl⟩
    have q1 := cell_kept h3.cell hgr hnc
    have q2 := cell_kept h4.cell hgr hnc
    refine ⟨by simp, .inl ⟨_, _, rfl, run_takeDeferred hK, ?_⟩⟩
    refine ⟨.tuple #[.slice (some ⟨b, 0, none⟩) x.1.2.dat.length c, .int .i64 0], by simp [results, Tryd.results36, go_sem, q1, q2], b, c, by rw [hcv], by rw [← HB.out]; exact h5, ?_, ?_⟩
    · rw [hcv]
      obtain ⟨cs, h7, h8⟩ := h6
      exact ⟨cs, cells_kept h7 hgr hnc2, h8⟩
    · rw [← HB.out]
      exact hbw.grown hgr (by rw [HB.out]; exact hbw.size) (fun r e => by cases e; omega)
end Go.Proofs.YtapapedpecpfgaaDoor.J
