/- The pending writes; the disk told whole; Write. -/
import Derived.Test.YtapapedpecpfgaaDoorJD
import Derived.Deep.RegionHeld3
import Derived.Deep.AppendLies
import Derived.Deep.DrawnRows
set_option linter.unusedVariables false
set_option linter.unusedSimpArgs false
namespace Go.Proofs.YtapapedpecpfgaaDoor.J
open Go.RowKit Go.Proofs.YtapapedpecpfgaaDoorW.PrintWords

/-- A pending write: its sector; its data's block, capacity, bytes. -/
structure PW where
  sec : Nat
  blk : Nat
  cap : Nat
  dat : List Int
def PW.cells (sz : Nat) (p : PW) : List Value := [.int .i64 p.sec, .slice (some ⟨p.blk, 0, none⟩) sz p.cap]
def pcells (sz : Nat) (ps : List PW) : List Value := ps.flatMap (PW.cells sz)
theorem pcells_length (sz : Nat) (ps : List PW) : (pcells sz ps).length = ps.length * 2 := by
  induction ps with
  | nil => rfl
  | cons p ps ih => simp only [pcells, List.flatMap_cons, List.length_append, List.length_cons] at *; rw [ih]; simp [PW.cells]; omega
theorem pcells_snoc (sz : Nat) (ps : List PW) (p : PW) : pcells sz (ps ++ [p]) = pcells sz ps ++ p.cells sz := by simp [pcells]

/-- The first bytes of a block. -/
def BytP (w : World) (b : Nat) (xs : List Int) : Prop := ∃ cs : Array Value, w.heap[b]? = some (.cells cs 5 (0, 0)) ∧ cs.toList.take xs.length = nums .u8 xs
theorem BytP.reads {w : World} {b : Nat} {xs : List Int} (h : BytP w b xs) (hl : xs.length ≤ 9223372036854775807) : ReadsInt w .u8 (some ⟨b, 0, none⟩) xs.length xs := by
  obtain ⟨cs, hb, ht⟩ := h
  refine ⟨rfl, hl, fun _ => ⟨_, rfl, fun j hj => ?_⟩⟩
  rw [add_plain, blk_cell hb j]
  have h1 : (cs.toList.take xs.length)[j]? = some (.int .u8 (xs.getD j 0)) := by
    rw [ht]; simp [nums, List.getD_eq_getElem?_getD, List.getElem?_eq_getElem hj]
  rw [List.getElem?_take, if_pos hj] at h1
  simpa using h1
theorem BytP.of_own {w : World} {base : Nat} {v : Value} {xs : List Int} (h : w.ownsRow base 5 1 v xs.length (nums .u8 xs)) (h0 : 0 < xs.length) : ∃ b c, v = .slice (some ⟨b, 0, none⟩) xs.length c ∧ base ≤ b ∧ BytP w b xs := by
  rcases h.2 with ⟨_, h2⟩ | ⟨g, cap, cur, rfl, hb, hh, _, _, _, ht⟩
  · omega
  · exact ⟨g, cap, rfl, hb, cur, hh, by rw [← ht, Nat.mul_one]⟩

structure Pend (w : World) (g sz n : Nat) (D : Nat → Option Nat) (pv : Value) (ps : List PW) : Prop where
  own : w.ownsRow 0 69 2 pv ps.length (pcells sz ps)
  rd : ∀ p ∈ ps, BytP w p.blk p.dat ∧ p.dat.length = sz
  sec : ∀ p ∈ ps, p.sec < n
  ap : ∀ p ∈ ps, ∀ i, i < n → D i ≠ some p.blk

def upd {α : Type} (c : Nat → α) (s : Nat) (x : α) : Nat → α := fun i => if i = s then x else c i
def contOf (dc : Nat → List Int) (ps : List PW) : Nat → List Int := ps.foldl (fun c p => upd c p.sec p.dat) dc
theorem contOf_snoc (dc : Nat → List Int) (ps : List PW) (p : PW) : contOf dc (ps ++ [p]) = upd (contOf dc ps) p.sec p.dat := by simp [contOf]

def DFoot (d g n : Nat) (D : Nat → Option Nat) (pv : Value) (ps : List PW) (k : Nat) : Prop :=
  k = d ∨ k = g ∨ pv.ownBlock = some k ∨ (∃ i, i < n ∧ D i = some k) ∨ (∃ p ∈ ps, p.blk = k)

structure DiskIs (w : World) (d g sz n : Nat) (D : Nat → Option Nat) (dc : Nat → List Int) (pv : Value) (ps : List PW) : Prop where
  hd : DHd w d sz (.slice (some ⟨g, 0, none⟩) n n) pv
  du : Durs w g sz n D dc
  pe : Pend w g sz n D pv ps

/-- A disk at block d: sectors of sz bytes with these contents, at most m writes pending; its memory lies in F. -/
def DiskAt (w : World) (d sz n : Nat) (cont : Nat → List Int) (m : Nat) (F : Nat → Prop) : Prop :=
  ∃ g D dc pv ps, DiskIs w d g sz n D dc pv ps ∧ ps.length ≤ m ∧ (∀ i, i < n → cont i = contOf dc ps i) ∧ ∀ k, DFoot d g n D pv ps k → F k

def WrPost (w : World) (d sz n s : Nat) (cont : Nat → List Int) (m : Nat) (xs : List Int) (F : Nat → Prop) (e : Ending) (w' : World) : Prop :=
  e = .returned (.int .i64 0) ∧ Chg F w w' ∧ ∃ F', DiskAt w' d sz n (upd cont s xs) (m + 1) F' ∧ ∀ k, k < w.heap.size → F' k → F k

theorem info69 : (Tryd.prog.info? 69).map (fun i => (i.zero, i.size, i.bytes)) = some (some (.agg #[.int .i64 0, .slice none 0 0]), 2, 32) := by kernel_rfl

def OwnP (w : World) (xs : List Int) (e : Ending) (w' : World) : Prop :=
  ∃ b c, e = .returned (.slice (some ⟨b, 0, none⟩) xs.length c) ∧ w.heap.size ≤ b ∧ BytP w' b xs ∧ Below w.heap.size w w'
theorem bCloneP {w : World} {A : Option Addr} {n c : Nat} {xs : List Int} (h : ReadsInt w .u8 A n xs) (hn : n ≤ 140737488355328) (h0 : 0 < n) :
    Calls Tryd.prog 30 #[.slice A n c] w (OwnP w xs) :=
  (bClone h hn).mono fun e w' ⟨v, he, ho, hb⟩ => by
    obtain ⟨b, c, rfl, hb1, hb2⟩ := BytP.of_own ho (by rw [h.1]; exact h0)
    exact ⟨b, c, he, hb1, hb2, hb⟩
theorem below_undrew {w w1 : World} (h : Below w.drew.heap.size w.drew w1) : Below w.heap.size w w1 := ⟨h.os, h.tape, h.output, h.size, h.block⟩
theorem below_own {w w1 : World} {e sz n : Nat} {v : Value} {xs : List Value} (hb : Below w.heap.size w w1) (h : w.ownsRow 0 e sz v n xs) : w1.ownsRow 0 e sz v n xs := pw_own_below h hb

theorem BytP.mv {w w' : World} {b : Nat} {xs : List Int} (h : BytP w b xs) (he : w'.heap[b]? = w.heap[b]?) : BytP w' b xs := by
  obtain ⟨cs, hb, ht⟩ := h
  exact ⟨cs, he.trans hb, ht⟩
theorem BytP.lt {w : World} {b : Nat} {xs : List Int} (h : BytP w b xs) : b < w.heap.size := by
  obtain ⟨cs, hb, _⟩ := h
  exact blk_lt hb
theorem BytP.ne {w : World} {b g t : Nat} {xs : List Int} {cs : Array Value} (h : BytP w b xs) (hg : w.heap[g]? = some (.cells cs t (0, 0))) (ht : 5 ≠ t) : b ≠ g := by
  obtain ⟨cs', hb, _⟩ := h
  exact blk_ne hb hg ht

theorem wr_end {w w1 w2 : World} {d g sz n s b cb : Nat} {D : Nat → Option Nat} {dc : Nat → List Int} {pv pv' : Value} {ps : List PW} {xs : List Int} {o : Obj}
    (hI : DiskIs w d g sz n D dc pv ps) (hb : Below w.heap.size w w1) (hbp : BytP w1 b xs) (hbl : w.heap.size ≤ b) (hxl : xs.length = sz) (hs : s < n)
    (hg : (w1.alloc o).grownBy w2 pv.ownBlock) (hown : w2.ownsRow 0 69 2 pv' (ps.length + 1) (pcells sz ps ++ [.int .i64 s, .slice (some ⟨b, 0, none⟩) xs.length cb])) :
    DiskIs (w2.setCell ⟨d, 2, none⟩ pv') d g sz n D dc pv' (ps ++ [⟨s, b, cb, xs⟩]) ∧ Chg (fun k => k = d ∨ pv.ownBlock = some k) w (w2.setCell ⟨d, 2, none⟩ pv') := by
  obtain ⟨hd, hdu, hpe⟩ := hI
  have hC2 : Chg (fun k => pv.ownBlock = some k) w w2 :=
    (((Chg.refl _ w).trans' (T := fun _ => False) ⟨hb.os, hb.tape, hb.output, hb.size, fun k hk _ => hb.block k hk⟩ (fun _ _ h => h) (fun _ _ h => h.elim)).alloc o).grown hg (fun k e _ => e)
  have hC3 : Chg (fun k => k = d ∨ pv.ownBlock = some k) w (w2.setCell ⟨d, 2, none⟩ pv') :=
    (hC2.mono (fun _ _ h => .inr h)).setCell (p := ⟨d, 2, none⟩) (fun _ => .inl rfl) _
  have hdp : ¬ pv.ownBlock = some d := fun e => by
    obtain ⟨cs, hc⟩ := own_typed hpe.own d e
    exact absurd rfl (blk_ne hd hc (by decide))
  have hd2 : DHd w2 d sz (.slice (some ⟨g, 0, none⟩) n n) pv := hC2.blk hd hdp
  have hnp : ∀ k cs t, w.heap[k]? = some (.cells cs t (0, 0)) → t ≠ 69 → ¬ pv.ownBlock = some k := fun k cs t hk ht e => by
    obtain ⟨cs', hc⟩ := own_typed hpe.own k e
    exact absurd rfl (blk_ne hk hc ht)
  have hgd : ∀ cs, w.heap[g]? = some (.cells cs 39 (0, 0)) → g ≠ d := fun cs hc => blk_ne hc hd (by decide)
  have hgC : ¬ (g = d ∨ pv.ownBlock = some g) := by
    obtain ⟨cs, hc, _⟩ := hdu.arr
    rintro (e | e)
    · exact hgd cs hc e
    · exact hnp g cs _ hc (by decide) e
  have h5 : ∀ k xs, BytP w k xs → ¬ (k = d ∨ pv.ownBlock = some k) := fun k ys hk => by
    obtain ⟨cs, hc, _⟩ := hk
    rintro (e | e)
    · exact blk_ne hc hd (by decide) e
    · exact hnp k cs _ hc (by decide) e
  have hdu' : Durs (w2.setCell ⟨d, 2, none⟩ pv') g sz n D dc := hdu.chg hC3 hgC (fun i b' hi he => by
    rintro (e | e)
    · exact blk_ne (hdu.some_ i b' hi he) hd (by decide) e
    · exact hnp b' _ _ (hdu.some_ i b' hi he) (by decide) e)
  have hbl1 : b < w1.heap.size := hbp.lt
  have hbn : ¬ some b = pv.ownBlock := fun e => by
    have := own_lt hpe.own b e.symm
    omega
  have hbp2 : BytP w2 b xs := hbp.mv ((hg.block b (by simp; omega) hbn).trans (Below.heap_alloc _ _ _ hbl1))
  have hdlt := blk_lt hd
  have hbp3 : BytP (w2.setCell ⟨d, 2, none⟩ pv') b xs := hbp2.mv (Below.heap_setCell _ _ _ _ (by simp; omega))
  have hpd : ¬ pv'.ownBlock = some d := fun e => by
    obtain ⟨cs, hc⟩ := own_typed hown d e
    exact absurd rfl (blk_ne hd2 hc (by decide))
  refine ⟨⟨?_, hdu', ⟨?_, ?_, ?_, ?_⟩⟩, hC3⟩
  · have := blk_set hd2 2 pv'
    simpa [DHd] using this
  · have e1 : (ps ++ [(⟨s, b, cb, xs⟩ : PW)]).length = ps.length + 1 := by simp
    rw [e1, pcells_snoc]
    have hc : PW.cells sz ⟨s, b, cb, xs⟩ = [.int .i64 s, .slice (some ⟨b, 0, none⟩) xs.length cb] := by simp [PW.cells, hxl]
    rw [hc]
    exact own_move hown (fun k hk => Below.heap_setCell _ _ _ _ (fun e => hpd ((show k = d from e) ▸ hk)))
  · intro p hp
    rcases List.mem_append.1 hp with hp | hp
    · obtain ⟨h1, h2⟩ := hpe.rd p hp
      exact ⟨h1.mv (hC3.block _ h1.lt (h5 _ _ h1)), h2⟩
    · obtain rfl := List.mem_singleton.1 hp
      exact ⟨hbp3, hxl⟩
  · intro p hp
    rcases List.mem_append.1 hp with hp | hp
    · exact hpe.sec p hp
    · obtain rfl := List.mem_singleton.1 hp
      exact hs
  · intro p hp i hi he
    rcases List.mem_append.1 hp with hp | hp
    · exact hpe.ap p hp i hi he
    · obtain rfl := List.mem_singleton.1 hp
      have := blk_lt (hdu.some_ i b hi he)
      omega

theorem wr_post {w w3 : World} {d g sz n s b cb g1 cap m : Nat} {D : Nat → Option Nat} {dc : Nat → List Int} {pv : Value} {ps : List PW} {xs : List Int} {cont : Nat → List Int} {F : Nat → Prop}
    (hI : DiskIs w3 d g sz n D dc (.slice (some ⟨g1, 0, none⟩) (ps.length + 1) cap) (ps ++ [⟨s, b, cb, xs⟩])) (hC : Chg (fun k => k = d ∨ pv.ownBlock = some k) w w3)
    (_h0 : True) (hat : pv.ownBlock = some g1 ∨ w.heap.size ≤ g1) (hbl : w.heap.size ≤ b) (hpm : ps.length ≤ m) (hct : ∀ i, i < n → cont i = contOf dc ps i) (hF : ∀ k, DFoot d g n D pv ps k → F k) :
    WrPost w d sz n s cont m xs F (.returned (.int .i64 0)) w3 := by
  refine ⟨rfl, hC.mono (fun k _ hk => hF k ?_), fun k => DFoot d g n D (.slice (some ⟨g1, 0, none⟩) (ps.length + 1) cap) (ps ++ [⟨s, b, cb, xs⟩]) k, ⟨g, D, dc, _, _, hI, by simp; omega, fun i hi => ?_, fun _ h => h⟩, fun k hk h => hF k ?_⟩
  · rcases hk with hk | hk
    · exact .inl hk
    · exact .inr (.inr (.inl hk))
  · rw [contOf_snoc]; simp only [upd]; rw [hct i hi]
  · rcases h with h | h | h | h | ⟨p, hp, h⟩
    · exact .inl h
    · exact .inr (.inl h)
    · have hg : g1 = k := by simpa [Value.ownBlock] using h
      subst hg
      rcases hat with hat | hat
      · exact .inr (.inr (.inl hat))
      · omega
    · exact .inr (.inr (.inr (.inl h)))
    · rcases List.mem_append.1 hp with hp | hp
      · exact .inr (.inr (.inr (.inr ⟨p, hp, h⟩)))
      · obtain rfl := List.mem_singleton.1 hp
        have : b = k := h
        omega

attribute [local go_sem ↓] Go.wp_at_zero Go.wp_at_succ
set_option maxHeartbeats 1000000 in
theorem dWrite {w : World} {d sz n s c m : Nat} {cont : Nat → List Int} {F : Nat → Prop} {A : Option Addr} {xs : List Int}
    (hD : DiskAt w d sz n cont m F) (hs0 : 0 < sz) (hs1 : sz ≤ 4096) (hsn : s < n) (hm : m ≤ 1000000) (hx : ReadsInt w .u8 A sz xs) :
    Calls Tryd.prog 54 #[.pointer (some ⟨d, 0, none⟩), .int .i64 s, .slice A sz c] w (WrPost w d sz n s cont m xs F) := by
  obtain ⟨g, D, dc, pv, ps, hI, hpm, hct, hF⟩ := hD
  have hhd := hI.hd
  have h0 := hhd.c0
  have h2 := hhd.c2
  have h3 := hhd.c3
  have h4 := hhd.c4
  have hfr : w.frozen? ⟨d, 2, none⟩ = false := blk_frozen hhd 2
  have HI := Lib.hid hI
  have HX := Lib.hid hx
  have HH := Lib.hid hhd
  have hs2 : (0 : Int) ≤ (s : Int) := by omega
  have hs3 : (s : Int) < (n : Int) := by omega
  clear hI hx hhd
  obtain ⟨pA, pc, hpv⟩ : ∃ A c, pv = .slice A ps.length c := own_slice HI.out.pe.own
  have HPV := Lib.hid hpv
  clear hpv
  go_enter Tryd.func54, Tryd.ntmps54
  go_wp2_with (first | (go_at_call 45; refine (dInside HH.out s hs2 hs3).mono ?_; rintro e w' ⟨rfl, rfl⟩))
  have hpo := HI.out.pe.own
  have HPO := Lib.hid hpo
  have hrx : ReadsInt w.drew .u8 A sz xs := HX.out
  have HRX := Lib.hid hrx
  have hxl := HX.out.1
  have HXL := Lib.hid hxl
  obtain ⟨i0, hi, hz0, hz1, hz2⟩ := info_parts info69
  have HZ := Lib.hid (And.intro hi (And.intro hz0 (And.intro hz1 hz2)))
  have hne : some d ≠ pv.ownBlock := by
    intro e
    obtain ⟨cs, hc⟩ := own_typed hpo d e.symm
    exact absurd rfl (blk_ne HH.out hc (by decide))
  have HNE := Lib.hid hne
  clear hne hpo hrx hxl hi hz0 hz1 hz2
  go_region_law
    ((first
      | (go_simp; go_at_call 30; refine (bCloneP HRX.out (by omega) hs0).mono ?_; rintro e w1 ⟨b, cb, rfl, hb1, hbp, hbel0⟩; have hbel := Lib.hid (below_undrew hbel0); have hcA := pw_cell_below hbel.out h2; have hfA := (hbel.out.frozen (p := ⟨d, 2, none⟩) (World.block_lt_of_cell? w _ h2)).trans hfr; have hcA1 := cell_al hcA; have hfA1 := frozen_al hcA hfA; clear hbel0)
      | (refine step_append_lies _ (by rfl) _ _ _ (by rfl) 0 69 i0 _ 2 32 Tryd.underlying53 HZ.out.1 HZ.out.2.1 HZ.out.2.2.1 HZ.out.2.2.2 rfl (by omega) pv ps.length (pcells sz ps) (by rfl) ((below_own hbel.out HPO.out).alloc _) ⟨w1.heap.size, 0, none⟩ 1 1 [.int .i64 s, .slice (some ⟨b, 0, none⟩) xs.length cb] (by rfl) rfl (World.news_of_block (heap_alloc_new w1 _)) (by simp [Value.oneCell']) (by omega) (by unfold maxLen; omega) (by omega) (by omega) _ rfl ?_; intro g1 cap1 w2 hown2 hgrow2 hat2 hlt2; have hcB := (hgrow2.cell_far ⟨d, 2, none⟩ ((World.block_lt_of_cell? _ _ (hcA1 _))) HNE.out).trans (hcA1 _); have hfB := (hgrow2.frozen_far ⟨d, 2, none⟩ ((World.block_lt_of_cell? _ _ (hcA1 _))) HNE.out).trans (hfA1 _))))
  all_goals
    have hE := wr_end HI.out hbel.out hbp hb1 HXL.out hsn hgrow2 hown2
    generalize hW3 : (w2.setCell { block := d, off := 2 } (Value.slice (some { block := g1, off := 0 }) (ps.length + 1) cap1)) = w3 at hE ⊢
    have HE := Lib.hid hE
    have HAT := Lib.hid hat2
    have hh3 := hE.1.hd
    clear hE hW3 hown2 hgrow2 hat2 hcB hfB hcA hfA hcA1 hfA1
    go_wp2_with ((go_at_call 60; refine (dFails hh3).mono ?_; rintro e w' ⟨rfl, rfl⟩))
    go_ret
    exact wr_post HE.out.1 HE.out.2 trivial (HAT.out.elim .inl (fun h => .inr (by have h' := hbel.out.size; simp at h; omega))) hb1 hpm hct hF
end Go.Proofs.YtapapedpecpfgaaDoor.J
