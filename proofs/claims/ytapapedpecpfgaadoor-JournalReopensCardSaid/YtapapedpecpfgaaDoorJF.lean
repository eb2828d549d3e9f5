/- Sync. -/
import Derived.Test.YtapapedpecpfgaaDoorJE
set_option linter.unusedVariables false
set_option linter.unusedSimpArgs false
namespace Go.Proofs.YtapapedpecpfgaaDoor.J
open Go.RowKit Go.Proofs.YtapapedpecpfgaaDoorW.PrintWords

def SyPost (w : World) (d sz n : Nat) (cont : Nat → List Int) (F : Nat → Prop) (e : Ending) (w' : World) : Prop :=
  e = .returned (.int .i64 0) ∧ Chg F w w' ∧ ∃ F', DiskAt w' d sz n cont 0 F' ∧ ∀ k, k < w.heap.size → F' k → F k

/-- Behind k puts. -/
structure SyRel (w : World) (d g sz n : Nat) (D : Nat → Option Nat) (dc : Nat → List Int) (pv : Value) (ps : List PW) (k : Nat) (wr : World) : Prop where
  ex : ∃ Dk, DiskIs wr d g sz n Dk (contOf dc (ps.take k)) pv ps ∧ ∀ i b, i < n → Dk i = some b → D i = some b ∨ w.heap.size ≤ b
  ch : Chg (fun k => k = g ∨ ∃ i, i < n ∧ D i = some k) w wr

theorem PW.at_ {w : World} {g sz n : Nat} {D : Nat → Option Nat} {pv : Value} {ps : List PW} (h : Pend w g sz n D pv ps) {pb c : Nat} (hv : pv = .slice (some ⟨pb, 0, none⟩) ps.length c) {k : Nat} {p : PW} (hk : ps[k]? = some p) :
    w.cell? ⟨pb, k * 2, none⟩ = some (.int .i64 p.sec) ∧ w.cell? ⟨pb, k * 2 + 1, none⟩ = some (.slice (some ⟨p.blk, 0, none⟩) sz p.cap) := by
  subst hv
  have hc := h.own.cells (g := pb) rfl
  have hl : k < ps.length := (List.getElem?_eq_some_iff.1 hk).1
  have key : ∀ (ps : List PW) (k : Nat) (p : PW), ps[k]? = some p → (pcells sz ps)[k * 2]? = some (.int .i64 p.sec) ∧ (pcells sz ps)[k * 2 + 1]? = some (.slice (some ⟨p.blk, 0, none⟩) sz p.cap) := by
    intro ps
    induction ps with
    | nil => intro k p hk; simp at hk
    | cons q ps ih =>
      intro k p hk
      cases k with
      | zero =>
        have : q = p := by simpa using hk
        subst this
        simp [pcells, PW.cells]
      | succ k =>
        have h1 := ih k p (by simpa using hk)
        have e1 : (k + 1) * 2 = k * 2 + 2 := by omega
        simp only [pcells, List.flatMap_cons, PW.cells] at *
        rw [e1]
        exact h1
  obtain ⟨h1, h2⟩ := key ps k p hk
  have h3 := hc _ _ h1
  have h4 := hc _ _ h2
  rw [add_plain] at h3 h4
  exact ⟨h3, h4⟩

theorem contOf_take (dc : Nat → List Int) (ps : List PW) (k : Nat) (p : PW) (hk : ps[k]? = some p) : contOf dc (ps.take (k + 1)) = upd (contOf dc (ps.take k)) p.sec p.dat := by
  obtain ⟨hl, hp⟩ := List.getElem?_eq_some_iff.1 hk
  rw [List.take_succ_eq_append_getElem hl, contOf_snoc, hp]

theorem sy_step {w wr w' : World} {d g sz n k : Nat} {D : Nat → Option Nat} {dc : Nat → List Int} {pv : Value} {ps : List PW} {p : PW} {e : Ending} {Dk : Nat → Option Nat}
    (hI : DiskIs wr d g sz n Dk (contOf dc (ps.take k)) pv ps) (hDk : ∀ i b, i < n → Dk i = some b → D i = some b ∨ w.heap.size ≤ b) (hch : Chg (fun k => k = g ∨ ∃ i, i < n ∧ D i = some k) w wr)
    {o : Obj} (hk : ps[k]? = some p) (hp : PutPost (wr.alloc o) d g sz n p.sec Dk (contOf dc (ps.take k)) p.dat e w') : SyRel w d g sz n D dc pv ps (k + 1) w' := by
  obtain ⟨_, b, hb, hdu, hc⟩ := hp
  obtain ⟨hd, hdu0, hpe⟩ := hI
  have hmem : p ∈ ps := List.mem_of_getElem? hk
  have hsec := hpe.sec p hmem
  have hc' : Chg (fun k => k = g ∨ Dk p.sec = some k) wr w' := ((Chg.refl _ wr).alloc o).trans' hc (fun _ _ h => h) (fun _ _ h => h)
  obtain ⟨cs, hga, _⟩ := hdu0.arr
  have hty : ∀ k cs' t, wr.heap[k]? = some (.cells cs' t (0, 0)) → t ≠ 39 → t ≠ 5 → ¬ (k = g ∨ Dk p.sec = some k) := by
    rintro k cs' t hk h1 h2 (e | e)
    · exact blk_ne hk hga h1 e
    · exact blk_ne hk (hdu0.some_ _ _ hsec e) h2 rfl
  have hd' : DHd w' d sz (.slice (some ⟨g, 0, none⟩) n n) pv := hc'.blk hd (hty _ _ _ hd (by decide) (by decide))
  have hnew : ∀ i b', i < n → (if i = p.sec then some b else Dk i) = some b' → Dk i = some b' ∨ wr.heap.size ≤ b' := by
    intro i b' hi he
    by_cases e : i = p.sec
    · simp only [if_pos e] at he
      injection he with he
      subst he
      rcases hb with hb | ⟨_, hb⟩
      · exact .inl (by rw [e]; exact hb)
      · exact .inr (by simp at hb; omega)
    · simp only [if_neg e] at he
      exact .inl he
  refine ⟨⟨fun i => if i = p.sec then some b else Dk i, ⟨hd', ?_, ⟨?_, ?_, hpe.sec, ?_⟩⟩, ?_⟩, ?_⟩
  · rw [contOf_take dc ps k p hk]
    exact hdu
  · exact own_move hpe.own (fun k hk => by
      obtain ⟨cells, hcl⟩ := own_typed hpe.own k hk
      exact hc'.block k (blk_lt hcl) (hty _ _ _ hcl (by decide) (by decide)))
  · intro q hq
    obtain ⟨h1, h2⟩ := hpe.rd q hq
    refine ⟨h1.mv (hc'.block _ h1.lt ?_), h2⟩
    rintro (e | e)
    · exact h1.ne hga (by decide) e
    · exact hpe.ap q hq _ hsec e
  · intro q hq i hi he
    rcases hnew i _ hi he with h | h
    · exact hpe.ap q hq i hi h
    · have := (hpe.rd q hq).1.lt
      omega
  · intro i b' hi he
    rcases hnew i b' hi he with h | h
    · exact hDk i b' hi h
    · exact .inr (Nat.le_trans hch.size h)
  · refine hch.trans' hc' (fun _ _ h => h) (fun i hi h => ?_)
    rcases h with h | h
    · exact .inl h
    · rcases hDk _ _ hsec h with h | h
      · exact .inr ⟨_, hsec, h⟩
      · omega

theorem sy_end {w wr : World} {d g sz n : Nat} {D : Nat → Option Nat} {dc : Nat → List Int} {pv : Value} {ps : List PW} {cont : Nat → List Int} {F : Nat → Prop}
    (h : SyRel w d g sz n D dc pv ps ps.length wr) (hct : ∀ i, i < n → cont i = contOf dc ps i) (hF : ∀ k, DFoot d g n D pv ps k → F k) :
    SyPost w d sz n cont F (.returned (.int .i64 0)) (wr.setCell ⟨d, 2, none⟩ (.slice none 0 0)) := by
  obtain ⟨⟨Dk, ⟨hd, hdu, hpe⟩, hDk⟩, hch⟩ := h
  obtain ⟨cs, hga, _⟩ := hdu.arr
  have hc2 : Chg (fun k => k = d) wr (wr.setCell ⟨d, 2, none⟩ (.slice none 0 0)) := (Chg.refl (fun k => k = d) wr).setCell (p := ⟨d, 2, none⟩) (fun _ => rfl) _
  refine ⟨rfl, ?_, DFoot d g n Dk (.slice none 0 0) [], ⟨g, Dk, contOf dc ps, .slice none 0 0, [], ⟨?_, ?_, ?_⟩, Nat.le_refl _, fun i hi => by rw [hct i hi]; rfl, fun _ h => h⟩, ?_⟩
  · exact hch.trans' hc2 (fun k _ h => hF k (by rcases h with h | h; exact .inr (.inl h); exact .inr (.inr (.inr (.inl h))))) (fun k _ h => hF k (.inl h))
  · have := blk_set hd 2 (.slice none 0 0)
    simpa [DHd] using this
  · rw [List.take_length] at hdu
    exact hdu.chg hc2 (blk_ne hga hd (by decide)) (fun i b hi he => blk_ne (hdu.some_ i b hi he) hd (by decide))
  · exact ⟨own_nil _ _ _ _, fun p hp => by simp at hp, fun p hp => by simp at hp, fun p hp => by simp at hp⟩
  · rintro k hk (h | h | h | ⟨i, hi, h⟩ | ⟨p, hp, _⟩)
    · exact hF k (.inl h)
    · exact hF k (.inr (.inl h))
    · simp [Value.ownBlock] at h
    · rcases hDk i k hi h with h | h
      · exact hF k (.inr (.inr (.inr (.inl ⟨i, hi, h⟩))))
      · omega
    · simp at hp

theorem BytP.reads_al {w : World} {b sz : Nat} {xs : List Int} (h : BytP w b xs) (hl : xs.length = sz) (hs : sz ≤ 4096) (o : Obj) : ReadsInt (w.alloc o) .u8 (some ⟨b, 0, none⟩) sz xs := by
  subst hl
  exact (h.mv (Below.heap_alloc _ _ _ h.lt)).reads (by omega)

set_option maxHeartbeats 1000000 in
theorem dSync {w : World} {d sz n m : Nat} {cont : Nat → List Int} {F : Nat → Prop}
    (hD : DiskAt w d sz n cont m F) (hs0 : 0 < sz) (hs1 : sz ≤ 4096) (hm : m ≤ 1000000) :
    Calls Tryd.prog 55 #[.pointer (some ⟨d, 0, none⟩)] w (SyPost w d sz n cont F) := by
  obtain ⟨g, D, dc, pv, ps, hI, hpm, hct, hF⟩ := hD
  have hhd := hI.hd
  have h2 := hhd.c2
  have h3 := hhd.c3
  have h4 := hhd.c4
  have HI := Lib.hid hI
  have HH := Lib.hid hhd
  obtain ⟨pA, pc, hpv⟩ : ∃ A c, pv = .slice A ps.length c := own_slice hI.pe.own
  rw [hpv] at h2
  have HPV := Lib.hid hpv
  clear hI hhd hpv
  go_enter Tryd.func55, Tryd.ntmps55
  go_wp2_with ((go_at_call 60; refine (dFails HH.out).mono ?_; rintro e w' ⟨rfl, rfl⟩))
  go_loopw [18] (fun v wr => ∃ k : Nat, k ≤ ps.length ∧ v = .int .i64 k ∧ SyRel w d g sz n D dc pv ps k wr) (fun v _ => ps.length - (intOf v).toNat)
  case atStart => exact ⟨0, Nat.zero_le _, rfl, ⟨⟨D, HI.out, fun i b _ h => .inl h⟩, Chg.refl _ _⟩⟩
  case round =>
    obtain ⟨k, hk, rfl, hR⟩ := hrel
    by_cases hlt : k < ps.length
    · obtain ⟨⟨Dk, hIk, hDk⟩, hch⟩ := hR
      obtain ⟨g1, c1, hpv1, _, _⟩ := hIk.pe.own.form (by omega)
      obtain ⟨p, hp⟩ : ∃ p, ps[k]? = some p := ⟨_, List.getElem?_eq_getElem hlt⟩
      obtain ⟨hc1, hc2⟩ := PW.at_ hIk.pe hpv1 hp
      have hpa : pA = some ⟨g1, 0, none⟩ := by have := HPV.out.symm.trans hpv1; injection this
      subst hpa
      have hmem : p ∈ ps := List.mem_of_getElem? hp
      have hsec := hIk.pe.sec p hmem
      obtain ⟨hrd, hrl⟩ := hIk.pe.rd p hmem
      have HIk := Lib.hid hIk
      have HDk := Lib.hid hDk
      have HP := Lib.hid hp
      have HV1 := Lib.hid hpv1
      have HRD := Lib.hid hrd
      have HRL := Lib.hid hrl
      have HCH := Lib.hid hch
      clear hIk hDk hp hpv1 hrd hrl hch h3 h4 h2
      go_wp2_with fail
      refine (dPut (D := Dk) (dc := contOf dc (ps.take k)) (xs := p.dat) (blk_alloc HIk.out.hd _) (HIk.out.du.chg ((Chg.refl (fun _ => False) _).alloc _) (fun h => h) (fun _ _ _ _ h => h)) hs0 hs1 hsec (BytP.reads_al HRD.out HRL.out hs1 _) ?_).mono ?_
      · intro ad had
        injection had with had
        subst had
        obtain ⟨cs, hga, _⟩ := HIk.out.du.arr
        exact HRD.out.ne hga (by decide)
      · intro e w' hpp
        have hS := Lib.hid (sy_step HIk.out HDk.out HCH.out HP.out hpp)
        obtain ⟨rfl, _⟩ := hpp
        go_wp2
        go_roundw
        case rel => exact ⟨k + 1, by omega, by go_num, hS.out⟩
        case measure => simp [intOf]; omega
    · obtain rfl : k = ps.length := by omega
      obtain ⟨⟨Dk, hIk, _⟩, _⟩ := id hR
      have hdc := hIk.hd.c2
      have hdf : wr.frozen? ⟨d, 2, none⟩ = false := blk_frozen hIk.hd 2
      have HR := Lib.hid hR
      clear hIk hR h3 h4 h2
      go_wp2
      go_ret
      exact sy_end HR.out hct hF
end Go.Proofs.YtapapedpecpfgaaDoor.J
