/- The disk's memory told whole; contents, put. -/
import Derived.Test.YtapapedpecpfgaaDoorJB
import Derived.Laws.CopyOwn
set_option linter.unusedVariables false
set_option linter.unusedSimpArgs false
namespace Go.Proofs.YtapapedpecpfgaaDoor.J
open Go.RowKit Go.Proofs.YtapapedpecpfgaaDoorW.PrintWords

section
variable {P : Program} {w : World} {ops : Array Oper} {rest : List Oper} {o : Oper} {a : Act} {Q : Exit → Act → World → Prop}
/-- copy(dst, src), both of n bytes, dst a whole block. -/
theorem wpl_copy_full (hgd : o.guard = none) (d s : Operand) (dT sT : TypeId)
    (ho : o.op = .call { callee := .builtin .copy, args := #[d, s], argTypes := #[dT, sT] }) (elem : TypeId) (hu : P.underlying dT = some (.slice elem)) (hsz : (P.info? elem).map (·.size) = some 1)
    (g n dCap sCap : Nat) (sp : Option Addr) (hd : a.eval d = .slice (some ⟨g, 0, none⟩) n dCap) (hs : a.eval s = .slice sp n sCap) (hn : 0 < n)
    (cur : Array Value) (t : TypeId) (hg : w.heap[g]? = some (.cells cur t (0, 0))) (hc : cur.size = n) (xs : List Int) (hx : ReadsInt w .u8 sp n xs)
    (h : wpList P ops Q rest (a.put o.dst (goInt n)) (w.setRow g (nums .u8 xs).toArray)) : wpList P ops Q (o :: rest) a w := by
  obtain ⟨hl, _, hr⟩ := hx
  obtain ⟨ad, rfl, hcell⟩ := hr hn
  have hcl : (nums .u8 xs).length = n := by rw [nums_length]; exact hl
  refine wpList_copy_own hgd d s dT sT ho elem hu hsz g 0 n dCap ad n sCap hd hs cur t hg (nums .u8 xs) (by rw [hcl]; simp) ?_ (by rw [hcl, hc]; omega) ?_ ?_
  · intro j v hj
    have hjl : j < xs.length := by
      have := (List.getElem?_eq_some_iff.1 hj).1
      rwa [nums_length] at this
    have := hcell j (by omega)
    rw [this]
    rw [← hj]
    simp [nums, List.getD_eq_getElem?_getD, List.getElem?_eq_getElem hjl]
  · intro v hv
    obtain ⟨x, _, rfl⟩ := List.mem_map.1 hv
    rfl
  · rw [hcl]
    have e : (cur.toList.take 0 ++ (nums .u8 xs ++ cur.toList.drop (0 + n))) = nums .u8 xs := by
      rw [List.drop_eq_nil_of_le (by simp; omega)]
      simp
    rw [e]
    exact h
end

theorem Chg.setRow {S : Nat → Prop} {a w : World} (h : Chg S a w) {g : Nat} (hp : g < a.heap.size → S g) (cs : Array Value) : Chg S a (w.setRow g cs) :=
  h.trans' (T := fun k => k = g) ⟨rfl, rfl, rfl, by simp [World.setRow], fun k _ hk => setRow_other w g k cs hk⟩ (fun _ _ x => x) (fun i hi e => by subst e; exact hp hi)

/-- A whole block of bytes. -/
def Byt (w : World) (b : Nat) (xs : List Int) : Prop := w.heap[b]? = some (.cells (nums .u8 xs).toArray 5 (0, 0))
theorem Byt.reads {w : World} {b : Nat} {xs : List Int} (h : Byt w b xs) (hl : xs.length ≤ 9223372036854775807) : ReadsInt w .u8 (some ⟨b, 0, none⟩) xs.length xs := by
  refine ⟨rfl, hl, fun _ => ⟨_, rfl, fun j hj => ?_⟩⟩
  rw [add_plain, blk_cell h j]
  simp [nums, List.getD_eq_getElem?_getD, List.getElem?_eq_getElem hj]

theorem Byt.own {w : World} {b base : Nat} {xs : List Int} (h : Byt w b xs) (hb : base ≤ b) {n : Nat} (hn : xs.length = n) (hl : n ≤ 9223372036854775807) : w.ownsRow base 5 1 (.slice (some ⟨b, 0, none⟩) n n) xs.length (nums .u8 xs) := by
  subst hn
  exact ⟨by simp [nums], .inr ⟨b, xs.length, _, rfl, hb, h, Nat.le_refl _, hl, by simp [nums], by rw [Nat.mul_one, List.take_of_length_le (by simp [nums])]⟩⟩

/-- A sector's slice. -/
def secV (sz : Nat) : Option Nat → Value
  | none => .slice none 0 0
  | some b => .slice (some ⟨b, 0, none⟩) sz sz

/-- The durable sectors: block g; of each sector that was written the block. -/
structure Durs (w : World) (g sz n : Nat) (D : Nat → Option Nat) (dc : Nat → List Int) : Prop where
  arr : ∃ cs : Array Value, w.heap[g]? = some (.cells cs 39 (0, 0)) ∧ cs.size = n ∧ ∀ i, i < n → cs[i]? = some (secV sz (D i))
  none_ : ∀ i, i < n → D i = none → dc i = List.replicate sz 0
  some_ : ∀ i b, i < n → D i = some b → Byt w b (dc i)
  len : ∀ i, i < n → (dc i).length = sz
  inj : ∀ i j b, i < n → j < n → D i = some b → D j = some b → i = j

theorem Durs.cell {w : World} {g sz n : Nat} {D : Nat → Option Nat} {dc : Nat → List Int} (h : Durs w g sz n D dc) {i : Nat} (hi : i < n) : w.cell? ⟨g, i, none⟩ = some (secV sz (D i)) := by
  obtain ⟨cs, hb, hs, hc⟩ := h.arr
  rw [blk_cell hb i]; exact hc i hi
theorem Durs.frozen {w : World} {g sz n : Nat} {D : Nat → Option Nat} {dc : Nat → List Int} (h : Durs w g sz n D dc) (i : Nat) : w.frozen? ⟨g, i, none⟩ = false := by
  obtain ⟨cs, hb, hs, hc⟩ := h.arr
  exact blk_frozen hb i
theorem Durs.chg {w w' : World} {g sz n : Nat} {D : Nat → Option Nat} {dc : Nat → List Int} {S : Nat → Prop} (h : Durs w g sz n D dc) (hc : Chg S w w') (hg : ¬ S g) (hD : ∀ i b, i < n → D i = some b → ¬ S b) : Durs w' g sz n D dc := by
  obtain ⟨⟨cs, hb, hs, hcs⟩, h2, h3, h4, h5⟩ := h
  exact ⟨⟨cs, hc.blk hb hg, hs, hcs⟩, h2, fun i b hi he => hc.blk (h3 i b hi he) (hD i b hi he), h4, h5⟩

theorem info5s : (Tryd.prog.info? 5).map (·.size) = some 1 := by kernel_rfl

theorem nums_replicate (n : Nat) : nums .u8 (List.replicate n 0) = List.replicate n (.int .u8 0) := by simp [nums]
theorem made_nums (n : Nat) : madeCells #[Value.int .u8 0] n = (nums .u8 (List.replicate n 0)).toArray := by
  rw [nums_replicate]
  apply Array.ext
  · simp [size_madeCells]
  · intro i h1 h2
    simp [madeCells, Nat.mod_one]

theorem cell_al {w : World} {a : Addr} {v : Value} (h : w.cell? a = some v) (o : Obj) : (w.alloc o).cell? a = some v := pw_cell_below (below_alloc (Below.refl _ _) o) h
theorem frozen_al {w : World} {a : Addr} {v : Value} (h : w.cell? a = some v) (hf : w.frozen? a = false) (o : Obj) : (w.alloc o).frozen? a = false :=
  ((below_alloc (Below.refl w.heap.size w) o).frozen (World.block_lt_of_cell? w a h)).trans hf
theorem reads_al {w : World} {k : IntKind} {A : Option Addr} {n : Nat} {xs : List Int} (h : ReadsInt w k A n xs) (o : Obj) : ReadsInt (w.alloc o) k A n xs := h.below (below_alloc (Below.refl _ _) o)

set_option maxHeartbeats 400000 in
theorem dContents {w : World} {d g sz n c : Nat} {D : Nat → Option Nat} {dc : Nat → List Int} {pe : Value} (hd : DHd w d sz (.slice (some ⟨g, 0, none⟩) n c) pe) (h : Durs w g sz n D dc) (hs0 : 0 < sz) (hs1 : sz ≤ 4096) (i : Nat) (hi : i < n) :
    Calls Tryd.prog 47 #[.pointer (some ⟨d, 0, none⟩), .int .i64 i] w (OwnB w (dc i)) := by
  have hc0 := hd.c0
  have hc1 := cell_al hd.c1
  have H := Lib.hid h
  have HD := Lib.hid hd
  have hmk := print_make (P := Tryd.prog) 39 5 .u8 1 Tryd.underlying39 info5 (by decide) sz (by omega)
  have HL := Lib.hid (h.len i hi)
  have hn0 := Lib.hid (own_made w w.heap.size 5 .u8 sz (Nat.le_refl _) (by omega))
  cases hDi : D i with
  | none =>
    have hci : ∀ o, (w.alloc o).cell? ⟨g, i, none⟩ = some (.slice none 0 0) := cell_al (by rw [h.cell hi, hDi]; rfl)
    have HE := Lib.hid (h.none_ i hi hDi)
    clear hDi h hd
    go_enter Tryd.func47, Tryd.ntmps47
    go_wp2_with ((with_reducible show wpList _ _ _ _ _ _); refine wpList_copy_nothing rfl (.tmp 11) (.tmp 18) 39 39 rfl 5 Tryd.underlying39 info5s _ _ _ _ _ _ rfl rfl (Nat.zero_min _) ?_)
    go_ret
    refine ⟨_, rfl, ?_, below_alloc (Below.refl _ _) _⟩
    rw [HE.out]
    have := hn0.out
    simpa using this
  | some b =>
    have hci : ∀ o, (w.alloc o).cell? ⟨g, i, none⟩ = some (.slice (some ⟨b, 0, none⟩) sz sz) := cell_al (by rw [h.cell hi, hDi]; rfl)
    have hr := Lib.hid ((h.some_ i b hi hDi).reads (by have := h.len i hi; omega))
    clear hDi h hd
    go_enter Tryd.func47, Tryd.ntmps47
    go_wp2_with ((with_reducible show wpList _ _ _ _ _ _); refine wpl_copy_full rfl (.tmp 11) (.tmp 18) 39 39 rfl 5 Tryd.underlying39 info5s w.heap.size sz sz sz (some ⟨b, 0, none⟩) rfl rfl hs0 _ _ (heap_alloc_new _ _) (size_madeCells _ _) (dc i) (by have := hr.out; rw [HL.out] at this; exact reads_al this _) ?_)
    go_ret
    have hB : Byt ((w.alloc (.cells (madeCells #[Value.int .u8 0] sz) 5)).setRow w.heap.size (nums .u8 (dc i)).toArray) w.heap.size (dc i) := setRow_heap _ _ _ _ _ _ (heap_alloc_new w _)
    exact ⟨_, rfl, hB.own (Nat.le_refl _) HL.out (by omega), below_setRow (below_alloc (Below.refl _ _) _) (Nat.le_refl _) _⟩

/-- put makes the sector's block where there is none, and writes it whole. -/
def PutPost (w : World) (d g sz n s : Nat) (D : Nat → Option Nat) (dc : Nat → List Int) (xs : List Int) (e : Ending) (w' : World) : Prop :=
  e = .returned (.tuple #[]) ∧ ∃ b : Nat, (D s = some b ∨ D s = none ∧ w.heap.size ≤ b) ∧ Durs w' g sz n (fun i => if i = s then some b else D i) (fun i => if i = s then xs else dc i) ∧ Chg (fun k => k = g ∨ D s = some k) w w'

theorem Durs.put_some {w w' : World} {g sz n s b : Nat} {D : Nat → Option Nat} {dc : Nat → List Int} {xs : List Int} (h : Durs w g sz n D dc) (hs : s < n) (hD : D s = some b) (hx : xs.length = sz) (hne : b ≠ g)
    (hc : Chg (fun k => k = b) w w') (hb : Byt w' b xs) : Durs w' g sz n (fun i => if i = s then some b else D i) (fun i => if i = s then xs else dc i) := by
  obtain ⟨⟨cs, ha, hsz, hcs⟩, h2, h3, h4, h5⟩ := h
  refine ⟨⟨cs, hc.blk ha (fun e => hne e.symm), hsz, fun i hi => ?_⟩, fun i hi he => ?_, fun i b' hi he => ?_, fun i hi => ?_, fun i j b' hi hj he hf => ?_⟩
  · by_cases e : i = s
    · subst e; simp only [if_true]; rw [hcs i hi, hD]
    · simp only [if_neg e]; exact hcs i hi
  · by_cases e : i = s
    · simp [e] at he
    · simp only [if_neg e] at he ⊢; exact h2 i hi he
  · by_cases e : i = s
    · simp only [if_pos e] at he ⊢; injection he with he; subst he; exact hb
    · simp only [if_neg e] at he ⊢
      exact hc.blk (h3 i b' hi he) (fun e' => e (h5 i s b' hi hs he (by rw [hD, e'])))
  · by_cases e : i = s
    · simp only [if_pos e]; exact hx
    · simp only [if_neg e]; exact h4 i hi
  · have hw : ∀ i, i < n → (if i = s then some b else D i) = D i := fun i _ => by
      by_cases e : i = s
      · subst e; simp [hD]
      · simp [e]
    rw [hw i hi] at he; rw [hw j hj] at hf
    exact h5 i j b' hi hj he hf

theorem Durs.put_none {w w' : World} {g sz n s b : Nat} {D : Nat → Option Nat} {dc : Nat → List Int} {xs : List Int} (h : Durs w g sz n D dc) (hs : s < n) (hx : xs.length = sz) (hnew : w.heap.size ≤ b)
    (hc : Chg (fun k => k = g) w w') (hg : ∀ cs, w.heap[g]? = some (.cells cs 39 (0, 0)) → w'.heap[g]? = some (.cells (cs.setIfInBounds s (secV sz (some b))) 39 (0, 0))) (hb : Byt w' b xs) : Durs w' g sz n (fun i => if i = s then some b else D i) (fun i => if i = s then xs else dc i) := by
  obtain ⟨⟨cs, ha, hsz, hcs⟩, h2, h3, h4, h5⟩ := h
  have hlt : ∀ i b', i < n → D i = some b' → b' < w.heap.size := fun i b' hi he => blk_lt (h3 i b' hi he)
  refine ⟨⟨_, hg cs ha, by simp [hsz], fun i hi => ?_⟩, fun i hi he => ?_, fun i b' hi he => ?_, fun i hi => ?_, fun i j b' hi hj he hf => ?_⟩
  · by_cases e : i = s
    · subst e; simp [hsz, hi]
    · simp only [if_neg e]; rw [Array.getElem?_setIfInBounds_ne (fun h => e h.symm)]; exact hcs i hi
  · by_cases e : i = s
    · simp [e] at he
    · simp only [if_neg e] at he ⊢; exact h2 i hi he
  · by_cases e : i = s
    · simp only [if_pos e] at he ⊢; injection he with he; subst he; exact hb
    · simp only [if_neg e] at he ⊢
      refine hc.blk (h3 i b' hi he) (fun e' => ?_)
      have := h3 i b' hi he
      rw [e', Byt, ha] at this
      simp at this
  · by_cases e : i = s
    · simp only [if_pos e]; exact hx
    · simp only [if_neg e]; exact h4 i hi
  · by_cases e : i = s <;> by_cases e' : j = s
    · rw [e, e']
    · simp only [if_pos e, if_neg e'] at he hf; injection he with he; have := hlt j b' hj hf; omega
    · simp only [if_neg e, if_pos e'] at he hf; injection hf with hf; have := hlt i b' hi he; omega
    · simp only [if_neg e, if_neg e'] at he hf; exact h5 i j b' hi hj he hf
end Go.Proofs.YtapapedpecpfgaaDoor.J
