/- Rows within an array of bytes. -/
import Derived.Test.YtapapedpecpfgaaDoorJR
set_option linter.unusedVariables false
set_option linter.unusedSimpArgs false
namespace Go.Proofs.YtapapedpecpfgaaDoor.J
open Go.RowKit Go.Proofs.YtapapedpecpfgaaDoorW.PrintWords

/-- A row of bytes at the beginning of an array at block g. -/
def Room (w : World) (g tb cap : Nat) (ys : List Int) : Prop := ∃ cur, w.heap[g]? = some (.cells cur tb (0, 0)) ∧ cur.size = cap ∧ ys.length ≤ cap ∧ cur.toList.take ys.length = nums .u8 ys
theorem Room.mv {w w' : World} {g tb cap : Nat} {ys : List Int} (h : Room w g tb cap ys) (he : w'.heap[g]? = w.heap[g]?) : Room w' g tb cap ys := by
  obtain ⟨cur, hb, h⟩ := h
  exact ⟨cur, he.trans hb, h⟩
theorem Room.lt {w : World} {g tb cap : Nat} {ys : List Int} (h : Room w g tb cap ys) : g < w.heap.size := by
  obtain ⟨cur, hb, _⟩ := h
  exact blk_lt hb
theorem Room.alloc {w : World} {g tb cap : Nat} {ys : List Int} (h : Room w g tb cap ys) (o : Obj) : Room (w.alloc o) g tb cap ys := by
  obtain ⟨cur, hb, h⟩ := h
  exact ⟨cur, blk_alloc hb o, h⟩
theorem Room.new (w : World) (tb : Nat) (cur : Array Value) : Room (w.alloc (.cells cur tb)) w.heap.size tb cur.size [] := ⟨cur, heap_alloc_new w _, rfl, Nat.zero_le _, rfl⟩
theorem Room.at_ {w : World} {g tb cap : Nat} {ys : List Int} (h : Room w g tb cap ys) : ReadsAt w g 0 ys := by
  obtain ⟨cur, hb, hs, hc, ht⟩ := h
  intro j hj
  rw [blk_cell hb (0 + j), Nat.zero_add]
  have h4 : (nums .u8 ys)[j]? = some (.int .u8 (ys.getD j 0)) := by simp [nums, hj]
  rw [← h4, ← ht, List.getElem?_take, if_pos hj]
  simp
theorem Room.reads {w : World} {g tb cap : Nat} {ys : List Int} (h : Room w g tb cap ys) (hm : ys.length ≤ 1000000) : ReadsInt w .u8 (some ⟨g, 0, none⟩) ys.length ys := by
  refine ⟨rfl, by omega, fun _ => ⟨_, rfl, fun j hj => ?_⟩⟩
  have := h.at_ j hj
  rw [Nat.zero_add] at this
  rw [add_plain]
  exact this
theorem lit_reads (W : World) (e : TypeId) (xs : List Int) (hm : xs.length ≤ 1000000) : ReadsInt (W.alloc (.cells (nums .u8 xs).toArray e)) .u8 (some ⟨W.heap.size, 0, none⟩) xs.length xs := by
  refine ⟨rfl, by omega, fun _ => ⟨_, rfl, fun j hj => ?_⟩⟩
  rw [add_plain, blk_cell (heap_alloc_new W _) j]
  simp [nums, hj]

theorem run_append_tb {P : Program} {w : World} (t ty e : TypeId) (i : TypeInfo) (ht : P.underlying t = some (.slice e)) (hi : P.info? e = some i) (hsz : i.size = 1)
    {g tb cap n m c : Nat} {ys xs : List Int} {A : Option Addr} (hR : Room w g tb cap ys) (hn : ys.length = n) (hx : ReadsInt w .u8 A m xs) (hroom : n + m ≤ cap) :
    ∃ w', (Builtin.append_ #[t, t] ty #[.slice (some ⟨g, 0, none⟩) n cap, .slice A m c]).run P w = .ok (.slice (some ⟨g, 0, none⟩) (n + m) cap) w' ∧
      Room w' g tb cap (ys ++ xs) ∧ w.grownBy w' (some g) ∧ w'.heap.size = w.heap.size := by
  subst hn
  obtain ⟨cur, hb, hs, hc, htk⟩ := hR
  obtain ⟨hl, hm, hr⟩ := hx
  cases A with
  | none =>
    have hm0 : m = 0 := by
      rcases Nat.eq_zero_or_pos m with h | h
      · exact h
      · obtain ⟨_, e, _⟩ := hr h; cases e
    subst hm0
    obtain rfl : xs = [] := List.eq_nil_of_length_eq_zero hl
    refine ⟨w, ?_, ?_, ⟨rfl, rfl, rfl, Nat.le_refl _, fun k _ _ => rfl⟩, rfl⟩
    · simp [Builtin.append_, run_underlying ht, sizeOf, typeInfo, hi, Builtin.lenOf, hc, Builtin.firstCells, storeCells]
    · exact ⟨cur, hb, hs, by simpa using hc, by simpa using htk⟩
  | some ad =>
    have hnews : ∀ j u, (nums .u8 xs)[j]? = some u → w.cell? (ad.add j) = some u := by
      intro j u hj
      have hjl : j < xs.length := by have := (List.getElem?_eq_some_iff.1 hj).1; rwa [nums_length] at this
      obtain ⟨ad', e, hcl⟩ := hr (by omega)
      injection e with e
      subst e
      rw [hcl j (by omega), ← hj]
      simp [nums, hjl]
    have hnl : (nums .u8 xs).length = m := by rw [nums_length, hl]
    have hf := run_firstCells_some (P := P) w i.size m ad m c (nums .u8 xs) (by rw [hsz, hnl, Nat.mul_one]) hnews
    have hst := run_storeCells_at P g (ys.length * i.size) tb (nums .u8 xs) 0 cur w hb (by rw [hnl, hsz]; omega) (nums_one _)
    simp only [Nat.add_zero] at hst
    refine ⟨w.setRow g (List.take (ys.length * i.size) cur.toList ++ nums .u8 xs ++ List.drop (ys.length * i.size + (nums .u8 xs).length) cur.toList).toArray, by simp [Builtin.append_, run_underlying ht, sizeOf, typeInfo, hi, Builtin.lenOf, hroom, hf, Addr.add_lit, hst], ?_, ⟨rfl, rfl, rfl, by simp, fun k _ hk => setRow_other w g k _ (fun e => hk (by simp [e]))⟩, by simp⟩
    refine ⟨_, setRow_heap w g cur _ tb _ hb, ?_, by simp [hl]; exact hroom, ?_⟩
    · simp [hsz, hnl, hl]
      omega
    · show List.take _ (_ ++ _ ++ _) = _
      rw [hsz, Nat.mul_one, htk, ← nums_append, List.take_append_of_le_length (by rw [nums_length]; exact Nat.le_refl _), List.take_of_length_le (by rw [nums_length]; exact Nat.le_refl _)]

theorem wpl_append_tb {P : Program} {w : World} {ops : Array Oper} {rest : List Oper} {o : Oper} {a : Act} {Q : Exit → Act → World → Prop} (hgd : o.guard = none) (s x : Operand) (t : TypeId)
    (ho : o.op = .call { callee := .builtin .append, args := #[s, x], argTypes := #[t, t] })
    (e : TypeId) (i : TypeInfo) (ht : P.underlying t = some (.slice e)) (hi : P.info? e = some i) (hsz : i.size = 1)
    {g tb cap n m c : Nat} {ys xs : List Int} {A : Option Addr} (hs : a.eval s = .slice (some ⟨g, 0, none⟩) n cap) (hx : a.eval x = .slice A m c) (hR : Room w g tb cap ys) (hn : ys.length = n) (hxr : ReadsInt w .u8 A m xs) (hroom : n + m ≤ cap)
    (h : ∀ w', Room w' g tb cap (ys ++ xs) → w.grownBy w' (some g) → w'.heap.size = w.heap.size → wpList P ops Q rest (a.put o.dst (.slice (some ⟨g, 0, none⟩) (n + m) cap)) w') : wpList P ops Q (o :: rest) a w := by
  obtain ⟨w', hr, h1, h2, h3⟩ := run_append_tb (P := P) t o.type e i ht hi hsz (c := c) hR hn hxr hroom
  refine wpList_plain hgd fun _ hK => ?_
  unfold Oper.wp execOp
  simp only [ho, resolve, invoke, builtin, Sem.run_bind, Sem.run_pure, Result.andThen_ok, List.map_toArray, List.map_cons, List.map_nil, hs, hx, hr]
  exact hK _ _ (h w' h1 h2 h3)

theorem step_append_tb {P : Program} {w : World} {ops : Array Oper} {o : Oper} {a : Act} {K : Act → World → Prop} {Q : Exit → Act → World → Prop} {E : Prop} (hgd : o.guard = none) (s x : Operand) (t : TypeId)
    (ho : o.op = .call { callee := .builtin .append, args := #[s, x], argTypes := #[t, t] })
    (e : TypeId) (i : TypeInfo) (ht : P.underlying t = some (.slice e)) (hi : P.info? e = some i) (hsz : i.size = 1)
    {g tb cap n m c : Nat} {ys xs : List Int} {A : Option Addr} (hs : a.eval s = .slice (some ⟨g, 0, none⟩) n cap) (hx : a.eval x = .slice A m c) (hR : Room w g tb cap ys) (hn : ys.length = n) (hxr : ReadsInt w .u8 A m xs) (hroom : n + m ≤ cap)
    (h : ∀ w', Room w' g tb cap (ys ++ xs) → w.grownBy w' (some g) → w'.heap.size = w.heap.size → K (a.put o.dst (.slice (some ⟨g, 0, none⟩) (n + m) cap)) w') :
    if Region.wanted o (yielded ops a.tmps) = true then Oper.wp P o a w K Q else E := by
  have hw : Region.wanted o (yielded ops a.tmps) = true := by simp [Region.wanted, hgd]
  rw [if_pos hw]
  obtain ⟨w', hr, h1, h2, h3⟩ := run_append_tb (P := P) t o.type e i ht hi hsz (c := c) hR hn hxr hroom
  unfold Oper.wp
  simp [execOp, ho, resolve, invoke, builtin, hs, hx, hr, Result.andThen]
  exact h w' h1 h2 h3

theorem room_string {P : Program} {w : World} {g tb cap n : Nat} {xs : List Int} {src dst e : TypeId} (hs : P.underlying src = some (.slice e)) (he : P.underlying e = some (.int .u8)) (hd : P.underlying dst = some .string)
    (h : Room w g tb cap xs) (hn : xs.length = n) : (convert src dst (.slice (some ⟨g, 0, none⟩) n cap)).run P w = .ok (.string (strOfNums xs)) w := by
  refine run_convert_bytes_arg w src e hs he g 0 n cap xs hn (fun i hi => ?_) dst hd
  exact h.at_ i (by omega)
end Go.Proofs.YtapapedpecpfgaaDoor.J
