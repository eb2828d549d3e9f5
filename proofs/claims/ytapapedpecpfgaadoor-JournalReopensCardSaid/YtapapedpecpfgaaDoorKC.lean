/- A record behind records; cuts of bytes. -/
import Derived.Test.YtapapedpecpfgaaDoorKA
set_option linter.unusedVariables false
set_option linter.unusedSimpArgs false
namespace Go.Proofs.YtapapedpecpfgaaDoor.J
open Go.RowKit Go.Proofs.YtapapedpecpfgaaDoorW.PrintWords


theorem RecsAt.push {W w1 : World} {R E E2 : Nat → Prop} {v v1 u : Value} {rss : List (List Int)} {r : List Int} {cs : List Value}
    (ho : W.ownsRow 0 39 1 v rss.length cs) (hv : ∀ k, v.ownBlock = some k → R k ∧ ¬ E k) (hs : ∀ k, E k → k < W.heap.size) (hr : ∀ i, i < rss.length → ∃ u, cs[i]? = some u ∧ RdRec W E u (rss.getD i []))
    (hu : RdRec W E2 u r) (hE2 : ∀ k, E2 k → k < W.heap.size ∧ v.ownBlock ≠ some k)
    (ho1 : w1.ownsRow 0 39 1 v1 (cs ++ [u]).length (cs ++ [u])) (hg : W.grownBy w1 v.ownBlock) (hat : v1.ownBlock = v.ownBlock ∨ ∃ b, v1.ownBlock = some b ∧ W.heap.size ≤ b) :
    RecsAt w1 (fun k => R k ∨ W.heap.size ≤ k) (fun k => E k ∨ E2 k) v1 (rss ++ [r]) := by
  have hcl : cs.length = rss.length := by have := ho.1; simpa using this
  have hch : Chg (fun k => v.ownBlock = some k) W w1 := ⟨hg.os, hg.tape, hg.output, hg.size, fun k hk h => hg.block k hk (fun e => h e.symm)⟩
  refine ⟨cs ++ [u], by rw [List.length_append, List.length_singleton, ← hcl]; simpa using ho1, fun k hk => ?_, fun k hk => ?_, fun i hi => ?_⟩
  · rcases hat with h | ⟨b, h, hb⟩
    · rw [h] at hk
      exact ⟨.inl (hv k hk).1, fun e => by rcases e with e | e; exact (hv k hk).2 e; exact (hE2 k e).2 hk⟩
    · rw [h] at hk
      injection hk with hk
      subst hk
      exact ⟨.inr hb, fun e => by rcases e with e | e; have := hs b e; omega; have := (hE2 b e).1; omega⟩
  · rcases hk with hk | hk
    · exact Nat.lt_of_lt_of_le (hs k hk) hg.size
    · exact Nat.lt_of_lt_of_le (hE2 k hk).1 hg.size
  · by_cases hlt : i < rss.length
    · obtain ⟨u', hu', hr'⟩ := hr i hlt
      refine ⟨u', by rw [List.getElem?_append_left (by omega)]; exact hu', ?_⟩
      obtain ⟨A, c, e, h1, h2, h3⟩ := hr'.chg hch (fun k hk e => (hv k e).2 hk)
      have hgd : (rss ++ [r]).getD i [] = rss.getD i [] := by simp [List.getD_eq_getElem?_getD, List.getElem?_append_left hlt]
      rw [hgd]
      exact ⟨A, c, e, h1, h2, fun ad a b => .inl (h3 ad a b)⟩
    · have hie : i = rss.length := by simp at hi; omega
      subst hie
      refine ⟨u, by rw [List.getElem?_append_right (by omega), hcl, Nat.sub_self]; rfl, ?_⟩
      obtain ⟨A, c, e, h1, h2, h3⟩ := hu.chg hch (fun k hk e => (hE2 k hk).2 e)
      have hgd : (rss ++ [r]).getD rss.length [] = r := by simp [List.getD_eq_getElem?_getD]
      rw [hgd]
      exact ⟨A, c, e, h1, h2, fun ad a b => .inr (h3 ad a b)⟩

theorem wpl_push {W : World} {R E E2 : Nat → Prop} {v u : Value} {rss : List (List Int)} {r : List Int} {ops : Array Oper} {rest : List Oper} {o : Oper} {a : Act} {Q : Exit → Act → World → Prop}
    (hR : RecsAt W R E v rss) (hu : RdRec W E2 u r) (hE2 : ∀ k, E2 k → k < W.heap.size ∧ v.ownBlock ≠ some k) (hl : rss.length ≤ 1000000)
    (hgd : o.guard = none) (s x : Operand) (ho : o.op = .call { callee := .builtin .append, args := #[s, x], argTypes := #[32, 32] }) (hs : a.eval s = v) (hx : a.eval x = .slice (some ⟨W.heap.size, 0, none⟩) 1 1)
    (h : ∀ v1 w1, RecsAt w1 (fun k => R k ∨ W.heap.size ≤ k) (fun k => E k ∨ E2 k) v1 (rss ++ [r]) → W.grownBy w1 v.ownBlock → wpList Tryd.prog ops Q rest (a.put o.dst v1) w1) :
    wpList Tryd.prog ops Q (o :: rest) a (W.alloc (.cells #[u] 39)) := by
  obtain ⟨cs, hown, hv, hsz, hr⟩ := hR
  have hcl : cs.length = rss.length := by have := hown.1; simpa using this
  have h1 : u.oneCell' = true := by obtain ⟨A, c, e, _⟩ := hu; rw [e]; rfl
  refine print_append (w0 := W) 0 hgd s x 32 39 (.slice none 0 0) 24 ho Tryd.underlying32 info39 rfl (by decide) v cs u hs hx h1 (by rw [hcl]; exact hown) (Below.refl _ _) (Nat.zero_le _) (by omega) ?_
  intro v1 w1 ho1 hb hg hat
  exact h v1 w1 (RecsAt.push hown hv hsz hr hu hE2 ho1 hg hat) hg

/-- Records behind records. -/
theorem RecsAt.append_run {W : World} {R E R1 E1 : Nat → Prop} {v tv : Value} {rss acc : List (List Int)} {ty : TypeId} (hR : RecsAt W R E v rss) (hT : RecsAt W R1 E1 tv acc) (h0 : 0 < acc.length) (hE : ∀ k, E1 k → v.ownBlock ≠ some k) (hl : rss.length + acc.length ≤ 1000000) :
    ∃ v1 w1, (Builtin.append_ #[32, 32] ty #[v, tv]).run Tryd.prog W = .ok v1 w1 ∧ RecsAt w1 (fun k => R k ∨ W.heap.size ≤ k) (fun k => E k ∨ E1 k) v1 (rss ++ acc) ∧ W.grownBy w1 v.ownBlock := by
  obtain ⟨cs, hown, hv, hs, hr⟩ := hR
  obtain ⟨cs1, hown1, hv1, hs1, hr1⟩ := hT
  have hcl : cs.length = rss.length := by have := hown.1; simpa using this
  have hcl1 : cs1.length = acc.length := by have := hown1.1; simpa using this
  obtain ⟨g, cap, htv, _, hcells⟩ := hown1.form h0
  have hone : ∀ u ∈ cs1, u.oneCell' = true := by
    intro u hu
    obtain ⟨i, hi, rfl⟩ := List.mem_iff_getElem.1 hu
    obtain ⟨u', hu', A, c, e, _⟩ := hr1 i (by omega)
    rw [List.getElem?_eq_getElem hi] at hu'
    injection hu' with hu'
    rw [hu', e]
    rfl
  obtain ⟨i0, hi, hz0, hz1, hz2⟩ := info_parts info39
  obtain ⟨v1, w1, hrun, ho1, hg, _, hat⟩ := run_append_own_at (P := Tryd.prog) W 0 32 ty 39 i0 (.slice none 0 0) 1 24 Tryd.underlying32 hi hz0 hz1 hz2 rfl (by decide) v rss.length cs hown ⟨g, 0, none⟩ acc.length cap cs1 (by omega) (fun j u hj => hown1.cells (g := g) (by rw [htv]; rfl) j u hj) hone (by unfold maxLen; omega) (by omega) (Nat.zero_le _)
  have hch : Chg (fun k => v.ownBlock = some k) W w1 := ⟨hg.os, hg.tape, hg.output, hg.size, fun k hk h => hg.block k hk (fun e => h e.symm)⟩
  refine ⟨v1, w1, by rw [htv]; exact hrun, ⟨cs ++ cs1, by rw [List.length_append]; exact ho1, fun k hk => ?_, fun k hk => ?_, fun i hi' => ?_⟩, hg⟩
  · rcases hat with h | h
    · rw [h] at hk
      exact ⟨.inl (hv k hk).1, fun e => by rcases e with e | e; exact (hv k hk).2 e; exact hE k e hk⟩
    · rw [h] at hk
      injection hk with hk
      subst hk
      exact ⟨.inr (Nat.le_refl _), fun e => by rcases e with e | e; have := hs _ e; omega; have := hs1 _ e; omega⟩
  · rcases hk with hk | hk
    · exact Nat.lt_of_lt_of_le (hs k hk) hg.size
    · exact Nat.lt_of_lt_of_le (hs1 k hk) hg.size
  · by_cases hlt : i < rss.length
    · obtain ⟨u', hu', hr'⟩ := hr i hlt
      refine ⟨u', by rw [List.getElem?_append_left (by omega)]; exact hu', ?_⟩
      obtain ⟨A, c, e, h1, h2, h3⟩ := hr'.chg hch (fun k hk e => (hv k e).2 hk)
      have hgd : (rss ++ acc).getD i [] = rss.getD i [] := by simp [List.getD_eq_getElem?_getD, List.getElem?_append_left hlt]
      rw [hgd]
      exact ⟨A, c, e, h1, h2, fun ad a b => .inl (h3 ad a b)⟩
    · have hi2 : i - rss.length < acc.length := by rw [List.length_append] at hi'; omega
      obtain ⟨u', hu', hr'⟩ := hr1 (i - rss.length) hi2
      refine ⟨u', by rw [List.getElem?_append_right (by omega), hcl]; exact hu', ?_⟩
      obtain ⟨A, c, e, h1, h2, h3⟩ := hr'.chg hch (fun k hk e => hE k hk e)
      have hgd : (rss ++ acc).getD i [] = acc.getD (i - rss.length) [] := by simp [List.getD_eq_getElem?_getD, List.getElem?_append_right (Nat.le_of_not_lt hlt)]
      rw [hgd]
      exact ⟨A, c, e, h1, h2, fun ad a b => .inr (h3 ad a b)⟩
theorem step_append_recs {W : World} {R E R1 E1 : Nat → Prop} {v tv : Value} {rss acc : List (List Int)} {ops : Array Oper} {o : Oper} {a : Act} {K : Act → World → Prop} {Q : Exit → Act → World → Prop} {X : Prop} (hgd : o.guard = none) (s x : Operand)
    (ho : o.op = .call { callee := .builtin .append, args := #[s, x], argTypes := #[32, 32] }) (hs : a.eval s = v) (hx : a.eval x = tv)
    (hR : RecsAt W R E v rss) (hT : RecsAt W R1 E1 tv acc) (h0 : 0 < acc.length) (hE : ∀ k, E1 k → v.ownBlock ≠ some k) (hl : rss.length + acc.length ≤ 1000000)
    (h : ∀ v1 w1, RecsAt w1 (fun k => R k ∨ W.heap.size ≤ k) (fun k => E k ∨ E1 k) v1 (rss ++ acc) → W.grownBy w1 v.ownBlock → K (a.put o.dst v1) w1) :
    if Region.wanted o (yielded ops a.tmps) = true then Oper.wp Tryd.prog o a W K Q else X := by
  have hw : Region.wanted o (yielded ops a.tmps) = true := by simp [Region.wanted, hgd]
  rw [if_pos hw]
  obtain ⟨v1, w1, hr, h1, h2⟩ := RecsAt.append_run (ty := o.type) hR hT h0 hE hl
  unfold Oper.wp
  simp [execOp, ho, resolve, invoke, builtin, hs, hx, hr, Result.andThen]
  exact h v1 w1 h1 h2

/-- bs[a:a+k] -/
theorem cutMid {A : Option Addr} {m c a k : Nat} (h : a + k ≤ m) (hc : m ≤ c) (hm : m ≤ 1000000) : ∃ A' : Option Addr, (∀ W : World, (Instr.slice 39 (.slice A m c) (some (.int .i64 (a : Int))) (some (.int .i64 ((a + k : Nat) : Int))) none).run Tryd.prog W = .ok (.slice A' k (c - a)) W) ∧
    (∀ (w : World) (bs : List Int), ReadsInt w .u8 A m bs → ReadsInt w .u8 A' k ((bs.drop a).take k)) ∧ k ≤ c - a := by
  obtain ⟨i0, hi, hz0, hz1, hz2⟩ := info_parts info5
  have hel : (Tryd.prog).elem 39 = 5 := by simp [Program.elem, Tryd.underlying39]
  have hu : (Tryd.prog).underlying 39 = some (.slice ((Tryd.prog).elem 39)) := by rw [hel]; exact Tryd.underlying39
  refine ⟨if c = a then A else A.map (·.add a), fun W => ?_, fun w bs h' => ?_, by omega⟩
  · rw [run_slice_lh W 39 A m c hu .i64 .i64 (a : Int) ((a + k : Nat) : Int) (by omega) (by omega) (by omega), hel]
    simp [sizeOf, typeInfo, hi, hz1, sliced, Result.andThen]
    clear hi hz0 hel hu
    omega
  · clear hi hz0 hz1 hz2 hel hu
    have h2 := (h'.take_ (a + k) (by omega)).drop_ (c := c) a (by omega) (by omega)
    rw [show a + k - a = k by omega] at h2
    have e : (bs.take (a + k)).drop a = (bs.drop a).take k := by rw [List.drop_take]; congr 1; omega
    rw [e] at h2
    exact h2
end Go.Proofs.YtapapedpecpfgaaDoor.J
