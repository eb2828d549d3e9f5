/- What decode says, and records that are owned. -/
import Derived.Test.YtapapedpecpfgaaDoorJZ
import Derived.Laws.Tables
set_option linter.unusedVariables false
set_option linter.unusedSimpArgs false
namespace Go.Proofs.YtapapedpecpfgaaDoor.J
open Go.RowKit Go.Proofs.YtapapedpecpfgaaDoorW.PrintWords

/-- A half. -/
structure Hf where
  ep : Nat
  ba : Nat
  us : Nat
  la : ByteArray
  rs : List (List Int)

/-- The records behind at, and where they end. -/
def parseF (b : List Int) : Nat → Nat → Option (List (List Int) × Nat)
  | 0, at_ => some ([], at_)
  | n + 1, at_ => if b.length < at_ + 4 then none else if b.length < at_ + 4 + (numAt b at_).toNat then none else
      (parseF b n (at_ + 4 + (numAt b at_).toNat)).map (fun p => ((b.drop (at_ + 4)).take (numAt b at_).toNat :: p.1, p.2))

/-- decode. -/
def decF (sz : Nat) (h : Hf) (b : List Int) : Option Hf :=
  if b.length < 40 then none else
  match parseF b (numAt b 36).toNat 40 with
  | none => none
  | some (rs, at_) =>
    if (numAt b 36).toNat = 0 ∨ (0 < h.ba ∧ (numAt b 32).toNat ≠ h.ep) ∨ strOfNums (b.take 32) ≠ sumJ h.la h.us ((b.take at_).drop 32) then none
    else some ⟨(numAt b 32).toNat, h.ba + 1, h.us + (at_ + sz - 1) / sz, strOfNums (b.take 32), h.rs ++ rs⟩

theorem parseF_le {b : List Int} : ∀ (n a : Nat) {rs : List (List Int)} {e : Nat}, parseF b n a = some (rs, e) → a ≤ b.length → a ≤ e ∧ e ≤ b.length ∧ rs.length = n ∧ lenF rs = e - a
  | 0, a, rs, e, h, ha => by
    simp only [parseF, Option.some.injEq, Prod.mk.injEq] at h
    obtain ⟨rfl, rfl⟩ := h
    exact ⟨Nat.le_refl _, ha, rfl, by simp [lenF]⟩
  | n + 1, a, rs, e, h, ha => by
    unfold parseF at h
    split at h
    · cases h
    · split at h
      · cases h
      · rename_i h1 h2
        obtain ⟨⟨rs', e'⟩, hp, he⟩ := Option.map_eq_some_iff.1 h
        simp only [Prod.mk.injEq] at he
        obtain ⟨rfl, rfl⟩ := he
        obtain ⟨q1, q2, q3, q4⟩ := parseF_le n _ hp (by omega)
        refine ⟨by omega, q2, by simp [q3], ?_⟩
        simp only [lenF, List.length_take, List.length_drop, q4]
        omega

/-- Four bytes. -/
theorem i64_join (i : Nat) (x y : Int) (h2 : y < 2 ^ 40) (hx0 : 0 ≤ x) (hx : x % 2 ^ i = 0) (hx1 : x < 2 ^ 40) (h0 : 0 ≤ y) (h1 : y < 2 ^ i) : Go.bits .or .i64 x y = x + y :=
  bits_join .i64 40 (by decide) (fun n h0 h1 => by rw [IntKind.wrap_i64]; omega) i x y hx0 hx hx1 h0 h1 h2
theorem numAt_val (xs : List Int) (k : Nat) (hb : ∀ x ∈ xs, 0 ≤ x ∧ x ≤ 255) : numAt xs k = xs[k]?.getD 0 * 16777216 + xs[k + 1]?.getD 0 * 65536 + xs[k + 2]?.getD 0 * 256 + xs[k + 3]?.getD 0 := by
  have g : ∀ k : Nat, 0 ≤ xs[k]?.getD 0 ∧ xs[k]?.getD 0 ≤ 255 := fun k => by
    have := getB hb k
    rw [List.getD_eq_getElem?_getD] at this
    exact this
  have g0 := g k
  have g1 := g (k + 1)
  have g2 := g (k + 2)
  have g3 := g (k + 3)
  unfold numAt
  generalize xs[k]?.getD 0 = a at *
  generalize xs[k + 1]?.getD 0 = b at *
  generalize xs[k + 2]?.getD 0 = c at *
  generalize xs[k + 3]?.getD 0 = d at *
  have wa : ∀ x : Int, 0 ≤ x → x < 4294967296 → wrap64 x = x := fun x h1 h2 => by
    unfold wrap64
    omega
  rw [wa a (by omega) (by omega), wa b (by omega) (by omega), wa c (by omega) (by omega), wa d (by omega) (by omega), wa (a * 16777216) (by omega) (by omega), wa (b * 65536) (by omega) (by omega), wa (c * 256) (by omega) (by omega)]
  rw [i64_join 24 (a * 16777216) (b * 65536) (by omega) (by omega) (by omega) (by omega) (by omega) (by omega)]
  rw [i64_join 16 (a * 16777216 + b * 65536) (c * 256) (by omega) (by omega) (by omega) (by omega) (by omega) (by omega)]
  rw [i64_join 8 (a * 16777216 + b * 65536 + c * 256) d (by omega) (by omega) (by omega) (by omega) (by omega) (by omega)]
theorem numAt_range (xs : List Int) (k : Nat) (hb : ∀ x ∈ xs, 0 ≤ x ∧ x ≤ 255) : 0 ≤ numAt xs k ∧ numAt xs k < 4294967296 := by
  have g : ∀ k : Nat, 0 ≤ xs[k]?.getD 0 ∧ xs[k]?.getD 0 ≤ 255 := fun k => by
    have := getB hb k
    rw [List.getD_eq_getElem?_getD] at this
    exact this
  have g0 := g k
  have g1 := g (k + 1)
  have g2 := g (k + 2)
  have g3 := g (k + 3)
  rw [numAt_val xs k hb]
  omega

/-- Records that are owned: their row is in R, their bytes are in E. -/
def RecsAt (w : World) (R E : Nat → Prop) (v : Value) (rss : List (List Int)) : Prop :=
  ∃ cs, w.ownsRow 0 39 1 v rss.length cs ∧ (∀ k, v.ownBlock = some k → R k ∧ ¬ E k) ∧ (∀ k, E k → k < w.heap.size) ∧ ∀ i, i < rss.length → ∃ u, cs[i]? = some u ∧ RdRec w E u (rss.getD i [])
theorem RecsAt.nil (w : World) (R : Nat → Prop) : RecsAt w R (fun _ => False) (.slice none 0 0) [] :=
  ⟨[], own_nil _ _ _ _, fun k h => by simp [Value.ownBlock] at h, fun _ h => h.elim, fun i hi => absurd hi (by simp)⟩
theorem RecsAt.chg {w w' : World} {R E S : Nat → Prop} {v : Value} {rss : List (List Int)} (h : RecsAt w R E v rss) (hc : Chg S w w') (hR : ∀ k, R k → ¬ S k) (hE : ∀ k, E k → ¬ S k) : RecsAt w' R E v rss := by
  obtain ⟨cs, ho, hv, hs, hr⟩ := h
  refine ⟨cs, own_move ho (fun k hk => hc.block k (own_lt ho k hk) (hR k (hv k hk).1)), hv, fun k hk => Nat.lt_of_lt_of_le (hs k hk) hc.size, fun i hi => ?_⟩
  obtain ⟨u, hu, hru⟩ := hr i hi
  exact ⟨u, hu, hru.chg hc hE⟩
theorem RecsAt.mono {w : World} {R R' E : Nat → Prop} {v : Value} {rss : List (List Int)} (h : RecsAt w R E v rss) (hR : ∀ k, R k → k < w.heap.size → R' k) : RecsAt w R' E v rss := by
  obtain ⟨cs, ho, hv, hs, hr⟩ := h
  exact ⟨cs, ho, fun k hk => ⟨hR k (hv k hk).1 (own_lt ho k hk), (hv k hk).2⟩, hs, hr⟩
theorem RecsAt.slice {w : World} {R E : Nat → Prop} {v : Value} {rss : List (List Int)} (h : RecsAt w R E v rss) : ∃ A c, v = .slice A rss.length c := by
  obtain ⟨cs, ho, _⟩ := h
  exact own_slice ho
/-- .. are read. -/
theorem RecsAt.reads {w : World} {R E : Nat → Prop} {A : Option Addr} {n c : Nat} {rss : List (List Int)} (h : RecsAt w R E (.slice A n c) rss) (hn : rss.length = n) : RdRecs w (fun k => R k ∨ E k) A n rss ∧ n ≤ c := by
  obtain ⟨cs, ho, hv, hs, hr⟩ := h
  rw [hn] at ho hr
  refine ⟨⟨hn, fun h0 => ?_⟩, own_le ho⟩
  obtain ⟨g, cap, e, _, hcl⟩ := ho.form h0
  injection e with e1 e2 e3
  refine ⟨⟨g, 0, none⟩, e1, .inl (hv g (by rw [e1]; rfl)).1, fun i hi => ?_⟩
  obtain ⟨u, hu, A', c', e', hl, hrr, hP⟩ := hr i hi
  refine ⟨u, ho.cells (g := g) (by rw [e1]; rfl) i u hu, A', c', e', hl, hrr, fun ad h1 h2 => .inr (hP ad h1 h2)⟩
end Go.Proofs.YtapapedpecpfgaaDoor.J
