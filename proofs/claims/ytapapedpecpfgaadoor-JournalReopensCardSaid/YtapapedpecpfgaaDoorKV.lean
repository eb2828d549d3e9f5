/- JournalReopens holds for every input: opening again without a crash returns the same records, epoch and space, and an operation that fails for lack of space changes nothing. The package's table of SHA-256's constants is tied to the program's text. -/
import Derived.Test.YtapapedpecpfgaaDoorCards
import Derived.Test.YtapapedpecpfgaaDoorTie
import Derived.Test.YtapapedpecpfgaaDoorKT
import Derived.SevenTiedAt
namespace Go.Proofs.YtapapedpecpfgaaDoor
open Go
theorem journalReopens_card : Rows.JournalReopensCardSaid :=
  Claim7.holds_tied_plain_at .later [] [.data] true (true, "8930dbca40d734cdd2f749417f8f4960a36fa5e9e421b0a656ea50812bf4bef7") false
    J.over (fun _ h => by cases h) (by kernel_rfl) (fun _ h => by cases h) journalReopens_row_tie rfl ⟨rfl, rfl⟩ (by kernel_rfl) rfl
    (fun f fn hf hfn => by
      obtain rfl : f = 3 := Option.some.inj ((show Tryd.prog.funcNamed "kinkeep/kinkeeplaw17.JournalReopens" = some 3 by kernel_rfl).symm.trans hf) |>.symm
      obtain rfl : fn = Tryd.f3 := (Option.some.inj (Tryd.func3.symm.trans hfn)).symm
      exact ⟨by kernel_rfl, fun j t ht => by
        rw [Tryd.params3] at ht
        have h3 : t = 3 ∨ t = 22 := by
          rcases j with _ | _ | _ | j
          · left; simpa using ht.symm
          · left; simpa using ht.symm
          · right; simpa using ht.symm
          · simp at ht
        rcases h3 with h3 | h3
        · subst h3
          exact (show Tryd.prog.wantsStandIn 3 = false by kernel_rfl)
        · subst h3
          exact (show Tryd.prog.wantsStandIn 22 = false by kernel_rfl)⟩)
    (by kernel_rfl)
#print axioms journalReopens_card
end Go.Proofs.YtapapedpecpfgaaDoor
