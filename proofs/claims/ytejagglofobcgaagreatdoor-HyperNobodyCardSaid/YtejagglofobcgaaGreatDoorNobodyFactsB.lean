/- HyperNobody's card: its closed facts. -/
import Derived.Test.YtejagglofobcgaaGreatDoorCards
import Derived.JoinedCond
import Derived.SevenTiedAt
namespace Go.Proofs.YtejagglofobcgaaGreatDoor.Nobody
set_option maxRecDepth 100000
theorem cardWf : Rows.hyperNobodyRow.wfByText (OpenSpec.ofChange Rows.hyperNobodySpec) = true := by kernel_rfl
theorem cardMain : Tryz.pinned.checked.prog.mainIs = some (true, ("53ef6125d924a0a4c7a22778307a210f3a0001b22a4c69cbf6413892431b7c42" : String).toList) := by kernel_rfl
theorem goes_none {P : Program} (h : P.funcs.toList.all (fun f => !f.goes) = true) (c : OpenClaim) (hs : c.start = .entering) : false = c.goesBy P := by
  have h1 : ∀ g : FuncId, (P.funcs[g]?).any Func.goes = false := by
    intro g
    cases hg : P.funcs[g]? with
    | none => rfl
    | some fn =>
      have hm : fn ∈ P.funcs.toList := by
        rw [Array.mem_toList_iff]
        exact Array.mem_of_getElem? hg
      have := List.all_eq_true.1 h fn hm
      simpa using this
  have h2 : P.funcs.any Func.goes = false := by
    rw [← Array.any_toList]
    rw [List.any_eq_false]
    intro fn hm
    have := List.all_eq_true.1 h fn hm
    simpa using this
  unfold OpenClaim.goesBy Program.goesAt Program.goesFrom
  rw [hs]
  cases P.funcNamed c.func with
  | none => rfl
  | some f =>
    simp only [Option.any_some, Program.goes, h1, h2, Bool.and_false, Bool.or_false]
    simp

theorem noneGoes : Tryz.prog.funcs.toList.all (fun f => !f.goes) = true := by kernel_rfl
theorem cardGoes : false = Rows.hyperNobodyRow.goesBy Tryz.pinned.checked.prog := goes_none noneGoes _ rfl
theorem rowName : Tryz.pinned.checked.prog.funcNamed "palisade/palisadelaw26.HyperNobody" = some 4 := by kernel_rfl
theorem rowInst : decide (Tryz.f4.isInstance Tryz.prog Rows.hyperNobodyRow.origin Rows.hyperNobodyRow.targs) = true := by kernel_rfl
theorem rowWrap : Tryz.f4.isWrapper Tryz.prog Rows.hyperNobodyRow.wrapper Rows.hyperNobodyRow.mainSum := by
  unfold Func.isWrapper
  first | (rw [if_pos (by decide +kernel)]; kernel_rfl) | (rw [if_neg (by decide +kernel)]; exact ⟨rfl, rfl⟩)
end Go.Proofs.YtejagglofobcgaaGreatDoor.Nobody
