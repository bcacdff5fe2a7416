/-
  HarmWithin of the given program, proved of its Go text (the tied card): for every list of harms, every two limits and every number the law returns true and its arguments read as they did. Conditions: the row's own (its listed package variables are laid as the program's text lays them, which the card ties).
-/
import Derived.Test.YtnkipokbghnjcaaGreatDoorWalkG
/-! No function of the program starts a goroutine; the card of HarmWithin. -/
namespace Go.Proofs.YtnkipokbghnjcaaGreatDoor

def quietFuncs (p : Program) : Bool := p.funcs.toList.all fun fn => !fn.goes
set_option maxRecDepth 100000 in
theorem quiet_funcs : quietFuncs Tryz.prog = true := by kernel_rfl

theorem no_goes {g : FuncId} {fn : Func} (h : Tryz.prog.funcs[g]? = some fn) : fn.goes = false := by
  have := List.all_eq_true.1 quiet_funcs fn (by simpa using Array.mem_of_getElem? h)
  simpa using this

theorem goes_prog (f : FuncId) : Tryz.prog.goes f = false := by
  have h1 : ((Tryz.prog.closure f).any fun g => (Tryz.prog.funcs[g]?).any Func.goes) = false := by
    apply List.any_eq_false.2
    intro g _
    cases hq : Tryz.prog.funcs[g]? with
    | none => simp
    | some fn => simp [no_goes hq]
  have h2 : Tryz.prog.funcs.any Func.goes = false := by
    apply Array.any_eq_false.2
    intro i hi
    rw [no_goes (g := i) (Array.getElem?_eq_getElem hi)]
    simp
  unfold Program.goes
  rw [h1, h2]
  simp

theorem goes_row : false = Rows.harmWithinRow.goesBy Tryz.prog := by
  unfold OpenClaim.goesBy Program.goesAt Program.goesFrom
  have : (Tryz.prog.funcNamed Rows.harmWithinRow.func).any Tryz.prog.goes = false := by
    cases Tryz.prog.funcNamed Rows.harmWithinRow.func with
    | none => rfl
    | some f => simp [goes_prog f]
  rw [this]
  rfl

/-- No parameter wants a stand-in; the program's own looks are off. -/
theorem ws22 : Tryz.prog.wantsStandIn 22 = false := by kernel_rfl
theorem ws24 : Tryz.prog.wantsStandIn 24 = false := by kernel_rfl
theorem ws3 : Tryz.prog.wantsStandIn 3 = false := by kernel_rfl
theorem fnamed : Tryz.prog.funcNamed "fasti/fastilaw55.HarmWithin" = some 3 := by kernel_rfl
theorem looks0 : true = Tryz.pinned.checked.prog.looks [] := by kernel_rfl
theorem plain (f : FuncId) (fn : Func) (hf : Tryz.pinned.checked.prog.funcNamed "fasti/fastilaw55.HarmWithin" = some f) (hfn : Tryz.pinned.checked.prog.funcs[f]? = some fn) :
    true = Tryz.pinned.checked.prog.looks [] ∧ ∀ (j : Nat) t, fn.params[j]? = some t → Tryz.pinned.checked.prog.wantsStandIn t = false := by
  obtain rfl : f = 3 := Option.some.inj (fnamed.symm.trans hf) |>.symm
  obtain rfl : fn = Tryz.f3 := (Option.some.inj (Tryz.func3.symm.trans hfn)).symm
  refine ⟨looks0, fun j t ht => ?_⟩
  rw [Tryz.params3] at ht
  have hm := Array.mem_of_getElem? ht
  simp at hm
  rcases hm with rfl | rfl | rfl
  · exact ws22
  · exact ws24
  · exact ws3

theorem wfText : Rows.harmWithinRow.wfByText (OpenSpec.ofChange Rows.harmWithinSpec) = true := by kernel_rfl
theorem mainIs : Tryz.pinned.checked.prog.mainIs = some (true, "bf8fd57be0c6e286debea98237b1b4f6a5ac1e2b80064beaeea5d3c1b5fc981d".toList) := by kernel_rfl

/-- **The card.** -/
theorem card : Rows.HarmWithinCardSaid :=
  Claim7.holds_tied_plain_at .later [] _ _ _ _ said (fun _ h => by cases h) wfText (fun _ h => by cases h) harmWithin_row_tie rfl ⟨rfl, rfl⟩ mainIs rfl plain goes_row
end Go.Proofs.YtnkipokbghnjcaaGreatDoor
