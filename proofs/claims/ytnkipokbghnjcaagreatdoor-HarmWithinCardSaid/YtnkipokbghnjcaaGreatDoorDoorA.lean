/-
  strings.Contains at this program: the shelf's contract laid; the evaluator's summary of it. · What the evaluator asks of the program, and a heap out of its blocks. · Summaries of calls at the statement's own league, each by one run of the evaluator. · The summaries of rules.Check, at work. · Summaries of calls at the statement's own league, each by one run of the evaluator.
-/
import Derived.Test.YtnkipokbghnjcaaGreatDoorProg
import Derived.Shelf.Strings.Search3
import Derived.Test.YtnkipokbghnjcaaGreatDoorEvF
import Derived.KernelRfl
/-! strings.Contains at this program: the shelf's contract laid; the evaluator's summary of it. -/
namespace Go.Proofs
open Go.Shelf
def Tryz.laysContains_ren : Go.Shelf.Ren := ⟨fun | 144 => 309 | 143 => 397 | 219 => 442 | 217 => 466 | 225 => 467 | 224 => 468 | 267 => 469 | 266 => 476 | 314 => 477 | n => n, fun | 9 => 9 | 4 => 4 | 3 => 3 | 5 => 5 | 46 => 317 | 146 => 493 | 51 => 456 | n => n, fun | 1 => 4 | n => n⟩
theorem Tryz.laysContains : Go.Proofs.Lays.n144 Tryz.prog Tryz.laysContains_ren := {
  mixed := by kernel_rfl
  f143 := Tryz.func397.trans (congrArg some (by kernel_rfl))
  f144 := Tryz.func309.trans (congrArg some (by kernel_rfl))
  f217 := Tryz.func466.trans (congrArg some (by kernel_rfl))
  f219 := Tryz.func442.trans (congrArg some (by kernel_rfl))
  f224 := Tryz.func468.trans (congrArg some (by kernel_rfl))
  f225 := Tryz.func467.trans (congrArg some (by kernel_rfl))
  f266 := Tryz.func476.trans (congrArg some (by kernel_rfl))
  f267 := Tryz.func469.trans (congrArg some (by kernel_rfl))
  f314 := Tryz.func477.trans (congrArg some (by kernel_rfl))
  t3 := Tryz.underlying3
  a3 := Tryz.isAgg3
  z3 := Tryz.sizeOf3
  v3 := Tryz.zeroValue3
  t4 := Tryz.underlying4
  a4 := Tryz.isAgg4
  z4 := Tryz.sizeOf4
  v4 := Tryz.zeroValue4
  t5 := Tryz.underlying5
  a5 := Tryz.isAgg5
  z5 := Tryz.sizeOf5
  v5 := Tryz.zeroValue5
  t9 := Tryz.underlying9
  a9 := Tryz.isAgg9
  z9 := Tryz.sizeOf9
  v9 := Tryz.zeroValue9
  t46 := Tryz.underlying317
  a46 := Tryz.isAgg317
  z46 := Tryz.sizeOf317
  v46 := Tryz.zeroValue317
  t51 := Tryz.underlying456
  a51 := Tryz.isAgg456
  z51 := Tryz.sizeOf456
  v51 := Tryz.zeroValue456
  t146 := Tryz.underlying493
  a146 := Tryz.isAgg493
  z146 := Tryz.sizeOf493
  v146 := Tryz.zeroValue493
  g1 := by kernel_rfl }

theorem Tryz.contains309 (s sub : ByteArray) (m : Int) (w : World) (hs : s.size < 4294967281) (hm : w.cell? ⟨4, 0, none⟩ = some (.int .i64 m)) :
    Calls Tryz.prog 309 #[.string s, .string sub] w fun e w' => e = .returned (.bool (Lib.contains s.data.toList sub.data.toList)) ∧ w' = w :=
  Any.strings_Contains Tryz.laysContains s sub m w hs hm
end Go.Proofs
namespace Go.Ev
open Go Go.Proofs

/-- A call that leaves the world as it was. -/
theorem CallOK.of_calls {P : Program} {ng : Nat} {f : FuncId} {args : List Value} {h : Hp} {v : Value} (hv : gr 7 v = true)
    (hc : ∀ μ w args', OKm P ng μ h w → LR μ args args' → Calls P f args'.toArray w fun e w' => e = .returned v ∧ w' = w) : CallOK P ng f args false h .run [.ret v h .run] := by
  intro μ w args' cs u ho ha _ _
  obtain ⟨e, w', fr, ⟨rfl, rfl⟩, hst, hfn, hm, hd, hk, hr⟩ := hc μ w args' ho ha cs
  rw [setMd_false]
  exact ⟨_, μ, w', u, .returned v, fr, List.mem_singleton.2 rfl, .ret ho (Fr.refl _ _ _) (gr_refl 7 _ hv) (by simp), by rw [setMd_false]; exact hst, hk, hfn, hm, hd, hr⟩

def sm309 : Sums := fun f args h => match Nat.beq f 309, args with
  | true, [.string a, .string b] => match Nat.blt a.size 4294967281 with
    | true => some [.ret (.bool (Lib.contains a.data.toList b.data.toList)) h .run]
    | false => none
  | _, _ => none

theorem sm309_ext : SumsExt sm309 := by
  intro f args h L e
  unfold sm309 at e
  repeat' split at e
  all_goals first
    | (cases e; done)
    | (cases e; intro r hr; simp only [List.mem_singleton] at hr; subst hr; exact .refl _)

theorem pin4 : pinG Tryz.prog 4 = true := by kernel_rfl

theorem sm309_ok : SumsOK Tryz.prog 7 sm309 := by
  intro f args h L e
  unfold sm309 at e
  split at e
  · rename_i a b hf
    have hf := Nat.eq_of_beq_eq_true hf
    subst hf
    split at e
    · rename_i hsz
      cases e
      refine CallOK.of_calls rfl fun μ w args' ho ha => ?_
      obtain ⟨_, c, t, m, h2, hy⟩ := ho.pin 4 pin4
      have hcell : w.cell? ⟨4, 0, none⟩ = some (.int .i64 m) := by
        simp [World.cell?, h2, hy]
      match args', ha with
      | [x, y], ha =>
        have h1 := ha.uncons
        have h2 := h1.2.uncons
        cases h1.1
        cases h2.1
        exact Tryz.contains309 a b m w (by simpa [Nat.blt_eq] using hsz) hcell
      | [], ha => have := ha.1; simp at this
      | [_], ha => have := ha.1; simp at this
      | _ :: _ :: _ :: _, ha => have := ha.1; simp at this
    · cases e
  · cases e

end Go.Ev

/-! What the evaluator asks of the program, and a heap out of its blocks. -/
namespace Go.Ev
open Go Go.Proofs

theorem door_mix : Tryz.prog.follows .mixedOrders = true := by kernel_rfl
def namesOk (p : Program) : Bool := p.funcs.toList.all fun fn => !(fn.name == "runtime.NumGoroutine")
theorem door_names0 : namesOk Tryz.prog = true := by kernel_rfl
theorem door_names : ∀ (g : FuncId) (fn : Func), Tryz.prog.funcs[g]? = some fn → ¬ fn.name = "runtime.NumGoroutine" := by
  intro g fn h he
  have hm : fn ∈ Tryz.prog.funcs.toList := by
    have := Array.mem_of_getElem? h
    simpa using this
  have := List.all_eq_true.1 door_names0 fn hm
  rw [he] at this
  simp at this

def mkH (l : List AObj) : Hp := l.foldl (fun h o => h.new o) { t := .e, nx := 0, lw := BIG }

theorem door_sum {sm : Sums} (hs : SumsOK Tryz.prog 7 sm) (hsx : SumsExt sm) (n : Nat) {e : Sum1} (h : sumChk Tryz.prog 7 sm n e = true) : Sum1OK Tryz.prog 7 e := sum_ok door_mix door_names hs hsx n h
end Go.Ev

/-! Summaries of calls at the statement's own league, each by one run of the evaluator. -/
namespace Go.Ev
open Go Go.Proofs

def sumR0 : Sum1 := { f := 23, args := [.agg #[.string ⟨#[108]⟩, .slice (some ⟨9, 0, none⟩) 2 2, .slice (some ⟨10, 0, none⟩) 1 1, .slice none 0 0, .slice (some ⟨11, 0, none⟩) 2 2, .slice (some ⟨12, 0, none⟩) 2 2, .slice (some ⟨17, 0, none⟩) 1 1, .slice (some ⟨13, 0, none⟩) 1 1, .int .i64 0, .int .i64 0, .int .i64 0, .int .i64 0, .slice none 0 0, .slice (some ⟨15, 0, none⟩) 1 1, .slice none 0 0]], v := .int .i64 0, ht := mkH [.dead,
  .cells [.int .i64 31, .int .i64 29, .int .i64 31, .int .i64 30, .int .i64 31, .int .i64 30, .int .i64 31, .int .i64 31, .int .i64 30, .int .i64 31, .int .i64 30, .int .i64 31] 347,
  .dead,
  .dead,
  .dead,
  .dead,
  .dead,
  .dead,
  .dead,
  .cells [.string ⟨#[116]⟩, .string ⟨#[117]⟩] 73,
  .cells [.string ⟨#[116]⟩, .int .i64 0, .string ⟨#[117]⟩, .int .i64 1, .int .i64 40] 75,
  .cells [.string ⟨#[103]⟩, .string ⟨#[116]⟩, .int .i64 0, .int .i64 0, .int .i64 0, .int .i64 0, .int .i64 1, .string ⟨#[104]⟩, .string ⟨#[117]⟩, .int .i64 1, .int .i64 0, .int .i64 0, .int .i64 0, .int .i64 1] 77,
  .cells [.string ⟨#[97]⟩, .string ⟨#[103]⟩, .int .i64 0, .int .i64 1, .string ⟨#[98]⟩, .string ⟨#[104]⟩, .int .i64 1, .int .i64 1] 79,
  .cells [.string ⟨#[115]⟩, .int .i64 0, .int .i64 90, .int .i64 0] 84,
  .cells [.string ⟨#[97]⟩, .int .i64 0, .string ⟨#[98]⟩, .int .i64 1] 68,
  .cells [.string ⟨#[112]⟩, .int .i64 2, .string ⟨#[119]⟩, .int .i64 0, .slice (some ⟨14, 0, none⟩) 2 2, .string ⟨#[]⟩, .int .i64 (-1), .slice none 0 0, .string ⟨#[]⟩, .int .i64 (-1), .string ⟨#[]⟩, .int .i64 (-1), .int .i64 0, .int .i64 0] 87,
  .dead,
  .cells [.string ⟨#[119]⟩, .int .i64 2000, .int .i64 1, .int .i64 1, .int .i64 2000, .int .i64 3, .int .i64 1, .bool true, .bool true, .bool true, .bool true, .bool true, .bool true, .bool true] 82] }
set_option maxRecDepth 100000 in
theorem sumR0_chk : sumChk Tryz.prog 7 sm309 600 sumR0 = true := by kernel_rfl

def sumR1 : Sum1 := { f := 23, args := [.agg #[.string ⟨#[108]⟩, .slice none 0 0, .slice none 0 0, .slice none 0 0, .slice none 0 0, .slice none 0 0, .slice none 0 0, .slice none 0 0, .int .i64 0, .int .i64 0, .int .i64 0, .int .i64 0, .slice none 0 0, .slice none 0 0, .slice none 0 0]], v := .int .i64 0, ht := mkH [.dead,
  .cells [.int .i64 31, .int .i64 29, .int .i64 31, .int .i64 30, .int .i64 31, .int .i64 30, .int .i64 31, .int .i64 31, .int .i64 30, .int .i64 31, .int .i64 30, .int .i64 31] 347,
  .dead,
  .dead,
  .dead,
  .dead,
  .dead] }
set_option maxRecDepth 100000 in
theorem sumR1_chk : sumChk Tryz.prog 7 sm309 600 sumR1 = true := by kernel_rfl

end Go.Ev

/-! The summaries of rules.Check, at work. -/
namespace Go.Ev
open Go Go.Proofs

def smR : Sums := smL sm309 [sumR0, sumR1]
theorem smR_ok : SumsOK Tryz.prog 7 smR := smL_ok sm309_ok _ fun e he => by
  simp only [List.mem_cons, List.not_mem_nil, or_false] at he
  rcases he with rfl | rfl
  · exact door_sum sm309_ok sm309_ext _ sumR0_chk
  · exact door_sum sm309_ok sm309_ext _ sumR1_chk
theorem smR_ext : SumsExt smR := smL_ext sm309_ext _
end Go.Ev

/-! Summaries of calls at the statement's own league, each by one run of the evaluator. -/
namespace Go.Ev
open Go Go.Proofs

def sumM0 : Sum1 := { f := 88, args := [.agg #[.string ⟨#[108]⟩, .slice (some ⟨9, 0, none⟩) 2 2, .slice (some ⟨10, 0, none⟩) 1 1, .slice none 0 0, .slice (some ⟨11, 0, none⟩) 2 2, .slice (some ⟨12, 0, none⟩) 2 2, .slice (some ⟨17, 0, none⟩) 1 1, .slice (some ⟨13, 0, none⟩) 1 1, .int .i64 0, .int .i64 0, .int .i64 0, .int .i64 0, .slice none 0 0, .slice (some ⟨15, 0, none⟩) 1 1, .slice none 0 0], .int .i64 0, .int .i64 0], v := .tuple #[.int .i64 0, .bool true, .int .i64 0], ht := mkH [.dead,
  .cells [.int .i64 31, .int .i64 29, .int .i64 31, .int .i64 30, .int .i64 31, .int .i64 30, .int .i64 31, .int .i64 31, .int .i64 30, .int .i64 31, .int .i64 30, .int .i64 31] 347,
  .dead,
  .dead,
  .dead,
  .dead,
  .dead,
  .dead,
  .dead,
  .cells [.string ⟨#[116]⟩, .string ⟨#[117]⟩] 73,
  .cells [.string ⟨#[116]⟩, .int .i64 0, .string ⟨#[117]⟩, .int .i64 1, .int .i64 40] 75,
  .cells [.string ⟨#[103]⟩, .string ⟨#[116]⟩, .int .i64 0, .int .i64 0, .int .i64 0, .int .i64 0, .int .i64 1, .string ⟨#[104]⟩, .string ⟨#[117]⟩, .int .i64 1, .int .i64 0, .int .i64 0, .int .i64 0, .int .i64 1] 77,
  .cells [.string ⟨#[97]⟩, .string ⟨#[103]⟩, .int .i64 0, .int .i64 1, .string ⟨#[98]⟩, .string ⟨#[104]⟩, .int .i64 1, .int .i64 1] 79,
  .cells [.string ⟨#[115]⟩, .int .i64 0, .int .i64 90, .int .i64 0] 84,
  .cells [.string ⟨#[97]⟩, .int .i64 0, .string ⟨#[98]⟩, .int .i64 1] 68,
  .cells [.string ⟨#[112]⟩, .int .i64 2, .string ⟨#[119]⟩, .int .i64 0, .slice (some ⟨14, 0, none⟩) 2 2, .string ⟨#[]⟩, .int .i64 (-1), .slice none 0 0, .string ⟨#[]⟩, .int .i64 (-1), .string ⟨#[]⟩, .int .i64 (-1), .int .i64 0, .int .i64 0] 87,
  .dead,
  .cells [.string ⟨#[119]⟩, .int .i64 2000, .int .i64 1, .int .i64 1, .int .i64 2000, .int .i64 3, .int .i64 1, .bool true, .bool true, .bool true, .bool true, .bool true, .bool true, .bool true] 82] }
set_option maxRecDepth 100000 in
theorem sumM0_chk : sumChk Tryz.prog 7 smR 600 sumM0 = true := by kernel_rfl

def sumM1 : Sum1 := { f := 88, args := [.agg #[.string ⟨#[108]⟩, .slice (some ⟨9, 0, none⟩) 2 2, .slice (some ⟨10, 0, none⟩) 1 1, .slice none 0 0, .slice (some ⟨11, 0, none⟩) 2 2, .slice (some ⟨12, 0, none⟩) 2 2, .slice (some ⟨17, 0, none⟩) 1 1, .slice (some ⟨13, 0, none⟩) 1 1, .int .i64 0, .int .i64 0, .int .i64 0, .int .i64 0, .slice none 0 0, .slice (some ⟨15, 0, none⟩) 1 1, .slice none 0 0], .int .i64 1, .int .i64 1], v := .tuple #[.int .i64 0, .bool true, .int .i64 0], ht := mkH [.dead,
  .cells [.int .i64 31, .int .i64 29, .int .i64 31, .int .i64 30, .int .i64 31, .int .i64 30, .int .i64 31, .int .i64 31, .int .i64 30, .int .i64 31, .int .i64 30, .int .i64 31] 347,
  .dead,
  .dead,
  .dead,
  .dead,
  .dead,
  .dead,
  .dead,
  .cells [.string ⟨#[116]⟩, .string ⟨#[117]⟩] 73,
  .cells [.string ⟨#[116]⟩, .int .i64 0, .string ⟨#[117]⟩, .int .i64 1, .int .i64 40] 75,
  .cells [.string ⟨#[103]⟩, .string ⟨#[116]⟩, .int .i64 0, .int .i64 0, .int .i64 0, .int .i64 0, .int .i64 1, .string ⟨#[104]⟩, .string ⟨#[117]⟩, .int .i64 1, .int .i64 0, .int .i64 0, .int .i64 0, .int .i64 1] 77,
  .cells [.string ⟨#[97]⟩, .string ⟨#[103]⟩, .int .i64 0, .int .i64 1, .string ⟨#[98]⟩, .string ⟨#[104]⟩, .int .i64 1, .int .i64 1] 79,
  .cells [.string ⟨#[115]⟩, .int .i64 0, .int .i64 90, .int .i64 0] 84,
  .cells [.string ⟨#[97]⟩, .int .i64 0, .string ⟨#[98]⟩, .int .i64 1] 68,
  .cells [.string ⟨#[112]⟩, .int .i64 2, .string ⟨#[119]⟩, .int .i64 0, .slice (some ⟨14, 0, none⟩) 2 2, .string ⟨#[]⟩, .int .i64 (-1), .slice none 0 0, .string ⟨#[]⟩, .int .i64 (-1), .string ⟨#[]⟩, .int .i64 (-1), .int .i64 0, .int .i64 0] 87,
  .dead,
  .cells [.string ⟨#[119]⟩, .int .i64 2000, .int .i64 1, .int .i64 1, .int .i64 2000, .int .i64 3, .int .i64 1, .bool true, .bool true, .bool true, .bool true, .bool true, .bool true, .bool true] 82] }
set_option maxRecDepth 100000 in
theorem sumM1_chk : sumChk Tryz.prog 7 smR 600 sumM1 = true := by kernel_rfl

end Go.Ev
