/-
'wharflaw22.RegstoreNil' returns true for every input, and leaves its arguments as they were.
Conditions: none but the row's own (the listed package variables hold what the program's text lays).
-/
import Derived.Test.YtampemlkcngogaaGreatDoorNilB
import Derived.Test.YtampemlkcngogaaGreatDoorCards
import Derived.Test.YtampemlkcngogaaGreatDoorTie
import Derived.Lay
import Derived.SevenTiedAt
namespace Go.Proofs.YtampemlkcngogaaGreatDoor
open Go Go.Den Go.RowKit Go.ChangeShapes Go.WideShapes Go.ChangeAt
set_option maxRecDepth 100000
set_option linter.unusedSimpArgs false
set_option linter.unusedVariables false

theorem own : ownKnob Tryz.prog.godebug = .none := by kernel_rfl
theorem laidOut : laidOutB Tryz.prog = true := by kernel_rfl
theorem results4 : Tryz.f4.resultTypes = #[4] := by kernel_rfl
theorem row4 : Tryz.f4.params.toList.all (fun t => Tryz.prog.readableRec t && decide (t < Tryz.prog.types.size)) = true := by kernel_rfl
theorem body4 : Tryz.f4.body.isSome = true := by kernel_rfl
theorem name4 : (Tryz.f4.name == "runtime.NumGoroutine") = false := by kernel_rfl

theorem law_calls (a b c n p : List UInt8) (k : Int) (w : World) : Calls Tryz.prog 4 #[.agg #[.string ⟨⟨a⟩⟩, .string ⟨⟨b⟩⟩, .string ⟨⟨c⟩⟩, .string ⟨⟨n⟩⟩, .string ⟨⟨p⟩⟩], .int .i64 k] w fun e w' => e = .returned (.bool true) ∧ Below w.heap.size w w' := by
  obtain ⟨m', h⟩ := law a b c n p k
  rw [← nglob] at h
  have hv : VRs (emb0 Tryz.prog) [reg a b c n p, .int .i64 k] [.agg #[.string ⟨⟨a⟩⟩, .string ⟨⟨b⟩⟩, .string ⟨⟨c⟩⟩, .string ⟨⟨n⟩⟩, .string ⟨⟨p⟩⟩], .int .i64 k] :=
    .cons (.agg (VRs.strs [a, b, c, n, p])) (.cons (.int _ _) .nil)
  refine (calls_of_inv Tryz.func4 body4 name4 (closed_callX fol X_ok (tbl_ok names) h w hv)).mono fun e w' ⟨v, he, ⟨φ, hr⟩, hb⟩ => ?_
  cases hr
  exact ⟨he, hb⟩

theorem list5 {α : Type} {l : List α} (h : l.length = 5) : ∃ a b c n p, l = [a, b, c, n, p] := by
  match l, h with
  | [a, b, c, n, p], _ => exact ⟨a, b, c, n, p, rfl⟩

theorem contract (H : Type) (enc : TypeId × Value → H) (W : World) (base : Nat) (args : Array Value) (ds gs : List (DataW H)) (before : List MemPlace)
    (hval : ∀ (j : Nat) t v, Tryz.f4.params[j]? = some t → args[j]? = some v → Value.okWide Tryz.prog W .any base t v)
    (hW : DataW.Whole enc Tryz.prog Tryz.f4.params.toList Rows.regstoreNilSpec.vars false W args.toList ds gs before) :
    Calls Tryz.prog 4 args W fun e W' => ∃ v, e = .returned v ∧ Rows.regstoreNilSpec.post enc Tryz.prog Tryz.f4 false true false false W args v W' := by
  have hW' := hW
  obtain ⟨q1, q2, hA0, hV, _, _, _⟩ := hW
  have hA : DataW.TrodAll enc Tryz.prog W 0 (fun _ => true) true Tryz.f4.params.toList args.toList ds q1 := hA0
  rw [Tryz.params4] at hA hval
  obtain ⟨v0, v1, d0, d1, p0, p1, rfl, rfl, rfl, h0, h1⟩ := trodAll_two hA
  obtain ⟨l, rfl, hl⟩ := agg_strings (ts := [9, 9, 9, 9, 9]) Tryz.underlying39 (by kernel_rfl) (by kernel_rfl) (hval 0 39 v0 rfl rfl)
  have h5 : Tryz.prog.cellsOf 39 = 5 := by kernel_rfl
  obtain ⟨k, rfl, _, _, _⟩ := open_int Tryz.underlying3 (hval 1 3 v1 rfl rfl) h1
  obtain ⟨a, b, c, n, p, rfl⟩ := list5 (hl.trans h5)
  clear hA0 hA hval h0 h1 hV hl h5
  refine (law_calls a b c n p k W).mono fun e W' he => ?_
  exact ⟨_, he.1, law_post laidOut row4 results4 Tryz.underlying4 rfl hW' rfl he.2⟩

theorem lifted (os : Os) (started : os.Started) (H : Type) (enc : TypeId × Value → H) :
    ReturnsInHanded {} Tryz.checked os 4 .any (fun w args => (Rows.regstoreNilSpec.pre enc Tryz.prog Tryz.f4 [] false w args ∧ laidMetH Tryz.prog Rows.regstoreNilRow.laid w) ∧ sizedMet enc Tryz.prog Tryz.f4 (OpenSpec.ofChange Rows.regstoreNilSpec) false w args)
      (Rows.regstoreNilSpec.post enc Tryz.prog Tryz.f4 false true false false) := by
  refine returnsInHanded_of_change_and (C := Tryz.checked) (X := fun w _ => laidMetH Tryz.prog Rows.regstoreNilRow.laid w) (fun _ _ _ hh h => h.of_heap hh) own started (by kernel_rfl) Tryz.func4
    (ChangeSpec.witness_shaped (enc := enc) (C := Tryz.checked) (os := os) (X := fun w _ => laidMetH Tryz.prog Rows.regstoreNilRow.laid w) false (World.laidAll Tryz.prog os Rows.regstoreNilRow.laid) #[.agg #[.string ⟨#[]⟩, .string ⟨#[]⟩, .string ⟨#[]⟩, .string ⟨#[]⟩, .string ⟨#[]⟩], .int .i64 0] 8 (World.laidAll_os _ _ _)
      (World.shaped_of_ZipB (by kernel_rfl) (by kernel_rfl)) (by kernel_rfl) (by kernel_rfl) (by kernel_rfl)
      (by rw [MakeChecks.laidMetH_plain _ _ _ (by kernel_rfl)]; exact laidMet_laidAll _ (by kernel_rfl) (by kernel_rfl))) ?_
  intro W base args ds gs before hval hW _ _ _ _
  exact contract H enc W base args ds gs before hval hW

theorem said : Rows.RegstoreNilSaid :=
  OpenClaim.holds_of_wide 4 Tryz.f4 rfl rfl rfl rfl rfl rfl rfl ⟨rfl, rfl, rfl, rfl, rfl⟩ rfl rfl rfl rfl rfl (by kernel_rfl) Tryz.func4 (by kernel_rfl)
    (of_decide_eq_true (by kernel_rfl)) (by unfold Func.isWrapper; first | (rw [if_pos (by decide +kernel)]; kernel_rfl) | (rw [if_neg (by decide +kernel)]; exact ⟨rfl, rfl⟩))
    (fun os started H enc _ => lifted os started H enc)

theorem plain (f : FuncId) (fn : Func) (hf : Tryz.pinned.checked.prog.funcNamed "wharf/wharflaw22.RegstoreNil" = some f) (hfn : Tryz.pinned.checked.prog.funcs[f]? = some fn) :
    false = Tryz.pinned.checked.prog.looks [] ∧ ∀ (j : Nat) t, fn.params[j]? = some t → Tryz.pinned.checked.prog.wantsStandIn t = false := by
  obtain rfl : f = 4 := Option.some.inj ((show Tryz.prog.funcNamed "wharf/wharflaw22.RegstoreNil" = some 4 by kernel_rfl).symm.trans hf) |>.symm
  obtain rfl : fn = Tryz.f4 := (Option.some.inj (Tryz.func4.symm.trans hfn)).symm
  refine ⟨by kernel_rfl, fun j t ht => ?_⟩
  rw [Tryz.params4] at ht
  have hm : t ∈ [39, 3] := by simpa using Array.mem_of_getElem? ht
  have hall : ([39, 3].all fun u => !Tryz.prog.wantsStandIn u) = true := by kernel_rfl
  exact (show Tryz.prog.wantsStandIn t = false by simpa using List.all_eq_true.1 hall t hm)

theorem card : Rows.RegstoreNilCardSaid :=
  Claim7.holds_tied_plain_at .later [] _ _ _ _ said (fun _ h => by cases h) (by kernel_rfl) (fun _ h => by cases h) regstoreNil_row_tie rfl ⟨rfl, rfl⟩ (by kernel_rfl) rfl plain (by kernel_rfl)
#print axioms card
end Go.Proofs.YtampemlkcngogaaGreatDoor
