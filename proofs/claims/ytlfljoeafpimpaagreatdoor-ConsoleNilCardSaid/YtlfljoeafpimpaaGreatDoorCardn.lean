/-
  What is proved: for every argument the law ConsoleNil returns true and leaves its arguments as they were.
  Conditions: none beyond the card's own (the listed variables hold what the program's text lays into them).
-/
import Derived.Test.YtlfljoeafpimpaaGreatDoorFacts
import Derived.Test.YtlfljoeafpimpaaGreatDoorLaw
namespace Go.Proofs.YtlfljoeafpimpaaGreatDoor.lawConsoleNil
open Go.ChangeShapes Go.WideShapes Go.ChangeAt Go.RowKit

set_option maxRecDepth 100000 in
theorem lifted (os : Os) (started : os.Started) (H : Type) (enc : TypeId × Value → H) :
    ReturnsInHanded {} Tryz.checked os 3 .any (fun w args => (Rows.consoleNilSpec.pre enc Tryz.prog Tryz.f3 Rows.consoleNilRow.domain false w args ∧ laidMetH Tryz.prog lv w) ∧ sizedMet enc Tryz.prog Tryz.f3 (OpenSpec.ofChange Rows.consoleNilSpec) false w args)
      (Rows.consoleNilSpec.post enc Tryz.prog Tryz.f3 false true false false) := by
  refine wrapped (C := Tryz.checked) (X := fun w _ => laidMetH Tryz.prog lv w) (fun _ _ _ hh h => h.of_heap hh) own started (by kernel_rfl) Tryz.func3
    (ChangeSpec.witness_shaped (enc := enc) (C := Tryz.checked) (os := os) (X := fun w _ => laidMetH Tryz.prog lv w) false (startW os) #[] 8 (World.laidAll_os _ _ _) (World.shaped_of_ZipB (by kernel_rfl) (by kernel_rfl)) (by kernel_rfl) (by kernel_rfl) (by kernel_rfl) (start_met os _)) ?_
  intro W base args ds gs before hval0 hW hL hsh
  have hval : ∀ (j : Nat) t v, Tryz.f3.params[j]? = some t → args[j]? = some v → Value.okWide Tryz.prog W .any base t v := hval0
  have hW' := hW
  obtain ⟨p, q, hA0, hV, rfl, hfz, hnd⟩ := hW
  have hA : DataW.TrodAll enc Tryz.prog W 0 (fun _ => true) true Tryz.f3.params.toList args.toList ds p := hA0
  rw [Tryz.params3] at hA hval
  obtain ⟨hargs, rfl, rfl⟩ := trodAll_nil hA
  obtain rfl : args = #[] := by cases args; simp_all
  obtain ⟨rfl, rfl⟩ := trodVars_none hV
  clear hA0 hval0
  refine (consoleNil_calls W (env_of hL)).mono fun e W' ⟨he, bel⟩ => ?_
  subst he
  exact ⟨_, rfl, _, _, _, [], _, [], hW', trodAll_mk1 (shut_bool Tryz.underlying4 _),
    trodAll_mk0, rfl, bel.frame _, fun h => by cases h⟩

theorem over : Rows.ConsoleNilSaid :=
  OpenClaim.holds_of_wide 3 Tryz.f3 rfl rfl rfl rfl rfl rfl rfl ⟨rfl, rfl, rfl, rfl, rfl⟩ rfl rfl rfl rfl rfl Clo.law_named Tryz.func3 facts
    (of_decide_eq_true (by as_aux_lemma => kernel_rfl)) (by unfold Func.isWrapper; first | (rw [if_pos (by decide +kernel)]; kernel_rfl) | (rw [if_neg (by decide +kernel)]; exact ⟨rfl, rfl⟩))
    (fun os started H enc _ => lifted os started H enc)

theorem c_named : Tryz.prog.funcNamed "understudy/understudylaw28.ConsoleNil" = some 3 := Clo.law_named
theorem c_looks : true = Tryz.pinned.checked.prog.looks [] := by kernel_rfl
theorem c_goes : Tryz.prog.funcs.toList.any Func.goes = false := by kernel_rfl
theorem c_fn (f : FuncId) (fn : Func) (hf : Tryz.pinned.checked.prog.funcNamed "understudy/understudylaw28.ConsoleNil" = some f) (hfn : Tryz.pinned.checked.prog.funcs[f]? = some fn) :
    true = Tryz.pinned.checked.prog.looks [] ∧ ∀ (j : Nat) t, fn.params[j]? = some t → Tryz.pinned.checked.prog.wantsStandIn t = false := by
  have e1 : f = 3 := (Option.some.inj (c_named.symm.trans hf)).symm
  subst e1
  have e2 : fn = Tryz.f3 := (Option.some.inj (Tryz.func3.symm.trans hfn)).symm
  subst e2
  refine ⟨c_looks, fun j t ht => ?_⟩
  rw [Tryz.params3] at ht
  simp at ht
set_option maxRecDepth 100000 in
set_option maxHeartbeats 100000000 in
theorem proved : Rows.ConsoleNilCardSaid :=
  Claim7.holds_tied_plain_at .later [] [.data, .data, .data, .data, .sentinel, .sentinel, .pinned] true _ true
    over (fun _ h => by cases h) (by as_aux_lemma => kernel_rfl) (fun _ h => by cases h) consoleNil_row_tie rfl ⟨rfl, rfl⟩ (by as_aux_lemma => kernel_rfl) rfl
    c_fn (goes_false c_goes rfl)
#print axioms proved
end Go.Proofs.YtlfljoeafpimpaaGreatDoor.lawConsoleNil
