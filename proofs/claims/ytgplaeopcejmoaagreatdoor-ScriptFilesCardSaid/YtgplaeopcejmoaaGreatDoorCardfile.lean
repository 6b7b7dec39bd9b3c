/-
  What is proved: for every argument the law ScriptFiles returns true and leaves its arguments as they were.
  Conditions: none beyond the card's own (the listed variables hold what the program's text lays into them).
-/
import Derived.Test.YtgplaeopcejmoaaGreatDoorSeat
import Derived.Test.YtgplaeopcejmoaaGreatDoorOpenscr
import Derived.Test.YtgplaeopcejmoaaGreatDoorFiles
import Derived.Test.YtgplaeopcejmoaaGreatDoorReftext
namespace Go.Proofs.YtgplaeopcejmoaaGreatDoor
open Go.RowKit
theorem lawFilesD (w : World) (u : Value) (text : ByteArray) (z : ArgScr w u) (_ : text.size ≤ 9223372036854775807) (henv : Env w) : Calls Tryz.prog 8 #[u, .string text] w fun e w' => e = .returned (.bool true) ∧ Below w.heap.size w w' :=
  lawFilesC (fun s hm ok few pa pc w hA hE => reftext_any s hm ok few pa pc w hA hE) w u text z henv
end Go.Proofs.YtgplaeopcejmoaaGreatDoor
namespace Go.Proofs.YtgplaeopcejmoaaGreatDoor.lawScriptFiles
open Go.ChangeShapes Go.WideShapes Go.ChangeAt Go.RowKit

set_option maxRecDepth 100000 in
theorem lifted (os : Os) (started : os.Started) (H : Type) (enc : TypeId × Value → H) :
    ReturnsInHanded {} Tryz.checked os 8 .any (fun w args => (Rows.scriptFilesSpec.pre enc Tryz.prog Tryz.f8 Rows.scriptFilesRow.domain false w args ∧ laidMetH Tryz.prog lv w) ∧ sizedMet enc Tryz.prog Tryz.f8 (OpenSpec.ofChange Rows.scriptFilesSpec) false w args)
      (Rows.scriptFilesSpec.post enc Tryz.prog Tryz.f8 false true false false) := by
  refine wrapped (C := Tryz.checked) (X := fun w _ => laidMetH Tryz.prog lv w) (fun _ _ _ hh h => h.of_heap hh) own started (by kernel_rfl) Tryz.func8
    (ChangeSpec.witness_shaped (enc := enc) (C := Tryz.checked) (os := os) (X := fun w _ => laidMetH Tryz.prog lv w) false (startW os) #[.agg #[.int .i64 0, .int .i64 0, .int .i64 0, .int .i64 0, .int .i64 0, .slice none 0 0], .string ⟨#[]⟩] 8 (World.laidAll_os _ _ _) (World.shaped_of_ZipB (by kernel_rfl) (by kernel_rfl)) (by kernel_rfl) (by kernel_rfl) (by kernel_rfl) (start_met os _)) ?_
  intro W base args ds gs before hval0 hW hL hsh
  have hval : ∀ (j : Nat) t v, Tryz.f8.params[j]? = some t → args[j]? = some v → Value.okWide Tryz.prog W .any base t v := hval0
  have hW' := hW
  obtain ⟨p, q, hA0, hV, rfl, hfz, hnd⟩ := hW
  have hA : DataW.TrodAll enc Tryz.prog W 0 (fun _ => true) true Tryz.f8.params.toList args.toList ds p := hA0
  rw [Tryz.params8] at hA hval
  obtain ⟨v0, vs0, d0, ds0, p0, q0, hargs, rfl, rfl, h0, r0⟩ := trodAll_cons hA
  obtain ⟨v1, vs1, d1, ds1, p1, q1, rfl, rfl, rfl, h1, r1⟩ := trodAll_cons r0
  obtain ⟨rfl, rfl, rfl⟩ := trodAll_nil r1
  obtain rfl : args = #[v0, v1] := by cases args; simp_all
  obtain ⟨rfl, rfl⟩ := trodVars_none hV
  obtain ⟨cs0, rfl, _⟩ := okWide_struct Tryz.underlying63 (hval 0 63 v0 rfl rfl)
  have z0 : ArgScr W (.agg cs0) := by
    obtain ⟨m, hm⟩ := h0
    obtain ⟨a, pa, pc, e, ok, hP⟩ := open_script hm
    exact ⟨a, pa, pc, by rw [← e]; simp [Value.cells], ok, hP⟩
  obtain ⟨s1, rfl⟩ := okWide_string Tryz.underlying9 (hval 1 9 v1 rfl rfl)
  have k0 := h0
  have lt0 : ∀ x ∈ p0, x.block < W.heap.size := by obtain ⟨m, hm⟩ := k0; exact DataW.trod_lt m _ _ _ hm
  have k1 := h1
  have lt1 : ∀ x ∈ p1, x.block < W.heap.size := by obtain ⟨m, hm⟩ := k1; exact DataW.trod_lt m _ _ _ hm
  have z1 : s1.size ≤ 9223372036854775807 := by
    obtain ⟨m, hm⟩ := h1
    obtain ⟨s', hc, _, hz⟩ := DataW.trod_string Tryz.underlying9 hm
    have e : s1 = s' := by simpa [Value.cells] using hc
    subst e
    unfold maxLen at hz
    omega
  clear hA0 hval0
  refine (lawFilesD W (.agg cs0) s1 z0 z1 (env_of hL hsh)).mono fun e W' ⟨he, bel⟩ => ?_
  subst he
  exact ⟨_, rfl, _, _, _, [], _, [], hW', trodAll_mk1 (shut_bool Tryz.underlying4 _),
    (trodAll_cons_mk (Below.trod laidOut (by kernel_rfl) (of_decide_eq_true (by kernel_rfl)) k0 bel lt0) (trodAll_cons_mk (Below.trod laidOut (by kernel_rfl) (of_decide_eq_true (by kernel_rfl)) k1 bel lt1) trodAll_mk0)), rfl, bel.frame _, fun h => by cases h⟩

theorem over : Rows.ScriptFilesSaid :=
  OpenClaim.holds_of_wide 8 Tryz.f8 rfl rfl rfl rfl rfl rfl rfl ⟨rfl, rfl, rfl, rfl, rfl⟩ rfl rfl rfl rfl rfl (by kernel_rfl) Tryz.func8 (by kernel_rfl)
    (of_decide_eq_true (by kernel_rfl)) (by unfold Func.isWrapper; first | (rw [if_pos (by decide +kernel)]; kernel_rfl) | (rw [if_neg (by decide +kernel)]; exact ⟨rfl, rfl⟩))
    (fun os started H enc _ => lifted os started H enc)

theorem proved : Rows.ScriptFilesCardSaid :=
  Claim7.holds_tied_plain_at .later [] [.data, .data, .data, .data, .sentinel, .sentinel, .pinned] true _ true
    over (fun _ h => by cases h) (by kernel_rfl) (fun _ h => by cases h) scriptFiles_row_tie rfl ⟨rfl, rfl⟩ (by kernel_rfl) rfl
    (fun f fn hf hfn => by
      obtain rfl : f = 8 := Option.some.inj ((show Tryz.prog.funcNamed "understudy/understudylaw27.ScriptFiles" = some 8 by kernel_rfl).symm.trans hf) |>.symm
      obtain rfl : fn = Tryz.f8 := (Option.some.inj (Tryz.func8.symm.trans hfn)).symm
      exact ⟨by kernel_rfl, fun j t ht => by
        rw [Tryz.params8] at ht
        have hm : t ∈ [63, 9] := by simpa using Array.mem_of_getElem? ht
        have hall : ([63, 9].all fun u => !Tryz.prog.wantsStandIn u) = true := by kernel_rfl
        exact (show Tryz.prog.wantsStandIn t = false by simpa using List.all_eq_true.1 hall t hm)⟩)
    (by kernel_rfl)
#print axioms proved
end Go.Proofs.YtgplaeopcejmoaaGreatDoor.lawScriptFiles
