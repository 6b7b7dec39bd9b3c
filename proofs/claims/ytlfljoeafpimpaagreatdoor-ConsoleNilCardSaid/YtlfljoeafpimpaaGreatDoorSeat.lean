/- What the listed variables give the run; a world that meets the condition. -/
import Derived.Test.YtlfljoeafpimpaaGreatDoorChecked
import Derived.Test.YtlfljoeafpimpaaGreatDoorEvc
import Derived.Test.YtlfljoeafpimpaaGreatDoorCards
import Derived.Test.YtlfljoeafpimpaaGreatDoorTiec
import Derived.SevenTiedAt
import Derived.ProofKit
import Derived.LaidMore
import Derived.OpenShut
import Derived.Stop.Joined
import Derived.Stop.LaidErr
import Derived.Lib.LaidTab
import Derived.Lay
import Derived.ChangeOld
namespace Go.Proofs.YtlfljoeafpimpaaGreatDoor
open Go.ChangeShapes Go.WideShapes Go.ChangeAt Go.RowKit

theorem own : ownKnob Tryz.prog.godebug = none := by kernel_rfl
def lv : List (String × DataW Unit) := Rows.consoleNilRow.laid
theorem gTab : Tryz.prog.globalNamed "internal/strconv.uint64pow10" = some 1 := by kernel_rfl
theorem gTabT : (Tryz.prog.globals[1]?).map (·.type) = some 256 := by kernel_rfl
theorem gSyn : Tryz.prog.globalNamed "strconv.ErrSyntax" = some 2 := by kernel_rfl
theorem gSynT : (Tryz.prog.globals[2]?).map (·.type) = some 47 := by kernel_rfl
theorem cU : Tryz.prog.cellsOf 78 = 1 := by kernel_rfl
theorem cT : Tryz.prog.cellsOf 256 = 20 := by kernel_rfl
theorem tab_of {W : World} {rest : List (String × DataW Unit)} (h : laidMet Tryz.prog (("internal/strconv.uint64pow10", Lib.tabData .u64 Lib.pow10Tab) :: rest) W) : Lib.TabIs Tryz.prog W "internal/strconv.uint64pow10" .u64 Lib.pow10Tab :=
  Lib.tabIs_of_head gTab gTabT Tryz.underlying256 Tryz.underlying78 cU cT h
theorem syn_of {W : World} {nm : String} {d : DataW Unit} {rest : List (String × DataW Unit)} (h : laidMet Tryz.prog (("strconv.ErrSyntax", .iface nm d) :: rest) W) : ∃ u p, W.var? Tryz.prog "strconv.ErrSyntax" = some #[.iface u p] := by
  obtain ⟨ps, ⟨g0, t0, cs0, f0, p0, q0, hg0, ht0, hv0, hd0, _, e0⟩, _, hrows⟩ := h
  obtain rfl := Option.some.inj (gSyn.symm.trans hg0)
  obtain rfl := Option.some.inj (gSynT.symm.trans ht0)
  obtain ⟨l0⟩ := cs0
  obtain ⟨f1, u, v, e1, _, _⟩ := iface_of_trod Tryz.underlying47 hd0
  replace e1 : l0 = [.iface u v] := e1
  subst e1
  exact ⟨u, v, hv0⟩
theorem var_block {W : World} {P : Program} {n : String} {g : Nat} {cs : Array Value} (hg : P.globalNamed n = some g) (h : W.var? P n = some cs) : g < W.heap.size ∧ ∃ t fr, W.heap[g]? = some (.cells cs t fr) := by
  unfold World.var? at h
  rw [hg] at h
  simp only [Option.bind_some] at h
  split at h
  · rename_i cs' t fr hb
    injection h with h; subst h
    exact ⟨(Array.getElem?_eq_some_iff.1 hb).1, t, fr, hb⟩
  · cases h
/-- what the listed variables give the run -/
theorem env_of {W : World} (h : laidMetH Tryz.prog lv W) : EnvW W := by
  rw [MakeChecks.laidMetH_plain _ _ _ (by kernel_rfl)] at h
  have h1 : Lib.TabIs Tryz.prog W "internal/strconv.uint64pow10" .u64 Lib.pow10Tab := by
    first
    | exact tab_of h
    | exact tab_of h.tail
    | exact tab_of h.tail.tail
    | exact tab_of h.tail.tail.tail
    | exact tab_of h.tail.tail.tail.tail
    | exact tab_of h.tail.tail.tail.tail.tail
    | exact tab_of h.tail.tail.tail.tail.tail.tail
    | exact tab_of h.tail.tail.tail.tail.tail.tail.tail
  have h2 : ∃ u p, W.var? Tryz.prog "strconv.ErrSyntax" = some #[.iface u p] := by
    first
    | exact syn_of h
    | exact syn_of h.tail
    | exact syn_of h.tail.tail
    | exact syn_of h.tail.tail.tail
    | exact syn_of h.tail.tail.tail.tail
    | exact syn_of h.tail.tail.tail.tail.tail
    | exact syn_of h.tail.tail.tail.tail.tail.tail
    | exact syn_of h.tail.tail.tail.tail.tail.tail.tail
  obtain ⟨u, p, h2⟩ := h2
  intro g hg
  obtain ⟨k1, t1, f1, b1⟩ := var_block gTab h1
  obtain ⟨k2, t2, f2, b2⟩ := var_block gSyn h2
  rcases hg with rfl | rfl
  · exact ⟨k1, ⟨fun _ => ⟨t1, f1, b1⟩, fun he => absurd he (by decide)⟩⟩
  · exact ⟨k2, ⟨fun he => absurd he (by decide), fun _ => ⟨_, p, t2, f2, b2⟩⟩⟩
/-- a world that meets the condition -/
noncomputable def startW (os : Os) : World := World.laidAll Tryz.prog os lv
theorem start_met (os : Os) (args : Array Value) : laidMetH Tryz.prog lv ((startW os).forCall (fun _ _ => 0) ⟨#[], args, []⟩).memory := by
  rw [MakeChecks.laidMetH_plain _ _ _ (by kernel_rfl)]
  exact laidMet_laidAll args (by kernel_rfl) (by kernel_rfl)

/-- the wrap that keeps the world's shape beside a condition -/
theorem wrapped {H : Type} {enc : TypeId × Value → H} {a : Assume} {C : Checked} {os : Os} {f : FuncId} {fn : Func} {s : ChangeSpec} {conds : List PathCond} {apart fresh handsOn again : Bool} {X : World → Array Value → Prop}
    (hX : ∀ (w w' : World) (args : Array Value), w.heap = w'.heap → X w args → X w' args)
    (hown : ownKnob C.prog.godebug = none) (started : os.Started) (noInit : C.prog.inits.idxOf? f = none) (hfn : C.prog.funcs[f]? = some fn)
    (witness : ∃ (w : World) (tape : Tape) (i : Input), w.os = os ∧ (w.forCall tape i).Shaped C.prog ∧ i.vars = [] ∧ Input.okWide C.prog (w.forCall tape i) .any w.heap.size f i ∧
      ((s.pre enc C.prog fn conds apart (w.forCall tape i).memory i.args ∧ X (w.forCall tape i).memory i.args) ∧ sizedMet enc C.prog fn (OpenSpec.ofChange s) apart (w.forCall tape i).memory i.args) ∧ a.holds C.prog (lone (Frame.enter C.prog f i.args .normal) [] (w.forCall tape i)))
    (contract : ∀ (W : World) (base : Nat) (args : Array Value) (ds gs : List (DataW H)) (before : List MemPlace),
      (∀ (j : Nat) t v, fn.params[j]? = some t → args[j]? = some v → Value.okWide C.prog W .any base t v) →
      DataW.Whole enc C.prog fn.params.toList s.vars apart W args.toList ds gs before →
      X W args → W.ShapedOpen C.prog →
      Calls C.prog f args W fun e W' => ∃ v, e = .returned v ∧ s.post enc C.prog fn apart fresh handsOn again W args v W') :
    ReturnsInHanded a C os f .any (fun w args => (s.pre enc C.prog fn conds apart w args ∧ X w args) ∧ sizedMet enc C.prog fn (OpenSpec.ofChange s) apart w args) (s.post enc C.prog fn apart fresh handsOn again) := by
  refine returnsInHanded_of_calls hown started noInit witness ?_
  intro w tape i _ hsh _ hok hpre _
  obtain ⟨_, _, _, fn', hfn', _, _, _, _, hval⟩ := hok
  have e : fn' = fn := Option.some.inj (hfn'.symm.trans hfn)
  subst e
  obtain ⟨⟨⟨ds, gs, before, hw, _⟩, hx⟩, _⟩ := hpre
  refine (contract (w.forCall tape i) w.heap.size i.args ds gs before hval (DataW.Whole.of_heap (w' := w.forCall tape i) (by rfl) hw) (hX _ _ _ (by rfl) hx) hsh).mono fun e W' ⟨v, he, hp⟩ => ?_
  subst he
  exact ChangeSpec.post_blind hp
/-- where no function of the program starts a goroutine, no call of it does (the closure need not be reckoned) -/
theorem goes_false {P : Program} {c : OpenClaim} (h : P.funcs.toList.any Func.goes = false) (hs : c.start = .entering) : false = c.goesBy P := by
  have hf : ∀ g : FuncId, (P.funcs[g]?).any Func.goes = false := fun g => by
    cases hg : P.funcs[g]? with
    | none => rfl
    | some fn =>
      rw [← Array.getElem?_toList] at hg
      have := List.any_eq_false.1 h fn (List.mem_of_getElem? hg)
      simpa using this
  have hall : ∀ f, P.goes f = false := fun f => by
    unfold Program.goes
    have h1 : ((P.closure f).any fun g => (P.funcs[g]?).any Func.goes) = false := by
      rw [List.any_eq_false]
      intro g _
      rw [hf g]; simp
    have h2 : P.funcs.any Func.goes = false := by
      rw [← Array.any_toList]; exact h
    rw [h1, h2, Bool.and_false]; rfl
  unfold OpenClaim.goesBy Program.goesAt Program.goesFrom
  rw [hs]
  cases P.funcNamed c.func with
  | none => rfl
  | some f => simp [hall f]
end Go.Proofs.YtlfljoeafpimpaaGreatDoor
