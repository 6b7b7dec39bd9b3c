/- ConsoleNil: the law's call answers true, where the two variables of Go's library hold what they are made with. -/
import Derived.Test.YtlfljoeafpimpaaGreatDoorRvn
namespace Go.Proofs.YtlfljoeafpimpaaGreatDoor
open Go.RowKit

theorem snd_all (call : CallE) (hc : CallOk Tryz.prog call) : Snd Tryz.prog TyL call := snd tyOk hc
theorem law_loops {B : Nat → Prop} {w0 : World} (c : Code) (hc : (Tryz.f3).body = some c) : LoopsA (fun x => CodeOk Tryz.prog B w0 (.loop x) (fillG 120)) c := by
  unfold Tryz.f3 at hc
  injection hc with hc
  subst hc
  have key : ∀ x : Code, FillB x 24 5 3 (.int .u8 (.ofNat 120)) → CodeOk Tryz.prog B w0 (.loop x) (fillG 120) := fun x hx =>
    fillG_ok (P := Tryz.prog) (Ty := TyL) (call := runK) (el := 5) snd_all runK_ok follows hx (by kernel_rfl) (by kernel_rfl) (by kernel_rfl)
  simp only [LoopsA, and_true, true_and]
  exact key _ ⟨⟨_, _, _, _, _, _, _, _, _, _, _, _, _, _, rfl, ⟨rfl, rfl, rfl⟩, ⟨rfl, rfl, rfl⟩, ⟨rfl, rfl, rfl⟩, ⟨rfl, rfl, rfl⟩, ⟨rfl, rfl, rfl⟩, ⟨rfl, rfl, rfl⟩, ⟨rfl, rfl, rfl⟩, ⟨rfl, rfl, rfl⟩, ⟨rfl, rfl, rfl⟩, ⟨rfl, rfl, rfl⟩, ⟨rfl, rfl, rfl⟩⟩⟩
theorem consoleNil_calls (w : World) (hw : EnvW w) : Calls Tryz.prog 3 #[] w fun en w' => en = .returned (.bool true) ∧ Below w.heap.size w w' := by
  obtain ⟨h', hv⟩ := okR_some law_run
  have hC := runF_run (P := Tryz.prog) (B := fun _ => False) (w0 := w) tyOk (snd tyOk runK_ok) runK_ok follows dnoOk Tryz.func3 law_loops (xs := []) (rep0 w hw e0) trivial hv
  refine Calls.mono hC fun en w' hg => ?_
  cases en with
  | returned u =>
    obtain ⟨e', _, r', _, _, rfl⟩ := hg
    exact ⟨rfl, r'.below.toBelow⟩
  | panicked c => exact hg.elim
  | outgrown => exact hg.elim
end Go.Proofs.YtlfljoeafpimpaaGreatDoor
