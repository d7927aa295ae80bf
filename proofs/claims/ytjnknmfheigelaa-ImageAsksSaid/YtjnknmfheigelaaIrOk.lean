/- The ideal code is what the translation gives. No condition. -/
import Derived.Test.YtjnknmfheigelaaChecked
import Derived.Test.YtjnknmfheigelaaIr
import Derived.KernelRfl
namespace Go.Proofs.Ytjnknmfheigelaa
open Im Im.Seat

noncomputable def irE (w0 : Go.World) : Env := { P := Try.prog, fm := fmOf irTab, tm := fun t => t, gm := fun _ => none, w0 }

theorem irOk3 (w0 : Go.World) : trFun (irE w0) Try.f3 = some Ir3 := by kernel_rfl
theorem irOk4 (w0 : Go.World) : trFun (irE w0) Try.f4 = some Ir4 := by kernel_rfl
theorem irOk5 (w0 : Go.World) : trFun (irE w0) Try.f5 = some Ir5 := by kernel_rfl
theorem irOk6 (w0 : Go.World) : trFun (irE w0) Try.f6 = some Ir6 := by kernel_rfl
theorem irOk7 (w0 : Go.World) : trFun (irE w0) Try.f7 = some Ir7 := by kernel_rfl
theorem irOk8 (w0 : Go.World) : trFun (irE w0) Try.f8 = some Ir8 := by kernel_rfl
theorem irOk9 (w0 : Go.World) : trFun (irE w0) Try.f9 = some Ir9 := by kernel_rfl
theorem irOk10 (w0 : Go.World) : trFun (irE w0) Try.f10 = some Ir10 := by kernel_rfl
theorem irOk11 (w0 : Go.World) : trFun (irE w0) Try.f11 = some Ir11 := by kernel_rfl
theorem irOk12 (w0 : Go.World) : trFun (irE w0) Try.f12 = some Ir12 := by kernel_rfl
theorem irOk13 (w0 : Go.World) : trFun (irE w0) Try.f13 = some Ir13 := by kernel_rfl
theorem irOk14 (w0 : Go.World) : trFun (irE w0) Try.f14 = some Ir14 := by kernel_rfl
theorem irOk15 (w0 : Go.World) : trFun (irE w0) Try.f15 = some Ir15 := by kernel_rfl
theorem irOk16 (w0 : Go.World) : trFun (irE w0) Try.f16 = some Ir16 := by kernel_rfl
theorem irOk17 (w0 : Go.World) : trFun (irE w0) Try.f17 = some Ir17 := by kernel_rfl
theorem irOk18 (w0 : Go.World) : trFun (irE w0) Try.f18 = some Ir18 := by kernel_rfl
theorem irOk19 (w0 : Go.World) : trFun (irE w0) Try.f19 = some Ir19 := by kernel_rfl
theorem irOk20 (w0 : Go.World) : trFun (irE w0) Try.f20 = some Ir20 := by kernel_rfl
theorem irOk21 (w0 : Go.World) : trFun (irE w0) Try.f21 = some Ir21 := by kernel_rfl
theorem irOk22 (w0 : Go.World) : trFun (irE w0) Try.f22 = some Ir22 := by kernel_rfl
theorem irOk23 (w0 : Go.World) : trFun (irE w0) Try.f23 = some Ir23 := by kernel_rfl
theorem irOk24 (w0 : Go.World) : trFun (irE w0) Try.f24 = some Ir24 := by kernel_rfl
theorem irOk25 (w0 : Go.World) : trFun (irE w0) Try.f25 = some Ir25 := by kernel_rfl
theorem irOk26 (w0 : Go.World) : trFun (irE w0) Try.f26 = some Ir26 := by kernel_rfl
theorem irOk27 (w0 : Go.World) : trFun (irE w0) Try.f27 = some Ir27 := by kernel_rfl
theorem irOk28 (w0 : Go.World) : trFun (irE w0) Try.f28 = some Ir28 := by kernel_rfl
theorem irOk29 (w0 : Go.World) : trFun (irE w0) Try.f29 = some Ir29 := by kernel_rfl
theorem irOk30 (w0 : Go.World) : trFun (irE w0) Try.f30 = some Ir30 := by kernel_rfl
theorem irOk31 (w0 : Go.World) : trFun (irE w0) Try.f31 = some Ir31 := by kernel_rfl
theorem irOk32 (w0 : Go.World) : trFun (irE w0) Try.f32 = some Ir32 := by kernel_rfl
theorem irOk33 (w0 : Go.World) : trFun (irE w0) Try.f33 = some Ir33 := by kernel_rfl
theorem irOk34 (w0 : Go.World) : trFun (irE w0) Try.f34 = some Ir34 := by kernel_rfl
theorem irOk35 (w0 : Go.World) : trFun (irE w0) Try.f35 = some Ir35 := by kernel_rfl

theorem irOk (w0 : Go.World) : TabOk (irE w0) irTab :=
  ⟨⟨_, Try.func3, by kernel_rfl, irOk3 w0⟩, ⟨⟨_, Try.func4, by kernel_rfl, irOk4 w0⟩, ⟨⟨_, Try.func5, by kernel_rfl, irOk5 w0⟩, ⟨⟨_, Try.func6, by kernel_rfl, irOk6 w0⟩, ⟨⟨_, Try.func7, by kernel_rfl, irOk7 w0⟩, ⟨⟨_, Try.func8, by kernel_rfl, irOk8 w0⟩, ⟨⟨_, Try.func9, by kernel_rfl, irOk9 w0⟩, ⟨⟨_, Try.func10, by kernel_rfl, irOk10 w0⟩, ⟨⟨_, Try.func11, by kernel_rfl, irOk11 w0⟩, ⟨⟨_, Try.func12, by kernel_rfl, irOk12 w0⟩, ⟨⟨_, Try.func13, by kernel_rfl, irOk13 w0⟩, ⟨⟨_, Try.func14, by kernel_rfl, irOk14 w0⟩, ⟨⟨_, Try.func15, by kernel_rfl, irOk15 w0⟩, ⟨⟨_, Try.func16, by kernel_rfl, irOk16 w0⟩, ⟨⟨_, Try.func17, by kernel_rfl, irOk17 w0⟩, ⟨⟨_, Try.func18, by kernel_rfl, irOk18 w0⟩, ⟨⟨_, Try.func19, by kernel_rfl, irOk19 w0⟩, ⟨⟨_, Try.func20, by kernel_rfl, irOk20 w0⟩, ⟨⟨_, Try.func21, by kernel_rfl, irOk21 w0⟩, ⟨⟨_, Try.func22, by kernel_rfl, irOk22 w0⟩, ⟨⟨_, Try.func23, by kernel_rfl, irOk23 w0⟩, ⟨⟨_, Try.func24, by kernel_rfl, irOk24 w0⟩, ⟨⟨_, Try.func25, by kernel_rfl, irOk25 w0⟩, ⟨⟨_, Try.func26, by kernel_rfl, irOk26 w0⟩, ⟨⟨_, Try.func27, by kernel_rfl, irOk27 w0⟩, ⟨⟨_, Try.func28, by kernel_rfl, irOk28 w0⟩, ⟨⟨_, Try.func29, by kernel_rfl, irOk29 w0⟩, ⟨⟨_, Try.func30, by kernel_rfl, irOk30 w0⟩, ⟨⟨_, Try.func31, by kernel_rfl, irOk31 w0⟩, ⟨⟨_, Try.func32, by kernel_rfl, irOk32 w0⟩, ⟨⟨_, Try.func33, by kernel_rfl, irOk33 w0⟩, ⟨⟨_, Try.func34, by kernel_rfl, irOk34 w0⟩, ⟨⟨_, Try.func35, by kernel_rfl, irOk35 w0⟩, trivial⟩⟩⟩⟩⟩⟩⟩⟩⟩⟩⟩⟩⟩⟩⟩⟩⟩⟩⟩⟩⟩⟩⟩⟩⟩⟩⟩⟩⟩⟩⟩⟩⟩

end Go.Proofs.Ytjnknmfheigelaa
