/- Part of the theory that the claims of this work use: L21. No conditions of its own. -/
import Derived.Test.YtebbokkffdjpdaaPwP21
import Derived.Test.YtebbokkffdjpdaaPavLink
import Derived.Test.YtebbokkffdjpdaaPwCode
import Derived.Test.YtebbokkffdjpdaaChecked
import Derived.KernelRfl
set_option maxRecDepth 100000
namespace P21
open Go Go.Pav Go.Pw Go.Proofs

theorem l0 : FnOk Try.prog ids 0 (erFn w0) := ⟨Try.f2, Try.func2, by kernel_rfl⟩
theorem l1 : FnOk Try.prog ids 1 (erFn w1) := ⟨Try.f3, Try.func3, by kernel_rfl⟩
theorem l2 : FnOk Try.prog ids 2 (erFn w2) := ⟨Try.f4, Try.func4, by kernel_rfl⟩
theorem l3 : FnOk Try.prog ids 3 (erFn w3) := ⟨Try.f5, Try.func5, by kernel_rfl⟩
theorem l4 : FnOk Try.prog ids 4 (erFn w4) := ⟨Try.f6, Try.func6, by kernel_rfl⟩
theorem l5 : FnOk Try.prog ids 5 (erFn w5) := ⟨Try.f7, Try.func7, by kernel_rfl⟩
theorem l6 : FnOk Try.prog ids 6 (erFn w6) := ⟨Try.f8, Try.func8, by kernel_rfl⟩
theorem l7 : FnOk Try.prog ids 7 (erFn w7) := ⟨Try.f9, Try.func9, by kernel_rfl⟩
theorem l8 : FnOk Try.prog ids 8 (erFn w8) := ⟨Try.f10, Try.func10, by kernel_rfl⟩
theorem l9 : FnOk Try.prog ids 9 (erFn w9) := ⟨Try.f11, Try.func11, by kernel_rfl⟩
theorem l10 : FnOk Try.prog ids 10 (erFn w10) := ⟨Try.f12, Try.func12, by kernel_rfl⟩
theorem l11 : FnOk Try.prog ids 11 (erFn w11) := ⟨Try.f13, Try.func13, by kernel_rfl⟩
theorem l12 : FnOk Try.prog ids 12 (erFn w12) := ⟨Try.f14, Try.func14, by kernel_rfl⟩
theorem l13 : FnOk Try.prog ids 13 (erFn w13) := ⟨Try.f15, Try.func15, by kernel_rfl⟩
theorem l14 : FnOk Try.prog ids 14 (erFn w14) := ⟨Try.f16, Try.func16, by kernel_rfl⟩
theorem l15 : FnOk Try.prog ids 15 (erFn w15) := ⟨Try.f17, Try.func17, by kernel_rfl⟩
theorem l16 : FnOk Try.prog ids 16 (erFn w16) := ⟨Try.f18, Try.func18, by kernel_rfl⟩
theorem l17 : FnOk Try.prog ids 17 (erFn w17) := ⟨Try.f19, Try.func19, by kernel_rfl⟩
theorem l18 : FnOk Try.prog ids 18 (erFn w18) := ⟨Try.f20, Try.func20, by kernel_rfl⟩
theorem l19 : FnOk Try.prog ids 19 (erFn w19) := ⟨Try.f21, Try.func21, by kernel_rfl⟩
theorem l20 : FnOk Try.prog ids 20 (erFn w20) := ⟨Try.f22, Try.func22, by kernel_rfl⟩
theorem l21 : FnOk Try.prog ids 21 (erFn w21) := ⟨Try.f23, Try.func23, by kernel_rfl⟩
theorem l22 : FnOk Try.prog ids 22 (erFn w22) := ⟨Try.f24, Try.func24, by kernel_rfl⟩
theorem l23 : FnOk Try.prog ids 23 (erFn w23) := ⟨Try.f25, Try.func25, by kernel_rfl⟩
theorem l24 : FnOk Try.prog ids 24 (erFn w24) := ⟨Try.f26, Try.func26, by kernel_rfl⟩
theorem l25 : FnOk Try.prog ids 25 (erFn w25) := ⟨Try.f27, Try.func27, by kernel_rfl⟩
theorem l26 : FnOk Try.prog ids 26 (erFn w26) := ⟨Try.f28, Try.func28, by kernel_rfl⟩
theorem l27 : FnOk Try.prog ids 27 (erFn w27) := ⟨Try.f29, Try.func29, by kernel_rfl⟩
theorem l28 : FnOk Try.prog ids 28 (erFn w28) := ⟨Try.f30, Try.func30, by kernel_rfl⟩
theorem l29 : FnOk Try.prog ids 29 (erFn w29) := ⟨Try.f31, Try.func31, by kernel_rfl⟩
theorem l30 : FnOk Try.prog ids 30 (erFn w30) := ⟨Try.f32, Try.func32, by kernel_rfl⟩
theorem l31 : FnOk Try.prog ids 31 (erFn w31) := ⟨Try.f33, Try.func33, by kernel_rfl⟩
theorem l32 : FnOk Try.prog ids 32 (erFn w32) := ⟨Try.f34, Try.func34, by kernel_rfl⟩
theorem l33 : FnOk Try.prog ids 33 (erFn w33) := ⟨Try.f35, Try.func35, by kernel_rfl⟩
theorem l34 : FnOk Try.prog ids 34 (erFn w34) := ⟨Try.f36, Try.func36, by kernel_rfl⟩
theorem l35 : FnOk Try.prog ids 35 (erFn w35) := ⟨Try.f37, Try.func37, by kernel_rfl⟩
theorem l36 : FnOk Try.prog ids 36 (erFn w36) := ⟨Try.f38, Try.func38, by kernel_rfl⟩
theorem l37 : FnOk Try.prog ids 37 (erFn w37) := ⟨Try.f39, Try.func39, by kernel_rfl⟩
theorem l38 : FnOk Try.prog ids 38 (erFn w38) := ⟨Try.f40, Try.func40, by kernel_rfl⟩
theorem l39 : FnOk Try.prog ids 39 (erFn w39) := ⟨Try.f41, Try.func41, by kernel_rfl⟩
theorem l40 : FnOk Try.prog ids 40 (erFn w40) := ⟨Try.f42, Try.func42, by kernel_rfl⟩
theorem l41 : FnOk Try.prog ids 41 (erFn w41) := ⟨Try.f43, Try.func43, by kernel_rfl⟩
theorem l42 : FnOk Try.prog ids 42 (erFn w42) := ⟨Try.f44, Try.func44, by kernel_rfl⟩

def prog : WProg := ⟨tree, fun f => decide (f = 35 ∨ f = 42)⟩

theorem all : TreeAll (FnOk Try.prog ids) (erProg prog).fns := ⟨⟨⟨⟨⟨⟨trivial, l0, trivial⟩, l1, trivial⟩, l2, ⟨⟨trivial, l3, trivial⟩, l4, trivial⟩⟩, l5, ⟨⟨⟨trivial, l6, trivial⟩, l7, trivial⟩, l8, ⟨trivial, l9, trivial⟩⟩⟩, l10, ⟨⟨⟨⟨trivial, l11, trivial⟩, l12, trivial⟩, l13, ⟨⟨trivial, l14, trivial⟩, l15, trivial⟩⟩, l16, ⟨⟨⟨trivial, l17, trivial⟩, l18, trivial⟩, l19, ⟨trivial, l20, trivial⟩⟩⟩⟩, l21, ⟨⟨⟨⟨⟨trivial, l22, trivial⟩, l23, trivial⟩, l24, ⟨⟨trivial, l25, trivial⟩, l26, trivial⟩⟩, l27, ⟨⟨⟨trivial, l28, trivial⟩, l29, trivial⟩, l30, ⟨trivial, l31, trivial⟩⟩⟩, l32, ⟨⟨⟨⟨trivial, l33, trivial⟩, l34, trivial⟩, l35, ⟨⟨trivial, l36, trivial⟩, l37, trivial⟩⟩, l38, ⟨⟨⟨trivial, l39, trivial⟩, l40, trivial⟩, l41, ⟨trivial, l42, trivial⟩⟩⟩⟩⟩

theorem okT : okTree prog.fns = true := by kernel_rfl

theorem link : Linked Try.prog (phiOf ids) (psiOf ids) (erProg prog) := linked (by kernel_rfl) all (by kernel_rfl)

end P21
