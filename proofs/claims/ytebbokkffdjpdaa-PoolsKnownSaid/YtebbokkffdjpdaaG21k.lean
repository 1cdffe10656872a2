/- The law PoolsKnown says true. No conditions. -/
import Derived.Test.YtebbokkffdjpdaaG21e
import Derived.Test.YtebbokkffdjpdaaC21h
namespace Go.Proofs.Ytebbokkffdjpdaa
open Go.ChangeShapes Go.WideShapes Go.ChangeAt Go.RowKit Go.Pav Go.Pw P21

theorem core4 (vs : List AV) (h : TyAll [] vs) : FnW prog 4 vs = some (.bool true) := by
  match vs, h with
  | [], _ => exact Go.C21.known_ok has_ (by rfl) lives_

theorem args6 : Try.f6.params.toList.map (argT Try.prog) = ([] : List AT).map some := by kernel_rfl

set_option maxRecDepth 100000 in
theorem lifted6 (os : Os) (started : os.Started) (H : Type) (enc : TypeId × Value → H) :
    ReturnsInHanded {} Try.checked os 6 .any (Rows.poolsKnownSpec.pre6 enc Try.prog Try.f6 Rows.poolsKnownRow.domain false) (Rows.poolsKnownSpec.post enc Try.prog Try.f6 false true false false) := by
  refine returnsInHanded_of_change (C := Try.checked) own_ started (by kernel_rfl) Try.func6
    (ChangeSpec.witness6 (enc := enc) (C := Try.checked) false ⟨#[], #[], []⟩ 8 (by kernel_rfl) (by kernel_rfl) (by kernel_rfl) (by kernel_rfl)) ?_
  intro W base args ds gs before hval hW hcnd _
  have hW' := hW
  obtain ⟨p, q, hA, hV, rfl, hfz, hnd⟩ := hW
  obtain ⟨rfl, rfl⟩ := trodVars_none hV
  have hlen : ds.length = 0 := (trodAll_len hA).trans (by kernel_rfl)
  refine (law_calls (enc := enc) link okT (f := 4) args6 core4 (fun j t v e1 e2 => hval j t v (by simp at e1) e2) hA).mono ?_
  rintro e W' ⟨rfl, h1, h2, h3, h4⟩
  refine ⟨_, rfl, law_post kids_ full_ rfl hW' ?_ (of_decide_eq_true (by kernel_rfl)) rfl (by kernel_rfl) h1 h2 h3 h4⟩
  match ds, hlen with
  | [], _ => rfl

theorem poolsKnown_holds : Rows.PoolsKnownSaid :=
  OpenClaim.holds_of_wide 6 Try.f6 rfl rfl rfl rfl rfl rfl rfl ⟨rfl, rfl, rfl, rfl, rfl⟩ rfl rfl rfl rfl rfl (by kernel_rfl) Try.func6 (by kernel_rfl)
    (of_decide_eq_true (by kernel_rfl)) (by unfold Func.isWrapper; first | (rw [if_pos (by decide +kernel)]; kernel_rfl) | (rw [if_neg (by decide +kernel)]; exact ⟨rfl, rfl⟩))
    (fun os started H enc _ => lifted6 os started H enc)

#print axioms poolsKnown_holds
end Go.Proofs.Ytebbokkffdjpdaa
