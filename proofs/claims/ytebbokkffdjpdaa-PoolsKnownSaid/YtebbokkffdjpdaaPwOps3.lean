/- One operation without calls. -/
import Derived.Test.YtebbokkffdjpdaaPwOps2
namespace Go.Pw
open Go Go.Pav

section
variable {ρ : Nat → Nat} {V A : Nat → Prop} {n m : Nat} {h : WHeap} {h' : Heap} {e e' : Env}

theorem elems_vw (H : HW ρ V A h h') {z : Nat} {x x' : AV} (hx : VW ρ V A x x') {xs : List (List AV)} {d : Bool} (he : wElems h z x = some (xs, d)) :
    ∃ xs', elems h' z x' = some xs' ∧ Rel2 (Rel2 (VW ρ V A)) xs xs' ∧ (d = true → ∀ e ∈ xs, ∀ x ∈ e, isC x = true) := by
  cases x with
  | nils => cases hx; simp only [wElems, Option.some.injEq, Prod.mk.injEq] at he; obtain ⟨rfl, rfl⟩ := he; exact ⟨[], rfl, .nil, fun _ e he => by cases he⟩
  | str s =>
    rw [hx.str_inv]
    simp only [wElems] at he
    split at he
    · rename_i hz
      simp only [Option.some.injEq, Prod.mk.injEq] at he
      obtain ⟨rfl, rfl⟩ := he
      refine ⟨s.map fun c => [.int .u8 c.toNat], by simp only [elems, if_pos hz], ?_, ?_⟩
      · exact (Rel2.map (R := Eq) (T := Rel2 (VW ρ V A)) (l := s) (l' := s) ⟨rfl, fun j x x' h1 h2 => by rw [h1] at h2; cases h2; rfl⟩ fun x x' hxx => by subst hxx; exact .cons (.int _ _) .nil)
      · intro _ e he x hx
        simp only [List.mem_map] at he
        obtain ⟨c, _, rfl⟩ := he
        simp at hx; subst hx
        rfl
    · cases he
  | ro z' es ex =>
    simp only [wElems] at he
    split at he
    · rename_i hz
      simp only [Option.some.injEq, Prod.mk.injEq] at he
      obtain ⟨rfl, rfl⟩ := he
      rcases hx.ro_inv with ⟨rfl, rfl⟩ | ⟨es', ex', rfl, _, hr, hc⟩
      · exact ⟨[], rfl, .nil, fun _ e he => by cases he⟩
      · exact ⟨es', by simp only [elems, if_pos hz], hr.mono fun e e' _ h => h.mono fun x x' _ h => h.data, fun _ => hc⟩
    · cases he
  | sl b z' i len cap ex =>
    simp only [wElems] at he
    split at he
    · rename_i hz
      split at he
      · rename_i zb es mu dt hg
        split at he
        · rename_i hl
          simp only [Option.some.injEq, Prod.mk.injEq] at he
          obtain ⟨rfl, rfl⟩ := he
          rcases hx.sl_inv with ⟨hA, hV, ex', rfl, _⟩ | ⟨hA, hV, rfl, rfl, rfl, hv⟩
          · obtain ⟨o', h1, es', mu', rfl, _, hr, hd⟩ := H.obj b _ hg hV
            refine ⟨(es'.drop i).take len, ?_, (hr.drop i).take len, fun q e he x hx => hd q e (List.mem_of_mem_drop (List.mem_of_mem_take he)) x hx⟩
            simp only [elems, if_pos hz, h1, ← hr.1, if_pos hl]
          · obtain ⟨z2, mu2, dt2, q⟩ := H.virt b _ hg hV
            cases q
            refine ⟨[], ?_, by simp only [List.drop_nil, List.take_nil]; exact .nil, fun _ e he => by simp at he⟩
            rcases hv with rfl | rfl
            · rfl
            · simp only [elems, if_pos hz]
        · cases he
      · cases he
    · cases he
  | _ => simp [wElems] at he

theorem newRow_vw (H : HW ρ V A h h') (hn : ¬ A n) (hm : ∀ b, A b → ¬ V b → ρ b ≠ m) {zl k bytes : Nat} {xs xs' : List (List AV)} {d : Bool} {r : AV × WUpd}
    (hr : Rel2 (Rel2 (VW ρ V A)) xs xs') (hd : d = true → ∀ e ∈ xs, ∀ x ∈ e, isC x = true) (he : wNewRow n zl k bytes xs d = some r) :
    ∃ r', Pav.newRow m zl k bytes xs' = some r' ∧ Ok2 ρ V A n m h h' r r' := by
  unfold wNewRow at he
  split at he
  · rename_i hb
    cases he
    have hVn : ¬ V n := fun q => hn (H.sub n q)
    have un : up ρ n m n = m := by simp [up]
    refine ⟨_, by simp only [Pav.newRow, if_pos hb]; rfl, ?_, ?_, ?_⟩
    · have := VW.sl (ρ := up ρ n m) (V := V) (A := addN A n) n zl 0 k k false false (.inr rfl) hVn id
      rw [un] at this; exact this
    · exact new_ok H hn hm ⟨xs', true, rfl, fun _ => rfl, hr.mono fun e e' _ h => h.mono fun x x' _ h => h.mono (up_mono hn), hd⟩
    · intro b hb
      simp at hb; subst hb
      exact ⟨n, by simp, un.symm, hVn, .inr rfl⟩
  · cases he

theorem evApp_vw (H : HW ρ V A h h') (hn : ¬ A n) (hm : ∀ b, A b → ¬ V b → ρ b ≠ m) {zl bytes : Nat} {s s' : AV} {xs xs' : List (List AV)} {d : Bool} {r : AV × WUpd} (hs : VW ρ V A s s')
    (hr : Rel2 (Rel2 (VW ρ V A)) xs xs') (hd : d = true → ∀ e ∈ xs, ∀ x ∈ e, isC x = true) (he : wEvApp h n zl bytes s xs d = some r) :
    ∃ r', evApp h' m zl bytes s' xs' = some r' ∧ Ok2 ρ V A n m h h' r r' := by
  cases s with
  | nils =>
    cases hs
    simp only [wEvApp] at he
    cases xs with
    | nil => simp only [Option.some.injEq] at he; subst he; rw [hr.inv_nil]; exact ⟨_, rfl, plain_ok H hn hm .nils⟩
    | cons a t =>
      obtain ⟨a', t', rfl, h1, h2⟩ := hr.inv_cons
      simp only at he
      obtain ⟨r', h3, h4⟩ := newRow_vw H hn hm hr hd he
      exact ⟨r', by simp only [evApp, ← hr.1]; exact h3, h4⟩
  | ro z es ex =>
    simp only [wEvApp] at he
    split at he
    · rename_i hz
      rcases hs.ro_inv with ⟨rfl, rfl⟩ | ⟨es', ex', rfl, hx, hes, hc⟩
      · cases xs with
        | nil => simp only [Option.some.injEq] at he; subst he; rw [hr.inv_nil]; exact ⟨_, rfl, plain_ok H hn hm hs⟩
        | cons a t =>
          obtain ⟨a', t', rfl, h1, h2⟩ := hr.inv_cons
          simp only at he
          split at he
          · simp only [List.length_nil, Nat.zero_add, List.nil_append] at he
            obtain ⟨r', h3, h4⟩ := newRow_vw H hn hm hr hd he
            exact ⟨r', by simp only [evApp, ← hr.1]; exact h3, h4⟩
          · cases he
      · cases xs with
        | nil => simp only [Option.some.injEq] at he; subst he; rw [hr.inv_nil]; exact ⟨_, by simp only [evApp, if_pos hz], plain_ok H hn hm hs⟩
        | cons a t =>
          obtain ⟨a', t', rfl, h1, h2⟩ := hr.inv_cons
          simp only at he
          split at he
          · rename_i hex
            obtain ⟨r', h3, h4⟩ := newRow_vw H hn hm (xs' := es' ++ a' :: t') ((hes.mono fun e e' _ h => h.mono fun x x' _ h => h.data).append hr) (fun q e he x hx => by
              rcases List.mem_append.1 he with q1 | q1
              · exact hc e q1 x hx
              · exact hd q e q1 x hx) he
            refine ⟨r', ?_, h4⟩
            simp only [evApp, if_pos hz, hx hex, if_true]
            rw [← hes.1, ← hr.1]
            exact h3
          · cases he
    · cases he
  | sl b z i len cap ex =>
    simp only [wEvApp] at he
    split at he
    · rename_i hz
      subst hz
      cases xs with
      | nil =>
        simp only [Option.some.injEq] at he; subst he; rw [hr.inv_nil]
        rcases hs.sl_inv with ⟨hA, hV, ex', rfl, _⟩ | ⟨hA, hV, rfl, rfl, rfl, hv⟩
        · exact ⟨_, by simp only [evApp, if_true], plain_ok H hn hm hs⟩
        · rcases hv with rfl | rfl
          · exact ⟨_, rfl, plain_ok H hn hm hs⟩
          · exact ⟨_, by simp only [evApp, if_true], plain_ok H hn hm hs⟩
      | cons a t =>
        obtain ⟨a', t', rfl, h1, h2⟩ := hr.inv_cons
        simp only at he
        unfold wAppSl at he
        split at he
        · rename_i zb es mu dt hg
          split at he
          · rename_i hzb
            rcases hs.sl_inv with ⟨hA, hV, ex', rfl, hx⟩ | ⟨hA, hV, rfl, rfl, rfl, hv⟩
            · obtain ⟨o', g1, es', mu', rfl, gm, ge, gd⟩ := H.obj b _ hg hV
              have hu := up_mono (ρ := ρ) (V := V) (m := m) hn
              have dd : (dt && d) = true → (∀ e ∈ es, ∀ x ∈ e, isC x = true) ∧ ∀ e ∈ a :: t, ∀ x ∈ e, isC x = true := by
                intro q
                simp only [Bool.and_eq_true] at q
                exact ⟨gd q.1, hd q.2⟩
              simp only [evApp, if_true, g1, appSl, if_pos hzb]
              have hlen : (a' :: t').length = (a :: t).length := hr.1.symm
              rw [hlen]
              split at he
              · rename_i hcap
                rw [if_pos hcap]
                split at he
                · rename_i hc
                  cases he
                  have e1 : mu' = true ∧ i + (len + (a :: t).length) ≤ es'.length := ⟨gm hc.1, by rw [← ge.1]; exact hc.2⟩
                  rw [if_pos e1]
                  refine ⟨_, rfl, ?_, ?_, ?_⟩
                  · have := VW.sl (ρ := up ρ n m) (V := V) (A := addN A n) b z i (len + (a :: t).length) cap ex ex' (.inl hA) hV hx
                    rw [(hu b hA).2.1] at this; exact this
                  · refine HW.up (write_ok H hA hV ?_) hn hm
                    refine ⟨_, true, rfl, fun _ => rfl, (ge.take _).append (hr.append (ge.drop _)), fun q e he x hx => ?_⟩
                    obtain ⟨q1, q2⟩ := dd q
                    rcases List.mem_append.1 he with q3 | q3
                    · exact q1 e (List.mem_of_mem_take q3) x hx
                    · rcases List.mem_append.1 q3 with q3 | q3
                      · exact q2 e q3 x hx
                      · exact q1 e (List.mem_of_mem_drop q3) x hx
                  · intro c hc
                    simp at hc; subst hc
                    exact ⟨b, by simp, ((hu b hA).2.1).symm, hV, .inl hA⟩
                · cases he
              · rename_i hcap
                rw [if_neg hcap]
                split at he
                · rename_i hex
                  subst hex
                  rw [hx rfl]
                  simp only [if_true]
                  split at he
                  · rename_i hl
                    rw [if_pos (by rw [← ge.1]; exact hl)]
                    exact newRow_vw H hn hm (((ge.drop _).take _).append hr) (fun q e he x hx => by
                      obtain ⟨q1, q2⟩ := dd q
                      rcases List.mem_append.1 he with q3 | q3
                      · exact q1 e (List.mem_of_mem_drop (List.mem_of_mem_take q3)) x hx
                      · exact q2 e q3 x hx) he
                  · cases he
                · rename_i hex
                  have hex : ex = false := by simpa using hex
                  subst hex
                  split at he
                  · rename_i hc
                    cases he
                    obtain ⟨c1, c2, c3, c4⟩ := hc
                    subst c2
                    have hVn : ¬ V n := fun q => hn (H.sub n q)
                    have un : up ρ n m n = m := by simp [up]
                    have vw : VW (up ρ n m) V (addN A n) (.sl n z 0 (len + (a :: t).length) (len + (a :: t).length) false) (.sl m z 0 (len + (a :: t).length) (len + (a :: t).length) false) := by
                      have := VW.sl (ρ := up ρ n m) (V := V) (A := addN A n) n z 0 (len + (a :: t).length) (len + (a :: t).length) false false (.inr rfl) hVn id
                      rw [un] at this; exact this
                    have ow : ∀ {mu2}, OW (up ρ n m) V (addN A n) (.cells z (es ++ a :: t) true (dt && d)) (.cells z (es' ++ a' :: t') mu2) ↔ mu2 = true := by
                      intro mu2
                      constructor
                      · rintro ⟨_, _, q, q2, _⟩; cases q; exact q2 rfl
                      · rintro rfl
                        refine ⟨_, true, rfl, fun _ => rfl, (ge.append hr).mono fun e e' _ h => h.mono fun x x' _ h => h.mono hu, fun q e he x hx => ?_⟩
                        obtain ⟨q1, q2⟩ := dd q
                        rcases List.mem_append.1 he with q3 | q3
                        · exact q1 e q3 x hx
                        · exact q2 e q3 x hx
                    have wr : ∀ c, c = ρ b ∨ c = m → ∃ c2 ∈ [(b, (none : Option WObj)), (n, some (.cells z (es ++ a :: t) true (dt && d)))].map (·.1), c = up ρ n m c2 ∧ ¬ V c2 ∧ addN A n c2 := by
                      rintro c (rfl | rfl)
                      · exact ⟨b, by simp, ((hu b hA).2.1).symm, hV, .inl hA⟩
                      · exact ⟨n, by simp, un.symm, hVn, .inr rfl⟩
                    cases ex' with
                    | false =>
                      simp only [Bool.false_eq_true, if_false]
                      rw [if_pos ⟨gm c1, by trivial, by rw [← ge.1]; exact c3, c4⟩]
                      refine ⟨_, rfl, vw, ?_, fun c hc => wr c (by simpa using hc)⟩
                      exact new_ok (del_ok H hA hV) hn hm (ow.2 rfl)
                    | true =>
                      simp only [if_true]
                      rw [if_pos (by rw [← ge.1, c3]; simp)]
                      have e3 : (es'.drop 0).take len = es' := by rw [List.drop_zero, List.take_of_length_le (by rw [← ge.1]; omega)]
                      rw [e3]
                      refine ⟨_, by simp only [Pav.newRow, if_pos c4]; rfl, vw, ?_, fun c hc => wr c (.inr (by simpa using hc))⟩
                      exact new_ok (drop_ok H) hn hm (ow.2 rfl)
                  · cases he
            · obtain ⟨z2, mu2, dt2, q⟩ := H.virt b _ hg hV
              cases q
              have hnr : ∃ d2, (d2 = true → d = true) ∧ ((wNewRow n zb (a :: t).length bytes (a :: t) d2 = some r) ∨ (∃ (q4 : (a :: t).length * (bytes + 1) ≤ maxBytes), r = (.sl n zb 0 (a :: t).length (a :: t).length false, [(b, none), (n, some (.cells zb (a :: t) true d2))]))) := by
                refine ⟨dt && d, fun q => by simp only [Bool.and_eq_true] at q; exact q.2, ?_⟩
                subst hzb
                rw [if_neg (by simp)] at he
                split at he
                · split at he
                  · left
                    simpa using he
                  · cases he
                · split at he
                  · rename_i hc
                    right
                    simp only [Nat.zero_add] at hc he
                    exact ⟨hc.2.2.2, by simpa using he.symm⟩
                  · cases he
              obtain ⟨d2, hd2, hh⟩ := hnr
              have hd3 : d2 = true → ∀ e ∈ a :: t, ∀ x ∈ e, isC x = true := fun q => hd (hd2 q)
              have goal : ∃ r', Pav.newRow m z (a' :: t').length bytes (a' :: t') = some r' ∧ Ok2 ρ V A n m h h' r r' := by
                subst hzb
                rcases hh with hh | ⟨q4, rfl⟩
                · obtain ⟨r', h3, h4⟩ := newRow_vw H hn hm hr hd3 hh
                  exact ⟨r', by rw [← hr.1]; exact h3, h4⟩
                · obtain ⟨r', h3, h4⟩ := newRow_vw (h := del h b) (zl := zb) (k := (a :: t).length) (bytes := bytes) (r := (.sl n zb 0 (a :: t).length (a :: t).length false, [(n, some (WObj.cells zb (a :: t) true d2))])) (drop_ok H) hn hm hr hd3 (by simp only [wNewRow, if_pos q4])
                  refine ⟨r', by rw [← hr.1]; exact h3, h4.1, h4.2.1, fun c hc => ?_⟩
                  obtain ⟨c2, q5, q6⟩ := h4.2.2 c hc
                  exact ⟨c2, by simp at q5 ⊢; exact .inr q5, q6⟩
              obtain ⟨r', g1, g2⟩ := goal
              rcases hv with rfl | rfl
              · exact ⟨r', by simp only [evApp]; exact g1, g2⟩
              · exact ⟨r', by simp only [evApp, if_true, List.length_nil, Nat.zero_add, List.nil_append]; exact g1, g2⟩
          · cases he
        · cases he
    · cases he
  | _ => simp [wEvApp] at he

end
end Go.Pw
