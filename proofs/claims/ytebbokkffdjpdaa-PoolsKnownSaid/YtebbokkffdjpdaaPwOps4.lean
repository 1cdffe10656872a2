/- One operation without calls: all of them. -/
import Derived.Test.YtebbokkffdjpdaaPwOps3
namespace Go.Pw
open Go Go.Pav

section
variable {ρ : Nat → Nat} {V A : Nat → Prop} {n m : Nat} {h : WHeap} {h' : Heap} {e e' : Env}

theorem ob_of {α β : Type} {x : Option α} {f : α → Option β} {a : α} (hx : x = some a) : ob x f = f a := by rw [hx]; rfl
theorem om_of {α β : Type} {x : Option α} {f : α → β} {a : α} (hx : x = some a) : om x f = some (f a) := by rw [hx]; rfl
theorem ov_of {x : Option AV} {a : AV} (hx : x = some a) : ov x = some (a, []) := by rw [hx]; rfl

theorem plainW_some {x : Option (AV × Upd)} {r : AV × WUpd} (h : plainW x = some r) : ∃ v u, x = some (v, u) ∧ r = (v, []) := by
  obtain ⟨⟨v, u⟩, h1, h2⟩ := om_some h
  exact ⟨v, u, h1, h2.symm⟩

theorem ovW_some {x : Option AV} {r : AV × WUpd} (h : ovW x = some r) : ∃ v, x = some v ∧ r = (v, []) := by
  obtain ⟨v, h1, h2⟩ := om_some h
  exact ⟨v, h1, h2.symm⟩

theorem ov_some' {x : Option AV} {v : AV} {u : Upd} (h : ov x = some (v, u)) : x = some v := by
  obtain ⟨w, h1, h2⟩ := om_some h
  cases h2; exact h1

theorem oev_vw (he : EW ρ V A e e') {o : Option Opd} (ho : (o.map okO).getD true = true) : OVW ρ V A (oev e o) (oev e' (o.map erO)) := by
  cases o with
  | none => trivial
  | some x => exact he.opd (by simpa using ho)

theorem mapGet_vw : ∀ {es es' : List (AV × AV)} {k : AV} {r : Option AV}, Rel2 (fun (x y : AV × AV) => x.1 = y.1 ∧ VD ρ V x.2 y.2) es es' → mapGet es k = some r → ∃ r', mapGet es' k = some r' ∧ OVW ρ V A r r' := by
  intro es
  induction es with
  | nil => intro es' k r hr h; rw [hr.inv_nil]; simp only [mapGet, Option.some.injEq] at h; subst h; exact ⟨none, rfl, trivial⟩
  | cons x es ih =>
    intro es' k r hr h
    obtain ⟨y, t, rfl, h1, h2⟩ := hr.inv_cons
    obtain ⟨a, v⟩ := x
    obtain ⟨a', v'⟩ := y
    obtain ⟨rfl, hv⟩ := h1
    simp only [mapGet] at h ⊢
    obtain ⟨c, h3, h⟩ := ob_some h
    rw [h3]
    simp only [ob]
    split at h
    · rename_i hc; rw [if_pos hc]; cases h; exact ⟨some v', rfl, hv.data⟩
    · rename_i hc; rw [if_neg hc]; exact ih h2 h

theorem mapPut_vw : ∀ {es es' r : List (AV × AV)} {k v v' : AV}, Rel2 (fun (x y : AV × AV) => x.1 = y.1 ∧ VD ρ V x.2 y.2) es es' → VD ρ V v v' → mapPut es k v = some r →
    ∃ r', mapPut es' k v' = some r' ∧ Rel2 (fun (x y : AV × AV) => x.1 = y.1 ∧ VD ρ V x.2 y.2) r r' := by
  intro es
  induction es with
  | nil => intro es' r k v v' hr hv h; rw [hr.inv_nil]; simp only [mapPut, Option.some.injEq] at h; subst h; exact ⟨_, rfl, .cons ⟨rfl, hv⟩ .nil⟩
  | cons x es ih =>
    intro es' r k v v' hr hv h
    obtain ⟨y, t, rfl, h1, h2⟩ := hr.inv_cons
    obtain ⟨a, w⟩ := x
    obtain ⟨a', w'⟩ := y
    obtain ⟨rfl, hw⟩ := h1
    simp only [mapPut] at h ⊢
    obtain ⟨c, h3, h⟩ := ob_some h
    rw [h3]
    simp only [ob]
    split at h
    · rename_i hc; rw [if_pos hc]; cases h; exact ⟨_, rfl, .cons ⟨rfl, hv⟩ h2⟩
    · rename_i hc
      rw [if_neg hc]
      obtain ⟨r1, h4, rfl⟩ := om_some h
      obtain ⟨r2, h5, h6⟩ := ih h2 hv h4
      rw [h5]
      exact ⟨_, rfl, .cons ⟨rfl, hw⟩ h6⟩

theorem found_vw {z z' : AV} {r r' : Option AV} (hz : VW ρ V A z z') (hr : OVW ρ V A r r') (ok : Bool) : VW ρ V A (found z ok r) (found z' ok r') := by
  have : VW ρ V A (r.getD z) (r'.getD z') ∧ r.isSome = r'.isSome := by
    cases r <;> cases r' <;> simp_all [OVW]
  unfold found
  split
  · rw [this.2]; exact VW.mktup (.cons this.1 (.cons (.bool _) .nil))
  · exact this.1

/-- What one operation does here it does there. -/
theorem stepW_ok (he : EW ρ V A e e') (H : HW ρ V A h h') (hn : ¬ A n) (hm : ∀ b, A b → ¬ V b → ρ b ≠ m) {op : COp} (ho : okOp op = true) {r : AV × WUpd} (hs : stepW op e h n = some r) :
    ∃ r', stepOp (erOp op) e' h' m = some r' ∧ Ok2 ρ V A n m h h' r r' := by
  have hVn : ¬ V n := fun q => hn (H.sub n q)
  have un : up ρ n m n = m := by simp [up]
  have hu := up_mono (ρ := ρ) (V := V) (m := m) hn
  have wrn : ∀ {o : WObj} {o' : AObj} {v : AV} {v' : AV}, ∀ b ∈ ((v', [(m, some o')]) : AV × Upd).2.map (·.1), ∃ c ∈ ((v, [(n, some o)]) : AV × WUpd).2.map (·.1), b = up ρ n m c ∧ ¬ V c ∧ addN A n c := by
    intro o o' v v' b hb
    simp at hb; subst hb
    exact ⟨n, by simp, un.symm, hVn, .inr rfl⟩
  have wro : ∀ {b : Nat} {o : WObj} {o' : AObj} {v : AV} {v' : AV}, A b → ¬ V b → ∀ c ∈ ((v', [(ρ b, some o')]) : AV × Upd).2.map (·.1), ∃ c2 ∈ ((v, [(b, some o)]) : AV × WUpd).2.map (·.1), c = up ρ n m c2 ∧ ¬ V c2 ∧ addN A n c2 := by
    intro b o o' v v' hA hV c hc
    simp at hc; subst hc
    exact ⟨b, by simp, ((hu b hA).2.1).symm, hV, .inl hA⟩
  have zok : ∀ {z : List AV}, okL z = true → Rel2 (VW (up ρ n m) V (addN A n)) z (erL z) := fun q => okL_vw _ q
  have allC : ∀ {z : List AV}, (z.all isC) = true → ∀ x ∈ z, isC x = true := fun q x hx => List.all_eq_true.1 q x hx
  cases op with
  | mv x =>
    obtain ⟨v, u, h1, rfl⟩ := plainW_some hs
    simp only [sMv, Option.some.injEq, Prod.mk.injEq] at h1
    obtain ⟨rfl, rfl⟩ := h1
    exact ⟨_, rfl, plain_ok H hn hm (he.opd ho)⟩
  | pick c a b =>
    simp only [okOp, Bool.and_eq_true] at ho
    obtain ⟨v, u, h1, rfl⟩ := plainW_some hs
    simp only [sPick] at h1
    split at h1
    · rename_i t hc
      simp only [Option.some.injEq, Prod.mk.injEq] at h1
      obtain ⟨rfl, rfl⟩ := h1
      have hc' := he.opd ho.1
      rw [hc] at hc'
      refine ⟨_, by simp only [stepOp, erOp, sPick, hc'.bool_inv]; rfl, plain_ok H hn hm ?_⟩
      cases t with
      | true => exact he.opd ho.2.1
      | false => exact he.opd ho.2.2
    · cases h1
  | alloc z =>
    simp only [stepW, wAlloc, Option.some.injEq] at hs
    subst hs
    have hz := okL_vw (ρ := up ρ n m) (V := V) (A := addN A n) z ho
    refine ⟨_, rfl, ?_, ?_, wrn⟩
    · have := VW.ptr (ρ := up ρ n m) (V := V) (A := addN A n) n 0 0 (.inr rfl) hVn
      rw [un] at this; exact this
    · refine new_ok H hn hm ?_
      simp only [← hz.1]
      exact ⟨_, true, rfl, fun _ => rfl, .cons hz .nil, fun q e he x hx => by simp at he; subst he; exact allC q x hx⟩
  | box x =>
    simp only [stepW, wBox, boxedW] at hs
    split at hs
    · rename_i hc
      cases hs
      obtain ⟨h1, h2⟩ := (he.opd ho).cells hc
      refine ⟨_, by simp only [stepOp, erOp, sBox, boxed, if_pos h2]; rfl, ?_, ?_, wrn⟩
      · have := VW.ptr (ρ := up ρ n m) (V := V) (A := addN A n) n 0 0 (.inr rfl) hVn
        rw [un] at this; exact this
      · refine new_ok H hn hm ?_
        simp only [← h1.1]
        exact ⟨_, true, rfl, fun _ => rfl, .cons (h1.mono fun x x' _ h => h.mono hu) .nil, fun q e he x hx => by simp at he; subst he; exact allC q x hx⟩
    · cases hs
  | build z ps =>
    simp only [okOp, Bool.and_eq_true] at ho
    obtain ⟨v, u, h1, rfl⟩ := plainW_some hs
    obtain ⟨cs, h2, h3⟩ := om_some h1
    cases h3
    obtain ⟨r', h4, h5⟩ := fillC_vw he ps z _ cs ho.2 (okL_vw z ho.1) h2
    exact ⟨_, by simp only [stepOp, erOp, sBuild, h4]; rfl, plain_ok H hn hm (VW.mkagg h5)⟩
  | buildS z len ps =>
    simp only [okOp, Bool.and_eq_true] at ho
    simp only [stepW, wBuildS] at hs
    obtain ⟨es, h1, rfl⟩ := om_some hs
    have hz := okL_vw (ρ := ρ) (V := V) (A := A) z ho.1
    obtain ⟨es', h4, h5⟩ := fillS_vw he z.length ps (List.replicate len z) (List.replicate len (erL z)) es ho.2 (.replicate hz len) h1
    refine ⟨_, by simp only [stepOp, erOp, sBuildS, ← hz.1, h4]; rfl, ?_, ?_, wrn⟩
    · have := VW.sl (ρ := up ρ n m) (V := V) (A := addN A n) n z.length 0 len len true true (.inr rfl) hVn id
      rw [un] at this; exact this
    · refine new_ok H hn hm ?_
      exact ⟨_, true, rfl, fun _ => rfl, h5.mono fun e e' _ h => h.mono fun x x' _ h => h.mono hu, fun q e he x hx => by
        simp only [List.all_eq_true] at q
        exact q e he x hx⟩
  | load k ag a =>
    obtain ⟨v, h1, rfl⟩ := ovW_some hs
    have ha := he.opd (x := a) ho
    have key : ∃ v', loadOf k ag h' ((erO a).ev e') = some v' ∧ VW ρ V A v v' := by
      cases hx : a.ev e with
      | rop cs =>
        rw [hx] at ha h1
        obtain ⟨cs', q, hr, _⟩ := ha.rop_inv
        rw [q]
        obtain ⟨v', h2, h3⟩ := loadC_vw hr h1
        exact ⟨v', h2, h3.data⟩
      | ptr b i o =>
        rw [hx] at ha h1
        obtain ⟨q, hA, hV⟩ := ha.ptr_inv
        rw [q]
        simp only [wLoadOf] at h1
        unfold wLoadAt at h1
        split at h1
        · rename_i z es mu dt hg
          obtain ⟨cs, h2, h3⟩ := ob_some h1
          obtain ⟨o', g1, es', mu', rfl, _, ge, _⟩ := H.obj b _ hg hV
          obtain ⟨cs', h4, h5⟩ := ge.get h2
          obtain ⟨v', h6, h7⟩ := loadC_vw (h5.drop o) h3
          exact ⟨v', by simp only [loadOf, g1, loadAt, h4, ob]; exact h6, h7⟩
        · cases h1
      | _ => rw [hx] at h1; simp [wLoadOf] at h1
    obtain ⟨v', h2, h3⟩ := key
    exact ⟨_, ov_of h2, plain_ok H hn hm h3⟩
  | store k a x =>
    simp only [okOp, Bool.and_eq_true] at ho
    simp only [stepW, wStore] at hs
    split at hs
    · rename_i hc
      obtain ⟨c1, c2⟩ := (he.opd ho.2).cells hc.2
      have ha := he.opd ho.1
      cases hx : a.ev e with
      | ptr b i o =>
        rw [hx] at ha hs
        obtain ⟨q, hA, hV⟩ := ha.ptr_inv
        simp only [wStoreOf] at hs
        unfold wStoreAt at hs
        split at hs
        · rename_i z es mu dt hg
          split at hs
          · rename_i hmu
            obtain ⟨cs, h2, h3⟩ := ob_some hs
            split at h3
            · rename_i hl
              cases h3
              obtain ⟨o', g1, es', mu', rfl, gm, ge, gd⟩ := H.obj b _ hg hV
              obtain ⟨cs', h4, h5⟩ := ge.get h2
              refine ⟨_, by simp only [stepOp, erOp, sStore, ← c1.1]; rw [if_pos ⟨hc.1, c2⟩, q]; simp only [storeOf, g1, storeAt, gm hmu, if_true, h4, ob, ← h5.1]; rw [if_pos hl], ?_, ?_, wro hA hV⟩
              · exact VW.mktup .nil
              · refine HW.up (write_ok H hA hV ?_) hn hm
                refine ⟨_, true, rfl, fun _ => rfl, ge.set (splice_vw h5 c1 o), fun q e he x hx => ?_⟩
                simp only [Bool.and_eq_true, List.all_eq_true] at q
                rcases List.mem_or_eq_of_mem_set he with q2 | rfl
                · exact gd q.1 e q2 x hx
                · unfold splice at hx
                  simp only [List.mem_append] at hx
                  rcases hx with q3 | q3 | q3
                  · exact gd q.1 cs (List.mem_of_getElem? h2) x (List.mem_of_mem_take q3)
                  · exact q.2 x q3
                  · exact gd q.1 cs (List.mem_of_getElem? h2) x (List.mem_of_mem_drop q3)
            · cases h3
          · cases hs
        · cases hs
      | _ => rw [hx] at hs; simp [wStoreOf] at hs
    · cases hs
  | nilchk x =>
    obtain ⟨v, u, h1, rfl⟩ := plainW_some hs
    have hx := he.opd (x := x) ho
    simp only [sNilchk] at h1
    split at h1
    · rename_i b i o hc
      cases h1
      rw [hc] at hx
      exact ⟨_, by simp only [stepOp, erOp, sNilchk, hx.ptr_inv.1], plain_ok H hn hm (hx.ptr_inv.1 ▸ hx)⟩
    · rename_i cs hc
      cases h1
      rw [hc] at hx
      obtain ⟨cs', q, _⟩ := hx.rop_inv
      exact ⟨_, by simp only [stepOp, erOp, sNilchk, q], plain_ok H hn hm (q ▸ hx)⟩
    · rename_i f cs hc
      cases h1
      rw [hc] at hx
      obtain ⟨cs', q, _⟩ := hx.fn_inv
      exact ⟨_, by simp only [stepOp, erOp, sNilchk, q], plain_ok H hn hm (q ▸ hx)⟩
    · cases h1
  | bin op x y =>
    simp only [okOp, Bool.and_eq_true] at ho
    obtain ⟨v, u, h1, rfl⟩ := plainW_some hs
    obtain ⟨h2, h3⟩ := evBin_vw (he.opd ho.1) (he.opd ho.2) (ov_some' h1)
    exact ⟨_, ov_of h2, plain_ok H hn hm h3⟩
  | eqv kd ks ne x y =>
    simp only [okOp, Bool.and_eq_true] at ho
    simp only [stepW] at hs
    split at hs
    · rename_i hk
      subst hk
      obtain ⟨b, h1, rfl⟩ := om_some hs
      refine ⟨_, by simp only [stepOp, erOp, sEqv, eqVals, if_true, wEqSl_vw (he.opd ho.1) (he.opd ho.2) h1]; rfl, plain_ok H hn hm (.bool _)⟩
    · rename_i hk
      obtain ⟨v, u, h1, rfl⟩ := plainW_some hs
      obtain ⟨b, h2, h3⟩ := om_some h1
      cases h3
      exact ⟨_, by simp only [stepOp, erOp, sEqv, eqVals_vw (he.opd ho.1) (he.opd ho.2) hk h2]; rfl, plain_ok H hn hm (.bool _)⟩
  | un op x =>
    obtain ⟨v, u, h1, rfl⟩ := plainW_some hs
    obtain ⟨h2, h3⟩ := evUn_vw (he.opd (x := x) ho) (ov_some' h1)
    exact ⟨_, ov_of h2, plain_ok H hn hm h3⟩
  | cvt k x =>
    obtain ⟨v, u, h1, rfl⟩ := plainW_some hs
    have hx := he.opd (x := x) ho
    simp only [sCvt] at h1
    split at h1
    · rename_i k' q hc
      cases h1
      rw [hc] at hx
      exact ⟨_, by simp only [stepOp, erOp, sCvt, hx.int_inv], plain_ok H hn hm (.int _ _)⟩
    · cases h1
  | cvs x =>
    obtain ⟨v, u, h1, rfl⟩ := plainW_some hs
    have hx := he.opd (x := x) ho
    simp only [sCvs] at h1
    split at h1
    · rename_i q hc
      cases h1
      rw [hc] at hx
      exact ⟨_, by simp only [stepOp, erOp, sCvs, hx.str_inv], plain_ok H hn hm (.str _)⟩
    · cases h1
  | mkfn f caps =>
    obtain ⟨v, u, h1, rfl⟩ := plainW_some hs
    simp only [sMkfn] at h1
    split at h1
    · rename_i hc
      cases h1
      simp only [okOp, List.all_eq_true] at ho hc
      have rel : Rel2 (VW ρ V A) (caps.map fun x => x.ev e) ((caps.map erO).map fun x => x.ev e') := by
        rw [List.map_map]
        refine ⟨by simp, fun j x x' h1 h2 => ?_⟩
        rw [List.getElem?_map] at h1 h2
        cases h3 : caps[j]? with
        | none => rw [h3] at h1; cases h1
        | some c => rw [h3] at h1 h2; cases h1; cases h2; exact he.opd (ho c (List.mem_of_getElem? h3))
      have c2 : ((caps.map erO).all fun x => (x.ev e').cell) = true := by
        simp only [List.all_map, List.all_eq_true]
        intro c hcc
        exact (he.opd (ho c hcc)).cell (hc c hcc)
      exact ⟨_, by simp only [stepOp, erOp, sMkfn, if_pos c2], plain_ok H hn hm (VW.mkfn rel)⟩
    · cases h1
  | mkmap =>
    simp only [stepW, wMkmap, Option.some.injEq] at hs
    subst hs
    refine ⟨_, rfl, ?_, new_ok H hn hm ⟨[], rfl, .nil⟩, wrn⟩
    have := VW.map (ρ := up ρ n m) (V := V) (A := addN A n) n (.inr rfl) hVn
    rw [un] at this; exact this
  | mksl z bytes l c =>
    simp only [okOp, Bool.and_eq_true] at ho
    simp only [stepW, wMksl] at hs
    have hl := he.opd ho.2.1
    have hc := he.opd ho.2.2
    split at hs
    · rename_i k1 l1 k2 c1 e1 e2
      rw [e1] at hl
      rw [e2] at hc
      obtain ⟨l2, h1, h⟩ := ob_some hs
      obtain ⟨c2, h2, h⟩ := ob_some h
      split at h
      · rename_i hb
        cases h
        have hz := okL_vw (ρ := up ρ n m) (V := V) (A := addN A n) z ho.1
        refine ⟨_, by simp only [stepOp, erOp, sMksl, hl.int_inv, hc.int_inv, h1, h2, ob, if_pos hb]; rfl, ?_, ?_, wrn⟩
        · have := VW.sl (ρ := up ρ n m) (V := V) (A := addN A n) n z.length 0 l2 c2 true true (.inr rfl) hVn id
          rw [un] at this
          simp only [← hz.1]; exact this
        · refine new_ok H hn hm ?_
          simp only [← hz.1]
          exact ⟨_, true, rfl, fun _ => rfl, .replicate hz _, fun q e he x hx => by
            rw [List.eq_of_mem_replicate he] at hx
            exact allC q x hx⟩
      · cases h
    · cases hs
  | slice z x lo hi mx =>
    simp only [okOp, Bool.and_eq_true] at ho
    obtain ⟨v, u, h1, rfl⟩ := plainW_some hs
    obtain ⟨v', h2, h3⟩ := evSlice_vw (he.opd ho.1) (oev_vw he ho.2.1) (oev_vw he ho.2.2.1) (oev_vw he ho.2.2.2) (ov_some' h1)
    exact ⟨_, ov_of h2, plain_ok H hn hm h3⟩
  | fld off x =>
    obtain ⟨v, u, h1, rfl⟩ := plainW_some hs
    have hx := he.opd (x := x) ho
    simp only [sFld] at h1
    split at h1
    · rename_i cs hc
      cases h1
      rw [hc] at hx
      obtain ⟨cs', q, hr, hd⟩ := hx.rop_inv
      exact ⟨_, by simp only [stepOp, erOp, sFld, q], plain_ok H hn hm (VW.mkrop (hr.drop off) fun x hx => hd x (List.mem_of_mem_drop hx))⟩
    · rename_i b i o hc
      cases h1
      rw [hc] at hx
      obtain ⟨q, hA, hV⟩ := hx.ptr_inv
      exact ⟨_, by simp only [stepOp, erOp, sFld, q], plain_ok H hn hm (.ptr _ _ _ hA hV)⟩
    · cases h1
  | fldv off k ag x =>
    obtain ⟨v, u, h1, rfl⟩ := plainW_some hs
    have hx := he.opd (x := x) ho
    simp only [sFldv] at h1
    split at h1
    · rename_i cs hc
      rw [hc] at hx
      obtain ⟨cs', q, hr⟩ := hx.agg_inv
      obtain ⟨v', h2, h3⟩ := loadC_vw (hr.drop off) (ov_some' h1)
      exact ⟨_, by simp only [stepOp, erOp, sFldv, q]; exact ov_of h2, plain_ok H hn hm h3⟩
    · cases h1
  | idxs z x i =>
    simp only [okOp, Bool.and_eq_true] at ho
    obtain ⟨v, u, h1, rfl⟩ := plainW_some hs
    have hx := he.opd ho.1
    have hi := he.opd ho.2
    simp only [sIdxs] at h1
    split at h1
    · rename_i k q hc
      rw [hc] at hi
      obtain ⟨j, h2, h3⟩ := ob_some h1
      simp only [stepOp, erOp, sIdxs, hi.int_inv, h2, ob]
      cases hxe : x.ev e with
      | ro z' es ex =>
        rw [hxe] at hx h3
        simp only [idxsAt] at h3
        split at h3
        · rename_i hz
          obtain ⟨cs, h4, h5⟩ := ob_some h3
          cases h5
          rcases hx.ro_inv with ⟨rfl, _⟩ | ⟨es', ex', q, _, hr, hd⟩
          · simp at h4
          · obtain ⟨cs', h6, h7⟩ := hr.get h4
            exact ⟨_, by simp only [q, idxsAt, if_pos hz, h6, ob], plain_ok H hn hm (VW.mkrop h7 fun x hx => hd cs (List.mem_of_getElem? h4) x hx)⟩
        · cases h3
      | sl b z' j2 len cap ex =>
        rw [hxe] at hx h3
        simp only [idxsAt] at h3
        split at h3
        · rename_i hz
          cases h3
          rcases hx.sl_inv with ⟨hA, hV, ex', q, _⟩ | ⟨_, _, _, rfl, _, _⟩
          · exact ⟨_, by simp only [q, idxsAt, if_pos hz], plain_ok H hn hm (.ptr _ _ _ hA hV)⟩
          · omega
        · cases h3
      | _ => rw [hxe] at h3; simp [idxsAt] at h3
    · cases h1
  | idxa len z x i =>
    simp only [okOp, Bool.and_eq_true] at ho
    obtain ⟨v, u, h1, rfl⟩ := plainW_some hs
    have hx := he.opd ho.1
    have hi := he.opd ho.2
    simp only [sIdxa] at h1
    split at h1
    · rename_i k q hc
      rw [hc] at hi
      obtain ⟨j, h2, h3⟩ := ob_some h1
      split at h3
      · rename_i hj
        simp only [stepOp, erOp, sIdxa, hi.int_inv, h2, ob, if_pos hj]
        cases hxe : x.ev e with
        | rop cs =>
          rw [hxe] at hx h3
          simp only [idxaAt, Option.some.injEq, Prod.mk.injEq] at h3
          obtain ⟨rfl, _⟩ := h3
          obtain ⟨cs', q, hr, hd⟩ := hx.rop_inv
          exact ⟨_, by simp only [q, idxaAt], plain_ok H hn hm (VW.mkrop (hr.drop _) fun x hx => hd x (List.mem_of_mem_drop hx))⟩
        | ptr b j2 o =>
          rw [hxe] at hx h3
          simp only [idxaAt, Option.some.injEq, Prod.mk.injEq] at h3
          obtain ⟨rfl, _⟩ := h3
          obtain ⟨q, hA, hV⟩ := hx.ptr_inv
          exact ⟨_, by simp only [q, idxaAt], plain_ok H hn hm (.ptr _ _ _ hA hV)⟩
        | _ => rw [hxe] at h3; simp [idxaAt] at h3
      · cases h3
    · cases h1
  | idxstr x i =>
    simp only [okOp, Bool.and_eq_true] at ho
    obtain ⟨v, u, h1, rfl⟩ := plainW_some hs
    have hx := he.opd ho.1
    have hi := he.opd ho.2
    simp only [sIdxstr] at h1
    split at h1
    · rename_i s k q hc1 hc2
      rw [hc1] at hx
      rw [hc2] at hi
      obtain ⟨j, h2, h3⟩ := ob_some h1
      obtain ⟨c, h4, h5⟩ := ob_some h3
      cases h5
      exact ⟨_, by simp only [stepOp, erOp, sIdxstr, hx.str_inv, hi.int_inv, h2, ob, h4], plain_ok H hn hm (.int _ _)⟩
    · cases h1
  | idxv len z ag x i =>
    simp only [okOp, Bool.and_eq_true] at ho
    obtain ⟨v, u, h1, rfl⟩ := plainW_some hs
    have hx := he.opd ho.1
    have hi := he.opd ho.2
    simp only [sIdxv] at h1
    split at h1
    · rename_i cs k q hc1 hc2
      rw [hc1] at hx
      rw [hc2] at hi
      obtain ⟨j, h2, h3⟩ := ob_some h1
      split at h3
      · rename_i hj
        obtain ⟨cs', q, hr⟩ := hx.agg_inv
        obtain ⟨v', h4, h5⟩ := loadC_vw (hr.drop _) (ov_some' h3)
        exact ⟨_, by simp only [stepOp, erOp, sIdxv, q, hi.int_inv, h2, ob, if_pos hj]; exact ov_of h4, plain_ok H hn hm h5⟩
      · cases h3
    · cases h1
  | look kd z ok mp k =>
    simp only [okOp, Bool.and_eq_true] at ho
    simp only [stepW, wLook] at hs
    split at hs
    · rename_i hk
      have hmp := he.opd ho.2.1
      have hkk := keyOk_vw (he.opd ho.2.2) hk
      have hz := okV_vw (ρ := ρ) (V := V) (A := A) z ho.1
      split at hs
      · rename_i hc
        cases hs
        rw [hc] at hmp
        cases hnm : (erO mp).ev e' <;> rw [hnm] at hmp <;> cases hmp
        exact ⟨_, by simp only [stepOp, erOp, sLook, hkk, if_pos hk, hnm], plain_ok H hn hm (found_vw hz (r := none) (r' := none) trivial ok)⟩
      · rename_i b hc
        rw [hc] at hmp
        obtain ⟨q, hA, hV⟩ := hmp.map_inv
        obtain ⟨v, h1, rfl⟩ := ovW_some hs
        unfold wLookIn at h1
        split at h1
        · rename_i es hg
          obtain ⟨r, h2, rfl⟩ := om_some h1
          obtain ⟨o', g1, es', rfl, hr⟩ := H.obj b _ hg hV
          obtain ⟨r', h3, h4⟩ := mapGet_vw (A := A) hr h2
          refine ⟨_, by simp only [stepOp, erOp, sLook, hkk, if_pos hk, q, g1, lookIn, h3, om, ov], plain_ok H hn hm (found_vw hz h4 ok)⟩
        · cases h1
      · cases hs
    · cases hs
  | upd kd mp k v =>
    simp only [okOp, Bool.and_eq_true] at ho
    simp only [stepW, wUpd] at hs
    split at hs
    · rename_i hk
      have hmp := he.opd ho.1
      have hkk := keyOk_vw (he.opd ho.2.1) hk.1
      have hv := (he.opd ho.2.2).isD (ρ' := ρ) (V' := V) (A' := fun _ => False) hk.2
      split at hs
      · rename_i b hc
        rw [hc] at hmp
        obtain ⟨q, hA, hV⟩ := hmp.map_inv
        unfold wUpdIn at hs
        split at hs
        · rename_i es hg
          obtain ⟨r, h2, rfl⟩ := om_some hs
          obtain ⟨o', g1, es', rfl, hr⟩ := H.obj b _ hg hV
          obtain ⟨r', h3, h4⟩ := mapPut_vw hr hv h2
          refine ⟨_, by simp only [stepOp, erOp, sUpd, hkk, if_pos hk.1, q, g1, updIn, h3, om]; rfl, VW.mktup .nil, ?_, wro hA hV⟩
          exact HW.up (write_ok H hA hV ⟨_, rfl, h4⟩) hn hm
        · cases hs
      · cases hs
    · cases hs
  | range x =>
    simp only [stepW, wRange] at hs
    have hx := he.opd (x := x) ho
    split at hs
    · rename_i s hc
      cases hs
      rw [hc] at hx
      refine ⟨(.ptr m 0 0, [(m, some (.iter s 0))]), by simp only [stepOp, erOp, sRange, hx.str_inv], ?_, new_ok H hn hm (show OW _ _ _ (.iter s 0) (.iter s 0) from rfl), wrn⟩
      have := VW.ptr (ρ := up ρ n m) (V := V) (A := addN A n) n 0 0 (.inr rfl) hVn
      rw [un] at this; exact this
    · cases hs
  | next x =>
    simp only [stepW, wNext] at hs
    have hx := he.opd (x := x) ho
    split at hs
    · rename_i b hc
      rw [hc] at hx
      obtain ⟨q, hA, hV⟩ := hx.ptr_inv
      unfold wNextIter at hs
      split at hs
      · rename_i s pos hg
        obtain ⟨o', g1, rfl⟩ := H.obj b _ hg hV
        split at hs
        · rename_i hp
          cases hs
          refine ⟨_, by simp only [stepOp, erOp, sNext, q, g1, nextIter, if_pos hp]; rfl, VW.mktup (.cons (.bool _) (.cons (.int _ _) (.cons (.int _ _) .nil))), ?_, wro hA hV⟩
          exact HW.up (write_ok H hA hV rfl) hn hm
        · rename_i hp
          cases hs
          exact ⟨_, by simp only [stepOp, erOp, sNext, q, g1, nextIter, if_neg hp], plain_ok H hn hm (VW.mktup (.cons (.bool _) .nil))⟩
      · cases hs
    · cases hs
  | ext i x =>
    obtain ⟨v, u, h1, rfl⟩ := plainW_some hs
    have hx := he.opd (x := x) ho
    simp only [sExt] at h1
    split at h1
    · rename_i vs hc
      rw [hc] at hx
      obtain ⟨vs', q, hr⟩ := hx.tup_inv
      obtain ⟨v', h2, h3⟩ := hr.get (ov_some' h1)
      exact ⟨_, by simp only [stepOp, erOp, sExt, q]; exact ov_of h2, plain_ok H hn hm h3⟩
    · cases h1
  | len kd x =>
    obtain ⟨v, h1, rfl⟩ := ovW_some hs
    have hx := he.opd (x := x) ho
    have key : evLen kd h' ((erO x).ev e') = some v ∧ VW ρ V A v v := by
      cases hxe : x.ev e with
      | str s => rw [hxe] at hx h1; rw [hx.str_inv]; simp only [wEvLen] at h1; split at h1 <;> cases h1; exact ⟨by simp only [evLen]; rw [if_pos]; assumption, .int _ _⟩
      | nils =>
        rw [hxe] at hx h1
        cases hnm : (erO x).ev e' <;> rw [hnm] at hx <;> cases hx
        simp only [wEvLen] at h1; split at h1 <;> cases h1; exact ⟨by simp only [evLen]; rw [if_pos]; assumption, .int _ _⟩
      | nilm =>
        rw [hxe] at hx h1
        cases hnm : (erO x).ev e' <;> rw [hnm] at hx <;> cases hx
        simp only [wEvLen] at h1; split at h1 <;> cases h1; exact ⟨by simp only [evLen]; rw [if_pos]; assumption, .int _ _⟩
      | ro z es ex =>
        rw [hxe] at hx h1
        simp only [wEvLen] at h1; split at h1 <;> cases h1
        rcases hx.ro_inv with ⟨rfl, q⟩ | ⟨es', ex', q, _, hr, _⟩
        · rw [q]; exact ⟨by simp only [evLen]; rw [if_pos]; rfl; assumption, .int _ _⟩
        · rw [q]; exact ⟨by simp only [evLen, ← hr.1]; rw [if_pos]; assumption, .int _ _⟩
      | sl b z i len cap ex =>
        rw [hxe] at hx h1
        simp only [wEvLen] at h1; split at h1 <;> cases h1
        rcases hx.sl_inv with ⟨_, _, ex', q, _⟩ | ⟨_, _, _, rfl, _, q⟩
        · rw [q]; exact ⟨by simp only [evLen]; rw [if_pos]; assumption, .int _ _⟩
        · rcases q with q | q
          · rw [q]; exact ⟨by simp only [evLen]; rw [if_pos]; rfl; assumption, .int _ _⟩
          · rw [q]; exact ⟨by simp only [evLen, List.length_nil]; rw [if_pos]; assumption, .int _ _⟩
      | map b =>
        rw [hxe] at hx h1
        obtain ⟨q, hA, hV⟩ := hx.map_inv
        simp only [wEvLen] at h1; split at h1
        · rename_i hk
          unfold wLenMap at h1
          split at h1
          · rename_i es hg
            cases h1
            obtain ⟨o', g1, es', rfl, hr⟩ := H.obj b _ hg hV
            exact ⟨by simp only [q, evLen, if_pos hk, g1, lenMap, hr.1], .int _ _⟩
          · cases h1
        · cases h1
      | _ => rw [hxe] at h1; simp [wEvLen] at h1
    exact ⟨_, ov_of key.1, plain_ok H hn hm key.2⟩
  | cap x =>
    obtain ⟨v, u, h1, rfl⟩ := plainW_some hs
    have hx := he.opd (x := x) ho
    have h1 := ov_some' h1
    have key : evCap ((erO x).ev e') = some v ∧ VW ρ V A v v := by
      cases hxe : x.ev e with
      | nils =>
        rw [hxe] at hx h1
        cases hnm : (erO x).ev e' <;> rw [hnm] at hx <;> cases hx
        simp only [evCap] at h1; cases h1; exact ⟨rfl, .int _ _⟩
      | ro z es ex =>
        rw [hxe] at hx h1
        simp only [evCap] at h1; split at h1 <;> cases h1
        rename_i hex
        rcases hx.ro_inv with ⟨rfl, q⟩ | ⟨es', ex', q, hxx, hr, _⟩
        · rw [q]; exact ⟨rfl, .int _ _⟩
        · rw [q]; exact ⟨by simp only [evCap, hxx hex, if_true, ← hr.1], .int _ _⟩
      | sl b z i len cap ex =>
        rw [hxe] at hx h1
        simp only [evCap] at h1; split at h1 <;> cases h1
        rename_i hex
        rcases hx.sl_inv with ⟨_, _, ex', q, hxx⟩ | ⟨_, _, _, _, rfl, q⟩
        · rw [q]; exact ⟨by simp only [evCap, hxx hex, if_true], .int _ _⟩
        · rcases q with q | q
          · rw [q]; exact ⟨rfl, .int _ _⟩
          · rw [q]; exact ⟨rfl, .int _ _⟩
      | _ => rw [hxe] at h1; simp [evCap] at h1
    exact ⟨_, ov_of key.1, plain_ok H hn hm key.2⟩
  | app z bytes zeros s x =>
    simp only [okOp, Bool.and_eq_true] at ho
    simp only [stepW, wApp] at hs
    have hz := okL_vw (ρ := ρ) (V := V) (A := A) z ho.1
    have hss := he.opd ho.2.1
    have hx := he.opd ho.2.2
    split at hs
    · rename_i hzz
      split at hs
      · rename_i k q hc
        rw [hc] at hx
        obtain ⟨j, h1, h2⟩ := ob_some hs
        split at h2
        · rename_i hb
          obtain ⟨r', h3, h4⟩ := evApp_vw H hn hm hss (Rel2.replicate hz j) (fun q e he x hx => by
            rw [List.eq_of_mem_replicate he] at hx
            exact allC q x hx) h2
          exact ⟨r', by simp only [stepOp, erOp, sApp, if_pos hzz, hx.int_inv, h1, ob, if_pos hb, ← hz.1]; exact h3, h4⟩
        · cases h2
      · cases hs
    · rename_i hzz
      obtain ⟨⟨xs, d⟩, h1, h2⟩ := ob_some hs
      obtain ⟨xs', h3, h4, h5⟩ := elems_vw H hx h1
      obtain ⟨r', h6, h7⟩ := evApp_vw H hn hm hss h4 h5 h2
      exact ⟨r', by simp only [stepOp, erOp, sApp, if_neg hzz, ← hz.1, h3, ob]; exact h6, h7⟩
  | cpy z d s =>
    simp only [okOp, Bool.and_eq_true] at ho
    simp only [stepW, wCpy] at hs
    have hd := he.opd ho.1
    have hss := he.opd ho.2
    obtain ⟨⟨xs, dd⟩, h1, h2⟩ := ob_some hs
    obtain ⟨xs', h3, h4, h5⟩ := elems_vw H hss h1
    simp only [stepOp, erOp, sCpy, h3, ob]
    cases hde : d.ev e with
    | nils =>
      rw [hde] at hd h2
      cases hnm : (erO d).ev e' <;> rw [hnm] at hd <;> cases hd
      simp only [wCopyIn, Option.some.injEq] at h2; subst h2
      exact ⟨_, rfl, plain_ok H hn hm (.int _ _)⟩
    | sl b z' i len cap ex =>
      rw [hde] at hd h2
      simp only [wCopyIn] at h2
      split at h2
      · rename_i hzz
        subst hzz
        split at h2
        · rename_i hmin
          cases h2
          rcases hd.sl_inv with ⟨_, _, ex', q, _⟩ | ⟨hA, hV, rfl, rfl, rfl, q⟩
          · exact ⟨_, by simp only [q, copyIn, if_true, ← h4.1, if_pos hmin], plain_ok H hn hm (.int _ _)⟩
          · rcases q with q | q
            · exact ⟨_, by simp only [q, copyIn], plain_ok H hn hm (.int _ _)⟩
            · exact ⟨_, by simp only [q, copyIn], plain_ok H hn hm (.int _ _)⟩
        · rename_i hmin
          rcases hd.sl_inv with ⟨hA, hV, ex', q, _⟩ | ⟨_, _, _, rfl, _, _⟩
          · unfold wCopyTo at h2
            split at h2
            · rename_i zb es mu dt hg
              split at h2
              · rename_i hc
                cases h2
                obtain ⟨o', g1, es', mu', rfl, gm, ge, gd⟩ := H.obj b _ hg hV
                refine ⟨_, by simp only [q, copyIn, if_true, ← h4.1, if_neg hmin, g1, copyTo]; rw [if_pos ⟨gm hc.1, hc.2.1, by rw [← ge.1]; exact hc.2.2⟩], ?_, ?_, wro hA hV⟩
                · exact .int _ _
                · refine HW.up (write_ok H hA hV ?_) hn hm
                  refine ⟨_, true, rfl, fun _ => rfl, (ge.take _).append ((h4.take _).append (ge.drop _)), fun q e he x hx => ?_⟩
                  simp only [Bool.and_eq_true] at q
                  rcases List.mem_append.1 he with q3 | q3
                  · exact gd q.1 e (List.mem_of_mem_take q3) x hx
                  · rcases List.mem_append.1 q3 with q3 | q3
                    · exact h5 q.2 e (List.mem_of_mem_take q3) x hx
                    · exact gd q.1 e (List.mem_of_mem_drop q3) x hx
              · cases h2
            · cases h2
          · simp at hmin
      · cases h2
    | _ => rw [hde] at h2; simp [wCopyIn] at h2
  | mx x y =>
    simp only [okOp, Bool.and_eq_true] at ho
    obtain ⟨v, u, h1, rfl⟩ := plainW_some hs
    have hx := he.opd ho.1
    have hy := he.opd ho.2
    simp only [sMx] at h1
    split at h1
    · rename_i k a k' b hc1 hc2
      rw [hc1] at hx
      rw [hc2] at hy
      split at h1
      · rename_i hk; cases h1; exact ⟨_, by simp only [stepOp, erOp, sMx, hx.int_inv, hy.int_inv, if_pos hk], plain_ok H hn hm (.int _ _)⟩
      · cases h1
    · cases h1
  | mn x y =>
    simp only [okOp, Bool.and_eq_true] at ho
    obtain ⟨v, u, h1, rfl⟩ := plainW_some hs
    have hx := he.opd ho.1
    have hy := he.opd ho.2
    simp only [sMn] at h1
    split at h1
    · rename_i k a k' b hc1 hc2
      rw [hc1] at hx
      rw [hc2] at hy
      split at h1
      · rename_i hk; cases h1; exact ⟨_, by simp only [stepOp, erOp, sMn, hx.int_inv, hy.int_inv, if_pos hk], plain_ok H hn hm (.int _ _)⟩
      · cases h1
    · cases h1
  | call f args => simp [stepW] at hs
  | callv g args => simp [stepW] at hs
  | fail => simp [stepW] at hs

end
end Go.Pw
