/- Part of the theory that the claims of this work use: PwGlue, PwGlue2, G09, C09k, C09j, C09l, C09o. No conditions of its own. -/
import Derived.Test.YtnnhhhkiehenfaaT4
import Derived.ChangeSame
import Derived.ChangeArms
import Derived.ReadAgain
import Derived.Handed
import Derived.JoinedOf
import Derived.RowKit
import Derived.Test.YtnnhhhkiehenfaaRows
import Derived.ProofKit
section
set_option linter.unusedSimpArgs false
set_option linter.unusedVariables false
/- The arguments of a law, as data of the second machine; the law's result; what is true of both. No conditions beyond those that each theorem names. -/
namespace Go.Pw
open Go Go.Pav

/-- The type of a cell. -/
inductive CT where
  | bool
  | int (k : IntKind)
  | str
  | slice (ts : List CT)

/-- The values of such a cell. -/
inductive Ty : CT → AV → Prop
  | bool (b : Bool) : Ty .bool (.bool b)
  | int (k : IntKind) (n : Int) (h1 : k.min ≤ n) (h2 : n ≤ k.max) : Ty (.int k) (.int k n)
  | str (s : List UInt8) (h : s.length < 2 ^ 63) : Ty .str (.str s)
  | slice (ts : List CT) (es : List (List AV)) (ex : Bool) (hn : es.length < 2 ^ 63) (hw : ∀ (i : Nat) (e : List AV), es[i]? = some e → e.length = ts.length)
      (h : ∀ (i : Nat) (e : List AV) (j : Nat) (ct : CT) (x : AV), es[i]? = some e → ts[j]? = some ct → e[j]? = some x → Ty ct x) : Ty (.slice ts) (.ro ts.length es ex)

theorem Ty.isC {ct : CT} {a : AV} (h : Ty ct a) : Pw.isC a = true := by cases h <;> rfl

def fieldsT (F : TypeId → Option (List CT)) (P : Program) : List Field → Nat → Option (List CT)
  | [], _ => some []
  | f :: r, off => (F f.type).bind fun ts => if f.offset = off ∧ ts.length = P.cellsOf f.type then (fieldsT F P r (off + ts.length)).map (ts ++ ·) else none

/-- The cells of a type. -/
def flatT (P : Program) : Nat → TypeId → Option (List CT)
  | 0, _ => none
  | n + 1, t => match P.underlying t with
    | some .bool => some [.bool]
    | some (.int k) => some [.int k]
    | some .string => some [.str]
    | some (.slice e) => (flatT P n e).bind fun ts => if ts.length = P.cellsOf e ∧ 0 < ts.length then some [.slice ts] else none
    | some (.struct fs) => (fieldsT (flatT P n) P fs.toList 0).bind fun ts => if ts.length = P.cellsOf t then some ts else none
    | some (.array m e) => (flatT P n e).bind fun ts => if ts.length = P.cellsOf e ∧ m * ts.length = P.cellsOf t then some (List.replicate m ts).flatten else none
    | _ => none

theorem flatten_rep {α : Type} (ts : List α) : ∀ (m j : Nat), j < m * ts.length → (List.replicate m ts).flatten[j]? = ts[j % ts.length]?
  | 0, j, h => by simp at h
  | m + 1, j, h => by
    rw [List.replicate_succ, List.flatten_cons]
    rcases Nat.lt_or_ge j ts.length with hl | hl
    · rw [List.getElem?_append_left hl, Nat.mod_eq_of_lt hl]
    · rw [List.getElem?_append_right hl, flatten_rep ts m (j - ts.length) (by rw [Nat.add_mul] at h; omega), Nat.mod_eq_sub_mod hl]

theorem trod_array {H : Type} {enc : TypeId × Value → H} {P : Program} {w : World} {base : Nat} {spare : Nat → Bool} {held : Bool} {fuel : Nat} {t : TypeId} {cs : List Value} {x : DataW H × List MemPlace} {m : Nat} {e : TypeId}
    (ht : P.underlying t = some (.array m e)) (h : DataW.trod enc P w base spare held fuel t cs = some x) :
    ∃ (xs : List (DataW H × List MemPlace)) (n : Nat), fuel = n + 1 ∧ cs.length = P.cellsOf t ∧ xs.length = m ∧
      ∀ i, i < m → DataW.trod enc P w base spare held n e ((cs.drop (i * P.cellsOf e)).take (P.cellsOf e)) = xs[i]? := by
  cases fuel with
  | zero => simp [DataW.trod] at h
  | succ n =>
    unfold DataW.trod at h
    rw [ht] at h
    split at h <;> simp_all
    obtain ⟨hl, xs, hp, hd⟩ := h
    exact ⟨xs, by simpa using mapM_some_length hp, fun i hi => mapM_some_get hp i i (List.getElem?_range hi)⟩

def CellOk (ψ : Nat → FuncId) (W : World) (ct : CT) (v : Value) : Prop :=
  ∃ a a', Ty ct a ∧ VD id (fun _ => False) a a' ∧ a'.cell = true ∧ VR ψ W (fun c => c < W.heap.size) (fun _ => (0, 0)) (fun _ => False) a' v

section
variable {H : Type} {enc : TypeId × Value → H} {P : Program} {W : World} {ψ : Nat → FuncId}

theorem fields_open {F : TypeId → Option (List CT)} {n : Nat} {cs : List Value}
    (hF : ∀ t cs x ts, F t = some ts → DataW.trod enc P W 0 (fun _ => true) true n t cs = some x → cs.length = ts.length ∧ ∀ (j : Nat) (ct : CT), ts[j]? = some ct → ∃ v, cs[j]? = some v ∧ CellOk ψ W ct v) :
    ∀ (fs : List Field) (off : Nat) (ts : List CT), fieldsT F P fs off = some ts → (∀ f ∈ fs, ∃ x, DataW.trod enc P W 0 (fun _ => true) true n f.type ((cs.drop f.offset).take (P.cellsOf f.type)) = some x) →
      ∀ (j : Nat) (ct : CT), ts[j]? = some ct → ∃ v, cs[off + j]? = some v ∧ CellOk ψ W ct v := by
  intro fs
  induction fs with
  | nil => intro off ts h _ j ct hj; simp only [fieldsT, Option.some.injEq] at h; subst h; simp at hj
  | cons f r ih =>
    intro off ts h hx j ct hj
    simp only [fieldsT, Option.bind_eq_some_iff] at h
    obtain ⟨t1, h1, h⟩ := h
    split at h
    · rename_i hc
      simp only [Option.map_eq_some_iff] at h
      obtain ⟨t2, h2, rfl⟩ := h
      rcases Nat.lt_or_ge j t1.length with hl | hl
      · rw [List.getElem?_append_left hl] at hj
        obtain ⟨x, q⟩ := hx f (by simp)
        obtain ⟨v, q1, q2⟩ := (hF _ _ _ _ h1 q).2 j ct hj
        refine ⟨v, ?_, q2⟩
        rw [List.getElem?_take] at q1
        split at q1
        · rw [List.getElem?_drop] at q1; rw [← hc.1]; exact q1
        · cases q1
      · rw [List.getElem?_append_right hl] at hj
        obtain ⟨v, q1, q2⟩ := ih _ _ h2 (fun f hf => hx f (by simp [hf])) _ ct hj
        exact ⟨v, by rw [← q1]; congr 1; omega, q2⟩
    · cases h

theorem cells_open : ∀ (n k : Nat) (t : TypeId) (cs : List Value) (x : DataW H × List MemPlace) (ts : List CT), flatT P k t = some ts → DataW.trod enc P W 0 (fun _ => true) true n t cs = some x →
    cs.length = ts.length ∧ ∀ (j : Nat) (ct : CT), ts[j]? = some ct → ∃ v, cs[j]? = some v ∧ CellOk ψ W ct v := by
  intro n
  induction n with
  | zero => intro k t cs x ts _ h; simp [DataW.trod] at h
  | succ n ih =>
    intro k t cs x ts hf h
    cases k with
    | zero => simp [flatT] at hf
    | succ k =>
      have one : ∀ {v : Value} {ct : CT}, cs = [v] → ts = [ct] → CellOk ψ W ct v → cs.length = ts.length ∧ ∀ (j : Nat) (ct : CT), ts[j]? = some ct → ∃ v, cs[j]? = some v ∧ CellOk ψ W ct v := by
        intro v ct h1 h2 h3
        subst h1; subst h2
        refine ⟨rfl, fun j ct' hj => ?_⟩
        cases j with
        | zero => simp only [List.getElem?_cons_zero, Option.some.injEq] at hj; subst hj; exact ⟨v, rfl, h3⟩
        | succ j => simp at hj
      unfold flatT at hf
      split at hf
      · rename_i ht
        cases hf
        obtain ⟨b, e, _⟩ := DataW.trod_bool ht h
        exact one e rfl ⟨_, _, .bool b, .bool b, rfl, .bool b⟩
      · rename_i k' ht
        cases hf
        obtain ⟨m, e, _, hw⟩ := DataW.trod_int ht h
        simp only [Lit.wf, Bool.and_eq_true, decide_eq_true_eq] at hw
        exact one e rfl ⟨_, _, .int k' m hw.1 hw.2, .int k' m, rfl, .int k' m⟩
      · rename_i ht
        cases hf
        obtain ⟨s, e, _, hw⟩ := DataW.trod_string ht h
        refine one e rfl ⟨.str s.data.toList, _, .str _ ?_, .str _, rfl, ?_⟩
        · simp only [maxLen] at hw
          have : s.data.toList.length = s.size := rfl
          omega
        · have := VR.str (ψ := ψ) (w := W) (S := fun c => c < W.heap.size) (m := fun _ => (0, 0)) (A := fun _ => False) s.data.toList
          exact this
      · rename_i el ht
        simp only [Option.bind_eq_some_iff] at hf
        obtain ⟨us, hu, hf⟩ := hf
        split at hf
        · rename_i hz
          obtain ⟨hz, hz0⟩ := hz
          cases hf
          rcases DataW.trod_slice ht h with ⟨e, _⟩ | ⟨a, len, cap, elems, rest, n', hn, e, _, _, hl, hm, hlen, hel, hsp, _⟩
          · exact one e rfl ⟨.ro us.length [] true, .nils, .slice us [] true (by simp) (by simp) (by simp), .ronil _ _, rfl, .nils⟩
          · cases hn
            refine one e rfl ?_
            have row : ∀ i, i < cap → ∃ vs y, W.cells? 0 (a.add (i * us.length)) us.length = some vs ∧ DataW.trod enc P W 0 (fun _ => true) true n el vs = some y := by
              intro i hi
              rcases Nat.lt_or_ge i len with hil | hil
              · have := hel i hil
                rw [List.getElem?_eq_getElem (by omega), Option.bind_eq_some_iff, ← hz] at this
                obtain ⟨vs, q1, q2⟩ := this
                exact ⟨vs, _, q1, q2⟩
              · obtain ⟨q0, q⟩ := hsp rfl
                have := q (i - len) (by omega)
                rw [List.getElem?_eq_getElem (by omega), Option.bind_eq_some_iff, ← hz, show len + (i - len) = i by omega] at this
                obtain ⟨vs, q1, q2⟩ := this
                exact ⟨vs, _, q1, q2⟩
            rcases Nat.eq_zero_or_pos cap with hc0 | hc0
            · subst hc0
              obtain rfl : len = 0 := by omega
              exact ⟨.ro us.length [] true, .ro us.length [] true, .slice us [] true (by simp) (by simp) (by simp), .ro _ [] [] true true (by simp) rfl id (by simp) (by simp), rfl, .roe _ _ _⟩
            · obtain ⟨b, off, spot⟩ := a
              have hfirst : ∃ v, W.cell? ⟨b, off, spot⟩ = some v := by
                obtain ⟨vs, _, q1, _⟩ := row 0 hc0
                obtain ⟨_, q2, q3⟩ := World.cells?_some q1
                have := q3 0 hz0
                rw [List.getElem?_eq_getElem (by omega)] at this
                exact ⟨_, by simpa [Addr.add] using this⟩
              obtain ⟨v0, hv0⟩ := hfirst
              obtain rfl : spot = none := World.cell?_spot hv0
              have hS : b < W.heap.size := by
                unfold World.cell? at hv0
                split at hv0
                · rename_i hb; exact (Array.getElem?_eq_some_iff.1 hb).1
                · cases hv0
              have key : ∀ p : Nat × Nat, ∃ q : Value × AV × AV, p.1 < len → ∀ ct, us[p.2]? = some ct → W.cell? ⟨b, off + p.1 * us.length + p.2, none⟩ = some q.1 ∧ Ty ct q.2.1 ∧ VD id (fun _ => False) q.2.1 q.2.2 ∧ q.2.2.cell = true ∧
                  VR ψ W (fun c => c < W.heap.size) (fun _ => (0, 0)) (fun _ => False) q.2.2 q.1 := by
                intro ⟨i, j⟩
                by_cases hi : i < len
                · cases hj : us[j]? with
                  | none => exact ⟨default, fun _ ct q => by cases q⟩
                  | some ct =>
                    obtain ⟨vs, y, q1, q2⟩ := row i (by omega)
                    obtain ⟨v, q3, c1, c2, q4, q5, q6, q7⟩ := (ih _ _ _ _ _ hu q2).2 j ct hj
                    refine ⟨(v, c1, c2), fun _ ct' q => ?_⟩
                    cases q
                    refine ⟨?_, q4, q5, q6, q7⟩
                    obtain ⟨_, r1, r2⟩ := World.cells?_some q1
                    have hjl : j < us.length := (List.getElem?_eq_some_iff.1 hj).1
                    have := r2 j hjl
                    rw [q3] at this
                    rw [← this]
                    congr 1
                    simp only [Addr.add]
                    split <;> split <;> simp_all <;> omega
                · exact ⟨default, fun q => absurd q hi⟩
              obtain ⟨F, hF⟩ := Classical.axiomOfChoice key
              let es : List (List AV) := (List.range len).map fun i => (List.range us.length).map fun j => (F (i, j)).2.1
              let es' : List (List AV) := (List.range len).map fun i => (List.range us.length).map fun j => (F (i, j)).2.2
              have g1 : ∀ (i : Nat) (e : List AV), es[i]? = some e → i < len ∧ e = (List.range us.length).map fun j => (F (i, j)).2.1 := by
                intro i e he
                simp only [es, List.getElem?_map, Option.map_eq_some_iff] at he
                obtain ⟨i', q1, q2⟩ := he
                have := List.getElem?_eq_some_iff.1 q1
                obtain ⟨q3, q4⟩ := this
                simp at q3 q4
                subst q4
                exact ⟨q3, q2.symm⟩
              have g1' : ∀ (i : Nat) (e : List AV), es'[i]? = some e → i < len ∧ e = (List.range us.length).map fun j => (F (i, j)).2.2 := by
                intro i e he
                simp only [es', List.getElem?_map, Option.map_eq_some_iff] at he
                obtain ⟨i', q1, q2⟩ := he
                have := List.getElem?_eq_some_iff.1 q1
                obtain ⟨q3, q4⟩ := this
                simp at q3 q4
                subst q4
                exact ⟨q3, q2.symm⟩
              have g2 : ∀ (G : Nat → AV) (j : Nat) (x : AV), ((List.range us.length).map G)[j]? = some x → ∃ ct, us[j]? = some ct ∧ x = G j := by
                intro G j x hx
                simp only [List.getElem?_map, Option.map_eq_some_iff] at hx
                obtain ⟨j', q1, q2⟩ := hx
                obtain ⟨q3, q4⟩ := List.getElem?_eq_some_iff.1 q1
                simp at q3 q4
                subst q4
                exact ⟨us[j], List.getElem?_eq_getElem q3, q2.symm⟩
              have l1 : es.length = len := by simp [es]
              have l2 : es'.length = len := by simp [es']
              refine ⟨.ro us.length es (decide (cap = len)), .ro us.length es' (decide (cap = len)), .slice us es _ ?_ ?_ ?_, .ro _ es es' _ _ ?_ (by rw [l1, l2]) id ?_ ?_, rfl, ?_⟩
              · rw [l1]; simp only [maxLen] at hm; omega
              · intro i e he; rw [(g1 i e he).2]; simp
              · intro i e j ct y he hct hy
                obtain ⟨q1, rfl⟩ := g1 i e he
                obtain ⟨ct', q2, rfl⟩ := g2 _ j y hy
                rw [hct] at q2
                cases q2
                exact (hF (i, j) q1 ct hct).2.1
              · intro e he y hy
                obtain ⟨i, he⟩ := List.getElem?_of_mem he
                obtain ⟨j, hy⟩ := List.getElem?_of_mem hy
                obtain ⟨q1, rfl⟩ := g1 i e he
                obtain ⟨ct', q2, rfl⟩ := g2 _ j y hy
                exact (hF (i, j) q1 ct' q2).2.1.isC
              · intro i e e' he he'
                rw [(g1 i e he).2, (g1' i e' he').2]; simp
              · intro i e e' j y y' he he' hy hy'
                obtain ⟨q1, rfl⟩ := g1 i e he
                obtain ⟨_, rfl⟩ := g1' i e' he'
                obtain ⟨ct', q2, rfl⟩ := g2 _ j y hy
                obtain ⟨_, _, rfl⟩ := g2 _ j y' hy'
                exact (hF (i, j) q1 ct' q2).2.2.1
              · have := VR.ro (ψ := ψ) (w := W) (S := fun c => c < W.heap.size) (m := fun _ => (0, 0)) (A := fun _ => False) us.length es' (decide (cap = len)) b off cap (fun i j => (F (i, j)).1) hS
                  (fun i e he => by rw [(g1' i e he).2]; simp) (by rw [l2]; exact hl) (fun q => by rw [l2]; simpa using q)
                  (fun i e j y he hy => by
                    obtain ⟨q1, rfl⟩ := g1' i e he
                    obtain ⟨ct', q2, rfl⟩ := g2 _ j y hy
                    have := hF (i, j) q1 ct' q2
                    exact ⟨this.2.2.2.1, this.1⟩)
                  (fun i e j y he hy => by
                    obtain ⟨q1, rfl⟩ := g1' i e he
                    obtain ⟨ct', q2, rfl⟩ := g2 _ j y hy
                    exact (hF (i, j) q1 ct' q2).2.2.2.2)
                rw [l2] at this
                exact this
        · cases hf
      · rename_i fs ht
        simp only [Option.bind_eq_some_iff] at hf
        obtain ⟨us, hu, hf⟩ := hf
        split at hf
        · rename_i hz
          cases hf
          obtain ⟨xs, n', hn, _, hcl, hxl, hx⟩ := DataW.trod_struct ht h
          cases hn
          refine ⟨by rw [hcl, hz], fun j ct hj => ?_⟩
          have := fields_open (cs := cs) (F := flatT P k) (n := n) (fun t cs x ts h1 h2 => ih k t cs x ts h1 h2) fs.toList 0 _ hu (fun f hf => by
            obtain ⟨i, hi⟩ := List.getElem?_of_mem hf
            have hi' : fs[i]? = some f := by simpa using hi
            have hlt : i < fs.size := (Array.getElem?_eq_some_iff.1 hi').1
            have := hx i f hi'
            rw [List.getElem?_eq_getElem (by omega)] at this
            exact ⟨_, this⟩) j ct hj
          simpa using this
        · cases hf
      · rename_i m' e ht
        simp only [Option.bind_eq_some_iff] at hf
        obtain ⟨us, hu, hf⟩ := hf
        split at hf
        · rename_i hz
          obtain ⟨hz1, hz2⟩ := hz
          cases hf
          obtain ⟨xs, n', hn, hcl, hxl, hx⟩ := trod_array ht h
          cases hn
          have hlen : (List.replicate m' us).flatten.length = m' * us.length := by simp
          refine ⟨by rw [hcl, hlen, hz2], fun j ct hj => ?_⟩
          have hjl : j < m' * us.length := by rw [← hlen]; exact (List.getElem?_eq_some_iff.1 hj).1
          have hk : 0 < us.length := by
            rcases Nat.eq_zero_or_pos us.length with q | q
            · rw [q, Nat.mul_zero] at hjl; omega
            · exact q
          rw [flatten_rep us m' j hjl] at hj
          have hq : j / us.length < m' := Nat.div_lt_of_lt_mul (by rw [Nat.mul_comm]; exact hjl)
          have hxq := hx (j / us.length) hq
          rw [List.getElem?_eq_getElem (by omega)] at hxq
          obtain ⟨v, q1, q2⟩ := (ih k e _ _ us hu hxq).2 (j % us.length) ct hj
          refine ⟨v, ?_, q2⟩
          rw [List.getElem?_take] at q1
          split at q1
          · rw [List.getElem?_drop, ← hz1] at q1
            rw [← q1]; congr 1
            exact (Nat.div_add_mod' j us.length).symm
          · cases q1
        · cases hf
      · cases hf


/-- The type of an argument. -/
inductive AT where
  | c (ct : CT)
  | g (ts : List CT)

def AT.has : AT → AV → Prop
  | .c ct, a => Ty ct a
  | .g ts, a => ∃ es, a = .agg es ∧ es.length = ts.length ∧ ∀ (j : Nat) (ct : CT) (x : AV), ts[j]? = some ct → es[j]? = some x → Ty ct x

def argT (P : Program) (t : TypeId) : Option AT :=
  match P.underlying t with
  | some (.struct _) => (flatT P 20 t).map .g
  | some (.array _ _) => (flatT P 20 t).map .g
  | some .bool | some (.int _) | some .string | some (.slice _) => match flatT P 20 t with | some [ct] => some (.c ct) | _ => none
  | _ => none

theorem cells_plain {t : TypeId} {base : Nat} {v : Value} (hu : P.underlying t = some .bool ∨ (∃ k, P.underlying t = some (.int k)) ∨ P.underlying t = some .string ∨ ∃ e, P.underlying t = some (.slice e)) (h : Value.okWide P W .any base t v) :
    v.cells = #[v] := by
  cases v <;> try rfl
  rcases hu with hu | ⟨k, hu⟩ | hu | ⟨e, hu⟩ <;> simp [Value.okWide, hu, Cell.okWide, Cell.ok] at h

theorem arg_open {t : TypeId} {at_ : AT} (ha : argT P t = some at_) {base : Nat} {v : Value} (hv : Value.okWide P W .any base t v) {d : DataW H} {p : List MemPlace} (h : DataW.Trod enc P W 0 (fun _ => true) true t v d p) :
    ∃ a a', at_.has a ∧ VD id (fun _ => False) a a' ∧ VR ψ W (fun c => c < W.heap.size) (fun _ => (0, 0)) (fun _ => False) a' v := by
  obtain ⟨fuel, h⟩ := h
  have plain : (P.underlying t = some .bool ∨ (∃ k, P.underlying t = some (.int k)) ∨ P.underlying t = some .string ∨ ∃ e, P.underlying t = some (.slice e)) →
      (match flatT P 20 t with | some [ct] => some (AT.c ct) | _ => none) = some at_ → ∃ a a', at_.has a ∧ VD id (fun _ => False) a a' ∧ VR ψ W (fun c => c < W.heap.size) (fun _ => (0, 0)) (fun _ => False) a' v := by
    intro hu he
    split at he
    · rename_i ct hf
      cases he
      rw [cells_plain hu hv] at h
      obtain ⟨_, q⟩ := cells_open (ψ := ψ) _ _ _ _ _ _ hf h
      obtain ⟨v', q1, a, a', q2, q3, _, q4⟩ := q 0 ct rfl
      simp only [List.getElem?_cons_zero, Option.some.injEq] at q1
      subst q1
      exact ⟨a, a', q2, q3, q4⟩
    · cases he
  have whole : (∃ cs, v = .agg cs) → (flatT P 20 t).map AT.g = some at_ → ∃ a a', at_.has a ∧ VD id (fun _ => False) a a' ∧ VR ψ W (fun c => c < W.heap.size) (fun _ => (0, 0)) (fun _ => False) a' v := by
    rintro ⟨cs, rfl⟩ ha
    simp only [Option.map_eq_some_iff] at ha
    obtain ⟨ts, hf, rfl⟩ := ha
    obtain ⟨hl, q⟩ := cells_open (ψ := ψ) _ _ _ _ _ _ hf h
    simp only [Value.cells] at hl q
    have key : ∀ j : Nat, ∃ x : AV × AV, ∀ ct, ts[j]? = some ct → Ty ct x.1 ∧ VD id (fun _ => False) x.1 x.2 ∧ x.2.cell = true ∧ ∃ v, cs.toList[j]? = some v ∧ VR ψ W (fun c => c < W.heap.size) (fun _ => (0, 0)) (fun _ => False) x.2 v := by
      intro j
      cases hj : ts[j]? with
      | none => exact ⟨default, fun _ q => by cases q⟩
      | some ct =>
        obtain ⟨v, q1, a, a', q2, q3, q4, q5⟩ := q j ct hj
        exact ⟨(a, a'), fun ct' e => by cases e; exact ⟨q2, q3, q4, v, q1, q5⟩⟩
    obtain ⟨F, hF⟩ := Classical.axiomOfChoice key
    have g2 : ∀ (G : Nat → AV) (j : Nat) (x : AV), ((List.range ts.length).map G)[j]? = some x → ∃ ct, ts[j]? = some ct ∧ x = G j := by
      intro G j x hx
      simp only [List.getElem?_map, Option.map_eq_some_iff] at hx
      obtain ⟨j', q1, q2⟩ := hx
      obtain ⟨q3, q4⟩ := List.getElem?_eq_some_iff.1 q1
      simp at q3 q4
      subst q4
      exact ⟨ts[j], List.getElem?_eq_getElem q3, q2.symm⟩
    refine ⟨.agg ((List.range ts.length).map fun j => (F j).1), .agg ((List.range ts.length).map fun j => (F j).2), ⟨_, rfl, by simp, ?_⟩, .agg _ _ (by simp) ?_, .agg _ _ ?_ ?_ ?_⟩
    · intro j ct x hct hx
      obtain ⟨ct', q1, rfl⟩ := g2 _ j x hx
      exact (hF j ct hct).1
    · intro j x x' hx hx'
      obtain ⟨ct, q1, rfl⟩ := g2 _ j x hx
      obtain ⟨_, _, rfl⟩ := g2 _ j x' hx'
      exact (hF j ct q1).2.1
    · simp only [List.length_map, List.length_range]
      rw [← hl]; simp
    · intro j x hx
      obtain ⟨ct, q1, rfl⟩ := g2 _ j x hx
      exact (hF j ct q1).2.2.1
    · intro j x hx
      obtain ⟨ct, q1, rfl⟩ := g2 _ j x hx
      obtain ⟨v, q2, q3⟩ := (hF j ct q1).2.2.2
      have e : cs[j]? = some v := by simpa using q2
      rw [Array.getD_eq_getD_getElem?, e]
      exact q3
  unfold argT at ha
  split at ha
  · rename_i fs ht
    simp only [Value.okWide, ht] at hv
    obtain ⟨cs, hv, _, _⟩ := hv
    exact whole ⟨cs, hv⟩ ha
  · rename_i m e ht
    simp only [Value.okWide, ht] at hv
    obtain ⟨cs, hv, _, _⟩ := hv
    exact whole ⟨cs, hv⟩ ha
  · rename_i ht; exact plain (.inl ht) ha
  · rename_i k ht; exact plain (.inr (.inl ⟨k, ht⟩)) ha
  · rename_i ht; exact plain (.inr (.inr (.inl ht))) ha
  · rename_i e ht; exact plain (.inr (.inr (.inr ⟨e, ht⟩))) ha
  · cases ha

def TyAll : List AT → List AV → Prop
  | [], [] => True
  | a :: r, x :: s => a.has x ∧ TyAll r s
  | _, _ => False

theorem args_open {base : Nat} : ∀ {ts : List TypeId} {ats : List AT} {vs : List Value} {ds : List (DataW H)} {p : List MemPlace}, ts.map (argT P) = ats.map some →
    (∀ (j : Nat) (t : TypeId) (v : Value), ts[j]? = some t → vs[j]? = some v → Value.okWide P W .any base t v) → DataW.TrodAll enc P W 0 (fun _ => true) true ts vs ds p →
    ∃ us us', TyAll ats us ∧ Rel2 (VD id fun _ => False) us us' ∧ us'.length = vs.length ∧ ∀ (j : Nat) (x : AV) (v : Value), us'[j]? = some x → vs[j]? = some v → VR ψ W (fun c => c < W.heap.size) (fun _ => (0, 0)) (fun _ => False) x v
  | [], [], vs, ds, p, _, _, h => by
    obtain ⟨rfl, _, _⟩ := ChangeShapes.trodAll_nil h
    exact ⟨[], [], trivial, ⟨rfl, by simp⟩, rfl, by simp⟩
  | t :: ts, at_ :: ats, _, _, _, hm, hv, h => by
    obtain ⟨v, vs1, d, ds1, p1, q1, rfl, rfl, rfl, h1, h2⟩ := ChangeShapes.trodAll_cons h
    simp only [List.map_cons, List.cons.injEq] at hm
    obtain ⟨a, a', r1, r2, r3⟩ := arg_open (ψ := ψ) hm.1 (hv 0 t v rfl rfl) h1
    obtain ⟨us, us', s1, s2, s3, s4⟩ := args_open hm.2 (fun j t v e1 e2 => hv (j + 1) t v e1 e2) h2
    refine ⟨a :: us, a' :: us', ⟨r1, s1⟩, ⟨by simp [s2.1], fun j x x' e1 e2 => ?_⟩, by simp [s3], fun j x v' e1 e2 => ?_⟩
    · cases j with
      | zero => cases e1; cases e2; exact r2
      | succ j => exact s2.2 j x x' e1 e2
    · cases j with
      | zero => cases e1; cases e2; exact r3
      | succ j => exact s4 j x v' e1 e2
  | [], _ :: _, _, _, _, hm, _, _ => by simp at hm
  | _ :: _, [], _, _, _, hm, _, _ => by simp at hm

/-- A law that says true on the second machine says true. -/
theorem law_calls {φ : FuncId → Option Nat} {D : WProg} (hL : Linked P φ ψ (erProg D)) (hok : okTree D.fns = true) {f : Nat} {ts : List TypeId} {ats : List AT} (hts : ts.map (argT P) = ats.map some)
    (core : ∀ us, TyAll ats us → FnW D f us = some (.bool true)) {base : Nat} {args : Array Value} {ds : List (DataW H)} {p : List MemPlace}
    (hv : ∀ (j : Nat) (t : TypeId) (v : Value), ts[j]? = some t → args[j]? = some v → Value.okWide P W .any base t v) (hA : DataW.TrodAll enc P W 0 (fun _ => true) true ts args.toList ds p) :
    Calls P (ψ f) args W fun e W' => e = .returned (.bool true) ∧ (∀ c, c < W.heap.size → W'.heap[c]? = W.heap[c]?) ∧ W.heap.size ≤ W'.heap.size ∧ W'.os = W.os ∧ W'.output = W.output := by
  obtain ⟨us, us', h1, h2, h3, h4⟩ := args_open (ψ := ψ) hts (fun j t v e1 e2 => hv j t v e1 (by simpa using e2)) hA
  obtain ⟨n, hc⟩ := fnW_call.1 (core us h1)
  obtain ⟨v', hc', hvd⟩ := callW_ok hok h2 hc
  rw [hvd.bool_inv] at hc'
  refine (callF_ok hL hc' (w := W) (S := fun c => c < W.heap.size) (m := fun _ => (0, 0)) (cargs := args) (fun _ h => h) (by rw [h3]; simp) fun j x hx => ?_).mono ?_
  · have hj : j < args.size := by have := (List.getElem?_eq_some_iff.1 hx).1; rw [h3] at this; simpa using this
    rw [Array.getD_eq_getD_getElem?, Array.getElem?_eq_getElem hj]
    exact h4 j x _ hx (by simp [hj])
  · rintro e W' ⟨cv, S', m', rfl, hr, q1, q2, q3, q4⟩
    rw [hr.inv_bool]
    exact ⟨rfl, q1, q2, q3, q4⟩


theorem trodAll_old {W' : World} (hh : ∀ c, c < W.heap.size → W'.heap[c]? = W.heap[c]?) {base : Nat} {sp : Nat → Bool} {held : Bool} : ∀ {ts : List TypeId} {vs : List Value} {ds : List (DataW H)} {ps : List MemPlace},
    DataW.TrodAll enc P W base sp held ts vs ds ps → (∀ p ∈ ps, p.block < W.heap.size) → DataW.TrodAll enc P W' base sp held ts vs ds ps
  | [], [], [], _, h, _ => h
  | _ :: _, _ :: _, _ :: _, _, ⟨p, q, ⟨n, h1⟩, h2, e⟩, hs => ⟨p, q, ⟨n, DataW.trod_carry n _ _ _ h1 fun x hx => by
      have hlt := hs x (by rw [e]; exact List.mem_append_left _ hx)
      cases x with
      | cell b off => simp only [World.sameAt, World.cell?]; rw [hh b hlt]
      | map b => exact hh b hlt⟩, trodAll_old hh h2 (fun x hx => hs x (by rw [e]; exact List.mem_append_right _ hx)), e⟩

theorem keptBut_old {W' : World} (hh : ∀ c, c < W.heap.size → W'.heap[c]? = W.heap[c]?) (ho : W'.os = W.os) (hp : W'.output = W.output) (may : MemPlace → Prop) : W.keptBut W' may := by
  have h := World.keptBut_refl W may
  refine ⟨ho, hp, fun i hi => ?_⟩
  have := h.2.2 i hi
  rw [hh i hi]
  exact this

/-- What a law's row asks behind the call, where the law said true and all that was there before stays. -/
theorem law_post {f : Func} {s : ChangeSpec} {fresh handsOn again : Bool} {W' : World} {args : Array Value} {ds gs : List (DataW H)} {before : List MemPlace} {tb : TypeId}
    (kids : Kids P (· < P.types.size)) (full : ∀ t e, t < P.types.size → P.underlying t = some (.slice e) → 0 < P.cellsOf e)
    (hvars0 : s.vars = []) (hW : DataW.Whole enc P f.params.toList s.vars false W args.toList ds gs before) (hfn : s.fn H (ds ++ gs) = { results := [.lit (.bool true)], args := ds })
    (hps : ∀ t ∈ f.params.toList, t < P.types.size) (hr : f.resultTypes = #[tb]) (htb : P.underlying tb = some .bool)
    (hh : ∀ c, c < W.heap.size → W'.heap[c]? = W.heap[c]?) (_hsz : W.heap.size ≤ W'.heap.size) (ho : W'.os = W.os) (hp : W'.output = W.output) :
    s.post enc P f false fresh handsOn again W args (.bool true) W' := by
  have hlt : ∀ p ∈ before, p.block < W.heap.size := hW.lt
  have hW' := hW
  obtain ⟨p, q, hA, hV, rfl, hz, _⟩ := hW
  rw [hvars0] at hV
  obtain ⟨rfl, rfl⟩ := ChangeShapes.trodVars_none hV
  simp only [List.append_nil] at hlt hz hW' hfn
  have hargs : ∀ sp : Nat → Bool, (∀ x ∈ p, sp x.block = true) → DataW.TrodAll enc P W' 0 sp true f.params.toList args.toList ds p := fun sp hsp =>
    trodAll_old hh (DataW.TrodAll.respare kids full hps hA hsp) hlt
  have hvars : ∀ sp : Nat → Bool, DataW.TrodVars enc P W' sp s.vars [] [] := fun sp => by rw [hvars0]; rfl
  have hres : ∀ (b : Nat) (sp : Nat → Bool) (hd : Bool), DataW.TrodAll enc P W' b sp hd f.resultTypes.toList ((Value.bool true).resultList f.resultTypes.size) [.lit (.bool true)] [] := fun b sp hd => by
    rw [hr]; exact ChangeShapes.trodAll_mk1 (RowKit.shut_bool htb true)
  have hok : ∀ (j : Nat) (t : TypeId) (r : Value), f.resultTypes[j]? = some t → ((Value.bool true).resultList f.resultTypes.size)[j]? = some r → Value.okWide P W' .any 0 t r :=
    RowKit.ok_one hr rfl (by simp [Value.okWide, htb, Cell.okWide, Cell.ok])
  have hold : ∀ x ∈ p, (fun b => decide (b < W.heap.size)) x.block = true := fun x hx => by simpa using hlt x hx
  refine ⟨ds, [], p, [], p, [], hW', ?_, ?_, ?_, keptBut_old hh ho hp _, fun _ => ⟨hok, [.lit (.bool true)] ++ ds, [], ([] ++ p) ++ [], ⟨[] ++ p, [], ?_, hvars _, rfl, ?_, fun h => by cases h⟩, ?_⟩⟩
  · rw [List.append_nil, hfn]; exact hres _ _ _
  · rw [List.append_nil, hfn]; exact hargs _ hold
  · rw [List.append_nil, hfn]; exact hvars _
  · exact ChangeShapes.trodAll_append (hargs _ fun _ _ => rfl) (hres _ _ _)
  · intro b off hb
    simp only [List.nil_append, List.append_nil] at hb
    have := hz b off hb
    unfold World.frozen? at this ⊢
    rw [hh b (hlt _ hb)]
    exact this
  · intro x hx _
    simpa using hx

theorem trodAll_len {base : Nat} {sp : Nat → Bool} {held : Bool} : ∀ {ts : List TypeId} {vs : List Value} {ds : List (DataW H)} {ps : List MemPlace}, DataW.TrodAll enc P W base sp held ts vs ds ps → ds.length = ts.length
  | [], [], [], _, _ => rfl
  | _ :: _, _ :: _, _ :: _, _, ⟨_, _, _, h2, _⟩ => by simp [trodAll_len h2]

def isTrue : Option AV → Bool
  | some (.bool true) => true
  | _ => false
theorem isTrue_eq {o : Option AV} (h : isTrue o = true) : o = some (.bool true) := by
  unfold isTrue at h
  split at h
  · rfl
  · cases h

theorem ty_slice1 {ct : CT} {a : AV} (h : Ty (.slice [ct]) a) : ∃ (xs : List AV) (e : Bool), a = .ro 1 (xs.map fun x => [x]) e ∧ xs.length < 2 ^ 63 ∧ ∀ x ∈ xs, Ty ct x := by
  cases h with
  | slice ts es ex hn hw h =>
    have one : ∀ e ∈ es, e = [e.headD .undef] ∧ Ty ct (e.headD .undef) := by
      intro e he
      obtain ⟨i, hi⟩ := List.getElem?_of_mem he
      have hl := hw i e hi
      match e, hl with
      | [x], _ => exact ⟨rfl, h i [x] 0 ct x hi rfl rfl⟩
    refine ⟨es.map fun e => e.headD .undef, ex, ?_, by simpa using hn, ?_⟩
    · simp only [List.map_map, List.length_cons, List.length_nil, Nat.zero_add, AV.ro.injEq, true_and, and_true]
      have : es.map ((fun x => [x]) ∘ fun e => e.headD AV.undef) = es.map id := List.map_congr_left fun e he => by simpa using (one e he).1.symm
      rw [this, List.map_id]
    · intro x hx
      obtain ⟨e, he, rfl⟩ := List.mem_map.1 hx
      exact (one e he).2

theorem ty_map {α : Type} {ct : CT} {g : α → AV} (h : ∀ a, Ty ct a → ∃ x, a = g x) : ∀ (xs : List AV), (∀ x ∈ xs, Ty ct x) → ∃ ys : List α, xs = ys.map g := by
  intro xs
  induction xs with
  | nil => intro _; exact ⟨[], rfl⟩
  | cons a r ih =>
    intro hx
    obtain ⟨y, rfl⟩ := h a (hx a (by simp))
    obtain ⟨ys, rfl⟩ := ih fun x q => hx x (by simp [q])
    exact ⟨y :: ys, rfl⟩

end
end Go.Pw
end

section
set_option linter.unusedSimpArgs false
set_option linter.unusedVariables false
/- From the type of an argument to lists: small things. No conditions beyond those that each theorem names. -/
namespace Go.Pw
open Go Go.Pav

theorem ty_map2 {α : Type} {g : α → List AV} {Q : List AV → Prop} {R : α → Prop} (h : ∀ a, Q a → ∃ x, a = g x ∧ R x) : ∀ (xs : List (List AV)), (∀ x ∈ xs, Q x) → ∃ ys : List α, xs = ys.map g ∧ ∀ y ∈ ys, R y := by
  intro xs
  induction xs with
  | nil => intro _; exact ⟨[], rfl, by simp⟩
  | cons a r ih =>
    intro hx
    obtain ⟨y, rfl, hy⟩ := h a (hx a (by simp))
    obtain ⟨ys, rfl, hys⟩ := ih fun x q => hx x (by simp [q])
    exact ⟨y :: ys, rfl, by simpa using ⟨hy, hys⟩⟩

theorem ty_slice {ts : List CT} {a : AV} (h : Ty (.slice ts) a) : ∃ (es : List (List AV)) (e : Bool), a = .ro ts.length es e ∧ es.length < 2 ^ 63 ∧ ∀ x ∈ es, x.length = ts.length ∧ ∀ (j : Nat) (ct : CT) (v : AV), ts[j]? = some ct → x[j]? = some v → Ty ct v := by
  cases h with
  | slice ts es ex hn hw h =>
    refine ⟨es, ex, rfl, hn, fun x hx => ?_⟩
    obtain ⟨i, hi⟩ := List.getElem?_of_mem hx
    exact ⟨hw i x hi, fun j ct v e1 e2 => h i x j ct v hi e1 e2⟩

theorem ty_u8 {v : AV} (h : Ty (.int .u8) v) : ∃ n : Int, v = .int .u8 n ∧ 0 ≤ n ∧ n ≤ 255 := by
  cases h with
  | int k n h1 h2 => exact ⟨n, rfl, h1, h2⟩
theorem ty_u64 {v : AV} (h : Ty (.int .u64) v) : ∃ n : Int, v = .int .u64 n ∧ 0 ≤ n ∧ n ≤ 18446744073709551615 := by
  cases h with
  | int k n h1 h2 => exact ⟨n, rfl, h1, h2⟩
theorem ty_i64 {v : AV} (h : Ty (.int .i64) v) : ∃ n : Int, v = .int .i64 n ∧ -9223372036854775808 ≤ n ∧ n ≤ 9223372036854775807 := by
  cases h with
  | int k n h1 h2 => exact ⟨n, rfl, h1, h2⟩
theorem ty_str {v : AV} (h : Ty .str v) : ∃ s : List UInt8, v = .str s ∧ s.length < 9223372036854775808 := by
  cases h with
  | str s h => exact ⟨s, rfl, h⟩
theorem ty_bool {v : AV} (h : Ty .bool v) : ∃ b : Bool, v = .bool b := by
  cases h with
  | bool b => exact ⟨b, rfl⟩

theorem ty_ints {a : AV} (h : Ty (.slice [.int .i64]) a) : ∃ xs e, a = L1 xs e := by
  obtain ⟨es, e, rfl, _, hx⟩ := ty_slice h
  obtain ⟨xs, rfl, _⟩ := ty_map2 (g := eI) (R := fun _ => True) (fun l q => by
    obtain ⟨q1, q2⟩ := q
    match l, q1 with
    | [v], _ =>
      obtain ⟨n, rfl, _⟩ := ty_i64 (q2 0 _ v rfl rfl)
      exact ⟨n, rfl, trivial⟩) es hx
  exact ⟨xs, e, rfl⟩

theorem ty_bytes {a : AV} (h : Ty (.slice [.int .u8]) a) : ∃ (xs : List Int) (e : Bool), a = .ro 1 (xs.map eU8) e ∧ ∀ x ∈ xs, 0 ≤ x ∧ x ≤ 255 := by
  obtain ⟨es, e, rfl, _, hx⟩ := ty_slice h
  obtain ⟨xs, rfl, hr⟩ := ty_map2 (g := eU8) (R := fun x : Int => 0 ≤ x ∧ x ≤ 255) (fun l q => by
    obtain ⟨q1, q2⟩ := q
    match l, q1 with
    | [v], _ =>
      obtain ⟨n, rfl, h1⟩ := ty_u8 (q2 0 _ v rfl rfl)
      exact ⟨n, rfl, h1⟩) es hx
  exact ⟨xs, e, rfl, hr⟩

end Go.Pw
end

section
set_option linter.unusedSimpArgs false
set_option linter.unusedVariables false
/- What all rows of this chapter share. No conditions. -/
namespace Go.Proofs.Ytnnhhhkiehenfaa
open Go.ChangeShapes Go.WideShapes Go.ChangeAt Go.RowKit Go.Pav Go.Pw P09

theorem own_ : ownKnob Try.prog.godebug = none := by kernel_rfl
theorem kids_ : Kids Try.prog (· < Try.prog.types.size) := kids_rows (by kernel_rfl) (by kernel_rfl)
theorem full_ : ∀ t e, t < Try.prog.types.size → Try.prog.underlying t = some (.slice e) → 0 < Try.prog.cellsOf e := slices_full_of Try.prog (by kernel_rfl)

theorem has_ : Go.C09.Has prog := ⟨rfl, rfl, rfl, rfl, rfl, rfl, rfl, rfl, rfl, rfl, rfl, rfl, rfl, rfl, rfl, rfl, rfl, rfl, rfl, rfl, rfl, fun _ h => decide_eq_false h, rfl⟩
theorem fns_ : Go.C09.Fns prog := ⟨rfl, rfl, rfl, rfl, rfl, rfl, fun _ h => decide_eq_false h, rfl⟩
theorem fns2_ : Go.C09.Fns2 prog := ⟨rfl, rfl, rfl, rfl, rfl, rfl, rfl, rfl⟩

theorem ty_steps {a : AV} (h : Ty (.slice [.int .u8, .int .u8, .int .u8, .int .u8]) a) : ∃ (xs : List Go.C09.St4) (e : Bool), a = .ro 4 (xs.map Go.C09.e4) e ∧ ∀ s ∈ xs, Go.C09.B4 s := by
  obtain ⟨es, e, rfl, _, hx⟩ := ty_slice h
  obtain ⟨xs, rfl, hr⟩ := ty_map2 (g := Go.C09.e4) (R := Go.C09.B4) (fun l q => by
    obtain ⟨q1, q2⟩ := q
    match l, q1 with
    | [u, v, w, x], _ =>
      obtain ⟨n1, rfl, h1⟩ := ty_u8 (q2 0 _ u rfl rfl)
      obtain ⟨n2, rfl, h2⟩ := ty_u8 (q2 1 _ v rfl rfl)
      obtain ⟨n3, rfl, h3⟩ := ty_u8 (q2 2 _ w rfl rfl)
      obtain ⟨n4, rfl, h4⟩ := ty_u8 (q2 3 _ x rfl rfl)
      exact ⟨⟨n1, n2, n3, n4⟩, rfl, h1, h2, h3, h4⟩) es hx
  exact ⟨xs, e, rfl, hr⟩
end Go.Proofs.Ytnnhhhkiehenfaa
end

section
set_option linter.unusedSimpArgs false
set_option linter.unusedVariables false
/- What the laws RemapsMade and RemapsCompose compute. No conditions beyond those that each theorem names. -/
namespace Go.C09
open Go Go.Pav Go.Pw P09
set_option maxRecDepth 10000
set_option maxHeartbeats 4000000
set_option linter.unusedSimpArgs false
set_option linter.unusedVariables false
attribute [-simp] List.getElem_cons_drop
variable {C : WProg} (H : Has C)
include H

omit H in
theorem mapR_get (G : Int → Int) (n : Int) (j : Nat) : (mapR G n)[j]? = if (j : Int) < n then some (G j) else none := by
  unfold mapR
  by_cases h : (j : Int) < n
  · have : j < n.toNat := by omega
    simp [h, this]
  · have : ¬ j < n.toNat := by omega
    simp [h, this]
omit H in
theorem mapR_len (G : Int → Int) (n : Int) : (mapR G n).length = n.toNat := by simp [mapR]

omit H in
theorem ins_mapR (n a m : Nat) (h : a ≤ n) : ins (mapR id n) a m = mapR (gIns a m) (n + m) := by
  refine List.ext_getElem? fun j => ?_
  unfold ins
  rw [mapR_get, List.getElem?_append, List.length_take, mapR_len, Int.toNat_natCast, Nat.min_eq_left h]
  by_cases h1 : j < a
  · rw [if_pos h1, List.getElem?_take, if_pos h1, mapR_get, if_pos (by omega), if_pos (by omega)]
    simp [gIns, h1]
  · rw [if_neg h1, List.getElem?_append, List.length_replicate]
    by_cases h2 : j - a < m
    · rw [if_pos h2, List.getElem?_replicate, if_pos h2, if_pos (by omega)]
      have k1 : ¬ (j : Int) < a := by omega
      have k2 : (j : Int) < a + m := by omega
      simp [gIns, k1, k2]
    · rw [if_neg h2, List.getElem?_drop, mapR_get]
      have k1 : ¬ (j : Int) < a := by omega
      have k2 : ¬ (j : Int) < a + m := by omega
      by_cases h3 : (j : Int) < n + m
      · rw [if_pos (by omega), if_pos h3]
        simp [gIns, k1, k2]
        omega
      · rw [if_neg (by omega), if_neg h3]

omit H in
theorem rem_mapR (n a m : Nat) (h : a + m ≤ n) : rem (mapR id n) a m = mapR (gRem a m) (n - m) := by
  refine List.ext_getElem? fun j => ?_
  unfold rem
  rw [mapR_get, List.getElem?_append, List.length_take, mapR_len, Int.toNat_natCast, Nat.min_eq_left (by omega)]
  by_cases h1 : j < a
  · rw [if_pos h1, List.getElem?_take, if_pos h1, mapR_get, if_pos (by omega), if_pos (by omega)]
    simp [gRem, h1]
  · rw [if_neg h1, List.getElem?_drop, mapR_get]
    have k1 : ¬ (j : Int) < a := by omega
    by_cases h3 : (j : Int) < n - m
    · rw [if_pos (by omega), if_pos h3]
      simp [gRem, k1]
      omega
    · rw [if_neg (by omega), if_neg h3]

omit H in
theorem mov_mapR (n a m t : Nat) (h : a + m ≤ n) (ht : t ≤ n - m) : mov (mapR id n) a m t = mapR (gMov a m t) n := by
  refine List.ext_getElem? fun j => ?_
  unfold mov
  rw [rem_mapR n a m h, mapR_get, List.getElem?_append, List.length_take, mapR_len, Nat.min_eq_left (by omega)]
  by_cases h1 : j < t
  · rw [if_pos h1, List.getElem?_take, if_pos h1, mapR_get, if_pos (by omega), if_pos (by omega)]
    simp [gMov, h1]
  · rw [if_neg h1, List.getElem?_append, List.length_take, List.length_drop, mapR_len, Int.toNat_natCast, Nat.min_eq_left (by omega)]
    have k1 : ¬ (j : Int) < t := by omega
    by_cases h2 : j - t < m
    · rw [if_pos h2, List.getElem?_take, if_pos h2, List.getElem?_drop, mapR_get, if_pos (by omega), if_pos (by omega)]
      have k2 : (j : Int) < t + m := by omega
      simp [gMov, k1, k2]
      omega
    · rw [if_neg h2, List.getElem?_drop, mapR_get]
      have k2 : ¬ (j : Int) < t + m := by omega
      by_cases h3 : (j : Int) < n
      · rw [if_pos (by omega), if_pos h3]
        have e : ((t + (j - t - m) : Nat) : Int) = (j : Int) - m := by omega
        rw [e]
        simp [gMov, k1, k2]
      · rw [if_neg (by omega), if_neg h3]

theorem madeL_ok (F : Fns C) (F2 : Fns2 C) (h46 : C.fns.get 46 = some w46) (n a m t : Int) (hm : m < 9223372036854775808) :
    FnW C 46 [.agg [.int .i64 n, .int .i64 a, .int .i64 m, .int .i64 t]] = some (.bool true) := by
  have hl := lives_ok H F2
  have s1 := same_ok H n
  have s2 := inserted_ok H n a m hm
  have s3 := removed_ok H n a m
  have s4 := moved_ok H n a m t
  have q0 := eqM_ok H F2.f59 F2.f58 0 [] [] true 4 0 4 (by decide)
  rw [fnW_eq h46 rfl]
  by_cases c1 : n < 0
  · rw [if_pos (.inl c1)] at s1 s2 s3 s4
    simp [L1, eM] at q0
    simp [w46, H.inl, H.pp, hl, s1, s2, s3, s4, q0, c1]
  · by_cases c2 : 4096 < n
    · rw [if_pos (.inr c2)] at s1
      rw [if_pos (.inr (.inl c2))] at s2 s3 s4
      simp [L1, eM] at q0
      simp [w46, H.inl, H.pp, hl, s1, s2, s3, s4, q0, c1, c2]
    · obtain ⟨n, rfl⟩ : ∃ k : Nat, n = k := ⟨n.toNat, by omega⟩
      have hlen : (mapR id (n : Int)).length = n := by simp [mapR]
      have r1 := rsame_ok F.f63 n (by omega) (by omega)
      obtain ⟨e2, r2⟩ := rins_ok F.f68 (mapR id n) false a m (by omega) hm
      obtain ⟨e3, r3⟩ := rrem_ok F.f69 (mapR id n) false a m (by omega)
      obtain ⟨e4, r4⟩ := rmov_ok F.f69 F.f70 F.inl F.pp (mapR id n) false a m t (by omega)
      rw [hlen] at r2 r3 r4
      have p1 := eqM_ok H F2.f59 F2.f58 n (mapR id n) (mapR id n) false 0 n 0 (by omega)
      rw [if_neg (by omega)] at s1
      -- what each of the three comes to
      have t2 : ∃ (o : Int) (l : List Int) (x : Int) (wl : List Int) (we : Bool), FnW C 66 [.int .i64 n, .int .i64 a, .int .i64 m] = some (.tup [eM o l true, .int .i64 x]) ∧
          FnW C 68 [L1 (mapR id n) false, .int .i64 a, .int .i64 m] = some (.tup [L1 wl we, .int .i64 x]) ∧ o = (if x = 0 then (n : Int) else 0) ∧ l = wl ∧ l.length ≤ 1000000 := by
        by_cases k1 : a < 0 ∨ (n : Int) < a ∨ m < 0
        · rw [if_pos (by omega)] at s2
          rw [if_pos k1] at r2
          exact ⟨0, [], 4, [], true, s2, r2, by simp, rfl, by simp⟩
        · rw [if_neg (by omega)] at s2
          rw [if_neg k1] at r2
          by_cases k2 : 4096 - (n : Int) < m
          · rw [if_pos k2] at s2 r2
            exact ⟨0, [], 3, [], true, s2, r2, by simp, rfl, by simp⟩
          · rw [if_neg k2] at s2 r2
            refine ⟨_, _, _, _, _, s2, r2, by simp, ?_, by rw [mapR_len]; omega⟩
            obtain ⟨a, rfl⟩ : ∃ k : Nat, a = k := ⟨a.toNat, by omega⟩
            obtain ⟨m, rfl⟩ : ∃ k : Nat, m = k := ⟨m.toNat, by omega⟩
            exact (ins_mapR n a m (by omega)).symm
      have t3 : ∃ (o : Int) (l : List Int) (x : Int) (wl : List Int) (we : Bool), FnW C 67 [.int .i64 n, .int .i64 a, .int .i64 m] = some (.tup [eM o l true, .int .i64 x]) ∧
          FnW C 69 [L1 (mapR id n) false, .int .i64 a, .int .i64 m] = some (.tup [L1 wl we, .int .i64 x]) ∧ o = (if x = 0 then (n : Int) else 0) ∧ l = wl ∧ l.length ≤ 1000000 := by
        have ho : outB n a m = true ↔ (a < 0 ∨ m < 0 ∨ (n : Int) < a ∨ (n : Int) - a < m) := by simp [outB]
        simp only [ho] at s3
        by_cases k1 : a < 0 ∨ m < 0 ∨ (n : Int) < a ∨ (n : Int) - a < m
        · rw [if_pos (.inr (.inr k1))] at s3
          rw [if_pos k1] at r3
          exact ⟨0, [], 4, [], true, s3, r3, by simp, rfl, by simp⟩
        · rw [if_neg (by omega)] at s3
          rw [if_neg k1] at r3
          refine ⟨_, _, _, _, _, s3, r3, by simp, ?_, by rw [mapR_len]; omega⟩
          obtain ⟨a, rfl⟩ : ∃ k : Nat, a = k := ⟨a.toNat, by omega⟩
          obtain ⟨m, rfl⟩ : ∃ k : Nat, m = k := ⟨m.toNat, by omega⟩
          exact (rem_mapR n a m (by omega)).symm
      have t4 : ∃ (o : Int) (l : List Int) (x : Int) (wl : List Int) (we : Bool), FnW C 62 [.int .i64 n, .int .i64 a, .int .i64 m, .int .i64 t] = some (.tup [eM o l true, .int .i64 x]) ∧
          FnW C 70 [L1 (mapR id n) false, .int .i64 a, .int .i64 m, .int .i64 t] = some (.tup [L1 wl we, .int .i64 x]) ∧ o = (if x = 0 then (n : Int) else 0) ∧ l = wl ∧ l.length ≤ 1000000 := by
        have ho : outB n a m = true ↔ (a < 0 ∨ m < 0 ∨ (n : Int) < a ∨ (n : Int) - a < m) := by simp [outB]
        simp only [ho] at s4
        by_cases k1 : a < 0 ∨ m < 0 ∨ (n : Int) < a ∨ (n : Int) - a < m ∨ t < 0 ∨ (n : Int) - m < t
        · rw [if_pos (by omega)] at s4
          rw [if_pos k1] at r4
          exact ⟨0, [], 4, [], true, s4, r4, by simp, rfl, by simp⟩
        · rw [if_neg (by omega)] at s4
          rw [if_neg k1] at r4
          refine ⟨_, _, _, _, _, s4, r4, by simp, ?_, by rw [mapR_len]; omega⟩
          obtain ⟨a, rfl⟩ : ∃ k : Nat, a = k := ⟨a.toNat, by omega⟩
          obtain ⟨m, rfl⟩ : ∃ k : Nat, m = k := ⟨m.toNat, by omega⟩
          obtain ⟨t, rfl⟩ : ∃ k : Nat, t = k := ⟨t.toNat, by omega⟩
          exact (mov_mapR n a m t (by omega) (by omega)).symm
      obtain ⟨o2, l2, x2, wl2, we2, a2, b2, c2', d2, k2⟩ := t2
      obtain ⟨o3, l3, x3, wl3, we3, a3, b3, c3', d3, k3⟩ := t3
      obtain ⟨o4, l4, x4, wl4, we4, a4, b4, c4', d4, k4⟩ := t4
      have u2 := eqM_ok H F2.f59 F2.f58 o2 l2 wl2 we2 x2 o2 x2 k2
      have u3 := eqM_ok H F2.f59 F2.f58 o3 l3 wl3 we3 x3 o3 x3 k3
      have u4 := eqM_ok H F2.f59 F2.f58 o4 l4 wl4 we4 x4 o4 x4 k4
      have v2 := old_ok F2.f71 n x2
      have v3 := old_ok F2.f71 n x3
      have v4 := old_ok F2.f71 n x4
      rw [← c2'] at v2; rw [← c3'] at v3; rw [← c4'] at v4
      have w2 : decide (x2 = x2 ∧ o2 = o2 ∧ l2 = wl2) = true := by simp [d2]
      have w3 : decide (x3 = x3 ∧ o3 = o3 ∧ l3 = wl3) = true := by simp [d3]
      have w4 : decide (x4 = x4 ∧ o4 = o4 ∧ l4 = wl4) = true := by simp [d4]
      rw [w2] at u2; rw [w3] at u3; rw [w4] at u4
      simp [w46, H.inl, H.pp, hl, s1, r1, p1, c1, c2, a2, a3, a4, b2, b3, b4, u2, u3, u4, v2, v3, v4]
end Go.C09
end

section
set_option linter.unusedSimpArgs false
set_option linter.unusedVariables false
/- What the law RemapsCheck computes. No conditions beyond those that each theorem names. -/
namespace Go.C09
open Go Go.Pav Go.Pw P09
set_option maxRecDepth 10000
set_option maxHeartbeats 4000000
set_option linter.unusedSimpArgs false
set_option linter.unusedVariables false
attribute [-simp] List.getElem_cons_drop
variable {C : WProg} (H : Has C)
include H

omit H in
theorem negs_mem (l : List Int) : ∀ (i : Nat) (x : Int), x ∈ negs i l → ∃ j : Nat, x = (i + j : Nat) ∧ ∃ k, l[j]? = some k ∧ k < 0 := by
  induction l with
  | nil => intro i x h; simp [negs] at h
  | cons a l ih =>
    intro i x h
    simp only [negs] at h
    have step : x ∈ negs (i + 1) l → ∃ j : Nat, x = (i + j : Nat) ∧ ∃ k, (a :: l)[j]? = some k ∧ k < 0 := fun h => by
      obtain ⟨j, h1, k, h2, h3⟩ := ih _ _ h
      exact ⟨j + 1, by omega, k, by simpa using h2, h3⟩
    split at h
    · rename_i ha
      rcases List.mem_cons.1 h with rfl | h
      · exact ⟨0, by simp, a, by simp, ha⟩
      · exact step h
    · exact step h
omit H in
theorem negs_of (l : List Int) : ∀ (i j : Nat) (k : Int), l[j]? = some k → k < 0 → ((i + j : Nat) : Int) ∈ negs i l := by
  induction l with
  | nil => intro i j k h; simp at h
  | cons a l ih =>
    intro i j k h hk
    simp only [negs]
    cases j with
    | zero => simp at h; subst h; rw [if_pos hk]; simp
    | succ j =>
      have := ih (i + 1) j k (by simpa using h) hk
      have e : i + (j + 1) = i + 1 + j := by omega
      rw [e]
      split
      · exact List.mem_cons_of_mem _ this
      · exact this

omit H in
theorem rangeI_nodup (n : Nat) : ((List.range n).map fun i : Nat => (i : Int)).Nodup := List.Pairwise.map _ (fun a b h e => h (Int.ofNat.inj e)) List.nodup_range

omit H in
/-- What is gone and what is there are all. -/
theorem gone_count (a : Int) (f : List Int) : a ≤ (negs 0 (mapR (pos f) a)).length + f.length := by
  have h := List.Nodup.length_le_of_subset (l₂ := negs 0 (mapR (pos f) a) ++ f) (rangeI_nodup a.toNat) (fun x hx => by
    obtain ⟨i, hi, rfl⟩ := List.mem_map.1 hx
    have hi := List.mem_range.1 hi
    by_cases hm : (i : Int) ∈ f
    · exact List.mem_append_right _ hm
    · refine List.mem_append_left _ ?_
      have := negs_of (mapR (pos f) a) 0 i (-1) (by simp [mapR, hi, pos, hm]) (by decide)
      simpa using this)
  simp at h
  omega

theorem checkL_ok (F : Fns2 C) (h43 : C.fns.get 43 = some w43) (h57 : C.inl 57 = false) (old : Int) (f : List Int) (e : Bool) (v : Int) : FnW C 43 [eM old f e, .int .i64 v] = some (.bool true) := by
  have hl := lives_ok H F
  rw [fnW_eq h43 rfl]
  by_cases c0 : 60 < (f.length : Int)
  · simp [w43, h57, H.inl, H.pp, c0, hl]
  have r1 := rcheck_ok F.f50 old f e
  have m0 := ofM_ok H F 0 [] true
  have b1 := compose_ok H old f e 0 [] true
  have b2 := compose_ok H 0 [] true old f e
  have b3 := invert_ok H old f e
  have b4 := at_ok H old f e v
  have b5 := gone_ok H old f e
  have b6 := check_ok H old f e
  have b7 := carry_ok H old f e [1] true
  have z0 : chk 0 [] = 0 := by decide
  by_cases c1 : chk old f = 0
  · have ka := chk_zero c1
    have hc := gone_count old f
    have b8 := rat_ok F.f60 f e v (by omega)
    rw [z0] at b1 b2
    rw [c1] at r1 b1 b2 b3 b4 b5 b6 b7
    simp only [ne_eq, not_true_eq_false, if_false] at b1 b2 b3 b4 b5 b6 b7
    obtain ⟨gs, hgs⟩ : ∃ gs, negs 0 (mapR (pos f) old) = gs := ⟨_, rfl⟩
    rw [hgs] at b5 hc
    have hc2 : ¬ (gs.length : Int) + f.length < old := by omega
    have hw : IntKind.i64.wrap ((gs.length : Int) + f.length) = (gs.length : Int) + f.length := by
      have h4 : gs.length ≤ old.toNat := by
        rw [← hgs]
        refine Nat.le_trans (negs_len _ _) ?_
        simp [mapR]
      have h5 := ka.old1
      exact wI64 (by omega) (by omega)
    have fin_ : ∀ (ox oy : Int) (lx ly : List Int) (x y : Int), FnW C 52 [eM old f e, eM 0 [] true] = some (.tup [eM ox lx true, .int .i64 x]) → FnW C 52 [eM 0 [] true, eM old f e] = some (.tup [eM oy ly true, .int .i64 y]) →
        (x = 0 ∧ f = [] ∨ x = 16 ∧ ¬ f = []) → (y = 0 ∧ old = 0 ∨ y = 16 ∧ ¬ old = 0) → CK C 0 (pureFin w43.res) [] w43.body ⟨argW 0 [eM old f e, .int .i64 v] [], [], 0⟩ = some (.bool true) := by
      intro ox oy lx ly x y b1 b2 hx hy
      simp [L1, eM] at m0 b1 b2 b3 b5
      by_cases d1 : v < 0
      · rw [if_pos (.inl d1)] at b4
        rcases hx with ⟨rfl, x2⟩ | ⟨rfl, x2⟩ <;> rcases hy with ⟨rfl, y2⟩ | ⟨rfl, y2⟩ <;> replace x2 := eq_true x2 <;> replace y2 := eq_true y2 <;> simp [w43, h57, H.inl, H.pp, c0, hl, r1, m0, b1, b2, b3, b4, b5, b6, b8, x2, y2, hc2, hw, d1]
      · by_cases d2 : old ≤ v
        · rw [if_pos (.inr d2)] at b4
          rcases hx with ⟨rfl, x2⟩ | ⟨rfl, x2⟩ <;> rcases hy with ⟨rfl, y2⟩ | ⟨rfl, y2⟩ <;> replace x2 := eq_true x2 <;> replace y2 := eq_true y2 <;> simp [w43, h57, H.inl, H.pp, c0, hl, r1, m0, b1, b2, b3, b4, b5, b6, b8, x2, y2, hc2, hw, d1, d2]
        · rw [if_neg (by omega)] at b4
          by_cases d3 : pos f v < 0
          · rw [if_pos d3] at b4
            rcases hx with ⟨rfl, x2⟩ | ⟨rfl, x2⟩ <;> rcases hy with ⟨rfl, y2⟩ | ⟨rfl, y2⟩ <;> replace x2 := eq_true x2 <;> replace y2 := eq_true y2 <;> simp [w43, h57, H.inl, H.pp, c0, hl, r1, m0, b1, b2, b3, b4, b5, b6, b8, x2, y2, hc2, hw, d1, d2, d3]
          · rw [if_neg d3] at b4
            rcases hx with ⟨rfl, x2⟩ | ⟨rfl, x2⟩ <;> rcases hy with ⟨rfl, y2⟩ | ⟨rfl, y2⟩ <;> replace x2 := eq_true x2 <;> replace y2 := eq_true y2 <;> simp [w43, h57, H.inl, H.pp, c0, hl, r1, m0, b1, b2, b3, b4, b5, b6, b8, x2, y2, hc2, hw, d1, d2, d3]
    by_cases x1 : (0 : Int) = f.length
    · rw [if_neg (by simpa using x1)] at b1
      by_cases y1 : old = 0
      · rw [if_neg (by simpa using y1)] at b2
        exact fin_ _ _ _ _ _ _ b1 b2 (.inl ⟨rfl, List.length_eq_zero_iff.1 (by omega)⟩) (.inl ⟨rfl, y1⟩)
      · rw [if_pos (by simpa using y1)] at b2
        exact fin_ _ 0 _ [] _ _ b1 b2 (.inl ⟨rfl, List.length_eq_zero_iff.1 (by omega)⟩) (.inr ⟨rfl, y1⟩)
    · rw [if_pos (by simpa using x1)] at b1
      by_cases y1 : old = 0
      · rw [if_neg (by simpa using y1)] at b2
        exact fin_ 0 _ [] _ _ _ b1 b2 (.inr ⟨rfl, fun q => x1 (by rw [q]; rfl)⟩) (.inl ⟨rfl, y1⟩)
      · rw [if_pos (by simpa using y1)] at b2
        exact fin_ 0 0 [] [] _ _ b1 b2 (.inr ⟨rfl, fun q => x1 (by rw [q]; rfl)⟩) (.inr ⟨rfl, y1⟩)
  · have q1 := eqM_ok H F.f59 F.f58 0 [] [] true (chk old f) 0 (chk old f) (by decide)
    have q2 := list_ok F.f59 [] [] true (chk old f) (chk old f) (by decide)
    rw [z0] at b1 b2
    simp only [ne_eq, c1, not_false_eq_true, if_true, not_true_eq_false, if_false] at b1 b2 b3 b4 b5 b7
    simp [L1, eM] at q1 q2 m0 b1 b2 b3 b4 b5 b7
    simp [w43, h57, H.inl, H.pp, c0, hl, r1, m0, b1, b2, b3, b4, b5, b6, b7, c1, q1, q2]
end Go.C09
end

section
set_option linter.unusedSimpArgs false
set_option linter.unusedVariables false
/- What the law RemapsCompose computes. No conditions beyond those that each theorem names. -/
namespace Go.C09
open Go Go.Pav Go.Pw P09
set_option maxRecDepth 10000
set_option maxHeartbeats 4000000
set_option linter.unusedSimpArgs false
set_option linter.unusedVariables false
attribute [-simp] List.getElem_cons_drop
variable {C : WProg} (H : Has C)
include H

omit H in
def nn (l : List Int) : List Int := l.filter fun k => decide (0 ≤ k)
omit H in
/-- What a valid map's list is. -/
def Vd (old : Int) (f : List Int) : Prop := (∀ k ∈ f, -1 ≤ k ∧ k < old) ∧ (nn f).Nodup

omit H in
theorem chkF_vd {old : Int} : ∀ (f pre : List Int), (∀ k ∈ f, -1 ≤ k ∧ k < old) → (nn pre ++ nn f).Nodup → chkF old pre f = 0
  | [], _, _, _ => rfl
  | k :: r, pre, h1, h2 => by
    have hk := h1 k (by simp)
    unfold chkF
    rw [if_neg (by omega)]
    by_cases c : 0 ≤ k
    · have e : nn (k :: r) = k :: nn r := by simp [nn, c]
      rw [e] at h2
      rw [if_neg]
      · refine chkF_vd r _ (fun x hx => h1 x (by simp [hx])) ?_
        have e2 : nn (pre ++ [k]) = nn pre ++ [k] := by simp [nn, c]
        rw [e2, List.append_assoc]; exact h2
      · rintro ⟨_, hm⟩
        rw [List.nodup_append] at h2
        exact h2.2.2 k (by simp [nn, c, hm]) k (by simp) rfl
    · rw [if_neg (by omega)]
      have e : nn (k :: r) = nn r := by simp [nn, c]
      rw [e] at h2
      refine chkF_vd r _ (fun x hx => h1 x (by simp [hx])) ?_
      have e2 : nn (pre ++ [k]) = nn pre := by simp [nn, c]
      rw [e2]; exact h2

omit H in
theorem chk_vd {old : Int} {f : List Int} (h : Vd old f) (h0 : 0 ≤ old) (h1 : old ≤ 4096) (h2 : f.length ≤ 4096) : chk old f = 0 := by
  unfold chk
  rw [if_neg (by omega), if_neg (by omega)]
  exact chkF_vd f [] h.1 (by simpa [nn] using h.2)

omit H in
theorem vd_range (n : Nat) : Vd n (mapR id n) := by
  refine ⟨fun k hk => ?_, ?_⟩
  · simp only [mapR, Int.toNat_natCast, List.mem_map, List.mem_range] at hk
    obtain ⟨i, hi, rfl⟩ := hk
    simp; omega
  · exact (rangeI_nodup n).filter _
omit H in
theorem vd_ins {old : Int} {f : List Int} (h : Vd old f) (a m : Nat) (ho : 0 ≤ old) : Vd old (ins f a m) := by
  refine ⟨fun k hk => ?_, ?_⟩
  · simp only [ins, List.mem_append, List.mem_replicate] at hk
    rcases hk with hk | ⟨_, rfl⟩ | hk
    · exact h.1 k (List.mem_of_mem_take hk)
    · omega
    · exact h.1 k (List.mem_of_mem_drop hk)
  · have e : nn (ins f a m) = nn f := by
      unfold ins nn
      rw [List.filter_append, List.filter_append, List.filter_replicate]
      simp only [show decide ((0 : Int) ≤ -1) = false by decide, Bool.false_eq_true, if_false, List.nil_append]
      rw [← List.filter_append, List.take_append_drop]
    rw [e]; exact h.2
omit H in
theorem vd_sub {old : Int} {f g : List Int} (h : Vd old f) (hs : g.Sublist f) : Vd old g := ⟨fun k hk => h.1 k (hs.subset hk), h.2.sublist (hs.filter _)⟩
omit H in
theorem vd_perm {old : Int} {f g : List Int} (h : Vd old f) (hs : g.Perm f) : Vd old g := ⟨fun k hk => h.1 k (hs.subset hk), (hs.filter _).nodup_iff.2 h.2⟩
omit H in
theorem rem_sub (f : List Int) (a m : Nat) : (rem f a m).Sublist f := by
  unfold rem
  have h : (List.take a f ++ List.drop a f).Sublist f := by rw [List.take_append_drop]; exact List.Sublist.refl _
  refine List.Sublist.trans (List.Sublist.append_left ?_ _) h
  rw [← List.drop_drop]
  exact List.drop_sublist _ _
omit H in
theorem mov_perm (f : List Int) (a m t : Nat) (h : a + m ≤ f.length) : (mov f a m t).Perm f := by
  obtain ⟨A, K, B, rfl, rfl, rfl⟩ := split3 f a m h
  unfold mov
  rw [rem_app, List.drop_left' rfl, List.take_left' rfl]
  have e : (A ++ B).take t ++ (A ++ B).drop t = A ++ B := List.take_append_drop _ _
  refine (List.perm_append_comm_assoc _ _ _).trans ?_
  rw [e]
  exact List.perm_append_comm_assoc _ _ _
omit H in
theorem vd_chg {old : Int} {f : List Int} (s : St4) (hs : B4 s) (h : Vd old f) (ho : 0 ≤ old) : Vd old (chg s f) := by
  obtain ⟨a, m, t, h1, h2, e | ⟨h3, e | ⟨e, _⟩⟩⟩ := chg_eq s f hs <;> rw [e]
  · exact vd_ins h a m ho
  · exact vd_sub h (rem_sub f a m)
  · exact vd_perm h (mov_perm f a m t h3)
omit H in
theorem vd_chgs {old : Int} (ho : 0 ≤ old) (ss : List St4) (hs : ∀ s ∈ ss, B4 s) {f : List Int} (h : Vd old f) : Vd old (chgs ss f) := by
  unfold chgs
  have hs' : ∀ s ∈ ss.take 12, B4 s := fun s q => hs s (List.mem_of_mem_take q)
  generalize ss.take 12 = rr at hs'
  induction rr generalizing f with
  | nil => exact h
  | cons s r ih => exact ih (vd_chg s (hs' s (by simp)) h ho) (fun x q => hs' x (by simp [q]))
omit H in
theorem chgs_len (ss : List St4) (hs : ∀ s ∈ ss, B4 s) (f : List Int) : (chgs ss f).length ≤ f.length + 60 := by
  unfold chgs
  have hs' : ∀ s ∈ ss.take 12, B4 s := fun s q => hs s (List.mem_of_mem_take q)
  have hl : (ss.take 12).length ≤ 12 := by simp; omega
  have key : ∀ (rr : List St4) (f : List Int), (∀ s ∈ rr, B4 s) → (rr.foldl (fun l s => chg s l) f).length ≤ f.length + 5 * rr.length := by
    intro rr
    induction rr with
    | nil => intro f _; simp
    | cons s r ih =>
      intro f q
      have h1 := chg_len s f (q s (by simp))
      have h2 := ih (chg s f) (fun x p => q x (by simp [p]))
      simp only [List.foldl_cons, List.length_cons]; omega
  have := key _ f hs'
  omega

omit H in
theorem map_chg (G : Int → Int) (hG : G (-1) = -1) (s : St4) (l : List Int) : (chg s l).map G = chg s (l.map G) := by
  unfold chg
  simp only [List.length_map]
  split
  · simp [ins, hG]
  · split
    · simp [rem]
    · simp [mov, rem]
omit H in
theorem map_chgs (G : Int → Int) (hG : G (-1) = -1) (ss : List St4) (l : List Int) : (chgs ss l).map G = chgs ss (l.map G) := by
  unfold chgs
  induction ss.take 12 generalizing l with
  | nil => rfl
  | cons s r ih => simp only [List.foldl_cons]; rw [ih, map_chg G hG]

omit H in
theorem cmp_chgs (A : List Int) (ss : List St4) : cmp A (chgs ss (mapR id A.length)) = chgs ss A := by
  unfold cmp
  rw [map_chgs _ (by rfl)]
  congr 1
  unfold mapR
  rw [List.map_map, Int.toNat_natCast]
  have := range_get A (fun x => x) 0
  simp only [List.map_id'] at this
  refine Eq.trans ?_ this
  refine List.map_congr_left fun i hi => ?_
  simp
omit H in
theorem cmp_cmp_chgs (A B : List Int) (ss : List St4) : cmp A (chgs ss B) = chgs ss (cmp A B) := map_chgs _ (by rfl) ss B
omit H in
theorem cmp_same_l (n : Nat) (A : List Int) (h : Vd n A) : cmp (mapR id n) A = A := by
  unfold cmp
  have : A.map (fun k => if 0 ≤ k then (mapR id (n : Int))[k.toNat]?.getD 0 else -1) = A.map id := List.map_congr_left fun k hk => by
    have := h.1 k hk
    by_cases c : 0 ≤ k
    · rw [if_pos c, mapR_get, if_pos (by omega)]; simp; omega
    · rw [if_neg c]; simp; omega
  rw [this, List.map_id]

theorem composeL_ok (F : Fns C) (F2 : Fns2 C) (h47 : C.fns.get 47 = some w47) (N : Int) (hN : Byte N) (ss m1 m2 : List St4) (se e1 e2 : Bool) (hs : ∀ s ∈ ss, B4 s) (hm1 : ∀ s ∈ m1, B4 s) (hm2 : ∀ s ∈ m2, B4 s) :
    FnW C 47 [.agg [.int .u8 N, .ro 4 (ss.map e4) se], .ro 4 (m1.map e4) e1, .ro 4 (m2.map e4) e2] = some (.bool true) := by
  have hl := lives_ok H F2
  obtain ⟨xa, a1⟩ := of_ok F N hN ss se hs
  obtain ⟨n0, hn0⟩ : ∃ k : Nat, N % 31 = k := ⟨(N % 31).toNat, by omega⟩
  have hn0' : n0 ≤ 30 := by omega
  rw [hn0] at a1
  have vA : Vd n0 (chgs ss (mapR id n0)) := vd_chgs (by omega) ss hs (vd_range n0)
  have lA := chgs_len ss hs (mapR id n0)
  rw [mapR_len, Int.toNat_natCast] at lA
  generalize chgs ss (mapR id n0) = A at a1 vA lA
  have s1 := rsame_ok F.f63 A.length (by omega) (by omega)
  obtain ⟨xb, b1⟩ := after_ok F 0 m1 e1 hm1 (mapR id A.length) false (by rw [mapR_len]; omega)
  have vB : Vd A.length (chgs m1 (mapR id A.length)) := vd_chgs (by omega) m1 hm1 (vd_range _)
  have lB := chgs_len m1 hm1 (mapR id A.length)
  rw [mapR_len, Int.toNat_natCast] at lB
  have cAB := cmp_chgs A m1
  obtain ⟨xw, w1⟩ := after_ok F 0 m1 e1 hm1 A xa (by omega)
  have vAB : Vd n0 (chgs m1 A) := vd_chgs (by omega) m1 hm1 vA
  have lAB := chgs_len m1 hm1 A
  generalize chgs m1 (mapR id A.length) = B at b1 vB lB cAB
  generalize chgs m1 A = AB at cAB w1 vAB lAB
  have s2 := rsame_ok F.f63 B.length (by omega) (by omega)
  obtain ⟨xc, c1⟩ := after_ok F 0 m2 e2 hm2 (mapR id B.length) false (by rw [mapR_len]; omega)
  have vC : Vd B.length (chgs m2 (mapR id B.length)) := vd_chgs (by omega) m2 hm2 (vd_range _)
  have lC := chgs_len m2 hm2 (mapR id B.length)
  rw [mapR_len, Int.toNat_natCast] at lC
  have cBC := cmp_chgs B m2
  have hABl : AB.length = B.length := by rw [← cAB]; simp [cmp]
  have cABC := cmp_chgs AB m2
  rw [hABl] at cABC
  have cA_BC : cmp A (chgs m2 B) = chgs m2 AB := by rw [cmp_cmp_chgs, cAB]
  obtain ⟨xv, w2⟩ := after_ok F 0 m2 e2 hm2 AB xw (by omega)
  have vBC : Vd A.length (chgs m2 B) := vd_chgs (by omega) m2 hm2 vB
  have lBC := chgs_len m2 hm2 B
  have lall := chgs_len m2 hm2 AB
  generalize chgs m2 (mapR id B.length) = D at c1 vC lC cBC cABC
  generalize chgs m2 B = BC at cBC cA_BC vBC lBC
  generalize chgs m2 AB = ABC at cABC cA_BC w2 lall
  have kA : chk n0 A = 0 := chk_vd vA (by omega) (by omega) (by omega)
  have kB : chk A.length B = 0 := chk_vd vB (by omega) (by omega) (by omega)
  have kC : chk B.length D = 0 := chk_vd vC (by omega) (by omega) (by omega)
  have kAB : chk n0 AB = 0 := chk_vd vAB (by omega) (by omega) (by omega)
  have kBC : chk A.length BC = 0 := chk_vd vBC (by omega) (by omega) (by omega)
  have kS : chk n0 (mapR id n0) = 0 := chk_vd (vd_range n0) (by omega) (by omega) (by rw [mapR_len]; omega)
  have kT : chk A.length (mapR id A.length) = 0 := chk_vd (vd_range _) (by omega) (by omega) (by rw [mapR_len]; omega)
  have p1 := compose_ok H n0 A xa A.length B xb
  have p2 := compose_ok H A.length B xb B.length D xc
  have p3 := compose_ok H n0 AB true B.length D xc
  have p4 := compose_ok H n0 A xa A.length BC true
  have p5 := same_ok H n0
  have p6 := same_ok H A.length
  have p7 := compose_ok H n0 (mapR id n0) true n0 A xa
  have p8 := compose_ok H n0 A xa A.length (mapR id A.length) true
  rw [kA, kB, cAB] at p1
  rw [kB, kC, cBC] at p2
  rw [kAB, kC, hABl, cABC] at p3
  rw [kA, kBC, cA_BC] at p4
  rw [if_neg (by omega)] at p5 p6
  rw [kS, kA, mapR_len, Int.toNat_natCast, cmp_same_l n0 A vA] at p7
  have cAT : cmp A (mapR id A.length) = A := cmp_chgs A []
  rw [kA, kT, cAT] at p8
  simp only [ne_eq, not_true_eq_false, if_false] at p1 p2 p3 p4 p7 p8
  have q1 := eqM_ok H F2.f59 F2.f58 n0 AB AB xw 0 n0 0 (by omega)
  have q2 := eqM_ok H F2.f59 F2.f58 n0 ABC ABC xv 0 n0 0 (by omega)
  have q3 := eqM_ok H F2.f59 F2.f58 n0 A A xa 0 n0 0 (by omega)
  simp only [true_and, and_self, decide_true] at q1 q2 q3
  rw [fnW_eq h47 rfl]
  simp [w47, H.inl, H.pp, hl, a1, s1, b1, s2, c1, w1, w2, p1, p2, p3, p4, p5, p6, p7, p8, q1, q2, q3]

end Go.C09
end

section
set_option linter.unusedSimpArgs false
set_option linter.unusedVariables false
/- Contracts of Carry on the heap. No conditions beyond those that each theorem names. -/
namespace Go.C09
open Go Go.Pav Go.Pw P09
set_option maxRecDepth 10000
set_option maxHeartbeats 4000000
set_option linter.unusedSimpArgs false
set_option linter.unusedVariables false
attribute [-simp] List.getElem_cons_drop
variable {C : WProg}

theorem carryA_loop (w : Bool) (A : List Int) (xa : Bool) (n0 : Nat) (f : List Int) (e x : Bool) (l : List Int) (hf : ∀ k ∈ f, k < l.length) (hl : f.length ≤ 4096) : ∀ n i, n + i = f.length → ∀ acc : List Int, acc.length = i →
    CK C 5 (fnEndW [.tmp 4, .tmp 5]) [.sq w57_L0, .bk 0 ⟨true, [7], []⟩, .sq w57_c0] w57_B0 ⟨[(31, .int .i64 i), (30, .int .i64 f.length), (29, L1 f e), (7, .sl 5 1 0 f.length f.length true), (1, .sl 0 1 0 l.length l.length x)], [(0, .cells 1 (l.map eI) w true), (1, .cells 2 [[.int .i64 n0, L1 A xa]] true true), (5, .cells 1 (acc.map eI ++ List.replicate n [AV.int .i64 0]) true true)], 6⟩ =
      some ⟨.tup [.sl 5 1 0 f.length f.length true, .int .i64 0], [(0, .cells 1 (l.map eI) w true), (1, .cells 2 [[.int .i64 n0, L1 A xa]] true true), (5, .cells 1 ((acc ++ carry (f.drop i) l).map eI) true true)], 9⟩ := by
  intro n
  induction n with
  | zero =>
    intro i hi acc ha
    rw [ck_unf w57_B0.eq_1]
    have h3 : ¬ i < f.length := by omega
    have h4 : f.drop i = [] := List.drop_eq_nil_of_le (by omega)
    simp [ck_unf w57_c0.eq_1, h3, h4, carry]
  | succ n ih =>
    intro i hi acc ha
    have h3 : i < f.length := by omega
    have hk := hf _ (List.getElem_mem h3)
    rw [drop_cons h3]
    by_cases c : 0 ≤ f[i]
    · obtain ⟨k, hk'⟩ : ∃ k : Nat, f[i] = k := ⟨f[i].toNat, by omega⟩
      have hk2 : k < l.length := by omega
      have := ih (i + 1) (by omega) (acc ++ [l[k]]) (by simp [ha])
      rw [ck_unf w57_B0.eq_1] at ⊢
      rw [hk'] at c
      simp at this
      simp (disch := omega) [h3, wI64, carry, hk', hk2, c, fill_get, fill_set] at this ⊢
      exact this
    · have := ih (i + 1) (by omega) (acc ++ [0]) (by simp [ha])
      rw [ck_unf w57_B0.eq_1] at ⊢
      simp at this
      simp (disch := omega) [h3, wI64, carry, c, fill_get, fill_set, List.replicate_succ] at this ⊢
      exact this

theorem carryA_ok (H : Has C) (w : Bool) (A : List Int) (xa : Bool) (n0 : Nat) (a : Int) (f : List Int) (e x : Bool) (l : List Int) (c1 : chk a f = 0) (c2 : (l.length : Int) = a) (hne : f ≠ []) :
   RnW C 57 [eM a f e, .sl 0 1 0 l.length l.length x] [(0, .cells 1 (l.map eI) w true), (1, .cells 2 [[.int .i64 n0, L1 A xa]] true true)] 5 = some ⟨.tup [.sl 5 1 0 f.length f.length true, .int .i64 0], [(0, .cells 1 (l.map eI) w true), (1, .cells 2 [[.int .i64 n0, L1 A xa]] true true), (5, .cells 1 ((carry f l).map eI) true true)], 9⟩ := by
  have h1 := check_ok H a f e
  have c3 : f.length ≠ 0 := by simp [hne]
  have hl := (chk_zero c1).len
  have hg := rnW_eq (args := [eM a f e, .sl 0 1 0 l.length l.length x]) H.f57 rfl [(0, .cells 1 (l.map eI) w true), (1, .cells 2 [[.int .i64 n0, L1 A xa]] true true)] 5
  rw [hg]
  have := carryA_loop (C := C) w A xa n0 f e x l (fun k hk => by have := (chk_zero c1).rng k hk; omega) hl f.length 0 (by simp) [] rfl
  simp at this
  simp (disch := omega) [w57, H.inl, H.pp, h1, c1, c2, c3, hne, fits, this]

theorem carryB_loop (A : List Int) (xa : Bool) (n0 : Nat) (B : List Int) (xb : Bool) (D : List Int) (p0 : Nat) (G : List Int) (f : List Int) (e x : Bool) (l : List Int) (hf : ∀ k ∈ f, k < l.length) (hl : f.length ≤ 4096) : ∀ n i, n + i = f.length → ∀ acc : List Int, acc.length = i →
    CK C 8 (fnEndW [.tmp 4, .tmp 5]) [.sq w57_L0, .bk 0 ⟨true, [7], []⟩, .sq w57_c0] w57_B0 ⟨[(31, .int .i64 i), (30, .int .i64 f.length), (29, L1 f e), (7, .sl 8 1 0 f.length f.length true), (1, .sl 2 1 0 l.length l.length x)], [(0, .cells 2 [[.int .i64 n0, L1 D true]] true true), (1, .cells 2 [[.int .i64 p0, L1 B xb]] true true), (2, .cells 1 (l.map eI) true true), (3, .cells 1 (G.map eI) true true), (4, .cells 2 [[.int .i64 n0, L1 A xa]] true true), (8, .cells 1 (acc.map eI ++ List.replicate n [AV.int .i64 0]) true true)], 9⟩ =
      some ⟨.tup [.sl 8 1 0 f.length f.length true, .int .i64 0], [(0, .cells 2 [[.int .i64 n0, L1 D true]] true true), (1, .cells 2 [[.int .i64 p0, L1 B xb]] true true), (2, .cells 1 (l.map eI) true true), (3, .cells 1 (G.map eI) true true), (4, .cells 2 [[.int .i64 n0, L1 A xa]] true true), (8, .cells 1 ((acc ++ carry (f.drop i) l).map eI) true true)], 12⟩ := by
  intro n
  induction n with
  | zero =>
    intro i hi acc ha
    rw [ck_unf w57_B0.eq_1]
    have h3 : ¬ i < f.length := by omega
    have h4 : f.drop i = [] := List.drop_eq_nil_of_le (by omega)
    simp [ck_unf w57_c0.eq_1, h3, h4, carry]
  | succ n ih =>
    intro i hi acc ha
    have h3 : i < f.length := by omega
    have hk := hf _ (List.getElem_mem h3)
    rw [drop_cons h3]
    by_cases c : 0 ≤ f[i]
    · obtain ⟨k, hk'⟩ : ∃ k : Nat, f[i] = k := ⟨f[i].toNat, by omega⟩
      have hk2 : k < l.length := by omega
      have := ih (i + 1) (by omega) (acc ++ [l[k]]) (by simp [ha])
      rw [ck_unf w57_B0.eq_1] at ⊢
      rw [hk'] at c
      simp at this
      simp (disch := omega) [h3, wI64, carry, hk', hk2, c, fill_get, fill_set] at this ⊢
      exact this
    · have := ih (i + 1) (by omega) (acc ++ [0]) (by simp [ha])
      rw [ck_unf w57_B0.eq_1] at ⊢
      simp at this
      simp (disch := omega) [h3, wI64, carry, c, fill_get, fill_set, List.replicate_succ] at this ⊢
      exact this

theorem carryB_ok (H : Has C) (A : List Int) (xa : Bool) (n0 : Nat) (B : List Int) (xb : Bool) (D : List Int) (p0 : Nat) (G : List Int) (a : Int) (f : List Int) (e x : Bool) (l : List Int) (c1 : chk a f = 0) (c2 : (l.length : Int) = a) (hne : f ≠ []) :
   RnW C 57 [eM a f e, .sl 2 1 0 l.length l.length x] [(0, .cells 2 [[.int .i64 n0, L1 D true]] true true), (1, .cells 2 [[.int .i64 p0, L1 B xb]] true true), (2, .cells 1 (l.map eI) true true), (3, .cells 1 (G.map eI) true true), (4, .cells 2 [[.int .i64 n0, L1 A xa]] true true)] 8 = some ⟨.tup [.sl 8 1 0 f.length f.length true, .int .i64 0], [(0, .cells 2 [[.int .i64 n0, L1 D true]] true true), (1, .cells 2 [[.int .i64 p0, L1 B xb]] true true), (2, .cells 1 (l.map eI) true true), (3, .cells 1 (G.map eI) true true), (4, .cells 2 [[.int .i64 n0, L1 A xa]] true true), (8, .cells 1 ((carry f l).map eI) true true)], 12⟩ := by
  have h1 := check_ok H a f e
  have c3 : f.length ≠ 0 := by simp [hne]
  have hl := (chk_zero c1).len
  have hg := rnW_eq (args := [eM a f e, .sl 2 1 0 l.length l.length x]) H.f57 rfl [(0, .cells 2 [[.int .i64 n0, L1 D true]] true true), (1, .cells 2 [[.int .i64 p0, L1 B xb]] true true), (2, .cells 1 (l.map eI) true true), (3, .cells 1 (G.map eI) true true), (4, .cells 2 [[.int .i64 n0, L1 A xa]] true true)] 8
  rw [hg]
  have := carryB_loop (C := C) A xa n0 B xb D p0 G f e x l (fun k hk => by have := (chk_zero c1).rng k hk; omega) hl f.length 0 (by simp) [] rfl
  simp at this
  simp (disch := omega) [w57, H.inl, H.pp, h1, c1, c2, c3, hne, fits, this]

theorem carryC_loop (A : List Int) (xa : Bool) (n0 : Nat) (B : List Int) (xb : Bool) (D : List Int) (p0 : Nat) (G Q : List Int) (f : List Int) (e x : Bool) (l : List Int) (hf : ∀ k ∈ f, k < l.length) (hl : f.length ≤ 4096) : ∀ n i, n + i = f.length → ∀ acc : List Int, acc.length = i →
    CK C 20 (fnEndW [.tmp 4, .tmp 5]) [.sq w57_L0, .bk 0 ⟨true, [7], []⟩, .sq w57_c0] w57_B0 ⟨[(31, .int .i64 i), (30, .int .i64 f.length), (29, L1 f e), (7, .sl 20 1 0 f.length f.length true), (1, .sl 3 1 0 l.length l.length x)], [(0, .cells 2 [[.int .i64 n0, L1 D true]] true true), (1, .cells 2 [[.int .i64 p0, L1 B xb]] true true), (2, .cells 1 (G.map eI) true true), (3, .cells 1 (l.map eI) true true), (4, .cells 2 [[.int .i64 n0, L1 A xa]] true true), (8, .cells 1 (Q.map eI) true true), (20, .cells 1 (acc.map eI ++ List.replicate n [AV.int .i64 0]) true true)], 21⟩ =
      some ⟨.tup [.sl 20 1 0 f.length f.length true, .int .i64 0], [(0, .cells 2 [[.int .i64 n0, L1 D true]] true true), (1, .cells 2 [[.int .i64 p0, L1 B xb]] true true), (2, .cells 1 (G.map eI) true true), (3, .cells 1 (l.map eI) true true), (4, .cells 2 [[.int .i64 n0, L1 A xa]] true true), (8, .cells 1 (Q.map eI) true true), (20, .cells 1 ((acc ++ carry (f.drop i) l).map eI) true true)], 24⟩ := by
  intro n
  induction n with
  | zero =>
    intro i hi acc ha
    rw [ck_unf w57_B0.eq_1]
    have h3 : ¬ i < f.length := by omega
    have h4 : f.drop i = [] := List.drop_eq_nil_of_le (by omega)
    simp [ck_unf w57_c0.eq_1, h3, h4, carry]
  | succ n ih =>
    intro i hi acc ha
    have h3 : i < f.length := by omega
    have hk := hf _ (List.getElem_mem h3)
    rw [drop_cons h3]
    by_cases c : 0 ≤ f[i]
    · obtain ⟨k, hk'⟩ : ∃ k : Nat, f[i] = k := ⟨f[i].toNat, by omega⟩
      have hk2 : k < l.length := by omega
      have := ih (i + 1) (by omega) (acc ++ [l[k]]) (by simp [ha])
      rw [ck_unf w57_B0.eq_1] at ⊢
      rw [hk'] at c
      simp at this
      simp (disch := omega) [h3, wI64, carry, hk', hk2, c, fill_get, fill_set] at this ⊢
      exact this
    · have := ih (i + 1) (by omega) (acc ++ [0]) (by simp [ha])
      rw [ck_unf w57_B0.eq_1] at ⊢
      simp at this
      simp (disch := omega) [h3, wI64, carry, c, fill_get, fill_set, List.replicate_succ] at this ⊢
      exact this

theorem carryC_ok (H : Has C) (A : List Int) (xa : Bool) (n0 : Nat) (B : List Int) (xb : Bool) (D : List Int) (p0 : Nat) (G Q : List Int) (a : Int) (f : List Int) (e x : Bool) (l : List Int) (c1 : chk a f = 0) (c2 : (l.length : Int) = a) (hne : f ≠ []) :
   RnW C 57 [eM a f e, .sl 3 1 0 l.length l.length x] [(0, .cells 2 [[.int .i64 n0, L1 D true]] true true), (1, .cells 2 [[.int .i64 p0, L1 B xb]] true true), (2, .cells 1 (G.map eI) true true), (3, .cells 1 (l.map eI) true true), (4, .cells 2 [[.int .i64 n0, L1 A xa]] true true), (8, .cells 1 (Q.map eI) true true)] 20 = some ⟨.tup [.sl 20 1 0 f.length f.length true, .int .i64 0], [(0, .cells 2 [[.int .i64 n0, L1 D true]] true true), (1, .cells 2 [[.int .i64 p0, L1 B xb]] true true), (2, .cells 1 (G.map eI) true true), (3, .cells 1 (l.map eI) true true), (4, .cells 2 [[.int .i64 n0, L1 A xa]] true true), (8, .cells 1 (Q.map eI) true true), (20, .cells 1 ((carry f l).map eI) true true)], 24⟩ := by
  have h1 := check_ok H a f e
  have c3 : f.length ≠ 0 := by simp [hne]
  have hl := (chk_zero c1).len
  have hg := rnW_eq (args := [eM a f e, .sl 3 1 0 l.length l.length x]) H.f57 rfl [(0, .cells 2 [[.int .i64 n0, L1 D true]] true true), (1, .cells 2 [[.int .i64 p0, L1 B xb]] true true), (2, .cells 1 (G.map eI) true true), (3, .cells 1 (l.map eI) true true), (4, .cells 2 [[.int .i64 n0, L1 A xa]] true true), (8, .cells 1 (Q.map eI) true true)] 20
  rw [hg]
  have := carryC_loop (C := C) A xa n0 B xb D p0 G Q f e x l (fun k hk => by have := (chk_zero c1).rng k hk; omega) hl f.length 0 (by simp) [] rfl
  simp at this
  simp (disch := omega) [w57, H.inl, H.pp, h1, c1, c2, c3, hne, fits, this]

theorem carryD_ok (H : Has C) (A : List Int) (xa : Bool) (n0 : Nat) (B : List Int) (xb : Bool) (D : List Int) (p0 : Nat) (G CA CB : List Int) (a : Int) (f : List Int) (e : Bool) (c1 : chk a f = 0) (c2 : (G.length : Int) = a) :
   RnW C 57 [eM a f e, .sl 32 1 0 (G.length + 1) (G.length + 1) false] [(0, .cells 2 [[.int .i64 n0, L1 D true]] true true), (1, .cells 2 [[.int .i64 p0, L1 B xb]] true true), (2, .cells 1 (CA.map eI) true true), (4, .cells 2 [[.int .i64 n0, L1 A xa]] true true), (8, .cells 1 (CB.map eI) true true), (20, .cells 1 (CB.map eI) true true), (31, .cells 1 [[.int .i64 1]] true true), (32, .cells 1 (G.map eI ++ [[.int .i64 1]]) true true)] 39 = some ⟨.tup [.ro 1 [] true, .int .i64 16], [(0, .cells 2 [[.int .i64 n0, L1 D true]] true true), (1, .cells 2 [[.int .i64 p0, L1 B xb]] true true), (2, .cells 1 (CA.map eI) true true), (4, .cells 2 [[.int .i64 n0, L1 A xa]] true true), (8, .cells 1 (CB.map eI) true true), (20, .cells 1 (CB.map eI) true true), (31, .cells 1 [[.int .i64 1]] true true), (32, .cells 1 (G.map eI ++ [[.int .i64 1]]) true true), (39, .cells 2 [[.int .i64 a, L1 f e]] true true)], 49⟩ := by
  have h1 := check_ok H a f e
  have c3 : ¬ ((G.length : Int) + 1 = a) := by omega
  have hg := rnW_eq (args := [eM a f e, .sl 32 1 0 (G.length + 1) (G.length + 1) false]) H.f57 rfl [(0, .cells 2 [[.int .i64 n0, L1 D true]] true true), (1, .cells 2 [[.int .i64 p0, L1 B xb]] true true), (2, .cells 1 (CA.map eI) true true), (4, .cells 2 [[.int .i64 n0, L1 A xa]] true true), (8, .cells 1 (CB.map eI) true true), (20, .cells 1 (CB.map eI) true true), (31, .cells 1 [[.int .i64 1]] true true), (32, .cells 1 (G.map eI ++ [[.int .i64 1]]) true true)] 39
  rw [hg]
  simp (disch := omega) [w57, H.inl, H.pp, h1, c1, c3]

theorem carryB0_ok (H : Has C) (a : Int) (A : List Int) (xa : Bool) (n0 : Nat) (xb : Bool) (p0 : Nat) (G CA : List Int) (e : Bool) (c1 : chk a [] = 0) (x : Bool) (c2 : (p0 : Int) = a) :
   RnW C 57 [eM a [] e, .sl 2 1 0 p0 p0 x] [(0, .cells 2 [[.int .i64 n0, .ro 1 [] true]] true true), (1, .cells 2 [[.int .i64 p0, .ro 1 [] xb]] true true), (2, .cells 1 (CA.map eI) true true), (3, .cells 1 (G.map eI) true true), (4, .cells 2 [[.int .i64 n0, L1 A xa]] true true)] 8 = some ⟨.tup [.ro 1 [] true, .int .i64 0], [(0, .cells 2 [[.int .i64 n0, .ro 1 [] true]] true true), (1, .cells 2 [[.int .i64 p0, .ro 1 [] xb]] true true), (2, .cells 1 (CA.map eI) true true), (3, .cells 1 (G.map eI) true true), (4, .cells 2 [[.int .i64 n0, L1 A xa]] true true), (8, .cells 2 [[.int .i64 a, L1 [] e]] true true)], 22⟩ := by
  have h1 : FnW C 56 [.agg [.int .i64 a, .ro 1 [] e]] = some (.int .i64 (chk a [])) := check_ok H a [] e
  have hg := rnW_eq (args := [eM a [] e, .sl 2 1 0 p0 p0 x]) H.f57 rfl [(0, .cells 2 [[.int .i64 n0, .ro 1 [] true]] true true), (1, .cells 2 [[.int .i64 p0, .ro 1 [] xb]] true true), (2, .cells 1 (CA.map eI) true true), (3, .cells 1 (G.map eI) true true), (4, .cells 2 [[.int .i64 n0, L1 A xa]] true true)] 8
  rw [hg]
  simp (disch := omega) [w57, H.inl, H.pp, h1, c1, c2, fits]

theorem carryC0_ok (H : Has C) (a : Int) (A : List Int) (xa : Bool) (n0 : Nat) (xb : Bool) (p0 : Nat) (G CA : List Int) (e : Bool) (c1 : chk a [] = 0) (x : Bool) (c2 : (G.length : Int) = a) :
   RnW C 57 [eM a [] e, .sl 3 1 0 G.length G.length x] [(0, .cells 2 [[.int .i64 n0, .ro 1 [] true]] true true), (1, .cells 2 [[.int .i64 p0, .ro 1 [] xb]] true true), (2, .cells 1 (CA.map eI) true true), (3, .cells 1 (G.map eI) true true), (4, .cells 2 [[.int .i64 n0, L1 A xa]] true true), (8, .cells 2 [[.int .i64 p0, .ro 1 [] xb]] true true)] 30 = some ⟨.tup [.ro 1 [] true, .int .i64 0], [(0, .cells 2 [[.int .i64 n0, .ro 1 [] true]] true true), (1, .cells 2 [[.int .i64 p0, .ro 1 [] xb]] true true), (2, .cells 1 (CA.map eI) true true), (3, .cells 1 (G.map eI) true true), (4, .cells 2 [[.int .i64 n0, L1 A xa]] true true), (8, .cells 2 [[.int .i64 p0, .ro 1 [] xb]] true true), (30, .cells 2 [[.int .i64 a, L1 [] e]] true true)], 44⟩ := by
  have h1 : FnW C 56 [.agg [.int .i64 a, .ro 1 [] e]] = some (.int .i64 (chk a [])) := check_ok H a [] e
  have hg := rnW_eq (args := [eM a [] e, .sl 3 1 0 G.length G.length x]) H.f57 rfl [(0, .cells 2 [[.int .i64 n0, .ro 1 [] true]] true true), (1, .cells 2 [[.int .i64 p0, .ro 1 [] xb]] true true), (2, .cells 1 (CA.map eI) true true), (3, .cells 1 (G.map eI) true true), (4, .cells 2 [[.int .i64 n0, L1 A xa]] true true), (8, .cells 2 [[.int .i64 p0, .ro 1 [] xb]] true true)] 30
  rw [hg]
  simp (disch := omega) [w57, H.inl, H.pp, h1, c1, c2, fits]

theorem carryD0_ok (H : Has C) (A : List Int) (xa : Bool) (n0 : Nat) (xb : Bool) (p0 : Nat) (G CA : List Int) (a : Int) (f : List Int) (e : Bool) (c1 : chk a f = 0) (c2 : (G.length : Int) = a) :
   RnW C 57 [eM a f e, .sl 52 1 0 (G.length + 1) (G.length + 1) false] [(0, .cells 2 [[.int .i64 n0, .ro 1 [] true]] true true), (1, .cells 2 [[.int .i64 p0, .ro 1 [] xb]] true true), (2, .cells 1 (CA.map eI) true true), (4, .cells 2 [[.int .i64 n0, L1 A xa]] true true), (8, .cells 2 [[.int .i64 p0, .ro 1 [] xb]] true true), (30, .cells 2 [[.int .i64 n0, .ro 1 [] true]] true true), (51, .cells 1 [[.int .i64 1]] true true), (52, .cells 1 (G.map eI ++ [[.int .i64 1]]) true true)] 59 = some ⟨.tup [.ro 1 [] true, .int .i64 16], [(0, .cells 2 [[.int .i64 n0, .ro 1 [] true]] true true), (1, .cells 2 [[.int .i64 p0, .ro 1 [] xb]] true true), (2, .cells 1 (CA.map eI) true true), (4, .cells 2 [[.int .i64 n0, L1 A xa]] true true), (8, .cells 2 [[.int .i64 p0, .ro 1 [] xb]] true true), (30, .cells 2 [[.int .i64 n0, .ro 1 [] true]] true true), (51, .cells 1 [[.int .i64 1]] true true), (52, .cells 1 (G.map eI ++ [[.int .i64 1]]) true true), (59, .cells 2 [[.int .i64 a, L1 f e]] true true)], 69⟩ := by
  have h1 := check_ok H a f e
  have c3 : ¬ ((G.length : Int) + 1 = a) := by omega
  have hg := rnW_eq (args := [eM a f e, .sl 52 1 0 (G.length + 1) (G.length + 1) false]) H.f57 rfl [(0, .cells 2 [[.int .i64 n0, .ro 1 [] true]] true true), (1, .cells 2 [[.int .i64 p0, .ro 1 [] xb]] true true), (2, .cells 1 (CA.map eI) true true), (4, .cells 2 [[.int .i64 n0, L1 A xa]] true true), (8, .cells 2 [[.int .i64 p0, .ro 1 [] xb]] true true), (30, .cells 2 [[.int .i64 n0, .ro 1 [] true]] true true), (51, .cells 1 [[.int .i64 1]] true true), (52, .cells 1 (G.map eI ++ [[.int .i64 1]]) true true)] 59
  rw [hg]
  simp (disch := omega) [w57, H.inl, H.pp, h1, c1, c3]

theorem carryA0_ok (H : Has C) (a : Int) (xa : Bool) (G : List Int) (w : Bool) (e : Bool) (c1 : chk a [] = 0) (x : Bool) (c2 : (G.length : Int) = a) :
   RnW C 57 [eM a [] e, .sl 0 1 0 G.length G.length x] [(0, .cells 1 (G.map eI) w true), (1, .cells 2 [[.int .i64 a, .ro 1 [] xa]] true true)] 5 = some ⟨.tup [.ro 1 [] true, .int .i64 0], [(0, .cells 1 (G.map eI) w true), (1, .cells 2 [[.int .i64 a, .ro 1 [] xa]] true true), (5, .cells 2 [[.int .i64 a, L1 [] e]] true true)], 19⟩ := by
  have h1 : FnW C 56 [.agg [.int .i64 a, .ro 1 [] e]] = some (.int .i64 (chk a [])) := check_ok H a [] e
  have hg := rnW_eq (args := [eM a [] e, .sl 0 1 0 G.length G.length x]) H.f57 rfl [(0, .cells 1 (G.map eI) w true), (1, .cells 2 [[.int .i64 a, .ro 1 [] xa]] true true)] 5
  rw [hg]
  simp (disch := omega) [w57, H.inl, H.pp, h1, c1, c2, fits]

theorem carryB3_loop (xa : Bool) (n0 : Nat) (B : List Int) (xb : Bool) (D : List Int) (G : List Int) (f : List Int) (e x : Bool) (l : List Int) (hf : ∀ k ∈ f, k < l.length) (hl : f.length ≤ 4096) : ∀ n i, n + i = f.length → ∀ acc : List Int, acc.length = i →
    CK C 7 (fnEndW [.tmp 4, .tmp 5]) [.sq w57_L0, .bk 0 ⟨true, [7], []⟩, .sq w57_c0] w57_B0 ⟨[(31, .int .i64 i), (30, .int .i64 f.length), (29, L1 f e), (7, .sl 7 1 0 f.length f.length true), (1, L1 l x)], [(0, .cells 2 [[.int .i64 n0, L1 D true]] true true), (1, .cells 2 [[.int .i64 0, L1 B xb]] true true), (2, .cells 1 (G.map eI) true true), (3, .cells 2 [[.int .i64 n0, .ro 1 [] xa]] true true), (7, .cells 1 (acc.map eI ++ List.replicate n [AV.int .i64 0]) true true)], 8⟩ =
      some ⟨.tup [.sl 7 1 0 f.length f.length true, .int .i64 0], [(0, .cells 2 [[.int .i64 n0, L1 D true]] true true), (1, .cells 2 [[.int .i64 0, L1 B xb]] true true), (2, .cells 1 (G.map eI) true true), (3, .cells 2 [[.int .i64 n0, .ro 1 [] xa]] true true), (7, .cells 1 ((acc ++ carry (f.drop i) l).map eI) true true)], 11⟩ := by
  intro n
  induction n with
  | zero =>
    intro i hi acc ha
    rw [ck_unf w57_B0.eq_1]
    have h3 : ¬ i < f.length := by omega
    have h4 : f.drop i = [] := List.drop_eq_nil_of_le (by omega)
    simp [ck_unf w57_c0.eq_1, h3, h4, carry]
  | succ n ih =>
    intro i hi acc ha
    have h3 : i < f.length := by omega
    have hk := hf _ (List.getElem_mem h3)
    rw [drop_cons h3]
    by_cases c : 0 ≤ f[i]
    · obtain ⟨k, hk'⟩ : ∃ k : Nat, f[i] = k := ⟨f[i].toNat, by omega⟩
      have hk2 : k < l.length := by omega
      have := ih (i + 1) (by omega) (acc ++ [l[k]]) (by simp [ha])
      rw [ck_unf w57_B0.eq_1] at ⊢
      rw [hk'] at c
      simp at this
      simp (disch := omega) [h3, wI64, carry, hk', hk2, c, fill_get, fill_set] at this ⊢
      exact this
    · have := ih (i + 1) (by omega) (acc ++ [0]) (by simp [ha])
      rw [ck_unf w57_B0.eq_1] at ⊢
      simp at this
      simp (disch := omega) [h3, wI64, carry, c, fill_get, fill_set, List.replicate_succ] at this ⊢
      exact this

theorem carryB3_ok (H : Has C) (xa : Bool) (n0 : Nat) (B : List Int) (xb : Bool) (D : List Int) (G : List Int) (a : Int) (f : List Int) (e x : Bool) (l : List Int) (c1 : chk a f = 0) (c2 : (l.length : Int) = a) (hne : f ≠ []) :
   RnW C 57 [eM a f e, L1 l x] [(0, .cells 2 [[.int .i64 n0, L1 D true]] true true), (1, .cells 2 [[.int .i64 0, L1 B xb]] true true), (2, .cells 1 (G.map eI) true true), (3, .cells 2 [[.int .i64 n0, .ro 1 [] xa]] true true)] 7 = some ⟨.tup [.sl 7 1 0 f.length f.length true, .int .i64 0], [(0, .cells 2 [[.int .i64 n0, L1 D true]] true true), (1, .cells 2 [[.int .i64 0, L1 B xb]] true true), (2, .cells 1 (G.map eI) true true), (3, .cells 2 [[.int .i64 n0, .ro 1 [] xa]] true true), (7, .cells 1 ((carry f l).map eI) true true)], 11⟩ := by
  have h1 := check_ok H a f e
  have c3 : f.length ≠ 0 := by simp [hne]
  have hl := (chk_zero c1).len
  have hg := rnW_eq (args := [eM a f e, L1 l x]) H.f57 rfl [(0, .cells 2 [[.int .i64 n0, L1 D true]] true true), (1, .cells 2 [[.int .i64 0, L1 B xb]] true true), (2, .cells 1 (G.map eI) true true), (3, .cells 2 [[.int .i64 n0, .ro 1 [] xa]] true true)] 7
  rw [hg]
  have := carryB3_loop (C := C) xa n0 B xb D G f e x l (fun k hk => by have := (chk_zero c1).rng k hk; omega) hl f.length 0 (by simp) [] rfl
  simp at this
  simp (disch := omega) [w57, H.inl, H.pp, h1, c1, c2, c3, hne, fits, this]

theorem carryC3_loop (xa : Bool) (n0 : Nat) (B : List Int) (xb : Bool) (D : List Int) (Q : List Int) (f : List Int) (e x : Bool) (l : List Int) (hf : ∀ k ∈ f, k < l.length) (hl : f.length ≤ 4096) : ∀ n i, n + i = f.length → ∀ acc : List Int, acc.length = i →
    CK C 19 (fnEndW [.tmp 4, .tmp 5]) [.sq w57_L0, .bk 0 ⟨true, [7], []⟩, .sq w57_c0] w57_B0 ⟨[(31, .int .i64 i), (30, .int .i64 f.length), (29, L1 f e), (7, .sl 19 1 0 f.length f.length true), (1, .sl 2 1 0 l.length l.length x)], [(0, .cells 2 [[.int .i64 n0, L1 D true]] true true), (1, .cells 2 [[.int .i64 0, L1 B xb]] true true), (2, .cells 1 (l.map eI) true true), (3, .cells 2 [[.int .i64 n0, .ro 1 [] xa]] true true), (7, .cells 1 (Q.map eI) true true), (19, .cells 1 (acc.map eI ++ List.replicate n [AV.int .i64 0]) true true)], 20⟩ =
      some ⟨.tup [.sl 19 1 0 f.length f.length true, .int .i64 0], [(0, .cells 2 [[.int .i64 n0, L1 D true]] true true), (1, .cells 2 [[.int .i64 0, L1 B xb]] true true), (2, .cells 1 (l.map eI) true true), (3, .cells 2 [[.int .i64 n0, .ro 1 [] xa]] true true), (7, .cells 1 (Q.map eI) true true), (19, .cells 1 ((acc ++ carry (f.drop i) l).map eI) true true)], 23⟩ := by
  intro n
  induction n with
  | zero =>
    intro i hi acc ha
    rw [ck_unf w57_B0.eq_1]
    have h3 : ¬ i < f.length := by omega
    have h4 : f.drop i = [] := List.drop_eq_nil_of_le (by omega)
    simp [ck_unf w57_c0.eq_1, h3, h4, carry]
  | succ n ih =>
    intro i hi acc ha
    have h3 : i < f.length := by omega
    have hk := hf _ (List.getElem_mem h3)
    rw [drop_cons h3]
    by_cases c : 0 ≤ f[i]
    · obtain ⟨k, hk'⟩ : ∃ k : Nat, f[i] = k := ⟨f[i].toNat, by omega⟩
      have hk2 : k < l.length := by omega
      have := ih (i + 1) (by omega) (acc ++ [l[k]]) (by simp [ha])
      rw [ck_unf w57_B0.eq_1] at ⊢
      rw [hk'] at c
      simp at this
      simp (disch := omega) [h3, wI64, carry, hk', hk2, c, fill_get, fill_set] at this ⊢
      exact this
    · have := ih (i + 1) (by omega) (acc ++ [0]) (by simp [ha])
      rw [ck_unf w57_B0.eq_1] at ⊢
      simp at this
      simp (disch := omega) [h3, wI64, carry, c, fill_get, fill_set, List.replicate_succ] at this ⊢
      exact this

theorem carryC3_ok (H : Has C) (xa : Bool) (n0 : Nat) (B : List Int) (xb : Bool) (D : List Int) (Q : List Int) (a : Int) (f : List Int) (e x : Bool) (l : List Int) (c1 : chk a f = 0) (c2 : (l.length : Int) = a) (hne : f ≠ []) :
   RnW C 57 [eM a f e, .sl 2 1 0 l.length l.length x] [(0, .cells 2 [[.int .i64 n0, L1 D true]] true true), (1, .cells 2 [[.int .i64 0, L1 B xb]] true true), (2, .cells 1 (l.map eI) true true), (3, .cells 2 [[.int .i64 n0, .ro 1 [] xa]] true true), (7, .cells 1 (Q.map eI) true true)] 19 = some ⟨.tup [.sl 19 1 0 f.length f.length true, .int .i64 0], [(0, .cells 2 [[.int .i64 n0, L1 D true]] true true), (1, .cells 2 [[.int .i64 0, L1 B xb]] true true), (2, .cells 1 (l.map eI) true true), (3, .cells 2 [[.int .i64 n0, .ro 1 [] xa]] true true), (7, .cells 1 (Q.map eI) true true), (19, .cells 1 ((carry f l).map eI) true true)], 23⟩ := by
  have h1 := check_ok H a f e
  have c3 : f.length ≠ 0 := by simp [hne]
  have hl := (chk_zero c1).len
  have hg := rnW_eq (args := [eM a f e, .sl 2 1 0 l.length l.length x]) H.f57 rfl [(0, .cells 2 [[.int .i64 n0, L1 D true]] true true), (1, .cells 2 [[.int .i64 0, L1 B xb]] true true), (2, .cells 1 (l.map eI) true true), (3, .cells 2 [[.int .i64 n0, .ro 1 [] xa]] true true), (7, .cells 1 (Q.map eI) true true)] 19
  rw [hg]
  have := carryC3_loop (C := C) xa n0 B xb D Q f e x l (fun k hk => by have := (chk_zero c1).rng k hk; omega) hl f.length 0 (by simp) [] rfl
  simp at this
  simp (disch := omega) [w57, H.inl, H.pp, h1, c1, c2, c3, hne, fits, this]

theorem carryD3_ok (H : Has C) (xa : Bool) (n0 : Nat) (B : List Int) (xb : Bool) (D : List Int) (G : List Int) (Q : List Int) (a : Int) (f : List Int) (e : Bool) (c1 : chk a f = 0) (c2 : (G.length : Int) = a) :
   RnW C 57 [eM a f e, .sl 31 1 0 (G.length + 1) (G.length + 1) false] [(0, .cells 2 [[.int .i64 n0, L1 D true]] true true), (1, .cells 2 [[.int .i64 0, L1 B xb]] true true), (3, .cells 2 [[.int .i64 n0, .ro 1 [] xa]] true true), (7, .cells 1 (Q.map eI) true true), (19, .cells 1 (Q.map eI) true true), (30, .cells 1 [[.int .i64 1]] true true), (31, .cells 1 (G.map eI ++ [[.int .i64 1]]) true true)] 38 = some ⟨.tup [.ro 1 [] true, .int .i64 16], [(0, .cells 2 [[.int .i64 n0, L1 D true]] true true), (1, .cells 2 [[.int .i64 0, L1 B xb]] true true), (3, .cells 2 [[.int .i64 n0, .ro 1 [] xa]] true true), (7, .cells 1 (Q.map eI) true true), (19, .cells 1 (Q.map eI) true true), (30, .cells 1 [[.int .i64 1]] true true), (31, .cells 1 (G.map eI ++ [[.int .i64 1]]) true true), (38, .cells 2 [[.int .i64 a, L1 f e]] true true)], 48⟩ := by
  have h1 := check_ok H a f e
  have c3 : ¬ ((G.length : Int) + 1 = a) := by omega
  have hg := rnW_eq (args := [eM a f e, .sl 31 1 0 (G.length + 1) (G.length + 1) false]) H.f57 rfl [(0, .cells 2 [[.int .i64 n0, L1 D true]] true true), (1, .cells 2 [[.int .i64 0, L1 B xb]] true true), (3, .cells 2 [[.int .i64 n0, .ro 1 [] xa]] true true), (7, .cells 1 (Q.map eI) true true), (19, .cells 1 (Q.map eI) true true), (30, .cells 1 [[.int .i64 1]] true true), (31, .cells 1 (G.map eI ++ [[.int .i64 1]]) true true)] 38
  rw [hg]
  simp (disch := omega) [w57, H.inl, H.pp, h1, c1, c3]

theorem carryB4_ok (H : Has C) (a : Int) (xa : Bool) (n0 : Nat) (xb : Bool) (G : List Int) (e : Bool) (c1 : chk a [] = 0) (c2 : 0 = a) :
   RnW C 57 [eM a [] e, .ro 1 [] true] [(0, .cells 2 [[.int .i64 n0, .ro 1 [] true]] true true), (1, .cells 2 [[.int .i64 0, .ro 1 [] xb]] true true), (2, .cells 1 (G.map eI) true true), (3, .cells 2 [[.int .i64 n0, .ro 1 [] xa]] true true)] 7 = some ⟨.tup [.ro 1 [] true, .int .i64 0], [(0, .cells 2 [[.int .i64 n0, .ro 1 [] true]] true true), (1, .cells 2 [[.int .i64 0, .ro 1 [] xb]] true true), (2, .cells 1 (G.map eI) true true), (3, .cells 2 [[.int .i64 n0, .ro 1 [] xa]] true true), (7, .cells 2 [[.int .i64 a, L1 [] e]] true true)], 21⟩ := by
  have h1 : FnW C 56 [.agg [.int .i64 a, .ro 1 [] e]] = some (.int .i64 (chk a [])) := check_ok H a [] e
  have hg := rnW_eq (args := [eM a [] e, .ro 1 [] true]) H.f57 rfl [(0, .cells 2 [[.int .i64 n0, .ro 1 [] true]] true true), (1, .cells 2 [[.int .i64 0, .ro 1 [] xb]] true true), (2, .cells 1 (G.map eI) true true), (3, .cells 2 [[.int .i64 n0, .ro 1 [] xa]] true true)] 7
  rw [hg]
  simp (disch := omega) [w57, H.inl, H.pp, h1, c1, c2, fits]

theorem carryC4_ok (H : Has C) (a : Int) (xa : Bool) (n0 : Nat) (xb : Bool) (G : List Int) (e : Bool) (c1 : chk a [] = 0) (x : Bool) (c2 : (G.length : Int) = a) :
   RnW C 57 [eM a [] e, .sl 2 1 0 G.length G.length x] [(0, .cells 2 [[.int .i64 n0, .ro 1 [] true]] true true), (1, .cells 2 [[.int .i64 0, .ro 1 [] xb]] true true), (2, .cells 1 (G.map eI) true true), (3, .cells 2 [[.int .i64 n0, .ro 1 [] xa]] true true), (7, .cells 2 [[.int .i64 0, .ro 1 [] xb]] true true)] 29 = some ⟨.tup [.ro 1 [] true, .int .i64 0], [(0, .cells 2 [[.int .i64 n0, .ro 1 [] true]] true true), (1, .cells 2 [[.int .i64 0, .ro 1 [] xb]] true true), (2, .cells 1 (G.map eI) true true), (3, .cells 2 [[.int .i64 n0, .ro 1 [] xa]] true true), (7, .cells 2 [[.int .i64 0, .ro 1 [] xb]] true true), (29, .cells 2 [[.int .i64 a, L1 [] e]] true true)], 43⟩ := by
  have h1 : FnW C 56 [.agg [.int .i64 a, .ro 1 [] e]] = some (.int .i64 (chk a [])) := check_ok H a [] e
  have hg := rnW_eq (args := [eM a [] e, .sl 2 1 0 G.length G.length x]) H.f57 rfl [(0, .cells 2 [[.int .i64 n0, .ro 1 [] true]] true true), (1, .cells 2 [[.int .i64 0, .ro 1 [] xb]] true true), (2, .cells 1 (G.map eI) true true), (3, .cells 2 [[.int .i64 n0, .ro 1 [] xa]] true true), (7, .cells 2 [[.int .i64 0, .ro 1 [] xb]] true true)] 29
  rw [hg]
  simp (disch := omega) [w57, H.inl, H.pp, h1, c1, c2, fits]

theorem carryD4_ok (H : Has C) (xa : Bool) (n0 : Nat) (xb : Bool) (G : List Int) (a : Int) (f : List Int) (e : Bool) (c1 : chk a f = 0) (c2 : (G.length : Int) = a) :
   RnW C 57 [eM a f e, .sl 51 1 0 (G.length + 1) (G.length + 1) false] [(0, .cells 2 [[.int .i64 n0, .ro 1 [] true]] true true), (1, .cells 2 [[.int .i64 0, .ro 1 [] xb]] true true), (3, .cells 2 [[.int .i64 n0, .ro 1 [] xa]] true true), (7, .cells 2 [[.int .i64 0, .ro 1 [] xb]] true true), (29, .cells 2 [[.int .i64 n0, .ro 1 [] true]] true true), (50, .cells 1 [[.int .i64 1]] true true), (51, .cells 1 (G.map eI ++ [[.int .i64 1]]) true true)] 58 = some ⟨.tup [.ro 1 [] true, .int .i64 16], [(0, .cells 2 [[.int .i64 n0, .ro 1 [] true]] true true), (1, .cells 2 [[.int .i64 0, .ro 1 [] xb]] true true), (3, .cells 2 [[.int .i64 n0, .ro 1 [] xa]] true true), (7, .cells 2 [[.int .i64 0, .ro 1 [] xb]] true true), (29, .cells 2 [[.int .i64 n0, .ro 1 [] true]] true true), (50, .cells 1 [[.int .i64 1]] true true), (51, .cells 1 (G.map eI ++ [[.int .i64 1]]) true true), (58, .cells 2 [[.int .i64 a, L1 f e]] true true)], 68⟩ := by
  have h1 := check_ok H a f e
  have c3 : ¬ ((G.length : Int) + 1 = a) := by omega
  have hg := rnW_eq (args := [eM a f e, .sl 51 1 0 (G.length + 1) (G.length + 1) false]) H.f57 rfl [(0, .cells 2 [[.int .i64 n0, .ro 1 [] true]] true true), (1, .cells 2 [[.int .i64 0, .ro 1 [] xb]] true true), (3, .cells 2 [[.int .i64 n0, .ro 1 [] xa]] true true), (7, .cells 2 [[.int .i64 0, .ro 1 [] xb]] true true), (29, .cells 2 [[.int .i64 n0, .ro 1 [] true]] true true), (50, .cells 1 [[.int .i64 1]] true true), (51, .cells 1 (G.map eI ++ [[.int .i64 1]]) true true)] 58
  rw [hg]
  simp (disch := omega) [w57, H.inl, H.pp, h1, c1, c3]

theorem want_loop (H : Has C) (n0 : Nat) (A : List Int) (xa : Bool) (m1 : List St4) (e1 : Bool) (G : List Int) (hf : ∀ k ∈ A, k < G.length) (hl : A.length ≤ 4096) (R : AV)
    (hend : w45_K0 C ⟨[(13, .int .i64 A.length), (12, .sl 0 1 0 (carry A G).length (carry A G).length false), (11, .int .i64 0), (10, .sl 1 1 0 A.length A.length true), (8, .sl 2 1 0 G.length G.length false), (7, .ptr 3 0 0), (1, .ro 4 (m1.map e4) e1)], [(0, .cells 1 ((carry A G).map eI) true true), (1, .cells 1 ((carry A G).map eI) true true), (2, .cells 1 (G.map eI) true true), (3, .cells 2 [[.int .i64 n0, L1 A xa]] true true)], 4⟩ = some R) : ∀ n i, n + i = A.length → ∀ W : List Int, W ++ carry (A.drop i) G = carry A G → W.length = i →
    w45_K0 C ⟨[(13, .int .i64 i), (12, .sl 0 1 0 W.length W.length false), (11, .int .i64 0), (10, .sl 1 1 0 A.length A.length true), (8, .sl 2 1 0 G.length G.length false), (7, .ptr 3 0 0), (1, .ro 4 (m1.map e4) e1)], [(0, .cells 1 (W.map eI) true true), (1, .cells 1 ((carry A G).map eI) true true), (2, .cells 1 (G.map eI) true true), (3, .cells 2 [[.int .i64 n0, L1 A xa]] true true)], 4⟩ = some R := by
  intro n
  generalize hC : carry A G = CA at *
  induction n with
  | zero =>
    intro i hi W hW hWl
    have h4 : A.drop i = [] := List.drop_eq_nil_of_le (by omega)
    have h5 : i = A.length := by omega
    subst h5
    rw [h4] at hW
    simp [carry] at hW
    subst hW
    exact hend
  | succ n ih =>
    intro i hi W hW hWl
    have h3 : i < A.length := by omega
    have hk := hf _ (List.getElem_mem h3)
    rw [drop_cons h3] at hW
    have hfit : (W.length + 1) * 9 ≤ 35184372088832 := by omega
    by_cases c : 0 ≤ A[i]
    · obtain ⟨k, hk'⟩ : ∃ k : Nat, A[i] = k := ⟨A[i].toNat, by omega⟩
      have hk2 : k < G.length := by omega
      have := ih (i + 1) (by omega) (W ++ [G[k]]) (by rw [← hW]; simp [carry, hk', hk2]) (by simp [hWl])
      simp only [w45_K0] at this ⊢; rw [ck_unf w45_B0.eq_1]
      rw [hk'] at c
      simp at this
      simp (disch := omega) [h3, wI64, hk', hk2, c, hfit, this]
    · have := ih (i + 1) (by omega) (W ++ [0]) (by rw [← hW]; simp [carry, c]) (by simp [hWl])
      simp only [w45_K0] at this ⊢; rw [ck_unf w45_B0.eq_1]
      simp at this
      simp (disch := omega) [h3, wI64, c, hfit, this]

theorem L2x (H : Has C) (F : Fns C) (F2 : Fns2 C) (h59 : C.fns.get 59 = some w59) (h57 : C.inl 57 = true) (n0 : Nat) (A : List Int) (xa : Bool) (m1 : List St4) (e1 : Bool) (G : List Int) (kA : chk n0 A = 0) (hG : G.length = n0) (hA : A ≠ [])
    (B : List Int) (xb : Bool) (b1 : FnW C 64 [.agg [.int .u8 0, .ro 4 (m1.map e4) e1], L1 (mapR id A.length) false] = some (L1 B xb)) (kB : chk A.length B = 0) (kD : chk n0 (cmp A B) = 0) (hB : B ≠ [])
    (hcc : carry (cmp A B) G = carry B (carry A G)) :
    w45_K0 C ⟨[(13, .int .i64 A.length), (12, .sl 0 1 0 (carry A G).length (carry A G).length false), (11, .int .i64 0), (10, .sl 1 1 0 A.length A.length true), (8, .sl 2 1 0 G.length G.length false), (7, .ptr 3 0 0), (1, .ro 4 (m1.map e4) e1)], [(0, .cells 1 ((carry A G).map eI) true true), (1, .cells 1 ((carry A G).map eI) true true), (2, .cells 1 (G.map eI) true true), (3, .cells 2 [[.int .i64 n0, L1 A xa]] true true)], 4⟩ = some (.bool true) := by
  have hl := (chk_zero kA).len
  have s1 := rsame_ok F.f63 A.length (by omega) (by omega)
  have lB := (chk_zero kB).len
  have hlv := lives_ok H F2
  have hA0 := check_ok H n0 A xa
  have q1 := list_ok h59 (carry A G) (carry A G) true 0 0 (by simp [carry]; omega)
  have q2 := list_ok h59 (carry A G) (carry A G) false 0 0 (by simp [carry]; omega)
  have q3 := list_ok h59 (carry B (carry A G)) (carry B (carry A G)) true 0 0 (by simp [carry]; omega)
  have p1 := compose_ok H n0 A xa A.length B xb
  have hcl : (carry A G).length = A.length := by simp [carry]
  have hcl2 : (carry B (carry A G)).length = B.length := by simp [carry]
  have ht : List.take A.length (List.map eI (carry A G)) = List.map eI (carry A G) := List.take_of_length_le (by simp [hcl])
  have ht2 : List.take B.length (List.map eI (carry B (carry A G))) = List.map eI (carry B (carry A G)) := List.take_of_length_le (by simp [hcl2])
  have r1 := carryB_ok H A xa n0 B xb (cmp A B) A.length G A.length B xb true (carry A G) kB (by simp [hcl]) hB
  have hDl : (cmp A B).length = B.length := by simp [cmp]
  have hD : cmp A B ≠ [] := fun q => hB (List.length_eq_zero_iff.1 (by rw [← hDl, q]; rfl))
  have r2 := carryC_ok H A xa n0 B xb (cmp A B) A.length (carry A G) (carry B (carry A G)) n0 (cmp A B) true false G kD (by simp [hG]) hD
  have r3 := carryD_ok H A xa n0 B xb (cmp A B) A.length G (carry A G) (carry B (carry A G)) n0 A xa kA (by simp [hG])
  rw [hcl] at r1
  rw [hcc, hDl] at r2
  simp only [w45_K0]; rw [ck_unf w45_B0.eq_1]
  generalize hC : carry A G = CA at *
  generalize hC2 : carry B CA = CB at *
  generalize hC3 : cmp A B = D at *
  simp [kA, kB] at p1 q1 q2 q3 hA0
  have hfit : (G.length + 1) * 9 ≤ 35184372088832 := by have := (chk_zero kA).old1; omega
  simp [ck_unf w45_c0.eq_1, H.inl, H.pp, h57, s1, q1, q2, q3, ht, ht2, hcl, hcl2, b1, p1, r1, r2, r3, hfit, hlv]


theorem L2y (H : Has C) (F : Fns C) (F2 : Fns2 C) (h59 : C.fns.get 59 = some w59) (h57 : C.inl 57 = true) (n0 : Nat) (A : List Int) (xa : Bool) (m1 : List St4) (e1 : Bool) (G : List Int) (kA : chk n0 A = 0) (hG : G.length = n0) (hA : A ≠ [])
    (xb : Bool) (b1 : FnW C 64 [.agg [.int .u8 0, .ro 4 (m1.map e4) e1], L1 (mapR id A.length) false] = some (.ro 1 [] xb)) (kB : chk A.length [] = 0) (kD : chk n0 [] = 0) :
    w45_K0 C ⟨[(13, .int .i64 A.length), (12, .sl 0 1 0 (carry A G).length (carry A G).length false), (11, .int .i64 0), (10, .sl 1 1 0 A.length A.length true), (8, .sl 2 1 0 G.length G.length false), (7, .ptr 3 0 0), (1, .ro 4 (m1.map e4) e1)], [(0, .cells 1 ((carry A G).map eI) true true), (1, .cells 1 ((carry A G).map eI) true true), (2, .cells 1 (G.map eI) true true), (3, .cells 2 [[.int .i64 n0, L1 A xa]] true true)], 4⟩ = some (.bool true) := by
  have hl := (chk_zero kA).len
  have s1 := rsame_ok F.f63 A.length (by omega) (by omega)
  have hlv := lives_ok H F2
  have hA0 := check_ok H n0 A xa
  have q1 := list_ok h59 (carry A G) (carry A G) true 0 0 (by simp [carry]; omega)
  have q2 := list_ok h59 (carry A G) (carry A G) false 0 0 (by simp [carry]; omega)
  have q3 : FnW C 59 [.ro 1 [] true, .int .i64 0, .ro 1 [] true, .int .i64 0] = some (.bool true) := list_ok h59 [] [] true 0 0 (by simp)
  have p1 : FnW C 52 [eM n0 A xa, .agg [.int .i64 A.length, .ro 1 [] xb]] = _ := compose_ok H n0 A xa A.length [] xb
  have hcl : (carry A G).length = A.length := by simp [carry]
  have ht : List.take A.length (List.map eI (carry A G)) = List.map eI (carry A G) := List.take_of_length_le (by simp [hcl])
  have hm : cmp A [] = [] := by simp [cmp]
  rw [hm] at p1
  have r1 := carryB0_ok H A.length A xa n0 xb A.length G (carry A G) xb kB true rfl
  have r2 := carryC0_ok H n0 A xa n0 xb A.length G (carry A G) true kD false (by simp [hG])
  have r3 := carryD0_ok H A xa n0 xb A.length G (carry A G) n0 A xa kA (by simp [hG])
  simp only [w45_K0]; rw [ck_unf w45_B0.eq_1]
  generalize hC : carry A G = CA at *
  simp [kA, kB] at p1 q1 q2 hA0
  replace p1 : FnW C 52 [eM n0 A xa, .agg [.int .i64 A.length, .ro 1 [] xb]] = some (.tup [.agg [.int .i64 n0, .ro 1 [] true], .int .i64 0]) := p1
  simp only [L1, eM, List.map_nil] at r1 r2
  have hfit : (G.length + 1) * 9 ≤ 35184372088832 := by have := (chk_zero kA).old1; omega
  simp [ck_unf w45_c0.eq_1, H.inl, H.pp, h57, s1, q1, q2, q3, ht, hcl, b1, p1, r1, r2, r3, hfit, hlv]

theorem L3x (H : Has C) (F : Fns C) (F2 : Fns2 C) (h59 : C.fns.get 59 = some w59) (h57 : C.inl 57 = true) (n0 : Nat) (xa : Bool) (z : Int) (m1 : List St4) (e1 : Bool) (G : List Int) (kA : chk n0 [] = 0) (hG : G.length = n0) (hn : n0 ≤ 4096)
    (B : List Int) (xb : Bool) (b1 : FnW C 64 [.agg [.int .u8 0, .ro 4 (m1.map e4) e1], .ro 1 [] false] = some (L1 B xb)) (kB : chk 0 B = 0) (kD : chk n0 (cmp [] B) = 0) (hB : B ≠ []) (hcc : carry (cmp [] B) G = carry B []) :
    w45_K1 C ⟨[(9, .int .i64 n0), (8, .sl 0 1 0 G.length G.length false), (7, .ptr 1 0 0), (2, .int .i64 z), (1, .ro 4 (m1.map e4) e1)], [(0, .cells 1 (G.map eI) true true), (1, .cells 2 [[.int .i64 n0, .ro 1 [] xa]] true true)], 2⟩ = some (.bool true) := by
  have r0 := carryA0_ok H n0 xa G true xa kA false (by simp [hG])
  have s1 : FnW C 63 [.int .i64 0] = some (.ro 1 [] false) := rsame_ok F.f63 0 (by omega) (by omega)
  have lB := (chk_zero kB).len
  have hlv := lives_ok H F2
  have q1 : FnW C 59 [.ro 1 [] true, .int .i64 0, .ro 1 [] true, .int .i64 0] = some (.bool true) := list_ok h59 [] [] true 0 0 (by simp)
  have q2 : FnW C 59 [.ro 1 [] true, .int .i64 0, .ro 1 [] false, .int .i64 0] = some (.bool true) := list_ok h59 [] [] false 0 0 (by simp)
  have q3 := list_ok h59 (carry B []) (carry B []) true 0 0 (by simp [carry]; omega)
  have p1 : FnW C 52 [.agg [.int .i64 n0, .ro 1 [] xa], eM 0 B xb] = _ := compose_ok H n0 [] xa 0 B xb
  have hcl2 : (carry B []).length = B.length := by simp [carry]
  have ht2 : List.take B.length (List.map eI (carry B [])) = List.map eI (carry B []) := List.take_of_length_le (by simp [hcl2])
  have hDl : (cmp [] B).length = B.length := by simp [cmp]
  have hD : cmp [] B ≠ [] := fun q => hB (List.length_eq_zero_iff.1 (by rw [← hDl, q]; rfl))
  have r1 := carryB3_ok H xa n0 B xb (cmp [] B) G 0 B xb true [] kB rfl hB
  have r2 := carryC3_ok H xa n0 B xb (cmp [] B) (carry B []) n0 (cmp [] B) true false G kD (by simp [hG]) hD
  have r3 := carryD3_ok H xa n0 B xb (cmp [] B) G (carry B []) n0 [] xa kA (by simp [hG])
  rw [hcc, hDl] at r2
  have hfit : (G.length + 1) * 9 ≤ 35184372088832 := by omega
  generalize hC2 : carry B [] = CB at *
  generalize hC3 : cmp [] B = D at *
  simp [kA, kB] at p1 q3
  simp only [L1, eM, List.map_nil] at r0 r1 r3
  simp only [w45_K1]; rw [ck_unf w45_B1.eq_1]
  simp [ck_unf w45_c1.eq_1, ck_unf w45_B0.eq_1, ck_unf w45_c0.eq_1, H.inl, H.pp, h57, s1, q1, q2, q3, ht2, hcl2, b1, p1, r0, r1, r2, r3, hfit, hlv]

theorem L4x (H : Has C) (F : Fns C) (F2 : Fns2 C) (h59 : C.fns.get 59 = some w59) (h57 : C.inl 57 = true) (n0 : Nat) (xa : Bool) (z : Int) (m1 : List St4) (e1 : Bool) (G : List Int) (kA : chk n0 [] = 0) (hG : G.length = n0) (hn : n0 ≤ 4096)
    (xb : Bool) (b1 : FnW C 64 [.agg [.int .u8 0, .ro 4 (m1.map e4) e1], .ro 1 [] false] = some (.ro 1 [] xb)) (kB : chk 0 [] = 0) :
    w45_K1 C ⟨[(9, .int .i64 n0), (8, .sl 0 1 0 G.length G.length false), (7, .ptr 1 0 0), (2, .int .i64 z), (1, .ro 4 (m1.map e4) e1)], [(0, .cells 1 (G.map eI) true true), (1, .cells 2 [[.int .i64 n0, .ro 1 [] xa]] true true)], 2⟩ = some (.bool true) := by
  have r0 := carryA0_ok H n0 xa G true xa kA false (by simp [hG])
  have s1 : FnW C 63 [.int .i64 0] = some (.ro 1 [] false) := rsame_ok F.f63 0 (by omega) (by omega)
  have hlv := lives_ok H F2
  have q1 : FnW C 59 [.ro 1 [] true, .int .i64 0, .ro 1 [] true, .int .i64 0] = some (.bool true) := list_ok h59 [] [] true 0 0 (by simp)
  have q2 : FnW C 59 [.ro 1 [] true, .int .i64 0, .ro 1 [] false, .int .i64 0] = some (.bool true) := list_ok h59 [] [] false 0 0 (by simp)
  have p1 : FnW C 52 [.agg [.int .i64 n0, .ro 1 [] xa], .agg [.int .i64 0, .ro 1 [] xb]] = _ := compose_ok H n0 [] xa 0 [] xb
  simp [kA, kB] at p1
  replace p1 : FnW C 52 [.agg [.int .i64 n0, .ro 1 [] xa], .agg [.int .i64 0, .ro 1 [] xb]] = some (.tup [.agg [.int .i64 n0, .ro 1 [] true], .int .i64 0]) := p1
  have r1 := carryB4_ok H 0 xa n0 xb G xb kB rfl
  have r2 := carryC4_ok H n0 xa n0 xb G true kA false (by simp [hG])
  have r3 := carryD4_ok H xa n0 xb G n0 [] xa kA (by simp [hG])
  have hfit : (G.length + 1) * 9 ≤ 35184372088832 := by omega
  simp only [L1, eM, List.map_nil] at r0 r1 r2 r3
  simp only [w45_K1]; rw [ck_unf w45_B1.eq_1]
  simp [ck_unf w45_c1.eq_1, ck_unf w45_B0.eq_1, ck_unf w45_c0.eq_1, H.inl, H.pp, h57, s1, q1, q2, b1, p1, r0, r1, r2, r3, hfit, hlv]

theorem carry_cmp (A B G : List Int) (hB : ∀ k ∈ B, k < A.length) : carry (cmp A B) G = carry B (carry A G) := by
  unfold carry cmp
  rw [List.map_map]
  refine List.map_congr_left fun k hk => ?_
  have := hB k hk
  by_cases c : 0 ≤ k
  · obtain ⟨j, rfl⟩ : ∃ j : Nat, k = j := ⟨k.toNat, by omega⟩
    have hj : j < A.length := by omega
    simp [hj]
  · simp [c]

theorem L1x (H : Has C) (F : Fns C) (F2 : Fns2 C) (h59 : C.fns.get 59 = some w59) (h57 : C.inl 57 = true) (n0 : Nat) (A : List Int) (xa : Bool) (z : Int) (m1 : List St4) (e1 : Bool) (G : List Int) (kA : chk n0 A = 0) (hG : G.length = n0) (hn : n0 ≤ 4096)
    (B : List Int) (xb : Bool) (b1 : FnW C 64 [.agg [.int .u8 0, .ro 4 (m1.map e4) e1], L1 (mapR id A.length) false] = some (L1 B xb)) (kB : chk A.length B = 0) (kD : chk n0 (cmp A B) = 0) :
    w45_K1 C ⟨[(9, .int .i64 n0), (8, .sl 0 1 0 G.length G.length false), (7, .ptr 1 0 0), (2, .int .i64 z), (1, .ro 4 (m1.map e4) e1)], [(0, .cells 1 (G.map eI) true true), (1, .cells 2 [[.int .i64 n0, L1 A xa]] true true)], 2⟩ = some (.bool true) := by
  have hcc := carry_cmp A B G (fun k hk => ((chk_zero kB).rng k hk).2)
  by_cases hA : A = []
  · subst hA
    by_cases hB : B = []
    · subst hB; exact L4x H F F2 h59 h57 n0 xa z m1 e1 G kA hG hn xb b1 kB
    · exact L3x H F F2 h59 h57 n0 xa z m1 e1 G kA hG hn B xb b1 kB kD hB hcc
  · have hc := carryA_ok H true A xa n0 n0 A xa false G kA (by omega) hA
    have hl := (chk_zero kA).len
    have hrest : w45_K0 C ⟨[(13, .int .i64 A.length), (12, .sl 0 1 0 (carry A G).length (carry A G).length false), (11, .int .i64 0), (10, .sl 1 1 0 A.length A.length true), (8, .sl 2 1 0 G.length G.length false), (7, .ptr 3 0 0), (1, .ro 4 (m1.map e4) e1)], [(0, .cells 1 ((carry A G).map eI) true true), (1, .cells 1 ((carry A G).map eI) true true), (2, .cells 1 (G.map eI) true true), (3, .cells 2 [[.int .i64 n0, L1 A xa]] true true)], 4⟩ = some (.bool true) := by
      by_cases hB : B = []
      · subst hB; exact L2y H F F2 h59 h57 n0 A xa m1 e1 G kA hG hA xb b1 kB kD
      · exact L2x H F F2 h59 h57 n0 A xa m1 e1 G kA hG hA B xb b1 kB kD hB hcc
    have hw := want_loop H n0 A xa m1 e1 G (fun k hk => by have := (chk_zero kA).rng k hk; omega) hl _ hrest A.length 0 (by simp) [] rfl rfl
    simp only [w45_K0] at hw
    simp at hw
    simp only [w45_K1]; rw [ck_unf w45_B1.eq_1]
    simp [ck_unf w45_c1.eq_1, h57, hc, hw]

theorem build_loop (n0 : Nat) (A : List Int) (xa : Bool) (z : Int) (m1 : List St4) (e1 : Bool) (hn : n0 ≤ 4096) (R : AV)
    (hend : ∀ G : List Int, G.length = n0 → w45_K1 C ⟨[(9, .int .i64 n0), (8, .sl 0 1 0 G.length G.length false), (7, .ptr 1 0 0), (2, .int .i64 z), (1, .ro 4 (m1.map e4) e1)], [(0, .cells 1 (G.map eI) true true), (1, .cells 2 [[.int .i64 n0, L1 A xa]] true true)], 2⟩ = some R) : ∀ n i, n + i = n0 → ∀ G : List Int, G.length = i →
    w45_K1 C ⟨[(9, .int .i64 i), (8, .sl 0 1 0 G.length G.length false), (7, .ptr 1 0 0), (2, .int .i64 z), (1, .ro 4 (m1.map e4) e1)], [(0, .cells 1 (G.map eI) true true), (1, .cells 2 [[.int .i64 n0, L1 A xa]] true true)], 2⟩ = some R := by
  intro n
  induction n with
  | zero =>
    intro i hi G hG
    have : i = n0 := by omega
    subst this
    exact hend G hG
  | succ n ih =>
    intro i hi G hG
    have h3 : i < n0 := by omega
    have hfit : (G.length + 1) * 9 ≤ 35184372088832 := by omega
    have := ih (i + 1) (by omega) (G ++ [IntKind.i64.wrap (z + 7 * i)]) (by simp [hG])
    simp only [w45_K1] at this ⊢; rw [ck_unf w45_B1.eq_1]
    simp at this
    simp (disch := omega) [h3, wI64, hfit, this]

theorem carryL_ok (H : Has C) (F : Fns C) (F2 : Fns2 C) (h45 : C.fns.get 45 = some w45) (h59 : C.fns.get 59 = some w59) (h57 : C.inl 57 = true) (N : Int) (hN : Byte N) (ss m1 : List St4) (se e1 : Bool) (hs : ∀ s ∈ ss, B4 s) (hm1 : ∀ s ∈ m1, B4 s) (z : Int) :
    FnW C 45 [.agg [.int .u8 N, .ro 4 (ss.map e4) se], .ro 4 (m1.map e4) e1, .int .i64 z] = some (.bool true) := by
  obtain ⟨xa, a1⟩ := of_ok F N hN ss se hs
  obtain ⟨n0, hn0⟩ : ∃ k : Nat, N % 31 = k := ⟨(N % 31).toNat, by omega⟩
  have hn0' : n0 ≤ 30 := by omega
  rw [hn0] at a1
  have vA : Vd n0 (chgs ss (mapR id n0)) := vd_chgs (by omega) ss hs (vd_range n0)
  have lA := chgs_len ss hs (mapR id n0)
  rw [mapR_len, Int.toNat_natCast] at lA
  generalize chgs ss (mapR id n0) = A at a1 vA lA
  obtain ⟨xb, b1⟩ := after_ok F 0 m1 e1 hm1 (mapR id A.length) false (by rw [mapR_len]; omega)
  have vB : Vd A.length (chgs m1 (mapR id A.length)) := vd_chgs (by omega) m1 hm1 (vd_range _)
  have lB := chgs_len m1 hm1 (mapR id A.length)
  rw [mapR_len, Int.toNat_natCast] at lB
  have cAB := cmp_chgs A m1
  have vAB : Vd n0 (chgs m1 A) := vd_chgs (by omega) m1 hm1 vA
  have lAB := chgs_len m1 hm1 A
  generalize chgs m1 (mapR id A.length) = B at b1 vB lB cAB
  have kA : chk n0 A = 0 := chk_vd vA (by omega) (by omega) (by omega)
  have kB : chk A.length B = 0 := chk_vd vB (by omega) (by omega) (by omega)
  have kAB : chk n0 (chgs m1 A) = 0 := chk_vd vAB (by omega) (by omega) (by omega)
  rw [← cAB] at kAB
  have hw := build_loop (C := C) n0 A xa z m1 e1 (by omega) _ (fun G hG => L1x H F F2 h59 h57 n0 A xa z m1 e1 G kA hG (by omega) B xb b1 kB kAB) n0 0 (by simp) [] rfl
  simp only [w45_K1] at hw
  simp at hw
  rw [fnW_eq h45 rfl]
  simp [w45, H.inl, H.pp, a1, hw]
end Go.C09
end

