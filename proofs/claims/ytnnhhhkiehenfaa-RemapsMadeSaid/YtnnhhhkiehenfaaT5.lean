/- Part of the theory that the claims of this work use: PwGlue, PwGlue2, G09, C09k. No conditions of its own. -/
import Derived.Test.YtnnhhhkiehenfaaT4
import Derived.ChangeSame
import Derived.ChangeArms
import Derived.ReadAgain
import Derived.Handed
import Derived.JoinedOf
import Derived.RowKit
import Derived.Test.YtnnhhhkiehenfaaRows
import Derived.ProofKit
section
set_option linter.unusedSimpArgs false
set_option linter.unusedVariables false
/- The arguments of a law, as data of the second machine; the law's result; what is true of both. No conditions beyond those that each theorem names. -/
namespace Go.Pw
open Go Go.Pav

/-- The type of a cell. -/
inductive CT where
  | bool
  | int (k : IntKind)
  | str
  | slice (ts : List CT)

/-- The values of such a cell. -/
inductive Ty : CT → AV → Prop
  | bool (b : Bool) : Ty .bool (.bool b)
  | int (k : IntKind) (n : Int) (h1 : k.min ≤ n) (h2 : n ≤ k.max) : Ty (.int k) (.int k n)
  | str (s : List UInt8) (h : s.length < 2 ^ 63) : Ty .str (.str s)
  | slice (ts : List CT) (es : List (List AV)) (ex : Bool) (hn : es.length < 2 ^ 63) (hw : ∀ (i : Nat) (e : List AV), es[i]? = some e → e.length = ts.length)
      (h : ∀ (i : Nat) (e : List AV) (j : Nat) (ct : CT) (x : AV), es[i]? = some e → ts[j]? = some ct → e[j]? = some x → Ty ct x) : Ty (.slice ts) (.ro ts.length es ex)

theorem Ty.isC {ct : CT} {a : AV} (h : Ty ct a) : Pw.isC a = true := by cases h <;> rfl

def fieldsT (F : TypeId → Option (List CT)) (P : Program) : List Field → Nat → Option (List CT)
  | [], _ => some []
  | f :: r, off => (F f.type).bind fun ts => if f.offset = off ∧ ts.length = P.cellsOf f.type then (fieldsT F P r (off + ts.length)).map (ts ++ ·) else none

/-- The cells of a type. -/
def flatT (P : Program) : Nat → TypeId → Option (List CT)
  | 0, _ => none
  | n + 1, t => match P.underlying t with
    | some .bool => some [.bool]
    | some (.int k) => some [.int k]
    | some .string => some [.str]
    | some (.slice e) => (flatT P n e).bind fun ts => if ts.length = P.cellsOf e ∧ 0 < ts.length then some [.slice ts] else none
    | some (.struct fs) => (fieldsT (flatT P n) P fs.toList 0).bind fun ts => if ts.length = P.cellsOf t then some ts else none
    | some (.array m e) => (flatT P n e).bind fun ts => if ts.length = P.cellsOf e ∧ m * ts.length = P.cellsOf t then some (List.replicate m ts).flatten else none
    | _ => none

theorem flatten_rep {α : Type} (ts : List α) : ∀ (m j : Nat), j < m * ts.length → (List.replicate m ts).flatten[j]? = ts[j % ts.length]?
  | 0, j, h => by simp at h
  | m + 1, j, h => by
    rw [List.replicate_succ, List.flatten_cons]
    rcases Nat.lt_or_ge j ts.length with hl | hl
    · rw [List.getElem?_append_left hl, Nat.mod_eq_of_lt hl]
    · rw [List.getElem?_append_right hl, flatten_rep ts m (j - ts.length) (by rw [Nat.add_mul] at h; omega), Nat.mod_eq_sub_mod hl]

theorem trod_array {H : Type} {enc : TypeId × Value → H} {P : Program} {w : World} {base : Nat} {spare : Nat → Bool} {held : Bool} {fuel : Nat} {t : TypeId} {cs : List Value} {x : DataW H × List MemPlace} {m : Nat} {e : TypeId}
    (ht : P.underlying t = some (.array m e)) (h : DataW.trod enc P w base spare held fuel t cs = some x) :
    ∃ (xs : List (DataW H × List MemPlace)) (n : Nat), fuel = n + 1 ∧ cs.length = P.cellsOf t ∧ xs.length = m ∧
      ∀ i, i < m → DataW.trod enc P w base spare held n e ((cs.drop (i * P.cellsOf e)).take (P.cellsOf e)) = xs[i]? := by
  cases fuel with
  | zero => simp [DataW.trod] at h
  | succ n =>
    unfold DataW.trod at h
    rw [ht] at h
    split at h <;> simp_all
    obtain ⟨hl, xs, hp, hd⟩ := h
    exact ⟨xs, by simpa using mapM_some_length hp, fun i hi => mapM_some_get hp i i (List.getElem?_range hi)⟩

def CellOk (ψ : Nat → FuncId) (W : World) (ct : CT) (v : Value) : Prop :=
  ∃ a a', Ty ct a ∧ VD id (fun _ => False) a a' ∧ a'.cell = true ∧ VR ψ W (fun c => c < W.heap.size) (fun _ => (0, 0)) (fun _ => False) a' v

section
variable {H : Type} {enc : TypeId × Value → H} {P : Program} {W : World} {ψ : Nat → FuncId}

theorem fields_open {F : TypeId → Option (List CT)} {n : Nat} {cs : List Value}
    (hF : ∀ t cs x ts, F t = some ts → DataW.trod enc P W 0 (fun _ => true) true n t cs = some x → cs.length = ts.length ∧ ∀ (j : Nat) (ct : CT), ts[j]? = some ct → ∃ v, cs[j]? = some v ∧ CellOk ψ W ct v) :
    ∀ (fs : List Field) (off : Nat) (ts : List CT), fieldsT F P fs off = some ts → (∀ f ∈ fs, ∃ x, DataW.trod enc P W 0 (fun _ => true) true n f.type ((cs.drop f.offset).take (P.cellsOf f.type)) = some x) →
      ∀ (j : Nat) (ct : CT), ts[j]? = some ct → ∃ v, cs[off + j]? = some v ∧ CellOk ψ W ct v := by
  intro fs
  induction fs with
  | nil => intro off ts h _ j ct hj; simp only [fieldsT, Option.some.injEq] at h; subst h; simp at hj
  | cons f r ih =>
    intro off ts h hx j ct hj
    simp only [fieldsT, Option.bind_eq_some_iff] at h
    obtain ⟨t1, h1, h⟩ := h
    split at h
    · rename_i hc
      simp only [Option.map_eq_some_iff] at h
      obtain ⟨t2, h2, rfl⟩ := h
      rcases Nat.lt_or_ge j t1.length with hl | hl
      · rw [List.getElem?_append_left hl] at hj
        obtain ⟨x, q⟩ := hx f (by simp)
        obtain ⟨v, q1, q2⟩ := (hF _ _ _ _ h1 q).2 j ct hj
        refine ⟨v, ?_, q2⟩
        rw [List.getElem?_take] at q1
        split at q1
        · rw [List.getElem?_drop] at q1; rw [← hc.1]; exact q1
        · cases q1
      · rw [List.getElem?_append_right hl] at hj
        obtain ⟨v, q1, q2⟩ := ih _ _ h2 (fun f hf => hx f (by simp [hf])) _ ct hj
        exact ⟨v, by rw [← q1]; congr 1; omega, q2⟩
    · cases h

theorem cells_open : ∀ (n k : Nat) (t : TypeId) (cs : List Value) (x : DataW H × List MemPlace) (ts : List CT), flatT P k t = some ts → DataW.trod enc P W 0 (fun _ => true) true n t cs = some x →
    cs.length = ts.length ∧ ∀ (j : Nat) (ct : CT), ts[j]? = some ct → ∃ v, cs[j]? = some v ∧ CellOk ψ W ct v := by
  intro n
  induction n with
  | zero => intro k t cs x ts _ h; simp [DataW.trod] at h
  | succ n ih =>
    intro k t cs x ts hf h
    cases k with
    | zero => simp [flatT] at hf
    | succ k =>
      have one : ∀ {v : Value} {ct : CT}, cs = [v] → ts = [ct] → CellOk ψ W ct v → cs.length = ts.length ∧ ∀ (j : Nat) (ct : CT), ts[j]? = some ct → ∃ v, cs[j]? = some v ∧ CellOk ψ W ct v := by
        intro v ct h1 h2 h3
        subst h1; subst h2
        refine ⟨rfl, fun j ct' hj => ?_⟩
        cases j with
        | zero => simp only [List.getElem?_cons_zero, Option.some.injEq] at hj; subst hj; exact ⟨v, rfl, h3⟩
        | succ j => simp at hj
      unfold flatT at hf
      split at hf
      · rename_i ht
        cases hf
        obtain ⟨b, e, _⟩ := DataW.trod_bool ht h
        exact one e rfl ⟨_, _, .bool b, .bool b, rfl, .bool b⟩
      · rename_i k' ht
        cases hf
        obtain ⟨m, e, _, hw⟩ := DataW.trod_int ht h
        simp only [Lit.wf, Bool.and_eq_true, decide_eq_true_eq] at hw
        exact one e rfl ⟨_, _, .int k' m hw.1 hw.2, .int k' m, rfl, .int k' m⟩
      · rename_i ht
        cases hf
        obtain ⟨s, e, _, hw⟩ := DataW.trod_string ht h
        refine one e rfl ⟨.str s.data.toList, _, .str _ ?_, .str _, rfl, ?_⟩
        · simp only [maxLen] at hw
          have : s.data.toList.length = s.size := rfl
          omega
        · have := VR.str (ψ := ψ) (w := W) (S := fun c => c < W.heap.size) (m := fun _ => (0, 0)) (A := fun _ => False) s.data.toList
          exact this
      · rename_i el ht
        simp only [Option.bind_eq_some_iff] at hf
        obtain ⟨us, hu, hf⟩ := hf
        split at hf
        · rename_i hz
          obtain ⟨hz, hz0⟩ := hz
          cases hf
          rcases DataW.trod_slice ht h with ⟨e, _⟩ | ⟨a, len, cap, elems, rest, n', hn, e, _, _, hl, hm, hlen, hel, hsp, _⟩
          · exact one e rfl ⟨.ro us.length [] true, .nils, .slice us [] true (by simp) (by simp) (by simp), .ronil _ _, rfl, .nils⟩
          · cases hn
            refine one e rfl ?_
            have row : ∀ i, i < cap → ∃ vs y, W.cells? 0 (a.add (i * us.length)) us.length = some vs ∧ DataW.trod enc P W 0 (fun _ => true) true n el vs = some y := by
              intro i hi
              rcases Nat.lt_or_ge i len with hil | hil
              · have := hel i hil
                rw [List.getElem?_eq_getElem (by omega), Option.bind_eq_some_iff, ← hz] at this
                obtain ⟨vs, q1, q2⟩ := this
                exact ⟨vs, _, q1, q2⟩
              · obtain ⟨q0, q⟩ := hsp rfl
                have := q (i - len) (by omega)
                rw [List.getElem?_eq_getElem (by omega), Option.bind_eq_some_iff, ← hz, show len + (i - len) = i by omega] at this
                obtain ⟨vs, q1, q2⟩ := this
                exact ⟨vs, _, q1, q2⟩
            rcases Nat.eq_zero_or_pos cap with hc0 | hc0
            · subst hc0
              obtain rfl : len = 0 := by omega
              exact ⟨.ro us.length [] true, .ro us.length [] true, .slice us [] true (by simp) (by simp) (by simp), .ro _ [] [] true true (by simp) rfl id (by simp) (by simp), rfl, .roe _ _ _⟩
            · obtain ⟨b, off, spot⟩ := a
              have hfirst : ∃ v, W.cell? ⟨b, off, spot⟩ = some v := by
                obtain ⟨vs, _, q1, _⟩ := row 0 hc0
                obtain ⟨_, q2, q3⟩ := World.cells?_some q1
                have := q3 0 hz0
                rw [List.getElem?_eq_getElem (by omega)] at this
                exact ⟨_, by simpa [Addr.add] using this⟩
              obtain ⟨v0, hv0⟩ := hfirst
              obtain rfl : spot = none := World.cell?_spot hv0
              have hS : b < W.heap.size := by
                unfold World.cell? at hv0
                split at hv0
                · rename_i hb; exact (Array.getElem?_eq_some_iff.1 hb).1
                · cases hv0
              have key : ∀ p : Nat × Nat, ∃ q : Value × AV × AV, p.1 < len → ∀ ct, us[p.2]? = some ct → W.cell? ⟨b, off + p.1 * us.length + p.2, none⟩ = some q.1 ∧ Ty ct q.2.1 ∧ VD id (fun _ => False) q.2.1 q.2.2 ∧ q.2.2.cell = true ∧
                  VR ψ W (fun c => c < W.heap.size) (fun _ => (0, 0)) (fun _ => False) q.2.2 q.1 := by
                intro ⟨i, j⟩
                by_cases hi : i < len
                · cases hj : us[j]? with
                  | none => exact ⟨default, fun _ ct q => by cases q⟩
                  | some ct =>
                    obtain ⟨vs, y, q1, q2⟩ := row i (by omega)
                    obtain ⟨v, q3, c1, c2, q4, q5, q6, q7⟩ := (ih _ _ _ _ _ hu q2).2 j ct hj
                    refine ⟨(v, c1, c2), fun _ ct' q => ?_⟩
                    cases q
                    refine ⟨?_, q4, q5, q6, q7⟩
                    obtain ⟨_, r1, r2⟩ := World.cells?_some q1
                    have hjl : j < us.length := (List.getElem?_eq_some_iff.1 hj).1
                    have := r2 j hjl
                    rw [q3] at this
                    rw [← this]
                    congr 1
                    simp only [Addr.add]
                    split <;> split <;> simp_all <;> omega
                · exact ⟨default, fun q => absurd q hi⟩
              obtain ⟨F, hF⟩ := Classical.axiomOfChoice key
              let es : List (List AV) := (List.range len).map fun i => (List.range us.length).map fun j => (F (i, j)).2.1
              let es' : List (List AV) := (List.range len).map fun i => (List.range us.length).map fun j => (F (i, j)).2.2
              have g1 : ∀ (i : Nat) (e : List AV), es[i]? = some e → i < len ∧ e = (List.range us.length).map fun j => (F (i, j)).2.1 := by
                intro i e he
                simp only [es, List.getElem?_map, Option.map_eq_some_iff] at he
                obtain ⟨i', q1, q2⟩ := he
                have := List.getElem?_eq_some_iff.1 q1
                obtain ⟨q3, q4⟩ := this
                simp at q3 q4
                subst q4
                exact ⟨q3, q2.symm⟩
              have g1' : ∀ (i : Nat) (e : List AV), es'[i]? = some e → i < len ∧ e = (List.range us.length).map fun j => (F (i, j)).2.2 := by
                intro i e he
                simp only [es', List.getElem?_map, Option.map_eq_some_iff] at he
                obtain ⟨i', q1, q2⟩ := he
                have := List.getElem?_eq_some_iff.1 q1
                obtain ⟨q3, q4⟩ := this
                simp at q3 q4
                subst q4
                exact ⟨q3, q2.symm⟩
              have g2 : ∀ (G : Nat → AV) (j : Nat) (x : AV), ((List.range us.length).map G)[j]? = some x → ∃ ct, us[j]? = some ct ∧ x = G j := by
                intro G j x hx
                simp only [List.getElem?_map, Option.map_eq_some_iff] at hx
                obtain ⟨j', q1, q2⟩ := hx
                obtain ⟨q3, q4⟩ := List.getElem?_eq_some_iff.1 q1
                simp at q3 q4
                subst q4
                exact ⟨us[j], List.getElem?_eq_getElem q3, q2.symm⟩
              have l1 : es.length = len := by simp [es]
              have l2 : es'.length = len := by simp [es']
              refine ⟨.ro us.length es (decide (cap = len)), .ro us.length es' (decide (cap = len)), .slice us es _ ?_ ?_ ?_, .ro _ es es' _ _ ?_ (by rw [l1, l2]) id ?_ ?_, rfl, ?_⟩
              · rw [l1]; simp only [maxLen] at hm; omega
              · intro i e he; rw [(g1 i e he).2]; simp
              · intro i e j ct y he hct hy
                obtain ⟨q1, rfl⟩ := g1 i e he
                obtain ⟨ct', q2, rfl⟩ := g2 _ j y hy
                rw [hct] at q2
                cases q2
                exact (hF (i, j) q1 ct hct).2.1
              · intro e he y hy
                obtain ⟨i, he⟩ := List.getElem?_of_mem he
                obtain ⟨j, hy⟩ := List.getElem?_of_mem hy
                obtain ⟨q1, rfl⟩ := g1 i e he
                obtain ⟨ct', q2, rfl⟩ := g2 _ j y hy
                exact (hF (i, j) q1 ct' q2).2.1.isC
              · intro i e e' he he'
                rw [(g1 i e he).2, (g1' i e' he').2]; simp
              · intro i e e' j y y' he he' hy hy'
                obtain ⟨q1, rfl⟩ := g1 i e he
                obtain ⟨_, rfl⟩ := g1' i e' he'
                obtain ⟨ct', q2, rfl⟩ := g2 _ j y hy
                obtain ⟨_, _, rfl⟩ := g2 _ j y' hy'
                exact (hF (i, j) q1 ct' q2).2.2.1
              · have := VR.ro (ψ := ψ) (w := W) (S := fun c => c < W.heap.size) (m := fun _ => (0, 0)) (A := fun _ => False) us.length es' (decide (cap = len)) b off cap (fun i j => (F (i, j)).1) hS
                  (fun i e he => by rw [(g1' i e he).2]; simp) (by rw [l2]; exact hl) (fun q => by rw [l2]; simpa using q)
                  (fun i e j y he hy => by
                    obtain ⟨q1, rfl⟩ := g1' i e he
                    obtain ⟨ct', q2, rfl⟩ := g2 _ j y hy
                    have := hF (i, j) q1 ct' q2
                    exact ⟨this.2.2.2.1, this.1⟩)
                  (fun i e j y he hy => by
                    obtain ⟨q1, rfl⟩ := g1' i e he
                    obtain ⟨ct', q2, rfl⟩ := g2 _ j y hy
                    exact (hF (i, j) q1 ct' q2).2.2.2.2)
                rw [l2] at this
                exact this
        · cases hf
      · rename_i fs ht
        simp only [Option.bind_eq_some_iff] at hf
        obtain ⟨us, hu, hf⟩ := hf
        split at hf
        · rename_i hz
          cases hf
          obtain ⟨xs, n', hn, _, hcl, hxl, hx⟩ := DataW.trod_struct ht h
          cases hn
          refine ⟨by rw [hcl, hz], fun j ct hj => ?_⟩
          have := fields_open (cs := cs) (F := flatT P k) (n := n) (fun t cs x ts h1 h2 => ih k t cs x ts h1 h2) fs.toList 0 _ hu (fun f hf => by
            obtain ⟨i, hi⟩ := List.getElem?_of_mem hf
            have hi' : fs[i]? = some f := by simpa using hi
            have hlt : i < fs.size := (Array.getElem?_eq_some_iff.1 hi').1
            have := hx i f hi'
            rw [List.getElem?_eq_getElem (by omega)] at this
            exact ⟨_, this⟩) j ct hj
          simpa using this
        · cases hf
      · rename_i m' e ht
        simp only [Option.bind_eq_some_iff] at hf
        obtain ⟨us, hu, hf⟩ := hf
        split at hf
        · rename_i hz
          obtain ⟨hz1, hz2⟩ := hz
          cases hf
          obtain ⟨xs, n', hn, hcl, hxl, hx⟩ := trod_array ht h
          cases hn
          have hlen : (List.replicate m' us).flatten.length = m' * us.length := by simp
          refine ⟨by rw [hcl, hlen, hz2], fun j ct hj => ?_⟩
          have hjl : j < m' * us.length := by rw [← hlen]; exact (List.getElem?_eq_some_iff.1 hj).1
          have hk : 0 < us.length := by
            rcases Nat.eq_zero_or_pos us.length with q | q
            · rw [q, Nat.mul_zero] at hjl; omega
            · exact q
          rw [flatten_rep us m' j hjl] at hj
          have hq : j / us.length < m' := Nat.div_lt_of_lt_mul (by rw [Nat.mul_comm]; exact hjl)
          have hxq := hx (j / us.length) hq
          rw [List.getElem?_eq_getElem (by omega)] at hxq
          obtain ⟨v, q1, q2⟩ := (ih k e _ _ us hu hxq).2 (j % us.length) ct hj
          refine ⟨v, ?_, q2⟩
          rw [List.getElem?_take] at q1
          split at q1
          · rw [List.getElem?_drop, ← hz1] at q1
            rw [← q1]; congr 1
            exact (Nat.div_add_mod' j us.length).symm
          · cases q1
        · cases hf
      · cases hf


/-- The type of an argument. -/
inductive AT where
  | c (ct : CT)
  | g (ts : List CT)

def AT.has : AT → AV → Prop
  | .c ct, a => Ty ct a
  | .g ts, a => ∃ es, a = .agg es ∧ es.length = ts.length ∧ ∀ (j : Nat) (ct : CT) (x : AV), ts[j]? = some ct → es[j]? = some x → Ty ct x

def argT (P : Program) (t : TypeId) : Option AT :=
  match P.underlying t with
  | some (.struct _) => (flatT P 20 t).map .g
  | some (.array _ _) => (flatT P 20 t).map .g
  | some .bool | some (.int _) | some .string | some (.slice _) => match flatT P 20 t with | some [ct] => some (.c ct) | _ => none
  | _ => none

theorem cells_plain {t : TypeId} {base : Nat} {v : Value} (hu : P.underlying t = some .bool ∨ (∃ k, P.underlying t = some (.int k)) ∨ P.underlying t = some .string ∨ ∃ e, P.underlying t = some (.slice e)) (h : Value.okWide P W .any base t v) :
    v.cells = #[v] := by
  cases v <;> try rfl
  rcases hu with hu | ⟨k, hu⟩ | hu | ⟨e, hu⟩ <;> simp [Value.okWide, hu, Cell.okWide, Cell.ok] at h

theorem arg_open {t : TypeId} {at_ : AT} (ha : argT P t = some at_) {base : Nat} {v : Value} (hv : Value.okWide P W .any base t v) {d : DataW H} {p : List MemPlace} (h : DataW.Trod enc P W 0 (fun _ => true) true t v d p) :
    ∃ a a', at_.has a ∧ VD id (fun _ => False) a a' ∧ VR ψ W (fun c => c < W.heap.size) (fun _ => (0, 0)) (fun _ => False) a' v := by
  obtain ⟨fuel, h⟩ := h
  have plain : (P.underlying t = some .bool ∨ (∃ k, P.underlying t = some (.int k)) ∨ P.underlying t = some .string ∨ ∃ e, P.underlying t = some (.slice e)) →
      (match flatT P 20 t with | some [ct] => some (AT.c ct) | _ => none) = some at_ → ∃ a a', at_.has a ∧ VD id (fun _ => False) a a' ∧ VR ψ W (fun c => c < W.heap.size) (fun _ => (0, 0)) (fun _ => False) a' v := by
    intro hu he
    split at he
    · rename_i ct hf
      cases he
      rw [cells_plain hu hv] at h
      obtain ⟨_, q⟩ := cells_open (ψ := ψ) _ _ _ _ _ _ hf h
      obtain ⟨v', q1, a, a', q2, q3, _, q4⟩ := q 0 ct rfl
      simp only [List.getElem?_cons_zero, Option.some.injEq] at q1
      subst q1
      exact ⟨a, a', q2, q3, q4⟩
    · cases he
  have whole : (∃ cs, v = .agg cs) → (flatT P 20 t).map AT.g = some at_ → ∃ a a', at_.has a ∧ VD id (fun _ => False) a a' ∧ VR ψ W (fun c => c < W.heap.size) (fun _ => (0, 0)) (fun _ => False) a' v := by
    rintro ⟨cs, rfl⟩ ha
    simp only [Option.map_eq_some_iff] at ha
    obtain ⟨ts, hf, rfl⟩ := ha
    obtain ⟨hl, q⟩ := cells_open (ψ := ψ) _ _ _ _ _ _ hf h
    simp only [Value.cells] at hl q
    have key : ∀ j : Nat, ∃ x : AV × AV, ∀ ct, ts[j]? = some ct → Ty ct x.1 ∧ VD id (fun _ => False) x.1 x.2 ∧ x.2.cell = true ∧ ∃ v, cs.toList[j]? = some v ∧ VR ψ W (fun c => c < W.heap.size) (fun _ => (0, 0)) (fun _ => False) x.2 v := by
      intro j
      cases hj : ts[j]? with
      | none => exact ⟨default, fun _ q => by cases q⟩
      | some ct =>
        obtain ⟨v, q1, a, a', q2, q3, q4, q5⟩ := q j ct hj
        exact ⟨(a, a'), fun ct' e => by cases e; exact ⟨q2, q3, q4, v, q1, q5⟩⟩
    obtain ⟨F, hF⟩ := Classical.axiomOfChoice key
    have g2 : ∀ (G : Nat → AV) (j : Nat) (x : AV), ((List.range ts.length).map G)[j]? = some x → ∃ ct, ts[j]? = some ct ∧ x = G j := by
      intro G j x hx
      simp only [List.getElem?_map, Option.map_eq_some_iff] at hx
      obtain ⟨j', q1, q2⟩ := hx
      obtain ⟨q3, q4⟩ := List.getElem?_eq_some_iff.1 q1
      simp at q3 q4
      subst q4
      exact ⟨ts[j], List.getElem?_eq_getElem q3, q2.symm⟩
    refine ⟨.agg ((List.range ts.length).map fun j => (F j).1), .agg ((List.range ts.length).map fun j => (F j).2), ⟨_, rfl, by simp, ?_⟩, .agg _ _ (by simp) ?_, .agg _ _ ?_ ?_ ?_⟩
    · intro j ct x hct hx
      obtain ⟨ct', q1, rfl⟩ := g2 _ j x hx
      exact (hF j ct hct).1
    · intro j x x' hx hx'
      obtain ⟨ct, q1, rfl⟩ := g2 _ j x hx
      obtain ⟨_, _, rfl⟩ := g2 _ j x' hx'
      exact (hF j ct q1).2.1
    · simp only [List.length_map, List.length_range]
      rw [← hl]; simp
    · intro j x hx
      obtain ⟨ct, q1, rfl⟩ := g2 _ j x hx
      exact (hF j ct q1).2.2.1
    · intro j x hx
      obtain ⟨ct, q1, rfl⟩ := g2 _ j x hx
      obtain ⟨v, q2, q3⟩ := (hF j ct q1).2.2.2
      have e : cs[j]? = some v := by simpa using q2
      rw [Array.getD_eq_getD_getElem?, e]
      exact q3
  unfold argT at ha
  split at ha
  · rename_i fs ht
    simp only [Value.okWide, ht] at hv
    obtain ⟨cs, hv, _, _⟩ := hv
    exact whole ⟨cs, hv⟩ ha
  · rename_i m e ht
    simp only [Value.okWide, ht] at hv
    obtain ⟨cs, hv, _, _⟩ := hv
    exact whole ⟨cs, hv⟩ ha
  · rename_i ht; exact plain (.inl ht) ha
  · rename_i k ht; exact plain (.inr (.inl ⟨k, ht⟩)) ha
  · rename_i ht; exact plain (.inr (.inr (.inl ht))) ha
  · rename_i e ht; exact plain (.inr (.inr (.inr ⟨e, ht⟩))) ha
  · cases ha

def TyAll : List AT → List AV → Prop
  | [], [] => True
  | a :: r, x :: s => a.has x ∧ TyAll r s
  | _, _ => False

theorem args_open {base : Nat} : ∀ {ts : List TypeId} {ats : List AT} {vs : List Value} {ds : List (DataW H)} {p : List MemPlace}, ts.map (argT P) = ats.map some →
    (∀ (j : Nat) (t : TypeId) (v : Value), ts[j]? = some t → vs[j]? = some v → Value.okWide P W .any base t v) → DataW.TrodAll enc P W 0 (fun _ => true) true ts vs ds p →
    ∃ us us', TyAll ats us ∧ Rel2 (VD id fun _ => False) us us' ∧ us'.length = vs.length ∧ ∀ (j : Nat) (x : AV) (v : Value), us'[j]? = some x → vs[j]? = some v → VR ψ W (fun c => c < W.heap.size) (fun _ => (0, 0)) (fun _ => False) x v
  | [], [], vs, ds, p, _, _, h => by
    obtain ⟨rfl, _, _⟩ := ChangeShapes.trodAll_nil h
    exact ⟨[], [], trivial, ⟨rfl, by simp⟩, rfl, by simp⟩
  | t :: ts, at_ :: ats, _, _, _, hm, hv, h => by
    obtain ⟨v, vs1, d, ds1, p1, q1, rfl, rfl, rfl, h1, h2⟩ := ChangeShapes.trodAll_cons h
    simp only [List.map_cons, List.cons.injEq] at hm
    obtain ⟨a, a', r1, r2, r3⟩ := arg_open (ψ := ψ) hm.1 (hv 0 t v rfl rfl) h1
    obtain ⟨us, us', s1, s2, s3, s4⟩ := args_open hm.2 (fun j t v e1 e2 => hv (j + 1) t v e1 e2) h2
    refine ⟨a :: us, a' :: us', ⟨r1, s1⟩, ⟨by simp [s2.1], fun j x x' e1 e2 => ?_⟩, by simp [s3], fun j x v' e1 e2 => ?_⟩
    · cases j with
      | zero => cases e1; cases e2; exact r2
      | succ j => exact s2.2 j x x' e1 e2
    · cases j with
      | zero => cases e1; cases e2; exact r3
      | succ j => exact s4 j x v' e1 e2
  | [], _ :: _, _, _, _, hm, _, _ => by simp at hm
  | _ :: _, [], _, _, _, hm, _, _ => by simp at hm

/-- A law that says true on the second machine says true. -/
theorem law_calls {φ : FuncId → Option Nat} {D : WProg} (hL : Linked P φ ψ (erProg D)) (hok : okTree D.fns = true) {f : Nat} {ts : List TypeId} {ats : List AT} (hts : ts.map (argT P) = ats.map some)
    (core : ∀ us, TyAll ats us → FnW D f us = some (.bool true)) {base : Nat} {args : Array Value} {ds : List (DataW H)} {p : List MemPlace}
    (hv : ∀ (j : Nat) (t : TypeId) (v : Value), ts[j]? = some t → args[j]? = some v → Value.okWide P W .any base t v) (hA : DataW.TrodAll enc P W 0 (fun _ => true) true ts args.toList ds p) :
    Calls P (ψ f) args W fun e W' => e = .returned (.bool true) ∧ (∀ c, c < W.heap.size → W'.heap[c]? = W.heap[c]?) ∧ W.heap.size ≤ W'.heap.size ∧ W'.os = W.os ∧ W'.output = W.output := by
  obtain ⟨us, us', h1, h2, h3, h4⟩ := args_open (ψ := ψ) hts (fun j t v e1 e2 => hv j t v e1 (by simpa using e2)) hA
  obtain ⟨n, hc⟩ := fnW_call.1 (core us h1)
  obtain ⟨v', hc', hvd⟩ := callW_ok hok h2 hc
  rw [hvd.bool_inv] at hc'
  refine (callF_ok hL hc' (w := W) (S := fun c => c < W.heap.size) (m := fun _ => (0, 0)) (cargs := args) (fun _ h => h) (by rw [h3]; simp) fun j x hx => ?_).mono ?_
  · have hj : j < args.size := by have := (List.getElem?_eq_some_iff.1 hx).1; rw [h3] at this; simpa using this
    rw [Array.getD_eq_getD_getElem?, Array.getElem?_eq_getElem hj]
    exact h4 j x _ hx (by simp [hj])
  · rintro e W' ⟨cv, S', m', rfl, hr, q1, q2, q3, q4⟩
    rw [hr.inv_bool]
    exact ⟨rfl, q1, q2, q3, q4⟩


theorem trodAll_old {W' : World} (hh : ∀ c, c < W.heap.size → W'.heap[c]? = W.heap[c]?) {base : Nat} {sp : Nat → Bool} {held : Bool} : ∀ {ts : List TypeId} {vs : List Value} {ds : List (DataW H)} {ps : List MemPlace},
    DataW.TrodAll enc P W base sp held ts vs ds ps → (∀ p ∈ ps, p.block < W.heap.size) → DataW.TrodAll enc P W' base sp held ts vs ds ps
  | [], [], [], _, h, _ => h
  | _ :: _, _ :: _, _ :: _, _, ⟨p, q, ⟨n, h1⟩, h2, e⟩, hs => ⟨p, q, ⟨n, DataW.trod_carry n _ _ _ h1 fun x hx => by
      have hlt := hs x (by rw [e]; exact List.mem_append_left _ hx)
      cases x with
      | cell b off => simp only [World.sameAt, World.cell?]; rw [hh b hlt]
      | map b => exact hh b hlt⟩, trodAll_old hh h2 (fun x hx => hs x (by rw [e]; exact List.mem_append_right _ hx)), e⟩

theorem keptBut_old {W' : World} (hh : ∀ c, c < W.heap.size → W'.heap[c]? = W.heap[c]?) (ho : W'.os = W.os) (hp : W'.output = W.output) (may : MemPlace → Prop) : W.keptBut W' may := by
  have h := World.keptBut_refl W may
  refine ⟨ho, hp, fun i hi => ?_⟩
  have := h.2.2 i hi
  rw [hh i hi]
  exact this

/-- What a law's row asks behind the call, where the law said true and all that was there before stays. -/
theorem law_post {f : Func} {s : ChangeSpec} {fresh handsOn again : Bool} {W' : World} {args : Array Value} {ds gs : List (DataW H)} {before : List MemPlace} {tb : TypeId}
    (kids : Kids P (· < P.types.size)) (full : ∀ t e, t < P.types.size → P.underlying t = some (.slice e) → 0 < P.cellsOf e)
    (hvars0 : s.vars = []) (hW : DataW.Whole enc P f.params.toList s.vars false W args.toList ds gs before) (hfn : s.fn H (ds ++ gs) = { results := [.lit (.bool true)], args := ds })
    (hps : ∀ t ∈ f.params.toList, t < P.types.size) (hr : f.resultTypes = #[tb]) (htb : P.underlying tb = some .bool)
    (hh : ∀ c, c < W.heap.size → W'.heap[c]? = W.heap[c]?) (_hsz : W.heap.size ≤ W'.heap.size) (ho : W'.os = W.os) (hp : W'.output = W.output) :
    s.post enc P f false fresh handsOn again W args (.bool true) W' := by
  have hlt : ∀ p ∈ before, p.block < W.heap.size := hW.lt
  have hW' := hW
  obtain ⟨p, q, hA, hV, rfl, hz, _⟩ := hW
  rw [hvars0] at hV
  obtain ⟨rfl, rfl⟩ := ChangeShapes.trodVars_none hV
  simp only [List.append_nil] at hlt hz hW' hfn
  have hargs : ∀ sp : Nat → Bool, (∀ x ∈ p, sp x.block = true) → DataW.TrodAll enc P W' 0 sp true f.params.toList args.toList ds p := fun sp hsp =>
    trodAll_old hh (DataW.TrodAll.respare kids full hps hA hsp) hlt
  have hvars : ∀ sp : Nat → Bool, DataW.TrodVars enc P W' sp s.vars [] [] := fun sp => by rw [hvars0]; rfl
  have hres : ∀ (b : Nat) (sp : Nat → Bool) (hd : Bool), DataW.TrodAll enc P W' b sp hd f.resultTypes.toList ((Value.bool true).resultList f.resultTypes.size) [.lit (.bool true)] [] := fun b sp hd => by
    rw [hr]; exact ChangeShapes.trodAll_mk1 (RowKit.shut_bool htb true)
  have hok : ∀ (j : Nat) (t : TypeId) (r : Value), f.resultTypes[j]? = some t → ((Value.bool true).resultList f.resultTypes.size)[j]? = some r → Value.okWide P W' .any 0 t r :=
    RowKit.ok_one hr rfl (by simp [Value.okWide, htb, Cell.okWide, Cell.ok])
  have hold : ∀ x ∈ p, (fun b => decide (b < W.heap.size)) x.block = true := fun x hx => by simpa using hlt x hx
  refine ⟨ds, [], p, [], p, [], hW', ?_, ?_, ?_, keptBut_old hh ho hp _, fun _ => ⟨hok, [.lit (.bool true)] ++ ds, [], ([] ++ p) ++ [], ⟨[] ++ p, [], ?_, hvars _, rfl, ?_, fun h => by cases h⟩, ?_⟩⟩
  · rw [List.append_nil, hfn]; exact hres _ _ _
  · rw [List.append_nil, hfn]; exact hargs _ hold
  · rw [List.append_nil, hfn]; exact hvars _
  · exact ChangeShapes.trodAll_append (hargs _ fun _ _ => rfl) (hres _ _ _)
  · intro b off hb
    simp only [List.nil_append, List.append_nil] at hb
    have := hz b off hb
    unfold World.frozen? at this ⊢
    rw [hh b (hlt _ hb)]
    exact this
  · intro x hx _
    simpa using hx

theorem trodAll_len {base : Nat} {sp : Nat → Bool} {held : Bool} : ∀ {ts : List TypeId} {vs : List Value} {ds : List (DataW H)} {ps : List MemPlace}, DataW.TrodAll enc P W base sp held ts vs ds ps → ds.length = ts.length
  | [], [], [], _, _ => rfl
  | _ :: _, _ :: _, _ :: _, _, ⟨_, _, _, h2, _⟩ => by simp [trodAll_len h2]

def isTrue : Option AV → Bool
  | some (.bool true) => true
  | _ => false
theorem isTrue_eq {o : Option AV} (h : isTrue o = true) : o = some (.bool true) := by
  unfold isTrue at h
  split at h
  · rfl
  · cases h

theorem ty_slice1 {ct : CT} {a : AV} (h : Ty (.slice [ct]) a) : ∃ (xs : List AV) (e : Bool), a = .ro 1 (xs.map fun x => [x]) e ∧ xs.length < 2 ^ 63 ∧ ∀ x ∈ xs, Ty ct x := by
  cases h with
  | slice ts es ex hn hw h =>
    have one : ∀ e ∈ es, e = [e.headD .undef] ∧ Ty ct (e.headD .undef) := by
      intro e he
      obtain ⟨i, hi⟩ := List.getElem?_of_mem he
      have hl := hw i e hi
      match e, hl with
      | [x], _ => exact ⟨rfl, h i [x] 0 ct x hi rfl rfl⟩
    refine ⟨es.map fun e => e.headD .undef, ex, ?_, by simpa using hn, ?_⟩
    · simp only [List.map_map, List.length_cons, List.length_nil, Nat.zero_add, AV.ro.injEq, true_and, and_true]
      have : es.map ((fun x => [x]) ∘ fun e => e.headD AV.undef) = es.map id := List.map_congr_left fun e he => by simpa using (one e he).1.symm
      rw [this, List.map_id]
    · intro x hx
      obtain ⟨e, he, rfl⟩ := List.mem_map.1 hx
      exact (one e he).2

theorem ty_map {α : Type} {ct : CT} {g : α → AV} (h : ∀ a, Ty ct a → ∃ x, a = g x) : ∀ (xs : List AV), (∀ x ∈ xs, Ty ct x) → ∃ ys : List α, xs = ys.map g := by
  intro xs
  induction xs with
  | nil => intro _; exact ⟨[], rfl⟩
  | cons a r ih =>
    intro hx
    obtain ⟨y, rfl⟩ := h a (hx a (by simp))
    obtain ⟨ys, rfl⟩ := ih fun x q => hx x (by simp [q])
    exact ⟨y :: ys, rfl⟩

end
end Go.Pw
end

section
set_option linter.unusedSimpArgs false
set_option linter.unusedVariables false
/- From the type of an argument to lists: small things. No conditions beyond those that each theorem names. -/
namespace Go.Pw
open Go Go.Pav

theorem ty_map2 {α : Type} {g : α → List AV} {Q : List AV → Prop} {R : α → Prop} (h : ∀ a, Q a → ∃ x, a = g x ∧ R x) : ∀ (xs : List (List AV)), (∀ x ∈ xs, Q x) → ∃ ys : List α, xs = ys.map g ∧ ∀ y ∈ ys, R y := by
  intro xs
  induction xs with
  | nil => intro _; exact ⟨[], rfl, by simp⟩
  | cons a r ih =>
    intro hx
    obtain ⟨y, rfl, hy⟩ := h a (hx a (by simp))
    obtain ⟨ys, rfl, hys⟩ := ih fun x q => hx x (by simp [q])
    exact ⟨y :: ys, rfl, by simpa using ⟨hy, hys⟩⟩

theorem ty_slice {ts : List CT} {a : AV} (h : Ty (.slice ts) a) : ∃ (es : List (List AV)) (e : Bool), a = .ro ts.length es e ∧ es.length < 2 ^ 63 ∧ ∀ x ∈ es, x.length = ts.length ∧ ∀ (j : Nat) (ct : CT) (v : AV), ts[j]? = some ct → x[j]? = some v → Ty ct v := by
  cases h with
  | slice ts es ex hn hw h =>
    refine ⟨es, ex, rfl, hn, fun x hx => ?_⟩
    obtain ⟨i, hi⟩ := List.getElem?_of_mem hx
    exact ⟨hw i x hi, fun j ct v e1 e2 => h i x j ct v hi e1 e2⟩

theorem ty_u8 {v : AV} (h : Ty (.int .u8) v) : ∃ n : Int, v = .int .u8 n ∧ 0 ≤ n ∧ n ≤ 255 := by
  cases h with
  | int k n h1 h2 => exact ⟨n, rfl, h1, h2⟩
theorem ty_u64 {v : AV} (h : Ty (.int .u64) v) : ∃ n : Int, v = .int .u64 n ∧ 0 ≤ n ∧ n ≤ 18446744073709551615 := by
  cases h with
  | int k n h1 h2 => exact ⟨n, rfl, h1, h2⟩
theorem ty_i64 {v : AV} (h : Ty (.int .i64) v) : ∃ n : Int, v = .int .i64 n ∧ -9223372036854775808 ≤ n ∧ n ≤ 9223372036854775807 := by
  cases h with
  | int k n h1 h2 => exact ⟨n, rfl, h1, h2⟩
theorem ty_str {v : AV} (h : Ty .str v) : ∃ s : List UInt8, v = .str s ∧ s.length < 9223372036854775808 := by
  cases h with
  | str s h => exact ⟨s, rfl, h⟩
theorem ty_bool {v : AV} (h : Ty .bool v) : ∃ b : Bool, v = .bool b := by
  cases h with
  | bool b => exact ⟨b, rfl⟩

theorem ty_ints {a : AV} (h : Ty (.slice [.int .i64]) a) : ∃ xs e, a = L1 xs e := by
  obtain ⟨es, e, rfl, _, hx⟩ := ty_slice h
  obtain ⟨xs, rfl, _⟩ := ty_map2 (g := eI) (R := fun _ => True) (fun l q => by
    obtain ⟨q1, q2⟩ := q
    match l, q1 with
    | [v], _ =>
      obtain ⟨n, rfl, _⟩ := ty_i64 (q2 0 _ v rfl rfl)
      exact ⟨n, rfl, trivial⟩) es hx
  exact ⟨xs, e, rfl⟩

theorem ty_bytes {a : AV} (h : Ty (.slice [.int .u8]) a) : ∃ (xs : List Int) (e : Bool), a = .ro 1 (xs.map eU8) e ∧ ∀ x ∈ xs, 0 ≤ x ∧ x ≤ 255 := by
  obtain ⟨es, e, rfl, _, hx⟩ := ty_slice h
  obtain ⟨xs, rfl, hr⟩ := ty_map2 (g := eU8) (R := fun x : Int => 0 ≤ x ∧ x ≤ 255) (fun l q => by
    obtain ⟨q1, q2⟩ := q
    match l, q1 with
    | [v], _ =>
      obtain ⟨n, rfl, h1⟩ := ty_u8 (q2 0 _ v rfl rfl)
      exact ⟨n, rfl, h1⟩) es hx
  exact ⟨xs, e, rfl, hr⟩

end Go.Pw
end

section
set_option linter.unusedSimpArgs false
set_option linter.unusedVariables false
/- What all rows of this chapter share. No conditions. -/
namespace Go.Proofs.Ytnnhhhkiehenfaa
open Go.ChangeShapes Go.WideShapes Go.ChangeAt Go.RowKit Go.Pav Go.Pw P09

theorem own_ : ownKnob Try.prog.godebug = none := by kernel_rfl
theorem kids_ : Kids Try.prog (· < Try.prog.types.size) := kids_rows (by kernel_rfl) (by kernel_rfl)
theorem full_ : ∀ t e, t < Try.prog.types.size → Try.prog.underlying t = some (.slice e) → 0 < Try.prog.cellsOf e := slices_full_of Try.prog (by kernel_rfl)

theorem has_ : Go.C09.Has prog := ⟨rfl, rfl, rfl, rfl, rfl, rfl, rfl, rfl, rfl, rfl, rfl, rfl, rfl, rfl, rfl, rfl, rfl, rfl, rfl, rfl, rfl, rfl, rfl⟩
theorem fns_ : Go.C09.Fns prog := ⟨rfl, rfl, rfl, rfl, rfl, rfl, rfl, rfl⟩
theorem fns2_ : Go.C09.Fns2 prog := ⟨rfl, rfl, rfl, rfl, rfl, rfl, rfl, rfl⟩

theorem ty_steps {a : AV} (h : Ty (.slice [.int .u8, .int .u8, .int .u8, .int .u8]) a) : ∃ (xs : List Go.C09.St4) (e : Bool), a = .ro 4 (xs.map Go.C09.e4) e ∧ ∀ s ∈ xs, Go.C09.B4 s := by
  obtain ⟨es, e, rfl, _, hx⟩ := ty_slice h
  obtain ⟨xs, rfl, hr⟩ := ty_map2 (g := Go.C09.e4) (R := Go.C09.B4) (fun l q => by
    obtain ⟨q1, q2⟩ := q
    match l, q1 with
    | [u, v, w, x], _ =>
      obtain ⟨n1, rfl, h1⟩ := ty_u8 (q2 0 _ u rfl rfl)
      obtain ⟨n2, rfl, h2⟩ := ty_u8 (q2 1 _ v rfl rfl)
      obtain ⟨n3, rfl, h3⟩ := ty_u8 (q2 2 _ w rfl rfl)
      obtain ⟨n4, rfl, h4⟩ := ty_u8 (q2 3 _ x rfl rfl)
      exact ⟨⟨n1, n2, n3, n4⟩, rfl, h1, h2, h3, h4⟩) es hx
  exact ⟨xs, e, rfl, hr⟩
end Go.Proofs.Ytnnhhhkiehenfaa
end

section
set_option linter.unusedSimpArgs false
set_option linter.unusedVariables false
/- What the laws RemapsMade and RemapsCompose compute. No conditions beyond those that each theorem names. -/
namespace Go.C09
open Go Go.Pav Go.Pw P09
set_option maxRecDepth 10000
set_option maxHeartbeats 4000000
set_option linter.unusedSimpArgs false
set_option linter.unusedVariables false
attribute [-simp] List.getElem_cons_drop
variable {C : WProg} (H : Has C)
include H

omit H in
theorem mapR_get (G : Int → Int) (n : Int) (j : Nat) : (mapR G n)[j]? = if (j : Int) < n then some (G j) else none := by
  unfold mapR
  by_cases h : (j : Int) < n
  · have : j < n.toNat := by omega
    simp [h, this]
  · have : ¬ j < n.toNat := by omega
    simp [h, this]
omit H in
theorem mapR_len (G : Int → Int) (n : Int) : (mapR G n).length = n.toNat := by simp [mapR]

omit H in
theorem ins_mapR (n a m : Nat) (h : a ≤ n) : ins (mapR id n) a m = mapR (gIns a m) (n + m) := by
  refine List.ext_getElem? fun j => ?_
  unfold ins
  rw [mapR_get, List.getElem?_append, List.length_take, mapR_len, Int.toNat_natCast, Nat.min_eq_left h]
  by_cases h1 : j < a
  · rw [if_pos h1, List.getElem?_take, if_pos h1, mapR_get, if_pos (by omega), if_pos (by omega)]
    simp [gIns, h1]
  · rw [if_neg h1, List.getElem?_append, List.length_replicate]
    by_cases h2 : j - a < m
    · rw [if_pos h2, List.getElem?_replicate, if_pos h2, if_pos (by omega)]
      have k1 : ¬ (j : Int) < a := by omega
      have k2 : (j : Int) < a + m := by omega
      simp [gIns, k1, k2]
    · rw [if_neg h2, List.getElem?_drop, mapR_get]
      have k1 : ¬ (j : Int) < a := by omega
      have k2 : ¬ (j : Int) < a + m := by omega
      by_cases h3 : (j : Int) < n + m
      · rw [if_pos (by omega), if_pos h3]
        simp [gIns, k1, k2]
        omega
      · rw [if_neg (by omega), if_neg h3]

omit H in
theorem rem_mapR (n a m : Nat) (h : a + m ≤ n) : rem (mapR id n) a m = mapR (gRem a m) (n - m) := by
  refine List.ext_getElem? fun j => ?_
  unfold rem
  rw [mapR_get, List.getElem?_append, List.length_take, mapR_len, Int.toNat_natCast, Nat.min_eq_left (by omega)]
  by_cases h1 : j < a
  · rw [if_pos h1, List.getElem?_take, if_pos h1, mapR_get, if_pos (by omega), if_pos (by omega)]
    simp [gRem, h1]
  · rw [if_neg h1, List.getElem?_drop, mapR_get]
    have k1 : ¬ (j : Int) < a := by omega
    by_cases h3 : (j : Int) < n - m
    · rw [if_pos (by omega), if_pos h3]
      simp [gRem, k1]
      omega
    · rw [if_neg (by omega), if_neg h3]

omit H in
theorem mov_mapR (n a m t : Nat) (h : a + m ≤ n) (ht : t ≤ n - m) : mov (mapR id n) a m t = mapR (gMov a m t) n := by
  refine List.ext_getElem? fun j => ?_
  unfold mov
  rw [rem_mapR n a m h, mapR_get, List.getElem?_append, List.length_take, mapR_len, Nat.min_eq_left (by omega)]
  by_cases h1 : j < t
  · rw [if_pos h1, List.getElem?_take, if_pos h1, mapR_get, if_pos (by omega), if_pos (by omega)]
    simp [gMov, h1]
  · rw [if_neg h1, List.getElem?_append, List.length_take, List.length_drop, mapR_len, Int.toNat_natCast, Nat.min_eq_left (by omega)]
    have k1 : ¬ (j : Int) < t := by omega
    by_cases h2 : j - t < m
    · rw [if_pos h2, List.getElem?_take, if_pos h2, List.getElem?_drop, mapR_get, if_pos (by omega), if_pos (by omega)]
      have k2 : (j : Int) < t + m := by omega
      simp [gMov, k1, k2]
      omega
    · rw [if_neg h2, List.getElem?_drop, mapR_get]
      have k2 : ¬ (j : Int) < t + m := by omega
      by_cases h3 : (j : Int) < n
      · rw [if_pos (by omega), if_pos h3]
        have e : ((t + (j - t - m) : Nat) : Int) = (j : Int) - m := by omega
        rw [e]
        simp [gMov, k1, k2]
      · rw [if_neg (by omega), if_neg h3]

theorem madeL_ok (F : Fns C) (F2 : Fns2 C) (h46 : C.fns.get 46 = some w46) (n a m t : Int) (hm : m < 9223372036854775808) :
    FnW C 46 [.agg [.int .i64 n, .int .i64 a, .int .i64 m, .int .i64 t]] = some (.bool true) := by
  have hl := lives_ok H F2
  have s1 := same_ok H n
  have s2 := inserted_ok H n a m hm
  have s3 := removed_ok H n a m
  have s4 := moved_ok H n a m t
  have q0 := eqM_ok H F2.f59 F2.f58 0 [] [] true 4 0 4 (by decide)
  rw [fnW_eq h46 rfl]
  by_cases c1 : n < 0
  · rw [if_pos (.inl c1)] at s1 s2 s3 s4
    simp [L1, eM] at q0
    simp [w46, H.inl, H.pp, hl, s1, s2, s3, s4, q0, c1]
  · by_cases c2 : 4096 < n
    · rw [if_pos (.inr c2)] at s1
      rw [if_pos (.inr (.inl c2))] at s2 s3 s4
      simp [L1, eM] at q0
      simp [w46, H.inl, H.pp, hl, s1, s2, s3, s4, q0, c1, c2]
    · obtain ⟨n, rfl⟩ : ∃ k : Nat, n = k := ⟨n.toNat, by omega⟩
      have hlen : (mapR id (n : Int)).length = n := by simp [mapR]
      have r1 := rsame_ok F.f63 n (by omega) (by omega)
      obtain ⟨e2, r2⟩ := rins_ok F.f68 (mapR id n) false a m (by omega) hm
      obtain ⟨e3, r3⟩ := rrem_ok F.f69 (mapR id n) false a m (by omega)
      obtain ⟨e4, r4⟩ := rmov_ok F.f69 F.f70 F.inl F.pp (mapR id n) false a m t (by omega)
      rw [hlen] at r2 r3 r4
      have p1 := eqM_ok H F2.f59 F2.f58 n (mapR id n) (mapR id n) false 0 n 0 (by omega)
      rw [if_neg (by omega)] at s1
      -- what each of the three comes to
      have t2 : ∃ (o : Int) (l : List Int) (x : Int) (wl : List Int) (we : Bool), FnW C 66 [.int .i64 n, .int .i64 a, .int .i64 m] = some (.tup [eM o l true, .int .i64 x]) ∧
          FnW C 68 [L1 (mapR id n) false, .int .i64 a, .int .i64 m] = some (.tup [L1 wl we, .int .i64 x]) ∧ o = (if x = 0 then (n : Int) else 0) ∧ l = wl ∧ l.length ≤ 1000000 := by
        by_cases k1 : a < 0 ∨ (n : Int) < a ∨ m < 0
        · rw [if_pos (by omega)] at s2
          rw [if_pos k1] at r2
          exact ⟨0, [], 4, [], true, s2, r2, by simp, rfl, by simp⟩
        · rw [if_neg (by omega)] at s2
          rw [if_neg k1] at r2
          by_cases k2 : 4096 - (n : Int) < m
          · rw [if_pos k2] at s2 r2
            exact ⟨0, [], 3, [], true, s2, r2, by simp, rfl, by simp⟩
          · rw [if_neg k2] at s2 r2
            refine ⟨_, _, _, _, _, s2, r2, by simp, ?_, by rw [mapR_len]; omega⟩
            obtain ⟨a, rfl⟩ : ∃ k : Nat, a = k := ⟨a.toNat, by omega⟩
            obtain ⟨m, rfl⟩ : ∃ k : Nat, m = k := ⟨m.toNat, by omega⟩
            exact (ins_mapR n a m (by omega)).symm
      have t3 : ∃ (o : Int) (l : List Int) (x : Int) (wl : List Int) (we : Bool), FnW C 67 [.int .i64 n, .int .i64 a, .int .i64 m] = some (.tup [eM o l true, .int .i64 x]) ∧
          FnW C 69 [L1 (mapR id n) false, .int .i64 a, .int .i64 m] = some (.tup [L1 wl we, .int .i64 x]) ∧ o = (if x = 0 then (n : Int) else 0) ∧ l = wl ∧ l.length ≤ 1000000 := by
        have ho : outB n a m = true ↔ (a < 0 ∨ m < 0 ∨ (n : Int) < a ∨ (n : Int) - a < m) := by simp [outB]
        simp only [ho] at s3
        by_cases k1 : a < 0 ∨ m < 0 ∨ (n : Int) < a ∨ (n : Int) - a < m
        · rw [if_pos (.inr (.inr k1))] at s3
          rw [if_pos k1] at r3
          exact ⟨0, [], 4, [], true, s3, r3, by simp, rfl, by simp⟩
        · rw [if_neg (by omega)] at s3
          rw [if_neg k1] at r3
          refine ⟨_, _, _, _, _, s3, r3, by simp, ?_, by rw [mapR_len]; omega⟩
          obtain ⟨a, rfl⟩ : ∃ k : Nat, a = k := ⟨a.toNat, by omega⟩
          obtain ⟨m, rfl⟩ : ∃ k : Nat, m = k := ⟨m.toNat, by omega⟩
          exact (rem_mapR n a m (by omega)).symm
      have t4 : ∃ (o : Int) (l : List Int) (x : Int) (wl : List Int) (we : Bool), FnW C 62 [.int .i64 n, .int .i64 a, .int .i64 m, .int .i64 t] = some (.tup [eM o l true, .int .i64 x]) ∧
          FnW C 70 [L1 (mapR id n) false, .int .i64 a, .int .i64 m, .int .i64 t] = some (.tup [L1 wl we, .int .i64 x]) ∧ o = (if x = 0 then (n : Int) else 0) ∧ l = wl ∧ l.length ≤ 1000000 := by
        have ho : outB n a m = true ↔ (a < 0 ∨ m < 0 ∨ (n : Int) < a ∨ (n : Int) - a < m) := by simp [outB]
        simp only [ho] at s4
        by_cases k1 : a < 0 ∨ m < 0 ∨ (n : Int) < a ∨ (n : Int) - a < m ∨ t < 0 ∨ (n : Int) - m < t
        · rw [if_pos (by omega)] at s4
          rw [if_pos k1] at r4
          exact ⟨0, [], 4, [], true, s4, r4, by simp, rfl, by simp⟩
        · rw [if_neg (by omega)] at s4
          rw [if_neg k1] at r4
          refine ⟨_, _, _, _, _, s4, r4, by simp, ?_, by rw [mapR_len]; omega⟩
          obtain ⟨a, rfl⟩ : ∃ k : Nat, a = k := ⟨a.toNat, by omega⟩
          obtain ⟨m, rfl⟩ : ∃ k : Nat, m = k := ⟨m.toNat, by omega⟩
          obtain ⟨t, rfl⟩ : ∃ k : Nat, t = k := ⟨t.toNat, by omega⟩
          exact (mov_mapR n a m t (by omega) (by omega)).symm
      obtain ⟨o2, l2, x2, wl2, we2, a2, b2, c2', d2, k2⟩ := t2
      obtain ⟨o3, l3, x3, wl3, we3, a3, b3, c3', d3, k3⟩ := t3
      obtain ⟨o4, l4, x4, wl4, we4, a4, b4, c4', d4, k4⟩ := t4
      have u2 := eqM_ok H F2.f59 F2.f58 o2 l2 wl2 we2 x2 o2 x2 k2
      have u3 := eqM_ok H F2.f59 F2.f58 o3 l3 wl3 we3 x3 o3 x3 k3
      have u4 := eqM_ok H F2.f59 F2.f58 o4 l4 wl4 we4 x4 o4 x4 k4
      have v2 := old_ok F2.f71 n x2
      have v3 := old_ok F2.f71 n x3
      have v4 := old_ok F2.f71 n x4
      rw [← c2'] at v2; rw [← c3'] at v3; rw [← c4'] at v4
      have w2 : decide (x2 = x2 ∧ o2 = o2 ∧ l2 = wl2) = true := by simp [d2]
      have w3 : decide (x3 = x3 ∧ o3 = o3 ∧ l3 = wl3) = true := by simp [d3]
      have w4 : decide (x4 = x4 ∧ o4 = o4 ∧ l4 = wl4) = true := by simp [d4]
      rw [w2] at u2; rw [w3] at u3; rw [w4] at u4
      simp [w46, H.inl, H.pp, hl, s1, r1, p1, c1, c2, a2, a3, a4, b2, b3, b4, u2, u3, u4, v2, v3, v4]
end Go.C09
end

