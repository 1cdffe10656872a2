/- The law RendersSame says true for every input; its arguments read behind the call as before. No conditions. -/
import Derived.Test.YthlmjbfkkkdkoaaT5
namespace Go.Proofs.Ythlmjbfkkkdkoaa
open Go.ChangeShapes Go.WideShapes Go.ChangeAt Go.RowKit Go.Pav Go.Pw P Go.D
abbrev ndT : List CT := [.int .u8, .str, .str, .slice [.str, .str], .str, .sref 49]
abbrev rwT : List CT := [.int .u64, .int .i64, .int .i64, .int .u8, .str, .str, .slice [.str, .str], .str, .sref 49]
abbrev scT : List CT := [.int .i64, .slice rwT, .bool, .int .u64, .int .i64, .int .i64, .int .u8, .str, .str, .slice [.str, .str], .str, .sref 49]
def nm : List (TypeId × List CT) := [(49, ndT)]
theorem named_ : Named nm Try.prog := by
 intro p hp
 rw [nm, List.mem_singleton] at hp
 subst hp
 exact ⟨by kernel_rfl, by kernel_rfl, by simp⟩
theorem hasRm_ : HasRm prog := { inl := rfl, pp := rfl, f415 := rfl, f506 := rfl, f552 := rfl, f551 := rfl, f413 := rfl, f414 := rfl, f258 := rfl, f260 := rfl, f127 := rfl, f606 := rfl, f604 := rfl }
theorem lives_ : FnW prog 128 [] = some (.bool true) := fnW_call.2 ⟨400, isTrue_eq (by kernel_rfl)⟩
theorem ty_attrs {a : AV} (h : Ty nm (.slice [.str, .str]) a) : ∃ (xs : List (Bs × Bs)) (e : Bool), a = .ro 2 (xs.map eA) e ∧ xs.length ≤ 9223372036854775807 := by
 obtain ⟨es, e, rfl, hl, hx⟩ := ty_slice h
 obtain ⟨xs, rfl, _⟩ := ty_map2 (g := eA) (R := fun _ : Bs × Bs => True) (fun l q => by
  obtain ⟨q1, q2⟩ := q
  match l, q1 with
  | [u, v], _ =>
   obtain ⟨n, rfl, _⟩ := ty_str (q2 0 _ u rfl rfl)
   obtain ⟨x, rfl, _⟩ := ty_str (q2 1 _ v rfl rfl)
   exact ⟨(n, x), rfl, trivial⟩) es hx
 refine ⟨xs, e, rfl, ?_⟩
 simp at hl
 omega
theorem nd_row {u v w s y c : AV} (h0 : Ty nm (.int .u8) u) (h1 : Ty nm .str v) (h2 : Ty nm .str w) (h3 : Ty nm (.slice [.str, .str]) s) (h4 : Ty nm .str y)
 (ih : ∃ (ns : List Nd) (e : Bool), c = .ro 6 (ns.map Nd.c) e ∧ ns.length ≤ 9223372036854775807 ∧ ∀ n ∈ ns, NdIn n) : ∃ n : Nd, [u, v, w, s, y, c] = n.c ∧ NdIn n := by
 obtain ⟨k, rfl, _⟩ := ty_u8 h0
 obtain ⟨t, rfl, _⟩ := ty_str h1
 obtain ⟨z, rfl, _⟩ := ty_str h2
 obtain ⟨ss, se, rfl, q1⟩ := ty_attrs h3
 obtain ⟨tx, rfl, _⟩ := ty_str h4
 obtain ⟨ns, e, rfl, q3, q4⟩ := ih
 refine ⟨⟨k, t, z, ss, se, tx, ns, e⟩, ?_, .mk _ q1 q3 q4⟩
 rw [Nd.c_eq]
theorem ty_nds : ∀ (n : Nat) (a : AV), SizeOf.sizeOf a ≤ n → Ty nm (.sref 49) a → ∃ (ns : List Nd) (e : Bool), a = .ro 6 (ns.map Nd.c) e ∧ ns.length ≤ 9223372036854775807 ∧ ∀ n ∈ ns, NdIn n := by
 intro n
 induction n with
 | zero => intro a hn h; cases h; simp at hn
 | succ n ih =>
  intro a hn h
  cases h with
  | sref t ts es ex hd hl hw h =>
   have hts : ts = ndT := by
    have : List.lookup 49 nm = some ndT := rfl
    rw [this] at hd
    exact (Option.some.inj hd).symm
   subst hts
   obtain ⟨ps, rfl, hr⟩ := ty_map2 (g := Nd.c) (R := fun p => NdIn p) (Q := fun x => x ∈ es) (fun x hx => by
    obtain ⟨i, hi⟩ := List.getElem?_of_mem hx
    have hxl := hw i x hi
    match x, hxl with
    | [u, v, w, s, y, c], _ =>
     refine nd_row (h i _ 0 _ u hi rfl rfl) (h i _ 1 _ v hi rfl rfl) (h i _ 2 _ w hi rfl rfl) (h i _ 3 _ s hi rfl rfl) (h i _ 4 _ y hi rfl rfl) (ih c ?_ (h i _ 5 _ c hi rfl rfl))
     have s1 := List.sizeOf_lt_of_mem hx
     simp only [AV.ro.sizeOf_spec] at hn
     simp only [List.cons.sizeOf_spec] at s1
     omega) es (fun x hx => hx)
   refine ⟨ps, ex, rfl, ?_, hr⟩
   simp at hl
   omega
theorem rw_row {k t z u v w s y c : AV} (g0 : Ty nm (.int .u64) k) (g1 : Ty nm (.int .i64) t) (g2 : Ty nm (.int .i64) z) (h0 : Ty nm (.int .u8) u) (h1 : Ty nm .str v) (h2 : Ty nm .str w) (h3 : Ty nm (.slice [.str, .str]) s) (h4 : Ty nm .str y)
 (h5 : Ty nm (.sref 49) c) : ∃ r : Rw, [k, t, z, u, v, w, s, y, c] = eRw r ∧ NdIn r.n := by
 obtain ⟨k, rfl, _⟩ := ty_u64 g0
 obtain ⟨t, rfl, _⟩ := ty_i64 g1
 obtain ⟨z, rfl, _⟩ := ty_i64 g2
 obtain ⟨n, hn, hi⟩ := nd_row h0 h1 h2 h3 h4 (ty_nds _ _ (Nat.le_refl _) h5)
 refine ⟨⟨k, t, z, n⟩, ?_, hi⟩
 rw [Nd.c_eq] at hn
 rw [hn, eRw]
theorem ty_rows {a : AV} (h : Ty nm (.slice rwT) a) : ∃ (xs : List Rw) (e : Bool), a = .ro 9 (xs.map eRw) e ∧ xs.length ≤ 9223372036854775807 ∧ ∀ r ∈ xs, NdIn r.n := by
 obtain ⟨es, e, rfl, hl, hx⟩ := ty_slice h
 obtain ⟨xs, rfl, hr⟩ := ty_map2 (g := eRw) (R := fun r : Rw => NdIn r.n) (fun l q => by
  obtain ⟨q1, q2⟩ := q
  match l, q1 with
  | [k, t, z, u, v, w, s, y, c], _ =>
   exact rw_row (q2 0 _ k rfl rfl) (q2 1 _ t rfl rfl) (q2 2 _ z rfl rfl) (q2 3 _ u rfl rfl) (q2 4 _ v rfl rfl) (q2 5 _ w rfl rfl) (q2 6 _ s rfl rfl) (q2 7 _ y rfl rfl) (q2 8 _ c rfl rfl)) es hx
 refine ⟨xs, e, rfl, ?_, hr⟩
 simp at hl
 omega
theorem ty_sc {l : List AV} (hl : l.length = 12) (q2 : ∀ (j : Nat) (ct : CT) (v : AV), scT[j]? = some ct → l[j]? = some v → Ty nm ct v) : ∃ x : Sc, l = eSc x ∧ ScIn x := by
 match l, hl with
 | [o, r, p, k, t, z, u, v, w, s, y, c], _ =>
  obtain ⟨o, rfl, _⟩ := ty_i64 (q2 0 _ o rfl rfl)
  obtain ⟨rs, e, rfl, h1, h2⟩ := ty_rows (q2 1 _ r rfl rfl)
  obtain ⟨p, rfl⟩ := ty_bool (q2 2 _ p rfl rfl)
  obtain ⟨h, hh, hi⟩ := rw_row (q2 3 _ k rfl rfl) (q2 4 _ t rfl rfl) (q2 5 _ z rfl rfl) (q2 6 _ u rfl rfl) (q2 7 _ v rfl rfl) (q2 8 _ w rfl rfl) (q2 9 _ s rfl rfl) (q2 10 _ y rfl rfl) (q2 11 _ c rfl rfl)
  refine ⟨⟨o, rs, e, p, h⟩, ?_, h1, h2, hi⟩
  rw [hh, eRw, eSc]
theorem core604 (vs : List AV) (h : TyAll nm [.g scT, .g scT] vs) : FnW prog 604 vs = some (.bool true) := by
 match vs, h with
 | [a, b], ⟨⟨es, ha, hl, hes⟩, ⟨fs, hb, hl2, hfs⟩, _⟩ =>
  subst ha
  subst hb
  obtain ⟨x, rfl, hx⟩ := ty_sc hl hes
  obtain ⟨y, rfl, hy⟩ := ty_sc hl2 hfs
  exact rmlaw_ok hasRm_ lives_ x y hx hy
theorem args4 : Try.f4.params.toList.map (argT nm Try.prog) = ([.g scT, .g scT] : List AT).map some := by kernel_rfl
set_option maxRecDepth 100000 in
theorem lifted4 (os : Os) (started : os.Started) (H : Type) (enc : TypeId × Value → H) :
 ReturnsInHanded {} Try.checked os 4 .any (Rows.rendersSameSpec.pre6 enc Try.prog Try.f4 Rows.rendersSameRow.domain false) (Rows.rendersSameSpec.post enc Try.prog Try.f4 false true false false) := by
 refine returnsInHanded_of_change (C := Try.checked) own_ started (by kernel_rfl) Try.func4
  (ChangeSpec.witness6 (enc := enc) (C := Try.checked) false ⟨#[], #[.agg #[.int .i64 0, .slice none 0 0, .bool false, .int .u64 0, .int .i64 0, .int .i64 0, .int .u8 0, .string .empty, .string .empty, .slice none 0 0, .string .empty, .slice none 0 0], .agg #[.int .i64 0, .slice none 0 0, .bool false, .int .u64 0, .int .i64 0, .int .i64 0, .int .u8 0, .string .empty, .string .empty, .slice none 0 0, .string .empty, .slice none 0 0]], []⟩ 8 (by kernel_rfl) (by kernel_rfl) (by kernel_rfl) (by kernel_rfl)) ?_
 intro W base args ds gs before hval hW hcnd _
 have hW' := hW
 obtain ⟨p, q, hA, hV, rfl, hfz, hnd⟩ := hW
 obtain ⟨rfl, rfl⟩ := trodVars_none hV
 have hlen : ds.length = 2 := (trodAll_len hA).trans (by simp)
 refine (law_calls (enc := enc) link okT named_ (f := 604) args4 core604 (fun j t v e1 e2 => hval j t v (by simpa using e1) e2) hA).mono ?_
 rintro e W' ⟨rfl, h1, h2, h3, h4⟩
 refine ⟨_, rfl, law_post kids_ full_ rfl hW' ?_ (of_decide_eq_true (by kernel_rfl)) rfl (by kernel_rfl) h1 h2 h3 h4⟩
 match ds, hlen with
 | [d1, d2], _ => rfl
theorem rendersSame_holds : Rows.RendersSameSaid :=
 OpenClaim.holds_of_wide 4 Try.f4 rfl rfl rfl rfl rfl rfl rfl ⟨rfl, rfl, rfl, rfl, rfl⟩ rfl rfl rfl rfl rfl (by kernel_rfl) Try.func4 (by kernel_rfl)
  (of_decide_eq_true (by kernel_rfl)) (by unfold Func.isWrapper; first | (rw [if_pos (by decide +kernel)]; kernel_rfl) | (rw [if_neg (by decide +kernel)]; exact ⟨rfl, rfl⟩))
  (fun os started H enc _ => lifted4 os started H enc)
end Go.Proofs.Ythlmjbfkkkdkoaa
