/- The law ListsCheck says true for every input; its arguments read behind the call as before. No conditions. -/
import Derived.Test.YthbahjhkhkiddaaGreatT6
namespace Go.Proofs.YthbahjhkhkiddaaGreat
open Go.ChangeShapes Go.WideShapes Go.ChangeAt Go.RowKit Go.Pav Go.Pw P

/-- The named types of the arguments: parts. -/
def nm : List (TypeId × List CT) := [(76, [.int .u8, .str, .str, .slice [.str, .int .u8, .str], .str, .sref 76])]
theorem named_ : Named nm Tryz.prog := by
  intro p hp
  rw [nm, List.mem_singleton] at hp
  subst hp
  exact ⟨by kernel_rfl, by kernel_rfl, by simp⟩

theorem hasH_ : Go.D.HasH prog := { toHasG := has_, f234 := rfl, f113 := rfl, f217 := rfl, f401 := rfl, f220 := rfl, f218 := rfl, f109 := rfl, f108 := rfl, f233 := rfl, f238 := rfl, f116 := rfl }

theorem ty_slots {a : AV} (h : Ty nm (.slice [.str, .int .u8, .str]) a) : ∃ (xs : List Go.D.Sl) (e : Bool), a = .ro 3 (xs.map Go.D.eSl) e ∧ xs.length ≤ 9223372036854775807 ∧ ∀ s ∈ xs, 0 ≤ s.f := by
  obtain ⟨es, e, rfl, hl, hx⟩ := ty_slice h
  obtain ⟨xs, rfl, hr⟩ := ty_map2 (g := Go.D.eSl) (R := fun s : Go.D.Sl => 0 ≤ s.f) (fun l q => by
    obtain ⟨q1, q2⟩ := q
    match l, q1 with
    | [u, v, w], _ =>
      obtain ⟨n, rfl, _⟩ := ty_str (q2 0 _ u rfl rfl)
      obtain ⟨f, rfl, h1⟩ := ty_u8 (q2 1 _ v rfl rfl)
      obtain ⟨x, rfl, _⟩ := ty_str (q2 2 _ w rfl rfl)
      exact ⟨⟨n, f, x⟩, rfl, h1.1⟩) es hx
  refine ⟨xs, e, rfl, ?_, hr⟩
  simp at hl
  omega

theorem part_row {x : List AV} (q1 : x.length = 6) (q2 : ∀ (j : Nat) (ct : CT) (v : AV), [CT.int .u8, .str, .str, .slice [.str, .int .u8, .str], .str, .sref 76][j]? = some ct → x[j]? = some v → Ty nm ct v)
    (ih : ∀ v, x[5]? = some v → ∃ (ps : List Go.D.Pt) (e : Bool), v = .ro 6 (ps.map Go.D.Pt.c) e ∧ ps.length ≤ 9223372036854775807 ∧ ∀ p ∈ ps, Go.D.FitsAll p) : ∃ p : Go.D.Pt, x = p.c ∧ Go.D.FitsAll p := by
  match x, q1 with
  | [u, v, w, s, y, c], _ =>
    obtain ⟨k, rfl, _⟩ := ty_u8 (q2 0 _ u rfl rfl)
    obtain ⟨t, rfl, _⟩ := ty_str (q2 1 _ v rfl rfl)
    obtain ⟨z, rfl, _⟩ := ty_str (q2 2 _ w rfl rfl)
    obtain ⟨ss, se, rfl, h1, h2⟩ := ty_slots (q2 3 _ s rfl rfl)
    obtain ⟨tx, rfl, _⟩ := ty_str (q2 4 _ y rfl rfl)
    obtain ⟨ps, e, rfl, h3, h4⟩ := ih c rfl
    refine ⟨⟨k, t, z, ss, se, tx, ps, e⟩, ?_, .mk _ ⟨h2, h1, h3⟩ h4⟩
    rw [Go.D.Pt.c_eq]

theorem ty_parts : ∀ (n : Nat) (a : AV), SizeOf.sizeOf a ≤ n → Ty nm (.sref 76) a → ∃ (ps : List Go.D.Pt) (e : Bool), a = .ro 6 (ps.map Go.D.Pt.c) e ∧ ps.length ≤ 9223372036854775807 ∧ ∀ p ∈ ps, Go.D.FitsAll p := by
  intro n
  induction n with
  | zero => intro a hn h; cases h; simp at hn
  | succ n ih =>
    intro a hn h
    cases h with
    | sref t ts es ex hd hl hw h =>
      have hts : ts = [CT.int .u8, .str, .str, .slice [.str, .int .u8, .str], .str, .sref 76] := by
        have : List.lookup 76 nm = some [CT.int .u8, .str, .str, .slice [.str, .int .u8, .str], .str, .sref 76] := rfl
        rw [this] at hd
        exact (Option.some.inj hd).symm
      subst hts
      obtain ⟨ps, rfl, hr⟩ := ty_map2 (g := Go.D.Pt.c) (R := fun p => Go.D.FitsAll p) (Q := fun x => x ∈ es) (fun x hx => by
        obtain ⟨i, hi⟩ := List.getElem?_of_mem hx
        refine part_row (hw i x hi) (fun j ct v e1 e2 => h i x j ct v hi e1 e2) (fun v hv => ih v ?_ (h i x 5 _ v hi rfl hv))
        have s1 := List.sizeOf_lt_of_mem hx
        have s2 := List.sizeOf_lt_of_mem (List.mem_of_getElem? hv)
        simp only [AV.ro.sizeOf_spec] at hn
        omega) es (fun x hx => hx)
      refine ⟨ps, ex, rfl, ?_, hr⟩
      simp at hl
      omega

theorem ty_kinds {a : AV} (h : Ty nm (.slice [.int .u8, .str, .str, .slice [.str, .int .u8, .str], .str, .sref 76, .int .i64, .bool, .int .i64]) a) : ∃ (ks : List Go.D.Kd) (e : Bool), a = .ro 9 (ks.map Go.D.eKd) e ∧ ks.length ≤ 9223372036854775807 ∧ ∀ k ∈ ks, Go.D.FitsAll k.p := by
  obtain ⟨es, e, rfl, hl, hx⟩ := ty_slice h
  obtain ⟨xs, rfl, hr⟩ := ty_map2 (g := Go.D.eKd) (R := fun k : Go.D.Kd => Go.D.FitsAll k.p) (fun l q => by
    obtain ⟨q1, q2⟩ := q
    match l, q1 with
    | [u, v, w, s, y, c, b, st, pl], _ =>
      obtain ⟨p, hp, hf⟩ := part_row (x := [u, v, w, s, y, c]) rfl (fun j ct v e1 e2 => by
        have hj : j < 6 := (List.getElem?_eq_some_iff.1 e1).1
        refine q2 j ct v ?_ ?_
        · match j, hj, e1 with
          | 0, _, e1 => exact e1
          | 1, _, e1 => exact e1
          | 2, _, e1 => exact e1
          | 3, _, e1 => exact e1
          | 4, _, e1 => exact e1
          | 5, _, e1 => exact e1
        · match j, hj, e2 with
          | 0, _, e1 => exact e1
          | 1, _, e1 => exact e1
          | 2, _, e1 => exact e1
          | 3, _, e1 => exact e1
          | 4, _, e1 => exact e1
          | 5, _, e1 => exact e1) (fun v hv => by cases hv; exact ty_parts _ _ (Nat.le_refl _) (q2 5 _ c rfl rfl))
      obtain ⟨bn, rfl, _⟩ := ty_i64 (q2 6 _ b rfl rfl)
      obtain ⟨sn, rfl⟩ := ty_bool (q2 7 _ st rfl rfl)
      obtain ⟨pn, rfl, _⟩ := ty_i64 (q2 8 _ pl rfl rfl)
      refine ⟨⟨p, bn, sn, pn⟩, ?_, hf⟩
      have := Go.D.Pt.c_eq p
      rw [this] at hp
      simp only [List.cons.injEq, and_true] at hp
      obtain ⟨h1, h2, h3, h4, h5, h6⟩ := hp
      subst h1; subst h2; subst h3; subst h4; subst h5; subst h6
      simp [Go.D.eKd]) es hx
  refine ⟨xs, e, rfl, ?_, hr⟩
  simp at hl
  omega

theorem ty_ents {a : AV} (h : Ty nm (.slice [.int .u64, .int .u8, .str, .slice [.str], .int .i64, .bool]) a) : ∃ (l : List Go.D.En) (e : Bool), a = .ro 6 (l.map Go.D.eEn) e ∧ l.length ≤ 9223372036854775807 ∧
    ∀ e ∈ l, (0 ≤ e.i.k ∧ e.i.k < 18446744073709551616) ∧ (0 ≤ e.i.t ∧ e.i.t ≤ 255) ∧ -9223372036854775808 ≤ e.s ∧ e.s ≤ 9223372036854775807 := by
  obtain ⟨es, e, rfl, hl, hx⟩ := ty_slice h
  obtain ⟨xs, rfl, hr⟩ := ty_map2 (g := Go.D.eEn) (R := fun e : Go.D.En => (0 ≤ e.i.k ∧ e.i.k < 18446744073709551616) ∧ (0 ≤ e.i.t ∧ e.i.t ≤ 255) ∧ -9223372036854775808 ≤ e.s ∧ e.s ≤ 9223372036854775807) (fun l q => by
    obtain ⟨q1, q2⟩ := q
    match l, q1 with
    | [u, v, w, x, sz, kn], _ =>
      obtain ⟨n1, rfl, h1⟩ := ty_u64 (q2 0 _ u rfl rfl)
      obtain ⟨n2, rfl, h2⟩ := ty_u8 (q2 1 _ v rfl rfl)
      obtain ⟨s, rfl, h3⟩ := ty_str (q2 2 _ w rfl rfl)
      obtain ⟨m, me, rfl, _, h4⟩ := ty_slice (q2 3 _ x rfl rfl)
      obtain ⟨ms, rfl, _⟩ := ty_map2 (g := eS) (R := fun _ : Go.D.Bs => True) (fun l q => by
        obtain ⟨q1, q2⟩ := q
        match l, q1 with
        | [v], _ =>
          obtain ⟨n, rfl, _⟩ := ty_str (q2 0 _ v rfl rfl)
          exact ⟨n, rfl, trivial⟩) m h4
      obtain ⟨sn, rfl, h5⟩ := ty_i64 (q2 4 _ sz rfl rfl)
      obtain ⟨kb, rfl⟩ := ty_bool (q2 5 _ kn rfl rfl)
      exact ⟨⟨⟨n1, n2, s, ms, me⟩, sn, kb⟩, rfl, ⟨h1.1, by simp only; omega⟩, h2, h5⟩) es hx
  refine ⟨xs, e, rfl, ?_, hr⟩
  simp at hl
  omega

theorem core116 (vs : List AV) (h : TyAll nm [.g [.slice [.int .u8, .str, .str, .slice [.str, .int .u8, .str], .str, .sref 76, .int .i64, .bool, .int .i64], .int .i64], .g [.slice [.int .u64, .int .u8, .str, .slice [.str], .int .i64, .bool]]] vs) : FnW prog 116 vs = some (.bool true) := by
  match vs, h with
  | [a, b], ⟨⟨es, ha, hl, hes⟩, ⟨fs, hb, hl2, hfs⟩, _⟩ =>
    subst ha
    subst hb
    match es, hl with
    | [x, y], _ =>
      obtain ⟨ks, ke, rfl, hkl, hkf⟩ := ty_kinds (hes 0 _ x rfl rfl)
      obtain ⟨cap, rfl, _⟩ := ty_i64 (hes 1 _ y rfl rfl)
      match fs, hl2 with
      | [u], _ =>
        obtain ⟨l, le, rfl, hll, hen⟩ := ty_ents (hfs 0 _ u rfl rfl)
        exact Go.D.checklaw_ok hasH_ ks ke cap l le hll hkl hkf lives_ hen

theorem args7 : Tryz.f7.params.toList.map (argT nm Tryz.prog) = ([.g [.slice [.int .u8, .str, .str, .slice [.str, .int .u8, .str], .str, .sref 76, .int .i64, .bool, .int .i64], .int .i64], .g [.slice [.int .u64, .int .u8, .str, .slice [.str], .int .i64, .bool]]] : List AT).map some := by kernel_rfl

set_option maxRecDepth 100000 in
theorem lifted7 (os : Os) (started : os.Started) (H : Type) (enc : TypeId × Value → H) :
    ReturnsInHanded {} Tryz.checked os 7 .any (Rows.listsCheckSpec.pre6 enc Tryz.prog Tryz.f7 Rows.listsCheckRow.domain false) (Rows.listsCheckSpec.post enc Tryz.prog Tryz.f7 false true false false) := by
  refine returnsInHanded_of_change (C := Tryz.checked) own_ started (by kernel_rfl) Tryz.func7
    (ChangeSpec.witness6 (enc := enc) (C := Tryz.checked) false ⟨#[], #[.agg #[.slice none 0 0, .int .i64 0], .agg #[.slice none 0 0]], []⟩ 8 (by kernel_rfl) (by kernel_rfl) (by kernel_rfl) (by kernel_rfl)) ?_
  intro W base args ds gs before hval hW hcnd _
  have hW' := hW
  obtain ⟨p, q, hA, hV, rfl, hfz, hnd⟩ := hW
  obtain ⟨rfl, rfl⟩ := trodVars_none hV
  have hlen : ds.length = 2 := (trodAll_len hA).trans (by simp)
  refine (law_calls (enc := enc) link okT named_ (f := 116) args7 core116 (fun j t v e1 e2 => hval j t v (by simpa using e1) e2) hA).mono ?_
  rintro e W' ⟨rfl, h1, h2, h3, h4⟩
  refine ⟨_, rfl, law_post kids_ full_ rfl hW' ?_ (of_decide_eq_true (by kernel_rfl)) rfl (by kernel_rfl) h1 h2 h3 h4⟩
  match ds, hlen with
  | [d1, d2], _ => rfl

theorem listsCheck_holds : Rows.ListsCheckSaid :=
  OpenClaim.holds_of_wide 7 Tryz.f7 rfl rfl rfl rfl rfl rfl rfl ⟨rfl, rfl, rfl, rfl, rfl⟩ rfl rfl rfl rfl rfl (by kernel_rfl) Tryz.func7 (by kernel_rfl)
    (of_decide_eq_true (by kernel_rfl)) (by unfold Func.isWrapper; first | (rw [if_pos (by decide +kernel)]; kernel_rfl) | (rw [if_neg (by decide +kernel)]; exact ⟨rfl, rfl⟩))
    (fun os started H enc _ => lifted7 os started H enc)

end Go.Proofs.YthbahjhkhkiddaaGreat
