/- Part of the theory that the claims of this work use: PwSimp, PwZip, PwP, PwLib, D01, PavLink, L24, PwGlue, PwGlue2, G00. No conditions of its own. -/
import Derived.Test.YtfombghmbbfpaaaGreatT3
import Derived.Laws.RangeAny
import Derived.Test.YtfombghmbbfpaaaGreatChecked
import Derived.KernelRfl
import Derived.ChangeSame
import Derived.ChangeArms
import Derived.ReadAgain
import Derived.Handed
import Derived.JoinedOf
import Derived.RowKit
import Derived.Test.YtfombghmbbfpaaaGreatRows
import Derived.ProofKit
section
set_option linter.unusedSimpArgs false
set_option linter.unusedVariables false
namespace Go.Pw
open Go Go.Pav
attribute [simp] ck_seq ck_skip ck_exit ck_ret ck_cond ck_block ck_ops ck_draw nk_nil nk_sq nk_sq_exit nk_sq_ret nk_lp_exit nk_lp_ret nk_bk nk_bk_exit nk_bk_ret ak_some lk_some
 ok_nil sk_some gk_tup ok_guard vk_some wk_some pk_some fk_pure fk_inl fk_ptr qk_fn ok_call ok_callv dk_nil ek_true dsk_some dgk_tup dk_guard dvk_some dwk_some dpk_some dfk_pure dfk_inl dfk_ptr dqk_fn dk_call dk_callv
attribute [simp high] condK_true condK_false gk_true_true gk_false_false gk_true_false gk_false_true dgk_true_true dgk_false_false dgk_true_false dgk_false_true
attribute [simp low] condK_bool gk_bool dgk_bool
section
variable {β : Type} {C : WProg} {base : Nat} {fin : Ex × WSt → Option β} {k : List Frame} {a : Ann} {l : List COper} {d : Option Nat} {e : Env} {h : WHeap} {n : Nat} {un : List (Nat × Nat)} {nid : Nat} {ds : List RW}
@[simp] theorem ok_mv {x : Opd} : OK C base fin k a (⟨d, none, .mv x⟩ :: l) ⟨e, h, n⟩ = OK C base fin k a l ⟨setD e d (x.ev e), h, n + 1⟩ := by rw [ok_step rfl]; rfl
@[simp] theorem ok_pick {c x y : Opd} : OK C base fin k a (⟨d, none, .pick c x y⟩ :: l) ⟨e, h, n⟩ = SK C base fin k a l d e h (n + 1) (stepW (.pick c x y) e h n) := ok_step rfl
@[simp] theorem ok_alloc {z : List AV} : OK C base fin k a (⟨d, none, .alloc z⟩ :: l) ⟨e, h, n⟩ = SK C base fin k a l d e h (n + 1) (stepW (.alloc z) e h n) := ok_step rfl
@[simp] theorem ok_box {x : Opd} : OK C base fin k a (⟨d, none, .box x⟩ :: l) ⟨e, h, n⟩ = SK C base fin k a l d e h (n + 1) (stepW (.box x) e h n) := ok_step rfl
@[simp] theorem ok_build {z : List AV} {ps : List (Nat × Nat × Opd)} : OK C base fin k a (⟨d, none, .build z ps⟩ :: l) ⟨e, h, n⟩ = SK C base fin k a l d e h (n + 1) (stepW (.build z ps) e h n) := ok_step rfl
@[simp] theorem ok_buildS {z : List AV} {m : Nat} {ps : List (Nat × Opd)} : OK C base fin k a (⟨d, none, .buildS z m ps⟩ :: l) ⟨e, h, n⟩ = SK C base fin k a l d e h (n + 1) (stepW (.buildS z m ps) e h n) := ok_step rfl
@[simp] theorem ok_load {m : Nat} {ag : Bool} {x : Opd} : OK C base fin k a (⟨d, none, .load m ag x⟩ :: l) ⟨e, h, n⟩ = SK C base fin k a l d e h (n + 1) (stepW (.load m ag x) e h n) := ok_step rfl
@[simp] theorem ok_store {m : Nat} {x y : Opd} : OK C base fin k a (⟨d, none, .store m x y⟩ :: l) ⟨e, h, n⟩ = SK C base fin k a l d e h (n + 1) (stepW (.store m x y) e h n) := ok_step rfl
@[simp] theorem ok_nilchk {x : Opd} : OK C base fin k a (⟨d, none, .nilchk x⟩ :: l) ⟨e, h, n⟩ = SK C base fin k a l d e h (n + 1) (stepW (.nilchk x) e h n) := ok_step rfl
@[simp] theorem ok_bin {op : BinOp} {x y : Opd} : OK C base fin k a (⟨d, none, .bin op x y⟩ :: l) ⟨e, h, n⟩ = SK C base fin k a l d e h (n + 1) (stepW (.bin op x y) e h n) := ok_step rfl
@[simp] theorem ok_eqv {kd : Nat} {ks : List Nat} {ne : Bool} {x y : Opd} : OK C base fin k a (⟨d, none, .eqv kd ks ne x y⟩ :: l) ⟨e, h, n⟩ = SK C base fin k a l d e h (n + 1) (stepW (.eqv kd ks ne x y) e h n) := ok_step rfl
@[simp] theorem ok_un {op : UnOp} {x : Opd} : OK C base fin k a (⟨d, none, .un op x⟩ :: l) ⟨e, h, n⟩ = SK C base fin k a l d e h (n + 1) (stepW (.un op x) e h n) := ok_step rfl
@[simp] theorem ok_cvt {kk : IntKind} {x : Opd} : OK C base fin k a (⟨d, none, .cvt kk x⟩ :: l) ⟨e, h, n⟩ = SK C base fin k a l d e h (n + 1) (stepW (.cvt kk x) e h n) := ok_step rfl
@[simp] theorem ok_cvs {x : Opd} : OK C base fin k a (⟨d, none, .cvs x⟩ :: l) ⟨e, h, n⟩ = SK C base fin k a l d e h (n + 1) (stepW (.cvs x) e h n) := ok_step rfl
@[simp] theorem ok_cvb {x : Opd} : OK C base fin k a (⟨d, none, .cvb x⟩ :: l) ⟨e, h, n⟩ = SK C base fin k a l d e h (n + 1) (stepW (.cvb x) e h n) := ok_step rfl
@[simp] theorem ok_mkfn {f : Nat} {xs : List Opd} : OK C base fin k a (⟨d, none, .mkfn f xs⟩ :: l) ⟨e, h, n⟩ = SK C base fin k a l d e h (n + 1) (stepW (.mkfn f xs) e h n) := ok_step rfl
@[simp] theorem ok_mkmap : OK C base fin k a (⟨d, none, .mkmap⟩ :: l) ⟨e, h, n⟩ = SK C base fin k a l d e h (n + 1) (stepW .mkmap e h n) := ok_step rfl
@[simp] theorem ok_mksl {z : List AV} {b : Nat} {x y : Opd} : OK C base fin k a (⟨d, none, .mksl z b x y⟩ :: l) ⟨e, h, n⟩ = SK C base fin k a l d e h (n + 1) (stepW (.mksl z b x y) e h n) := ok_step rfl
@[simp] theorem ok_slice {z : Nat} {x : Opd} {lo hi mx : Option Opd} : OK C base fin k a (⟨d, none, .slice z x lo hi mx⟩ :: l) ⟨e, h, n⟩ = SK C base fin k a l d e h (n + 1) (stepW (.slice z x lo hi mx) e h n) := ok_step rfl
@[simp] theorem ok_sliceA {z : Nat} {x : Opd} {lo hi : Option Opd} : OK C base fin k a (⟨d, none, .sliceA z x lo hi⟩ :: l) ⟨e, h, n⟩ = SK C base fin k a l d e h (n + 1) (stepW (.sliceA z x lo hi) e h n) := ok_step rfl
@[simp] theorem ok_fld {o : Nat} {x : Opd} : OK C base fin k a (⟨d, none, .fld o x⟩ :: l) ⟨e, h, n⟩ = SK C base fin k a l d e h (n + 1) (stepW (.fld o x) e h n) := ok_step rfl
@[simp] theorem ok_fldv {o m : Nat} {ag : Bool} {x : Opd} : OK C base fin k a (⟨d, none, .fldv o m ag x⟩ :: l) ⟨e, h, n⟩ = SK C base fin k a l d e h (n + 1) (stepW (.fldv o m ag x) e h n) := ok_step rfl
@[simp] theorem ok_idxs {z : Nat} {x y : Opd} : OK C base fin k a (⟨d, none, .idxs z x y⟩ :: l) ⟨e, h, n⟩ = SK C base fin k a l d e h (n + 1) (stepW (.idxs z x y) e h n) := ok_step rfl
@[simp] theorem ok_idxa {m z : Nat} {x y : Opd} : OK C base fin k a (⟨d, none, .idxa m z x y⟩ :: l) ⟨e, h, n⟩ = SK C base fin k a l d e h (n + 1) (stepW (.idxa m z x y) e h n) := ok_step rfl
@[simp] theorem ok_idxstr {x y : Opd} : OK C base fin k a (⟨d, none, .idxstr x y⟩ :: l) ⟨e, h, n⟩ = SK C base fin k a l d e h (n + 1) (stepW (.idxstr x y) e h n) := ok_step rfl
@[simp] theorem ok_idxv {m z : Nat} {ag : Bool} {x y : Opd} : OK C base fin k a (⟨d, none, .idxv m z ag x y⟩ :: l) ⟨e, h, n⟩ = SK C base fin k a l d e h (n + 1) (stepW (.idxv m z ag x y) e h n) := ok_step rfl
@[simp] theorem ok_look {kd : Nat} {z : AV} {ok : Bool} {x y : Opd} : OK C base fin k a (⟨d, none, .look kd z ok x y⟩ :: l) ⟨e, h, n⟩ = SK C base fin k a l d e h (n + 1) (stepW (.look kd z ok x y) e h n) := ok_step rfl
@[simp] theorem ok_upd {kd : Nat} {x y z : Opd} : OK C base fin k a (⟨d, none, .upd kd x y z⟩ :: l) ⟨e, h, n⟩ = SK C base fin k a l d e h (n + 1) (stepW (.upd kd x y z) e h n) := ok_step rfl
@[simp] theorem ok_range {x : Opd} : OK C base fin k a (⟨d, none, .range x⟩ :: l) ⟨e, h, n⟩ = SK C base fin k a l d e h (n + 1) (stepW (.range x) e h n) := ok_step rfl
@[simp] theorem ok_next {x : Opd} : OK C base fin k a (⟨d, none, .next x⟩ :: l) ⟨e, h, n⟩ = SK C base fin k a l d e h (n + 1) (stepW (.next x) e h n) := ok_step rfl
@[simp] theorem ok_ext {i : Nat} {x : Opd} : OK C base fin k a (⟨d, none, .ext i x⟩ :: l) ⟨e, h, n⟩ = SK C base fin k a l d e h (n + 1) (stepW (.ext i x) e h n) := ok_step rfl
@[simp] theorem ok_len {kd : Nat} {x : Opd} : OK C base fin k a (⟨d, none, .len kd x⟩ :: l) ⟨e, h, n⟩ = SK C base fin k a l d e h (n + 1) (stepW (.len kd x) e h n) := ok_step rfl
@[simp] theorem ok_cap {x : Opd} : OK C base fin k a (⟨d, none, .cap x⟩ :: l) ⟨e, h, n⟩ = SK C base fin k a l d e h (n + 1) (stepW (.cap x) e h n) := ok_step rfl
@[simp] theorem ok_app {z : List AV} {b : Nat} {zs : Bool} {x y : Opd} : OK C base fin k a (⟨d, none, .app z b zs x y⟩ :: l) ⟨e, h, n⟩ = SK C base fin k a l d e h (n + 1) (stepW (.app z b zs x y) e h n) := ok_step rfl
@[simp] theorem ok_cpy {z : Nat} {x y : Opd} : OK C base fin k a (⟨d, none, .cpy z x y⟩ :: l) ⟨e, h, n⟩ = SK C base fin k a l d e h (n + 1) (stepW (.cpy z x y) e h n) := ok_step rfl
@[simp] theorem ok_clr {z : List AV} {x : Opd} : OK C base fin k a (⟨d, none, .clr z x⟩ :: l) ⟨e, h, n⟩ = SK C base fin k a l d e h (n + 1) (stepW (.clr z x) e h n) := ok_step rfl
@[simp] theorem ok_mx {x y : Opd} : OK C base fin k a (⟨d, none, .mx x y⟩ :: l) ⟨e, h, n⟩ = SK C base fin k a l d e h (n + 1) (stepW (.mx x y) e h n) := ok_step rfl
@[simp] theorem ok_mn {x y : Opd} : OK C base fin k a (⟨d, none, .mn x y⟩ :: l) ⟨e, h, n⟩ = SK C base fin k a l d e h (n + 1) (stepW (.mn x y) e h n) := ok_step rfl
@[simp] theorem dk_mv {x : Opd} : DK C base fin k a un (⟨d, none, .mv x⟩ :: l) nid ⟨e, h, n⟩ ds = DSK C base fin k a un l (nid + 1) d e h n ds (readsOf e (.mv x)) (stepW (.mv x) e h nid) := dk_step rfl
@[simp] theorem dk_pick {c x y : Opd} : DK C base fin k a un (⟨d, none, .pick c x y⟩ :: l) nid ⟨e, h, n⟩ ds = DSK C base fin k a un l (nid + 1) d e h n ds (readsOf e (.pick c x y)) (stepW (.pick c x y) e h nid) := dk_step rfl
@[simp] theorem dk_alloc {z : List AV} : DK C base fin k a un (⟨d, none, .alloc z⟩ :: l) nid ⟨e, h, n⟩ ds = DSK C base fin k a un l (nid + 1) d e h n ds (readsOf e (.alloc z)) (stepW (.alloc z) e h nid) := dk_step rfl
@[simp] theorem dk_box {x : Opd} : DK C base fin k a un (⟨d, none, .box x⟩ :: l) nid ⟨e, h, n⟩ ds = DSK C base fin k a un l (nid + 1) d e h n ds (readsOf e (.box x)) (stepW (.box x) e h nid) := dk_step rfl
@[simp] theorem dk_build {z : List AV} {ps : List (Nat × Nat × Opd)} : DK C base fin k a un (⟨d, none, .build z ps⟩ :: l) nid ⟨e, h, n⟩ ds = DSK C base fin k a un l (nid + 1) d e h n ds (readsOf e (.build z ps)) (stepW (.build z ps) e h nid) := dk_step rfl
@[simp] theorem dk_buildS {z : List AV} {m : Nat} {ps : List (Nat × Opd)} : DK C base fin k a un (⟨d, none, .buildS z m ps⟩ :: l) nid ⟨e, h, n⟩ ds = DSK C base fin k a un l (nid + 1) d e h n ds (readsOf e (.buildS z m ps)) (stepW (.buildS z m ps) e h nid) := dk_step rfl
@[simp] theorem dk_load {m : Nat} {ag : Bool} {x : Opd} : DK C base fin k a un (⟨d, none, .load m ag x⟩ :: l) nid ⟨e, h, n⟩ ds = DSK C base fin k a un l (nid + 1) d e h n ds (readsOf e (.load m ag x)) (stepW (.load m ag x) e h nid) := dk_step rfl
@[simp] theorem dk_store {m : Nat} {x y : Opd} : DK C base fin k a un (⟨d, none, .store m x y⟩ :: l) nid ⟨e, h, n⟩ ds = DSK C base fin k a un l (nid + 1) d e h n ds (readsOf e (.store m x y)) (stepW (.store m x y) e h nid) := dk_step rfl
@[simp] theorem dk_nilchk {x : Opd} : DK C base fin k a un (⟨d, none, .nilchk x⟩ :: l) nid ⟨e, h, n⟩ ds = DSK C base fin k a un l (nid + 1) d e h n ds (readsOf e (.nilchk x)) (stepW (.nilchk x) e h nid) := dk_step rfl
@[simp] theorem dk_bin {op : BinOp} {x y : Opd} : DK C base fin k a un (⟨d, none, .bin op x y⟩ :: l) nid ⟨e, h, n⟩ ds = DSK C base fin k a un l (nid + 1) d e h n ds (readsOf e (.bin op x y)) (stepW (.bin op x y) e h nid) := dk_step rfl
@[simp] theorem dk_eqv {kd : Nat} {ks : List Nat} {ne : Bool} {x y : Opd} : DK C base fin k a un (⟨d, none, .eqv kd ks ne x y⟩ :: l) nid ⟨e, h, n⟩ ds = DSK C base fin k a un l (nid + 1) d e h n ds (readsOf e (.eqv kd ks ne x y)) (stepW (.eqv kd ks ne x y) e h nid) := dk_step rfl
@[simp] theorem dk_un {op : UnOp} {x : Opd} : DK C base fin k a un (⟨d, none, .un op x⟩ :: l) nid ⟨e, h, n⟩ ds = DSK C base fin k a un l (nid + 1) d e h n ds (readsOf e (.un op x)) (stepW (.un op x) e h nid) := dk_step rfl
@[simp] theorem dk_cvt {kk : IntKind} {x : Opd} : DK C base fin k a un (⟨d, none, .cvt kk x⟩ :: l) nid ⟨e, h, n⟩ ds = DSK C base fin k a un l (nid + 1) d e h n ds (readsOf e (.cvt kk x)) (stepW (.cvt kk x) e h nid) := dk_step rfl
@[simp] theorem dk_cvs {x : Opd} : DK C base fin k a un (⟨d, none, .cvs x⟩ :: l) nid ⟨e, h, n⟩ ds = DSK C base fin k a un l (nid + 1) d e h n ds (readsOf e (.cvs x)) (stepW (.cvs x) e h nid) := dk_step rfl
@[simp] theorem dk_cvb {x : Opd} : DK C base fin k a un (⟨d, none, .cvb x⟩ :: l) nid ⟨e, h, n⟩ ds = DSK C base fin k a un l (nid + 1) d e h n ds (readsOf e (.cvb x)) (stepW (.cvb x) e h nid) := dk_step rfl
@[simp] theorem dk_mkfn {f : Nat} {xs : List Opd} : DK C base fin k a un (⟨d, none, .mkfn f xs⟩ :: l) nid ⟨e, h, n⟩ ds = DSK C base fin k a un l (nid + 1) d e h n ds (readsOf e (.mkfn f xs)) (stepW (.mkfn f xs) e h nid) := dk_step rfl
@[simp] theorem dk_mkmap : DK C base fin k a un (⟨d, none, .mkmap⟩ :: l) nid ⟨e, h, n⟩ ds = DSK C base fin k a un l (nid + 1) d e h n ds (readsOf e (.mkmap)) (stepW (.mkmap) e h nid) := dk_step rfl
@[simp] theorem dk_mksl {z : List AV} {b : Nat} {x y : Opd} : DK C base fin k a un (⟨d, none, .mksl z b x y⟩ :: l) nid ⟨e, h, n⟩ ds = DSK C base fin k a un l (nid + 1) d e h n ds (readsOf e (.mksl z b x y)) (stepW (.mksl z b x y) e h nid) := dk_step rfl
@[simp] theorem dk_slice {z : Nat} {x : Opd} {lo hi mx : Option Opd} : DK C base fin k a un (⟨d, none, .slice z x lo hi mx⟩ :: l) nid ⟨e, h, n⟩ ds = DSK C base fin k a un l (nid + 1) d e h n ds (readsOf e (.slice z x lo hi mx)) (stepW (.slice z x lo hi mx) e h nid) := dk_step rfl
@[simp] theorem dk_sliceA {z : Nat} {x : Opd} {lo hi : Option Opd} : DK C base fin k a un (⟨d, none, .sliceA z x lo hi⟩ :: l) nid ⟨e, h, n⟩ ds = DSK C base fin k a un l (nid + 1) d e h n ds (readsOf e (.sliceA z x lo hi)) (stepW (.sliceA z x lo hi) e h nid) := dk_step rfl
@[simp] theorem dk_fld {o : Nat} {x : Opd} : DK C base fin k a un (⟨d, none, .fld o x⟩ :: l) nid ⟨e, h, n⟩ ds = DSK C base fin k a un l (nid + 1) d e h n ds (readsOf e (.fld o x)) (stepW (.fld o x) e h nid) := dk_step rfl
@[simp] theorem dk_fldv {o m : Nat} {ag : Bool} {x : Opd} : DK C base fin k a un (⟨d, none, .fldv o m ag x⟩ :: l) nid ⟨e, h, n⟩ ds = DSK C base fin k a un l (nid + 1) d e h n ds (readsOf e (.fldv o m ag x)) (stepW (.fldv o m ag x) e h nid) := dk_step rfl
@[simp] theorem dk_idxs {z : Nat} {x y : Opd} : DK C base fin k a un (⟨d, none, .idxs z x y⟩ :: l) nid ⟨e, h, n⟩ ds = DSK C base fin k a un l (nid + 1) d e h n ds (readsOf e (.idxs z x y)) (stepW (.idxs z x y) e h nid) := dk_step rfl
@[simp] theorem dk_idxa {m z : Nat} {x y : Opd} : DK C base fin k a un (⟨d, none, .idxa m z x y⟩ :: l) nid ⟨e, h, n⟩ ds = DSK C base fin k a un l (nid + 1) d e h n ds (readsOf e (.idxa m z x y)) (stepW (.idxa m z x y) e h nid) := dk_step rfl
@[simp] theorem dk_idxstr {x y : Opd} : DK C base fin k a un (⟨d, none, .idxstr x y⟩ :: l) nid ⟨e, h, n⟩ ds = DSK C base fin k a un l (nid + 1) d e h n ds (readsOf e (.idxstr x y)) (stepW (.idxstr x y) e h nid) := dk_step rfl
@[simp] theorem dk_idxv {m z : Nat} {ag : Bool} {x y : Opd} : DK C base fin k a un (⟨d, none, .idxv m z ag x y⟩ :: l) nid ⟨e, h, n⟩ ds = DSK C base fin k a un l (nid + 1) d e h n ds (readsOf e (.idxv m z ag x y)) (stepW (.idxv m z ag x y) e h nid) := dk_step rfl
@[simp] theorem dk_look {kd : Nat} {z : AV} {ok : Bool} {x y : Opd} : DK C base fin k a un (⟨d, none, .look kd z ok x y⟩ :: l) nid ⟨e, h, n⟩ ds = DSK C base fin k a un l (nid + 1) d e h n ds (readsOf e (.look kd z ok x y)) (stepW (.look kd z ok x y) e h nid) := dk_step rfl
@[simp] theorem dk_upd {kd : Nat} {x y z : Opd} : DK C base fin k a un (⟨d, none, .upd kd x y z⟩ :: l) nid ⟨e, h, n⟩ ds = DSK C base fin k a un l (nid + 1) d e h n ds (readsOf e (.upd kd x y z)) (stepW (.upd kd x y z) e h nid) := dk_step rfl
@[simp] theorem dk_range {x : Opd} : DK C base fin k a un (⟨d, none, .range x⟩ :: l) nid ⟨e, h, n⟩ ds = DSK C base fin k a un l (nid + 1) d e h n ds (readsOf e (.range x)) (stepW (.range x) e h nid) := dk_step rfl
@[simp] theorem dk_next {x : Opd} : DK C base fin k a un (⟨d, none, .next x⟩ :: l) nid ⟨e, h, n⟩ ds = DSK C base fin k a un l (nid + 1) d e h n ds (readsOf e (.next x)) (stepW (.next x) e h nid) := dk_step rfl
@[simp] theorem dk_ext {i : Nat} {x : Opd} : DK C base fin k a un (⟨d, none, .ext i x⟩ :: l) nid ⟨e, h, n⟩ ds = DSK C base fin k a un l (nid + 1) d e h n ds (readsOf e (.ext i x)) (stepW (.ext i x) e h nid) := dk_step rfl
@[simp] theorem dk_len {kd : Nat} {x : Opd} : DK C base fin k a un (⟨d, none, .len kd x⟩ :: l) nid ⟨e, h, n⟩ ds = DSK C base fin k a un l (nid + 1) d e h n ds (readsOf e (.len kd x)) (stepW (.len kd x) e h nid) := dk_step rfl
@[simp] theorem dk_cap {x : Opd} : DK C base fin k a un (⟨d, none, .cap x⟩ :: l) nid ⟨e, h, n⟩ ds = DSK C base fin k a un l (nid + 1) d e h n ds (readsOf e (.cap x)) (stepW (.cap x) e h nid) := dk_step rfl
@[simp] theorem dk_app {z : List AV} {b : Nat} {zs : Bool} {x y : Opd} : DK C base fin k a un (⟨d, none, .app z b zs x y⟩ :: l) nid ⟨e, h, n⟩ ds = DSK C base fin k a un l (nid + 1) d e h n ds (readsOf e (.app z b zs x y)) (stepW (.app z b zs x y) e h nid) := dk_step rfl
@[simp] theorem dk_cpy {z : Nat} {x y : Opd} : DK C base fin k a un (⟨d, none, .cpy z x y⟩ :: l) nid ⟨e, h, n⟩ ds = DSK C base fin k a un l (nid + 1) d e h n ds (readsOf e (.cpy z x y)) (stepW (.cpy z x y) e h nid) := dk_step rfl
@[simp] theorem dk_clr {z : List AV} {x : Opd} : DK C base fin k a un (⟨d, none, .clr z x⟩ :: l) nid ⟨e, h, n⟩ ds = DSK C base fin k a un l (nid + 1) d e h n ds (readsOf e (.clr z x)) (stepW (.clr z x) e h nid) := dk_step rfl
@[simp] theorem dk_mx {x y : Opd} : DK C base fin k a un (⟨d, none, .mx x y⟩ :: l) nid ⟨e, h, n⟩ ds = DSK C base fin k a un l (nid + 1) d e h n ds (readsOf e (.mx x y)) (stepW (.mx x y) e h nid) := dk_step rfl
@[simp] theorem dk_mn {x y : Opd} : DK C base fin k a un (⟨d, none, .mn x y⟩ :: l) nid ⟨e, h, n⟩ ds = DSK C base fin k a un l (nid + 1) d e h n ds (readsOf e (.mn x y)) (stepW (.mn x y) e h nid) := dk_step rfl
end
@[simp] theorem nat?_cast (n : Nat) : nat? (n : Int) = some n := rfl
@[simp] theorem nat?_zero : nat? 0 = some 0 := rfl
@[simp] theorem nat?_one : nat? 1 = some 1 := rfl
@[simp] theorem nat?_lit (n : Nat) : nat? (no_index (OfNat.ofNat n) : Int) = some n := rfl
@[simp] theorem nat?_add (n m : Nat) : nat? ((n : Int) + (m : Int)) = some (n + m) := rfl
@[simp] theorem nat?_add_lit (n m : Nat) : nat? ((n : Int) + (no_index (OfNat.ofNat m) : Int)) = some (n + m) := rfl
theorem wI64 {x : Int} (h1 : -9223372036854775808 ≤ x) (h2 : x < 9223372036854775808) : IntKind.i64.wrap x = x := by
 show (if (true && decide (x % 18446744073709551616 ≥ 9223372036854775808)) = true then x % 18446744073709551616 - 18446744073709551616 else x % 18446744073709551616) = x
 simp only [Bool.true_and, decide_eq_true_eq]
 split <;> omega
theorem wU64 {x : Int} (h1 : 0 ≤ x) (h2 : x < 18446744073709551616) : IntKind.u64.wrap x = x := by
 show (if (false && decide (x % 18446744073709551616 ≥ 9223372036854775808)) = true then x % 18446744073709551616 - 18446744073709551616 else x % 18446744073709551616) = x
 simp only [Bool.false_and, Bool.false_eq_true, if_false]
 omega
theorem wU8 {x : Int} (h1 : 0 ≤ x) (h2 : x < 256) : IntKind.u8.wrap x = x := by
 show (if (false && decide (x % 256 ≥ 128)) = true then x % 256 - 256 else x % 256) = x
 simp only [Bool.false_and, Bool.false_eq_true, if_false]
 omega
theorem fits {n c : Nat} (h : n * c ≤ 35184372088832) : (n * c ≤ 35184372088832) = True := eq_true h
@[simp ↓] theorem ob_s {α β : Type} (a : α) (f : α → Option β) : ob (some a) f = f a := rfl
@[simp] theorem resOf_tmp (e : Env) (h : WHeap) (t : Nat) : resOfW e h (.tmp t) = Pav.get e t := rfl
def cellOf (h : WHeap) (n : Nat) (ag : Bool) : Option AV → Option AV
 | some (.ptr b i o) => wLoadAt n ag o i (Pav.get h b)
 | _ => none
@[simp] theorem resOf_cell (e : Env) (h : WHeap) (t n : Nat) (ag : Bool) : resOfW e h (.cell t n ag) = cellOf h n ag (Pav.get e t) := rfl
attribute [simp] cellOf
@[simp] theorem ev_t (s : Nat) (e : Env) : (Opd.t s).ev e = (Pav.get e s).getD .undef := rfl
@[simp] theorem ev_c (v : AV) (e : Env) : (Opd.c v).ev e = v := rfl
@[simp ↓] theorem ob_n {α β : Type} (f : α → Option β) : ob none f = none := rfl
@[simp ↓] theorem om_s {α β : Type} (a : α) (f : α → β) : om (some a) f = some (f a) := rfl
@[simp ↓] theorem om_n {α β : Type} (f : α → β) : om none f = none := rfl
@[simp] theorem og_t {β : Type} (x : Option β) : og true x = x := rfl
@[simp] theorem og_f {β : Type} (x : Option β) : og false x = none := rfl
@[simp] theorem ov_s (v : AV) : ov (some v) = some (v, []) := rfl
@[simp] theorem ovW_s (v : AV) : ovW (some v) = some (v, []) := rfl
@[simp] theorem plainW_s (x : AV × Upd) : plainW (some x) = some (x.1, []) := rfl
def consO {α : Type} : Option α → Option (List α) → Option (List α)
 | some a, some l => some (a :: l)
 | _, _ => none
@[simp] theorem consO_s {α : Type} (a : α) (l : List α) : consO (some a) (some l) = some (a :: l) := rfl
@[simp] theorem mapO_nil {α β : Type} (f : α → Option β) : mapO f [] = some [] := rfl
@[simp] theorem mapO_cons {α β : Type} (f : α → Option β) (a : α) (r : List α) : mapO f (a :: r) = consO (f a) (mapO f r) := by
 simp only [mapO]; cases f a <;> cases mapO f r <;> rfl
def consE (k : Nat) : Option AV → Option Env → Option Env
 | some v, some r => some ((k, v) :: r)
 | _, _ => none
@[simp] theorem consE_s (k : Nat) (v : AV) (r : Env) : consE k (some v) (some r) = some ((k, v) :: r) := rfl
@[simp] theorem renEnv_nil (π : Nat → Option Nat) : renEnv π [] = some [] := rfl
@[simp] theorem renEnv_cons (π : Nat → Option Nat) (k : Nat) (v : AV) (r : Env) : renEnv π ((k, v) :: r) = consE k (ren π v) (renEnv π r) := by
 simp only [renEnv]; cases ren π v <;> cases renEnv π r <;> rfl
def ptrO (i o : Nat) : Option Nat → Option AV
 | some b => some (.ptr b i o)
 | none => none
def slO (z i l c : Nat) (ex : Bool) : Option Nat → Option AV
 | some b => some (.sl b z i l c ex)
 | none => none
def mapV : Option Nat → Option AV
 | some b => some (.map b)
 | none => none
def fnO (f : Nat) : Option (List AV) → Option AV
 | some cs => some (.fn f cs)
 | none => none
def aggO : Option (List AV) → Option AV
 | some cs => some (.agg cs)
 | none => none
def tupO : Option (List AV) → Option AV
 | some cs => some (.tup cs)
 | none => none
@[simp] theorem ptrO_s (i o b : Nat) : ptrO i o (some b) = some (.ptr b i o) := rfl
@[simp] theorem slO_s (z i l c : Nat) (ex : Bool) (b : Nat) : slO z i l c ex (some b) = some (.sl b z i l c ex) := rfl
@[simp] theorem mapV_s (b : Nat) : mapV (some b) = some (.map b) := rfl
@[simp] theorem fnO_s (f : Nat) (cs : List AV) : fnO f (some cs) = some (.fn f cs) := rfl
@[simp] theorem aggO_s (cs : List AV) : aggO (some cs) = some (.agg cs) := rfl
@[simp] theorem tupO_s (cs : List AV) : tupO (some cs) = some (.tup cs) := rfl
section
variable (π : Nat → Option Nat)
@[simp] theorem ren_ptr (b i o : Nat) : ren π (.ptr b i o) = ptrO i o (π b) := by simp only [ren]; cases π b <;> rfl
@[simp] theorem ren_sl (b z i l c : Nat) (ex : Bool) : ren π (.sl b z i l c ex) = slO z i l c ex (π b) := by simp only [ren]; cases π b <;> rfl
@[simp] theorem ren_map (b : Nat) : ren π (.map b) = mapV (π b) := by simp only [ren]; cases π b <;> rfl
@[simp] theorem ren_fn (f : Nat) (cs : List AV) : ren π (.fn f cs) = fnO f (renL π cs) := by simp only [ren]; cases renL π cs <;> rfl
@[simp] theorem ren_agg (cs : List AV) : ren π (.agg cs) = aggO (renL π cs) := by simp only [ren]; cases renL π cs <;> rfl
@[simp] theorem ren_tup (cs : List AV) : ren π (.tup cs) = tupO (renL π cs) := by simp only [ren]; cases renL π cs <;> rfl
@[simp] theorem ren_undef : ren π .undef = some .undef := rfl
@[simp] theorem ren_bool (b : Bool) : ren π (.bool b) = some (.bool b) := rfl
@[simp] theorem ren_int (k : IntKind) (n : Int) : ren π (.int k n) = some (.int k n) := rfl
@[simp] theorem ren_str (s : List UInt8) : ren π (.str s) = some (.str s) := rfl
@[simp] theorem ren_nilp : ren π .nilp = some .nilp := rfl
@[simp] theorem ren_nils : ren π .nils = some .nils := rfl
@[simp] theorem ren_nilm : ren π .nilm = some .nilm := rfl
@[simp] theorem ren_nilf : ren π .nilf = some .nilf := rfl
@[simp] theorem ren_ro (z : Nat) (es : List (List AV)) (ex : Bool) : ren π (.ro z es ex) = some (.ro z es ex) := rfl
@[simp] theorem ren_rop (cs : List AV) : ren π (.rop cs) = some (.rop cs) := rfl
@[simp] theorem renL_nil : renL π [] = some [] := rfl
@[simp] theorem renL_cons (v : AV) (r : List AV) : renL π (v :: r) = consO (ren π v) (renL π r) := by simp only [renL]; cases ren π v <;> cases renL π r <;> rfl
def cellsO (z : Nat) (mu dt : Bool) : Option (List (List AV)) → Option WObj
 | some es => some (.cells z es mu dt)
 | none => none
@[simp] theorem cellsO_s (z : Nat) (mu dt : Bool) (es : List (List AV)) : cellsO z mu dt (some es) = some (.cells z es mu dt) := rfl
@[simp] theorem renObj_dt (z : Nat) (es : List (List AV)) (mu : Bool) : renObj π (.cells z es mu true) = some (.cells z es mu true) := rfl
@[simp] theorem renObj_nd (z : Nat) (es : List (List AV)) (mu : Bool) : renObj π (.cells z es mu false) = cellsO z mu false (mapO (renL π) es) := by simp only [renObj]; cases mapO (renL π) es <;> rfl
@[simp] theorem renObj_map (es : List (AV × AV)) : renObj π (.map es) = some (.map es) := rfl
@[simp] theorem renObj_iter (s : List UInt8) (p : Nat) : renObj π (.iter s p) = some (.iter s p) := rfl
def consH (k : Nat) : Option WObj → Option WHeap → Option WHeap
 | some v, some r => some ((k, v) :: r)
 | _, _ => none
@[simp] theorem consH_s (k : Nat) (v : WObj) (r : WHeap) : consH k (some v) (some r) = some ((k, v) :: r) := rfl
@[simp] theorem renOld_nil (base : Nat) : renOld base π [] = some [] := rfl
@[simp] theorem renOld_cons (base b : Nat) (o : WObj) (r : WHeap) : renOld base π ((b, o) :: r) = if b < base then consH b (renObj π o) (renOld base π r) else renOld base π r := by
 simp only [renOld]
 split
 · cases renObj π o <;> cases renOld base π r <;> rfl
 · rfl
def newH (n : Nat) (π : Nat → Option Nat) (r : Option WHeap) : Option WObj → Option WHeap
 | some o => consH n (renObj π o) r
 | none => r
@[simp] theorem newH_s (n : Nat) (r : Option WHeap) (o : WObj) : newH n π r (some o) = consH n (renObj π o) r := rfl
@[simp] theorem newH_n (n : Nat) (r : Option WHeap) : newH n π r none = r := rfl
@[simp] theorem renNew_nil (h : WHeap) (n : Nat) : renNew π h n [] = some [] := rfl
@[simp] theorem renNew_cons (h : WHeap) (n b : Nat) (r : List Nat) : renNew π h n (b :: r) = newH n π (renNew π h (n + 1) r) (Pav.get h b) := by
 simp only [renNew, newH]
 cases Pav.get h b with
 | none => rfl
 | some o => simp only; cases renObj π o <;> cases renNew π h (n + 1) r <;> rfl
end
def num3 (n : Nat) : Option Env → Option WHeap → Option WHeap → Option WSt
 | some e, some h1, some h2 => some ⟨e, h1 ++ h2, n⟩
 | _, _, _ => none
@[simp] theorem num3_s (n : Nat) (e : Env) (h1 h2 : WHeap) : num3 n (some e) (some h1) (some h2) = some ⟨e, h1 ++ h2, n⟩ := rfl
@[simp] theorem renumber_eq (base : Nat) (s : WSt) (L : List Nat) : renumber base s L = num3 (base + L.length) (renEnv (newNum base L) s.env) (renOld base (newNum base L) s.heap) (renNew (newNum base L) s.heap base L) := by
 simp only [renumber]
 cases renEnv (newNum base L) s.env <;> cases renOld base (newNum base L) s.heap <;> cases renNew (newNum base L) s.heap base L <;> rfl
def appK (h : WHeap) (nid zl bytes : Nat) (s : AV) : Option (List (List AV) × Bool) → Option (AV × WUpd)
 | some (xs, d) => wEvApp h nid zl bytes s xs d
 | none => none
@[simp] theorem appK_s (h : WHeap) (nid zl bytes : Nat) (s : AV) (xs : List (List AV)) (d : Bool) : appK h nid zl bytes s (some (xs, d)) = wEvApp h nid zl bytes s xs d := rfl
@[simp] theorem wApp_f (z : List AV) (bytes : Nat) (s x : Opd) (e : Env) (h : WHeap) (n : Nat) : wApp z bytes false s x e h n = appK h n z.length bytes (s.ev e) (wElems h z.length (x.ev e)) := by
 simp only [wApp, Bool.false_eq_true, if_false]; cases wElems h z.length (x.ev e) <;> rfl
def zerosK (h : WHeap) (nid : Nat) (z : List AV) (bytes : Nat) (s : AV) : AV → Option (AV × WUpd)
 | .int _ n => ob (nat? n) fun n => if n * (bytes + 1) ≤ maxBytes then wEvApp h nid z.length bytes s (List.replicate n z) (z.all isC) else none
 | _ => none
@[simp] theorem wApp_t (z : List AV) (bytes : Nat) (s x : Opd) (e : Env) (h : WHeap) (n : Nat) : wApp z bytes true s x e h n = zerosK h n z bytes (s.ev e) (x.ev e) := by
 simp only [wApp, if_true]; cases x.ev e <;> rfl
def cpyK (h : WHeap) (z : Nat) (d : AV) : Option (List (List AV) × Bool) → Option (AV × WUpd)
 | some (xs, b) => wCopyIn h z xs b d
 | none => none
@[simp] theorem cpyK_s (h : WHeap) (z : Nat) (d : AV) (xs : List (List AV)) (b : Bool) : cpyK h z d (some (xs, b)) = wCopyIn h z xs b d := rfl
@[simp] theorem wCpy_eq (z : Nat) (d s : Opd) (e : Env) (h : WHeap) (n : Nat) : wCpy z d s e h n = cpyK h z (d.ev e) (wElems h z (s.ev e)) := by
 simp only [wCpy]; cases wElems h z (s.ev e) <;> rfl
attribute [simp] zerosK
@[simp] theorem ob_map {α β γ : Type} (x : Option α) (g : α → β) (f : β → Option γ) : ob (Option.map g x) f = ob x fun a => f (g a) := by cases x <;> rfl
section
variable (h : WHeap) (nid zl bytes : Nat) (xs : List (List AV)) (d : Bool)
@[simp] theorem wEvApp_nils : wEvApp h nid zl bytes .nils xs d = if xs.isEmpty = true then some (.nils, []) else wNewRow nid zl xs.length bytes xs d := by cases xs <;> rfl
@[simp] theorem wEvApp_ro (z : Nat) (es : List (List AV)) (ex : Bool) : wEvApp h nid zl bytes (.ro z es ex) xs d =
 if z = zl then (if xs.isEmpty = true then some (.ro z es ex, []) else if ex = true then wNewRow nid zl (es.length + xs.length) bytes (es ++ xs) d else none) else none := by cases xs <;> rfl
@[simp] theorem wEvApp_sl (b z i len cap : Nat) (ex : Bool) : wEvApp h nid zl bytes (.sl b z i len cap ex) xs d =
 if z = zl then (if xs.isEmpty = true then some (.sl b z i len cap ex, []) else wAppSl (Pav.get h b) nid zl bytes b i len cap ex xs d (len + xs.length)) else none := by cases xs <;> rfl
end
def frzS (h : WHeap) (n z i len cap : Nat) (ex : Bool) : Option WObj → Option AV
 | some (.cells _ es _ true) => og (decide (((es.drop i).take len).length = len)) (some (.ro z ((es.drop i).take len) (ex && decide (cap = len))))
 | some (.cells _ es _ false) => ob (mapO (mapO (frzW h n)) ((es.drop i).take len)) fun es' => og (decide (es'.length = len) && es'.all fun e => e.all isC) (some (.ro z es' (ex && decide (cap = len))))
 | _ => none
def frzP (h : WHeap) (n i o : Nat) : Option WObj → Option AV
 | some (.cells _ es _ true) => ob es[i]? fun cs => some (.rop (cs.drop o))
 | some (.cells _ es _ false) => ob es[i]? fun cs => ob (mapO (frzW h n) (cs.drop o)) fun cs' => some (.rop cs')
 | _ => none
def reachP (h : WHeap) (n i o : Nat) : Option WObj → List Nat
 | some (.cells _ es _ false) => ((es[i]?.getD []).drop o).flatMap (reachW h n)
 | _ => []
def reachS (h : WHeap) (n i len : Nat) : Option WObj → List Nat
 | some (.cells _ es _ false) => ((es.drop i).take len).flatMap fun e => e.flatMap (reachW h n)
 | _ => []
section
variable (h : WHeap) (n : Nat)
@[simp] theorem frzW_bool (b : Bool) : frzW h (n + 1) (.bool b) = some (.bool b) := rfl
@[simp] theorem frzW_int (k : IntKind) (x : Int) : frzW h (n + 1) (.int k x) = some (.int k x) := rfl
@[simp] theorem frzW_str (s : List UInt8) : frzW h (n + 1) (.str s) = some (.str s) := rfl
@[simp] theorem frzW_nilp : frzW h (n + 1) .nilp = some .nilp := rfl
@[simp] theorem frzW_nils : frzW h (n + 1) .nils = some .nils := rfl
@[simp] theorem frzW_nilm : frzW h (n + 1) .nilm = some .nilm := rfl
@[simp] theorem frzW_nilf : frzW h (n + 1) .nilf = some .nilf := rfl
@[simp] theorem frzW_ro (z : Nat) (es : List (List AV)) (ex : Bool) : frzW h (n + 1) (.ro z es ex) = some (.ro z es ex) := rfl
@[simp] theorem frzW_rop (cs : List AV) : frzW h (n + 1) (.rop cs) = some (.rop cs) := rfl
@[simp] theorem frzW_fn (f : Nat) (cs : List AV) : frzW h (n + 1) (.fn f cs) = fnO f (mapO (frzW h n) cs) := by simp only [frzW]; cases mapO (frzW h n) cs <;> rfl
@[simp] theorem frzW_agg (cs : List AV) : frzW h (n + 1) (.agg cs) = aggO (mapO (frzW h n) cs) := by simp only [frzW]; cases mapO (frzW h n) cs <;> rfl
@[simp] theorem frzW_tup (cs : List AV) : frzW h (n + 1) (.tup cs) = tupO (mapO (frzW h n) cs) := by simp only [frzW]; cases mapO (frzW h n) cs <;> rfl
@[simp] theorem frzW_sl (b z i len cap : Nat) (ex : Bool) : frzW h (n + 2) (.sl b z i len cap ex) = frzS h (n + 1) z i len cap ex (Pav.get h b) := by
 simp only [frzW, frzS]
 split
 · rename_i hg
   rw [hg]
   rename_i dt
   cases dt <;> rfl
 · rename_i hg
   split
   · rename_i h1; exact absurd h1 (hg _ _ _ _)
   · rename_i h1; exact absurd h1 (hg _ _ _ _)
   · rfl
@[simp] theorem frzW_ptr (b i o : Nat) : frzW h (n + 2) (.ptr b i o) = frzP h (n + 1) i o (Pav.get h b) := by
 simp only [frzW, frzP]
 split
 · rename_i hg
   rw [hg]
   rename_i es _ dt
   cases dt
   · simp only [Bool.false_eq_true, if_false]
     cases es[i]? with
     | none => rfl
     | some cs => simp only [ob]; cases mapO (frzW h (n + 1)) (cs.drop o) <;> rfl
   · rfl
 · rename_i hg
   split
   · rename_i h1; exact absurd h1 (hg _ _ _ _)
   · rename_i h1; exact absurd h1 (hg _ _ _ _)
   · rfl
@[simp] theorem reachW_ptr (b i o : Nat) : reachW h (n + 1) (.ptr b i o) = b :: reachP h n i o (Pav.get h b) := by
 simp only [reachW, reachP]
 congr 1
 split
 · rename_i hg
   rw [hg]
   rename_i dt
   cases dt <;> rfl
 · rename_i hg
   split
   · rename_i h1; exact absurd h1 (hg _ _ _ _)
   · rfl
@[simp] theorem reachW_bool (b : Bool) : reachW h (n + 1) (.bool b) = [] := rfl
@[simp] theorem reachW_int (k : IntKind) (x : Int) : reachW h (n + 1) (.int k x) = [] := rfl
@[simp] theorem reachW_str (s : List UInt8) : reachW h (n + 1) (.str s) = [] := rfl
@[simp] theorem reachW_nilp : reachW h (n + 1) .nilp = [] := rfl
@[simp] theorem reachW_nils : reachW h (n + 1) .nils = [] := rfl
@[simp] theorem reachW_nilm : reachW h (n + 1) .nilm = [] := rfl
@[simp] theorem reachW_nilf : reachW h (n + 1) .nilf = [] := rfl
@[simp] theorem reachW_ro (z : Nat) (es : List (List AV)) (ex : Bool) : reachW h (n + 1) (.ro z es ex) = [] := rfl
@[simp] theorem reachW_rop (cs : List AV) : reachW h (n + 1) (.rop cs) = [] := rfl
@[simp] theorem reachW_fn (f : Nat) (cs : List AV) : reachW h (n + 1) (.fn f cs) = cs.flatMap (reachW h n) := rfl
@[simp] theorem reachW_agg (cs : List AV) : reachW h (n + 1) (.agg cs) = cs.flatMap (reachW h n) := rfl
@[simp] theorem reachW_tup (cs : List AV) : reachW h (n + 1) (.tup cs) = cs.flatMap (reachW h n) := rfl
@[simp] theorem reachW_sl (b z i len cap : Nat) (ex : Bool) : reachW h (n + 1) (.sl b z i len cap ex) = b :: reachS h n i len (Pav.get h b) := by
 simp only [reachW, reachS]
 congr 1
 split
 · rename_i hg
   rw [hg]
   rename_i dt
   cases dt <;> rfl
 · rename_i hg
   split
   · rename_i h1; exact absurd h1 (hg _ _ _ _)
   · rfl
@[simp] theorem hasRefW_bool (b : Bool) : hasRefW (n + 1) (.bool b) = false := rfl
@[simp] theorem hasRefW_int (k : IntKind) (x : Int) : hasRefW (n + 1) (.int k x) = false := rfl
@[simp] theorem hasRefW_str (s : List UInt8) : hasRefW (n + 1) (.str s) = false := rfl
@[simp] theorem hasRefW_nilp : hasRefW (n + 1) .nilp = false := rfl
@[simp] theorem hasRefW_nils : hasRefW (n + 1) .nils = false := rfl
@[simp] theorem hasRefW_nilm : hasRefW (n + 1) .nilm = false := rfl
@[simp] theorem hasRefW_nilf : hasRefW (n + 1) .nilf = false := rfl
@[simp] theorem hasRefW_ro (z : Nat) (es : List (List AV)) (ex : Bool) : hasRefW (n + 1) (.ro z es ex) = true := rfl
@[simp] theorem hasRefW_rop (cs : List AV) : hasRefW (n + 1) (.rop cs) = true := rfl
@[simp] theorem hasRefW_fn (f : Nat) (cs : List AV) : hasRefW (n + 1) (.fn f cs) = cs.any (hasRefW n) := rfl
@[simp] theorem hasRefW_agg (cs : List AV) : hasRefW (n + 1) (.agg cs) = cs.any (hasRefW n) := rfl
@[simp] theorem hasRefW_tup (cs : List AV) : hasRefW (n + 1) (.tup cs) = cs.any (hasRefW n) := rfl
end
def imax (a b : Int) : Int := if b > a then b else a
def imin (a b : Int) : Int := if b < a then b else a
theorem imax_l {a b : Int} (h : b ≤ a) : imax a b = a := by unfold imax; rw [if_neg (by omega)]
theorem imax_r {a b : Int} (h : a ≤ b) : imax a b = b := by unfold imax; split <;> omega
def mxV : AV → AV → Option (AV × Upd)
 | .int k a, .int k' b => if k = k' then some (.int k (imax a b), []) else none
 | _, _ => none
def mnV : AV → AV → Option (AV × Upd)
 | .int k a, .int k' b => if k = k' then some (.int k (imin a b), []) else none
 | _, _ => none
@[simp] theorem sMx_eq (x y : Opd) (e : Env) (h : Heap) (n : Nat) : sMx x y e h n = mxV (x.ev e) (y.ev e) := rfl
@[simp] theorem sMn_eq (x y : Opd) (e : Env) (h : Heap) (n : Nat) : sMn x y e h n = mnV (x.ev e) (y.ev e) := rfl
attribute [simp] mxV mnV
@[simp] theorem canonF_nil (base : Nat) (cn : Bool) (lv : List Nat) (s : WSt) : canonF base ⟨cn, lv, []⟩ s = canon base ⟨cn, lv, []⟩ s := rfl
@[simp] theorem canonF_cons (base : Nat) (cn : Bool) (lv : List Nat) (p : Nat × Nat) (r : List (Nat × Nat)) (s : WSt) : canonF base ⟨cn, lv, p :: r⟩ s = ob (frzSlotsW (frzOf (p :: r)) s) (canon base ⟨cn, lv, p :: r⟩) := rfl
attribute [simp] frzOf frzSlotsW frzSlotW
attribute [simp] List.getElem?_cons_zero frzS reachS frzP reachP
attribute [simp] stepW wAlloc wBox boxedW wBuildS fillS wLoad wLoadOf wLoadAt loadC wStore wStoreOf wStoreAt splice wMkmap wMksl wLook wLookIn found wUpd wUpdIn wRange wNext wNextIter wLen wEvLen wLenMap wElems wNewRow wAppSl
 wCopyTo wCopyIn wClr wClrIn wClrTo sMv sPick sBuild fillC sNilchk sBin evBin binInt binStr isShift shiftInt sEqv eqVals eqFn eqPtr eqMap eqAgg eqCells eqBool wEqSl keyOk eqCell sUn evUn sCvt sCvs sCvb evCvb sMkfn sSlice evSlice wSliceA wSliceOf wSliceAt sliceArr sliceRo sliceSl sliceNil sliceStr bound oev
 sFld sFldv sIdxs idxsAt sIdxa idxaAt sIdxstr sIdxv sExt sCap evCap AV.cells AV.cell isC isD Pav.get Pav.put setD setE applyW updOneW del readsOf ptrId canon noRen canonG growAll growOne keepL_nil keepL_cons keepN dropLt newNum place close
 envRefs oldRefs refs refsL objRefs markFrozenW marksW hasPtr hasPtrL resultsW tupled fnEndW pureFin argW frzDepth putE maxBytes mapGet mapPut apartR clashR quietR meets
def rep {α : Type} (n : Nat) (a : α) : List α := List.replicate n a
section
variable {α β : Type} (n : Nat) (a : α)
@[simp] theorem rep_length : (rep n a).length = n := List.length_replicate
@[simp] theorem rep_map (f : α → β) : List.map f (rep n a) = rep n (f a) := List.map_replicate
@[simp] theorem rep_all (p : α → Bool) : (rep (n + 1) a).all p = p a := by
 unfold rep; rw [List.all_replicate]; simp
@[simp] theorem rep_getElem {i : Nat} (h : i < (rep n a).length) : (rep n a)[i] = a := by
 unfold rep; exact List.getElem_replicate _
@[simp] theorem rep_take_self : List.take n (rep n a) = rep n a := List.take_of_length_le (by simp)
@[simp] theorem rep_cons (n : Nat) : (rep (n + 1) a).isEmpty = false := rfl
end
end Go.Pw
end
section
set_option linter.unusedSimpArgs false
set_option linter.unusedVariables false
namespace Go.Pw
open Go Go.Pav
inductive ZO where
 | p (d : Option (Option Nat)) (g : Option (Nat × Bool)) (x : COp)
def zt : List Nat → List Opd
 | [] => []
 | a :: r => .t a :: zt r
namespace Z
def y (s : Nat) : ZO → ZO
 | .p d _ x => .p d (some (s, true)) x
def z (s : Nat) : ZO → ZO
 | .p d _ x => .p d (some (s, false)) x
def d (k : Nat) : ZO → ZO
 | .p _ g x => .p (some (some k)) g x
def n : ZO → ZO
 | .p _ g x => .p (some none) g x
def m (a : Nat) : ZO := .p none none (.mv (.t a))
def i (k : Int) : ZO := .p none none (.mv (.c (.int .i64 k)))
def l (k a : Nat) : ZO := .p none none (.load k false (.t a))
def h (k a : Nat) : ZO := .p none none (.load k true (.t a))
def f (o a : Nat) : ZO := .p none none (.fld o (.t a))
def po (a b : Nat) : ZO := .p none none (.pick (.t a) (.c (.bool true)) (.t b))
def pa (a b : Nat) : ZO := .p none none (.pick (.t a) (.t b) (.c (.bool false)))
def ln (k a : Nat) : ZO := .p none none (.len k (.t a))
def ix (k a b : Nat) : ZO := .p none none (.idxs k (.t a) (.t b))
def ex (k a : Nat) : ZO := .p none none (.ext k (.t a))
def nk (a : Nat) : ZO := .p none none (.nilchk (.t a))
def bx (a : Nat) : ZO := .p none none (.box (.t a))
def nt (a : Nat) : ZO := .p none none (.un .not (.t a))
def st (k a b : Nat) : ZO := .p none none (.store k (.t a) (.t b))
def E (x : COp) : ZO := .p none none x
def tt : ZO := .p none none (.mv (.c (.bool true)))
def ff : ZO := .p none none (.mv (.c (.bool false)))
def ca (g : Nat) (q : List Nat) : ZO := .p none none (.call g (zt q))
def eq (a b : Nat) : ZO := .p none none (.bin .eql (.t a) (.t b))
def eqi (a : Nat) (k : Int) : ZO := .p none none (.bin .eql (.t a) (.c (.int .i64 k)))
def ne (a b : Nat) : ZO := .p none none (.bin .neq (.t a) (.t b))
def nei (a : Nat) (k : Int) : ZO := .p none none (.bin .neq (.t a) (.c (.int .i64 k)))
def lt (a b : Nat) : ZO := .p none none (.bin .lss (.t a) (.t b))
def lti (a : Nat) (k : Int) : ZO := .p none none (.bin .lss (.t a) (.c (.int .i64 k)))
def le (a b : Nat) : ZO := .p none none (.bin .leq (.t a) (.t b))
def lei (a : Nat) (k : Int) : ZO := .p none none (.bin .leq (.t a) (.c (.int .i64 k)))
def gt (a b : Nat) : ZO := .p none none (.bin .gtr (.t a) (.t b))
def gti (a : Nat) (k : Int) : ZO := .p none none (.bin .gtr (.t a) (.c (.int .i64 k)))
def ge (a b : Nat) : ZO := .p none none (.bin .geq (.t a) (.t b))
def gei (a : Nat) (k : Int) : ZO := .p none none (.bin .geq (.t a) (.c (.int .i64 k)))
def ad (a b : Nat) : ZO := .p none none (.bin .add (.t a) (.t b))
def adi (a : Nat) (k : Int) : ZO := .p none none (.bin .add (.t a) (.c (.int .i64 k)))
def sb (a b : Nat) : ZO := .p none none (.bin .sub (.t a) (.t b))
def sbi (a : Nat) (k : Int) : ZO := .p none none (.bin .sub (.t a) (.c (.int .i64 k)))
end Z
def zo : Nat → List ZO → List COper
 | _, [] => []
 | k, .p none g x :: r => ⟨some k, g, x⟩ :: zo (k + 1) r
 | k, .p (some j) g x :: r => ⟨j, g, x⟩ :: zo k r
inductive ZC where
 | O (k : Nat) (l : List ZO)
 | Q (k : Nat) (l : List ZO) (s : List Nat)
 | R (k : Nat) (l : List ZO) (a : Ann)
 | U (k : Nat) (l : List ZO) (u : List (Nat × Nat)) (s : List Nat)
 | V (k : Nat) (l : List ZO) (u : List (Nat × Nat)) (a : Ann)
 | s (a b : ZC)
 | r (a : ZC)
 | c (t : Nat) (a : ZC)
 | cc (t : Nat) (a b : ZC)
 | cd (x : Opd) (a b : ZC)
 | B (j : Nat) (a : ZC)
 | bk (j : Nat) (a : ZC) (x : Ann)
 | lp (x : Ann) (a : ZC)
 | ee (j : Nat)
 | w (x : WCode)
instance : Coe WCode ZC := ⟨.w⟩
def zc : ZC → WCode
 | .O k l => .ops (zo k l) ⟨false, [], []⟩
 | .Q k l s => .ops (zo k l) ⟨true, s, []⟩
 | .R k l a => .ops (zo k l) a
 | .U k l u s => .draw (zo k l) u ⟨true, s, []⟩
 | .V k l u a => .draw (zo k l) u a
 | .s a b => .seq (zc a) (zc b)
 | .r a => .seq (zc a) .ret
 | .c t a => .cond (.t t) (zc a) .skip
 | .cc t a b => .cond (.t t) (zc a) (zc b)
 | .cd x a b => .cond x (zc a) (zc b)
 | .B j a => .block j (zc a) ⟨false, [], []⟩
 | .bk j a x => .block j (zc a) x
 | .lp x a => .loop x (zc a)
 | .ee j => .exit j
 | .w x => x
abbrev T (a : Nat) : Opd := .t a
abbrev N (n : Int) : Opd := .c (.int .i64 n)
abbrev zd (x : ZC) {y : WCode} (_h : zc x = y := by dsimp only [zc, zo, zt, T, N, Z.y, Z.z, Z.d, Z.n, Z.m, Z.i, Z.l, Z.h, Z.f, Z.po, Z.pa, Z.ln, Z.ix, Z.ex, Z.nk, Z.bx, Z.nt, Z.st, Z.E, Z.tt, Z.ff, Z.ca, Z.eq, Z.eqi, Z.ne, Z.nei, Z.lt, Z.lti, Z.le, Z.lei, Z.gt, Z.gti, Z.ge, Z.gei, Z.ad, Z.adi, Z.sb, Z.sbi]) : WCode := y
abbrev ZL (L B : WCode) (a : Ann) : Prop := ∀ {β : Type} {C : WProg} {b : Nat} {f : Ex × WSt → Option β} {k : List Pw.Frame} {s : WSt}, CK C b f k L s = LK C b f (.sq L :: k) B (canon b a s)
end Go.Pw
end
section
set_option linter.unusedSimpArgs false
set_option linter.unusedVariables false
set_option maxRecDepth 100000
namespace P
open Go Go.Pav Go.Pw Go.Pw.Z Go.Pw.ZC
def w0 : WFn := ⟨0,[],zd (O 0 [E .fail])⟩
def w156 : WFn := ⟨3,[.tmp 6],zd (s (O 5 [d 3 (bx 0),bx 2,ff]) (s (s (O 25 [f 1 5,f 0 25,f 2 26,l 1 27,ln 0 28,gti 29 70,m 30,z 31 (f 1 5),z 31 (f 0 32),z 31 (f 3 33),z 31 (l 1 34),z 31 (ln 1 35),z 31 (gti 36 0),po 31 37]) (c 38 (r (O 39 [ca 157 [],d 6 (m 39)])))) (s (Q 41 [h 3 3,ca 2003 [41],d 40 (m 42),ex 0 40,ex 1 40,d 7 (E (.alloc [.ro 9 [] true,.int .i64 0])),d 8 (E (.alloc [.ro 6 [] true])),n (st 2 7 43),n (st 1 8 44)] [8,7,5,1]) (s (s (O 45 [f 0 5,l 1 45,m 46,y 47 (f 0 8),y 47 (l 1 48),y 47 (ln 1 49),y 47 (gti 50 0),pa 47 51]) (c 52 (O 53 [f 0 8,l 1 53,f 0 8,l 1 55,ln 1 56,E (.bin .quo (T 57) (N 2)),f 1 5,h 6 59,ix 6 54 58,n (st 6 61 60)]))) (s (Q 62 [h 2 7,f 0 8,l 1 63,m 1,ca 147 [62,64,65],d 9 (m 66)] [9,8,7,1]) (s (O 68 [h 2 7,h 1 8,m 1,ca 148 [68,69,70],d 67 (m 71),ex 0 67,ex 1 67,ex 2 67,d 10 (m 72),d 11 (m 73),d 12 (m 74)]) (s (O 76 [h 2 7,h 1 8,m 1,ca 310 [76,77,78],d 75 (m 79),ex 0 75,ex 1 75,ex 2 75,d 13 (m 80),d 14 (m 81),d 15 (m 82)]) (s (Q 84 [h 2 7,h 1 8,m 1,ca 150 [84,85,86],d 83 (m 87),ex 0 83,ex 1 83,d 16 (m 88),d 17 (m 89)] [17,16,15,14,13,12,11,10,9,8,7,1]) (s (O 91 [h 2 7,h 1 8,ca 305 [91,92],d 90 (m 93),ex 0 90,ex 1 90,d 18 (m 94),d 19 (m 95)]) (s (O 97 [h 2 7,h 1 8,ca 152 [97,98],d 96 (m 99),ex 0 96,ex 1 96,d 20 (m 100),d 21 (m 101)]) (s (Q 102 [h 2 7,f 0 8,l 1 103,ca 235 [102,104],d 22 (m 105)] [22,21,20,19,18,17,16,15,14,13,12,11,10,9,8,7,1]) (s (s (O 106 [m 12,m 9,ne 106 107,m 108,z 109 (m 15),z 109 (m 9),z 109 (ne 110 111),po 109 112,m 113,z 114 (m 19),z 114 (m 22),z 114 (ne 115 116),po 114 117,m 118,z 119 (m 21),z 119 (m 22),z 119 (ne 120 121),po 119 122]) (c 123 (r (O 6 [ff])))) (s (s (O 124 [m 22,nei 124 0]) (c 125 (r (Q 126 [m 17,m 22,eq 126 127,m 128,y 129 (m 10),y 129 (eqi 130 0),pa 129 131,m 132,y 133 (m 11),y 133 (nt 134),pa 133 135,m 136,y 137 (m 13),y 137 (eqi 138 0),pa 137 139,m 140,y 141 (m 14),y 141 (nt 142),pa 141 143,m 144,y 145 (m 16),y 145 (eqi 146 0),pa 145 147,m 148,y 149 (m 18),y 149 (ln 1 150),y 149 (m 20),y 149 (ln 1 152),y 149 (ad 151 153),y 149 (eqi 154 0),pa 149 155,m 156,y 157 (ca 157 []),pa 157 158,d 6 (m 159)] [6])))) (s (s (U 160 [m 18,h 2 7,f 0 8,l 1 162,ca 308 [161,163],ca 136 [160,164],m 20,h 2 7,f 0 8,l 1 168,ca 154 [167,169],ca 153 [166,170],E (.bin .mul (T 165) (T 171)),eqi 172 0,m 173,z 174 (m 18),z 174 (E (.cap (T 175))),z 174 (m 18),z 174 (ln 1 177),z 174 (ne 176 178),po 174 179,m 180,z 181 (m 20),z 181 (E (.cap (T 182))),z 181 (m 20),z 181 (ln 1 184),z 181 (ne 183 185),po 181 186] [(4,7),(5,7),(4,9),(5,9)] [187,17,16,14,13,11,10,9,8,7,1]) (c 187 (r (O 6 [ff])))) (s (s (O 188 [m 9,nei 188 0]) (c 189 (r (Q 190 [m 17,m 9,eq 190 191,m 192,y 193 (m 10),y 193 (eqi 194 0),pa 193 195,m 196,y 197 (m 11),y 197 (nt 198),pa 197 199,m 200,y 201 (m 13),y 201 (eqi 202 0),pa 201 203,m 204,y 205 (m 14),y 205 (nt 206),pa 205 207,m 208,y 209 (m 16),y 209 (eqi 210 0),pa 209 211,m 212,y 213 (ca 157 []),pa 213 214,d 6 (m 215)] [6])))) (s (O 216 [h 2 7,f 0 8,l 1 217,m 1,ca 149 [216,218,219],d 23 (m 220)]) (s (O 221 [h 2 7,f 0 8,l 1 222,m 1,ca 311 [221,223,224],d 24 (m 225)]) (s (s (Q 226 [m 11,m 23,gei 227 0,E (.eqv 5 [] true (T 226) (T 228)),m 229,z 230 (m 10),z 230 (m 23),z 230 (E (.mx (T 232) (N 0))),z 230 (ne 231 233),po 230 234,m 235,z 236 (m 14),z 236 (m 24),z 236 (gei 238 0),z 236 (E (.eqv 5 [] true (T 237) (T 239))),po 236 240,m 241,z 242 (m 13),z 242 (m 24),z 242 (E (.mx (T 244) (N 0))),z 242 (ne 243 245),po 242 246] [247,23,17,16,8,7,1]) (c 247 (r (O 6 [ff])))) (s (s (O 248 [m 23,lti 248 0]) (c 249 (r (Q 250 [m 17,eqi 250 11,m 251,y 252 (m 16),y 252 (eqi 253 0),pa 252 254,m 255,y 256 (ca 157 []),pa 256 257,d 6 (m 258)] [6])))) (r (O 259 [m 17,eqi 259 0,m 260,y 261 (m 16),y 261 (h 2 7),y 261 (f 0 8),y 261 (l 1 264),y 261 (m 1),y 261 (m 23),y 261 (ca 151 [263,265,266,267]),y 261 (eq 262 268),pa 261 269,m 270,y 271 (ca 157 []),pa 271 272,d 6 (m 273)])))))))))))))))))))))⟩
def w155_c0 : WCode := zd (s (s (O 123 [m 11,h 1 6,ca 111 [124],ne 123 125]) (c 126 (r (O 4 [ff])))) (s (Q 128 [h 2 5,h 1 6,m 7,m 8,ca 125 [128,129,130,131],d 127 (m 132),ex 0 127,ex 1 127,d 16 (E (.alloc [.int .i64 0,.ro 9 [] true,.bool false,.int .u64 0,.int .i64 0,.int .i64 0,.int .u8 0,.str [],.str [],.ro 2 [] true,.str [],.ro 6 [] true])),n (st 12 16 133),d 17 (m 134)] [17,16,9,7,6]) (s (O 136 [m 9,m 7,ca 309 [136,137],d 135 (m 138),ex 0 135,ex 1 135,d 18 (E (.alloc [.int .i64 0,.int .i64 0,.int .i64 0,.int .i64 0])),n (st 4 18 139),d 19 (m 140)]) (s (s (O 141 [m 17,nei 141 0,m 142,z 143 (m 19),z 143 (eqi 144 0),z 143 (f 0 6),z 143 (l 1 146),z 143 (ln 1 147),z 143 (gti 148 0),z 143 (E (.eqv 5 [] true (T 145) (T 149))),po 143 150]) (c 151 (r (O 4 [ff])))) (s (s (O 152 [m 19,nei 152 0]) (c 153 (r (Q 154 [f 2 16,l 1 154,nt 155,m 156,y 157 (ca 157 []),pa 157 158,d 4 (m 159)] [4])))) (s (s (O 160 [f 2 16,l 1 160,nt 161]) (c 162 (r (O 163 [f 0 18,l 1 163,eqi 164 (-1),m 165,y 166 (ca 157 []),pa 166 167,d 4 (m 168)])))) (s (O 20 [i 0]) (s (s (O 169 [m 7,f 3 18,l 1 170,ge 169 171]) (c 172 (O 173 [f 3 18,l 1 173,sbi 174 1,m 7,sb 175 176,d 20 (m 177)]))) (r (U 178 [f 0 18,l 1 178,gei 179 0,m 180,y 181 (f 0 6),y 181 (l 1 182),y 181 (f 0 18),y 181 (l 1 184),y 181 (ix 6 183 185),y 181 (f 0 186),y 181 (f 0 187),y 181 (l 1 188),y 181 (f 3 16),y 181 (f 0 190),y 181 (l 1 191),y 181 (eq 189 192),pa 181 193,m 194,y 195 (f 3 16),y 195 (f 1 196),y 195 (l 1 197),y 195 (m 20),y 195 (eq 198 199),pa 195 200,m 201,y 202 (ca 157 []),pa 202 203,d 4 (m 204)] [] [4]))))))))))
def w155_B0 : WCode := zd (s (s (O 40 [m 12,m 9,ln 1 41,lt 40 42]) (cc 43 (w .skip) (ee 0))) (s (B 1 (s (O 46 [m 9,m 12,ix 4 46 47,h 4 48,d 13 (E (.alloc [.int .i64 0,.int .i64 0,.int .i64 0,.int .i64 0])),n (st 4 13 49)]) (s (s (Q 50 [f 1 13,l 1 50,m 11,ne 51 52,m 53,z 54 (f 2 13),z 54 (l 1 55),z 54 (f 1 13),z 54 (l 1 57),z 54 (le 56 58),po 54 59,m 60,z 61 (f 3 13),z 61 (l 1 62),z 61 (f 1 13),z 61 (l 1 64),z 61 (le 63 65),po 61 66,m 67,z 68 (f 3 13),z 68 (l 1 69),z 68 (f 2 13),z 68 (l 1 71),z 68 (gt 70 72),po 68 73,m 74,z 75 (f 0 13),z 75 (l 1 76),z 75 (lti 77 0),z 75 (m 12),z 75 (eqi 79 0),z 75 (m 80),y 81 (f 0 13),y 81 (l 1 82),y 81 (eqi 83 (-1)),z 75 (pa 81 84),z 75 (E (.eqv 5 [] true (T 78) (T 85))),po 75 86] [87,13,12,9,8,7,6,5]) (c 87 (r (O 4 [ff])))) (s (O 88 [f 2 13,l 1 88,d 11 (m 89)]) (s (O 90 [f 0 13,l 1 90,gei 91 0,m 92,y 93 (m 12),y 93 (adi 94 1),y 93 (m 9),y 93 (ln 1 96),y 93 (lt 95 97),pa 93 98]) (c 99 (s (Q 101 [h 2 5,h 1 6,f 2 13,l 1 103,sbi 104 1,ca 150 [101,102,105],d 100 (m 106),ex 0 100,ex 1 100,d 14 (m 107),d 15 (m 108)] [15,14,13,12,11,9,8,7,6,5]) (s (O 109 [m 15,nei 109 0,m 110,z 111 (m 14),z 111 (f 0 6),z 111 (l 1 113),z 111 (f 0 13),z 111 (l 1 115),z 111 (ix 6 114 116),z 111 (f 4 117),z 111 (l 1 118),z 111 (E (.bin .sub (N 1) (T 119))),z 111 (ne 112 120),po 111 121]) (c 122 (r (O 4 [ff]))))))))))) (O 44 [m 12,adi 44 1,d 12 (m 45)])))
def w155_L0 : WCode := .loop ⟨true,[12,11,9,8,7,6,5],[]⟩ w155_B0
def w155 : WFn := ⟨2,[.tmp 4],zd (s (O 2 [bx 0,bx 1,ff]) (s (O 22 [h 3 2,ca 130 [22],d 21 (m 23),ex 0 21,ex 1 21,d 5 (E (.alloc [.ro 9 [] true,.int .i64 0])),d 6 (E (.alloc [.ro 6 [] true])),n (st 2 5 24),n (st 1 6 25)]) (s (Q 27 [h 2 3,h 1 6,ca 256 [27,28],d 26 (m 29),ex 0 26,ex 1 26,d 7 (m 30),d 8 (m 31)] [8,7,6,5]) (s (O 33 [h 2 5,h 1 6,ca 152 [33,34],d 32 (m 35),ex 0 32,ex 1 32,d 9 (m 36),d 10 (m 37)]) (s (s (O 38 [m 10,nei 38 0]) (c 39 (r (O 4 [ff])))) (s (O 11 [i 0]) (s (s (O 12 [i 0]) (bk 0 w155_L0 ⟨true,[11,9,8,7,6,5],[]⟩)) w155_c0)))))))⟩
@[simp] theorem w155_E0 : ZL w155_L0 w155_B0 ⟨true,[12,11,9,8,7,6,5],[]⟩ := ck_lp rfl
noncomputable abbrev w155_K0 (C : WProg) (s : WSt) : Option AV := CK C 0 (pureFin [.tmp 4]) [.sq w155_L0,.bk 0 ⟨true,[11,9,8,7,6,5],[]⟩,.sq w155_c0] w155_B0 s
def w89_c0 : WCode := zd (s (Q 166 [h 2 1,E (.build [.ro 6 [] true] []),ca 2008 [166,167],d 165 (m 168),ex 0 165,ex 1 165,d 16 (m 169),d 17 (m 170)] [17,16,1]) (s (O 172 [h 2 1,E (.build [.ro 6 [] true] []),E (.call 148 [T 172,T 173,N 0]),d 171 (m 174),ex 0 171,ex 1 171,ex 2 171,d 18 (m 175),d 19 (m 176),d 20 (m 177)]) (s (O 179 [h 2 1,E (.build [.ro 6 [] true] []),E (.call 148 [T 179,T 180,N 1]),d 178 (m 181),ex 0 178,ex 1 178,ex 2 178,d 21 (m 182),d 22 (m 183),d 23 (m 184)]) (r (Q 185 [m 17,eqi 185 0,m 186,y 187 (m 16),y 187 (ln 1 188),y 187 (eqi 189 0),pa 187 190,m 191,y 192 (m 20),y 192 (eqi 193 0),pa 192 194,m 195,y 196 (m 19),y 196 (nt 197),pa 196 198,m 199,y 200 (m 18),y 200 (eqi 201 0),pa 200 202,m 203,y 204 (m 23),y 204 (eqi 205 4),pa 204 206,m 207,y 208 (ca 157 []),pa 208 209,d 0 (m 210)] [0])))))
def w89_B0 : WCode := zd (s (s (O 148 [m 15,lti 148 60]) (cc 149 (w .skip) (ee 6))) (s (B 7 (s (O 152 [h 3 14,m 15,E (.cvt .u16 (T 153)),E (.build [.int .u8 0,.int .u16 0] [(0,1,.c (.int .u8 5)),(1,1,T 154)]),ca 155 [152,155],nt 156,m 157,z 158 (h 3 14),z 158 (m 15),z 158 (E (.build [.bool false,.int .u64 0,.int .u8 0,.str [],.ro 1 [] true,.int .i64 0,.bool false] [])),z 158 (ca 156 [159,160,161]),z 158 (nt 162),po 158 163]) (c 164 (r (O 0 [ff]))))) (O 150 [m 15,adi 150 1,d 15 (m 151)])))
def w89_L0 : WCode := .loop ⟨true,[15,14,1],[]⟩ w89_B0
def w89_c1 : WCode := zd (s (Q 138 [E (.build [.int .u8 0,.int .u8 0,.int .u8 0,.int .u8 0] [(0,1,.c (.int .u8 1)),(1,1,.c (.int .u8 1)),(2,1,.c (.int .u8 1)),(3,1,.c (.int .u8 0))]),E (.build [.int .u8 0,.int .u8 0,.int .u8 0,.int .u8 0] [(0,1,.c (.int .u8 2)),(1,1,.c (.int .u8 0)),(2,1,.c (.int .u8 2)),(3,1,.c (.int .u8 1))]),E (.build [.int .u8 0,.int .u8 0,.int .u8 0,.int .u8 0] [(0,1,.c (.int .u8 3)),(1,1,.c (.int .u8 2)),(2,1,.c (.int .u8 3)),(3,1,.c (.int .u8 2))]),E (.build [.int .u8 0,.int .u8 0,.int .u8 0,.int .u8 0] [(0,1,.c (.int .u8 4)),(1,1,.c (.int .u8 1)),(2,1,.c (.int .u8 4)),(3,1,.c (.int .u8 3))]),E (.build [.int .u8 0,.int .u8 0,.int .u8 0,.int .u8 0] [(0,1,.c (.int .u8 5)),(1,1,.c (.int .u8 0)),(2,1,.c (.int .u8 5)),(3,1,.c (.int .u8 0))]),E (.build [.int .u8 0,.int .u8 0,.int .u8 0,.int .u8 0] [(0,1,.c (.int .u8 6)),(1,1,.c (.int .u8 1)),(2,1,.c (.int .u8 6)),(3,1,.c (.int .u8 0))]),E (.buildS [.int .u8 0,.int .u8 0,.int .u8 0,.int .u8 0] 6 [(0,T 138),(1,T 139),(2,T 140),(3,T 141),(4,T 142),(5,T 143)]),E (.build [.ro 4 [] true] [(0,1,T 144)]),E (.buildS [.int .u8 0] 6 [(0,.c (.int .u8 8)),(1,.c (.int .u8 11)),(2,.c (.int .u8 0)),(3,.c (.int .u8 3)),(4,.c (.int .u8 6)),(5,.c (.int .u8 9))]),E (.build [.ro 4 [] true,.ro 1 [] true,.int .u8 0] [(0,1,T 145),(1,1,T 146)]),d 14 (E (.alloc [.ro 4 [] true,.ro 1 [] true,.int .u8 0])),n (st 3 14 147)] [14,1]) (s (s (O 15 [i 0]) (bk 6 w89_L0 ⟨true,[1],[]⟩)) w89_c0))
def w89_c2 : WCode := zd (O 30 [m 3,adi 30 1,d 3 (m 31)])
def w89_c3 : WCode := zd (s (O 122 [h 2 1,h 1 2,ca 2008 [122,123],d 121 (m 124),ex 0 121,ex 1 121,d 12 (m 125),d 13 (m 126)]) (s (O 127 [m 13,nei 127 0,m 128,z 129 (m 12),z 129 (h 2 1),z 129 (f 0 2),z 129 (l 1 132),z 129 (ca 2013 [131,133]),z 129 (ca 153 [130,134]),z 129 (eqi 135 0),po 129 136]) (c 137 (r (O 0 [ff])))))
def w89_B2 : WCode := zd (s (s (O 56 [m 5,lti 56 9]) (cc 57 (w .skip) (ee 4))) (s (B 5 (s (O 60 [h 2 1,f 0 2,l 1 61,m 5,ca 147 [60,62,63],d 6 (m 64)]) (s (O 66 [h 2 1,h 1 2,m 5,ca 148 [66,67,68],d 65 (m 69),ex 0 65,ex 1 65,ex 2 65,d 7 (m 70),d 8 (m 71),d 9 (m 72)]) (s (s (Q 73 [m 9,m 6,ne 73 74,m 75,z 76 (m 6),z 76 (nei 77 0),z 76 (m 78),y 79 (m 8),y 79 (m 80),z 81 (m 7),z 81 (nei 82 0),y 79 (po 81 83),z 76 (pa 79 84),po 76 85,m 86,z 87 (m 6),z 87 (eqi 88 0),z 87 (m 89),y 90 (m 8),y 90 (h 2 1),y 90 (f 0 2),y 90 (l 1 93),y 90 (m 5),y 90 (ca 149 [92,94,95]),y 90 (gei 96 0),y 90 (E (.eqv 5 [] true (T 91) (T 97))),z 87 (pa 90 98),po 87 99] [100,8,7,5,3,2,1]) (c 100 (r (Q 0 [ff] [0])))) (s (O 101 [m 8]) (c 101 (s (O 103 [h 2 1,h 1 2,m 5,ca 150 [103,104,105],d 102 (m 106),ex 0 102,ex 1 102,d 10 (m 107),d 11 (m 108)]) (s (O 109 [m 11,nei 109 0,m 110,z 111 (m 10),z 111 (h 2 1),z 111 (f 0 2),z 111 (l 1 114),z 111 (m 5),z 111 (m 7),z 111 (ca 151 [113,115,116,117]),z 111 (ne 112 118),po 111 119]) (c 120 (r (O 0 [ff]))))))))))) (Q 58 [m 5,adi 58 1,d 5 (m 59)] [5,3,2,1])))
def w89_L2 : WCode := .loop ⟨true,[5,3,2,1],[]⟩ w89_B2
def w89_c4 : WCode := zd (s (s (O 5 [i (-1)]) (bk 4 w89_L2 ⟨true,[3,2,1],[]⟩)) w89_c3)
def w89_B3 : WCode := zd (s (s (O 32 [m 4,lti 32 4]) (cc 33 (w .skip) (ee 2))) (s (B 3 (s (V 36 [f 0 2,l 1 36,m 4,m 3,m 4,E (.bin .shr (T 39) (T 40)),E (.bin .rem (T 41) (N 2)),E (.cvt .u8 (T 42)),ix 6 37 38,f 0 44,f 1 45,n (st 1 46 43)] [] ⟨false,[],[]⟩) (U 47 [f 0 2,l 1 47,m 4,E (.buildS [.int .i64 0] 4 [(0,N 1),(1,N 2),(2,N 1),(3,N 3)]),m 4,ix 1 50 51,l 1 52,ix 6 48 49,f 4 54,n (st 1 55 53)] [(1,3)] [4,3,2,1]))) (O 34 [m 4,adi 34 1,d 4 (m 35)])))
def w89_L3 : WCode := .loop ⟨true,[4,3,2,1],[]⟩ w89_B3
def w89_B1 : WCode := zd (s (s (O 28 [m 3,lti 28 16]) (cc 29 (w .skip) (ee 0))) (s (bk 1 (s (s (O 4 [i 0]) (bk 2 w89_L3 ⟨true,[3,2,1],[]⟩)) w89_c4) ⟨true,[3,2,1],[]⟩) w89_c2))
def w89_L1 : WCode := .loop ⟨true,[3,2,1],[]⟩ w89_B1
def w89 : WFn := ⟨0,[.tmp 0],zd (s (O 0 [ff]) (s (Q 25 [ca 2007 [],d 24 (m 25),ex 0 24,ex 1 24,d 1 (E (.alloc [.ro 9 [] true,.int .i64 0])),d 2 (E (.alloc [.ro 6 [] true])),n (st 2 1 26),n (st 1 2 27)] [2,1]) (s (s (O 3 [i 0]) (bk 0 w89_L1 ⟨true,[1],[]⟩)) w89_c1)))⟩
@[simp] theorem w89_E0 : ZL w89_L0 w89_B0 ⟨true,[15,14,1],[]⟩ := ck_lp rfl
@[simp] theorem w89_E2 : ZL w89_L2 w89_B2 ⟨true,[5,3,2,1],[]⟩ := ck_lp rfl
@[simp] theorem w89_E3 : ZL w89_L3 w89_B3 ⟨true,[4,3,2,1],[]⟩ := ck_lp rfl
@[simp] theorem w89_E1 : ZL w89_L1 w89_B1 ⟨true,[3,2,1],[]⟩ := ck_lp rfl
def w130_c0 : WCode := zd (r (V 68 [h 2 4,h 1 6,n (st 2 2 68),n (st 1 3 69)] [(1,2)] ⟨false,[],[]⟩))
def w130_B0 : WCode := zd (s (s (O 17 [m 7,m 5,ln 1 18,lt 17 19]) (cc 20 (w .skip) (ee 0))) (s (B 1 (s (s (V 23 [h 2 4,m 5,m 7,ix 4 24 25,h 4 26,E (.call 271 [T 23,T 27,N 0]),gti 28 0] [] ⟨false,[],[]⟩) (c 29 (ee 1))) (s (U 30 [h 2 4,m 5,m 7,ix 4 31 32,h 4 33,ca 240 [30,34],d 8 (E (.alloc [.int .u64 0,.int .u8 0,.str [],.ro 1 [] true,.int .i64 0,.bool false])),n (st 6 8 35)] [(0,6),(4,6),(5,6)] [8,7,6,5,4,3,2,1]) (s (s (O 36 [f 0 6,l 1 36,ln 1 37,d 9 (m 38)]) (s (O 39 [m 9,f 1 1,l 1 40,ln 1 41,lt 39 42,m 43,y 44 (f 1 1),y 44 (l 1 45),y 44 (m 9),y 44 (ix 1 46 47),y 44 (l 1 48),y 44 (E (.bin .gtr (T 49) (.c (.int .u8 0)))),pa 44 50]) (c 51 (s (Q 52 [f 1 1,l 1 52,m 9,ix 1 53 54,l 1 55,E (.bin .rem (T 56) (.c (.int .u8 40))),E (.cvt .i64 (T 57)),E (.bin .add (N 1) (T 58)),f 4 8,n (st 1 60 59)] [8,7,6,5,4,3,2,1]) (O 61 [f 5 8,n (E (.store 1 (T 61) (.c (.bool true))))]))))) (O 62 [f 0 6,l 1 62,h 6 8,E (.buildS [.int .u64 0,.int .u8 0,.str [],.ro 1 [] true,.int .i64 0,.bool false] 1 [(0,T 64)]),E (.app [.int .u64 0,.int .u8 0,.str [],.ro 1 [] true,.int .i64 0,.bool false] 72 false (T 63) (T 65)),f 0 6,n (st 1 67 66)]))))) (O 21 [m 7,adi 21 1,d 7 (m 22)])))
def w130_L0 : WCode := .loop ⟨true,[7,6,5,4,3,2,1],[]⟩ w130_B0
def w130 : WFn := ⟨1,[.cell 2 2 true,.cell 3 1 true],zd (s (Q 1 [bx 0,E (.alloc [.ro 9 [] true,.int .i64 0]),E (.alloc [.ro 6 [] true])] [3,2,1]) (s (O 10 [f 2 1,l 1 10,ca 126 [11],E (.build [.ro 9 [] true,.int .i64 0] [(0,1,T 12),(1,1,N 12)]),d 4 (E (.alloc [.ro 9 [] true,.int .i64 0])),n (st 2 4 13)]) (s (O 14 [f 0 1,h 1 14,ca 270 [15],d 5 (m 16)]) (s (O 6 [E (.alloc [.ro 6 [] true])]) (s (s (O 7 [i 0]) (bk 0 w130_L0 ⟨true,[6,4,3,2],[]⟩)) w130_c0)))))⟩
@[simp] theorem w130_E0 : ZL w130_L0 w130_B0 ⟨true,[7,6,5,4,3,2,1],[]⟩ := ck_lp rfl
noncomputable abbrev w130_K0 (C : WProg) (s : WSt) : Option AV := CK C 0 (pureFin [.cell 2 2 true,.cell 3 1 true]) [.sq w130_L0,.bk 0 ⟨true,[6,4,3,2],[]⟩,.sq w130_c0] w130_B0 s
def w235_c0 : WCode := zd (r (O 82 [m 1,ca 407 [82],d 4 (m 83)]))
def w235_B0 : WCode := zd (s (s (O 13 [m 5,m 1,ln 1 14,lt 13 15]) (cc 16 (w .skip) (ee 0))) (s (B 1 (s (U 19 [h 2 2,m 1,m 5,ix 6 20 21,f 0 22,h 4 23,m 1,m 5,E (.slice 6 (T 25) none (some (T 26)) none),m 1,m 5,ix 6 28 29,f 0 30,f 0 31,l 1 32,ca 239 [27,33],gei 34 0,ca 406 [35],ca 271 [19,24,36],d 6 (m 37)] [(0,15),(5,15),(0,17),(5,17)] [6,5,2,1]) (s (s (O 38 [m 6,gti 38 0]) (c 39 (r (O 40 [m 6,d 4 (m 40)])))) (s (U 41 [m 1,m 5,ix 6 41 42,f 4 43,l 1 44,lti 45 1,m 46,z 47 (m 1),z 47 (m 5),z 47 (ix 6 48 49),z 47 (f 4 50),z 47 (l 1 51),z 47 (gti 52 2305843009213693952),po 47 53,m 54,z 55 (m 1),z 55 (m 5),z 55 (ix 6 56 57),z 55 (f 5 58),z 55 (l 1 59),z 55 (nt 60),z 55 (m 61),y 62 (m 1),y 62 (m 5),y 62 (ix 6 63 64),y 62 (f 4 65),y 62 (l 1 66),y 62 (f 0 2),y 62 (l 1 68),y 62 (m 1),y 62 (m 5),y 62 (ix 6 70 71),y 62 (f 0 72),y 62 (f 1 73),y 62 (l 1 74),y 62 (ix 9 69 75),y 62 (f 6 76),y 62 (l 1 77),y 62 (ne 67 78),z 55 (pa 62 79),po 55 80] [] [81,5,2,1]) (c 81 (r (O 4 [i 12]))))))) (O 17 [m 5,adi 17 1,d 5 (m 18)])))
def w235_L0 : WCode := .loop ⟨true,[5,2,1],[]⟩ w235_B0
def w235 : WFn := ⟨2,[.tmp 4],zd (s (O 4 [d 2 (bx 0),i 0]) (s (s (O 7 [h 2 2,ca 236 [7],gti 8 0]) (c 9 (r (O 4 [i 7])))) (s (s (O 10 [m 1,ln 1 10,gti 11 1024]) (c 12 (r (O 4 [i 3])))) (s (s (O 5 [i 0]) (bk 0 w235_L0 ⟨true,[1],[]⟩)) w235_c0))))⟩
@[simp] theorem w235_E0 : ZL w235_L0 w235_B0 ⟨true,[5,2,1],[]⟩ := ck_lp rfl
noncomputable abbrev w235_K0 (C : WProg) (s : WSt) : Option AV := CK C 0 (pureFin [.tmp 4]) [.sq w235_L0,.bk 0 ⟨true,[1],[]⟩,.sq w235_c0] w235_B0 s
def w157_c0 : WCode := zd (r (O 0 [tt]))
def w157_B0 : WCode := zd (s (s (O 132 [m 15,lti 132 5]) (cc 133 (w .skip) (ee 4))) (s (B 5 (s (V 137 [h 2 1,h 1 2,E (.buildS [.int .i64 0] 5 [(0,N 9),(1,N 15),(2,N 16),(3,N 34),(4,N 40)]),m 15,ix 1 139 140,l 1 141,ca 150 [137,138,142],d 136 (m 143),ex 0 136,ex 1 136,d 16 (m 144),d 17 (m 145)] [(0,2),(1,2)] ⟨false,[],[]⟩) (s (Q 146 [m 16,E (.buildS [.int .i64 0] 5 [(0,N 0),(1,N 0),(2,N (-1)),(3,N (-19)),(4,N 0)]),m 15,ix 1 147 148,l 1 149,ne 146 150,m 151,z 152 (m 17),z 152 (eqi 153 0),z 152 (m 15),z 152 (gti 155 0),z 152 (E (.eqv 5 [] true (T 154) (T 156))),po 152 157,m 158,z 159 (m 15),z 159 (eqi 160 0),z 159 (m 161),y 162 (m 17),y 162 (nei 163 11),z 159 (pa 162 164),po 159 165] [166,15,2,1]) (c 166 (r (O 0 [ff])))))) (O 134 [m 15,adi 134 1,d 15 (m 135)])))
def w157_L0 : WCode := .loop ⟨true,[15,2,1],[]⟩ w157_B0
def w157_c1 : WCode := zd (s (s (O 15 [i 0]) (bk 4 w157_L0 ⟨true,[],[]⟩)) w157_c0)
def w157_B1 : WCode := zd (s (s (O 101 [m 11,lti 101 3]) (cc 102 (w .skip) (ee 2))) (s (B 3 (s (V 106 [h 2 1,h 1 2,E (.buildS [.int .i64 0] 3 [(0,N 9),(1,N 10),(2,N 35)]),m 11,ix 1 108 109,l 1 110,ca 310 [106,107,111],d 105 (m 112),ex 0 105,ex 1 105,ex 2 105,d 12 (m 113),d 13 (m 114),d 14 (m 115)] [(0,2),(1,2)] ⟨false,[],[]⟩) (s (Q 116 [m 12,E (.buildS [.int .i64 0] 3 [(0,N 1),(1,N 3),(2,N 0)]),m 11,ix 1 117 118,l 1 119,ne 116 120,m 121,z 122 (m 13),z 122 (m 11),z 122 (lti 124 2),z 122 (E (.eqv 5 [] true (T 123) (T 125))),po 122 126,m 127,z 128 (m 14),z 128 (nei 129 0),po 128 130] [131,11,2,1]) (c 131 (r (O 0 [ff])))))) (O 103 [m 11,adi 103 1,d 11 (m 104)])))
def w157_L1 : WCode := .loop ⟨true,[11,2,1],[]⟩ w157_B1
def w157_c2 : WCode := zd (s (s (O 11 [i 0]) (bk 2 w157_L1 ⟨true,[2,1],[]⟩)) w157_c1)
def w157_B2 : WCode := zd (s (s (O 55 [m 7,lti 55 4]) (cc 56 (w .skip) (ee 0))) (s (B 1 (s (V 60 [h 2 1,h 1 2,E (.buildS [.int .i64 0] 4 [(0,N 9),(1,N 10),(2,N 64),(3,N 65)]),m 7,ix 1 62 63,l 1 64,ca 148 [60,61,65],d 59 (m 66),ex 0 59,ex 1 59,ex 2 59,d 8 (m 67),d 9 (m 68),d 10 (m 69)] [(0,2),(1,2)] ⟨false,[],[]⟩) (s (Q 70 [m 8,E (.buildS [.int .i64 0] 4 [(0,N 0),(1,N 1),(2,N 3),(3,N 0)]),m 7,ix 1 71 72,l 1 73,ne 70 74,m 75,z 76 (m 9),z 76 (m 7),z 76 (eqi 78 1),z 76 (m 79),z 80 (m 7),z 80 (eqi 81 2),z 76 (po 80 82),z 76 (E (.eqv 5 [] true (T 77) (T 83))),po 76 84,m 85,z 86 (m 10),z 86 (eqi 87 0),z 86 (m 7),z 86 (lti 89 3),z 86 (E (.eqv 5 [] true (T 88) (T 90))),po 86 91,m 92,z 93 (m 7),z 93 (eqi 94 3),z 93 (m 95),y 96 (m 10),y 96 (nei 97 4),z 93 (pa 96 98),po 93 99] [100,7,2,1]) (c 100 (r (O 0 [ff])))))) (O 57 [m 7,adi 57 1,d 7 (m 58)])))
def w157_L2 : WCode := .loop ⟨true,[7,2,1],[]⟩ w157_B2
def w157 : WFn := ⟨0,[.tmp 0],zd (s (O 0 [ff]) (s (Q 19 [ca 146 [],d 18 (m 19),ex 0 18,ex 1 18,d 1 (E (.alloc [.ro 9 [] true,.int .i64 0])),d 2 (E (.alloc [.ro 6 [] true])),n (st 2 1 20),n (st 1 2 21)] [2,1]) (s (O 23 [h 2 1,h 1 2,ca 305 [23,24],d 22 (m 25),ex 0 22,ex 1 22,d 3 (m 26),d 4 (m 27)]) (s (O 29 [h 2 1,h 1 2,ca 152 [29,30],d 28 (m 31),ex 0 28,ex 1 28,d 5 (m 32),d 6 (m 33)]) (s (s (Q 34 [m 4,nei 34 0,m 35,z 36 (m 6),z 36 (nei 37 0),po 36 38,m 39,z 40 (m 3),z 40 (E (.buildS [.int .i64 0] 2 [(0,N 1),(1,N 3)])),z 40 (ca 136 [41,42]),z 40 (eqi 43 0),po 40 44,m 45,z 46 (m 5),z 46 (E (.build [.int .i64 0,.int .i64 0,.int .i64 0,.int .i64 0] [(0,1,N (-1)),(2,1,N 10),(3,1,N 10)])),z 46 (E (.build [.int .i64 0,.int .i64 0,.int .i64 0,.int .i64 0] [(0,1,N 1),(1,1,N 10),(2,1,N 35),(3,1,N 16)])),z 46 (E (.build [.int .i64 0,.int .i64 0,.int .i64 0,.int .i64 0] [(0,1,N 3),(1,1,N 35),(2,1,N 65),(3,1,N 65)])),z 46 (E (.buildS [.int .i64 0,.int .i64 0,.int .i64 0,.int .i64 0] 3 [(0,T 48),(1,T 49),(2,T 50)])),z 46 (ca 153 [47,51]),z 46 (eqi 52 0),po 46 53] [54,2,1]) (c 54 (r (O 0 [ff])))) (s (s (O 7 [i 0]) (bk 0 w157_L2 ⟨true,[2,1],[]⟩)) w157_c2))))))⟩
@[simp] theorem w157_E0 : ZL w157_L0 w157_B0 ⟨true,[15,2,1],[]⟩ := ck_lp rfl
@[simp] theorem w157_E1 : ZL w157_L1 w157_B1 ⟨true,[11,2,1],[]⟩ := ck_lp rfl
@[simp] theorem w157_E2 : ZL w157_L2 w157_B2 ⟨true,[7,2,1],[]⟩ := ck_lp rfl
def w147 : WFn := ⟨3,[.tmp 6],zd (s (O 6 [d 3 (bx 0),i 0]) (s (s (O 7 [h 2 3,m 1,ca 235 [7,8],gti 9 0]) (c 10 (r (O 11 [h 2 3,m 1,ca 235 [11,12],d 6 (m 13)])))) (s (s (Q 14 [m 2,lti 14 0,m 15,z 16 (m 2),z 16 (m 1),z 16 (m 1),z 16 (ln 1 19),z 16 (ca 253 [18,20]),z 16 (ge 17 21),z 16 (m 22),y 23 (m 2),y 23 (gti 24 0),z 16 (pa 23 25),po 16 26,m 27,z 28 (m 2),z 28 (m 1),z 28 (m 1),z 28 (ln 1 31),z 28 (ca 253 [30,32]),z 28 (ge 29 33),z 28 (m 34),y 35 (m 1),y 35 (ln 1 36),y 35 (gti 37 0),z 28 (pa 35 38),po 28 39] [40]) (c 40 (r (O 6 [i 4])))) (r (O 6 [i 0])))))⟩
def w148 : WFn := ⟨3,[.tmp 6,.tmp 7,.tmp 8],zd (s (O 6 [d 3 (bx 0),d 4 (bx 1),i 0,ff,i 0]) (s (O 12 [h 2 3,h 1 4,m 2,ca 303 [12,13,14],d 11 (m 15),ex 0 11,ex 1 11,ex 2 11,d 9 (m 16),d 10 (m 17),d 8 (m 18)]) (s (s (Q 19 [m 8,nei 19 0,m 20,z 21 (m 10),z 21 (lti 22 0),po 21 23,m 24,z 25 (m 9),z 25 (m 10),z 25 (ix 4 26 27),z 25 (f 0 28),z 25 (l 1 29),z 25 (lti 30 0),po 25 31] [32,10,9,8]) (c 32 (r (O 6 [d 33 (m 8),i 0,ff,m 33])))) (r (O 34 [m 9,m 10,ix 4 34 35,f 0 36,l 1 37,d 6 (m 38),d 7 tt,d 8 (i 0)])))))⟩
def w310 : WFn := ⟨3,[.tmp 6,.tmp 7,.tmp 8],zd (s (O 6 [d 3 (bx 0),d 4 (bx 1),i 0,ff,i 0]) (s (Q 12 [h 2 3,h 1 4,m 2,ca 303 [12,13,14],d 11 (m 15),ex 0 11,ex 1 11,ex 2 11,d 9 (m 16),d 10 (m 17),d 8 (m 18)] [10,9,8]) (s (s (O 19 [m 8,nei 19 0,m 20,z 21 (m 10),z 21 (adi 22 1),z 21 (m 9),z 21 (ln 1 24),z 21 (ge 23 25),po 21 26]) (c 27 (r (O 6 [d 28 (m 8),i 0,ff,m 28])))) (r (O 29 [m 9,m 10,adi 30 1,ix 4 29 31,f 0 32,l 1 33,d 6 (m 34),d 7 tt,d 8 (i 0)])))))⟩
def w150 : WFn := ⟨3,[.tmp 6,.tmp 7],zd (s (O 6 [d 3 (bx 0),d 4 (bx 1),i 0,i 0]) (s (O 12 [h 2 3,h 1 4,m 2,ca 303 [12,13,14],d 11 (m 15),ex 0 11,ex 1 11,ex 2 11,d 8 (m 16),d 9 (m 17),d 10 (m 18)]) (s (B 0 (s (O 20 [m 10,nei 20 0,d 19 (m 21)]) (cc 19 (r (O 6 [d 22 (m 10),i 0,m 22])) (s (Q 24 [m 9,lti 24 0,m 25,z 26 (m 8),z 26 (m 9),z 26 (ix 4 27 28),z 26 (f 0 29),z 26 (l 1 30),z 26 (lti 31 0),po 26 32,d 23 (m 33)] [23,9,8,2]) (c 23 (r (O 6 [i 0,i 11]))))))) (r (O 34 [m 8,m 9,ix 4 34 35,f 3 36,l 1 37,sbi 38 1,m 2,sb 39 40,E (.mn (N 0) (T 41)),d 6 (m 42),d 7 (i 0)])))))⟩
def w305_c0 : WCode := zd (r (O 38 [m 7,ca 448 [38],d 4 (m 39),d 5 (i 0)]))
def w305_B0 : WCode := zd (s (O 20 [lt 19 18]) (s (cc 20 (w .skip) (ee 0)) (s (B 1 (s (Q 21 [m 19,ix 6 17 19,h 6 22,d 9 (E (.alloc [.int .u64 0,.int .u8 0,.str [],.ro 1 [] true,.int .i64 0,.bool false])),d 8 (m 21),n (st 6 9 23)] [19,18,17,9,8,7,2]) (s (s (O 24 [f 0 2,l 1 24,f 0 9,f 1 26,l 1 27,ix 9 25 28,f 7 29,l 1 30,nt 31]) (c 32 (ee 1))) (O 33 [m 7,m 8,E (.buildS [.int .i64 0] 1 [(0,T 34)]),E (.app [.int .i64 0] 8 false (T 33) (T 35)),d 7 (m 36)])))) (O 37 [adi 19 1,d 19 (m 37)]))))
def w305_L0 : WCode := .loop ⟨true,[19,18,17,7,2],[]⟩ w305_B0
def w305 : WFn := ⟨2,[.tmp 4,.tmp 5],zd (s (O 2 [bx 0,bx 1,E (.mv (.c (.ro 1 [] true))),i 0]) (s (s (s (O 10 [h 2 2,h 1 3,ca 223 [10,11],d 6 (m 12)]) (s (O 13 [m 6,nei 13 0]) (c 14 (r (O 4 [d 15 (m 6),E (.mv (.c (.ro 1 [] true))),m 15]))))) (s (R 7 [E (.mv (.c (.ro 1 [] true)))] ⟨true,[7,3,2],[(7,1)]⟩) (s (w .skip) (s (s (O 16 [f 0 3,l 1 16,ln 1 17,i 0]) (bk 0 w305_L0 ⟨true,[7],[]⟩)) w305_c0)))) (w .skip)))⟩
@[simp] theorem w305_E0 : ZL w305_L0 w305_B0 ⟨true,[19,18,17,7,2],[]⟩ := ck_lp rfl
noncomputable abbrev w305_K0 (C : WProg) (s : WSt) : Option AV := CK C 0 (pureFin [.tmp 4,.tmp 5]) [.sq w305_L0,.bk 0 ⟨true,[7],[]⟩,.sq w305_c0,.sq .skip] w305_B0 s
def w152 : WFn := ⟨2,[.tmp 4,.tmp 5],zd (s (O 2 [bx 0,bx 1,E (.mv (.c (.ro 4 [] true))),i 0]) (s (O 9 [h 2 2,h 1 3,ca 305 [9,10],d 8 (m 11),ex 0 8,ex 1 8,d 6 (m 12),d 7 (m 13)]) (s (s (O 14 [m 7,nei 14 0]) (c 15 (r (O 4 [d 16 (m 7),E (.mv (.c (.ro 4 [] true))),m 16])))) (r (O 17 [h 1 3,m 6,ca 307 [17,18],ca 306 [19],d 4 (m 20),d 5 (i 0)])))))⟩
def w2008 : WFn := ⟨2,[.tmp 4,.tmp 5],zd (s (O 2 [bx 0,bx 1,E (.mv (.c (.ro 4 [] true))),i 0]) (s (O 9 [h 2 2,h 1 3,ca 2009 [9,10],d 8 (m 11),ex 0 8,ex 1 8,d 6 (m 12),d 7 (m 13)]) (s (s (O 14 [m 7,nei 14 0]) (c 15 (r (O 4 [d 16 (m 7),E (.mv (.c (.ro 4 [] true))),m 16])))) (r (O 17 [h 1 3,m 6,ca 2010 [17,18],ca 306 [19],d 4 (m 20),d 5 (i 0)])))))⟩
def w136_c0 : WCode := zd (r (O 4 [i 1]))
def w136_B0 : WCode := zd (s (s (O 11 [m 5,m 0,ln 1 12,lt 11 13]) (cc 14 (w .skip) (ee 0))) (s (B 1 (s (V 17 [m 0,m 5,ix 1 17 18,l 1 19,m 1,m 5,ix 1 21 22,l 1 23,ne 20 24] [] ⟨false,[],[]⟩) (c 25 (r (O 4 [i 0]))))) (O 15 [m 5,adi 15 1,d 5 (m 16)])))
def w136_L0 : WCode := .loop ⟨true,[5,1,0],[]⟩ w136_B0
def w136 : WFn := ⟨2,[.tmp 4],zd (s (O 4 [i 0]) (s (s (Q 6 [m 0,ln 1 6,m 1,ln 1 8,ne 7 9] [10,1,0]) (c 10 (r (O 4 [i 0])))) (s (s (O 5 [i 0]) (bk 0 w136_L0 ⟨true,[],[]⟩)) w136_c0)))⟩
@[simp] theorem w136_E0 : ZL w136_L0 w136_B0 ⟨true,[5,1,0],[]⟩ := ck_lp rfl
noncomputable abbrev w136_K0 (C : WProg) (s : WSt) : Option AV := CK C 0 (pureFin [.tmp 4]) [.sq w136_L0,.bk 0 ⟨true,[],[]⟩,.sq w136_c0] w136_B0 s
def w308_c0 : WCode := zd (r (O 24 [m 5,d 4 (m 24)]))
def w308_B0 : WCode := zd (s (s (O 7 [m 6,m 1,ln 1 8,lt 7 9]) (cc 10 (w .skip) (ee 0))) (s (B 1 (s (V 13 [h 2 2,m 1,m 6,ix 6 14 15,h 6 16,ca 304 [13,17],eqi 18 1] [] ⟨false,[],[]⟩) (c 19 (O 20 [m 5,m 6,E (.buildS [.int .i64 0] 1 [(0,T 21)]),E (.app [.int .i64 0] 8 false (T 20) (T 22)),d 5 (m 23)])))) (O 11 [m 6,adi 11 1,d 6 (m 12)])))
def w308_L0 : WCode := .loop ⟨true,[6,5,2,1],[]⟩ w308_B0
def w308 : WFn := ⟨2,[.tmp 4],zd (s (Q 4 [d 2 (bx 0),E (.mv (.c (.ro 1 [] true)))] [2,1]) (s (R 5 [E (.mv (.c (.ro 1 [] true)))] ⟨true,[5,2,1],[(5,1)]⟩) (s (s (O 6 [i 0]) (bk 0 w308_L0 ⟨true,[5],[]⟩)) w308_c0)))⟩
@[simp] theorem w308_E0 : ZL w308_L0 w308_B0 ⟨true,[6,5,2,1],[]⟩ := ck_lp rfl
noncomputable abbrev w308_K0 (C : WProg) (s : WSt) : Option AV := CK C 0 (pureFin [.tmp 4]) [.sq w308_L0,.bk 0 ⟨true,[5],[]⟩,.sq w308_c0] w308_B0 s
def w153_c0 : WCode := zd (r (O 4 [i 1]))
def w153_B0 : WCode := zd (s (s (O 11 [m 5,m 0,ln 1 12,lt 11 13]) (cc 14 (w .skip) (ee 0))) (s (B 1 (s (V 17 [m 0,m 5,ix 4 17 18,h 4 19,m 1,m 5,ix 4 21 22,h 4 23,E (.eqv 4 [0,0,0,0] true (T 20) (T 24))] [] ⟨false,[],[]⟩) (c 25 (r (O 4 [i 0]))))) (O 15 [m 5,adi 15 1,d 5 (m 16)])))
def w153_L0 : WCode := .loop ⟨true,[5,1,0],[]⟩ w153_B0
def w153 : WFn := ⟨2,[.tmp 4],zd (s (O 4 [i 0]) (s (s (Q 6 [m 0,ln 1 6,m 1,ln 1 8,ne 7 9] [10,1,0]) (c 10 (r (O 4 [i 0])))) (s (s (O 5 [i 0]) (bk 0 w153_L0 ⟨true,[],[]⟩)) w153_c0)))⟩
@[simp] theorem w153_E0 : ZL w153_L0 w153_B0 ⟨true,[5,1,0],[]⟩ := ck_lp rfl
noncomputable abbrev w153_K0 (C : WProg) (s : WSt) : Option AV := CK C 0 (pureFin [.tmp 4]) [.sq w153_L0,.bk 0 ⟨true,[],[]⟩,.sq w153_c0] w153_B0 s
def w154_c0 : WCode := zd (r (O 121 [m 6,d 4 (m 121)]))
def w154_B0 : WCode := zd (s (s (O 48 [m 8,m 6,ln 1 49,lt 48 50]) (cc 51 (w .skip) (ee 2))) (s (B 3 (s (Q 54 [m 6,m 8,m 1,m 1,ln 1 57,ca 253 [56,58],ix 4 54 55,f 2 60,n (st 1 61 59)] [8,6,1]) (s (O 62 [m 6,m 8,m 6,m 8,ix 4 64 65,f 2 66,l 1 67,ix 4 62 63,f 3 69,n (st 1 70 68)]) (s (O 71 [m 8,adi 71 1,m 6,ln 1 73,lt 72 74]) (c 75 (s (Q 76 [m 6,m 8,m 6,m 8,adi 79 1,ix 4 78 80,f 1 81,l 1 82,ix 4 76 77,f 2 84,n (st 1 85 83)] [8,6,1]) (s (O 86 [m 6,m 8,m 6,m 8,ix 4 88 89,f 2 90,l 1 91,ix 4 86 87,f 3 93,n (st 1 94 92)]) (s (O 95 [m 6,m 8,ix 4 95 96,f 0 97,l 1 98,gei 99 0]) (c 100 (U 101 [m 6,m 8,m 6,m 8,ix 4 103 104,f 2 105,l 1 106,m 1,m 6,m 8,ix 4 109 110,f 0 111,l 1 112,ix 6 108 113,f 4 114,l 1 115,sb 107 116,adi 117 1,ix 4 101 102,f 3 119,n (st 1 120 118)] [] [8,6,1])))))))))) (O 52 [m 8,adi 52 1,d 8 (m 53)])))
def w154_L0 : WCode := .loop ⟨true,[8,6,1],[]⟩ w154_B0
def w154_c1 : WCode := zd (s (s (O 8 [i 0]) (bk 2 w154_L0 ⟨true,[6],[]⟩)) w154_c0)
def w154_B1 : WCode := zd (s (s (Q 28 [m 7,m 5,ln 1 29,lt 28 30] [31,7,6,5,1]) (cc 31 (w .skip) (ee 0))) (s (B 1 (V 34 [m 6,m 5,m 7,ix 1 35 36,l 1 37,m 1,m 5,m 7,ix 1 40 41,l 1 42,ca 253 [39,43],E (.build [.int .i64 0,.int .i64 0,.int .i64 0,.int .i64 0] [(0,1,T 38),(1,1,T 44)]),E (.buildS [.int .i64 0,.int .i64 0,.int .i64 0,.int .i64 0] 1 [(0,T 45)]),E (.app [.int .i64 0,.int .i64 0,.int .i64 0,.int .i64 0] 32 false (T 34) (T 46)),d 6 (m 47)] [(4,10)] ⟨false,[],[]⟩)) (O 32 [m 7,adi 32 1,d 7 (m 33)])))
def w154_L1 : WCode := .loop ⟨true,[7,6,5,1],[]⟩ w154_B1
def w154 : WFn := ⟨2,[.tmp 4],zd (s (O 4 [d 2 (bx 0),E (.mv (.c (.ro 4 [] true)))]) (s (s (Q 9 [m 1,ln 1 9,eqi 10 0] [11,2,1]) (c 11 (r (O 4 [E (.mv (.c (.ro 4 [] true)))])))) (s (O 12 [h 2 2,m 1,ca 308 [12,13],d 5 (m 14)]) (s (R 6 [E (.mv (.c (.ro 4 [] true)))] ⟨true,[6,5,1],[(6,4)]⟩) (s (s (O 15 [m 5,ln 1 15,eqi 16 0,m 17,z 18 (m 5),z 18 (E (.idxs 1 (T 19) (N 0))),z 18 (l 1 20),z 18 (gti 21 0),po 18 22]) (c 23 (O 24 [m 6,E (.build [.int .i64 0,.int .i64 0,.int .i64 0,.int .i64 0] [(0,1,N (-1))]),E (.buildS [.int .i64 0,.int .i64 0,.int .i64 0,.int .i64 0] 1 [(0,T 25)]),E (.app [.int .i64 0,.int .i64 0,.int .i64 0,.int .i64 0] 32 false (T 24) (T 26)),d 6 (m 27)]))) (s (s (O 7 [i 0]) (bk 0 w154_L1 ⟨true,[6,1],[]⟩)) w154_c1))))))⟩
@[simp] theorem w154_E0 : ZL w154_L0 w154_B0 ⟨true,[8,6,1],[]⟩ := ck_lp rfl
noncomputable abbrev w154_K0 (C : WProg) (s : WSt) : Option AV := CK C 0 (pureFin [.tmp 4]) [.sq w154_L0,.bk 2 ⟨true,[6],[]⟩,.sq w154_c0] w154_B0 s
@[simp] theorem w154_E1 : ZL w154_L1 w154_B1 ⟨true,[7,6,5,1],[]⟩ := ck_lp rfl
noncomputable abbrev w154_K1 (C : WProg) (s : WSt) : Option AV := CK C 0 (pureFin [.tmp 4]) [.sq w154_L1,.bk 0 ⟨true,[6,1],[]⟩,.sq w154_c1] w154_B1 s
def w2013_c0 : WCode := zd (r (O 121 [m 6,d 4 (m 121)]))
def w2013_B0 : WCode := zd (s (s (O 48 [m 8,m 6,ln 1 49,lt 48 50]) (cc 51 (w .skip) (ee 2))) (s (B 3 (s (Q 54 [m 6,m 8,m 1,m 1,ln 1 57,ca 253 [56,58],ix 4 54 55,f 2 60,n (st 1 61 59)] [8,6,1]) (s (O 62 [m 6,m 8,m 6,m 8,ix 4 64 65,f 2 66,l 1 67,ix 4 62 63,f 3 69,n (st 1 70 68)]) (s (O 71 [m 8,adi 71 1,m 6,ln 1 73,lt 72 74]) (c 75 (s (Q 76 [m 6,m 8,m 6,m 8,adi 79 1,ix 4 78 80,f 1 81,l 1 82,ix 4 76 77,f 2 84,n (st 1 85 83)] [8,6,1]) (s (O 86 [m 6,m 8,m 6,m 8,ix 4 88 89,f 2 90,l 1 91,ix 4 86 87,f 3 93,n (st 1 94 92)]) (s (O 95 [m 6,m 8,ix 4 95 96,f 0 97,l 1 98,gei 99 0]) (c 100 (U 101 [m 6,m 8,m 6,m 8,ix 4 103 104,f 2 105,l 1 106,m 1,m 6,m 8,ix 4 109 110,f 0 111,l 1 112,ix 6 108 113,f 4 114,l 1 115,sb 107 116,adi 117 1,ix 4 101 102,f 3 119,n (st 1 120 118)] [] [8,6,1])))))))))) (O 52 [m 8,adi 52 1,d 8 (m 53)])))
def w2013_L0 : WCode := .loop ⟨true,[8,6,1],[]⟩ w2013_B0
def w2013_c1 : WCode := zd (s (s (O 8 [i 0]) (bk 2 w2013_L0 ⟨true,[6],[]⟩)) w2013_c0)
def w2013_B1 : WCode := zd (s (s (Q 28 [m 7,m 5,ln 1 29,lt 28 30] [31,7,6,5,1]) (cc 31 (w .skip) (ee 0))) (s (B 1 (V 34 [m 6,m 5,m 7,ix 1 35 36,l 1 37,m 1,m 5,m 7,ix 1 40 41,l 1 42,ca 253 [39,43],E (.build [.int .i64 0,.int .i64 0,.int .i64 0,.int .i64 0] [(0,1,T 38),(1,1,T 44)]),E (.buildS [.int .i64 0,.int .i64 0,.int .i64 0,.int .i64 0] 1 [(0,T 45)]),E (.app [.int .i64 0,.int .i64 0,.int .i64 0,.int .i64 0] 32 false (T 34) (T 46)),d 6 (m 47)] [(4,10)] ⟨false,[],[]⟩)) (O 32 [m 7,adi 32 1,d 7 (m 33)])))
def w2013_L1 : WCode := .loop ⟨true,[7,6,5,1],[]⟩ w2013_B1
def w2013 : WFn := ⟨2,[.tmp 4],zd (s (O 4 [d 2 (bx 0),E (.mv (.c (.ro 4 [] true)))]) (s (s (Q 9 [m 1,ln 1 9,eqi 10 0] [11,2,1]) (c 11 (r (O 4 [E (.mv (.c (.ro 4 [] true)))])))) (s (O 12 [h 2 2,m 1,ca 2014 [12,13],d 5 (m 14)]) (s (R 6 [E (.mv (.c (.ro 4 [] true)))] ⟨true,[6,5,1],[(6,4)]⟩) (s (s (O 15 [m 5,ln 1 15,eqi 16 0,m 17,z 18 (m 5),z 18 (E (.idxs 1 (T 19) (N 0))),z 18 (l 1 20),z 18 (gti 21 0),po 18 22]) (c 23 (O 24 [m 6,E (.build [.int .i64 0,.int .i64 0,.int .i64 0,.int .i64 0] [(0,1,N (-1))]),E (.buildS [.int .i64 0,.int .i64 0,.int .i64 0,.int .i64 0] 1 [(0,T 25)]),E (.app [.int .i64 0,.int .i64 0,.int .i64 0,.int .i64 0] 32 false (T 24) (T 26)),d 6 (m 27)]))) (s (s (O 7 [i 0]) (bk 0 w2013_L1 ⟨true,[6,1],[]⟩)) w2013_c1))))))⟩
@[simp] theorem w2013_E0 : ZL w2013_L0 w2013_B0 ⟨true,[8,6,1],[]⟩ := ck_lp rfl
@[simp] theorem w2013_E1 : ZL w2013_L1 w2013_B1 ⟨true,[7,6,5,1],[]⟩ := ck_lp rfl
def w149_c0 : WCode := zd (r (O 30 [m 7,d 6 (m 30)]))
def w149_B0 : WCode := zd (s (s (Q 9 [m 8,m 1,ln 1 10,lt 9 11] [12,8,7,3,2,1]) (cc 12 (w .skip) (ee 0))) (s (B 1 (s (V 15 [h 2 3,m 1,m 8,ix 6 16 17,h 6 18,ca 304 [15,19],eqi 20 1,m 21,y 22 (m 1),y 22 (m 8),y 22 (ca 253 [23,24]),y 22 (m 2),y 22 (le 25 26),pa 22 27] [] ⟨false,[],[]⟩) (c 28 (O 29 [m 8,d 7 (m 29)])))) (O 13 [m 8,adi 13 1,d 8 (m 14)])))
def w149_L0 : WCode := .loop ⟨true,[8,7,3,2,1],[]⟩ w149_B0
def w149 : WFn := ⟨3,[.tmp 6],zd (s (O 6 [d 3 (bx 0),i 0]) (s (O 7 [i (-1)]) (s (s (O 8 [i 0]) (bk 0 w149_L0 ⟨true,[7],[]⟩)) w149_c0)))⟩
@[simp] theorem w149_E0 : ZL w149_L0 w149_B0 ⟨true,[8,7,3,2,1],[]⟩ := ck_lp rfl
noncomputable abbrev w149_K0 (C : WProg) (s : WSt) : Option AV := CK C 0 (pureFin [.tmp 6]) [.sq w149_L0,.bk 0 ⟨true,[7],[]⟩,.sq w149_c0] w149_B0 s
def w311_c0 : WCode := zd (r (O 6 [i (-1)]))
def w311_B0 : WCode := zd (s (s (O 12 [m 8,m 7,ln 1 13,lt 12 14]) (cc 15 (w .skip) (ee 0))) (s (B 1 (s (O 18 [m 1,m 7,m 8,ix 1 19 20,l 1 21,ca 253 [18,22],m 2,gt 23 24]) (c 25 (r (O 26 [m 7,m 8,ix 1 26 27,l 1 28,d 6 (m 29)]))))) (O 16 [m 8,adi 16 1,d 8 (m 17)])))
def w311_L0 : WCode := .loop ⟨true,[8,7,2,1],[]⟩ w311_B0
def w311 : WFn := ⟨3,[.tmp 6],zd (s (O 6 [d 3 (bx 0),i 0]) (s (Q 9 [h 2 3,m 1,ca 308 [9,10],d 7 (m 11)] [7,2,1]) (s (s (O 8 [i 0]) (bk 0 w311_L0 ⟨true,[],[]⟩)) w311_c0)))⟩
@[simp] theorem w311_E0 : ZL w311_L0 w311_B0 ⟨true,[8,7,2,1],[]⟩ := ck_lp rfl
noncomputable abbrev w311_K0 (C : WProg) (s : WSt) : Option AV := CK C 0 (pureFin [.tmp 6]) [.sq w311_L0,.bk 0 ⟨true,[],[]⟩,.sq w311_c0] w311_B0 s
def w151_c0 : WCode := zd (r (O 8 [i 0]))
def w151_B0 : WCode := zd (s (s (O 13 [m 9,m 1,ln 1 14,lt 13 15]) (cc 16 (w .skip) (ee 0))) (s (B 1 (s (U 19 [h 2 4,m 1,m 9,ix 6 20 21,h 6 22,ca 304 [19,23],eqi 24 1] [] [25,9,4,3,2,1]) (c 25 (s (V 26 [m 1,m 9,ca 253 [26,27],m 2,sb 28 29,m 1,m 3,ix 6 31 32,f 4 33,l 1 34,sb 30 35,d 10 (m 36)] [(2,9)] ⟨false,[],[]⟩) (s (s (O 37 [m 10,lti 37 0]) (c 38 (r (O 39 [m 10,d 8 (m 39)])))) (r (O 8 [i 0]))))))) (O 17 [m 9,adi 17 1,d 9 (m 18)])))
def w151_L0 : WCode := .loop ⟨true,[9,4,3,2,1],[]⟩ w151_B0
def w151 : WFn := ⟨4,[.tmp 8],zd (s (O 8 [d 4 (bx 0),i 0]) (s (s (O 11 [m 3,adi 11 1,d 9 (m 12)]) (bk 0 w151_L0 ⟨true,[],[]⟩)) w151_c0))⟩
@[simp] theorem w151_E0 : ZL w151_L0 w151_B0 ⟨true,[9,4,3,2,1],[]⟩ := ck_lp rfl
noncomputable abbrev w151_K0 (C : WProg) (s : WSt) : Option AV := CK C 0 (pureFin [.tmp 8]) [.sq w151_L0,.bk 0 ⟨true,[],[]⟩,.sq w151_c0] w151_B0 s
def w121 : WFn := ⟨3,[.tmp 6,.tmp 7,.tmp 8],zd (s (Q 6 [d 3 (bx 0),i 0,i 0,i 0] [3,2,1]) (s (s (O 13 [h 1 3,m 1,m 2,ca 248 [13,14,15],d 9 (m 16)]) (s (O 17 [m 9,nei 17 0]) (c 18 (r (O 6 [d 19 (m 9),i 0,i 0,m 19]))))) (s (O 21 [h 1 3,ca 246 [21],d 20 (m 22),ex 0 20,ex 1 20,d 10 (m 23),d 11 (m 24)]) (s (s (O 25 [m 10,ln 1 25,eqi 26 1]) (c 27 (r (Q 6 [i 0,i 0,i 0] [8,7,6])))) (s (O 28 [m 1,m 2,ad 28 29,m 10,m 10,ln 1 32,sbi 33 1,ix 1 31 34,l 1 35,E (.mn (T 30) (T 36)),d 12 (m 37)]) (r (O 38 [m 10,m 1,ca 247 [38,39],m 10,m 12,sbi 42 1,ca 247 [41,43],adi 44 1,d 6 (m 40),d 7 (m 45),d 8 (i 0)])))))))⟩
def w122 : WFn := ⟨1,[.tmp 2],zd (s (O 1 [bx 0,i 0]) (s (s (O 3 [f 0 1,l 1 3,ln 1 4,gti 5 1024]) (c 6 (r (O 2 [i 3])))) (s (s (O 7 [f 0 1,l 1 7,E (.call 249 [T 8,.c (.fn 250 [])])]) (c 9 (r (O 2 [i 12])))) (s (s (O 10 [h 1 1,ca 111 [10],gti 11 4611686018427387904]) (c 12 (r (O 2 [i 13])))) (r (O 2 [i 0]))))))⟩
def w125_c0 : WCode := zd (s (O 90 [f 1 14,l 1 90,ca 265 [91],ca 264 [92],f 1 14,n (st 1 94 93)]) (r (O 95 [h 12 14,n (st 12 8 95),d 9 (i 0)])))
def w125_B0 : WCode := zd (s (O 69 [lt 68 67]) (s (cc 69 (w .skip) (ee 0)) (s (B 1 (s (O 70 [m 68,ix 9 66 68,h 9 71,d 18 (E (.alloc [.int .u64 0,.int .i64 0,.int .i64 0,.int .u8 0,.str [],.str [],.ro 2 [] true,.str [],.ro 6 [] true])),d 17 (m 70),n (st 9 18 72)]) (s (O 73 [m 11,m 17,ad 73 74,m 15,ne 75 76]) (c 77 (s (Q 78 [f 1 18,l 1 78,m 2,sb 79 80,f 1 18,n (st 1 82 81)] [68,67,66,18,15,14,11,8,2]) (O 83 [f 1 14,l 1 83,h 9 18,E (.buildS [.int .u64 0,.int .i64 0,.int .i64 0,.int .u8 0,.str [],.str [],.ro 2 [] true,.str [],.ro 6 [] true] 1 [(0,T 85)]),E (.app [.int .u64 0,.int .i64 0,.int .i64 0,.int .u8 0,.str [],.str [],.ro 2 [] true,.str [],.ro 6 [] true] 128 false (T 84) (T 86)),f 1 14,n (st 1 88 87)])))))) (O 89 [adi 68 1,d 68 (m 89)]))))
def w125_L0 : WCode := .loop ⟨true,[68,67,66,15,14,11,8,2],[]⟩ w125_B0
def w125 : WFn := ⟨4,[.cell 8 12 true,.tmp 9],zd (s (O 8 [d 4 (bx 0),d 5 (bx 1),E (.alloc [.int .i64 0,.ro 9 [] true,.bool false,.int .u64 0,.int .i64 0,.int .i64 0,.int .u8 0,.str [],.str [],.ro 2 [] true,.str [],.ro 6 [] true]),i 0]) (s (s (O 19 [h 2 4,h 1 5,ca 223 [19,20],d 10 (m 21)]) (s (O 22 [m 10,nei 22 0]) (c 23 (r (O 24 [E (.build [.int .i64 0,.ro 9 [] true,.bool false,.int .u64 0,.int .i64 0,.int .i64 0,.int .u8 0,.str [],.str [],.ro 2 [] true,.str [],.ro 6 [] true] []),m 10,n (st 12 8 24),d 9 (m 25)]))))) (s (Q 27 [h 1 5,m 2,m 3,ca 121 [27,28,29],d 26 (m 30),ex 0 26,ex 1 26,ex 2 26,d 11 (m 31),d 12 (m 32),d 13 (m 33)] [13,12,11,8,5,4,2]) (s (s (O 34 [m 13,nei 34 0]) (c 35 (r (O 36 [E (.build [.int .i64 0,.ro 9 [] true,.bool false,.int .u64 0,.int .i64 0,.int .i64 0,.int .u8 0,.str [],.str [],.ro 2 [] true,.str [],.ro 6 [] true] []),m 13,n (st 12 8 36),d 9 (m 37)])))) (s (O 38 [m 2,E (.build [.int .i64 0,.ro 9 [] true,.bool false,.int .u64 0,.int .i64 0,.int .i64 0,.int .u8 0,.str [],.str [],.ro 2 [] true,.str [],.ro 6 [] true] [(0,1,T 38)]),d 14 (E (.alloc [.int .i64 0,.ro 9 [] true,.bool false,.int .u64 0,.int .i64 0,.int .i64 0,.int .u8 0,.str [],.str [],.ro 2 [] true,.str [],.ro 6 [] true])),n (st 12 14 39)]) (s (O 41 [h 2 4,h 1 5,m 2,ca 262 [41,42,43],d 40 (m 44),ex 0 40,ex 1 40,d 15 (m 45),d 16 (m 46)]) (s (s (O 47 [m 15,gei 47 0]) (c 48 (s (O 49 [f 2 14,n (E (.store 1 (T 49) (.c (.bool true))))]) (s (Q 50 [h 2 4,h 1 5,m 15,m 15,adi 53 1,ca 263 [50,51,52,54],E (.idxs 9 (T 55) (N 0)),h 9 56,f 3 14,n (st 9 58 57)] [16,15,14,12,11,8,5,4,2]) (O 59 [m 16,f 3 14,f 1 60,n (st 1 61 59)]))))) (s (s (O 62 [h 2 4,h 1 5,m 11,m 12,ca 263 [62,63,64,65],ln 1 66,i 0]) (bk 0 w125_L0 ⟨true,[14,8],[]⟩)) w125_c0))))))))⟩
@[simp] theorem w125_E0 : ZL w125_L0 w125_B0 ⟨true,[68,67,66,15,14,11,8,2],[]⟩ := ck_lp rfl
noncomputable abbrev w125_K0 (C : WProg) (s : WSt) : Option AV := CK C 0 (pureFin [.cell 8 12 true,.tmp 9]) [.sq w125_L0,.bk 0 ⟨true,[14,8],[]⟩,.sq w125_c0] w125_B0 s
def w126 : WFn := ⟨1,[.tmp 2],zd (s (O 2 [E (.mv (.c (.ro 9 [] true)))]) (s (Q 6 [E (.build [.str [],.int .u8 0,.str []] [(0,1,.c (.str [110])),(1,1,.c (.int .u8 3))]),E (.build [.str [],.int .u8 0,.str []] [(0,1,.c (.str [116,101,120,116])),(1,1,.c (.int .u8 1))]),E (.buildS [.str [],.int .u8 0,.str []] 2 [(0,T 6),(1,T 7)]),E (.build [.int .u8 0,.str [],.str [],.ro 3 [] true,.str [],.ro 6 [] true] [(0,1,.c (.int .u8 3))]),E (.buildS [.int .u8 0,.str [],.str [],.ro 3 [] true,.str [],.ro 6 [] true] 1 [(0,T 9)]),E (.build [.int .u8 0,.str [],.str [],.ro 3 [] true,.str [],.ro 6 [] true] [(0,1,.c (.int .u8 1)),(1,1,.c (.str [114,111,119])),(3,1,T 8),(5,1,T 10)]),d 3 (E (.alloc [.int .u8 0,.str [],.str [],.ro 3 [] true,.str [],.ro 6 [] true])),n (st 6 3 11)] [3,0]) (s (O 12 [E (.build [.str [],.int .u8 0,.str []] [(0,1,.c (.str [105,100])),(1,1,.c (.int .u8 2))]),E (.buildS [.str [],.int .u8 0,.str []] 1 [(0,T 12)]),E (.build [.int .u8 0,.str [],.str [],.ro 3 [] true,.str [],.ro 6 [] true] [(0,1,.c (.int .u8 2)),(4,1,.c (.str [35]))]),E (.build [.int .u8 0,.str [],.str [],.ro 3 [] true,.str [],.ro 6 [] true] [(0,1,.c (.int .u8 4))]),E (.buildS [.int .u8 0,.str [],.str [],.ro 3 [] true,.str [],.ro 6 [] true] 2 [(0,T 14),(1,T 15)]),E (.build [.int .u8 0,.str [],.str [],.ro 3 [] true,.str [],.ro 6 [] true] [(0,1,.c (.int .u8 1)),(1,1,.c (.str [104,101,97,100])),(2,1,.c (.str [104])),(3,1,T 13),(5,1,T 16)]),d 4 (E (.alloc [.int .u8 0,.str [],.str [],.ro 3 [] true,.str [],.ro 6 [] true])),n (st 6 4 17)]) (s (O 18 [E (.build [.int .u8 0,.str [],.str [],.ro 3 [] true,.str [],.ro 6 [] true] [(0,1,.c (.int .u8 3))]),E (.buildS [.int .u8 0,.str [],.str [],.ro 3 [] true,.str [],.ro 6 [] true] 1 [(0,T 18)]),E (.build [.int .u8 0,.str [],.str [],.ro 3 [] true,.str [],.ro 6 [] true] [(0,1,.c (.int .u8 1)),(1,1,.c (.str [98])),(2,1,.c (.str [98,50])),(5,1,T 19)]),E (.build [.str [],.int .u8 0,.str []] [(0,1,.c (.str [111,102])),(1,1,.c (.int .u8 2))]),E (.buildS [.str [],.int .u8 0,.str []] 1 [(0,T 21)]),E (.build [.int .u8 0,.str [],.str [],.ro 3 [] true,.str [],.ro 6 [] true] [(0,1,.c (.int .u8 5)),(1,1,.c (.str [116,97,103])),(3,1,T 22)]),E (.buildS [.int .u8 0,.str [],.str [],.ro 3 [] true,.str [],.ro 6 [] true] 2 [(0,T 20),(1,T 23)]),E (.build [.int .u8 0,.str [],.str [],.ro 3 [] true,.str [],.ro 6 [] true] [(0,1,.c (.int .u8 1)),(1,1,.c (.str [114,111,119])),(5,1,T 24)]),d 5 (E (.alloc [.int .u8 0,.str [],.str [],.ro 3 [] true,.str [],.ro 6 [] true])),n (st 6 5 25)]) (r (Q 26 [h 6 3,m 0,E (.bin .rem (T 27) (.c (.int .u8 7))),E (.cvt .i64 (T 28)),E (.bin .add (N 10) (T 29)),m 0,E (.bin .rem (T 31) (.c (.int .u8 4))),E (.cvt .i64 (T 32)),E (.build [.int .u8 0,.str [],.str [],.ro 3 [] true,.str [],.ro 6 [] true,.int .i64 0,.bool false,.int .i64 0] [(0,6,T 26),(6,1,T 30),(8,1,T 33)]),h 6 4,m 0,E (.bin .rem (T 36) (.c (.int .u8 3))),E (.cvt .i64 (T 37)),E (.bin .add (N 6) (T 38)),m 0,E (.bin .quo (T 40) (.c (.int .u8 4))),E (.bin .rem (T 41) (.c (.int .u8 3))),E (.cvt .i64 (T 42)),E (.build [.int .u8 0,.str [],.str [],.ro 3 [] true,.str [],.ro 6 [] true,.int .i64 0,.bool false,.int .i64 0] [(0,6,T 35),(6,1,T 39),(7,1,.c (.bool true)),(8,1,T 43)]),h 6 5,m 0,E (.bin .rem (T 46) (.c (.int .u8 16))),E (.bin .eql (T 47) (.c (.int .u8 15))),m 0,E (.bin .quo (T 49) (.c (.int .u8 8))),E (.bin .rem (T 50) (.c (.int .u8 3))),E (.cvt .i64 (T 51)),E (.build [.int .u8 0,.str [],.str [],.ro 3 [] true,.str [],.ro 6 [] true,.int .i64 0,.bool false,.int .i64 0] [(0,6,T 45),(6,1,N 20),(7,1,T 48),(8,1,T 52)]),E (.buildS [.int .u8 0,.str [],.str [],.ro 3 [] true,.str [],.ro 6 [] true,.int .i64 0,.bool false,.int .i64 0] 3 [(0,T 34),(1,T 44),(2,T 53)]),d 2 (m 54)] [2]))))))⟩
def w140 : WFn := ⟨1,[.tmp 2],zd (s (O 1 [bx 0,i 0]) (s (O 6 [h 6 1,ca 282 [6],d 5 (m 7),ex 0 5,ex 1 5,d 3 (m 8),d 4 (m 9)]) (r (O 10 [m 3,d 2 (m 10)]))))⟩
def w256 : WFn := ⟨2,[.tmp 4,.tmp 5],zd (s (O 2 [bx 0,bx 1,i 0,i 0]) (s (O 6 [f 0 2,l 1 6,E (.bin .rem (T 7) (.c (.int .u8 200))),E (.cvt .i64 (T 8)),E (.bin .add (N 1) (T 9)),d 5 (m 10)]) (r (V 11 [f 1 2,l 1 11,E (.cvt .i64 (T 12)),f 0 3,l 1 14,m 5,ca 327 [15,16],adi 17 1,E (.bin .rem (T 13) (T 18)),m 5,d 4 (m 19),d 5 (m 20)] [(1,6)] ⟨false,[],[]⟩))))⟩
def w111_c0 : WCode := zd (r (O 25 [m 3,d 2 (m 25)]))
def w111_B0 : WCode := zd (s (O 11 [lt 10 9]) (s (cc 11 (w .skip) (ee 0)) (s (B 1 (s (O 12 [ix 6 8 10,h 6 12,d 5 (E (.alloc [.int .u64 0,.int .u8 0,.str [],.ro 1 [] true,.int .i64 0,.bool false])),n (st 6 5 13)]) (s (O 14 [f 4 5,l 1 14,E (.mx (T 15) (N 0)),d 6 (m 16)]) (s (s (O 17 [m 6,m 3,E (.bin .sub (N 4611686018427387904) (T 18)),gt 17 19]) (c 20 (r (O 2 [i 4611686018427387905])))) (O 21 [m 3,m 6,ad 21 22,d 3 (m 23)]))))) (O 24 [adi 10 1,d 10 (m 24)]))))
def w111_L0 : WCode := .loop ⟨true,[10,9,8,3],[]⟩ w111_B0
def w111 : WFn := ⟨1,[.tmp 2],zd (s (O 1 [bx 0,i 0]) (s (O 3 [i 0]) (s (s (Q 7 [f 0 1,l 1 7,ln 1 8,i 0] [10,9,8,3]) (bk 0 w111_L0 ⟨true,[3],[]⟩)) w111_c0)))⟩
@[simp] theorem w111_E0 : ZL w111_L0 w111_B0 ⟨true,[10,9,8,3],[]⟩ := ck_lp rfl
noncomputable abbrev w111_K0 (C : WProg) (s : WSt) : Option AV := CK C 0 (pureFin [.tmp 2]) [.sq w111_L0,.bk 0 ⟨true,[3],[]⟩,.sq w111_c0] w111_B0 s
def w309 : WFn := ⟨2,[.cell 4 4 true,.tmp 5],zd (s (R 3 [bx 1,E (.alloc [.int .i64 0,.int .i64 0,.int .i64 0,.int .i64 0]),i 0] ⟨true,[4,3,0],[(3,65536)]⟩) (s (O 7 [m 0,E (.mkfn 450 [T 3]),ca 446 [7,8],d 6 (m 9)]) (s (s (O 10 [m 6,lti 10 0]) (c 11 (r (O 12 [E (.build [.int .i64 0,.int .i64 0,.int .i64 0,.int .i64 0] []),n (st 4 4 12),d 5 (i 11)])))) (r (O 13 [m 0,m 6,ix 4 13 14,h 4 15,n (st 4 4 16),d 5 (i 0)])))))⟩
def w146_c0 : WCode := zd (r (V 34 [h 2 3,h 1 4,n (st 2 0 34),n (st 1 1 35)] [(1,2)] ⟨false,[],[]⟩))
def w146_B0 : WCode := zd (s (s (O 13 [m 5,lti 13 4]) (cc 14 (w .skip) (ee 0))) (s (B 1 (U 17 [f 0 4,l 1 17,m 5,adi 19 1,E (.cvt .u64 (T 20)),m 5,E (.bin .rem (T 22) (N 2)),E (.cvt .u8 (T 23)),E (.build [.int .u64 0,.int .u8 0,.str [],.ro 1 [] true] [(0,1,T 21),(1,1,T 24)]),E (.buildS [.int .i64 0] 4 [(0,N 10),(1,N 20),(2,N 5),(3,N 30)]),m 5,ix 1 26 27,l 1 28,E (.build [.int .u64 0,.int .u8 0,.str [],.ro 1 [] true,.int .i64 0,.bool false] [(0,4,T 25),(4,1,T 29),(5,1,.c (.bool true))]),E (.buildS [.int .u64 0,.int .u8 0,.str [],.ro 1 [] true,.int .i64 0,.bool false] 1 [(0,T 30)]),E (.app [.int .u64 0,.int .u8 0,.str [],.ro 1 [] true,.int .i64 0,.bool false] 72 false (T 18) (T 31)),f 0 4,n (st 1 33 32)] [(1,9),(1,14)] [5,4,3,1,0])) (O 15 [m 5,adi 15 1,d 5 (m 16)])))
def w146_L0 : WCode := .loop ⟨true,[5,4,3,1,0],[]⟩ w146_B0
def w146 : WFn := ⟨0,[.cell 0 2 true,.cell 1 1 true],zd (s (O 0 [E (.alloc [.ro 9 [] true,.int .i64 0]),E (.alloc [.ro 6 [] true])]) (s (O 6 [E (.build [.int .u8 0,.str [],.str [],.ro 3 [] true,.str [],.ro 6 [] true] [(0,1,.c (.int .u8 1)),(1,1,.c (.str [114,111,119]))]),d 2 (E (.alloc [.int .u8 0,.str [],.str [],.ro 3 [] true,.str [],.ro 6 [] true])),n (st 6 2 6)]) (s (O 7 [h 6 2,E (.build [.int .u8 0,.str [],.str [],.ro 3 [] true,.str [],.ro 6 [] true,.int .i64 0,.bool false,.int .i64 0] [(0,6,T 7),(6,1,N 1)]),h 6 2,E (.build [.int .u8 0,.str [],.str [],.ro 3 [] true,.str [],.ro 6 [] true,.int .i64 0,.bool false,.int .i64 0] [(0,6,T 9),(6,1,N 1),(7,1,.c (.bool true))]),E (.buildS [.int .u8 0,.str [],.str [],.ro 3 [] true,.str [],.ro 6 [] true,.int .i64 0,.bool false,.int .i64 0] 2 [(0,T 8),(1,T 10)]),E (.build [.ro 9 [] true,.int .i64 0] [(0,1,T 11),(1,1,N 1)]),d 3 (E (.alloc [.ro 9 [] true,.int .i64 0])),n (st 2 3 12)]) (s (O 4 [E (.alloc [.ro 6 [] true])]) (s (s (O 5 [i 0]) (bk 0 w146_L0 ⟨true,[4,3,1,0],[]⟩)) w146_c0)))))⟩
@[simp] theorem w146_E0 : ZL w146_L0 w146_B0 ⟨true,[5,4,3,1,0],[]⟩ := ck_lp rfl
def w270_c0 : WCode := zd (r (O 32 [m 3,d 2 (m 32)]))
def w270_B0 : WCode := zd (s (s (Q 6 [m 4,f 0 1,l 1 7,ln 1 8,lt 6 9,m 10,y 11 (m 4),y 11 (lti 12 12),pa 11 13] [14,4,3,1]) (cc 14 (w .skip) (ee 0))) (s (B 1 (s (O 17 [f 0 1,l 1 17,m 4,ix 4 18 19,h 4 20,ca 422 [21],d 5 (E (.alloc [.int .u64 0,.int .u8 0,.str [],.ro 1 [] true])),n (st 4 5 22)]) (s (O 23 [m 3,f 0 5,l 1 24,ca 423 [23,25],lti 26 0]) (c 27 (O 28 [m 3,h 4 5,E (.buildS [.int .u64 0,.int .u8 0,.str [],.ro 1 [] true] 1 [(0,T 29)]),E (.app [.int .u64 0,.int .u8 0,.str [],.ro 1 [] true] 56 false (T 28) (T 30)),d 3 (m 31)]))))) (O 15 [m 4,adi 15 1,d 4 (m 16)])))
def w270_L0 : WCode := .loop ⟨true,[4,3,1],[]⟩ w270_B0
def w270 : WFn := ⟨1,[.tmp 2],zd (s (O 1 [bx 0,E (.mv (.c (.ro 4 [] true)))]) (s (R 3 [E (.mv (.c (.ro 4 [] true)))] ⟨true,[3,1],[(3,4)]⟩) (s (s (O 4 [i 0]) (bk 0 w270_L0 ⟨true,[3],[]⟩)) w270_c0)))⟩
@[simp] theorem w270_E0 : ZL w270_L0 w270_B0 ⟨true,[4,3,1],[]⟩ := ck_lp rfl
noncomputable abbrev w270_K0 (C : WProg) (s : WSt) : Option AV := CK C 0 (pureFin [.tmp 2]) [.sq w270_L0,.bk 0 ⟨true,[3],[]⟩,.sq w270_c0] w270_B0 s
def w271 : WFn := ⟨3,[.tmp 6],zd (s (O 3 [bx 0,bx 1,d 6 (i 0)]) (s (s (O 9 [h 4 4,f 0 3,l 1 10,ln 1 11,ca 424 [9,12],gti 13 0]) (c 14 (r (O 6 [i 6])))) (s (s (Q 15 [m 2,eqi 15 1] [16,4,3]) (c 16 (r (O 6 [i 8])))) (s (V 18 [f 0 3,l 1 18,f 1 4,l 1 20,ix 9 19 21,f 0 22,h 6 23,h 4 4,f 1 3,l 1 26,ca 425 [24,25,27],d 17 (m 28),ex 0 17,ex 1 17,d 7 (E (.alloc [.int .u8 0,.str [],.str [],.ro 2 [] true,.str [],.ro 6 [] true])),n (st 6 7 29),d 8 (m 30)] [(1,14),(3,14),(6,14),(7,14),(9,14),(10,14)] ⟨false,[],[]⟩) (s (s (O 31 [m 8,gti 31 0]) (c 32 (r (O 6 [i 14])))) (r (O 6 [i 0])))))))⟩
def w240 : WFn := ⟨2,[.cell 4 6 true],zd (s (O 2 [bx 0,bx 1,E (.alloc [.int .u64 0,.int .u8 0,.str [],.ro 1 [] true,.int .i64 0,.bool false])]) (r (V 5 [h 4 3,f 0 2,l 1 6,f 1 3,l 1 8,ix 9 7 9,f 6 10,l 1 11,E (.build [.int .u64 0,.int .u8 0,.str [],.ro 1 [] true,.int .i64 0,.bool false] [(0,4,T 5),(4,1,T 12)]),n (st 6 4 13)] [] ⟨false,[],[]⟩)))⟩
def w407 : WFn := ⟨1,[.tmp 2],zd (s (O 2 [i 0]) (s (s (O 3 [m 0,ca 504 [3],gti 4 4611686018427387904]) (c 5 (r (O 2 [i 13])))) (r (O 2 [i 0]))))⟩
def w236_c0 : WCode := zd (r (O 2 [i 0]))
def w236_B0 : WCode := zd (s (s (O 24 [m 3,f 0 1,l 1 25,ln 1 26,lt 24 27]) (cc 28 (w .skip) (ee 0))) (s (B 1 (s (Q 31 [f 0 1,l 1 31,m 3,ix 9 32 33,f 6 34,l 1 35,lti 36 1,m 37,z 38 (f 0 1),z 38 (l 1 39),z 38 (m 3),z 38 (ix 9 40 41),z 38 (f 6 42),z 38 (l 1 43),z 38 (gti 44 2305843009213693952),po 38 45,m 46,z 47 (f 0 1),z 47 (l 1 48),z 47 (m 3),z 47 (ix 9 49 50),z 47 (f 0 51),z 47 (h 6 52),z 47 (ca 408 [53]),z 47 (gti 54 0),po 47 55] [56,3,1]) (c 56 (r (O 2 [i 7]))))) (O 29 [m 3,adi 29 1,d 3 (m 30)])))
def w236_L0 : WCode := .loop ⟨true,[3,1],[]⟩ w236_B0
def w236 : WFn := ⟨1,[.tmp 2],zd (s (O 1 [bx 0,i 0]) (s (s (Q 4 [f 0 1,l 1 4,ln 1 5,eqi 6 0,m 7,z 8 (f 0 1),z 8 (l 1 9),z 8 (ln 1 10),z 8 (gti 11 8),po 8 12,m 13,z 14 (f 1 1),z 14 (l 1 15),z 14 (lti 16 1),po 14 17,m 18,z 19 (f 1 1),z 19 (l 1 20),z 19 (gti 21 64),po 19 22] [23,1]) (c 23 (r (O 2 [i 7])))) (s (s (O 3 [i 0]) (bk 0 w236_L0 ⟨true,[],[]⟩)) w236_c0)))⟩
@[simp] theorem w236_E0 : ZL w236_L0 w236_B0 ⟨true,[3,1],[]⟩ := ck_lp rfl
noncomputable abbrev w236_K0 (C : WProg) (s : WSt) : Option AV := CK C 0 (pureFin [.tmp 2]) [.sq w236_L0,.bk 0 ⟨true,[],[]⟩,.sq w236_c0] w236_B0 s
def w406 : WFn := ⟨1,[.tmp 2],zd (s (O 2 [i 0]) (s (s (O 3 [m 0]) (c 3 (r (O 2 [i 1])))) (r (O 2 [i 0]))))⟩
def w239_c0 : WCode := zd (r (O 4 [i (-1)]))
def w239_B0 : WCode := zd (s (s (O 6 [m 5,m 0,ln 1 7,lt 6 8]) (cc 9 (w .skip) (ee 0))) (s (B 1 (s (O 12 [m 0,m 5,ix 6 12 13,f 0 14,f 0 15,l 1 16,m 1,eq 17 18]) (c 19 (r (O 20 [m 5,d 4 (m 20)]))))) (O 10 [m 5,adi 10 1,d 5 (m 11)])))
def w239_L0 : WCode := .loop ⟨true,[5,1,0],[]⟩ w239_B0
def w239 : WFn := ⟨2,[.tmp 4],zd (s (O 4 [i 0]) (s (s (O 5 [i 0]) (bk 0 w239_L0 ⟨true,[],[]⟩)) w239_c0))⟩
@[simp] theorem w239_E0 : ZL w239_L0 w239_B0 ⟨true,[5,1,0],[]⟩ := ck_lp rfl
noncomputable abbrev w239_K0 (C : WProg) (s : WSt) : Option AV := CK C 0 (pureFin [.tmp 4]) [.sq w239_L0,.bk 0 ⟨true,[],[]⟩,.sq w239_c0] w239_B0 s
def w253_c0 : WCode := zd (r (O 19 [m 5,d 4 (m 19)]))
def w253_B0 : WCode := zd (s (s (O 7 [m 6,m 1,lt 7 8]) (cc 9 (w .skip) (ee 0))) (s (B 1 (O 12 [m 5,m 0,m 6,ix 6 13 14,f 4 15,l 1 16,ad 12 17,d 5 (m 18)])) (O 10 [m 6,adi 10 1,d 6 (m 11)])))
def w253_L0 : WCode := .loop ⟨true,[6,5,1,0],[]⟩ w253_B0
def w253 : WFn := ⟨2,[.tmp 4],zd (s (O 4 [i 0]) (s (O 5 [i 0]) (s (s (O 6 [i 0]) (bk 0 w253_L0 ⟨true,[5],[]⟩)) w253_c0)))⟩
@[simp] theorem w253_E0 : ZL w253_L0 w253_B0 ⟨true,[6,5,1,0],[]⟩ := ck_lp rfl
noncomputable abbrev w253_K0 (C : WProg) (s : WSt) : Option AV := CK C 0 (pureFin [.tmp 4]) [.sq w253_L0,.bk 0 ⟨true,[5],[]⟩,.sq w253_c0] w253_B0 s
def w303 : WFn := ⟨3,[.tmp 6,.tmp 7,.tmp 8],zd (s (R 3 [bx 0,bx 1,bx 2,E (.mv (.c (.ro 4 [] true))),i 0,i 0] ⟨true,[5,4,3],[(3,65536),(4,65536),(5,65536)]⟩) (s (O 10 [h 2 3,h 1 4,ca 152 [10,11],d 9 (m 12),ex 0 9,ex 1 9,d 6 (m 13),d 8 (m 14)]) (s (s (O 15 [m 8,nei 15 0]) (c 16 (r (Q 6 [d 17 (m 8),E (.mv (.c (.ro 4 [] true))),i (-1),m 17] [8,7,6])))) (s (O 18 [m 6,E (.mkfn 447 [T 5]),ca 446 [18,19],d 7 (m 20)]) (s (s (O 21 [m 7,lti 21 0,m 22,y 23 (l 1 5),y 23 (nei 24 0),y 23 (m 25),z 26 (m 6),z 26 (ln 1 27),z 26 (gti 28 0),y 23 (po 26 29),pa 23 30]) (c 31 (r (O 6 [E (.mv (.c (.ro 4 [] true))),i (-1),i 4])))) (r (O 6 [d 32 (m 6),d 33 (m 7),m 32,m 33,i 0])))))))⟩
def w223_c0 : WCode := zd (r (O 79 [h 1 3,ca 227 [79],d 4 (m 80)]))
def w223_B0 : WCode := zd (s (O 26 [lt 25 24]) (s (cc 26 (w .skip) (ee 0)) (s (B 1 (s (O 27 [ix 6 23 25,h 6 27,d 8 (E (.alloc [.int .u64 0,.int .u8 0,.str [],.ro 1 [] true,.int .i64 0,.bool false])),n (st 6 8 28)]) (s (s (O 29 [f 0 8,h 4 29,f 0 2,l 1 31,ln 1 32,ca 398 [30,33],d 9 (m 34)]) (s (O 35 [m 9,nei 35 0]) (c 36 (r (O 37 [m 9,d 4 (m 37)]))))) (s (s (Q 38 [m 6,f 0 8,f 0 39,l 1 40,E (.look 0 (.bool false) false (T 38) (T 41))] [42,25,24,23,8,6,3,2]) (c 42 (r (O 4 [i 8])))) (s (O 43 [m 6,f 0 8,f 0 44,l 1 45,n (E (.upd 0 (T 43) (T 46) (.c (.bool true))))]) (s (s (O 48 [h 2 2,f 0 8,h 4 49,ca 399 [48,50],d 47 (m 51),ex 0 47,ex 1 47,d 10 (E (.alloc [.int .u8 0,.str [],.str [],.ro 2 [] true,.str [],.ro 6 [] true])),n (st 6 10 52),d 11 (m 53)]) (s (O 54 [m 11,nei 54 0]) (c 55 (r (O 4 [i 14]))))) (s (U 56 [f 4 8,l 1 56,ca 225 [57],nt 58,m 59,z 60 (f 5 8),z 60 (l 1 61),z 60 (nt 62),z 60 (m 63),y 64 (f 4 8),y 64 (l 1 65),y 64 (f 0 2),y 64 (l 1 67),y 64 (f 0 8),y 64 (f 1 69),y 64 (l 1 70),y 64 (ix 9 68 71),y 64 (f 6 72),y 64 (l 1 73),y 64 (ne 66 74),z 60 (pa 64 75),po 60 76] [] [77,25,24,23,6,3,2]) (c 77 (r (O 4 [i 12])))))))))) (O 78 [adi 25 1,d 25 (m 78)]))))
def w223_L0 : WCode := .loop ⟨true,[25,24,23,6,3,2],[]⟩ w223_B0
def w223 : WFn := ⟨2,[.tmp 4],zd (s (O 2 [bx 0,bx 1,i 0]) (s (s (O 12 [h 2 2,ca 115 [12],d 5 (m 13)]) (s (O 14 [m 5,nei 14 0]) (c 15 (r (O 16 [m 5,d 4 (m 16)]))))) (s (s (Q 17 [f 0 3,l 1 17,ln 1 18,gti 19 1024] [20,3,2]) (c 20 (r (O 4 [i 3])))) (s (O 21 [E .mkmap,d 6 (m 21)]) (s (s (O 22 [f 0 3,l 1 22,ln 1 23,i 0]) (bk 0 w223_L0 ⟨true,[3],[]⟩)) w223_c0)))))⟩
@[simp] theorem w223_E0 : ZL w223_L0 w223_B0 ⟨true,[25,24,23,6,3,2],[]⟩ := ck_lp rfl
noncomputable abbrev w223_K0 (C : WProg) (s : WSt) : Option AV := CK C 0 (pureFin [.tmp 4]) [.sq w223_L0,.bk 0 ⟨true,[3],[]⟩,.sq w223_c0] w223_B0 s
def w448 : WFn := ⟨1,[.tmp 2],zd (s (O 2 [E (.mv (.c (.ro 1 [] true)))]) (s (s (O 4 [m 0,ln 1 4,eqi 5 0]) (c 6 (r (O 2 [E (.mv (.c (.ro 1 [] true)))])))) (s (O 7 [m 0,ln 1 7,E (.mksl [.int .i64 0] 8 (T 8) (T 8)),d 3 (m 9)]) (s (O 10 [m 3,m 0,E (.cpy 1 (T 10) (T 11))]) (r (O 13 [m 3,d 2 (m 13)]))))))⟩
def w306 : WFn := ⟨1,[.tmp 2],zd (s (O 2 [E (.mv (.c (.ro 4 [] true)))]) (s (s (O 4 [m 0,ln 1 4,eqi 5 0]) (c 6 (r (O 2 [E (.mv (.c (.ro 4 [] true)))])))) (s (O 7 [m 0,ln 1 7,E (.mksl [.int .i64 0,.int .i64 0,.int .i64 0,.int .i64 0] 32 (T 8) (T 8)),d 3 (m 9)]) (s (O 10 [m 3,m 0,E (.cpy 4 (T 10) (T 11))]) (r (O 13 [m 3,d 2 (m 13)]))))))⟩
def w307_c0 : WCode := zd (s (O 96 [l 1 4,n (st 1 4 96)]) (ee 999999))
def w307_B0 : WCode := zd (s (O 22 [lt 21 20]) (s (cc 22 (w .skip) (ee 0)) (s (B 1 (s (O 23 [m 21,d 7 (m 23)]) (s (O 25 [m 1,m 7,ca 421 [25,26],d 24 (m 27),ex 0 24,ex 1 24,d 8 (m 28),d 9 (m 29)]) (s (Q 30 [l 1 4,ln 1 30,sbi 31 1,d 10 (m 32)] [21,20,17,10,9,7,5,4,2,1]) (s (s (O 33 [m 9,m 33,y 34 (m 10),y 34 (gei 35 0),pa 34 36]) (c 37 (s (V 38 [l 1 4,m 10,l 1 4,m 10,l 1 5,m 7,ix 1 42 43,l 1 44,l 1 5,m 7,ix 1 46 47,l 1 48,ix 4 38 39,f 2 50,n (st 1 51 45),ix 4 40 41,f 3 52,n (st 1 53 49)] [(2,14)] ⟨false,[],[]⟩) (s (Q 54 [l 1 4,m 10,ix 4 54 55,f 0 56,l 1 57,d 11 (m 58)] [21,20,17,11,10,9,7,5,4,2,1]) (s (O 59 [m 11,gei 59 0]) (c 60 (V 61 [l 1 4,m 10,l 1 5,m 7,ix 1 63 64,l 1 65,f 0 2,l 1 67,m 11,ix 6 68 69,f 4 70,l 1 71,sb 66 72,adi 73 1,ix 4 61 62,f 3 75,n (st 1 76 74)] [] ⟨false,[],[]⟩))))))) (B 2 (s (Q 78 [m 9,d 77 (m 78)] [77,21,20,17,10,7,5,4,2,1]) (cc 77 (V 79 [l 1 4,m 7,l 1 5,m 7,ix 1 81 82,l 1 83,E (.build [.int .i64 0,.int .i64 0,.int .i64 0,.int .i64 0] [(0,1,T 80),(1,1,T 84)]),E (.buildS [.int .i64 0,.int .i64 0,.int .i64 0,.int .i64 0] 1 [(0,T 85)]),E (.app [.int .i64 0,.int .i64 0,.int .i64 0,.int .i64 0] 32 false (T 79) (T 86)),n (st 1 4 87)] [(0,7)] ⟨false,[],[]⟩) (s (O 89 [m 10,lti 89 0,d 88 (m 90)]) (c 88 (O 91 [l 1 4,E (.build [.int .i64 0,.int .i64 0,.int .i64 0,.int .i64 0] [(0,1,N (-1))]),E (.buildS [.int .i64 0,.int .i64 0,.int .i64 0,.int .i64 0] 1 [(0,T 92)]),E (.app [.int .i64 0,.int .i64 0,.int .i64 0,.int .i64 0] 32 false (T 91) (T 93)),n (st 1 4 94)]))))))))))) (O 95 [adi 21 1,d 21 (m 95)]))))
def w307_L0 : WCode := .loop ⟨true,[21,20,17,5,4,2,1],[]⟩ w307_B0
def w307_c1 : WCode := zd (s (bk 999999 (s (s (O 18 [f 0 2,l 1 18,ln 1 19,i 0]) (bk 0 w307_L0 ⟨true,[17,4],[]⟩)) w307_c0) ⟨true,[17,4],[]⟩) (O 0 [n (E (.callv (T 17) []))]))
def w307 : WFn := ⟨2,[.cell 4 1 false],zd (s (R 4 [d 2 (bx 0),E (.alloc [.ro 4 [] true])] ⟨true,[4,2,1],[(2,65536)]⟩) (s (O 13 [h 1 2,ca 246 [13],d 12 (m 14),ex 0 12,ex 1 12,d 5 (E (.alloc [.ro 1 [] true])),n (st 1 5 15),d 6 (m 16)]) (s (O 17 [E (.mkfn 449 [T 4,T 5])]) w307_c1)))⟩
@[simp] theorem w307_E0 : ZL w307_L0 w307_B0 ⟨true,[21,20,17,5,4,2,1],[]⟩ := ck_lp rfl
noncomputable abbrev w307_K0 (C : WProg) (s : WSt) : Option AV := CK C 0 (pureFin [.cell 4 1 false]) [.sq w307_L0,.bk 0 ⟨true,[17,4],[]⟩,.sq w307_c0,.bk 999999 ⟨true,[17,4],[]⟩,.sq (.ops [⟨none,none,.callv (.t 17) []⟩] ⟨false,[],[]⟩)] w307_B0 s
def w2010_c0 : WCode := zd (s (O 96 [l 1 4,n (st 1 4 96)]) (ee 999999))
def w2010_B0 : WCode := zd (s (O 22 [lt 21 20]) (s (cc 22 (w .skip) (ee 0)) (s (B 1 (s (O 23 [m 21,d 7 (m 23)]) (s (O 25 [m 1,m 7,ca 421 [25,26],d 24 (m 27),ex 0 24,ex 1 24,d 8 (m 28),d 9 (m 29)]) (s (Q 30 [l 1 4,ln 1 30,sbi 31 1,d 10 (m 32)] [21,20,17,10,9,7,5,4,2,1]) (s (s (O 33 [m 9,m 33,y 34 (m 10),y 34 (gei 35 0),pa 34 36]) (c 37 (s (V 38 [l 1 4,m 10,l 1 4,m 10,l 1 5,m 7,ix 1 42 43,l 1 44,l 1 5,m 7,ix 1 46 47,l 1 48,ix 4 38 39,f 2 50,n (st 1 51 45),ix 4 40 41,f 3 52,n (st 1 53 49)] [(2,14)] ⟨false,[],[]⟩) (s (Q 54 [l 1 4,m 10,ix 4 54 55,f 0 56,l 1 57,d 11 (m 58)] [21,20,17,11,10,9,7,5,4,2,1]) (s (O 59 [m 11,gei 59 0]) (c 60 (V 61 [l 1 4,m 10,l 1 5,m 7,ix 1 63 64,l 1 65,f 0 2,l 1 67,m 11,ix 6 68 69,f 4 70,l 1 71,sb 66 72,adi 73 1,ix 4 61 62,f 3 75,n (st 1 76 74)] [] ⟨false,[],[]⟩))))))) (B 2 (s (Q 78 [m 9,d 77 (m 78)] [77,21,20,17,10,7,5,4,2,1]) (cc 77 (V 79 [l 1 4,m 7,l 1 5,m 7,ix 1 81 82,l 1 83,E (.build [.int .i64 0,.int .i64 0,.int .i64 0,.int .i64 0] [(0,1,T 80),(1,1,T 84)]),E (.buildS [.int .i64 0,.int .i64 0,.int .i64 0,.int .i64 0] 1 [(0,T 85)]),E (.app [.int .i64 0,.int .i64 0,.int .i64 0,.int .i64 0] 32 false (T 79) (T 86)),n (st 1 4 87)] [(0,7)] ⟨false,[],[]⟩) (s (O 89 [m 10,lti 89 0,d 88 (m 90)]) (c 88 (O 91 [l 1 4,E (.build [.int .i64 0,.int .i64 0,.int .i64 0,.int .i64 0] [(0,1,N (-1))]),E (.buildS [.int .i64 0,.int .i64 0,.int .i64 0,.int .i64 0] 1 [(0,T 92)]),E (.app [.int .i64 0,.int .i64 0,.int .i64 0,.int .i64 0] 32 false (T 91) (T 93)),n (st 1 4 94)]))))))))))) (O 95 [adi 21 1,d 21 (m 95)]))))
def w2010_L0 : WCode := .loop ⟨true,[21,20,17,5,4,2,1],[]⟩ w2010_B0
def w2010_c1 : WCode := zd (s (bk 999999 (s (s (O 18 [f 0 2,l 1 18,ln 1 19,i 0]) (bk 0 w2010_L0 ⟨true,[17,4],[]⟩)) w2010_c0) ⟨true,[17,4],[]⟩) (O 0 [n (E (.callv (T 17) []))]))
def w2010 : WFn := ⟨2,[.cell 4 1 false],zd (s (Q 4 [d 2 (bx 0),E (.alloc [.ro 4 [] true])] [4,2,1]) (s (O 13 [h 1 2,ca 2015 [13],d 12 (m 14),ex 0 12,ex 1 12,d 5 (E (.alloc [.ro 1 [] true])),n (st 1 5 15),d 6 (m 16)]) (s (O 17 [E (.mkfn 449 [T 4,T 5])]) w2010_c1)))⟩
@[simp] theorem w2010_E0 : ZL w2010_L0 w2010_B0 ⟨true,[21,20,17,5,4,2,1],[]⟩ := ck_lp rfl
def w304 : WFn := ⟨2,[.tmp 4],zd (s (O 2 [bx 0,bx 1,i 0]) (s (s (O 5 [f 0 2,l 1 5,f 0 3,f 1 7,l 1 8,ix 9 6 9,f 7 10,l 1 11]) (c 12 (r (O 4 [i 1])))) (r (O 4 [i 0]))))⟩
def w439 : WFn := ⟨1,[.tmp 2],zd (s (O 1 [bx 0,i 0]) (s (s (O 3 [h 6 1,ca 140 [3],eqi 4 0]) (c 5 (r (O 2 [i 14])))) (r (O 2 [i 0]))))⟩
def w246_c0 : WCode := zd (r (O 2 [d 39 (m 5),m 39,i 0]))
def w246_B0 : WCode := zd (s (Q 21 [lt 20 19] [21,20,19,5,1]) (s (cc 21 (w .skip) (ee 0)) (s (B 1 (s (O 22 [m 20,d 6 (m 22)]) (V 23 [m 5,m 6,adi 24 1,m 5,m 6,ix 1 26 27,l 1 28,f 0 1,l 1 30,m 6,ix 6 31 32,f 4 33,l 1 34,ad 29 35,ix 1 23 25,n (st 1 37 36)] [] ⟨false,[],[]⟩))) (O 38 [adi 20 1,d 20 (m 38)]))))
def w246_L0 : WCode := .loop ⟨true,[20,19,5,1],[]⟩ w246_B0
def w246 : WFn := ⟨1,[.tmp 2,.tmp 3],zd (s (O 1 [bx 0,E (.mv (.c (.ro 1 [] true))),i 0]) (s (s (O 7 [h 1 1,ca 122 [7],d 4 (m 8)]) (s (O 9 [m 4,nei 9 0]) (c 10 (r (O 2 [d 11 (m 4),E (.mv (.c (.ro 1 [] true))),m 11]))))) (s (O 12 [f 0 1,l 1 12,ln 1 13,adi 14 1,E (.mksl [.int .i64 0] 8 (T 15) (T 15)),d 5 (m 16)]) (s (s (O 17 [f 0 1,l 1 17,ln 1 18,i 0]) (bk 0 w246_L0 ⟨true,[5],[]⟩)) w246_c0))))⟩
@[simp] theorem w246_E0 : ZL w246_L0 w246_B0 ⟨true,[20,19,5,1],[]⟩ := ck_lp rfl
noncomputable abbrev w246_K0 (C : WProg) (s : WSt) : Option AV := CK C 0 (pureFin [.tmp 2,.tmp 3]) [.sq w246_L0,.bk 0 ⟨true,[5],[]⟩,.sq w246_c0] w246_B0 s
def w247 : WFn := ⟨2,[.tmp 4],zd (s (O 2 [bx 0,bx 1,i 0]) (r (O 5 [l 1 2,ln 1 5,sbi 6 1,E (.mkfn 412 [T 2,T 3]),ca 411 [7,8],d 4 (m 9)])))⟩
def w248 : WFn := ⟨3,[.tmp 6],zd (s (O 6 [d 3 (bx 0),i 0]) (s (s (O 8 [h 1 3,ca 122 [8],d 7 (m 9)]) (s (O 10 [m 7,nei 10 0]) (c 11 (r (Q 12 [m 7,d 6 (m 12)] [6]))))) (s (B 0 (s (O 14 [m 2,lti 14 1,m 15,z 16 (m 2),z 16 (gti 17 2147483648),po 16 18,d 13 (m 19)]) (cc 13 (r (O 6 [i 1])) (s (O 21 [m 1,lti 21 0,m 22,z 23 (m 1),z 23 (h 1 3),z 23 (ca 111 [25]),z 23 (m 2),z 23 (sb 26 27),z 23 (E (.mx (N 0) (T 28))),z 23 (gt 24 29),po 23 30,d 20 (m 31)]) (c 20 (r (O 6 [i 4]))))))) (r (O 6 [i 0])))))⟩
def w249 : WFn := ⟨2,[.tmp 4],zd (s (O 4 [ff]) (r (O 5 [m 0,m 1,ca 402 [5,6],gei 7 0,d 4 (m 8)])))⟩
def w250 : WFn := ⟨1,[.tmp 2],zd (s (O 1 [bx 0,ff]) (r (O 3 [f 4 1,l 1 3,lti 4 1,m 5,z 6 (f 4 1),z 6 (l 1 7),z 6 (gti 8 2305843009213693952),po 6 9,d 2 (m 10)])))⟩
def w262_c0 : WCode := zd (r (O 58 [m 6,m 7,d 6 (m 58),d 7 (m 59)]))
def w262_B0 : WCode := zd (s (O 21 [lt 20 19]) (s (cc 21 (w .skip) (ee 0)) (s (B 1 (s (O 22 [m 20,ix 6 18 20,h 6 23,d 11 (E (.alloc [.int .u64 0,.int .u8 0,.str [],.ro 1 [] true,.int .i64 0,.bool false])),d 10 (m 22),n (st 6 11 24)]) (s (s (O 25 [f 0 3,l 1 25,f 0 11,f 1 27,l 1 28,ix 9 26 29,f 7 30,l 1 31,nt 32]) (c 33 (ee 1))) (s (s (O 34 [m 8,m 10,ix 1 34 35,l 1 36,m 2,gt 37 38]) (c 39 (s (s (Q 40 [m 6,gei 40 0] [41,10,8,7,6,4,2]) (c 41 (V 42 [m 8,m 10,ix 1 42 43,l 1 44,m 2,sb 45 46,f 0 4,l 1 48,m 6,ix 6 49 50,f 4 51,l 1 52,sb 47 53,E (.mn (N 0) (T 54)),d 7 (m 55)] [] ⟨false,[],[]⟩))) (ee 0)))) (O 56 [m 10,d 6 (m 56)]))))) (O 57 [adi 20 1,d 20 (m 57)]))))
def w262_L0 : WCode := .loop ⟨true,[20,19,18,8,7,6,4,3,2],[]⟩ w262_B0
def w262 : WFn := ⟨3,[.tmp 6,.tmp 7],zd (s (O 6 [d 3 (bx 0),d 4 (bx 1),i 0,i 0]) (s (O 13 [h 1 4,ca 246 [13],d 12 (m 14),ex 0 12,ex 1 12,d 8 (m 15),d 9 (m 16)]) (s (O 6 [i (-1)]) (s (s (Q 17 [f 0 4,l 1 17,ln 1 18,i 0] [20,19,18,8,7,6,4,3,2]) (bk 0 w262_L0 ⟨true,[7,6],[]⟩)) w262_c0))))⟩
@[simp] theorem w262_E0 : ZL w262_L0 w262_B0 ⟨true,[20,19,18,8,7,6,4,3,2],[]⟩ := ck_lp rfl
noncomputable abbrev w262_K0 (C : WProg) (s : WSt) : Option AV := CK C 0 (pureFin [.tmp 6,.tmp 7]) [.sq w262_L0,.bk 0 ⟨true,[7,6],[]⟩,.sq w262_c0] w262_B0 s
def w263_c0 : WCode := zd (r (O 67 [m 11,d 8 (m 67)]))
def w263_B0 : WCode := zd (s (O 32 [lt 31 30]) (s (cc 32 (w .skip) (ee 0)) (s (B 1 (s (O 33 [m 31,d 12 (m 33)]) (s (O 34 [f 0 5,l 1 34,m 2,m 12,ad 36 37,ix 6 35 38,h 6 39,d 13 (E (.alloc [.int .u64 0,.int .u8 0,.str [],.ro 1 [] true,.int .i64 0,.bool false])),n (st 6 13 40)]) (s (Q 42 [h 2 4,h 6 13,E (.buildS [.int .u64 0,.int .u8 0,.str [],.ro 1 [] true,.int .i64 0,.bool false] 1 [(0,T 43)]),E (.build [.ro 6 [] true] [(0,1,T 44)]),E (.call 238 [T 42,T 45,N 0]),d 41 (m 46),ex 0 41,ex 1 41,d 14 (E (.alloc [.int .u8 0,.str [],.str [],.ro 2 [] true,.str [],.ro 6 [] true])),n (st 6 14 47),d 15 (m 48)] [31,30,14,13,12,11,9,5,4,2]) (V 49 [m 11,m 12,f 0 13,f 0 51,l 1 52,m 9,m 2,m 12,ad 55 56,ix 1 54 57,l 1 58,f 4 13,l 1 60,h 6 14,ca 418 [62],E (.build [.int .u64 0,.int .i64 0,.int .i64 0,.int .u8 0,.str [],.str [],.ro 2 [] true,.str [],.ro 6 [] true] [(0,1,T 53),(1,1,T 59),(2,1,T 61),(3,6,T 63)]),ix 9 49 50,n (st 9 65 64)] [(4,14),(10,14),(12,14)] ⟨false,[],[]⟩))))) (O 66 [adi 31 1,d 31 (m 66)]))))
def w263_L0 : WCode := .loop ⟨true,[31,30,11,9,5,4,2],[]⟩ w263_B0
def w263 : WFn := ⟨4,[.tmp 8],zd (s (O 4 [bx 0,bx 1,d 8 (E (.mv (.c (.ro 9 [] true))))]) (s (s (O 16 [m 2,m 3,eq 16 17]) (c 18 (r (O 8 [E (.mv (.c (.ro 9 [] true)))])))) (s (Q 20 [h 1 5,ca 246 [20],d 19 (m 21),ex 0 19,ex 1 19,d 9 (m 22),d 10 (m 23)] [9,5,4,3,2]) (s (O 24 [m 3,m 2,sb 24 25,E (.mksl [.int .u64 0,.int .i64 0,.int .i64 0,.int .u8 0,.str [],.str [],.ro 2 [] true,.str [],.ro 6 [] true] 128 (T 26) (T 26)),d 11 (m 27)]) (s (s (O 28 [m 3,m 2,sb 28 29,i 0]) (bk 0 w263_L0 ⟨true,[11],[]⟩)) w263_c0)))))⟩
@[simp] theorem w263_E0 : ZL w263_L0 w263_B0 ⟨true,[31,30,11,9,5,4,2],[]⟩ := ck_lp rfl
noncomputable abbrev w263_K0 (C : WProg) (s : WSt) : Option AV := CK C 0 (pureFin [.tmp 8]) [.sq w263_L0,.bk 0 ⟨true,[11],[]⟩,.sq w263_c0] w263_B0 s
def w264 : WFn := ⟨1,[.tmp 2],zd (s (O 2 [E (.mv (.c (.ro 9 [] true)))]) (r (O 3 [m 0,m 0,ln 1 4,m 0,ln 1 6,E (.slice 9 (T 3) none (some (T 5)) (some (T 7))),d 2 (m 8)])))⟩
def w265 : WFn := ⟨1,[.tmp 2],zd (w (.cln [.int .u64 0,.int .i64 0,.int .i64 0,.int .u8 0,.str [],.str [],.ro 2 [] true,.str [],.ro 6 [] true] 9 128))⟩
def w275_c0 : WCode := zd (s (O 36 [m 0,m 5,E (.slice 1 (T 36) (some (T 37)) none none),n (E (.clr [.int .i64 0] (T 38)))]) (r (O 39 [m 0,m 5,E (.slice 1 (T 39) none (some (T 40)) none),d 4 (m 41)])))
def w275_B0 : WCode := zd (s (s (O 16 [m 6,m 0,ln 1 17,lt 16 18]) (cc 19 (w .skip) (ee 0))) (s (B 1 (s (Q 22 [m 0,m 6,ix 1 22 23,l 1 24,d 7 (m 25)] [7,6,5,1,0]) (s (O 26 [m 1,m 7,E (.callv (T 26) [T 27]),nt 28]) (c 29 (s (O 30 [m 0,m 5,m 7,ix 1 30 31,n (st 1 33 32)]) (O 34 [m 5,adi 34 1,d 5 (m 35)])))))) (O 20 [m 6,adi 20 1,d 6 (m 21)])))
def w275_L0 : WCode := .loop ⟨true,[6,5,1,0],[]⟩ w275_B0
def w275 : WFn := ⟨2,[.tmp 4],zd (s (O 4 [E (.mv (.c (.ro 1 [] true)))]) (s (O 8 [m 0,m 1,ca 426 [8,9],d 5 (m 10)]) (s (s (O 11 [m 5,eqi 11 (-1)]) (c 12 (r (O 13 [m 0,d 4 (m 13)])))) (s (s (O 14 [m 5,adi 14 1,d 6 (m 15)]) (bk 0 w275_L0 ⟨true,[5,0],[]⟩)) w275_c0))))⟩
@[simp] theorem w275_E0 : ZL w275_L0 w275_B0 ⟨true,[6,5,1,0],[]⟩ := ck_lp rfl
def w276 : WFn := ⟨2,[.tmp 3],zd (s (O 3 [ff]) (r (O 4 [f 0 1,l 1 4,m 0,ix 6 5 6,f 5 7,l 1 8,d 3 (m 9)])))⟩
def w441 : WFn := ⟨1,[.tmp 2],zd (s (O 1 [bx 0,i 0]) (s (s (O 3 [h 6 1,ca 442 [3],eqi 4 0]) (c 5 (r (O 2 [i 14])))) (r (O 2 [i 0]))))⟩
def w442 : WFn := ⟨1,[.tmp 2],zd (s (O 1 [bx 0,i 0]) (s (O 4 [h 6 1,E (.call 520 [T 4,N 6]),d 3 (m 5)]) (s (s (O 6 [m 3,gti 6 64]) (c 7 (r (O 2 [i 0])))) (r (O 8 [m 3,d 2 (m 8)])))))⟩
def w282 : WFn := ⟨1,[.cell 2 1 false,.cell 3 1 false],zd (s (O 1 [bx 0,E (.alloc [.int .i64 0]),E (.alloc [.int .i64 0])]) (s (O 4 [E (.alloc [.nilf])]) (s (O 5 [E (.mkfn 433 [T 2,T 3,T 4]),n (st 1 4 5)]) (s (s (O 6 [l 1 4,E (.callv (T 6) [T 1,N 1]),nt 7]) (c 8 (r (O 0 [n (E (.store 1 (T 2) (N 0))),n (E (.store 1 (T 3) (N 0)))])))) (r (V 9 [l 1 2,l 1 3,n (st 1 2 9),n (st 1 3 10)] [(1,2)] ⟨false,[],[]⟩))))))⟩
def w327 : WFn := ⟨2,[.tmp 4],zd (s (O 4 [i 0]) (s (s (O 5 [m 0,m 0,ln 1 6,ca 253 [5,7],m 1,lt 8 9]) (c 10 (r (O 4 [i 0])))) (r (O 11 [m 0,m 0,ln 1 12,ca 253 [11,13],m 1,sb 14 15,d 4 (m 16)]))))⟩
def w446_c0 : WCode := zd (r (O 4 [i (-1)]))
def w446_B0 : WCode := zd (s (O 9 [lt 8 7]) (s (cc 9 (w .skip) (ee 0)) (s (B 1 (s (O 10 [m 8,d 5 (m 10)]) (s (O 11 [m 1,m 0,m 5,ix 4 12 13,h 4 14,E (.callv (T 11) [T 15])]) (c 16 (r (O 17 [m 5,d 4 (m 17)])))))) (O 18 [adi 8 1,d 8 (m 18)]))))
def w446_L0 : WCode := .loop ⟨true,[8,7,1,0],[]⟩ w446_B0
def w446 : WFn := ⟨2,[.tmp 4],zd (s (O 4 [i 0]) (s (s (O 6 [m 0,ln 1 6,i 0]) (bk 0 w446_L0 ⟨true,[],[]⟩)) w446_c0))⟩
@[simp] theorem w446_E0 : ZL w446_L0 w446_B0 ⟨true,[8,7,1,0],[]⟩ := ck_lp rfl
noncomputable abbrev w446_K0 (C : WProg) (s : WSt) : Option AV := CK C 0 (pureFin [.tmp 4]) [.sq w446_L0,.bk 0 ⟨true,[],[]⟩,.sq w446_c0] w446_B0 s
def w450 : WFn := ⟨2,[.tmp 3],zd (s (O 2 [bx 0,ff]) (r (O 4 [f 1 2,l 1 4,l 1 1,le 5 6,m 7,y 8 (l 1 1),y 8 (f 2 2),y 8 (l 1 10),y 8 (lt 9 11),pa 8 12,d 3 (m 13)])))⟩
def w225 : WFn := ⟨1,[.tmp 2],zd (s (O 2 [ff]) (r (O 3 [m 0,gei 3 1,m 4,y 5 (m 0),y 5 (lei 6 2305843009213693952),pa 5 7,d 2 (m 8)])))⟩
def w227 : WFn := ⟨1,[.tmp 2],zd (s (O 1 [bx 0,i 0]) (s (s (O 3 [h 1 1,ca 111 [3],gti 4 4611686018427387904]) (c 5 (r (O 2 [i 13])))) (r (O 2 [i 0]))))⟩
def w422_c0 : WCode := zd (s (s (O 45 [E (.idxa 4 1 (T 1) (N 3)),l 1 45,E (.bin .geq (T 46) (.c (.int .u8 240)))]) (c 47 (O 48 [f 3 3,l 1 48,E (.buildS [.str []] 2 [(0,.c (.str [97])),(1,.c (.str [97]))]),E (.app [.str []] 16 false (T 49) (T 50)),f 3 3,n (st 1 52 51)]))) (r (O 53 [h 4 3,n (st 4 2 53)])))
def w422_B0 : WCode := zd (s (s (O 20 [m 4,lti 20 3]) (cc 21 (w .skip) (ee 0))) (s (B 1 (s (O 24 [E (.idxa 4 1 (T 1) (N 3)),l 1 24,m 4,E (.bin .shr (T 25) (T 26)),E (.bin .and (T 27) (.c (.int .u8 1))),E (.bin .gtr (T 28) (.c (.int .u8 0)))]) (c 29 (U 30 [f 3 3,l 1 30,E (.buildS [.str []] 3 [(0,.c (.str [97])),(1,.c (.str [98,50])),(2,.c (.str [107,101,121]))]),m 4,E (.idxa 4 1 (T 1) (N 3)),l 1 34,E (.bin .quo (T 35) (.c (.int .u8 8))),E (.cvt .i64 (T 36)),ad 33 37,E (.bin .rem (T 38) (N 3)),ix 1 32 39,l 1 40,E (.buildS [.str []] 1 [(0,T 41)]),E (.app [.str []] 16 false (T 31) (T 42)),f 3 3,n (st 1 44 43)] [(1,2),(2,5),(1,12)] [4,3,2,1])))) (O 22 [m 4,adi 22 1,d 4 (m 23)])))
def w422_L0 : WCode := .loop ⟨true,[4,3,2,1],[]⟩ w422_B0
def w422 : WFn := ⟨1,[.cell 2 4 true],zd (s (O 1 [bx 0,E (.alloc [.int .u64 0,.int .u8 0,.str [],.ro 1 [] true])]) (s (U 5 [E (.idxa 4 1 (T 1) (N 0)),l 1 5,E (.bin .rem (T 6) (.c (.int .u8 60))),E (.cvt .u64 (T 7)),E (.bin .add (.c (.int .u64 1)) (T 8)),E (.idxa 4 1 (T 1) (N 1)),l 1 10,E (.bin .rem (T 11) (.c (.int .u8 3))),E (.buildS [.str []] 8 [(0,.c (.str [])),(1,.c (.str [97])),(2,.c (.str [114,111,119])),(3,.c (.str [116,119,111,32,119,111,114,100,115])),(4,.c (.str [32,32])),(5,.c (.str [126,33,45,44])),(6,.c (.str [97,32,108,111,110,103,101,114,32,116,101,120,116,32,111,102,32,116,104,105,115,32,107,105,110,100])),(7,.c (.str [57]))]),E (.idxa 4 1 (T 1) (N 2)),l 1 14,E (.bin .rem (T 15) (.c (.int .u8 8))),ix 1 13 16,l 1 17,E (.build [.int .u64 0,.int .u8 0,.str [],.ro 1 [] true] [(0,1,T 9),(1,1,T 12),(2,1,T 18)]),d 3 (E (.alloc [.int .u64 0,.int .u8 0,.str [],.ro 1 [] true])),n (st 4 3 19)] [(1,8),(6,8),(8,10),(1,15),(6,15),(8,15),(10,15),(13,15)] [3,2,1]) (s (s (O 4 [i 0]) (bk 0 w422_L0 ⟨true,[3,2,1],[]⟩)) w422_c0)))⟩
@[simp] theorem w422_E0 : ZL w422_L0 w422_B0 ⟨true,[4,3,2,1],[]⟩ := ck_lp rfl
noncomputable abbrev w422_K0 (C : WProg) (s : WSt) : Option AV := CK C 0 (pureFin [.cell 2 4 true]) [.sq w422_L0,.bk 0 ⟨true,[3,2,1],[]⟩,.sq w422_c0] w422_B0 s
def w423_c0 : WCode := zd (r (O 4 [i (-1)]))
def w423_B0 : WCode := zd (s (s (O 6 [m 5,m 0,ln 1 7,lt 6 8]) (cc 9 (w .skip) (ee 0))) (s (B 1 (s (O 12 [m 0,m 5,ix 4 12 13,f 0 14,l 1 15,m 1,eq 16 17]) (c 18 (r (O 19 [m 5,d 4 (m 19)]))))) (O 10 [m 5,adi 10 1,d 5 (m 11)])))
def w423_L0 : WCode := .loop ⟨true,[5,1,0],[]⟩ w423_B0
def w423 : WFn := ⟨2,[.tmp 4],zd (s (O 4 [i 0]) (s (s (O 5 [i 0]) (bk 0 w423_L0 ⟨true,[],[]⟩)) w423_c0))⟩
@[simp] theorem w423_E0 : ZL w423_L0 w423_B0 ⟨true,[5,1,0],[]⟩ := ck_lp rfl
noncomputable abbrev w423_K0 (C : WProg) (s : WSt) : Option AV := CK C 0 (pureFin [.tmp 4]) [.sq w423_L0,.bk 0 ⟨true,[],[]⟩,.sq w423_c0] w423_B0 s
def w424_c0 : WCode := zd (s (s (O 41 [m 5,eqi 41 1]) (c 42 (r (O 4 [i 0])))) (r (O 4 [i 6])))
def w424_B0 : WCode := zd (s (s (O 26 [m 6,f 3 2,l 1 27,ln 1 28,lt 26 29]) (cc 30 (w .skip) (ee 0))) (s (B 1 (O 33 [m 5,f 3 2,l 1 34,m 6,ix 1 35 36,l 1 37,ca 511 [38],E (.bin .mul (T 33) (T 39)),d 5 (m 40)])) (O 31 [m 6,adi 31 1,d 6 (m 32)])))
def w424_L0 : WCode := .loop ⟨true,[6,5,2],[]⟩ w424_B0
def w424 : WFn := ⟨2,[.tmp 4],zd (s (O 4 [d 2 (bx 0),i 0]) (s (O 7 [f 2 2,l 1 7,ca 510 [8],d 5 (m 9)]) (s (s (Q 10 [f 0 2,l 1 10,E (.bin .eql (T 11) (.c (.int .u64 0))),m 12,z 13 (m 1),z 13 (f 1 2),z 13 (l 1 15),z 13 (E (.cvt .i64 (T 16))),z 13 (le 14 17),po 13 18,m 19,z 20 (f 3 2),z 20 (l 1 21),z 20 (ln 1 22),z 20 (gti 23 8),po 20 24] [25,5,2]) (c 25 (O 5 [i 0]))) (s (s (O 6 [i 0]) (bk 0 w424_L0 ⟨true,[5],[]⟩)) w424_c0))))⟩
@[simp] theorem w424_E0 : ZL w424_L0 w424_B0 ⟨true,[6,5,2],[]⟩ := ck_lp rfl
noncomputable abbrev w424_K0 (C : WProg) (s : WSt) : Option AV := CK C 0 (pureFin [.tmp 4]) [.sq w424_L0,.bk 0 ⟨true,[5],[]⟩,.sq w424_c0] w424_B0 s
def w425 : WFn := ⟨3,[.cell 6 6 true,.tmp 7],zd (s (Q 6 [d 3 (bx 0),d 4 (bx 1),E (.alloc [.int .u8 0,.str [],.str [],.ro 2 [] true,.str [],.ro 6 [] true]),i 0] [6,4,3,2]) (s (s (O 9 [m 2,lti 9 1,m 10,z 11 (m 2),z 11 (gti 12 64),po 11 13]) (c 14 (r (O 15 [E (.build [.int .u8 0,.str [],.str [],.ro 2 [] true,.str [],.ro 6 [] true] []),n (st 6 6 15),d 7 (i 1)])))) (s (s (O 16 [h 6 3,ca 408 [16],nei 17 0]) (c 18 (r (O 19 [E (.build [.int .u8 0,.str [],.str [],.ro 2 [] true,.str [],.ro 6 [] true] []),h 6 3,ca 408 [20],n (st 6 6 19),d 7 (m 21)])))) (s (s (O 22 [h 4 4,ca 512 [22],nei 23 0]) (c 24 (r (Q 25 [E (.build [.int .u8 0,.str [],.str [],.ro 2 [] true,.str [],.ro 6 [] true] []),h 4 4,ca 512 [26],n (st 6 6 25),d 7 (m 27)] [7,6])))) (s (O 28 [h 6 3,h 4 4,ca 513 [28,29],E (.idxs 6 (T 30) (N 0)),h 6 31,d 8 (E (.alloc [.int .u8 0,.str [],.str [],.ro 2 [] true,.str [],.ro 6 [] true])),n (st 6 8 32)]) (s (s (O 33 [h 6 8,ca 441 [33],nei 34 0,m 35,z 36 (h 6 8),z 36 (ca 442 [37]),z 36 (m 2),z 36 (gt 38 39),po 36 40]) (c 41 (r (O 42 [E (.build [.int .u8 0,.str [],.str [],.ro 2 [] true,.str [],.ro 6 [] true] []),n (st 6 6 42),d 7 (i 14)])))) (r (O 43 [h 6 8,n (st 6 6 43),d 7 (i 0)]))))))))⟩
def w504_c0 : WCode := zd (r (O 27 [m 3,E (.cvt .i64 (T 27)),d 2 (m 28)]))
def w504_B0 : WCode := zd (s (s (O 5 [m 4,m 0,ln 1 6,lt 5 7]) (cc 8 (w .skip) (ee 0))) (s (B 1 (s (s (Q 11 [m 0,m 4,ix 6 11 12,f 4 13,l 1 14,gti 15 0] [16,4,3,0]) (c 16 (O 17 [m 3,m 0,m 4,ix 6 18 19,f 4 20,l 1 21,E (.cvt .u64 (T 22)),ad 17 23,d 3 (m 24)]))) (s (O 25 [m 3,E (.bin .gtr (T 25) (.c (.int .u64 4611686018427387904)))]) (c 26 (r (O 2 [i 4611686018427387905])))))) (O 9 [m 4,adi 9 1,d 4 (m 10)])))
def w504_L0 : WCode := .loop ⟨true,[4,3,0],[]⟩ w504_B0
def w504 : WFn := ⟨1,[.tmp 2],zd (s (O 2 [i 0]) (s (O 3 [E (.mv (.c (.int .u64 0)))]) (s (s (O 4 [i 0]) (bk 0 w504_L0 ⟨true,[3],[]⟩)) w504_c0)))⟩
@[simp] theorem w504_E0 : ZL w504_L0 w504_B0 ⟨true,[4,3,0],[]⟩ := ck_lp rfl
noncomputable abbrev w504_K0 (C : WProg) (s : WSt) : Option AV := CK C 0 (pureFin [.tmp 2]) [.sq w504_L0,.bk 0 ⟨true,[3],[]⟩,.sq w504_c0] w504_B0 s
def w398 : WFn := ⟨2,[.tmp 4],zd (s (O 4 [d 2 (bx 0),i 0]) (s (O 7 [E (.mkfn 494 [T 2]),d 5 (m 7)]) (s (Q 8 [E (.mkfn 497 [T 2]),d 6 (m 8)] [6,5,2,1]) (s (s (O 9 [f 0 2,l 1 9,E (.bin .eql (T 10) (.c (.int .u64 0))),m 11,z 12 (f 1 2),z 12 (l 1 13),z 12 (E (.cvt .i64 (T 14))),z 12 (m 1),z 12 (ge 15 16),po 12 17,m 18,z 19 (m 5),z 19 (E (.callv (T 20) [])),z 19 (nt 21),po 19 22,m 23,z 24 (m 6),z 24 (E (.callv (T 25) [])),z 24 (nt 26),po 24 27]) (c 28 (r (O 4 [i 6])))) (r (O 4 [i 0]))))))⟩
def w399 : WFn := ⟨2,[.cell 4 6 true,.tmp 5],zd (s (O 2 [bx 0,bx 1,E (.alloc [.int .u8 0,.str [],.str [],.ro 2 [] true,.str [],.ro 6 [] true]),i 0]) (r (V 6 [f 0 2,l 1 6,f 1 3,l 1 8,ix 9 7 9,f 0 10,h 6 11,h 4 3,f 1 2,l 1 14,ca 501 [12,13,15],ex 0 16,ex 1 16,n (st 6 4 17),d 5 (m 18)] [] ⟨false,[],[]⟩)))⟩
def w408 : WFn := ⟨1,[.tmp 2],zd (s (O 1 [bx 0,i 0]) (s (s (O 3 [h 6 1,ca 505 [3],eqi 4 0]) (c 5 (r (O 2 [i 14])))) (r (O 2 [i 0]))))⟩
def w447 : WFn := ⟨2,[.tmp 3],zd (s (O 2 [bx 0,ff]) (r (O 4 [f 1 2,l 1 4,l 1 1,le 5 6,m 7,y 8 (l 1 1),y 8 (f 2 2),y 8 (l 1 10),y 8 (lt 9 11),pa 8 12,d 3 (m 13)])))⟩
def w115 : WFn := ⟨1,[.tmp 2],zd (s (O 1 [bx 0,i 0]) (s (O 3 [E (.mv (.c (.fn 230 [])))]) (s (s (Q 4 [f 0 1,l 1 4,ln 1 5,lti 6 1,m 7,z 8 (f 0 1),z 8 (l 1 9),z 8 (ln 1 10),z 8 (gti 11 8),po 8 12,m 13,z 14 (f 1 1),z 14 (l 1 15),z 14 (lti 16 1),po 14 17,m 18,z 19 (f 1 1),z 19 (l 1 20),z 19 (gti 21 64),po 19 22,m 23,z 24 (f 0 1),z 24 (l 1 25),z 24 (m 3),z 24 (ca 232 [26,27]),po 24 28] [29]) (c 29 (r (O 2 [i 7])))) (r (O 2 [i 0])))))⟩
def w449 : WFn := ⟨2,[],zd (s (Q 4 [l 1 0,ln 1 4,sbi 5 1,d 2 (m 6)] [2,1,0]) (s (O 7 [m 2,gei 7 0]) (c 8 (s (O 9 [l 1 1,l 1 1,ln 1 10,sbi 11 1,ix 1 9 12,l 1 13,d 3 (m 14)]) (O 15 [l 1 0,m 2,l 1 0,m 2,m 3,m 3,ix 4 15 16,f 2 21,n (st 1 22 19),ix 4 17 18,f 3 23,n (st 1 24 20)])))))⟩
def w421_c0 : WCode := zd (r (Q 31 [m 7,m 7,m 6,lt 32 33,m 34,y 35 (m 0),y 35 (m 7),y 35 (ix 1 36 37),y 35 (l 1 38),y 35 (m 1),y 35 (eq 39 40),y 35 (m 41),z 42 (m 0),z 42 (m 7),z 42 (ix 1 43 44),z 42 (l 1 45),z 42 (ca 509 [46]),z 42 (m 47),y 48 (m 1),y 48 (ca 509 [49]),z 42 (pa 48 50),y 35 (po 42 51),pa 35 52,d 4 (m 31),d 5 (m 53)] [5,4]))
def w421_B0 : WCode := zd (s (s (O 13 [m 7,m 8,lt 13 14]) (cc 15 (w .skip) (ee 0))) (B 1 (s (O 16 [m 7,m 8,ad 16 17,E (.cvt .u64 (T 18)),E (.bin .shr (T 19) (.c (.int .u64 1))),E (.cvt .i64 (T 20)),d 9 (m 21)]) (s (O 22 [m 0,m 9,ix 1 22 23,l 1 24,m 1,ca 508 [25,26]]) (cc 27 (O 28 [m 9,adi 28 1,d 7 (m 29)]) (O 30 [m 9,d 8 (m 30)]))))))
def w421_L0 : WCode := .loop ⟨true,[8,7,6,1,0],[]⟩ w421_B0
def w421 : WFn := ⟨2,[.tmp 4,.tmp 5],zd (s (O 4 [i 0,ff]) (s (O 10 [m 0,ln 1 10,d 6 (m 11)]) (s (Q 7 [d 12 (m 6),i 0,m 12] [8,7,6,1,0]) (s (bk 0 w421_L0 ⟨true,[7,6,1,0],[]⟩) w421_c0))))⟩
@[simp] theorem w421_E0 : ZL w421_L0 w421_B0 ⟨true,[8,7,6,1,0],[]⟩ := ck_lp rfl
noncomputable abbrev w421_K0 (C : WProg) (s : WSt) : Option AV := CK C 0 (pureFin [.tmp 4,.tmp 5]) [.sq w421_L0,.bk 0 ⟨true,[7,6,1,0],[]⟩,.sq w421_c0] w421_B0 s
def w238 : WFn := ⟨3,[.cell 6 6 true,.tmp 7],zd (s (O 6 [d 3 (bx 0),d 4 (bx 1),E (.alloc [.int .u8 0,.str [],.str [],.ro 2 [] true,.str [],.ro 6 [] true]),i 0]) (s (s (O 9 [h 2 3,h 1 4,ca 223 [9,10],d 8 (m 11)]) (s (O 12 [m 8,nei 12 0]) (c 13 (r (O 14 [E (.build [.int .u8 0,.str [],.str [],.ro 2 [] true,.str [],.ro 6 [] true] []),m 8,n (st 6 6 14),d 7 (m 15)]))))) (s (s (Q 16 [m 2,lti 16 0,m 17,z 18 (m 2),z 18 (f 0 4),z 18 (l 1 20),z 18 (ln 1 21),z 18 (ge 19 22),po 18 23] [24,6,4,3,2]) (c 24 (r (O 25 [E (.build [.int .u8 0,.str [],.str [],.ro 2 [] true,.str [],.ro 6 [] true] []),n (st 6 6 25),d 7 (i 4)])))) (r (V 26 [h 2 3,f 0 4,l 1 27,m 2,ix 6 28 29,f 0 30,h 4 31,ca 399 [26,32],ex 0 33,ex 1 33,n (st 6 6 34),d 7 (m 35)] [] ⟨false,[],[]⟩)))))⟩
def w232 : WFn := ⟨2,[.tmp 4],zd (s (O 4 [ff]) (r (O 5 [m 0,m 1,ca 405 [5,6],gei 7 0,d 4 (m 8)])))⟩
def w411_c0 : WCode := zd (r (O 25 [m 5,d 4 (m 25)]))
def w411_B0 : WCode := zd (s (s (O 9 [m 5,m 6,lt 9 10]) (cc 11 (w .skip) (ee 0))) (B 1 (s (O 12 [m 5,m 6,ad 12 13,E (.cvt .u64 (T 14)),E (.bin .shr (T 15) (.c (.int .u64 1))),E (.cvt .i64 (T 16)),d 7 (m 17)]) (s (O 18 [m 1,m 7,E (.callv (T 18) [T 19]),nt 20]) (cc 21 (O 22 [m 7,adi 22 1,d 5 (m 23)]) (O 24 [m 7,d 6 (m 24)]))))))
def w411_L0 : WCode := .loop ⟨true,[6,5,1],[]⟩ w411_B0
def w411 : WFn := ⟨2,[.tmp 4],zd (s (O 4 [i 0]) (s (Q 5 [d 8 (m 0),i 0,m 8] [6,5,1]) (s (bk 0 w411_L0 ⟨true,[5],[]⟩) w411_c0)))⟩
@[simp] theorem w411_E0 : ZL w411_L0 w411_B0 ⟨true,[6,5,1],[]⟩ := ck_lp rfl
noncomputable abbrev w411_K0 (C : WProg) (s : WSt) : Option AV := CK C 0 (pureFin [.tmp 4]) [.sq w411_L0,.bk 0 ⟨true,[5],[]⟩,.sq w411_c0] w411_B0 s
def w412 : WFn := ⟨3,[.tmp 4],zd (s (O 4 [ff]) (r (V 5 [l 1 1,m 0,adi 6 1,ix 1 5 7,l 1 8,l 1 2,gt 9 10,d 4 (m 11)] [] ⟨false,[],[]⟩)))⟩
def w402_c0 : WCode := zd (r (O 4 [i (-1)]))
def w402_B0 : WCode := zd (s (O 9 [lt 8 7]) (s (cc 9 (w .skip) (ee 0)) (s (B 1 (s (O 10 [m 8,d 5 (m 10)]) (s (O 11 [m 1,m 0,m 5,ix 6 12 13,h 6 14,E (.callv (T 11) [T 15])]) (c 16 (r (O 17 [m 5,d 4 (m 17)])))))) (O 18 [adi 8 1,d 8 (m 18)]))))
def w402_L0 : WCode := .loop ⟨true,[8,7,1,0],[]⟩ w402_B0
def w402 : WFn := ⟨2,[.tmp 4],zd (s (O 4 [i 0]) (s (s (O 6 [m 0,ln 1 6,i 0]) (bk 0 w402_L0 ⟨true,[],[]⟩)) w402_c0))⟩
@[simp] theorem w402_E0 : ZL w402_L0 w402_B0 ⟨true,[8,7,1,0],[]⟩ := ck_lp rfl
noncomputable abbrev w402_K0 (C : WProg) (s : WSt) : Option AV := CK C 0 (pureFin [.tmp 4]) [.sq w402_L0,.bk 0 ⟨true,[],[]⟩,.sq w402_c0] w402_B0 s
def w418 : WFn := ⟨1,[.cell 2 6 true],zd (s (O 1 [bx 0,E (.alloc [.int .u8 0,.str [],.str [],.ro 2 [] true,.str [],.ro 6 [] true])]) (s (s (O 3 [h 6 1,ca 439 [3],nei 4 0]) (c 5 (r (O 6 [E (.build [.int .u8 0,.str [],.str [],.ro 2 [] true,.str [],.ro 6 [] true] []),n (st 6 2 6)])))) (r (O 7 [h 6 1,E (.call 507 [T 7,.c (.bool false)]),n (st 6 2 8)]))))⟩
def w426_c0 : WCode := zd (r (O 4 [i (-1)]))
def w426_B0 : WCode := zd (s (O 9 [lt 8 7]) (s (cc 9 (w .skip) (ee 0)) (s (B 1 (s (O 10 [m 8,d 5 (m 10)]) (s (O 11 [m 1,m 0,m 5,ix 1 12 13,l 1 14,E (.callv (T 11) [T 15])]) (c 16 (r (O 17 [m 5,d 4 (m 17)])))))) (O 18 [adi 8 1,d 8 (m 18)]))))
def w426_L0 : WCode := .loop ⟨true,[8,7,1,0],[]⟩ w426_B0
def w426 : WFn := ⟨2,[.tmp 4],zd (s (O 4 [i 0]) (s (s (O 6 [m 0,ln 1 6,i 0]) (bk 0 w426_L0 ⟨true,[],[]⟩)) w426_c0))⟩
@[simp] theorem w426_E0 : ZL w426_L0 w426_B0 ⟨true,[8,7,1,0],[]⟩ := ck_lp rfl
def w520_c0 : WCode := zd (r (O 35 [m 5,d 4 (m 35)]))
def w520_B0 : WCode := zd (s (s (Q 14 [m 6,f 5 2,l 1 15,ln 1 16,lt 14 17,m 18,y 19 (m 5),y 19 (lei 20 64),pa 19 21] [22,6,5,2,1]) (cc 22 (w .skip) (ee 0))) (s (B 1 (O 25 [m 5,f 5 2,l 1 26,m 6,ix 6 27 28,h 6 29,m 1,sbi 31 1,ca 520 [30,32],ad 25 33,d 5 (m 34)])) (O 23 [m 6,adi 23 1,d 6 (m 24)])))
def w520_L0 : WCode := .loop ⟨true,[6,5,2,1],[]⟩ w520_B0
def w520 : WFn := ⟨2,[.tmp 4],zd (s (O 4 [d 2 (bx 0),i 0]) (s (s (O 7 [m 1,lti 7 1,m 8,z 9 (h 6 2),z 9 (ca 563 [10]),z 9 (nt 11),po 9 12]) (c 13 (r (O 4 [i 1000])))) (s (O 5 [i 1]) (s (s (O 6 [i 0]) (bk 0 w520_L0 ⟨true,[5],[]⟩)) w520_c0))))⟩
@[simp] theorem w520_E0 : ZL w520_L0 w520_B0 ⟨true,[6,5,2,1],[]⟩ := ck_lp rfl
noncomputable abbrev w520_K0 (C : WProg) (s : WSt) : Option AV := CK C 0 (pureFin [.tmp 4]) [.sq w520_L0,.bk 0 ⟨true,[5],[]⟩,.sq w520_c0] w520_B0 s
def w433_c0 : WCode := zd (r (O 7 [tt]))
def w433_B0 : WCode := zd (s (O 31 [lt 30 29]) (s (cc 31 (w .skip) (ee 0)) (s (B 1 (s (O 32 [m 30,d 8 (m 32)]) (s (V 33 [l 1 4,m 0,nk 34,f 5 35,l 1 36,m 8,ix 6 37 38,m 1,adi 40 1,E (.callv (T 33) [T 39,T 41]),nt 42] [] ⟨false,[],[]⟩) (c 43 (r (O 7 [ff])))))) (O 44 [adi 30 1,d 30 (m 44)]))))
def w433_L0 : WCode := .loop ⟨true,[30,29,4,1,0],[]⟩ w433_B0
def w433 : WFn := ⟨5,[.tmp 7],zd (s (O 7 [ff]) (s (O 9 [l 1 2,adi 9 1,n (st 1 2 10)]) (s (O 11 [l 1 3,m 1,E (.mx (T 11) (T 12)),n (st 1 3 13)]) (s (s (O 14 [m 1,gti 14 6,m 15,z 16 (l 1 2),z 16 (gti 17 64),po 16 18,m 19,z 20 (m 0),z 20 (ca 434 [21]),z 20 (nt 22),po 20 23]) (c 24 (r (O 7 [ff])))) (s (s (Q 25 [m 0,nk 25,f 5 26,l 1 27,ln 1 28,i 0] [30,29,4,1,0]) (bk 0 w433_L0 ⟨true,[],[]⟩)) w433_c0)))))⟩
@[simp] theorem w433_E0 : ZL w433_L0 w433_B0 ⟨true,[30,29,4,1,0],[]⟩ := ck_lp rfl
def w434_c0 : WCode := zd (r (O 2 [tt]))
def w434_B0 : WCode := zd (s (Q 143 [lt 142 141] [143,142,141,140,0]) (s (cc 143 (w .skip) (ee 2)) (s (B 3 (s (O 144 [m 142,ix 6 140 142,h 6 145,d 6 (E (.alloc [.int .u8 0,.str [],.str [],.ro 2 [] true,.str [],.ro 6 [] true])),d 5 (m 144),n (st 6 6 146)]) (s (O 147 [f 2 6,l 1 147,E (.bin .neq (T 148) (.c (.str []))),m 149,y 150 (m 0),y 150 (nk 151),y 150 (f 5 152),y 150 (l 1 153),y 150 (m 5),y 150 (E (.slice 6 (T 154) none (some (T 155)) none)),y 150 (E (.mkfn 519 [T 6])),y 150 (ca 518 [156,157]),pa 150 158]) (c 159 (r (O 2 [ff])))))) (O 160 [adi 142 1,d 142 (m 160)]))))
def w434_L0 : WCode := .loop ⟨true,[142,141,140,0],[]⟩ w434_B0
def w434_c1 : WCode := zd (s (s (O 137 [m 0,nk 137,f 5 138,l 1 139,ln 1 140,i 0]) (bk 2 w434_L0 ⟨true,[],[]⟩)) w434_c0)
def w434_B1 : WCode := zd (s (O 104 [lt 103 102]) (s (cc 104 (w .skip) (ee 0)) (s (B 1 (s (O 105 [m 103,ix 2 101 103,h 2 106,d 4 (E (.alloc [.str [],.str []])),d 3 (m 105),n (st 2 4 107)]) (s (U 108 [f 0 4,l 1 108,ca 517 [109],nt 110,m 111,z 112 (f 1 4),z 112 (l 1 113),z 112 (ca 516 [114]),z 112 (nt 115),po 112 116,m 117,z 118 (m 3),z 118 (gti 119 0),z 118 (m 120),y 121 (f 0 4),y 121 (l 1 122),y 121 (m 0),y 121 (nk 124),y 121 (f 3 125),y 121 (l 1 126),y 121 (m 3),y 121 (sbi 128 1),y 121 (ix 2 127 129),y 121 (f 0 130),y 121 (l 1 131),y 121 (le 123 132),z 118 (pa 121 133),po 118 134] [] [135,103,102,101,0]) (c 135 (r (O 2 [ff])))))) (O 136 [adi 103 1,d 103 (m 136)]))))
def w434_L1 : WCode := .loop ⟨true,[103,102,101,0],[]⟩ w434_B1
def w434 : WFn := ⟨1,[.tmp 2],zd (s (O 2 [ff]) (s (s (O 7 [m 0,nk 7,f 0 8,l 1 9,E (.bin .eql (T 10) (.c (.int .u8 2)))]) (c 11 (r (Q 12 [m 0,nk 12,f 4 13,l 1 14,ca 516 [15],m 16,y 17 (m 0),y 17 (nk 18),y 17 (f 1 19),y 17 (l 1 20),y 17 (E (.bin .eql (T 21) (.c (.str [])))),pa 17 22,m 23,y 24 (m 0),y 24 (nk 25),y 24 (f 2 26),y 24 (l 1 27),y 24 (E (.bin .eql (T 28) (.c (.str [])))),pa 24 29,m 30,y 31 (m 0),y 31 (nk 32),y 31 (f 3 33),y 31 (l 1 34),y 31 (ln 1 35),y 31 (eqi 36 0),pa 31 37,m 38,y 39 (m 0),y 39 (nk 40),y 39 (f 5 41),y 39 (l 1 42),y 39 (ln 1 43),y 39 (eqi 44 0),pa 39 45,d 2 (m 46)] [2])))) (s (s (Q 47 [m 0,nk 47,f 0 48,l 1 49,E (.bin .neq (T 50) (.c (.int .u8 1))),m 51,z 52 (m 0),z 52 (nk 53),z 52 (f 1 54),z 52 (l 1 55),z 52 (ca 517 [56]),z 52 (nt 57),po 52 58,m 59,z 60 (m 0),z 60 (nk 61),z 60 (f 2 62),z 60 (l 1 63),z 60 (E (.bin .neq (T 64) (.c (.str [])))),z 60 (m 65),y 66 (m 0),y 66 (nk 67),y 66 (f 2 68),y 66 (l 1 69),y 66 (ca 517 [70]),y 66 (nt 71),z 60 (pa 66 72),po 60 73,m 74,z 75 (m 0),z 75 (nk 76),z 75 (f 4 77),z 75 (l 1 78),z 75 (E (.bin .neq (T 79) (.c (.str [])))),po 75 80,m 81,z 82 (m 0),z 82 (nk 83),z 82 (f 3 84),z 82 (l 1 85),z 82 (ln 1 86),z 82 (gti 87 8),po 82 88,m 89,z 90 (m 0),z 90 (nk 91),z 90 (f 5 92),z 90 (l 1 93),z 90 (ln 1 94),z 90 (gti 95 16),po 90 96] [97,0]) (c 97 (r (O 2 [ff])))) (s (s (O 98 [m 0,nk 98,f 3 99,l 1 100,ln 1 101,i 0]) (bk 0 w434_L1 ⟨true,[0],[]⟩)) w434_c1))))⟩
@[simp] theorem w434_E0 : ZL w434_L0 w434_B0 ⟨true,[142,141,140,0],[]⟩ := ck_lp rfl
noncomputable abbrev w434_K0 (C : WProg) (s : WSt) : Option AV := CK C 0 (pureFin [.tmp 2]) [.sq w434_L0,.bk 2 ⟨true,[],[]⟩,.sq w434_c0] w434_B0 s
@[simp] theorem w434_E1 : ZL w434_L1 w434_B1 ⟨true,[103,102,101,0],[]⟩ := ck_lp rfl
noncomputable abbrev w434_K1 (C : WProg) (s : WSt) : Option AV := CK C 0 (pureFin [.tmp 2]) [.sq w434_L1,.bk 0 ⟨true,[0],[]⟩,.sq w434_c1] w434_B1 s
def w510_c0 : WCode := zd (r (O 2 [i 1]))
def w510_B0 : WCode := zd (s (s (O 7 [m 3,m 0,ln 0 8,lt 7 9]) (cc 10 (w .skip) (ee 0))) (s (B 1 (s (O 13 [m 0,m 3,E (.idxstr (T 13) (T 14)),E (.bin .lss (T 15) (.c (.int .u8 32))),m 16,z 17 (m 0),z 17 (m 3),z 17 (E (.idxstr (T 18) (T 19))),z 17 (E (.bin .gtr (T 20) (.c (.int .u8 126)))),po 17 21]) (c 22 (r (O 2 [i 0]))))) (O 11 [m 3,adi 11 1,d 3 (m 12)])))
def w510_L0 : WCode := .loop ⟨true,[3,0],[]⟩ w510_B0
def w510 : WFn := ⟨1,[.tmp 2],zd (s (O 2 [i 0]) (s (s (Q 4 [m 0,ln 0 4,gti 5 64] [6,0]) (c 6 (r (O 2 [i 0])))) (s (s (O 3 [i 0]) (bk 0 w510_L0 ⟨true,[],[]⟩)) w510_c0)))⟩
@[simp] theorem w510_E0 : ZL w510_L0 w510_B0 ⟨true,[3,0],[]⟩ := ck_lp rfl
noncomputable abbrev w510_K0 (C : WProg) (s : WSt) : Option AV := CK C 0 (pureFin [.tmp 2]) [.sq w510_L0,.bk 0 ⟨true,[],[]⟩,.sq w510_c0] w510_B0 s
def w511_c0 : WCode := zd (r (O 2 [i 1]))
def w511_B0 : WCode := zd (s (s (O 13 [m 3,m 0,ln 0 14,lt 13 15]) (cc 16 (w .skip) (ee 0))) (s (B 1 (s (Q 19 [m 0,m 3,E (.idxstr (T 19) (T 20)),d 4 (m 21)] [4,3,0]) (s (O 22 [m 4,E (.bin .geq (T 22) (.c (.int .u8 97))),m 23,y 24 (m 4),y 24 (E (.bin .leq (T 25) (.c (.int .u8 122)))),pa 24 26,m 27,z 28 (m 4),z 28 (E (.bin .geq (T 29) (.c (.int .u8 48)))),z 28 (m 30),y 31 (m 4),y 31 (E (.bin .leq (T 32) (.c (.int .u8 57)))),z 28 (pa 31 33),po 28 34,nt 35]) (c 36 (r (O 2 [i 0])))))) (O 17 [m 3,adi 17 1,d 3 (m 18)])))
def w511_L0 : WCode := .loop ⟨true,[3,0],[]⟩ w511_B0
def w511 : WFn := ⟨1,[.tmp 2],zd (s (O 2 [i 0]) (s (s (O 5 [m 0,ln 0 5,lti 6 1,m 7,z 8 (m 0),z 8 (ln 0 9),z 8 (gti 10 16),po 8 11]) (c 12 (r (O 2 [i 0])))) (s (s (O 3 [i 0]) (bk 0 w511_L0 ⟨true,[],[]⟩)) w511_c0)))⟩
@[simp] theorem w511_E0 : ZL w511_L0 w511_B0 ⟨true,[3,0],[]⟩ := ck_lp rfl
noncomputable abbrev w511_K0 (C : WProg) (s : WSt) : Option AV := CK C 0 (pureFin [.tmp 2]) [.sq w511_L0,.bk 0 ⟨true,[],[]⟩,.sq w511_c0] w511_B0 s
def w512_c0 : WCode := zd (r (O 2 [i 0]))
def w512_B0 : WCode := zd (s (s (O 19 [m 3,f 3 1,l 1 20,ln 1 21,lt 19 22]) (cc 23 (w .skip) (ee 0))) (s (B 1 (s (O 26 [f 3 1,l 1 26,m 3,ix 1 27 28,l 1 29,ca 557 [30],nt 31]) (c 32 (r (O 2 [i 6]))))) (O 24 [m 3,adi 24 1,d 3 (m 25)])))
def w512_L0 : WCode := .loop ⟨true,[3,1],[]⟩ w512_B0
def w512 : WFn := ⟨1,[.tmp 2],zd (s (O 1 [bx 0,i 0]) (s (s (Q 4 [f 0 1,l 1 4,E (.bin .eql (T 5) (.c (.int .u64 0))),m 6,z 7 (f 2 1),z 7 (l 1 8),z 7 (ca 556 [9]),z 7 (nt 10),po 7 11,m 12,z 13 (f 3 1),z 13 (l 1 14),z 13 (ln 1 15),z 13 (gti 16 8),po 13 17] [18,1]) (c 18 (r (O 2 [i 6])))) (s (s (O 3 [i 0]) (bk 0 w512_L0 ⟨true,[],[]⟩)) w512_c0)))⟩
@[simp] theorem w512_E0 : ZL w512_L0 w512_B0 ⟨true,[3,1],[]⟩ := ck_lp rfl
noncomputable abbrev w512_K0 (C : WProg) (s : WSt) : Option AV := CK C 0 (pureFin [.tmp 2]) [.sq w512_L0,.bk 0 ⟨true,[],[]⟩,.sq w512_c0] w512_B0 s
def w513_c0 : WCode := zd (r (O 89 [h 6 7,E (.buildS [.int .u8 0,.str [],.str [],.ro 2 [] true,.str [],.ro 6 [] true] 1 [(0,T 89)]),d 4 (m 90)]))
def w513_B0 : WCode := zd (s (s (O 71 [m 8,f 5 2,l 1 72,ln 1 73,lt 71 74]) (cc 75 (w .skip) (ee 3))) (s (B 4 (V 78 [f 5 7,l 1 78,f 5 2,l 1 80,m 8,ix 6 81 82,h 6 83,h 4 3,ca 513 [84,85],E (.app [.int .u8 0,.str [],.str [],.ro 2 [] true,.str [],.ro 6 [] true] 104 false (T 79) (T 86)),f 5 7,n (st 1 88 87)] [(1,8)] ⟨false,[],[]⟩)) (O 76 [m 8,adi 76 1,d 8 (m 77)])))
def w513_L0 : WCode := .loop ⟨true,[8,7,3,2],[]⟩ w513_B0
def w513_c1 : WCode := zd (s (V 62 [f 1 2,l 1 62,f 2 2,l 1 64,f 3 2,l 1 66,h 4 3,ca 559 [67,68],E (.build [.int .u8 0,.str [],.str [],.ro 2 [] true,.str [],.ro 6 [] true] [(0,1,.c (.int .u8 1)),(1,1,T 63),(2,1,T 65),(3,1,T 69)]),d 7 (E (.alloc [.int .u8 0,.str [],.str [],.ro 2 [] true,.str [],.ro 6 [] true])),n (st 6 7 70)] [(1,7),(3,7),(1,9),(3,9),(5,9),(6,9),(7,9)] ⟨false,[],[]⟩) (s (s (Q 8 [i 0] [8,7,3,2]) (bk 3 w513_L0 ⟨true,[7],[]⟩)) w513_c0))
def w513_c2 : WCode := zd (r (O 61 [m 5,d 4 (m 61)]))
def w513_B1 : WCode := zd (s (s (O 32 [m 6,f 3 3,l 1 33,ln 1 34,lt 32 35]) (cc 36 (w .skip) (ee 1))) (s (B 2 (U 39 [m 5,f 1 2,l 1 40,f 3 3,l 1 42,m 6,ix 1 43 44,l 1 45,f 3 2,l 1 47,h 4 3,ca 559 [48,49],f 3 3,l 1 51,m 6,ix 1 52 53,l 1 54,E (.build [.int .u8 0,.str [],.str [],.ro 2 [] true,.str [],.ro 6 [] true] [(0,1,.c (.int .u8 2)),(4,1,T 55)]),E (.buildS [.int .u8 0,.str [],.str [],.ro 2 [] true,.str [],.ro 6 [] true] 1 [(0,T 56)]),E (.build [.int .u8 0,.str [],.str [],.ro 2 [] true,.str [],.ro 6 [] true] [(0,1,.c (.int .u8 1)),(1,1,T 41),(2,1,T 46),(3,1,T 50),(5,1,T 57)]),E (.buildS [.int .u8 0,.str [],.str [],.ro 2 [] true,.str [],.ro 6 [] true] 1 [(0,T 58)]),E (.app [.int .u8 0,.str [],.str [],.ro 2 [] true,.str [],.ro 6 [] true] 104 false (T 39) (T 59)),d 5 (m 60)] [(2,11),(4,11),(7,11),(11,13),(11,16),(2,18),(4,18),(7,18),(9,18),(10,18),(11,18)] [6,5,3,2])) (O 37 [m 6,adi 37 1,d 6 (m 38)])))
def w513_L1 : WCode := .loop ⟨true,[6,5,3,2],[]⟩ w513_B1
def w513 : WFn := ⟨2,[.tmp 4],zd (s (O 2 [bx 0,bx 1,E (.mv (.c (.ro 6 [] true)))]) (s (s (O 9 [f 0 2,l 1 9]) (bk 0 (s (O 12 [E (.bin .eql (T 10) (.c (.int .u8 2))),d 11 (m 12)]) (cc 11 (r (O 13 [f 4 2,l 1 13,E (.build [.int .u8 0,.str [],.str [],.ro 2 [] true,.str [],.ro 6 [] true] [(0,1,.c (.int .u8 2)),(4,1,T 14)]),E (.buildS [.int .u8 0,.str [],.str [],.ro 2 [] true,.str [],.ro 6 [] true] 1 [(0,T 15)]),d 4 (m 16)])) (s (O 18 [E (.bin .eql (T 10) (.c (.int .u8 3))),d 17 (m 18)]) (cc 17 (r (O 19 [f 2 3,l 1 19,E (.build [.int .u8 0,.str [],.str [],.ro 2 [] true,.str [],.ro 6 [] true] [(0,1,.c (.int .u8 2)),(4,1,T 20)]),E (.buildS [.int .u8 0,.str [],.str [],.ro 2 [] true,.str [],.ro 6 [] true] 1 [(0,T 21)]),d 4 (m 22)])) (s (O 24 [E (.bin .eql (T 10) (.c (.int .u8 4))),d 23 (m 24)]) (cc 23 (r (Q 25 [f 0 3,l 1 25,ca 558 [26],E (.build [.int .u8 0,.str [],.str [],.ro 2 [] true,.str [],.ro 6 [] true] [(0,1,.c (.int .u8 2)),(4,1,T 27)]),E (.buildS [.int .u8 0,.str [],.str [],.ro 2 [] true,.str [],.ro 6 [] true] 1 [(0,T 28)]),d 4 (m 29)] [4])) (s (O 31 [E (.bin .eql (T 10) (.c (.int .u8 5))),d 30 (m 31)]) (c 30 (s (R 5 [E (.mv (.c (.ro 6 [] true)))] ⟨true,[5,3,2],[(5,6)]⟩) (s (s (O 6 [i 0]) (bk 1 w513_L1 ⟨true,[5],[]⟩)) w513_c2)))))))))) ⟨true,[3,2],[]⟩)) w513_c1))⟩
@[simp] theorem w513_E0 : ZL w513_L0 w513_B0 ⟨true,[8,7,3,2],[]⟩ := ck_lp rfl
noncomputable abbrev w513_K0 (C : WProg) (s : WSt) : Option AV := CK C 0 (pureFin [.tmp 4]) [.sq w513_L0,.bk 3 ⟨true,[7],[]⟩,.sq w513_c0] w513_B0 s
@[simp] theorem w513_E1 : ZL w513_L1 w513_B1 ⟨true,[6,5,3,2],[]⟩ := ck_lp rfl
noncomputable abbrev w513_K1 (C : WProg) (s : WSt) : Option AV := CK C 0 (pureFin [.tmp 4]) [.sq w513_L1,.bk 1 ⟨true,[5],[]⟩,.sq w513_c2,.bk 0 ⟨true,[3,2],[]⟩,.sq w513_c1] w513_B1 s
def w494 : WFn := ⟨1,[.tmp 1],zd (s (O 1 [ff]) (r (O 2 [f 2 0,l 1 2,ln 0 3,lei 4 64,m 5,y 6 (f 2 0),y 6 (l 1 7),y 6 (E (.call 495 [T 8,.c (.fn 496 [])])),y 6 (nt 9),pa 6 10,d 1 (m 11)])))⟩
def w495 : WFn := ⟨2,[.tmp 4],zd (s (O 4 [ff]) (r (O 5 [m 0,m 1,ca 543 [5,6],gei 7 0,d 4 (m 8)])))⟩
def w496 : WFn := ⟨1,[.tmp 2],zd (s (O 2 [ff]) (r (O 3 [m 0,E (.bin .lss (T 3) (.c (.int .i32 32))),m 4,z 5 (m 0),z 5 (E (.bin .gtr (T 6) (.c (.int .i32 126)))),po 5 7,d 2 (m 8)])))⟩
def w497 : WFn := ⟨1,[.tmp 1],zd (s (O 1 [ff]) (r (O 2 [f 3 0,l 1 2,ln 1 3,lei 4 8,m 5,y 6 (f 3 0),y 6 (l 1 7),y 6 (E (.call 498 [T 8,.c (.fn 499 [])])),y 6 (nt 9),pa 6 10,d 1 (m 11)])))⟩
def w498 : WFn := ⟨2,[.tmp 4],zd (s (O 4 [ff]) (r (O 5 [m 0,m 1,ca 544 [5,6],gei 7 0,d 4 (m 8)])))⟩
def w499 : WFn := ⟨1,[.tmp 2],zd (s (O 2 [ff]) (r (O 3 [m 0,ca 500 [3],nt 4,d 2 (m 5)])))⟩
def w500 : WFn := ⟨1,[.tmp 2],zd (s (O 2 [ff]) (s (O 3 [E (.mv (.c (.fn 545 [])))]) (r (O 4 [m 0,E (.bin .neq (T 4) (.c (.str []))),m 5,y 6 (m 0),y 6 (ln 0 7),y 6 (lei 8 16),pa 6 9,m 10,y 11 (m 0),y 11 (m 3),y 11 (ca 495 [12,13]),y 11 (nt 14),pa 11 15,d 2 (m 16)]))))⟩
def w501 : WFn := ⟨3,[.cell 6 6 true,.tmp 7],zd (s (O 6 [d 3 (bx 0),d 4 (bx 1),E (.alloc [.int .u8 0,.str [],.str [],.ro 2 [] true,.str [],.ro 6 [] true]),i 0]) (s (s (Q 12 [m 2,lti 12 1,m 13,z 14 (m 2),z 14 (gti 15 64),po 14 16] [17,6,4,3,2]) (c 17 (r (O 18 [E (.build [.int .u8 0,.str [],.str [],.ro 2 [] true,.str [],.ro 6 [] true] []),n (st 6 6 18),d 7 (i 1)])))) (s (s (O 19 [h 6 3,ca 231 [19],d 8 (m 20)]) (s (O 21 [m 8,nei 21 0]) (c 22 (r (O 23 [E (.build [.int .u8 0,.str [],.str [],.ro 2 [] true,.str [],.ro 6 [] true] []),m 8,n (st 6 6 23),d 7 (m 24)]))))) (s (s (O 25 [h 4 4,ca 546 [25],d 9 (m 26)]) (s (O 27 [m 9,nei 27 0]) (c 28 (r (O 29 [E (.build [.int .u8 0,.str [],.str [],.ro 2 [] true,.str [],.ro 6 [] true] []),m 9,n (st 6 6 29),d 7 (m 30)]))))) (s (Q 31 [h 4 4,E (.build [.int .u64 0,.int .u8 0,.str [],.ro 1 [] true] [(0,4,T 31)]),h 6 3,E (.buildS [.int .u8 0,.str [],.str [],.ro 3 [] true,.str [],.ro 6 [] true] 1 [(0,T 33)]),ca 547 [32,34],E (.idxs 6 (T 35) (N 0)),h 6 36,d 10 (E (.alloc [.int .u8 0,.str [],.str [],.ro 2 [] true,.str [],.ro 6 [] true])),n (st 6 10 37)] [10,6,2]) (s (s (O 38 [h 6 10,ca 140 [38],d 11 (m 39)]) (s (O 40 [m 11,eqi 40 0,m 41,z 42 (m 11),z 42 (m 2),z 42 (gt 43 44),po 42 45]) (c 46 (r (O 47 [E (.build [.int .u8 0,.str [],.str [],.ro 2 [] true,.str [],.ro 6 [] true] []),n (st 6 6 47),d 7 (i 14)]))))) (r (O 48 [h 6 10,n (st 6 6 48),d 7 (i 0)]))))))))⟩
def w505 : WFn := ⟨1,[.tmp 2],zd (s (O 1 [bx 0,i 0]) (s (O 4 [h 6 1,E (.call 550 [T 4,N 6]),d 3 (m 5)]) (s (s (O 6 [f 0 1,l 1 6,E (.bin .neq (T 7) (.c (.int .u8 1))),m 8,z 9 (m 3),z 9 (gti 10 64),po 9 11]) (c 12 (r (O 2 [i 0])))) (r (O 13 [m 3,d 2 (m 13)])))))⟩
def w230 : WFn := ⟨1,[.tmp 2],zd (s (O 1 [bx 0,ff]) (r (O 3 [f 6 1,l 1 3,ca 225 [4],nt 5,m 6,z 7 (f 0 1),z 7 (h 6 8),z 7 (ca 231 [9]),z 7 (nei 10 0),po 7 11,d 2 (m 12)])))⟩
def w231 : WFn := ⟨1,[.tmp 2],zd (s (O 1 [bx 0,i 0]) (s (s (O 3 [h 6 1,ca 404 [3],eqi 4 0]) (c 5 (r (O 2 [i 14])))) (r (O 2 [i 0]))))⟩
def w508 : WFn := ⟨2,[.tmp 4],zd (s (O 4 [ff]) (r (O 5 [m 0,ca 555 [5],m 6,y 7 (m 1),y 7 (ca 555 [8]),y 7 (nt 9),pa 7 10,m 11,z 12 (m 0),z 12 (m 1),z 12 (lt 13 14),po 12 15,d 4 (m 16)])))⟩
def w509 : WFn := ⟨1,[.tmp 2],zd (s (O 2 [ff]) (r (O 3 [m 0,m 0,ne 3 4,d 2 (m 5)])))⟩
def w405_c0 : WCode := zd (r (O 4 [i (-1)]))
def w405_B0 : WCode := zd (s (O 9 [lt 8 7]) (s (cc 9 (w .skip) (ee 0)) (s (B 1 (s (O 10 [m 8,d 5 (m 10)]) (s (O 11 [m 1,m 0,m 5,ix 9 12 13,h 9 14,E (.callv (T 11) [T 15])]) (c 16 (r (O 17 [m 5,d 4 (m 17)])))))) (O 18 [adi 8 1,d 8 (m 18)]))))
def w405_L0 : WCode := .loop ⟨true,[8,7,1,0],[]⟩ w405_B0
def w405 : WFn := ⟨2,[.tmp 4],zd (s (O 4 [i 0]) (s (s (O 6 [m 0,ln 1 6,i 0]) (bk 0 w405_L0 ⟨true,[],[]⟩)) w405_c0))⟩
@[simp] theorem w405_E0 : ZL w405_L0 w405_B0 ⟨true,[8,7,1,0],[]⟩ := ck_lp rfl
noncomputable abbrev w405_K0 (C : WProg) (s : WSt) : Option AV := CK C 0 (pureFin [.tmp 4]) [.sq w405_L0,.bk 0 ⟨true,[],[]⟩,.sq w405_c0] w405_B0 s
def w507_c0 : WCode := zd (s (O 35 [m 5,f 5 2,n (st 1 36 35)]) (r (O 37 [h 6 2,n (st 6 4 37)])))
def w507_B0 : WCode := zd (s (O 24 [lt 23 22]) (s (cc 24 (w .skip) (ee 0)) (s (B 1 (s (O 25 [m 23,ix 6 21 23,h 6 26,d 7 (E (.alloc [.int .u8 0,.str [],.str [],.ro 2 [] true,.str [],.ro 6 [] true])),d 6 (m 25),n (st 6 7 27)]) (O 28 [m 5,m 6,h 6 7,m 1,ca 507 [30,31],ix 6 28 29,n (st 6 33 32)]))) (O 34 [adi 23 1,d 23 (m 34)]))))
def w507_L0 : WCode := .loop ⟨true,[23,22,21,5,4,2,1],[]⟩ w507_B0
def w507 : WFn := ⟨2,[.cell 4 6 true],zd (s (O 4 [d 2 (bx 0),E (.alloc [.int .u8 0,.str [],.str [],.ro 2 [] true,.str [],.ro 6 [] true])]) (s (s (O 8 [m 1,nt 8]) (c 9 (O 10 [f 2 2,n (E (.store 1 (T 10) (.c (.str []))))]))) (s (O 11 [f 3 2,l 1 11,ca 554 [12],ca 553 [13],f 3 2,n (st 1 15 14)]) (s (O 16 [f 5 2,l 1 16,ln 1 17,E (.mksl [.int .u8 0,.str [],.str [],.ro 2 [] true,.str [],.ro 6 [] true] 104 (T 18) (T 18)),d 5 (m 19)]) (s (s (Q 20 [f 5 2,l 1 20,ln 1 21,i 0] [23,22,21,5,4,2,1]) (bk 0 w507_L0 ⟨true,[5,4,2],[]⟩)) w507_c0)))))⟩
@[simp] theorem w507_E0 : ZL w507_L0 w507_B0 ⟨true,[23,22,21,5,4,2,1],[]⟩ := ck_lp rfl
noncomputable abbrev w507_K0 (C : WProg) (s : WSt) : Option AV := CK C 0 (pureFin [.cell 4 6 true]) [.sq w507_L0,.bk 0 ⟨true,[5,4,2],[]⟩,.sq w507_c0] w507_B0 s
def w563_c0 : WCode := zd (r (O 2 [tt]))
def w563_c1 : WCode := zd (O 120 [m 5,adi 120 1,d 5 (m 121)])
def w563_B1 : WCode := zd (s (s (O 122 [m 6,m 5,lt 122 123]) (cc 124 (w .skip) (ee 6))) (s (B 7 (s (U 127 [f 5 1,l 1 127,m 5,ix 6 128 129,f 2 130,l 1 131,E (.bin .neq (T 132) (.c (.str []))),m 133,y 134 (f 5 1),y 134 (l 1 135),y 134 (m 5),y 134 (ix 6 136 137),y 134 (f 2 138),y 134 (l 1 139),y 134 (f 5 1),y 134 (l 1 141),y 134 (m 6),y 134 (ix 6 142 143),y 134 (f 2 144),y 134 (l 1 145),y 134 (eq 140 146),pa 134 147] [] [148,6,5,1]) (c 148 (r (O 2 [ff]))))) (O 125 [m 6,adi 125 1,d 6 (m 126)])))
def w563_L1 : WCode := .loop ⟨true,[6,5,1],[]⟩ w563_B1
def w563_B0 : WCode := zd (s (s (O 115 [m 5,f 5 1,l 1 116,ln 1 117,lt 115 118]) (cc 119 (w .skip) (ee 4))) (s (bk 5 (s (O 6 [i 0]) (bk 6 w563_L1 ⟨true,[5,1],[]⟩)) ⟨true,[5,1],[]⟩) w563_c1))
def w563_L0 : WCode := .loop ⟨true,[5,1],[]⟩ w563_B0
def w563_c2 : WCode := zd (s (s (O 5 [i 0]) (bk 4 w563_L0 ⟨true,[],[]⟩)) w563_c0)
def w563_c3 : WCode := zd (O 77 [m 3,adi 77 1,d 3 (m 78)])
def w563_B3 : WCode := zd (s (s (O 97 [m 4,m 3,lt 97 98]) (cc 99 (w .skip) (ee 2))) (s (B 3 (s (U 102 [f 3 1,l 1 102,m 4,ix 2 103 104,f 0 105,l 1 106,f 3 1,l 1 108,m 3,ix 2 109 110,f 0 111,l 1 112,ge 107 113] [] [114,4,3,1]) (c 114 (r (O 2 [ff]))))) (O 100 [m 4,adi 100 1,d 4 (m 101)])))
def w563_L3 : WCode := .loop ⟨true,[4,3,1],[]⟩ w563_B3
def w563_B2 : WCode := zd (s (s (Q 72 [m 3,f 3 1,l 1 73,ln 1 74,lt 72 75] [76,3,1]) (cc 76 (w .skip) (ee 0))) (s (bk 1 (s (s (O 79 [f 3 1,l 1 79,m 3,ix 2 80 81,f 0 82,l 1 83,ca 557 [84],nt 85,m 86,z 87 (f 3 1),z 87 (l 1 88),z 87 (m 3),z 87 (ix 2 89 90),z 87 (f 1 91),z 87 (l 1 92),z 87 (ca 556 [93]),z 87 (nt 94),po 87 95]) (c 96 (r (O 2 [ff])))) (s (O 4 [i 0]) (bk 2 w563_L3 ⟨true,[3,1],[]⟩))) ⟨true,[3,1],[]⟩) w563_c3))
def w563_L2 : WCode := .loop ⟨true,[3,1],[]⟩ w563_B2
def w563 : WFn := ⟨1,[.tmp 2],zd (s (O 1 [bx 0,ff]) (s (s (O 7 [f 0 1,l 1 7,E (.bin .eql (T 8) (.c (.int .u8 2)))]) (c 9 (r (Q 10 [f 4 1,l 1 10,ca 556 [11],m 12,y 13 (f 1 1),y 13 (l 1 14),y 13 (E (.bin .eql (T 15) (.c (.str [])))),pa 13 16,m 17,y 18 (f 2 1),y 18 (l 1 19),y 18 (E (.bin .eql (T 20) (.c (.str [])))),pa 18 21,m 22,y 23 (f 3 1),y 23 (l 1 24),y 23 (ln 1 25),y 23 (eqi 26 0),pa 23 27,m 28,y 29 (f 5 1),y 29 (l 1 30),y 29 (ln 1 31),y 29 (eqi 32 0),pa 29 33,d 2 (m 34)] [2])))) (s (s (Q 35 [f 0 1,l 1 35,E (.bin .neq (T 36) (.c (.int .u8 1))),m 37,z 38 (f 1 1),z 38 (l 1 39),z 38 (ca 557 [40]),z 38 (nt 41),po 38 42,m 43,z 44 (f 2 1),z 44 (l 1 45),z 44 (E (.bin .neq (T 46) (.c (.str [])))),z 44 (m 47),y 48 (f 2 1),y 48 (l 1 49),y 48 (ca 557 [50]),y 48 (nt 51),z 44 (pa 48 52),po 44 53,m 54,z 55 (f 4 1),z 55 (l 1 56),z 55 (E (.bin .neq (T 57) (.c (.str [])))),po 55 58,m 59,z 60 (f 3 1),z 60 (l 1 61),z 60 (ln 1 62),z 60 (gti 63 8),po 60 64,m 65,z 66 (f 5 1),z 66 (l 1 67),z 66 (ln 1 68),z 66 (gti 69 16),po 66 70] [71,1]) (c 71 (r (O 2 [ff])))) (s (s (O 3 [i 0]) (bk 0 w563_L2 ⟨true,[1],[]⟩)) w563_c2))))⟩
@[simp] theorem w563_E1 : ZL w563_L1 w563_B1 ⟨true,[6,5,1],[]⟩ := ck_lp rfl
noncomputable abbrev w563_K1 (C : WProg) (s : WSt) : Option AV := CK C 0 (pureFin [.tmp 2]) [.sq w563_L1,.bk 6 ⟨true,[5,1],[]⟩,.bk 5 ⟨true,[5,1],[]⟩,.sq w563_c1,.sq w563_L0,.bk 4 ⟨true,[],[]⟩,.sq w563_c0] w563_B1 s
@[simp] theorem w563_E0 : ZL w563_L0 w563_B0 ⟨true,[5,1],[]⟩ := ck_lp rfl
noncomputable abbrev w563_K0 (C : WProg) (s : WSt) : Option AV := CK C 0 (pureFin [.tmp 2]) [.sq w563_L0,.bk 4 ⟨true,[],[]⟩,.sq w563_c0] w563_B0 s
@[simp] theorem w563_E3 : ZL w563_L3 w563_B3 ⟨true,[4,3,1],[]⟩ := ck_lp rfl
noncomputable abbrev w563_K3 (C : WProg) (s : WSt) : Option AV := CK C 0 (pureFin [.tmp 2]) [.sq w563_L3,.bk 2 ⟨true,[3,1],[]⟩,.bk 1 ⟨true,[3,1],[]⟩,.sq w563_c3,.sq w563_L2,.bk 0 ⟨true,[1],[]⟩,.sq w563_c2] w563_B3 s
@[simp] theorem w563_E2 : ZL w563_L2 w563_B2 ⟨true,[3,1],[]⟩ := ck_lp rfl
noncomputable abbrev w563_K2 (C : WProg) (s : WSt) : Option AV := CK C 0 (pureFin [.tmp 2]) [.sq w563_L2,.bk 0 ⟨true,[1],[]⟩,.sq w563_c2] w563_B2 s
def w516 : WFn := ⟨1,[.tmp 2],zd (s (O 2 [ff]) (r (O 3 [m 0,ln 0 3,lei 4 64,m 5,y 6 (m 0),y 6 (E (.call 543 [T 7,.c (.fn 560 [])])),y 6 (lti 8 0),pa 6 9,d 2 (m 10)])))⟩
def w517_c0 : WCode := zd (r (O 2 [tt]))
def w517_B0 : WCode := zd (s (O 15 [lt 14 13]) (s (cc 15 (w .skip) (ee 0)) (s (B 1 (s (O 16 [m 14,d 3 (m 16)]) (s (O 17 [m 0,m 3,E (.idxstr (T 17) (T 18)),ca 561 [19],nt 20]) (c 21 (r (O 2 [ff])))))) (O 22 [adi 14 1,d 14 (m 22)]))))
def w517_L0 : WCode := .loop ⟨true,[14,13,0],[]⟩ w517_B0
def w517 : WFn := ⟨1,[.tmp 2],zd (s (O 2 [ff]) (s (s (Q 4 [m 0,ln 0 4,lti 5 1,m 6,z 7 (m 0),z 7 (ln 0 8),z 7 (gti 9 16),po 7 10] [11,0]) (c 11 (r (O 2 [ff])))) (s (s (O 12 [m 0,ln 0 12,i 0]) (bk 0 w517_L0 ⟨true,[],[]⟩)) w517_c0)))⟩
@[simp] theorem w517_E0 : ZL w517_L0 w517_B0 ⟨true,[14,13,0],[]⟩ := ck_lp rfl
noncomputable abbrev w517_K0 (C : WProg) (s : WSt) : Option AV := CK C 0 (pureFin [.tmp 2]) [.sq w517_L0,.bk 0 ⟨true,[],[]⟩,.sq w517_c0] w517_B0 s
def w518 : WFn := ⟨2,[.tmp 4],zd (s (O 4 [ff]) (r (O 5 [m 0,m 1,ca 562 [5,6],gei 7 0,d 4 (m 8)])))⟩
def w519 : WFn := ⟨2,[.tmp 3],zd (s (O 2 [bx 0,ff]) (r (O 4 [f 2 2,l 1 4,f 2 1,l 1 6,eq 5 7,d 3 (m 8)])))⟩
def w556_c0 : WCode := zd (r (O 2 [tt]))
def w556_B0 : WCode := zd (s (s (O 7 [m 3,m 0,ln 0 8,lt 7 9]) (cc 10 (w .skip) (ee 0))) (s (B 1 (s (O 13 [m 0,m 3,E (.idxstr (T 13) (T 14)),E (.bin .lss (T 15) (.c (.int .u8 32))),m 16,z 17 (m 0),z 17 (m 3),z 17 (E (.idxstr (T 18) (T 19))),z 17 (E (.bin .gtr (T 20) (.c (.int .u8 126)))),po 17 21]) (c 22 (r (O 2 [ff]))))) (O 11 [m 3,adi 11 1,d 3 (m 12)])))
def w556_L0 : WCode := .loop ⟨true,[3,0],[]⟩ w556_B0
def w556 : WFn := ⟨1,[.tmp 2],zd (s (O 2 [ff]) (s (s (Q 4 [m 0,ln 0 4,gti 5 64] [6,0]) (c 6 (r (O 2 [ff])))) (s (s (O 3 [i 0]) (bk 0 w556_L0 ⟨true,[],[]⟩)) w556_c0)))⟩
@[simp] theorem w556_E0 : ZL w556_L0 w556_B0 ⟨true,[3,0],[]⟩ := ck_lp rfl
noncomputable abbrev w556_K0 (C : WProg) (s : WSt) : Option AV := CK C 0 (pureFin [.tmp 2]) [.sq w556_L0,.bk 0 ⟨true,[],[]⟩,.sq w556_c0] w556_B0 s
def w557_c0 : WCode := zd (r (O 36 [m 0,ln 0 36,gei 37 1,m 38,y 39 (m 0),y 39 (ln 0 40),y 39 (lei 41 16),pa 39 42,d 2 (m 43)]))
def w557_B0 : WCode := zd (s (s (O 4 [m 3,m 0,ln 0 5,lt 4 6,m 7,y 8 (m 3),y 8 (lti 9 17),pa 8 10]) (cc 11 (w .skip) (ee 0))) (s (B 1 (s (Q 14 [m 0,m 3,E (.idxstr (T 14) (T 15)),E (.bin .lss (T 16) (.c (.int .u8 97))),m 17,z 18 (m 0),z 18 (m 3),z 18 (E (.idxstr (T 19) (T 20))),z 18 (E (.bin .gtr (T 21) (.c (.int .u8 122)))),po 18 22,m 23,y 24 (m 0),y 24 (m 3),y 24 (E (.idxstr (T 25) (T 26))),y 24 (E (.bin .lss (T 27) (.c (.int .u8 48)))),y 24 (m 28),z 29 (m 0),z 29 (m 3),z 29 (E (.idxstr (T 30) (T 31))),z 29 (E (.bin .gtr (T 32) (.c (.int .u8 57)))),y 24 (po 29 33),pa 24 34] [35,3,0]) (c 35 (r (O 2 [ff]))))) (O 12 [m 3,adi 12 1,d 3 (m 13)])))
def w557_L0 : WCode := .loop ⟨true,[3,0],[]⟩ w557_B0
def w557 : WFn := ⟨1,[.tmp 2],zd (s (O 2 [ff]) (s (s (O 3 [i 0]) (bk 0 w557_L0 ⟨true,[0],[]⟩)) w557_c0))⟩
@[simp] theorem w557_E0 : ZL w557_L0 w557_B0 ⟨true,[3,0],[]⟩ := ck_lp rfl
noncomputable abbrev w557_K0 (C : WProg) (s : WSt) : Option AV := CK C 0 (pureFin [.tmp 2]) [.sq w557_L0,.bk 0 ⟨true,[0],[]⟩,.sq w557_c0] w557_B0 s
def w558 : WFn := ⟨1,[.tmp 2],zd (s (O 2 [E (.mv (.c (.str [])))]) (s (s (O 3 [m 0,E (.bin .lss (T 3) (.c (.int .u64 10)))]) (c 4 (r (O 5 [m 0,m 0,E (.bin .add (T 6) (.c (.int .u64 1))),E (.slice 0 (.c (.str [48,49,50,51,52,53,54,55,56,57])) (some (T 5)) (some (T 7)) none),d 2 (m 8)])))) (r (O 9 [m 0,E (.bin .quo (T 9) (.c (.int .u64 10))),ca 558 [10],m 0,E (.bin .rem (T 12) (.c (.int .u64 10))),ca 558 [13],ad 11 14,d 2 (m 15)]))))⟩
def w559_c0 : WCode := zd (r (O 50 [m 5,d 4 (m 50)]))
def w559_B0 : WCode := zd (s (s (O 8 [m 6,m 0,ln 1 9,lt 8 10]) (cc 11 (w .skip) (ee 0))) (s (B 1 (s (O 14 [m 0,m 6,ix 3 14 15,f 2 16,l 1 17,d 7 (m 18)]) (s (s (O 19 [m 0,m 6,ix 3 19 20,f 1 21,l 1 22]) (B 2 (s (O 25 [E (.bin .eql (T 23) (.c (.int .u8 1))),d 24 (m 25)]) (cc 24 (O 26 [f 2 3,l 1 26,d 7 (m 27)]) (s (O 29 [E (.bin .eql (T 23) (.c (.int .u8 2))),d 28 (m 29)]) (cc 28 (O 30 [f 0 3,l 1 30,ca 558 [31],d 7 (m 32)]) (s (O 34 [E (.bin .eql (T 23) (.c (.int .u8 3))),d 33 (m 34)]) (c 33 (Q 35 [f 3 3,l 1 35,ln 1 36,E (.cvt .u64 (T 37)),ca 558 [38],d 7 (m 39)] [7,6,5,3,0]))))))))) (O 40 [m 5,m 0,m 6,ix 3 41 42,f 0 43,l 1 44,m 7,E (.build [.str [],.str []] [(0,1,T 45),(1,1,T 46)]),E (.buildS [.str [],.str []] 1 [(0,T 47)]),E (.app [.str [],.str []] 32 false (T 40) (T 48)),d 5 (m 49)])))) (O 12 [m 6,adi 12 1,d 6 (m 13)])))
def w559_L0 : WCode := .loop ⟨true,[6,5,3,0],[]⟩ w559_B0
def w559 : WFn := ⟨2,[.tmp 4],zd (s (Q 3 [bx 1,E (.mv (.c (.ro 2 [] true)))] [3,0]) (s (R 5 [E (.mv (.c (.ro 2 [] true)))] ⟨true,[5,3,0],[(5,2)]⟩) (s (s (O 6 [i 0]) (bk 0 w559_L0 ⟨true,[5],[]⟩)) w559_c0)))⟩
@[simp] theorem w559_E0 : ZL w559_L0 w559_B0 ⟨true,[6,5,3,0],[]⟩ := ck_lp rfl
noncomputable abbrev w559_K0 (C : WProg) (s : WSt) : Option AV := CK C 0 (pureFin [.tmp 4]) [.sq w559_L0,.bk 0 ⟨true,[5],[]⟩,.sq w559_c0] w559_B0 s
def w543 : WFn := ⟨2,[.tmp 4],zd (s (O 4 [i 0]) (r (O 5 [m 0,m 1,E (.call 578 [T 5,T 6,.c (.bool true)]),d 4 (m 7)])))⟩
def w544_c0 : WCode := zd (r (O 4 [i (-1)]))
def w544_B0 : WCode := zd (s (O 9 [lt 8 7]) (s (cc 9 (w .skip) (ee 0)) (s (B 1 (s (O 10 [m 8,d 5 (m 10)]) (s (O 11 [m 1,m 0,m 5,ix 1 12 13,l 1 14,E (.callv (T 11) [T 15])]) (c 16 (r (O 17 [m 5,d 4 (m 17)])))))) (O 18 [adi 8 1,d 8 (m 18)]))))
def w544_L0 : WCode := .loop ⟨true,[8,7,1,0],[]⟩ w544_B0
def w544 : WFn := ⟨2,[.tmp 4],zd (s (O 4 [i 0]) (s (s (O 6 [m 0,ln 1 6,i 0]) (bk 0 w544_L0 ⟨true,[],[]⟩)) w544_c0))⟩
@[simp] theorem w544_E0 : ZL w544_L0 w544_B0 ⟨true,[8,7,1,0],[]⟩ := ck_lp rfl
noncomputable abbrev w544_K0 (C : WProg) (s : WSt) : Option AV := CK C 0 (pureFin [.tmp 4]) [.sq w544_L0,.bk 0 ⟨true,[],[]⟩,.sq w544_c0] w544_B0 s
def w545 : WFn := ⟨1,[.tmp 2],zd (s (O 2 [ff]) (r (O 3 [m 0,E (.bin .lss (T 3) (.c (.int .i32 97))),m 4,z 5 (m 0),z 5 (E (.bin .gtr (T 6) (.c (.int .i32 122)))),po 5 7,m 8,y 9 (m 0),y 9 (E (.bin .lss (T 10) (.c (.int .i32 48)))),y 9 (m 11),z 12 (m 0),z 12 (E (.bin .gtr (T 13) (.c (.int .i32 57)))),y 9 (po 12 14),pa 9 15,d 2 (m 16)])))⟩
def w546 : WFn := ⟨1,[.tmp 2],zd (s (Q 1 [bx 0,i 0] [1]) (s (s (O 3 [f 0 1,l 1 3,E (.bin .eql (T 4) (.c (.int .u64 0))),m 5,z 6 (f 2 1),z 6 (l 1 7),z 6 (ca 579 [8]),z 6 (nt 9),po 6 10,m 11,z 12 (f 3 1),z 12 (l 1 13),z 12 (ln 1 14),z 12 (gti 15 8),po 12 16,m 17,z 18 (f 3 1),z 18 (l 1 19),z 18 (E (.call 498 [T 20,.c (.fn 580 [])])),po 18 21]) (c 22 (r (O 2 [i 6])))) (r (O 2 [i 0]))))⟩
def w547_c0 : WCode := zd (r (O 81 [m 5,d 4 (m 81)]))
def w547_c1 : WCode := zd (O 80 [adi 12 1,d 12 (m 80)])
def w547_B1 : WCode := zd (s (O 66 [lt 65 64]) (s (cc 66 (w .skip) (ee 3)) (s (B 4 (s (O 67 [ix 1 63 65,l 1 67,d 9 (m 68)]) (U 69 [m 5,h 4 2,h 6 7,m 9,m 9,ca 583 [73],E (.buildS [.int .u8 0,.str [],.str [],.ro 2 [] true,.str [],.ro 6 [] true] 1 [(0,T 74)]),ca 582 [70,71,72,75],E (.buildS [.int .u8 0,.str [],.str [],.ro 2 [] true,.str [],.ro 6 [] true] 1 [(0,T 76)]),E (.app [.int .u8 0,.str [],.str [],.ro 2 [] true,.str [],.ro 6 [] true] 104 false (T 69) (T 77)),d 5 (m 78)] [(1,5),(2,5),(1,6),(2,6)] [65,64,63,12,11,10,7,5,2]))) (O 79 [adi 65 1,d 65 (m 79)]))))
def w547_L1 : WCode := .loop ⟨true,[65,64,63,12,11,10,7,5,2],[]⟩ w547_B1
def w547_B0 : WCode := zd (s (O 13 [lt 12 11]) (s (cc 13 (w .skip) (ee 0)) (s (bk 1 (s (Q 14 [ix 6 10 12,h 6 14,d 7 (E (.alloc [.int .u8 0,.str [],.str [],.ro 3 [] true,.str [],.ro 6 [] true])),n (st 6 7 15)] [12,11,10,7,5,2]) (s (O 16 [f 0 7,l 1 16]) (bk 2 (s (O 19 [E (.bin .eql (T 17) (.c (.int .u8 1))),d 18 (m 19)]) (cc 18 (V 20 [m 5,h 4 2,h 6 7,f 2 7,l 1 23,h 4 2,f 5 7,l 1 26,ca 547 [25,27],ca 582 [21,22,24,28],E (.buildS [.int .u8 0,.str [],.str [],.ro 2 [] true,.str [],.ro 6 [] true] 1 [(0,T 29)]),E (.app [.int .u8 0,.str [],.str [],.ro 2 [] true,.str [],.ro 6 [] true] 104 false (T 20) (T 30)),d 5 (m 31)] [(1,8),(2,8),(4,8)] ⟨false,[],[]⟩) (s (O 33 [E (.bin .eql (T 17) (.c (.int .u8 2))),d 32 (m 33)]) (cc 32 (Q 34 [m 5,f 4 7,l 1 35,ca 583 [36],E (.buildS [.int .u8 0,.str [],.str [],.ro 2 [] true,.str [],.ro 6 [] true] 1 [(0,T 37)]),E (.app [.int .u8 0,.str [],.str [],.ro 2 [] true,.str [],.ro 6 [] true] 104 false (T 34) (T 38)),d 5 (m 39)] [12,11,10,5,2]) (s (O 41 [E (.bin .eql (T 17) (.c (.int .u8 3))),d 40 (m 41)]) (cc 40 (O 42 [m 5,f 0 2,f 2 43,l 1 44,ca 583 [45],E (.buildS [.int .u8 0,.str [],.str [],.ro 2 [] true,.str [],.ro 6 [] true] 1 [(0,T 46)]),E (.app [.int .u8 0,.str [],.str [],.ro 2 [] true,.str [],.ro 6 [] true] 104 false (T 42) (T 47)),d 5 (m 48)]) (s (O 50 [E (.bin .eql (T 17) (.c (.int .u8 4))),d 49 (m 50)]) (cc 49 (O 51 [m 5,f 0 2,f 0 52,l 1 53,ca 584 [54],ca 583 [55],E (.buildS [.int .u8 0,.str [],.str [],.ro 2 [] true,.str [],.ro 6 [] true] 1 [(0,T 56)]),E (.app [.int .u8 0,.str [],.str [],.ro 2 [] true,.str [],.ro 6 [] true] 104 false (T 51) (T 57)),d 5 (m 58)]) (s (O 60 [E (.bin .eql (T 17) (.c (.int .u8 5))),d 59 (m 60)]) (c 59 (s (O 61 [f 0 2,f 3 61,l 1 62,ln 1 63,i 0]) (bk 3 w547_L1 ⟨true,[12,11,10,5,2],[]⟩)))))))))))) ⟨true,[12,11,10,5,2],[]⟩))) ⟨true,[12,11,10,5,2],[]⟩) w547_c1)))
def w547_L0 : WCode := .loop ⟨true,[12,11,10,5,2],[]⟩ w547_B0
def w547 : WFn := ⟨2,[.tmp 4],zd (s (O 4 [d 2 (bx 0),E (.mv (.c (.ro 6 [] true)))]) (s (R 5 [E (.mv (.c (.ro 6 [] true)))] ⟨true,[5,2,1],[(5,6)]⟩) (s (s (O 10 [m 1,ln 1 10,i 0]) (bk 0 w547_L0 ⟨true,[5],[]⟩)) w547_c0)))⟩
@[simp] theorem w547_E1 : ZL w547_L1 w547_B1 ⟨true,[65,64,63,12,11,10,7,5,2],[]⟩ := ck_lp rfl
noncomputable abbrev w547_K1 (C : WProg) (s : WSt) : Option AV := CK C 0 (pureFin [.tmp 4]) [.sq w547_L1,.bk 3 ⟨true,[12,11,10,5,2],[]⟩,.bk 2 ⟨true,[12,11,10,5,2],[]⟩,.bk 1 ⟨true,[12,11,10,5,2],[]⟩,.sq w547_c1,.sq w547_L0,.bk 0 ⟨true,[5],[]⟩,.sq w547_c0] w547_B1 s
@[simp] theorem w547_E0 : ZL w547_L0 w547_B0 ⟨true,[12,11,10,5,2],[]⟩ := ck_lp rfl
noncomputable abbrev w547_K0 (C : WProg) (s : WSt) : Option AV := CK C 0 (pureFin [.tmp 4]) [.sq w547_L0,.bk 0 ⟨true,[5],[]⟩,.sq w547_c0] w547_B0 s
def w550_c0 : WCode := zd (r (O 35 [m 5,d 4 (m 35)]))
def w550_B0 : WCode := zd (s (s (Q 14 [m 6,f 5 2,l 1 15,ln 1 16,lt 14 17,m 18,y 19 (m 5),y 19 (lei 20 64),pa 19 21] [22,6,5,2,1]) (cc 22 (w .skip) (ee 0))) (s (B 1 (O 25 [m 5,f 5 2,l 1 26,m 6,ix 6 27 28,h 6 29,m 1,sbi 31 1,ca 550 [30,32],ad 25 33,d 5 (m 34)])) (O 23 [m 6,adi 23 1,d 6 (m 24)])))
def w550_L0 : WCode := .loop ⟨true,[6,5,2,1],[]⟩ w550_B0
def w550 : WFn := ⟨2,[.tmp 4],zd (s (O 4 [d 2 (bx 0),i 0]) (s (s (O 7 [m 1,lti 7 1,m 8,z 9 (h 6 2),z 9 (ca 586 [10]),z 9 (nt 11),po 9 12]) (c 13 (r (O 4 [i 1000])))) (s (O 5 [i 1]) (s (s (O 6 [i 0]) (bk 0 w550_L0 ⟨true,[5],[]⟩)) w550_c0))))⟩
@[simp] theorem w550_E0 : ZL w550_L0 w550_B0 ⟨true,[6,5,2,1],[]⟩ := ck_lp rfl
noncomputable abbrev w550_K0 (C : WProg) (s : WSt) : Option AV := CK C 0 (pureFin [.tmp 4]) [.sq w550_L0,.bk 0 ⟨true,[5],[]⟩,.sq w550_c0] w550_B0 s
def w404 : WFn := ⟨1,[.tmp 2],zd (s (O 1 [bx 0,i 0]) (r (O 3 [E (.call 502 [T 1,.c (.fn 503 [])]),d 2 (m 3)])))⟩
def w555 : WFn := ⟨1,[.tmp 2],zd (s (O 2 [ff]) (r (O 3 [m 0,m 0,ne 3 4,d 2 (m 5)])))⟩
def w553 : WFn := ⟨1,[.tmp 2],zd (s (O 2 [E (.mv (.c (.ro 2 [] true)))]) (r (O 3 [m 0,m 0,ln 1 4,m 0,ln 1 6,E (.slice 2 (T 3) none (some (T 5)) (some (T 7))),d 2 (m 8)])))⟩
def w554 : WFn := ⟨1,[.tmp 2],zd (w (.cln [.str [],.str []] 2 32))⟩
def w560 : WFn := ⟨1,[.tmp 2],zd (s (O 2 [ff]) (r (O 3 [m 0,E (.bin .lss (T 3) (.c (.int .i32 32))),m 4,z 5 (m 0),z 5 (E (.bin .gtr (T 6) (.c (.int .i32 126)))),po 5 7,d 2 (m 8)])))⟩
def w561 : WFn := ⟨1,[.tmp 2],zd (s (O 2 [ff]) (r (O 3 [m 0,E (.bin .geq (T 3) (.c (.int .u8 97))),m 4,y 5 (m 0),y 5 (E (.bin .leq (T 6) (.c (.int .u8 122)))),pa 5 7,m 8,z 9 (m 0),z 9 (E (.bin .geq (T 10) (.c (.int .u8 48)))),z 9 (m 11),y 12 (m 0),y 12 (E (.bin .leq (T 13) (.c (.int .u8 57)))),z 9 (pa 12 14),po 9 15,d 2 (m 16)])))⟩
def w562_c0 : WCode := zd (r (O 4 [i (-1)]))
def w562_B0 : WCode := zd (s (O 9 [lt 8 7]) (s (cc 9 (w .skip) (ee 0)) (s (B 1 (s (O 10 [m 8,d 5 (m 10)]) (s (O 11 [m 1,m 0,m 5,ix 6 12 13,h 6 14,E (.callv (T 11) [T 15])]) (c 16 (r (O 17 [m 5,d 4 (m 17)])))))) (O 18 [adi 8 1,d 8 (m 18)]))))
def w562_L0 : WCode := .loop ⟨true,[8,7,1,0],[]⟩ w562_B0
def w562 : WFn := ⟨2,[.tmp 4],zd (s (O 4 [i 0]) (s (s (O 6 [m 0,ln 1 6,i 0]) (bk 0 w562_L0 ⟨true,[],[]⟩)) w562_c0))⟩
@[simp] theorem w562_E0 : ZL w562_L0 w562_B0 ⟨true,[8,7,1,0],[]⟩ := ck_lp rfl
noncomputable abbrev w562_K0 (C : WProg) (s : WSt) : Option AV := CK C 0 (pureFin [.tmp 4]) [.sq w562_L0,.bk 0 ⟨true,[],[]⟩,.sq w562_c0] w562_B0 s
def w578_c0 : WCode := zd (r (O 6 [i (-1)]))
def w578_B0 : WCode := zd (s (O 11 [E (.next (T 10)),ex 0 11]) (s (cc 12 (w .skip) (ee 0)) (B 1 (s (O 13 [ex 1 11,ex 2 11,d 7 (m 13),d 8 (m 14)]) (s (O 15 [m 1,m 8,E (.callv (T 15) [T 16]),m 2,E (.eqv 5 [] false (T 17) (T 18))]) (c 19 (r (O 20 [m 7,d 6 (m 20)]))))))))
def w578_L0 : WCode := .loop ⟨true,[10,2,1],[]⟩ w578_B0
def w578 : WFn := ⟨3,[.tmp 6],zd (s (O 6 [i 0]) (s (s (O 9 [m 0,E (.range (T 9))]) (bk 0 w578_L0 ⟨true,[],[]⟩)) w578_c0))⟩
@[simp] theorem w578_E0 : ZL w578_L0 w578_B0 ⟨true,[10,2,1],[]⟩ := ck_lp rfl
noncomputable abbrev w578_K0 (C : WProg) (s : WSt) : Option AV := CK C 0 (pureFin [.tmp 6]) [.sq w578_L0,.bk 0 ⟨true,[],[]⟩,.sq w578_c0] w578_B0 s
def w579 : WFn := ⟨1,[.tmp 2],zd (s (O 2 [ff]) (r (O 3 [m 0,E (.build [.int .u8 0,.str [],.str [],.ro 2 [] true,.str [],.ro 6 [] true] [(0,1,.c (.int .u8 2)),(4,1,T 3)]),ca 439 [4],eqi 5 0,d 2 (m 6)])))⟩
def w580 : WFn := ⟨1,[.tmp 2],zd (s (O 2 [ff]) (r (O 3 [m 0,ca 581 [3],nt 4,d 2 (m 5)])))⟩
def w581 : WFn := ⟨1,[.tmp 2],zd (s (O 2 [ff]) (r (O 3 [m 0,E (.build [.int .u8 0,.str [],.str [],.ro 2 [] true,.str [],.ro 6 [] true] [(0,1,.c (.int .u8 1)),(1,1,T 3)]),ca 439 [4],eqi 5 0,d 2 (m 6)])))⟩
def w582 : WFn := ⟨4,[.cell 8 6 true],zd (s (O 4 [bx 0,bx 1,d 8 (E (.alloc [.int .u8 0,.str [],.str [],.ro 2 [] true,.str [],.ro 6 [] true]))]) (r (V 9 [f 1 5,l 1 9,m 2,h 4 4,f 3 5,l 1 13,ca 592 [12,14],m 3,ca 593 [16],E (.build [.int .u8 0,.str [],.str [],.ro 2 [] true,.str [],.ro 6 [] true] [(0,1,.c (.int .u8 1)),(1,1,T 10),(2,1,T 11),(3,1,T 15),(5,1,T 17)]),n (st 6 8 18)] [(1,6),(1,8)] ⟨false,[],[]⟩)))⟩
def w583 : WFn := ⟨1,[.cell 2 6 true],zd (s (O 2 [E (.alloc [.int .u8 0,.str [],.str [],.ro 2 [] true,.str [],.ro 6 [] true])]) (r (O 3 [m 0,E (.build [.int .u8 0,.str [],.str [],.ro 2 [] true,.str [],.ro 6 [] true] [(0,1,.c (.int .u8 2)),(4,1,T 3)]),n (st 6 2 4)])))⟩
def w584_B0 : WCode := zd (B 1 (s (O 5 [m 4,sbi 5 1,d 4 (m 6)]) (s (O 7 [m 4,m 0,E (.bin .rem (T 8) (.c (.int .u64 10))),E (.idxstr (.c (.str [48,49,50,51,52,53,54,55,56,57])) (T 9)),E (.idxa 20 1 (T 3) (T 7)),n (st 1 11 10)]) (s (O 12 [m 0,E (.bin .quo (T 12) (.c (.int .u64 10))),d 0 (m 13)]) (s (O 14 [m 0,E (.bin .eql (T 14) (.c (.int .u64 0)))]) (c 15 (r (O 16 [m 4,E (.sliceA 20 (T 3) (some (T 16)) none),E (.cvb (T 17)),d 2 (m 18)]))))))))
def w584_L0 : WCode := .loop ⟨true,[4,3,0],[]⟩ w584_B0
def w584 : WFn := ⟨1,[.tmp 2],zd (s (O 2 [E (.mv (.c (.str [])))]) (s (O 3 [E (.alloc (rep 20 (.int .u8 0)))]) (s (O 4 [i 20]) (bk 0 w584_L0 ⟨true,[2],[]⟩))))⟩
@[simp] theorem w584_E0 : ZL w584_L0 w584_B0 ⟨true,[4,3,0],[]⟩ := ck_lp rfl
noncomputable abbrev w584_K0 (C : WProg) (s : WSt) : Option AV := CK C 0 (pureFin [.tmp 2]) [.sq w584_L0,.bk 0 ⟨true,[2],[]⟩] w584_B0 s
def w586 : WFn := ⟨1,[.tmp 2],zd (s (O 1 [bx 0,ff]) (s (s (O 3 [f 0 1,l 1 3]) (B 0 (s (O 6 [E (.bin .eql (T 4) (.c (.int .u8 1))),d 5 (m 6)]) (cc 5 (r (Q 7 [f 1 1,l 1 7,ca 557 [8],m 9,y 10 (f 2 1),y 10 (l 1 11),y 10 (E (.bin .eql (T 12) (.c (.str [])))),y 10 (m 13),z 14 (f 2 1),z 14 (l 1 15),z 14 (ca 557 [16]),y 10 (po 14 17),pa 10 18,m 19,y 20 (f 3 1),y 20 (l 1 21),y 20 (ca 594 [22]),pa 20 23,m 24,y 25 (f 4 1),y 25 (l 1 26),y 25 (E (.bin .eql (T 27) (.c (.str [])))),pa 25 28,m 29,y 30 (f 5 1),y 30 (l 1 31),y 30 (ln 1 32),y 30 (lei 33 16),pa 30 34,d 2 (m 35)] [2])) (s (O 37 [E (.bin .eql (T 4) (.c (.int .u8 2))),d 36 (m 37)]) (cc 36 (r (Q 38 [f 4 1,l 1 38,ca 556 [39],m 40,y 41 (f 1 1),y 41 (l 1 42),y 41 (E (.bin .eql (T 43) (.c (.str [])))),pa 41 44,m 45,y 46 (f 2 1),y 46 (l 1 47),y 46 (E (.bin .eql (T 48) (.c (.str [])))),pa 46 49,m 50,y 51 (f 3 1),y 51 (l 1 52),y 51 (ln 1 53),y 51 (f 5 1),y 51 (l 1 55),y 51 (ln 1 56),y 51 (ad 54 57),y 51 (eqi 58 0),pa 51 59,d 2 (m 60)] [2])) (s (s (O 62 [E (.bin .eql (T 4) (.c (.int .u8 3))),d 61 (m 62)]) (cc 61 (w .skip) (O 63 [E (.bin .eql (T 4) (.c (.int .u8 4))),d 61 (m 63)]))) (cc 61 (r (Q 64 [f 4 1,l 1 64,E (.bin .eql (T 65) (.c (.str []))),m 66,y 67 (f 1 1),y 67 (l 1 68),y 67 (E (.bin .eql (T 69) (.c (.str [])))),pa 67 70,m 71,y 72 (f 2 1),y 72 (l 1 73),y 72 (E (.bin .eql (T 74) (.c (.str [])))),pa 72 75,m 76,y 77 (f 3 1),y 77 (l 1 78),y 77 (ln 1 79),y 77 (f 5 1),y 77 (l 1 81),y 77 (ln 1 82),y 77 (ad 80 83),y 77 (eqi 84 0),pa 77 85,d 2 (m 86)] [2])) (s (O 88 [E (.bin .eql (T 4) (.c (.int .u8 5))),d 87 (m 88)]) (c 87 (r (Q 89 [f 1 1,l 1 89,ca 557 [90],m 91,y 92 (f 3 1),y 92 (l 1 93),y 92 (ca 594 [94]),pa 92 95,m 96,y 97 (f 2 1),y 97 (l 1 98),y 97 (E (.bin .eql (T 99) (.c (.str [])))),pa 97 100,m 101,y 102 (f 4 1),y 102 (l 1 103),y 102 (E (.bin .eql (T 104) (.c (.str [])))),pa 102 105,m 106,y 107 (f 5 1),y 107 (l 1 108),y 107 (ln 1 109),y 107 (eqi 110 0),pa 107 111,d 2 (m 112)] [2])))))))))))) (r (O 2 [ff]))))⟩
def w502 : WFn := ⟨2,[.tmp 4],zd (s (O 3 [bx 1,i 0]) (s (s (O 7 [m 0,nk 7,f 0 8,l 1 9,E (.bin .neq (T 10) (.c (.int .u8 1)))]) (c 11 (r (O 4 [i 0])))) (s (O 5 [E (.alloc [.int .i64 0]),n (E (.store 1 (T 5) (N 0)))]) (s (O 6 [E (.alloc [.nilf])]) (s (O 12 [E (.mkfn 548 [T 5,T 3,T 6]),n (st 1 6 12)]) (s (s (O 13 [l 1 6,m 0,E (.callv (T 13) [T 14,N 1]),nt 15]) (c 16 (r (O 4 [i 0])))) (r (O 17 [l 1 5,d 4 (m 17)]))))))))⟩
def w503 : WFn := ⟨1,[],zd (w .skip)⟩
def w592_c0 : WCode := zd (r (O 44 [m 5,d 4 (m 44)]))
def w592_B0 : WCode := zd (s (O 14 [lt 13 12]) (s (cc 14 (w .skip) (ee 0)) (s (B 1 (s (O 15 [m 13,ix 3 11 13,h 3 16,d 7 (E (.alloc [.str [],.int .u8 0,.str []])),d 6 (m 15),n (st 3 7 17)]) (U 18 [m 5,m 6,f 0 7,l 1 20,f 2 7,l 1 22,f 0 2,f 2 24,l 1 25,f 0 2,f 0 27,l 1 28,ca 584 [29],f 0 2,f 3 31,l 1 32,ln 1 33,E (.cvt .u64 (T 34)),ca 584 [35],E (.build [.str [],.str [],.str [],.str []] [(0,1,T 23),(1,1,T 26),(2,1,T 30),(3,1,T 36)]),f 1 7,l 1 38,E (.idxv 4 1 false (T 37) (T 39)),E (.build [.str [],.str []] [(0,1,T 21),(1,1,T 40)]),ix 2 18 19,n (st 2 42 41)] [(3,12),(5,12),(8,12),(12,15),(12,16),(3,18),(5,18),(8,18),(12,21),(18,21)] [13,12,11,5,2]))) (O 43 [adi 13 1,d 13 (m 43)]))))
def w592_L0 : WCode := .loop ⟨true,[13,12,11,5,2],[]⟩ w592_B0
def w592 : WFn := ⟨2,[.tmp 4],zd (s (O 4 [d 2 (bx 0),E (.mv (.c (.ro 2 [] true)))]) (s (O 8 [m 1,ln 1 8,E (.mksl [.str [],.str []] 32 (T 9) (T 9)),d 5 (m 10)]) (s (s (O 11 [m 1,ln 1 11,i 0]) (bk 0 w592_L0 ⟨true,[5],[]⟩)) w592_c0)))⟩
@[simp] theorem w592_E0 : ZL w592_L0 w592_B0 ⟨true,[13,12,11,5,2],[]⟩ := ck_lp rfl
noncomputable abbrev w592_K0 (C : WProg) (s : WSt) : Option AV := CK C 0 (pureFin [.tmp 4]) [.sq w592_L0,.bk 0 ⟨true,[5],[]⟩,.sq w592_c0] w592_B0 s
def w593 : WFn := ⟨1,[.tmp 2],zd (s (O 2 [E (.mv (.c (.ro 6 [] true)))]) (r (O 3 [m 0,m 0,ln 1 4,m 0,ln 1 6,E (.slice 6 (T 3) none (some (T 5)) (some (T 7))),d 2 (m 8)])))⟩
def w594_c0 : WCode := zd (r (O 2 [tt]))
def w594_B0 : WCode := zd (s (s (O 8 [m 3,m 0,ln 1 9,lt 8 10]) (cc 11 (w .skip) (ee 0))) (s (B 1 (s (O 14 [m 0,m 3,ix 3 14 15,h 3 16,d 4 (E (.alloc [.str [],.int .u8 0,.str []])),n (st 3 4 17)]) (s (U 18 [f 0 4,l 1 18,ca 557 [19],nt 20,m 21,z 22 (f 1 4),z 22 (l 1 23),z 22 (E (.bin .gtr (T 24) (.c (.int .u8 3)))),po 22 25,m 26,z 27 (f 2 4),z 27 (l 1 28),z 27 (ca 556 [29]),z 27 (nt 30),po 27 31,m 32,z 33 (f 1 4),z 33 (l 1 34),z 33 (E (.bin .neq (T 35) (.c (.int .u8 0)))),z 33 (m 36),y 37 (f 2 4),y 37 (l 1 38),y 37 (E (.bin .neq (T 39) (.c (.str [])))),z 33 (pa 37 40),po 33 41,m 42,z 43 (m 3),z 43 (gti 44 0),z 43 (m 45),y 46 (m 0),y 46 (m 3),y 46 (sbi 48 1),y 46 (ix 3 47 49),y 46 (f 0 50),y 46 (l 1 51),y 46 (f 0 4),y 46 (l 1 53),y 46 (ge 52 54),z 43 (pa 46 55),po 43 56] [] [57,3,0]) (c 57 (r (O 2 [ff])))))) (O 12 [m 3,adi 12 1,d 3 (m 13)])))
def w594_L0 : WCode := .loop ⟨true,[3,0],[]⟩ w594_B0
def w594 : WFn := ⟨1,[.tmp 2],zd (s (O 2 [ff]) (s (s (O 5 [m 0,ln 1 5,gti 6 8]) (c 7 (r (O 2 [ff])))) (s (s (O 3 [i 0]) (bk 0 w594_L0 ⟨true,[],[]⟩)) w594_c0)))⟩
@[simp] theorem w594_E0 : ZL w594_L0 w594_B0 ⟨true,[3,0],[]⟩ := ck_lp rfl
noncomputable abbrev w594_K0 (C : WProg) (s : WSt) : Option AV := CK C 0 (pureFin [.tmp 2]) [.sq w594_L0,.bk 0 ⟨true,[],[]⟩,.sq w594_c0] w594_B0 s
def w548_c0 : WCode := zd (r (O 7 [tt]))
def w548_B0 : WCode := zd (s (O 31 [lt 30 29]) (s (cc 31 (w .skip) (ee 0)) (s (B 1 (s (O 32 [m 30,d 8 (m 32)]) (s (V 33 [l 1 4,m 0,nk 34,f 5 35,l 1 36,m 8,ix 6 37 38,m 1,adi 40 1,E (.callv (T 33) [T 39,T 41]),nt 42] [] ⟨false,[],[]⟩) (c 43 (r (O 7 [ff])))))) (O 44 [adi 30 1,d 30 (m 44)]))))
def w548_L0 : WCode := .loop ⟨true,[30,29,4,1,0],[]⟩ w548_B0
def w548 : WFn := ⟨5,[.tmp 7],zd (s (O 7 [ff]) (s (O 9 [l 1 2,adi 9 1,n (st 1 2 10)]) (s (s (O 11 [m 1,gti 11 6,m 12,z 13 (l 1 2),z 13 (gti 14 64),po 13 15,m 16,z 17 (m 0),z 17 (ca 549 [18]),z 17 (nt 19),po 17 20]) (c 21 (r (O 7 [ff])))) (s (O 22 [l 1 3,m 0,E (.callv (T 22) [T 23])]) (s (s (Q 25 [m 0,nk 25,f 5 26,l 1 27,ln 1 28,i 0] [30,29,4,1,0]) (bk 0 w548_L0 ⟨true,[],[]⟩)) w548_c0)))))⟩
@[simp] theorem w548_E0 : ZL w548_L0 w548_B0 ⟨true,[30,29,4,1,0],[]⟩ := ck_lp rfl
def w549 : WFn := ⟨1,[.tmp 2],zd (s (O 2 [ff]) (s (O 4 [m 0,nk 4,h 6 5,d 3 (E (.alloc [.int .u8 0,.str [],.str [],.ro 3 [] true,.str [],.ro 6 [] true])),n (st 6 3 6)]) (s (s (O 7 [m 0,nk 7,f 0 8,l 1 9]) (B 0 (s (B 5 (s (B 4 (s (B 3 (s (B 2 (s (B 1 (s (s (s (O 12 [E (.bin .eql (T 10) (.c (.int .u8 1))),d 11 (m 12)]) (c 11 (ee 1))) (s (s (O 14 [E (.bin .eql (T 10) (.c (.int .u8 5))),d 13 (m 14)]) (c 13 (ee 2))) (s (s (O 16 [E (.bin .eql (T 10) (.c (.int .u8 2))),d 15 (m 16)]) (c 15 (ee 3))) (s (s (O 18 [E (.bin .eql (T 10) (.c (.int .u8 3))),d 17 (m 18)]) (cc 17 (w .skip) (O 19 [E (.bin .eql (T 10) (.c (.int .u8 4))),d 17 (m 19)]))) (c 17 (ee 4)))))) (ee 5))) (s (s (Q 20 [m 0,nk 20,f 2 21,l 1 22,E (.bin .neq (T 23) (.c (.str []))),m 24,y 25 (m 0),y 25 (nk 26),y 25 (f 2 27),y 25 (l 1 28),y 25 (ca 581 [29]),y 25 (nt 30),pa 25 31,m 32,z 33 (m 0),z 33 (nk 34),z 33 (f 5 35),z 33 (l 1 36),z 33 (ln 1 37),z 33 (gti 38 16),po 33 39] [40,3,0]) (c 40 (r (O 2 [ff])))) (O 41 [f 2 3,n (E (.store 1 (T 41) (.c (.str [])))),f 5 3,n (E (.store 1 (T 42) (.c (.ro 6 [] true))))])))) (s (s (s (Q 43 [m 0,nk 43,f 1 44,l 1 45,ca 581 [46],nt 47,m 48,z 49 (m 0),z 49 (nk 50),z 49 (f 3 51),z 49 (l 1 52),z 49 (ca 585 [53]),z 49 (nt 54),po 49 55] [56,3]) (c 56 (r (O 2 [ff])))) (O 57 [f 1 3,n (E (.store 1 (T 57) (.c (.str [])))),f 3 3,n (E (.store 1 (T 58) (.c (.ro 3 [] true))))])) (ee 0)))) (s (s (s (O 59 [m 0,nk 59,f 4 60,l 1 61,ca 579 [62],nt 63]) (c 64 (r (O 2 [ff])))) (O 65 [f 4 3,n (E (.store 1 (T 65) (.c (.str []))))])) (ee 0)))) (ee 0))) (s (r (O 2 [ff])) (ee 0))))) (r (Q 66 [f 1 3,l 1 66,E (.bin .eql (T 67) (.c (.str []))),m 68,y 69 (f 2 3),y 69 (l 1 70),y 69 (E (.bin .eql (T 71) (.c (.str [])))),pa 69 72,m 73,y 74 (f 4 3),y 74 (l 1 75),y 74 (E (.bin .eql (T 76) (.c (.str [])))),pa 74 77,m 78,y 79 (f 3 3),y 79 (l 1 80),y 79 (ln 1 81),y 79 (eqi 82 0),pa 79 83,m 84,y 85 (f 5 3),y 85 (l 1 86),y 85 (ln 1 87),y 85 (eqi 88 0),pa 85 89,d 2 (m 90)] [2])))))⟩
def w585_c0 : WCode := zd (r (O 2 [tt]))
def w585_B0 : WCode := zd (s (O 11 [lt 10 9]) (s (cc 11 (w .skip) (ee 0)) (s (B 1 (s (O 12 [m 10,ix 3 8 10,h 3 13,d 4 (E (.alloc [.str [],.int .u8 0,.str []])),d 3 (m 12),n (st 3 4 14)]) (s (U 15 [f 0 4,l 1 15,ca 581 [16],nt 17,m 18,z 19 (f 1 4),z 19 (l 1 20),z 19 (E (.bin .gtr (T 21) (.c (.int .u8 3)))),po 19 22,m 23,z 24 (f 2 4),z 24 (l 1 25),z 24 (ca 579 [26]),z 24 (nt 27),po 24 28,m 29,z 30 (f 1 4),z 30 (l 1 31),z 30 (E (.bin .gtr (T 32) (.c (.int .u8 0)))),z 30 (m 33),y 34 (f 2 4),y 34 (l 1 35),y 34 (E (.bin .neq (T 36) (.c (.str [])))),z 30 (pa 34 37),po 30 38,m 39,z 40 (m 3),z 40 (gti 41 0),z 40 (m 42),y 43 (f 0 4),y 43 (l 1 44),y 43 (m 0),y 43 (m 3),y 43 (sbi 47 1),y 43 (ix 3 46 48),y 43 (f 0 49),y 43 (l 1 50),y 43 (le 45 51),z 40 (pa 43 52),po 40 53] [] [54,10,9,8,0]) (c 54 (r (O 2 [ff])))))) (O 55 [adi 10 1,d 10 (m 55)]))))
def w585_L0 : WCode := .loop ⟨true,[10,9,8,0],[]⟩ w585_B0
def w585 : WFn := ⟨1,[.tmp 2],zd (s (O 2 [ff]) (s (s (O 5 [m 0,ln 1 5,gti 6 8]) (c 7 (r (O 2 [ff])))) (s (s (O 8 [m 0,ln 1 8,i 0]) (bk 0 w585_L0 ⟨true,[],[]⟩)) w585_c0)))⟩
@[simp] theorem w585_E0 : ZL w585_L0 w585_B0 ⟨true,[10,9,8,0],[]⟩ := ck_lp rfl
noncomputable abbrev w585_K0 (C : WProg) (s : WSt) : Option AV := CK C 0 (pureFin [.tmp 2]) [.sq w585_L0,.bk 0 ⟨true,[],[]⟩,.sq w585_c0] w585_B0 s
def tree : WTree := (.node (.node (.node (.node (.node (.node (.node (.node .leaf 0 w0 .leaf) 89 w89 .leaf) 111 w111 (.node .leaf 115 w115 .leaf)) 121 w121 (.node (.node (.node .leaf 122 w122 .leaf) 125 w125 .leaf) 126 w126 (.node .leaf 130 w130 .leaf))) 136 w136 (.node (.node (.node (.node .leaf 140 w140 .leaf) 146 w146 .leaf) 147 w147 (.node .leaf 148 w148 .leaf)) 149 w149 (.node (.node .leaf 150 w150 .leaf) 151 w151 (.node .leaf 152 w152 .leaf)))) 153 w153 (.node (.node (.node (.node (.node .leaf 154 w154 .leaf) 155 w155 .leaf) 156 w156 (.node .leaf 157 w157 .leaf)) 223 w223 (.node (.node (.node .leaf 225 w225 .leaf) 227 w227 .leaf) 230 w230 (.node .leaf 231 w231 .leaf))) 232 w232 (.node (.node (.node (.node .leaf 235 w235 .leaf) 236 w236 .leaf) 238 w238 (.node .leaf 239 w239 .leaf)) 240 w240 (.node (.node .leaf 246 w246 .leaf) 247 w247 (.node .leaf 248 w248 .leaf))))) 249 w249 (.node (.node (.node (.node (.node (.node .leaf 250 w250 .leaf) 253 w253 .leaf) 256 w256 (.node .leaf 262 w262 .leaf)) 263 w263 (.node (.node (.node .leaf 264 w264 .leaf) 265 w265 .leaf) 270 w270 (.node .leaf 271 w271 .leaf))) 275 w275 (.node (.node (.node (.node .leaf 276 w276 .leaf) 282 w282 .leaf) 303 w303 (.node .leaf 304 w304 .leaf)) 305 w305 (.node (.node .leaf 306 w306 .leaf) 307 w307 (.node .leaf 308 w308 .leaf)))) 309 w309 (.node (.node (.node (.node (.node .leaf 310 w310 .leaf) 311 w311 .leaf) 327 w327 (.node .leaf 398 w398 .leaf)) 399 w399 (.node (.node (.node .leaf 402 w402 .leaf) 404 w404 .leaf) 405 w405 (.node .leaf 406 w406 .leaf))) 407 w407 (.node (.node (.node (.node .leaf 408 w408 .leaf) 411 w411 .leaf) 412 w412 (.node .leaf 418 w418 .leaf)) 421 w421 (.node (.node .leaf 422 w422 .leaf) 423 w423 (.node .leaf 424 w424 .leaf)))))) 425 w425 (.node (.node (.node (.node (.node (.node (.node .leaf 426 w426 .leaf) 433 w433 .leaf) 434 w434 (.node .leaf 439 w439 .leaf)) 441 w441 (.node (.node (.node .leaf 442 w442 .leaf) 446 w446 .leaf) 447 w447 (.node .leaf 448 w448 .leaf))) 449 w449 (.node (.node (.node (.node .leaf 450 w450 .leaf) 494 w494 .leaf) 495 w495 (.node .leaf 496 w496 .leaf)) 497 w497 (.node (.node .leaf 498 w498 .leaf) 499 w499 (.node .leaf 500 w500 .leaf)))) 501 w501 (.node (.node (.node (.node (.node .leaf 502 w502 .leaf) 503 w503 .leaf) 504 w504 (.node .leaf 505 w505 .leaf)) 507 w507 (.node (.node (.node .leaf 508 w508 .leaf) 509 w509 .leaf) 510 w510 (.node .leaf 511 w511 .leaf))) 512 w512 (.node (.node (.node (.node .leaf 513 w513 .leaf) 516 w516 .leaf) 517 w517 (.node .leaf 518 w518 .leaf)) 519 w519 (.node (.node .leaf 520 w520 .leaf) 543 w543 (.node .leaf 544 w544 .leaf))))) 545 w545 (.node (.node (.node (.node (.node (.node .leaf 546 w546 .leaf) 547 w547 .leaf) 548 w548 (.node .leaf 549 w549 .leaf)) 550 w550 (.node (.node (.node .leaf 553 w553 .leaf) 554 w554 .leaf) 555 w555 (.node .leaf 556 w556 .leaf))) 557 w557 (.node (.node (.node (.node .leaf 558 w558 .leaf) 559 w559 .leaf) 560 w560 (.node .leaf 561 w561 .leaf)) 562 w562 (.node (.node .leaf 563 w563 .leaf) 578 w578 (.node .leaf 579 w579 .leaf)))) 580 w580 (.node (.node (.node (.node (.node .leaf 581 w581 .leaf) 582 w582 .leaf) 583 w583 (.node .leaf 584 w584 .leaf)) 585 w585 (.node (.node .leaf 586 w586 .leaf) 592 w592 (.node .leaf 593 w593 .leaf))) 594 w594 (.node (.node (.node (.node .leaf 2003 w130 .leaf) 2007 w146 .leaf) 2008 w2008 (.node .leaf 2009 w305 .leaf)) 2010 w2010 (.node (.node .leaf 2013 w2013 .leaf) 2014 w308 (.node .leaf 2015 w246 .leaf)))))))
def ids : List (Nat × Nat) := [(0, 2), (89, 13), (111, 72), (115, 181), (121, 51), (122, 52), (125, 55), (126, 56), (130, 16), (136, 31), (140, 69), (146, 74), (147, 25), (148, 26), (149, 35), (150, 28), (151, 37), (152, 30), (153, 33), (154, 34), (155, 12), (156, 4), (157, 24), (223, 99), (225, 163), (227, 165), (230, 224), (231, 225), (232, 188), (235, 23), (236, 94), (238, 185), (239, 96), (240, 84), (246, 123), (247, 124), (248, 125), (249, 126), (250, 127), (253, 97), (256, 71), (262, 137), (263, 138), (264, 139), (265, 140), (270, 82), (271, 83), (275, 148), (276, 149), (282, 154), (303, 98), (304, 103), (305, 29), (306, 101), (307, 102), (308, 32), (309, 73), (310, 27), (311, 36), (327, 159), (398, 175), (399, 176), (402, 193), (404, 250), (405, 228), (406, 95), (407, 86), (408, 179), (411, 191), (412, 192), (418, 197), (421, 183), (422, 170), (423, 171), (424, 172), (425, 173), (426, 200), (433, 205), (434, 206), (439, 119), (441, 152), (442, 153), (446, 160), (447, 180), (448, 100), (449, 182), (450, 161), (494, 215), (495, 216), (496, 217), (497, 218), (498, 219), (499, 220), (500, 221), (501, 222), (502, 265), (503, 266), (504, 174), (505, 223), (507, 229), (508, 226), (509, 227), (510, 211), (511, 212), (512, 213), (513, 214), (516, 234), (517, 235), (518, 236), (519, 237), (520, 204), (543, 244), (544, 245), (545, 246), (546, 247), (547, 248), (548, 270), (549, 271), (550, 249), (553, 252), (554, 253), (555, 251), (556, 240), (557, 241), (558, 242), (559, 243), (560, 254), (561, 255), (562, 256), (563, 233), (578, 257), (579, 258), (580, 259), (581, 260), (582, 261), (583, 262), (584, 263), (585, 272), (586, 264), (592, 267), (593, 268), (594, 269), (2003, 16), (2015, 123), (2007, 74), (2008, 30), (2009, 29), (2010, 102), (2013, 34), (2014, 32)]
def alts : List (Nat × Nat × Nat) := [(156, 16, 2003), (2010, 123, 2015), (89, 74, 2007), (89, 30, 2008), (2008, 29, 2009), (2008, 102, 2010), (89, 34, 2013), (2013, 32, 2014)]
end P
end
section
set_option linter.unusedSimpArgs false
set_option linter.unusedVariables false
namespace Go.Pw
open Go Go.Pav
@[simp] def eI (x : Int) : List AV := [.int .i64 x]
@[simp] def eU8 (x : Int) : List AV := [.int .u8 x]
@[simp] def eU64 (x : Int) : List AV := [.int .u64 x]
@[simp] def eS (x : List UInt8) : List AV := [.str x]
@[simp] def eB (x : Bool) : List AV := [.bool x]
attribute [simp] Int.natCast_inj
attribute [-simp] List.getElem_cons_drop
section
variable (a n : Nat)
@[simp] theorem lit_lt_cast : ((no_index (OfNat.ofNat a) : Int) < (n : Int)) = ((no_index (OfNat.ofNat a) : Nat) < n) := propext (Int.ofNat_lt (n := (OfNat.ofNat a : Nat)) (m := n))
@[simp] theorem cast_lt_lit : ((n : Int) < (no_index (OfNat.ofNat a) : Int)) = (n < (no_index (OfNat.ofNat a) : Nat)) := propext (Int.ofNat_lt (m := (OfNat.ofNat a : Nat)) (n := n))
@[simp] theorem lit_le_cast : ((no_index (OfNat.ofNat a) : Int) ≤ (n : Int)) = ((no_index (OfNat.ofNat a) : Nat) ≤ n) := propext (Int.ofNat_le (m := (OfNat.ofNat a : Nat)) (n := n))
@[simp] theorem cast_le_lit : ((n : Int) ≤ (no_index (OfNat.ofNat a) : Int)) = (n ≤ (no_index (OfNat.ofNat a) : Nat)) := propext (Int.ofNat_le (n := (OfNat.ofNat a : Nat)) (m := n))
end
theorem fill_get {α β : Type} {f : α → β} {acc : List α} {n i : Nat} {z : β} (h : acc.length = i) : (List.map f acc ++ List.replicate (n + 1) z)[i]? = some z := by
 rw [List.getElem?_append_right (by simp; omega)]
 simp [h]
theorem fill_set {α β : Type} {f : α → β} {acc : List α} {n i : Nat} {z v : β} (h : acc.length = i) : (List.map f acc ++ List.replicate (n + 1) z).set i v = List.map f acc ++ v :: List.replicate n z := by
 rw [List.set_append, if_neg (by simp; omega)]
 simp [h, List.replicate_succ]
@[simp] theorem app_le (a b : Nat) : (a + (b + 1) ≤ a) = False := eq_false (by omega)
theorem drop_cons {α : Type} {l : List α} {i : Nat} (h : i < l.length) : l.drop i = l[i] :: l.drop (i + 1) := List.drop_eq_getElem_cons h
theorem mapO_self {α : Type} {g : α → Option α} : ∀ {l : List α}, (∀ x ∈ l, g x = some x) → mapO g l = some l
 | [], _ => rfl
 | a :: l, h => by simp only [mapO, h a List.mem_cons_self, ob, mapO_self fun x hx => h x (List.mem_cons_of_mem _ hx), om]
@[simp] theorem frz_ints (h : WHeap) (n : Nat) (k : IntKind) (l : List Int) : mapO (frzW h (n + 1)) (List.map (AV.int k) l) = some (List.map (AV.int k) l) :=
 mapO_self fun x hx => by obtain ⟨y, _, rfl⟩ := List.mem_map.1 hx; rfl
@[simp] theorem all_isC_int (k : IntKind) (l : List Int) : l.all (isC ∘ AV.int k) = true := by simp [isC]
@[simp] theorem all_isC_bool (l : List Bool) : l.all (isC ∘ AV.bool) = true := by simp [isC]
attribute [simp] isLeaf
@[simp] theorem comp_eI : ((fun x : AV => [x]) ∘ AV.int .i64) = eI := rfl
@[simp] theorem add_le_self' (a b : Nat) : (a + b ≤ a) = (b = 0) := propext (by omega)
theorem isE {α : Type} {l : List α} (h : ¬ l = []) : l.isEmpty = false := by cases l <;> simp_all
end Go.Pw
end
section
set_option linter.unusedSimpArgs false
set_option linter.unusedVariables false
namespace Go.D
open Go Go.Pav Go.Pw P
set_option maxRecDepth 10000
set_option maxHeartbeats 4000000
set_option linter.unusedSimpArgs false
set_option linter.unusedVariables false
attribute [-simp] List.getElem_cons_drop
variable {C : WProg}
def inN (b : UInt8) : Bool := decide (97 ≤ b.toNat ∧ b.toNat ≤ 122 ∨ 48 ≤ b.toNat ∧ b.toNat ≤ 57)
def inT (b : UInt8) : Bool := decide (32 ≤ b.toNat ∧ b.toNat ≤ 126)
def isName (s : List UInt8) : Bool := decide (1 ≤ s.length) && decide (s.length ≤ 16) && s.all inN
def isText (s : List UInt8) : Bool := decide (s.length ≤ 64) && s.all inT
def ppB (f : Nat) : Bool := f == 502 || f == 494 || f == 497 || f == 434 || f == 518 || f == 549 || f == 402 || f == 411 || f == 446 || f == 466 || f == 429 || f == 514 || f == 374 || f == 480 || (decide (1000 ≤ f) && decide (f < 2000))
def inlB (f : Nat) : Bool := f == 217 || f == 459 || decide (2000 ≤ f)
structure HasS (C : WProg) : Prop where
 f561 : C.fns.get 561 = some w561
 f517 : C.fns.get 517 = some w517
 f557 : C.fns.get 557 = some w557
 f556 : C.fns.get 556 = some w556
 f511 : C.fns.get 511 = some w511
 f510 : C.fns.get 510 = some w510
 f560 : C.fns.get 560 = some w560
 f545 : C.fns.get 545 = some w545
 f578 : C.fns.get 578 = some w578
 f543 : C.fns.get 543 = some w543
 f495 : C.fns.get 495 = some w495
 f516 : C.fns.get 516 = some w516
 f500 : C.fns.get 500 = some w500
 inl : C.inl = inlB
 pp : C.pp = ppB
theorem inName_ok (H : HasS C) (b : UInt8) : FnW C 561 [.int .u8 b.toNat] = some (.bool (inN b)) := by
 rw [fnW_eq H.f561 rfl]
 unfold inN
 by_cases c1 : 97 ≤ b.toNat <;> by_cases c2 : b.toNat ≤ 122 <;> by_cases c3 : 48 ≤ b.toNat <;> by_cases c4 : b.toNat ≤ 57 <;> simp [w561, c1, c2, c3, c4]
theorem named_loop (H : HasS C) (s : List UInt8) (hl : s.length ≤ 16) : ∀ n i, n + i = s.length →
 w517_K0 C ⟨[(14, .int .i64 i), (13, .int .i64 s.length), (0, .str s)], [], 0⟩ = some (.bool ((s.drop i).all inN)) := by
 intro n
 induction n with
 | zero =>
  intro i hi
  simp only [w517_K0]; rw [ck_unf w517_B0.eq_1]
  have h1 : s.drop i = [] := List.drop_eq_nil_of_le (by omega)
  have h3 : ¬ i < s.length := by omega
  simp [ck_unf w517_c0.eq_1, h1, h3]
 | succ n ih =>
  intro i hi
  have h1 : i < s.length := by omega
  have := ih (i + 1) (by omega)
  have hb := inName_ok H s[i]
  simp only [w517_K0] at this ⊢; rw [ck_unf w517_B0.eq_1]
  rw [drop_cons h1]
  simp at this
  by_cases c : inN s[i] = true
  · simp (disch := omega) [h1, wI64, hb, c, H.inl, inlB, H.pp, ppB, this]
  · simp (disch := omega) [h1, wI64, hb, c, H.inl, inlB, H.pp, ppB]
theorem named_ok (H : HasS C) (s : List UInt8) : FnW C 517 [.str s] = some (.bool (isName s)) := by
 rw [fnW_eq H.f517 rfl]
 unfold isName
 by_cases c1 : 1 ≤ s.length
 · by_cases c2 : s.length ≤ 16
   · have := named_loop H s c2 s.length 0 (by simp)
     simp only [w517_K0] at this
     simp at this
     have c3 : ¬ ((s.length : Int) < 1) := by omega
     have c4 : ¬ (16 < (s.length : Int)) := by omega
     simp [w517, c1, c2, c3, c4, this]
   · have c3 : ¬ ((s.length : Int) < 1) := by omega
     have c4 : (16 < (s.length : Int)) := by omega
     simp [w517, c1, c2, c3, c4]
 · have c3 : ((s.length : Int) < 1) := by omega
   simp [w517, c1, c3]
theorem inN_cases (b : UInt8) : (inN b = true ∧ (97 ≤ b.toNat ∧ b.toNat ≤ 122 ∨ ¬ 97 ≤ b.toNat ∧ 48 ≤ b.toNat ∧ b.toNat ≤ 57)) ∨ (inN b = false ∧ (¬ 97 ≤ b.toNat ∧ (¬ 48 ≤ b.toNat ∨ ¬ b.toNat ≤ 57) ∨ ¬ b.toNat ≤ 122 ∧ ¬ b.toNat ≤ 57)) := by
 unfold inN
 by_cases c : 97 ≤ b.toNat ∧ b.toNat ≤ 122 ∨ 48 ≤ b.toNat ∧ b.toNat ≤ 57
 · left; exact ⟨decide_eq_true c, by omega⟩
 · right; exact ⟨decide_eq_false c, by omega⟩
theorem rname_loop (H : HasS C) (s : List UInt8) (hl : s.length ≤ 16 ∨ True) : ∀ n i, n + i = min s.length 17 →
 w557_K0 C ⟨[(3, .int .i64 i), (0, .str s)], [], 0⟩ = some (.bool (((s.take 17).drop i).all inN && decide (1 ≤ s.length) && decide (s.length ≤ 16))) := by
 intro n
 induction n with
 | zero =>
  intro i hi
  simp only [w557_K0]; rw [ck_unf w557_B0.eq_1]
  have h1 : (s.take 17).drop i = [] := List.drop_eq_nil_of_le (by simp; omega)
  by_cases h3 : i < s.length
  · have h4 : ¬ i < 17 := by omega
    have h4' : ¬ (i : Int) < 17 := by omega
    have h5 : ¬ s.length ≤ 16 := by omega
    have h6 : ¬ (s.length : Int) ≤ 16 := by omega
    have h7 : 1 ≤ (s.length : Int) := by omega
    simp [ck_unf w557_c0.eq_1, h1, h3, h4, h4', h5, h6, h7]
  · by_cases h5 : s.length ≤ 16 <;> by_cases h6 : 1 ≤ s.length
    · have h7 : (s.length : Int) ≤ 16 := by omega
      have h8 : 1 ≤ (s.length : Int) := by omega
      simp [ck_unf w557_c0.eq_1, h1, h3, h5, h6, h7, h8]
    · have h7 : (s.length : Int) ≤ 16 := by omega
      have h8 : ¬ 1 ≤ (s.length : Int) := by omega
      simp [ck_unf w557_c0.eq_1, h1, h3, h5, h6, h7, h8]
    · have h7 : ¬ (s.length : Int) ≤ 16 := by omega
      have h8 : 1 ≤ (s.length : Int) := by omega
      simp [ck_unf w557_c0.eq_1, h1, h3, h5, h6, h7, h8]
    · omega
 | succ n ih =>
  intro i hi
  have h1 : i < s.length := by omega
  have h2 : (i : Int) < 17 := by omega
  have := ih (i + 1) (by omega)
  have hd : (s.take 17).drop i = s[i] :: (s.take 17).drop (i + 1) := by
   rw [drop_cons (show i < (s.take 17).length by simp; omega)]; simp
  rw [hd]
  simp only [w557_K0] at this ⊢; rw [ck_unf w557_B0.eq_1]
  simp at this
  have key := inN_cases s[i]
  by_cases q1 : 97 ≤ s[i].toNat <;> by_cases q2 : 122 < s[i].toNat <;> by_cases q3 : 48 ≤ s[i].toNat <;> by_cases q4 : 57 < s[i].toNat <;> first
   | (exfalso; omega)
   | (have c : inN s[i] = true := by rcases key with ⟨c, _⟩ | ⟨_, q⟩ <;> first | exact c | (exfalso; omega)
      simp (disch := omega) [h1, h2, wI64, c, q1, q2, q3, q4, this]; done)
   | (have c : inN s[i] = false := by rcases key with ⟨_, q⟩ | ⟨c, _⟩ <;> first | exact c | (exfalso; omega)
      simp (disch := omega) [h1, h2, wI64, c, q1, q2, q3, q4]; done)
theorem rname_ok (H : HasS C) (s : List UInt8) : FnW C 557 [.str s] = some (.bool (isName s)) := by
 rw [fnW_eq H.f557 rfl]
 have := rname_loop H s (.inr trivial) (min s.length 17) 0 (by simp)
 simp only [w557_K0] at this
 simp only [List.drop_zero] at this
 have e : ((s.take 17).all inN && decide (1 ≤ s.length) && decide (s.length ≤ 16)) = isName s := by
  unfold isName
  by_cases c : s.length ≤ 16
  · rw [List.take_of_length_le (by omega)]; simp [c]; rw [Bool.and_comm]
  · simp [c]
 rw [e] at this
 simp at this
 simp [w557, this]
theorem rstr_loop (H : HasS C) (s : List UInt8) (hl : s.length ≤ 64) : ∀ n i, n + i = s.length →
 w556_K0 C ⟨[(3, .int .i64 i), (0, .str s)], [], 0⟩ = some (.bool ((s.drop i).all inT)) := by
 intro n
 induction n with
 | zero =>
  intro i hi
  simp only [w556_K0]; rw [ck_unf w556_B0.eq_1]
  have h1 : s.drop i = [] := List.drop_eq_nil_of_le (by omega)
  have h3 : ¬ i < s.length := by omega
  simp [ck_unf w556_c0.eq_1, h1, h3]
 | succ n ih =>
  intro i hi
  have h1 : i < s.length := by omega
  have := ih (i + 1) (by omega)
  simp only [w556_K0] at this ⊢; rw [ck_unf w556_B0.eq_1]
  rw [drop_cons h1]
  simp at this
  by_cases c1 : 32 ≤ s[i].toNat <;> by_cases c2 : 126 < s[i].toNat
  · have c : inT s[i] = false := decide_eq_false (fun q => by omega)
    simp (disch := omega) [h1, wI64, c, c1, c2]
  · have c : inT s[i] = true := decide_eq_true ⟨c1, by omega⟩
    simp (disch := omega) [h1, wI64, c, c1, c2, this]
  · omega
  · have c : inT s[i] = false := decide_eq_false (fun q => c1 q.1)
    simp (disch := omega) [h1, wI64, c, c1, c2]
theorem rstr_ok (H : HasS C) (s : List UInt8) : FnW C 556 [.str s] = some (.bool (isText s)) := by
 rw [fnW_eq H.f556 rfl]
 unfold isText
 by_cases c2 : s.length ≤ 64
 · have := rstr_loop H s c2 s.length 0 (by simp)
   simp only [w556_K0] at this
   simp at this
   have c4 : ¬ (64 < (s.length : Int)) := by omega
   simp [w556, c2, c4, this]
 · have c4 : (64 < (s.length : Int)) := by omega
   simp [w556, c2, c4]
theorem words_loop (H : HasS C) (s : List UInt8) (hl : s.length ≤ 64) : ∀ n i, n + i = s.length →
 w510_K0 C ⟨[(3, .int .i64 i), (0, .str s)], [], 0⟩ = some (.int .i64 (if (s.drop i).all inT = true then 1 else 0)) := by
 intro n
 induction n with
 | zero =>
  intro i hi
  simp only [w510_K0]; rw [ck_unf w510_B0.eq_1]
  have h1 : s.drop i = [] := List.drop_eq_nil_of_le (by omega)
  have h3 : ¬ i < s.length := by omega
  simp [ck_unf w510_c0.eq_1, h1, h3]
 | succ n ih =>
  intro i hi
  have h1 : i < s.length := by omega
  have := ih (i + 1) (by omega)
  simp only [w510_K0] at this ⊢; rw [ck_unf w510_B0.eq_1]
  rw [drop_cons h1]
  generalize hX : ((s.drop (i + 1)).all inT) = X at *
  simp at this
  rw [List.all_cons, hX]
  by_cases c1 : 32 ≤ s[i].toNat <;> by_cases c2 : 126 < s[i].toNat
  · have c : inT s[i] = false := decide_eq_false (fun q => by omega)
    simp (disch := omega) [h1, wI64, c, c1, c2]
  · have c : inT s[i] = true := decide_eq_true ⟨c1, by omega⟩
    simp (disch := omega) [h1, wI64, c, c1, c2, this]
  · omega
  · have c : inT s[i] = false := decide_eq_false (fun q => c1 q.1)
    simp (disch := omega) [h1, wI64, c, c1, c2]
theorem words_ok (H : HasS C) (s : List UInt8) : FnW C 510 [.str s] = some (.int .i64 (if isText s = true then 1 else 0)) := by
 rw [fnW_eq H.f510 rfl]
 unfold isText
 by_cases c2 : s.length ≤ 64
 · have := words_loop H s c2 s.length 0 (by simp)
   simp only [w510_K0] at this
   simp only [List.drop_zero] at this
   generalize hX : s.all inT = X at *
   simp at this
   have c4 : ¬ (64 < (s.length : Int)) := by omega
   simp [w510, c2, c4, this]
 · have c4 : (64 < (s.length : Int)) := by omega
   simp [w510, c2, c4]
structure Pred (C : WProg) (g : Nat) (Q : UInt8 → Bool) : Prop where
 asc : ∀ b : UInt8, b.toNat < 128 → FnW C g [.int .i32 b.toNat] = some (.bool (!Q b))
 high : ∀ r : Nat, 128 ≤ r → FnW C g [.int .i32 r] = some (.bool true)
 qh : ∀ b : UInt8, 128 ≤ b.toNat → Q b = false
 ne : ppB g = false
 ni : inlB g = false
theorem dec_ascii (s : List UInt8) (pos : Nat) (h : pos < s.length) (ha : s[pos].toNat < 128) : Utf8.decode ⟨⟨s⟩⟩ pos = (s[pos].toNat, 1) := decode_ascii ⟨⟨s⟩⟩ pos h ha
theorem dec_high (s : List UInt8) (pos : Nat) (h : pos < s.length) (ha : 128 ≤ s[pos].toNat) : 128 ≤ (Utf8.decode ⟨⟨s⟩⟩ pos).1 ∧ 1 ≤ (Utf8.decode ⟨⟨s⟩⟩ pos).2 := decode_high ⟨⟨s⟩⟩ pos h ha
theorem index_loop (H : HasS C) {g : Nat} {Q : UInt8 → Bool} (G : Pred C g Q) (s : List UInt8) : ∀ n pos, n + pos = s.length →
 ∃ v : Int, w578_K0 C ⟨[(10, .ptr 0 0 0), (2, .bool true), (1, .fn g [])], [(0, .iter s pos)], 1⟩ = some (.int .i64 v) ∧ decide (v < 0) = (s.drop pos).all Q := by
 intro n
 induction n with
 | zero =>
  intro pos hp
  simp only [w578_K0]; rw [ck_unf w578_B0.eq_1]
  have h1 : s.drop pos = [] := List.drop_eq_nil_of_le (by omega)
  have h3 : ¬ pos < s.length := by omega
  exact ⟨-1, by simp [ck_unf w578_c0.eq_1, h3], by simp [h1]⟩
 | succ n ih =>
  intro pos hp
  have h1 : pos < s.length := by omega
  have hN := G.ne; have hI := G.ni
  rw [drop_cons h1]
  by_cases ha : s[pos].toNat < 128
  · have hd := dec_ascii s pos h1 ha
    have hb := G.asc s[pos] ha
    by_cases c : Q s[pos] = true
    · obtain ⟨v, hv, hq⟩ := ih (pos + 1) (by omega)
      refine ⟨v, ?_, by simp [hq, c]⟩
      simp only [w578_K0] at hv ⊢; rw [ck_unf w578_B0.eq_1]
      simp (disch := omega) [h1, hd, hb, c, H.inl, hI, H.pp, hN, hv]
    · refine ⟨pos, ?_, by simp [c]⟩
      simp only [w578_K0]; rw [ck_unf w578_B0.eq_1]
      simp (disch := omega) [h1, hd, hb, c, H.inl, hI, H.pp, hN]
  · have hd := dec_high s pos h1 (by omega)
    have hb := G.high (Utf8.decode ⟨⟨s⟩⟩ pos).1 hd.1
    have hq := G.qh s[pos] (by omega)
    refine ⟨pos, ?_, by simp [hq]⟩
    simp only [w578_K0]; rw [ck_unf w578_B0.eq_1]
    obtain ⟨D, hD⟩ : ∃ D, Utf8.decode ⟨⟨s⟩⟩ pos = D := ⟨_, rfl⟩
    rw [hD] at hb
    simp (disch := omega) [h1, hD, hb, H.inl, hI, H.pp, hN]
theorem index_ok (H : HasS C) {g : Nat} {Q : UInt8 → Bool} (G : Pred C g Q) (s : List UInt8) :
 ∃ v : Int, FnW C 543 [.str s, .fn g []] = some (.int .i64 v) ∧ decide (v < 0) = s.all Q := by
 obtain ⟨v, h, q⟩ := index_loop H G s s.length 0 (by simp)
 refine ⟨v, ?_, q⟩
 have h2 : FnW C 578 [.str s, .fn g [], .bool true] = some (.int .i64 v) := by
  rw [fnW_eq H.f578 rfl]
  simp only [w578_K0] at h
  simp [w578, h]
 rw [fnW_eq H.f543 rfl]
 simp [w543, H.inl, inlB, H.pp, ppB, h2]
theorem contains_ok (H : HasS C) {g : Nat} {Q : UInt8 → Bool} (G : Pred C g Q) (s : List UInt8) :
 FnW C 495 [.str s, .fn g []] = some (.bool (!s.all Q)) := by
 obtain ⟨v, h, q⟩ := index_ok H G s
 rw [fnW_eq H.f495 rfl, ← q]
 by_cases c : v < 0
 · have c' : ¬ 0 ≤ v := by omega
   simp [w495, H.inl, inlB, H.pp, ppB, h, c, c']
 · have c' : 0 ≤ v := by omega
   simp [w495, H.inl, inlB, H.pp, ppB, h, c, c']
theorem pred560 (H : HasS C) : Pred C 560 inT where
 asc b hb := by
  rw [fnW_eq H.f560 rfl]
  by_cases c1 : 32 ≤ b.toNat <;> by_cases c2 : 126 < b.toNat
  · have c : inT b = false := decide_eq_false (fun q => by omega)
    simp [w560, c, c1, c2]
  · have c : inT b = true := decide_eq_true ⟨c1, by omega⟩
    simp [w560, c, c1, c2]
  · omega
  · have c : inT b = false := decide_eq_false (fun q => c1 q.1)
    simp [w560, c, c1, c2]
 high r hr := by
  rw [fnW_eq H.f560 rfl]
  have h1 : 32 ≤ r := by omega
  have h2 : 126 < r := by omega
  simp [w560, h1, h2]
 qh b hb := decide_eq_false (fun q => by omega)
 ne := by rfl
 ni := by rfl
theorem pred545 (H : HasS C) : Pred C 545 inN where
 asc b hb := by
  rw [fnW_eq H.f545 rfl]
  have key := inN_cases b
  by_cases q1 : 97 ≤ b.toNat <;> by_cases q2 : 122 < b.toNat <;> by_cases q3 : 48 ≤ b.toNat <;> by_cases q4 : 57 < b.toNat <;> first
   | (exfalso; omega)
   | (have c : inN b = true := by rcases key with ⟨c, _⟩ | ⟨_, q⟩ <;> first | exact c | (exfalso; omega)
      simp [w545, c, q1, q2, q3, q4]; done)
   | (have c : inN b = false := by rcases key with ⟨_, q⟩ | ⟨c, _⟩ <;> first | exact c | (exfalso; omega)
      simp [w545, c, q1, q2, q3, q4]; done)
 high r hr := by
  rw [fnW_eq H.f545 rfl]
  have h1 : 97 ≤ r := by omega
  have h2 : 122 < r := by omega
  have h3 : 48 ≤ r := by omega
  have h4 : 57 < r := by omega
  simp [w545, h1, h2, h3, h4]
 qh b hb := by unfold inN; exact decide_eq_false (fun q => by omega)
 ne := by rfl
 ni := by rfl
theorem text_ok (H : HasS C) (s : List UInt8) : FnW C 516 [.str s] = some (.bool (isText s)) := by
 obtain ⟨v, h, q⟩ := index_ok H (pred560 H) s
 rw [fnW_eq H.f516 rfl]
 unfold isText
 rw [← q]
 by_cases c2 : s.length ≤ 64
 · have c4 : (s.length : Int) ≤ 64 := by omega
   simp [w516, c2, c4, H.inl, inlB, H.pp, ppB, h]
 · have c4 : ¬ ((s.length : Int) ≤ 64) := by omega
   simp [w516, c2, c4]
theorem iname_ok (H : HasS C) (s : List UInt8) : FnW C 500 [.str s] = some (.bool (isName s)) := by
 have h := contains_ok H (pred545 H) s
 rw [fnW_eq H.f500 rfl]
 unfold isName
 by_cases c1 : s = []
 · subst c1; simp [w500]
 · have c3 : 1 ≤ s.length := List.length_pos_iff.2 c1
   by_cases c2 : s.length ≤ 16
   · have c4 : (s.length : Int) ≤ 16 := by omega
     simp [w500, c1, c2, c3, c4, H.inl, inlB, H.pp, ppB, h]
   · have c4 : ¬ ((s.length : Int) ≤ 16) := by omega
     simp [w500, c1, c2, c4]
end Go.D
end
section
set_option linter.unusedSimpArgs false
set_option linter.unusedVariables false
namespace Go.Pav
open Go
def phiOf (ids : List (Nat × Nat)) (f : FuncId) : Option Nat :=
 match ids with
 | [] => none
 | (g, k) :: r => if k = f then some g else phiOf r f
def psiOf (ids : List (Nat × Nat)) (g : Nat) : FuncId :=
 match get ids g with
 | some k => k
 | none => 0
theorem phiOf_mem : ∀ {ids : List (Nat × Nat)} {f : FuncId} {g : Nat}, phiOf ids f = some g → (g, f) ∈ ids := by
 intro ids
 induction ids with
 | nil => intro f g h; simp [phiOf] at h
 | cons x r ih =>
  intro f g h
  obtain ⟨a, k⟩ := x
  simp only [phiOf] at h
  split at h
  · rename_i hk
    cases h; subst hk; exact List.mem_cons_self
  · exact List.mem_cons_of_mem _ (ih h)
theorem psi_phi {ids : List (Nat × Nat)} (hc : (ids.all fun x => decide (psiOf ids x.1 = x.2)) = true) : ∀ f g, phiOf ids f = some g → psiOf ids g = f := by
 intro f g h
 have := List.all_eq_true.1 hc _ (phiOf_mem h)
 simpa using this
def TreeAll (p : Nat → CFn → Prop) : Tree → Prop
 | .leaf => True
 | .node l k f r => TreeAll p l ∧ p k f ∧ TreeAll p r
theorem TreeAll.get {p : Nat → CFn → Prop} : ∀ {t : Tree}, TreeAll p t → ∀ {g : Nat} {cf : CFn}, t.get g = some cf → p g cf := by
 intro t
 induction t with
 | leaf => intro _ g cf h; simp [Tree.get] at h
 | node l k f r ihl ihr =>
  intro ⟨h1, h2, h3⟩ g cf h
  simp only [Tree.get] at h
  split at h
  · rename_i hk; cases h; subst hk; exact h2
  · split at h
    · exact ihl h1 h
    · exact ihr h3 h
def altOf : List (Nat × FuncId × Nat) → Nat → FuncId → Option Nat
 | [], _, _ => none
 | (g, f, k) :: r, g', f' => if g = g' ∧ f = f' then some k else altOf r g' f'
theorem altOf_mem : ∀ {alts : List (Nat × FuncId × Nat)} {g : Nat} {f : FuncId} {k : Nat}, altOf alts g f = some k → (g, f, k) ∈ alts := by
 intro alts
 induction alts with
 | nil => intro g f k h; simp [altOf] at h
 | cons x r ih =>
  intro g f k h
  obtain ⟨a, b, c⟩ := x
  simp only [altOf] at h
  split at h
  · rename_i hk
    obtain ⟨rfl, rfl⟩ := hk
    cases h; exact List.mem_cons_self
  · exact List.mem_cons_of_mem _ (ih h)
def phiG (ids : List (Nat × Nat)) (alts : List (Nat × FuncId × Nat)) (g : Nat) (f : FuncId) : Option Nat :=
 match altOf alts g f with
 | some k => some k
 | none => phiOf ids f
def FnOk (P : Program) (ids : List (Nat × Nat)) (alts : List (Nat × FuncId × Nat)) (g : Nat) (cf : CFn) : Prop := ∃ fn, P.funcs[psiOf ids g]? = some fn ∧ (cFn P (phiG ids alts g) fn).map stripF = some (stripF cf)
theorem linked {P : Program} {ids : List (Nat × Nat)} {alts : List (Nat × FuncId × Nat)} {C : Prog} (hc : (ids.all fun x => decide (psiOf ids x.1 = x.2)) = true) (ha : (alts.all fun x => decide (psiOf ids x.2.2 = x.2.1)) = true)
 (ht : TreeAll (FnOk P ids alts) C.fns) (hm : P.follows .mixedOrders = true) : Linked P (phiG ids alts) (psiOf ids) C := by
 refine ⟨fun g f k h => ?_, fun _ _ h => ht.get h, hm⟩
 unfold phiG at h
 split at h
 · rename_i k' hk
   cases h
   simpa using List.all_eq_true.1 ha _ (altOf_mem hk)
 · exact psi_phi hc _ _ h
end Go.Pav
end
section
set_option linter.unusedSimpArgs false
set_option linter.unusedVariables false
set_option maxRecDepth 100000
namespace P
open Go Go.Pav Go.Pw Go.Proofs
theorem l0 : FnOk Tryz.prog ids alts 0 (erFn w0) := ⟨Tryz.f2, Tryz.func2, by kernel_rfl⟩
theorem l89 : FnOk Tryz.prog ids alts 89 (erFn w89) := ⟨Tryz.f13, Tryz.func13, by kernel_rfl⟩
theorem l111 : FnOk Tryz.prog ids alts 111 (erFn w111) := ⟨Tryz.f72, Tryz.func72, by kernel_rfl⟩
theorem l115 : FnOk Tryz.prog ids alts 115 (erFn w115) := ⟨Tryz.f181, Tryz.func181, by kernel_rfl⟩
theorem l121 : FnOk Tryz.prog ids alts 121 (erFn w121) := ⟨Tryz.f51, Tryz.func51, by kernel_rfl⟩
theorem l122 : FnOk Tryz.prog ids alts 122 (erFn w122) := ⟨Tryz.f52, Tryz.func52, by kernel_rfl⟩
theorem l125 : FnOk Tryz.prog ids alts 125 (erFn w125) := ⟨Tryz.f55, Tryz.func55, by kernel_rfl⟩
theorem l126 : FnOk Tryz.prog ids alts 126 (erFn w126) := ⟨Tryz.f56, Tryz.func56, by kernel_rfl⟩
theorem l130 : FnOk Tryz.prog ids alts 130 (erFn w130) := ⟨Tryz.f16, Tryz.func16, by kernel_rfl⟩
theorem l136 : FnOk Tryz.prog ids alts 136 (erFn w136) := ⟨Tryz.f31, Tryz.func31, by kernel_rfl⟩
theorem l140 : FnOk Tryz.prog ids alts 140 (erFn w140) := ⟨Tryz.f69, Tryz.func69, by kernel_rfl⟩
theorem l146 : FnOk Tryz.prog ids alts 146 (erFn w146) := ⟨Tryz.f74, Tryz.func74, by kernel_rfl⟩
theorem l147 : FnOk Tryz.prog ids alts 147 (erFn w147) := ⟨Tryz.f25, Tryz.func25, by kernel_rfl⟩
theorem l148 : FnOk Tryz.prog ids alts 148 (erFn w148) := ⟨Tryz.f26, Tryz.func26, by kernel_rfl⟩
theorem l149 : FnOk Tryz.prog ids alts 149 (erFn w149) := ⟨Tryz.f35, Tryz.func35, by kernel_rfl⟩
theorem l150 : FnOk Tryz.prog ids alts 150 (erFn w150) := ⟨Tryz.f28, Tryz.func28, by kernel_rfl⟩
theorem l151 : FnOk Tryz.prog ids alts 151 (erFn w151) := ⟨Tryz.f37, Tryz.func37, by kernel_rfl⟩
theorem l152 : FnOk Tryz.prog ids alts 152 (erFn w152) := ⟨Tryz.f30, Tryz.func30, by kernel_rfl⟩
theorem l153 : FnOk Tryz.prog ids alts 153 (erFn w153) := ⟨Tryz.f33, Tryz.func33, by kernel_rfl⟩
theorem l154 : FnOk Tryz.prog ids alts 154 (erFn w154) := ⟨Tryz.f34, Tryz.func34, by kernel_rfl⟩
theorem l155 : FnOk Tryz.prog ids alts 155 (erFn w155) := ⟨Tryz.f12, Tryz.func12, by kernel_rfl⟩
theorem l156 : FnOk Tryz.prog ids alts 156 (erFn w156) := ⟨Tryz.f4, Tryz.func4, by kernel_rfl⟩
theorem l157 : FnOk Tryz.prog ids alts 157 (erFn w157) := ⟨Tryz.f24, Tryz.func24, by kernel_rfl⟩
theorem l223 : FnOk Tryz.prog ids alts 223 (erFn w223) := ⟨Tryz.f99, Tryz.func99, by kernel_rfl⟩
theorem l225 : FnOk Tryz.prog ids alts 225 (erFn w225) := ⟨Tryz.f163, Tryz.func163, by kernel_rfl⟩
theorem l227 : FnOk Tryz.prog ids alts 227 (erFn w227) := ⟨Tryz.f165, Tryz.func165, by kernel_rfl⟩
theorem l230 : FnOk Tryz.prog ids alts 230 (erFn w230) := ⟨Tryz.f224, Tryz.func224, by kernel_rfl⟩
theorem l231 : FnOk Tryz.prog ids alts 231 (erFn w231) := ⟨Tryz.f225, Tryz.func225, by kernel_rfl⟩
theorem l232 : FnOk Tryz.prog ids alts 232 (erFn w232) := ⟨Tryz.f188, Tryz.func188, by kernel_rfl⟩
theorem l235 : FnOk Tryz.prog ids alts 235 (erFn w235) := ⟨Tryz.f23, Tryz.func23, by kernel_rfl⟩
theorem l236 : FnOk Tryz.prog ids alts 236 (erFn w236) := ⟨Tryz.f94, Tryz.func94, by kernel_rfl⟩
theorem l238 : FnOk Tryz.prog ids alts 238 (erFn w238) := ⟨Tryz.f185, Tryz.func185, by kernel_rfl⟩
theorem l239 : FnOk Tryz.prog ids alts 239 (erFn w239) := ⟨Tryz.f96, Tryz.func96, by kernel_rfl⟩
theorem l240 : FnOk Tryz.prog ids alts 240 (erFn w240) := ⟨Tryz.f84, Tryz.func84, by kernel_rfl⟩
theorem l246 : FnOk Tryz.prog ids alts 246 (erFn w246) := ⟨Tryz.f123, Tryz.func123, by kernel_rfl⟩
theorem l247 : FnOk Tryz.prog ids alts 247 (erFn w247) := ⟨Tryz.f124, Tryz.func124, by kernel_rfl⟩
theorem l248 : FnOk Tryz.prog ids alts 248 (erFn w248) := ⟨Tryz.f125, Tryz.func125, by kernel_rfl⟩
theorem l249 : FnOk Tryz.prog ids alts 249 (erFn w249) := ⟨Tryz.f126, Tryz.func126, by kernel_rfl⟩
theorem l250 : FnOk Tryz.prog ids alts 250 (erFn w250) := ⟨Tryz.f127, Tryz.func127, by kernel_rfl⟩
theorem l253 : FnOk Tryz.prog ids alts 253 (erFn w253) := ⟨Tryz.f97, Tryz.func97, by kernel_rfl⟩
theorem l256 : FnOk Tryz.prog ids alts 256 (erFn w256) := ⟨Tryz.f71, Tryz.func71, by kernel_rfl⟩
theorem l262 : FnOk Tryz.prog ids alts 262 (erFn w262) := ⟨Tryz.f137, Tryz.func137, by kernel_rfl⟩
theorem l263 : FnOk Tryz.prog ids alts 263 (erFn w263) := ⟨Tryz.f138, Tryz.func138, by kernel_rfl⟩
theorem l264 : FnOk Tryz.prog ids alts 264 (erFn w264) := ⟨Tryz.f139, Tryz.func139, by kernel_rfl⟩
theorem l265 : FnOk Tryz.prog ids alts 265 (erFn w265) := ⟨Tryz.f140, Tryz.func140, by kernel_rfl⟩
theorem l270 : FnOk Tryz.prog ids alts 270 (erFn w270) := ⟨Tryz.f82, Tryz.func82, by kernel_rfl⟩
theorem l271 : FnOk Tryz.prog ids alts 271 (erFn w271) := ⟨Tryz.f83, Tryz.func83, by kernel_rfl⟩
theorem l275 : FnOk Tryz.prog ids alts 275 (erFn w275) := ⟨Tryz.f148, Tryz.func148, by kernel_rfl⟩
theorem l276 : FnOk Tryz.prog ids alts 276 (erFn w276) := ⟨Tryz.f149, Tryz.func149, by kernel_rfl⟩
theorem l282 : FnOk Tryz.prog ids alts 282 (erFn w282) := ⟨Tryz.f154, Tryz.func154, by kernel_rfl⟩
theorem l303 : FnOk Tryz.prog ids alts 303 (erFn w303) := ⟨Tryz.f98, Tryz.func98, by kernel_rfl⟩
theorem l304 : FnOk Tryz.prog ids alts 304 (erFn w304) := ⟨Tryz.f103, Tryz.func103, by kernel_rfl⟩
theorem l305 : FnOk Tryz.prog ids alts 305 (erFn w305) := ⟨Tryz.f29, Tryz.func29, by kernel_rfl⟩
theorem l306 : FnOk Tryz.prog ids alts 306 (erFn w306) := ⟨Tryz.f101, Tryz.func101, by kernel_rfl⟩
theorem l307 : FnOk Tryz.prog ids alts 307 (erFn w307) := ⟨Tryz.f102, Tryz.func102, by kernel_rfl⟩
theorem l308 : FnOk Tryz.prog ids alts 308 (erFn w308) := ⟨Tryz.f32, Tryz.func32, by kernel_rfl⟩
theorem l309 : FnOk Tryz.prog ids alts 309 (erFn w309) := ⟨Tryz.f73, Tryz.func73, by kernel_rfl⟩
theorem l310 : FnOk Tryz.prog ids alts 310 (erFn w310) := ⟨Tryz.f27, Tryz.func27, by kernel_rfl⟩
theorem l311 : FnOk Tryz.prog ids alts 311 (erFn w311) := ⟨Tryz.f36, Tryz.func36, by kernel_rfl⟩
theorem l327 : FnOk Tryz.prog ids alts 327 (erFn w327) := ⟨Tryz.f159, Tryz.func159, by kernel_rfl⟩
theorem l398 : FnOk Tryz.prog ids alts 398 (erFn w398) := ⟨Tryz.f175, Tryz.func175, by kernel_rfl⟩
theorem l399 : FnOk Tryz.prog ids alts 399 (erFn w399) := ⟨Tryz.f176, Tryz.func176, by kernel_rfl⟩
theorem l402 : FnOk Tryz.prog ids alts 402 (erFn w402) := ⟨Tryz.f193, Tryz.func193, by kernel_rfl⟩
theorem l404 : FnOk Tryz.prog ids alts 404 (erFn w404) := ⟨Tryz.f250, Tryz.func250, by kernel_rfl⟩
theorem l405 : FnOk Tryz.prog ids alts 405 (erFn w405) := ⟨Tryz.f228, Tryz.func228, by kernel_rfl⟩
theorem l406 : FnOk Tryz.prog ids alts 406 (erFn w406) := ⟨Tryz.f95, Tryz.func95, by kernel_rfl⟩
theorem l407 : FnOk Tryz.prog ids alts 407 (erFn w407) := ⟨Tryz.f86, Tryz.func86, by kernel_rfl⟩
theorem l408 : FnOk Tryz.prog ids alts 408 (erFn w408) := ⟨Tryz.f179, Tryz.func179, by kernel_rfl⟩
theorem l411 : FnOk Tryz.prog ids alts 411 (erFn w411) := ⟨Tryz.f191, Tryz.func191, by kernel_rfl⟩
theorem l412 : FnOk Tryz.prog ids alts 412 (erFn w412) := ⟨Tryz.f192, Tryz.func192, by kernel_rfl⟩
theorem l418 : FnOk Tryz.prog ids alts 418 (erFn w418) := ⟨Tryz.f197, Tryz.func197, by kernel_rfl⟩
theorem l421 : FnOk Tryz.prog ids alts 421 (erFn w421) := ⟨Tryz.f183, Tryz.func183, by kernel_rfl⟩
theorem l422 : FnOk Tryz.prog ids alts 422 (erFn w422) := ⟨Tryz.f170, Tryz.func170, by kernel_rfl⟩
theorem l423 : FnOk Tryz.prog ids alts 423 (erFn w423) := ⟨Tryz.f171, Tryz.func171, by kernel_rfl⟩
theorem l424 : FnOk Tryz.prog ids alts 424 (erFn w424) := ⟨Tryz.f172, Tryz.func172, by kernel_rfl⟩
theorem l425 : FnOk Tryz.prog ids alts 425 (erFn w425) := ⟨Tryz.f173, Tryz.func173, by kernel_rfl⟩
theorem l426 : FnOk Tryz.prog ids alts 426 (erFn w426) := ⟨Tryz.f200, Tryz.func200, by kernel_rfl⟩
theorem l433 : FnOk Tryz.prog ids alts 433 (erFn w433) := ⟨Tryz.f205, Tryz.func205, by kernel_rfl⟩
theorem l434 : FnOk Tryz.prog ids alts 434 (erFn w434) := ⟨Tryz.f206, Tryz.func206, by kernel_rfl⟩
theorem l439 : FnOk Tryz.prog ids alts 439 (erFn w439) := ⟨Tryz.f119, Tryz.func119, by kernel_rfl⟩
theorem l441 : FnOk Tryz.prog ids alts 441 (erFn w441) := ⟨Tryz.f152, Tryz.func152, by kernel_rfl⟩
theorem l442 : FnOk Tryz.prog ids alts 442 (erFn w442) := ⟨Tryz.f153, Tryz.func153, by kernel_rfl⟩
theorem l446 : FnOk Tryz.prog ids alts 446 (erFn w446) := ⟨Tryz.f160, Tryz.func160, by kernel_rfl⟩
theorem l447 : FnOk Tryz.prog ids alts 447 (erFn w447) := ⟨Tryz.f180, Tryz.func180, by kernel_rfl⟩
theorem l448 : FnOk Tryz.prog ids alts 448 (erFn w448) := ⟨Tryz.f100, Tryz.func100, by kernel_rfl⟩
theorem l449 : FnOk Tryz.prog ids alts 449 (erFn w449) := ⟨Tryz.f182, Tryz.func182, by kernel_rfl⟩
theorem l450 : FnOk Tryz.prog ids alts 450 (erFn w450) := ⟨Tryz.f161, Tryz.func161, by kernel_rfl⟩
theorem l494 : FnOk Tryz.prog ids alts 494 (erFn w494) := ⟨Tryz.f215, Tryz.func215, by kernel_rfl⟩
theorem l495 : FnOk Tryz.prog ids alts 495 (erFn w495) := ⟨Tryz.f216, Tryz.func216, by kernel_rfl⟩
theorem l496 : FnOk Tryz.prog ids alts 496 (erFn w496) := ⟨Tryz.f217, Tryz.func217, by kernel_rfl⟩
theorem l497 : FnOk Tryz.prog ids alts 497 (erFn w497) := ⟨Tryz.f218, Tryz.func218, by kernel_rfl⟩
theorem l498 : FnOk Tryz.prog ids alts 498 (erFn w498) := ⟨Tryz.f219, Tryz.func219, by kernel_rfl⟩
theorem l499 : FnOk Tryz.prog ids alts 499 (erFn w499) := ⟨Tryz.f220, Tryz.func220, by kernel_rfl⟩
theorem l500 : FnOk Tryz.prog ids alts 500 (erFn w500) := ⟨Tryz.f221, Tryz.func221, by kernel_rfl⟩
theorem l501 : FnOk Tryz.prog ids alts 501 (erFn w501) := ⟨Tryz.f222, Tryz.func222, by kernel_rfl⟩
theorem l502 : FnOk Tryz.prog ids alts 502 (erFn w502) := ⟨Tryz.f265, Tryz.func265, by kernel_rfl⟩
theorem l503 : FnOk Tryz.prog ids alts 503 (erFn w503) := ⟨Tryz.f266, Tryz.func266, by kernel_rfl⟩
theorem l504 : FnOk Tryz.prog ids alts 504 (erFn w504) := ⟨Tryz.f174, Tryz.func174, by kernel_rfl⟩
theorem l505 : FnOk Tryz.prog ids alts 505 (erFn w505) := ⟨Tryz.f223, Tryz.func223, by kernel_rfl⟩
theorem l507 : FnOk Tryz.prog ids alts 507 (erFn w507) := ⟨Tryz.f229, Tryz.func229, by kernel_rfl⟩
theorem l508 : FnOk Tryz.prog ids alts 508 (erFn w508) := ⟨Tryz.f226, Tryz.func226, by kernel_rfl⟩
theorem l509 : FnOk Tryz.prog ids alts 509 (erFn w509) := ⟨Tryz.f227, Tryz.func227, by kernel_rfl⟩
theorem l510 : FnOk Tryz.prog ids alts 510 (erFn w510) := ⟨Tryz.f211, Tryz.func211, by kernel_rfl⟩
theorem l511 : FnOk Tryz.prog ids alts 511 (erFn w511) := ⟨Tryz.f212, Tryz.func212, by kernel_rfl⟩
theorem l512 : FnOk Tryz.prog ids alts 512 (erFn w512) := ⟨Tryz.f213, Tryz.func213, by kernel_rfl⟩
theorem l513 : FnOk Tryz.prog ids alts 513 (erFn w513) := ⟨Tryz.f214, Tryz.func214, by kernel_rfl⟩
theorem l516 : FnOk Tryz.prog ids alts 516 (erFn w516) := ⟨Tryz.f234, Tryz.func234, by kernel_rfl⟩
theorem l517 : FnOk Tryz.prog ids alts 517 (erFn w517) := ⟨Tryz.f235, Tryz.func235, by kernel_rfl⟩
theorem l518 : FnOk Tryz.prog ids alts 518 (erFn w518) := ⟨Tryz.f236, Tryz.func236, by kernel_rfl⟩
theorem l519 : FnOk Tryz.prog ids alts 519 (erFn w519) := ⟨Tryz.f237, Tryz.func237, by kernel_rfl⟩
theorem l520 : FnOk Tryz.prog ids alts 520 (erFn w520) := ⟨Tryz.f204, Tryz.func204, by kernel_rfl⟩
theorem l543 : FnOk Tryz.prog ids alts 543 (erFn w543) := ⟨Tryz.f244, Tryz.func244, by kernel_rfl⟩
theorem l544 : FnOk Tryz.prog ids alts 544 (erFn w544) := ⟨Tryz.f245, Tryz.func245, by kernel_rfl⟩
theorem l545 : FnOk Tryz.prog ids alts 545 (erFn w545) := ⟨Tryz.f246, Tryz.func246, by kernel_rfl⟩
theorem l546 : FnOk Tryz.prog ids alts 546 (erFn w546) := ⟨Tryz.f247, Tryz.func247, by kernel_rfl⟩
theorem l547 : FnOk Tryz.prog ids alts 547 (erFn w547) := ⟨Tryz.f248, Tryz.func248, by kernel_rfl⟩
theorem l548 : FnOk Tryz.prog ids alts 548 (erFn w548) := ⟨Tryz.f270, Tryz.func270, by kernel_rfl⟩
theorem l549 : FnOk Tryz.prog ids alts 549 (erFn w549) := ⟨Tryz.f271, Tryz.func271, by kernel_rfl⟩
theorem l550 : FnOk Tryz.prog ids alts 550 (erFn w550) := ⟨Tryz.f249, Tryz.func249, by kernel_rfl⟩
theorem l553 : FnOk Tryz.prog ids alts 553 (erFn w553) := ⟨Tryz.f252, Tryz.func252, by kernel_rfl⟩
theorem l554 : FnOk Tryz.prog ids alts 554 (erFn w554) := ⟨Tryz.f253, Tryz.func253, by kernel_rfl⟩
theorem l555 : FnOk Tryz.prog ids alts 555 (erFn w555) := ⟨Tryz.f251, Tryz.func251, by kernel_rfl⟩
theorem l556 : FnOk Tryz.prog ids alts 556 (erFn w556) := ⟨Tryz.f240, Tryz.func240, by kernel_rfl⟩
theorem l557 : FnOk Tryz.prog ids alts 557 (erFn w557) := ⟨Tryz.f241, Tryz.func241, by kernel_rfl⟩
theorem l558 : FnOk Tryz.prog ids alts 558 (erFn w558) := ⟨Tryz.f242, Tryz.func242, by kernel_rfl⟩
theorem l559 : FnOk Tryz.prog ids alts 559 (erFn w559) := ⟨Tryz.f243, Tryz.func243, by kernel_rfl⟩
theorem l560 : FnOk Tryz.prog ids alts 560 (erFn w560) := ⟨Tryz.f254, Tryz.func254, by kernel_rfl⟩
theorem l561 : FnOk Tryz.prog ids alts 561 (erFn w561) := ⟨Tryz.f255, Tryz.func255, by kernel_rfl⟩
theorem l562 : FnOk Tryz.prog ids alts 562 (erFn w562) := ⟨Tryz.f256, Tryz.func256, by kernel_rfl⟩
theorem l563 : FnOk Tryz.prog ids alts 563 (erFn w563) := ⟨Tryz.f233, Tryz.func233, by kernel_rfl⟩
theorem l578 : FnOk Tryz.prog ids alts 578 (erFn w578) := ⟨Tryz.f257, Tryz.func257, by kernel_rfl⟩
theorem l579 : FnOk Tryz.prog ids alts 579 (erFn w579) := ⟨Tryz.f258, Tryz.func258, by kernel_rfl⟩
theorem l580 : FnOk Tryz.prog ids alts 580 (erFn w580) := ⟨Tryz.f259, Tryz.func259, by kernel_rfl⟩
theorem l581 : FnOk Tryz.prog ids alts 581 (erFn w581) := ⟨Tryz.f260, Tryz.func260, by kernel_rfl⟩
theorem l582 : FnOk Tryz.prog ids alts 582 (erFn w582) := ⟨Tryz.f261, Tryz.func261, by kernel_rfl⟩
theorem l583 : FnOk Tryz.prog ids alts 583 (erFn w583) := ⟨Tryz.f262, Tryz.func262, by kernel_rfl⟩
theorem l584 : FnOk Tryz.prog ids alts 584 (erFn w584) := ⟨Tryz.f263, Tryz.func263, by kernel_rfl⟩
theorem l585 : FnOk Tryz.prog ids alts 585 (erFn w585) := ⟨Tryz.f272, Tryz.func272, by kernel_rfl⟩
theorem l586 : FnOk Tryz.prog ids alts 586 (erFn w586) := ⟨Tryz.f264, Tryz.func264, by kernel_rfl⟩
theorem l592 : FnOk Tryz.prog ids alts 592 (erFn w592) := ⟨Tryz.f267, Tryz.func267, by kernel_rfl⟩
theorem l593 : FnOk Tryz.prog ids alts 593 (erFn w593) := ⟨Tryz.f268, Tryz.func268, by kernel_rfl⟩
theorem l594 : FnOk Tryz.prog ids alts 594 (erFn w594) := ⟨Tryz.f269, Tryz.func269, by kernel_rfl⟩
theorem l2003 : FnOk Tryz.prog ids alts 2003 (erFn w130) := ⟨Tryz.f16, Tryz.func16, by kernel_rfl⟩
theorem l2015 : FnOk Tryz.prog ids alts 2015 (erFn w246) := ⟨Tryz.f123, Tryz.func123, by kernel_rfl⟩
theorem l2007 : FnOk Tryz.prog ids alts 2007 (erFn w146) := ⟨Tryz.f74, Tryz.func74, by kernel_rfl⟩
theorem l2008 : FnOk Tryz.prog ids alts 2008 (erFn w2008) := ⟨Tryz.f30, Tryz.func30, by kernel_rfl⟩
theorem l2009 : FnOk Tryz.prog ids alts 2009 (erFn w305) := ⟨Tryz.f29, Tryz.func29, by kernel_rfl⟩
theorem l2010 : FnOk Tryz.prog ids alts 2010 (erFn w2010) := ⟨Tryz.f102, Tryz.func102, by kernel_rfl⟩
theorem l2013 : FnOk Tryz.prog ids alts 2013 (erFn w2013) := ⟨Tryz.f34, Tryz.func34, by kernel_rfl⟩
theorem l2014 : FnOk Tryz.prog ids alts 2014 (erFn w308) := ⟨Tryz.f32, Tryz.func32, by kernel_rfl⟩
def prog : WProg := ⟨tree, Go.D.inlB, Go.D.ppB⟩
theorem all : TreeAll (FnOk Tryz.prog ids alts) (erProg prog).fns := ⟨⟨⟨⟨⟨⟨⟨⟨trivial, l0, trivial⟩, l89, trivial⟩, l111, ⟨trivial, l115, trivial⟩⟩, l121, ⟨⟨⟨trivial, l122, trivial⟩, l125, trivial⟩, l126, ⟨trivial, l130, trivial⟩⟩⟩, l136, ⟨⟨⟨⟨trivial, l140, trivial⟩, l146, trivial⟩, l147, ⟨trivial, l148, trivial⟩⟩, l149, ⟨⟨trivial, l150, trivial⟩, l151, ⟨trivial, l152, trivial⟩⟩⟩⟩, l153, ⟨⟨⟨⟨⟨trivial, l154, trivial⟩, l155, trivial⟩, l156, ⟨trivial, l157, trivial⟩⟩, l223, ⟨⟨⟨trivial, l225, trivial⟩, l227, trivial⟩, l230, ⟨trivial, l231, trivial⟩⟩⟩, l232, ⟨⟨⟨⟨trivial, l235, trivial⟩, l236, trivial⟩, l238, ⟨trivial, l239, trivial⟩⟩, l240, ⟨⟨trivial, l246, trivial⟩, l247, ⟨trivial, l248, trivial⟩⟩⟩⟩⟩, l249, ⟨⟨⟨⟨⟨⟨trivial, l250, trivial⟩, l253, trivial⟩, l256, ⟨trivial, l262, trivial⟩⟩, l263, ⟨⟨⟨trivial, l264, trivial⟩, l265, trivial⟩, l270, ⟨trivial, l271, trivial⟩⟩⟩, l275, ⟨⟨⟨⟨trivial, l276, trivial⟩, l282, trivial⟩, l303, ⟨trivial, l304, trivial⟩⟩, l305, ⟨⟨trivial, l306, trivial⟩, l307, ⟨trivial, l308, trivial⟩⟩⟩⟩, l309, ⟨⟨⟨⟨⟨trivial, l310, trivial⟩, l311, trivial⟩, l327, ⟨trivial, l398, trivial⟩⟩, l399, ⟨⟨⟨trivial, l402, trivial⟩, l404, trivial⟩, l405, ⟨trivial, l406, trivial⟩⟩⟩, l407, ⟨⟨⟨⟨trivial, l408, trivial⟩, l411, trivial⟩, l412, ⟨trivial, l418, trivial⟩⟩, l421, ⟨⟨trivial, l422, trivial⟩, l423, ⟨trivial, l424, trivial⟩⟩⟩⟩⟩⟩, l425, ⟨⟨⟨⟨⟨⟨⟨trivial, l426, trivial⟩, l433, trivial⟩, l434, ⟨trivial, l439, trivial⟩⟩, l441, ⟨⟨⟨trivial, l442, trivial⟩, l446, trivial⟩, l447, ⟨trivial, l448, trivial⟩⟩⟩, l449, ⟨⟨⟨⟨trivial, l450, trivial⟩, l494, trivial⟩, l495, ⟨trivial, l496, trivial⟩⟩, l497, ⟨⟨trivial, l498, trivial⟩, l499, ⟨trivial, l500, trivial⟩⟩⟩⟩, l501, ⟨⟨⟨⟨⟨trivial, l502, trivial⟩, l503, trivial⟩, l504, ⟨trivial, l505, trivial⟩⟩, l507, ⟨⟨⟨trivial, l508, trivial⟩, l509, trivial⟩, l510, ⟨trivial, l511, trivial⟩⟩⟩, l512, ⟨⟨⟨⟨trivial, l513, trivial⟩, l516, trivial⟩, l517, ⟨trivial, l518, trivial⟩⟩, l519, ⟨⟨trivial, l520, trivial⟩, l543, ⟨trivial, l544, trivial⟩⟩⟩⟩⟩, l545, ⟨⟨⟨⟨⟨⟨trivial, l546, trivial⟩, l547, trivial⟩, l548, ⟨trivial, l549, trivial⟩⟩, l550, ⟨⟨⟨trivial, l553, trivial⟩, l554, trivial⟩, l555, ⟨trivial, l556, trivial⟩⟩⟩, l557, ⟨⟨⟨⟨trivial, l558, trivial⟩, l559, trivial⟩, l560, ⟨trivial, l561, trivial⟩⟩, l562, ⟨⟨trivial, l563, trivial⟩, l578, ⟨trivial, l579, trivial⟩⟩⟩⟩, l580, ⟨⟨⟨⟨⟨trivial, l581, trivial⟩, l582, trivial⟩, l583, ⟨trivial, l584, trivial⟩⟩, l585, ⟨⟨trivial, l586, trivial⟩, l592, ⟨trivial, l593, trivial⟩⟩⟩, l594, ⟨⟨⟨⟨trivial, l2003, trivial⟩, l2007, trivial⟩, l2008, ⟨trivial, l2009, trivial⟩⟩, l2010, ⟨⟨trivial, l2013, trivial⟩, l2014, ⟨trivial, l2015, trivial⟩⟩⟩⟩⟩⟩⟩
theorem okT : okTree prog.fns = true := by kernel_rfl
theorem link : Linked Tryz.prog (phiG ids alts) (psiOf ids) (erProg prog) := linked (by kernel_rfl) (by kernel_rfl) all (by kernel_rfl)
end P
end
section
set_option linter.unusedSimpArgs false
set_option linter.unusedVariables false
namespace Go.Pw
open Go Go.Pav
inductive CT where
 | bool
 | int (k : IntKind)
 | str
 | slice (ts : List CT)
inductive Ty : CT → AV → Prop
 | bool (b : Bool) : Ty .bool (.bool b)
 | int (k : IntKind) (n : Int) (h1 : k.min ≤ n) (h2 : n ≤ k.max) : Ty (.int k) (.int k n)
 | str (s : List UInt8) (h : s.length < 2 ^ 63) : Ty .str (.str s)
 | slice (ts : List CT) (es : List (List AV)) (ex : Bool) (hn : es.length < 2 ^ 63) (hw : ∀ (i : Nat) (e : List AV), es[i]? = some e → e.length = ts.length)
  (h : ∀ (i : Nat) (e : List AV) (j : Nat) (ct : CT) (x : AV), es[i]? = some e → ts[j]? = some ct → e[j]? = some x → Ty ct x) : Ty (.slice ts) (.ro ts.length es ex)
theorem Ty.isC {ct : CT} {a : AV} (h : Ty ct a) : Pw.isC a = true := by cases h <;> rfl
def fieldsT (F : TypeId → Option (List CT)) (P : Program) : List Field → Nat → Option (List CT)
 | [], _ => some []
 | f :: r, off => (F f.type).bind fun ts => if f.offset = off ∧ ts.length = P.cellsOf f.type then (fieldsT F P r (off + ts.length)).map (ts ++ ·) else none
def flatT (P : Program) : Nat → TypeId → Option (List CT)
 | 0, _ => none
 | n + 1, t => match P.underlying t with
  | some .bool => some [.bool]
  | some (.int k) => some [.int k]
  | some .string => some [.str]
  | some (.slice e) => (flatT P n e).bind fun ts => if ts.length = P.cellsOf e ∧ 0 < ts.length then some [.slice ts] else none
  | some (.struct fs) => (fieldsT (flatT P n) P fs.toList 0).bind fun ts => if ts.length = P.cellsOf t then some ts else none
  | some (.array m e) => (flatT P n e).bind fun ts => if ts.length = P.cellsOf e ∧ m * ts.length = P.cellsOf t then some (List.replicate m ts).flatten else none
  | _ => none
theorem flatten_rep {α : Type} (ts : List α) : ∀ (m j : Nat), j < m * ts.length → (List.replicate m ts).flatten[j]? = ts[j % ts.length]?
 | 0, j, h => by simp at h
 | m + 1, j, h => by
  rw [List.replicate_succ, List.flatten_cons]
  rcases Nat.lt_or_ge j ts.length with hl | hl
  · rw [List.getElem?_append_left hl, Nat.mod_eq_of_lt hl]
  · rw [List.getElem?_append_right hl, flatten_rep ts m (j - ts.length) (by rw [Nat.add_mul] at h; omega), Nat.mod_eq_sub_mod hl]
theorem trod_array {H : Type} {enc : TypeId × Value → H} {P : Program} {w : World} {base : Nat} {spare : Nat → Bool} {held : Bool} {fuel : Nat} {t : TypeId} {cs : List Value} {x : DataW H × List MemPlace} {m : Nat} {e : TypeId}
 (ht : P.underlying t = some (.array m e)) (h : DataW.trod enc P w base spare held fuel t cs = some x) :
 ∃ (xs : List (DataW H × List MemPlace)) (n : Nat), fuel = n + 1 ∧ cs.length = P.cellsOf t ∧ xs.length = m ∧
  ∀ i, i < m → DataW.trod enc P w base spare held n e ((cs.drop (i * P.cellsOf e)).take (P.cellsOf e)) = xs[i]? := by
 cases fuel with
 | zero => simp [DataW.trod] at h
 | succ n =>
  unfold DataW.trod at h
  rw [ht] at h
  split at h <;> simp_all
  obtain ⟨hl, xs, hp, hd⟩ := h
  exact ⟨xs, by simpa using mapM_some_length hp, fun i hi => mapM_some_get hp i i (List.getElem?_range hi)⟩
def CellOk (ψ : Nat → FuncId) (W : World) (ct : CT) (v : Value) : Prop :=
 ∃ a a', Ty ct a ∧ VD id (fun _ => False) a a' ∧ a'.cell = true ∧ VR ψ W (fun c => c < W.heap.size) (fun _ => (0, 0)) (fun _ => False) a' v
section
variable {H : Type} {enc : TypeId × Value → H} {P : Program} {W : World} {ψ : Nat → FuncId}
theorem fields_open {F : TypeId → Option (List CT)} {n : Nat} {cs : List Value}
 (hF : ∀ t cs x ts, F t = some ts → DataW.trod enc P W 0 (fun _ => true) true n t cs = some x → cs.length = ts.length ∧ ∀ (j : Nat) (ct : CT), ts[j]? = some ct → ∃ v, cs[j]? = some v ∧ CellOk ψ W ct v) :
 ∀ (fs : List Field) (off : Nat) (ts : List CT), fieldsT F P fs off = some ts → (∀ f ∈ fs, ∃ x, DataW.trod enc P W 0 (fun _ => true) true n f.type ((cs.drop f.offset).take (P.cellsOf f.type)) = some x) →
  ∀ (j : Nat) (ct : CT), ts[j]? = some ct → ∃ v, cs[off + j]? = some v ∧ CellOk ψ W ct v := by
 intro fs
 induction fs with
 | nil => intro off ts h _ j ct hj; simp only [fieldsT, Option.some.injEq] at h; subst h; simp at hj
 | cons f r ih =>
  intro off ts h hx j ct hj
  simp only [fieldsT, Option.bind_eq_some_iff] at h
  obtain ⟨t1, h1, h⟩ := h
  split at h
  · rename_i hc
    simp only [Option.map_eq_some_iff] at h
    obtain ⟨t2, h2, rfl⟩ := h
    rcases Nat.lt_or_ge j t1.length with hl | hl
    · rw [List.getElem?_append_left hl] at hj
      obtain ⟨x, q⟩ := hx f (by simp)
      obtain ⟨v, q1, q2⟩ := (hF _ _ _ _ h1 q).2 j ct hj
      refine ⟨v, ?_, q2⟩
      rw [List.getElem?_take] at q1
      split at q1
      · rw [List.getElem?_drop] at q1; rw [← hc.1]; exact q1
      · cases q1
    · rw [List.getElem?_append_right hl] at hj
      obtain ⟨v, q1, q2⟩ := ih _ _ h2 (fun f hf => hx f (by simp [hf])) _ ct hj
      exact ⟨v, by rw [← q1]; congr 1; omega, q2⟩
  · cases h
theorem cells_open : ∀ (n k : Nat) (t : TypeId) (cs : List Value) (x : DataW H × List MemPlace) (ts : List CT), flatT P k t = some ts → DataW.trod enc P W 0 (fun _ => true) true n t cs = some x →
 cs.length = ts.length ∧ ∀ (j : Nat) (ct : CT), ts[j]? = some ct → ∃ v, cs[j]? = some v ∧ CellOk ψ W ct v := by
 intro n
 induction n with
 | zero => intro k t cs x ts _ h; simp [DataW.trod] at h
 | succ n ih =>
  intro k t cs x ts hf h
  cases k with
  | zero => simp [flatT] at hf
  | succ k =>
   have one : ∀ {v : Value} {ct : CT}, cs = [v] → ts = [ct] → CellOk ψ W ct v → cs.length = ts.length ∧ ∀ (j : Nat) (ct : CT), ts[j]? = some ct → ∃ v, cs[j]? = some v ∧ CellOk ψ W ct v := by
    intro v ct h1 h2 h3
    subst h1; subst h2
    refine ⟨rfl, fun j ct' hj => ?_⟩
    cases j with
    | zero => simp only [List.getElem?_cons_zero, Option.some.injEq] at hj; subst hj; exact ⟨v, rfl, h3⟩
    | succ j => simp at hj
   unfold flatT at hf
   split at hf
   · rename_i ht
     cases hf
     obtain ⟨b, e, _⟩ := DataW.trod_bool ht h
     exact one e rfl ⟨_, _, .bool b, .bool b, rfl, .bool b⟩
   · rename_i k' ht
     cases hf
     obtain ⟨m, e, _, hw⟩ := DataW.trod_int ht h
     simp only [Lit.wf, Bool.and_eq_true, decide_eq_true_eq] at hw
     exact one e rfl ⟨_, _, .int k' m hw.1 hw.2, .int k' m, rfl, .int k' m⟩
   · rename_i ht
     cases hf
     obtain ⟨s, e, _, hw⟩ := DataW.trod_string ht h
     refine one e rfl ⟨.str s.data.toList, _, .str _ ?_, .str _, rfl, ?_⟩
     · simp only [maxLen] at hw
       have : s.data.toList.length = s.size := rfl
       omega
     · have := VR.str (ψ := ψ) (w := W) (S := fun c => c < W.heap.size) (m := fun _ => (0, 0)) (A := fun _ => False) s.data.toList
       exact this
   · rename_i el ht
     simp only [Option.bind_eq_some_iff] at hf
     obtain ⟨us, hu, hf⟩ := hf
     split at hf
     · rename_i hz
       obtain ⟨hz, hz0⟩ := hz
       cases hf
       rcases DataW.trod_slice ht h with ⟨e, _⟩ | ⟨a, len, cap, elems, rest, n', hn, e, _, _, hl, hm, hlen, hel, hsp, _⟩
       · exact one e rfl ⟨.ro us.length [] true, .nils, .slice us [] true (by simp) (by simp) (by simp), .ronil _ _, rfl, .nils⟩
       · cases hn
         refine one e rfl ?_
         have row : ∀ i, i < cap → ∃ vs y, W.cells? 0 (a.add (i * us.length)) us.length = some vs ∧ DataW.trod enc P W 0 (fun _ => true) true n el vs = some y := by
          intro i hi
          rcases Nat.lt_or_ge i len with hil | hil
          · have := hel i hil
            rw [List.getElem?_eq_getElem (by omega), Option.bind_eq_some_iff, ← hz] at this
            obtain ⟨vs, q1, q2⟩ := this
            exact ⟨vs, _, q1, q2⟩
          · obtain ⟨q0, q⟩ := hsp rfl
            have := q (i - len) (by omega)
            rw [List.getElem?_eq_getElem (by omega), Option.bind_eq_some_iff, ← hz, show len + (i - len) = i by omega] at this
            obtain ⟨vs, q1, q2⟩ := this
            exact ⟨vs, _, q1, q2⟩
         rcases Nat.eq_zero_or_pos cap with hc0 | hc0
         · subst hc0
           obtain rfl : len = 0 := by omega
           exact ⟨.ro us.length [] true, .ro us.length [] true, .slice us [] true (by simp) (by simp) (by simp), .ro _ [] [] true true (by simp) rfl id (by simp) (by simp), rfl, .roe _ _ _⟩
         · obtain ⟨b, off, spot⟩ := a
           have hfirst : ∃ v, W.cell? ⟨b, off, spot⟩ = some v := by
            obtain ⟨vs, _, q1, _⟩ := row 0 hc0
            obtain ⟨_, q2, q3⟩ := World.cells?_some q1
            have := q3 0 hz0
            rw [List.getElem?_eq_getElem (by omega)] at this
            exact ⟨_, by simpa [Addr.add] using this⟩
           obtain ⟨v0, hv0⟩ := hfirst
           obtain rfl : spot = none := World.cell?_spot hv0
           have hS : b < W.heap.size := by
            unfold World.cell? at hv0
            split at hv0
            · rename_i hb; exact (Array.getElem?_eq_some_iff.1 hb).1
            · cases hv0
           have key : ∀ p : Nat × Nat, ∃ q : Value × AV × AV, p.1 < len → ∀ ct, us[p.2]? = some ct → W.cell? ⟨b, off + p.1 * us.length + p.2, none⟩ = some q.1 ∧ Ty ct q.2.1 ∧ VD id (fun _ => False) q.2.1 q.2.2 ∧ q.2.2.cell = true ∧
            VR ψ W (fun c => c < W.heap.size) (fun _ => (0, 0)) (fun _ => False) q.2.2 q.1 := by
            intro ⟨i, j⟩
            by_cases hi : i < len
            · cases hj : us[j]? with
              | none => exact ⟨default, fun _ ct q => by cases q⟩
              | some ct =>
               obtain ⟨vs, y, q1, q2⟩ := row i (by omega)
               obtain ⟨v, q3, c1, c2, q4, q5, q6, q7⟩ := (ih _ _ _ _ _ hu q2).2 j ct hj
               refine ⟨(v, c1, c2), fun _ ct' q => ?_⟩
               cases q
               refine ⟨?_, q4, q5, q6, q7⟩
               obtain ⟨_, r1, r2⟩ := World.cells?_some q1
               have hjl : j < us.length := (List.getElem?_eq_some_iff.1 hj).1
               have := r2 j hjl
               rw [q3] at this
               rw [← this]
               congr 1
               simp only [Addr.add]
               split <;> split <;> simp_all <;> omega
            · exact ⟨default, fun q => absurd q hi⟩
           obtain ⟨F, hF⟩ := Classical.axiomOfChoice key
           let es : List (List AV) := (List.range len).map fun i => (List.range us.length).map fun j => (F (i, j)).2.1
           let es' : List (List AV) := (List.range len).map fun i => (List.range us.length).map fun j => (F (i, j)).2.2
           have g1 : ∀ (i : Nat) (e : List AV), es[i]? = some e → i < len ∧ e = (List.range us.length).map fun j => (F (i, j)).2.1 := by
            intro i e he
            simp only [es, List.getElem?_map, Option.map_eq_some_iff] at he
            obtain ⟨i', q1, q2⟩ := he
            have := List.getElem?_eq_some_iff.1 q1
            obtain ⟨q3, q4⟩ := this
            simp at q3 q4
            subst q4
            exact ⟨q3, q2.symm⟩
           have g1' : ∀ (i : Nat) (e : List AV), es'[i]? = some e → i < len ∧ e = (List.range us.length).map fun j => (F (i, j)).2.2 := by
            intro i e he
            simp only [es', List.getElem?_map, Option.map_eq_some_iff] at he
            obtain ⟨i', q1, q2⟩ := he
            have := List.getElem?_eq_some_iff.1 q1
            obtain ⟨q3, q4⟩ := this
            simp at q3 q4
            subst q4
            exact ⟨q3, q2.symm⟩
           have g2 : ∀ (G : Nat → AV) (j : Nat) (x : AV), ((List.range us.length).map G)[j]? = some x → ∃ ct, us[j]? = some ct ∧ x = G j := by
            intro G j x hx
            simp only [List.getElem?_map, Option.map_eq_some_iff] at hx
            obtain ⟨j', q1, q2⟩ := hx
            obtain ⟨q3, q4⟩ := List.getElem?_eq_some_iff.1 q1
            simp at q3 q4
            subst q4
            exact ⟨us[j], List.getElem?_eq_getElem q3, q2.symm⟩
           have l1 : es.length = len := by simp [es]
           have l2 : es'.length = len := by simp [es']
           refine ⟨.ro us.length es (decide (cap = len)), .ro us.length es' (decide (cap = len)), .slice us es _ ?_ ?_ ?_, .ro _ es es' _ _ ?_ (by rw [l1, l2]) id ?_ ?_, rfl, ?_⟩
           · rw [l1]; simp only [maxLen] at hm; omega
           · intro i e he; rw [(g1 i e he).2]; simp
           · intro i e j ct y he hct hy
             obtain ⟨q1, rfl⟩ := g1 i e he
             obtain ⟨ct', q2, rfl⟩ := g2 _ j y hy
             rw [hct] at q2
             cases q2
             exact (hF (i, j) q1 ct hct).2.1
           · intro e he y hy
             obtain ⟨i, he⟩ := List.getElem?_of_mem he
             obtain ⟨j, hy⟩ := List.getElem?_of_mem hy
             obtain ⟨q1, rfl⟩ := g1 i e he
             obtain ⟨ct', q2, rfl⟩ := g2 _ j y hy
             exact (hF (i, j) q1 ct' q2).2.1.isC
           · intro i e e' he he'
             rw [(g1 i e he).2, (g1' i e' he').2]; simp
           · intro i e e' j y y' he he' hy hy'
             obtain ⟨q1, rfl⟩ := g1 i e he
             obtain ⟨_, rfl⟩ := g1' i e' he'
             obtain ⟨ct', q2, rfl⟩ := g2 _ j y hy
             obtain ⟨_, _, rfl⟩ := g2 _ j y' hy'
             exact (hF (i, j) q1 ct' q2).2.2.1
           · have := VR.ro (ψ := ψ) (w := W) (S := fun c => c < W.heap.size) (m := fun _ => (0, 0)) (A := fun _ => False) us.length es' (decide (cap = len)) b off cap (fun i j => (F (i, j)).1) hS
              (fun i e he => by rw [(g1' i e he).2]; simp) (by rw [l2]; exact hl) (fun q => by rw [l2]; simpa using q)
              (fun i e j y he hy => by
               obtain ⟨q1, rfl⟩ := g1' i e he
               obtain ⟨ct', q2, rfl⟩ := g2 _ j y hy
               have := hF (i, j) q1 ct' q2
               exact ⟨this.2.2.2.1, this.1⟩)
              (fun i e j y he hy => by
               obtain ⟨q1, rfl⟩ := g1' i e he
               obtain ⟨ct', q2, rfl⟩ := g2 _ j y hy
               exact (hF (i, j) q1 ct' q2).2.2.2.2)
             rw [l2] at this
             exact this
     · cases hf
   · rename_i fs ht
     simp only [Option.bind_eq_some_iff] at hf
     obtain ⟨us, hu, hf⟩ := hf
     split at hf
     · rename_i hz
       cases hf
       obtain ⟨xs, n', hn, _, hcl, hxl, hx⟩ := DataW.trod_struct ht h
       cases hn
       refine ⟨by rw [hcl, hz], fun j ct hj => ?_⟩
       have := fields_open (cs := cs) (F := flatT P k) (n := n) (fun t cs x ts h1 h2 => ih k t cs x ts h1 h2) fs.toList 0 _ hu (fun f hf => by
        obtain ⟨i, hi⟩ := List.getElem?_of_mem hf
        have hi' : fs[i]? = some f := by simpa using hi
        have hlt : i < fs.size := (Array.getElem?_eq_some_iff.1 hi').1
        have := hx i f hi'
        rw [List.getElem?_eq_getElem (by omega)] at this
        exact ⟨_, this⟩) j ct hj
       simpa using this
     · cases hf
   · rename_i m' e ht
     simp only [Option.bind_eq_some_iff] at hf
     obtain ⟨us, hu, hf⟩ := hf
     split at hf
     · rename_i hz
       obtain ⟨hz1, hz2⟩ := hz
       cases hf
       obtain ⟨xs, n', hn, hcl, hxl, hx⟩ := trod_array ht h
       cases hn
       have hlen : (List.replicate m' us).flatten.length = m' * us.length := by simp
       refine ⟨by rw [hcl, hlen, hz2], fun j ct hj => ?_⟩
       have hjl : j < m' * us.length := by rw [← hlen]; exact (List.getElem?_eq_some_iff.1 hj).1
       have hk : 0 < us.length := by
        rcases Nat.eq_zero_or_pos us.length with q | q
        · rw [q, Nat.mul_zero] at hjl; omega
        · exact q
       rw [flatten_rep us m' j hjl] at hj
       have hq : j / us.length < m' := Nat.div_lt_of_lt_mul (by rw [Nat.mul_comm]; exact hjl)
       have hxq := hx (j / us.length) hq
       rw [List.getElem?_eq_getElem (by omega)] at hxq
       obtain ⟨v, q1, q2⟩ := (ih k e _ _ us hu hxq).2 (j % us.length) ct hj
       refine ⟨v, ?_, q2⟩
       rw [List.getElem?_take] at q1
       split at q1
       · rw [List.getElem?_drop, ← hz1] at q1
         rw [← q1]; congr 1
         exact (Nat.div_add_mod' j us.length).symm
       · cases q1
     · cases hf
   · cases hf
inductive AT where
 | c (ct : CT)
 | g (ts : List CT)
def AT.has : AT → AV → Prop
 | .c ct, a => Ty ct a
 | .g ts, a => ∃ es, a = .agg es ∧ es.length = ts.length ∧ ∀ (j : Nat) (ct : CT) (x : AV), ts[j]? = some ct → es[j]? = some x → Ty ct x
def argT (P : Program) (t : TypeId) : Option AT :=
 match P.underlying t with
 | some (.struct _) => (flatT P 20 t).map .g
 | some (.array _ _) => (flatT P 20 t).map .g
 | some .bool | some (.int _) | some .string | some (.slice _) => match flatT P 20 t with | some [ct] => some (.c ct) | _ => none
 | _ => none
theorem cells_plain {t : TypeId} {base : Nat} {v : Value} (hu : P.underlying t = some .bool ∨ (∃ k, P.underlying t = some (.int k)) ∨ P.underlying t = some .string ∨ ∃ e, P.underlying t = some (.slice e)) (h : Value.okWide P W .any base t v) :
 v.cells = #[v] := by
 cases v <;> try rfl
 rcases hu with hu | ⟨k, hu⟩ | hu | ⟨e, hu⟩ <;> simp [Value.okWide, hu, Cell.okWide, Cell.ok] at h
theorem arg_open {t : TypeId} {at_ : AT} (ha : argT P t = some at_) {base : Nat} {v : Value} (hv : Value.okWide P W .any base t v) {d : DataW H} {p : List MemPlace} (h : DataW.Trod enc P W 0 (fun _ => true) true t v d p) :
 ∃ a a', at_.has a ∧ VD id (fun _ => False) a a' ∧ VR ψ W (fun c => c < W.heap.size) (fun _ => (0, 0)) (fun _ => False) a' v := by
 obtain ⟨fuel, h⟩ := h
 have plain : (P.underlying t = some .bool ∨ (∃ k, P.underlying t = some (.int k)) ∨ P.underlying t = some .string ∨ ∃ e, P.underlying t = some (.slice e)) →
  (match flatT P 20 t with | some [ct] => some (AT.c ct) | _ => none) = some at_ → ∃ a a', at_.has a ∧ VD id (fun _ => False) a a' ∧ VR ψ W (fun c => c < W.heap.size) (fun _ => (0, 0)) (fun _ => False) a' v := by
  intro hu he
  split at he
  · rename_i ct hf
    cases he
    rw [cells_plain hu hv] at h
    obtain ⟨_, q⟩ := cells_open (ψ := ψ) _ _ _ _ _ _ hf h
    obtain ⟨v', q1, a, a', q2, q3, _, q4⟩ := q 0 ct rfl
    simp only [List.getElem?_cons_zero, Option.some.injEq] at q1
    subst q1
    exact ⟨a, a', q2, q3, q4⟩
  · cases he
 have whole : (∃ cs, v = .agg cs) → (flatT P 20 t).map AT.g = some at_ → ∃ a a', at_.has a ∧ VD id (fun _ => False) a a' ∧ VR ψ W (fun c => c < W.heap.size) (fun _ => (0, 0)) (fun _ => False) a' v := by
  rintro ⟨cs, rfl⟩ ha
  simp only [Option.map_eq_some_iff] at ha
  obtain ⟨ts, hf, rfl⟩ := ha
  obtain ⟨hl, q⟩ := cells_open (ψ := ψ) _ _ _ _ _ _ hf h
  simp only [Value.cells] at hl q
  have key : ∀ j : Nat, ∃ x : AV × AV, ∀ ct, ts[j]? = some ct → Ty ct x.1 ∧ VD id (fun _ => False) x.1 x.2 ∧ x.2.cell = true ∧ ∃ v, cs.toList[j]? = some v ∧ VR ψ W (fun c => c < W.heap.size) (fun _ => (0, 0)) (fun _ => False) x.2 v := by
   intro j
   cases hj : ts[j]? with
   | none => exact ⟨default, fun _ q => by cases q⟩
   | some ct =>
    obtain ⟨v, q1, a, a', q2, q3, q4, q5⟩ := q j ct hj
    exact ⟨(a, a'), fun ct' e => by cases e; exact ⟨q2, q3, q4, v, q1, q5⟩⟩
  obtain ⟨F, hF⟩ := Classical.axiomOfChoice key
  have g2 : ∀ (G : Nat → AV) (j : Nat) (x : AV), ((List.range ts.length).map G)[j]? = some x → ∃ ct, ts[j]? = some ct ∧ x = G j := by
   intro G j x hx
   simp only [List.getElem?_map, Option.map_eq_some_iff] at hx
   obtain ⟨j', q1, q2⟩ := hx
   obtain ⟨q3, q4⟩ := List.getElem?_eq_some_iff.1 q1
   simp at q3 q4
   subst q4
   exact ⟨ts[j], List.getElem?_eq_getElem q3, q2.symm⟩
  refine ⟨.agg ((List.range ts.length).map fun j => (F j).1), .agg ((List.range ts.length).map fun j => (F j).2), ⟨_, rfl, by simp, ?_⟩, .agg _ _ (by simp) ?_, .agg _ _ ?_ ?_ ?_⟩
  · intro j ct x hct hx
    obtain ⟨ct', q1, rfl⟩ := g2 _ j x hx
    exact (hF j ct hct).1
  · intro j x x' hx hx'
    obtain ⟨ct, q1, rfl⟩ := g2 _ j x hx
    obtain ⟨_, _, rfl⟩ := g2 _ j x' hx'
    exact (hF j ct q1).2.1
  · simp only [List.length_map, List.length_range]
    rw [← hl]; simp
  · intro j x hx
    obtain ⟨ct, q1, rfl⟩ := g2 _ j x hx
    exact (hF j ct q1).2.2.1
  · intro j x hx
    obtain ⟨ct, q1, rfl⟩ := g2 _ j x hx
    obtain ⟨v, q2, q3⟩ := (hF j ct q1).2.2.2
    have e : cs[j]? = some v := by simpa using q2
    rw [Array.getD_eq_getD_getElem?, e]
    exact q3
 unfold argT at ha
 split at ha
 · rename_i fs ht
   simp only [Value.okWide, ht] at hv
   obtain ⟨cs, hv, _, _⟩ := hv
   exact whole ⟨cs, hv⟩ ha
 · rename_i m e ht
   simp only [Value.okWide, ht] at hv
   obtain ⟨cs, hv, _, _⟩ := hv
   exact whole ⟨cs, hv⟩ ha
 · rename_i ht; exact plain (.inl ht) ha
 · rename_i k ht; exact plain (.inr (.inl ⟨k, ht⟩)) ha
 · rename_i ht; exact plain (.inr (.inr (.inl ht))) ha
 · rename_i e ht; exact plain (.inr (.inr (.inr ⟨e, ht⟩))) ha
 · cases ha
def TyAll : List AT → List AV → Prop
 | [], [] => True
 | a :: r, x :: s => a.has x ∧ TyAll r s
 | _, _ => False
theorem args_open {base : Nat} : ∀ {ts : List TypeId} {ats : List AT} {vs : List Value} {ds : List (DataW H)} {p : List MemPlace}, ts.map (argT P) = ats.map some →
 (∀ (j : Nat) (t : TypeId) (v : Value), ts[j]? = some t → vs[j]? = some v → Value.okWide P W .any base t v) → DataW.TrodAll enc P W 0 (fun _ => true) true ts vs ds p →
 ∃ us us', TyAll ats us ∧ Rel2 (VD id fun _ => False) us us' ∧ us'.length = vs.length ∧ ∀ (j : Nat) (x : AV) (v : Value), us'[j]? = some x → vs[j]? = some v → VR ψ W (fun c => c < W.heap.size) (fun _ => (0, 0)) (fun _ => False) x v
 | [], [], vs, ds, p, _, _, h => by
  obtain ⟨rfl, _, _⟩ := ChangeShapes.trodAll_nil h
  exact ⟨[], [], trivial, ⟨rfl, by simp⟩, rfl, by simp⟩
 | t :: ts, at_ :: ats, _, _, _, hm, hv, h => by
  obtain ⟨v, vs1, d, ds1, p1, q1, rfl, rfl, rfl, h1, h2⟩ := ChangeShapes.trodAll_cons h
  simp only [List.map_cons, List.cons.injEq] at hm
  obtain ⟨a, a', r1, r2, r3⟩ := arg_open (ψ := ψ) hm.1 (hv 0 t v rfl rfl) h1
  obtain ⟨us, us', s1, s2, s3, s4⟩ := args_open hm.2 (fun j t v e1 e2 => hv (j + 1) t v e1 e2) h2
  refine ⟨a :: us, a' :: us', ⟨r1, s1⟩, ⟨by simp [s2.1], fun j x x' e1 e2 => ?_⟩, by simp [s3], fun j x v' e1 e2 => ?_⟩
  · cases j with
    | zero => cases e1; cases e2; exact r2
    | succ j => exact s2.2 j x x' e1 e2
  · cases j with
    | zero => cases e1; cases e2; exact r3
    | succ j => exact s4 j x v' e1 e2
 | [], _ :: _, _, _, _, hm, _, _ => by simp at hm
 | _ :: _, [], _, _, _, hm, _, _ => by simp at hm
theorem law_calls {Φ : Nat → FuncId → Option Nat} {D : WProg} (hL : Linked P Φ ψ (erProg D)) (hok : okTree D.fns = true) {f : Nat} {ts : List TypeId} {ats : List AT} (hts : ts.map (argT P) = ats.map some)
 (core : ∀ us, TyAll ats us → FnW D f us = some (.bool true)) {base : Nat} {args : Array Value} {ds : List (DataW H)} {p : List MemPlace}
 (hv : ∀ (j : Nat) (t : TypeId) (v : Value), ts[j]? = some t → args[j]? = some v → Value.okWide P W .any base t v) (hA : DataW.TrodAll enc P W 0 (fun _ => true) true ts args.toList ds p) :
 Calls P (ψ f) args W fun e W' => e = .returned (.bool true) ∧ (∀ c, c < W.heap.size → W'.heap[c]? = W.heap[c]?) ∧ W.heap.size ≤ W'.heap.size ∧ W'.os = W.os ∧ W'.output = W.output := by
 obtain ⟨us, us', h1, h2, h3, h4⟩ := args_open (ψ := ψ) hts (fun j t v e1 e2 => hv j t v e1 (by simpa using e2)) hA
 obtain ⟨n, hc⟩ := fnW_call.1 (core us h1)
 obtain ⟨v', hc', hvd⟩ := callW_ok hok h2 hc
 rw [hvd.bool_inv] at hc'
 refine (callF_ok hL hc' (w := W) (S := fun c => c < W.heap.size) (m := fun _ => (0, 0)) (cargs := args) (fun _ h => h) (by rw [h3]; simp) fun j x hx => ?_).mono ?_
 · have hj : j < args.size := by have := (List.getElem?_eq_some_iff.1 hx).1; rw [h3] at this; simpa using this
   rw [Array.getD_eq_getD_getElem?, Array.getElem?_eq_getElem hj]
   exact h4 j x _ hx (by simp [hj])
 · rintro e W' ⟨cv, S', m', rfl, hr, q1, q2, q3, q4⟩
   rw [hr.inv_bool]
   exact ⟨rfl, q1, q2, q3, q4⟩
theorem trodAll_old {W' : World} (hh : ∀ c, c < W.heap.size → W'.heap[c]? = W.heap[c]?) {base : Nat} {sp : Nat → Bool} {held : Bool} : ∀ {ts : List TypeId} {vs : List Value} {ds : List (DataW H)} {ps : List MemPlace},
 DataW.TrodAll enc P W base sp held ts vs ds ps → (∀ p ∈ ps, p.block < W.heap.size) → DataW.TrodAll enc P W' base sp held ts vs ds ps
 | [], [], [], _, h, _ => h
 | _ :: _, _ :: _, _ :: _, _, ⟨p, q, ⟨n, h1⟩, h2, e⟩, hs => ⟨p, q, ⟨n, DataW.trod_carry n _ _ _ h1 fun x hx => by
  have hlt := hs x (by rw [e]; exact List.mem_append_left _ hx)
  cases x with
  | cell b off => simp only [World.sameAt, World.cell?]; rw [hh b hlt]
  | map b => exact hh b hlt⟩, trodAll_old hh h2 (fun x hx => hs x (by rw [e]; exact List.mem_append_right _ hx)), e⟩
theorem keptBut_old {W' : World} (hh : ∀ c, c < W.heap.size → W'.heap[c]? = W.heap[c]?) (ho : W'.os = W.os) (hp : W'.output = W.output) (may : MemPlace → Prop) : W.keptBut W' may := by
 have h := World.keptBut_refl W may
 refine ⟨ho, hp, fun i hi => ?_⟩
 have := h.2.2 i hi
 rw [hh i hi]
 exact this
theorem law_post {f : Func} {s : ChangeSpec} {fresh handsOn again : Bool} {W' : World} {args : Array Value} {ds gs : List (DataW H)} {before : List MemPlace} {tb : TypeId}
 (kids : Kids P (· < P.types.size)) (full : ∀ t e, t < P.types.size → P.underlying t = some (.slice e) → 0 < P.cellsOf e)
 (hvars0 : s.vars = []) (hW : DataW.Whole enc P f.params.toList s.vars false W args.toList ds gs before) (hfn : s.fn H (ds ++ gs) = { results := [.lit (.bool true)], args := ds })
 (hps : ∀ t ∈ f.params.toList, t < P.types.size) (hr : f.resultTypes = #[tb]) (htb : P.underlying tb = some .bool)
 (hh : ∀ c, c < W.heap.size → W'.heap[c]? = W.heap[c]?) (_hsz : W.heap.size ≤ W'.heap.size) (ho : W'.os = W.os) (hp : W'.output = W.output) :
 s.post enc P f false fresh handsOn again W args (.bool true) W' := by
 have hlt : ∀ p ∈ before, p.block < W.heap.size := hW.lt
 have hW' := hW
 obtain ⟨p, q, hA, hV, rfl, hz, _⟩ := hW
 rw [hvars0] at hV
 obtain ⟨rfl, rfl⟩ := ChangeShapes.trodVars_none hV
 simp only [List.append_nil] at hlt hz hW' hfn
 have hargs : ∀ sp : Nat → Bool, (∀ x ∈ p, sp x.block = true) → DataW.TrodAll enc P W' 0 sp true f.params.toList args.toList ds p := fun sp hsp =>
  trodAll_old hh (DataW.TrodAll.respare kids full hps hA hsp) hlt
 have hvars : ∀ sp : Nat → Bool, DataW.TrodVars enc P W' sp s.vars [] [] := fun sp => by rw [hvars0]; rfl
 have hres : ∀ (b : Nat) (sp : Nat → Bool) (hd : Bool), DataW.TrodAll enc P W' b sp hd f.resultTypes.toList ((Value.bool true).resultList f.resultTypes.size) [.lit (.bool true)] [] := fun b sp hd => by
  rw [hr]; exact ChangeShapes.trodAll_mk1 (RowKit.shut_bool htb true)
 have hok : ∀ (j : Nat) (t : TypeId) (r : Value), f.resultTypes[j]? = some t → ((Value.bool true).resultList f.resultTypes.size)[j]? = some r → Value.okWide P W' .any 0 t r :=
  RowKit.ok_one hr rfl (by simp [Value.okWide, htb, Cell.okWide, Cell.ok])
 have hold : ∀ x ∈ p, (fun b => decide (b < W.heap.size)) x.block = true := fun x hx => by simpa using hlt x hx
 refine ⟨ds, [], p, [], p, [], hW', ?_, ?_, ?_, keptBut_old hh ho hp _, fun _ => ⟨hok, [.lit (.bool true)] ++ ds, [], ([] ++ p) ++ [], ⟨[] ++ p, [], ?_, hvars _, rfl, ?_, fun h => by cases h⟩, ?_⟩⟩
 · rw [List.append_nil, hfn]; exact hres _ _ _
 · rw [List.append_nil, hfn]; exact hargs _ hold
 · rw [List.append_nil, hfn]; exact hvars _
 · exact ChangeShapes.trodAll_append (hargs _ fun _ _ => rfl) (hres _ _ _)
 · intro b off hb
   simp only [List.nil_append, List.append_nil] at hb
   have := hz b off hb
   unfold World.frozen? at this ⊢
   rw [hh b (hlt _ hb)]
   exact this
 · intro x hx _
   simpa using hx
theorem trodAll_len {base : Nat} {sp : Nat → Bool} {held : Bool} : ∀ {ts : List TypeId} {vs : List Value} {ds : List (DataW H)} {ps : List MemPlace}, DataW.TrodAll enc P W base sp held ts vs ds ps → ds.length = ts.length
 | [], [], [], _, _ => rfl
 | _ :: _, _ :: _, _ :: _, _, ⟨_, _, _, h2, _⟩ => by simp [trodAll_len h2]
def isTrue : Option AV → Bool
 | some (.bool true) => true
 | _ => false
theorem isTrue_eq {o : Option AV} (h : isTrue o = true) : o = some (.bool true) := by
 unfold isTrue at h
 split at h
 · rfl
 · cases h
end
end Go.Pw
end
section
set_option linter.unusedSimpArgs false
set_option linter.unusedVariables false
namespace Go.Pw
open Go Go.Pav
end Go.Pw
end
section
set_option linter.unusedSimpArgs false
set_option linter.unusedVariables false
namespace Go.Proofs.YtfombghmbbfpaaaGreat
open Go.ChangeShapes Go.WideShapes Go.ChangeAt Go.RowKit Go.Pav Go.Pw P
theorem own_ : ownKnob Tryz.prog.godebug = none := by kernel_rfl
theorem kids_ : Kids Tryz.prog (· < Tryz.prog.types.size) := kids_rows (by kernel_rfl) (by kernel_rfl)
theorem full_ : ∀ t e, t < Tryz.prog.types.size → Tryz.prog.underlying t = some (.slice e) → 0 < Tryz.prog.cellsOf e := slices_full_of Tryz.prog (by kernel_rfl)
end Go.Proofs.YtfombghmbbfpaaaGreat
end
