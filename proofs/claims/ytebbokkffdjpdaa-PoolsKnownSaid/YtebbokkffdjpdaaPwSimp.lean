/- The walk as simp lemmas. -/
import Derived.Test.YtebbokkffdjpdaaPwCk
namespace Go.Pw
open Go Go.Pav

attribute [simp] ck_seq ck_skip ck_exit ck_ret ck_cond ck_block ck_ops ck_draw nk_nil nk_sq nk_sq_exit nk_sq_ret nk_lp_exit nk_lp_ret nk_bk nk_bk_exit nk_bk_ret ak_some lk_some
  ok_nil sk_some gk_tup ok_guard vk_some wk_some pk_some fk_pure fk_inl fk_ptr qk_fn ok_call ok_callv dk_nil ek_true dsk_some dgk_tup dk_guard dvk_some dwk_some dpk_some dfk_pure dfk_inl dfk_ptr dqk_fn dk_call dk_callv
attribute [simp high] condK_true condK_false gk_true_true gk_false_false gk_true_false gk_false_true dgk_true_true dgk_false_false dgk_true_false dgk_false_true
attribute [simp low] condK_bool gk_bool dgk_bool

section
variable {β : Type} {C : WProg} {base : Nat} {fin : Ex × WSt → Option β} {k : List Frame} {a : Ann} {l : List COper} {d : Option Nat} {e : Env} {h : WHeap} {n : Nat} {un : List (Nat × Nat)} {nid : Nat} {ds : List RW}

/-- A loop's next round. -/
theorem nk_loop (a : Ann) (b : WCode) (s : WSt) : NK C base fin (.lp a b :: k) .norm s = CK C base fin k (.loop a b) s := nk_lp a b s

@[simp] theorem ok_mv {x : Opd} : OK C base fin k a (⟨d, none, .mv x⟩ :: l) ⟨e, h, n⟩ = OK C base fin k a l ⟨setD e d (x.ev e), h, n + 1⟩ := by rw [ok_step rfl]; rfl
@[simp] theorem ok_pick {c x y : Opd} : OK C base fin k a (⟨d, none, .pick c x y⟩ :: l) ⟨e, h, n⟩ = SK C base fin k a l d e h (n + 1) (stepW (.pick c x y) e h n) := ok_step rfl
@[simp] theorem ok_alloc {z : List AV} : OK C base fin k a (⟨d, none, .alloc z⟩ :: l) ⟨e, h, n⟩ = SK C base fin k a l d e h (n + 1) (stepW (.alloc z) e h n) := ok_step rfl
@[simp] theorem ok_box {x : Opd} : OK C base fin k a (⟨d, none, .box x⟩ :: l) ⟨e, h, n⟩ = SK C base fin k a l d e h (n + 1) (stepW (.box x) e h n) := ok_step rfl
@[simp] theorem ok_build {z : List AV} {ps : List (Nat × Nat × Opd)} : OK C base fin k a (⟨d, none, .build z ps⟩ :: l) ⟨e, h, n⟩ = SK C base fin k a l d e h (n + 1) (stepW (.build z ps) e h n) := ok_step rfl
@[simp] theorem ok_buildS {z : List AV} {m : Nat} {ps : List (Nat × Opd)} : OK C base fin k a (⟨d, none, .buildS z m ps⟩ :: l) ⟨e, h, n⟩ = SK C base fin k a l d e h (n + 1) (stepW (.buildS z m ps) e h n) := ok_step rfl
@[simp] theorem ok_load {m : Nat} {ag : Bool} {x : Opd} : OK C base fin k a (⟨d, none, .load m ag x⟩ :: l) ⟨e, h, n⟩ = SK C base fin k a l d e h (n + 1) (stepW (.load m ag x) e h n) := ok_step rfl
@[simp] theorem ok_store {m : Nat} {x y : Opd} : OK C base fin k a (⟨d, none, .store m x y⟩ :: l) ⟨e, h, n⟩ = SK C base fin k a l d e h (n + 1) (stepW (.store m x y) e h n) := ok_step rfl
@[simp] theorem ok_nilchk {x : Opd} : OK C base fin k a (⟨d, none, .nilchk x⟩ :: l) ⟨e, h, n⟩ = SK C base fin k a l d e h (n + 1) (stepW (.nilchk x) e h n) := ok_step rfl
@[simp] theorem ok_bin {op : BinOp} {x y : Opd} : OK C base fin k a (⟨d, none, .bin op x y⟩ :: l) ⟨e, h, n⟩ = SK C base fin k a l d e h (n + 1) (stepW (.bin op x y) e h n) := ok_step rfl
@[simp] theorem ok_eqv {kd : Nat} {ks : List Nat} {ne : Bool} {x y : Opd} : OK C base fin k a (⟨d, none, .eqv kd ks ne x y⟩ :: l) ⟨e, h, n⟩ = SK C base fin k a l d e h (n + 1) (stepW (.eqv kd ks ne x y) e h n) := ok_step rfl
@[simp] theorem ok_un {op : UnOp} {x : Opd} : OK C base fin k a (⟨d, none, .un op x⟩ :: l) ⟨e, h, n⟩ = SK C base fin k a l d e h (n + 1) (stepW (.un op x) e h n) := ok_step rfl
@[simp] theorem ok_cvt {kk : IntKind} {x : Opd} : OK C base fin k a (⟨d, none, .cvt kk x⟩ :: l) ⟨e, h, n⟩ = SK C base fin k a l d e h (n + 1) (stepW (.cvt kk x) e h n) := ok_step rfl
@[simp] theorem ok_cvs {x : Opd} : OK C base fin k a (⟨d, none, .cvs x⟩ :: l) ⟨e, h, n⟩ = SK C base fin k a l d e h (n + 1) (stepW (.cvs x) e h n) := ok_step rfl
@[simp] theorem ok_mkfn {f : Nat} {xs : List Opd} : OK C base fin k a (⟨d, none, .mkfn f xs⟩ :: l) ⟨e, h, n⟩ = SK C base fin k a l d e h (n + 1) (stepW (.mkfn f xs) e h n) := ok_step rfl
@[simp] theorem ok_mkmap : OK C base fin k a (⟨d, none, .mkmap⟩ :: l) ⟨e, h, n⟩ = SK C base fin k a l d e h (n + 1) (stepW .mkmap e h n) := ok_step rfl
@[simp] theorem ok_mksl {z : List AV} {b : Nat} {x y : Opd} : OK C base fin k a (⟨d, none, .mksl z b x y⟩ :: l) ⟨e, h, n⟩ = SK C base fin k a l d e h (n + 1) (stepW (.mksl z b x y) e h n) := ok_step rfl
@[simp] theorem ok_slice {z : Nat} {x : Opd} {lo hi mx : Option Opd} : OK C base fin k a (⟨d, none, .slice z x lo hi mx⟩ :: l) ⟨e, h, n⟩ = SK C base fin k a l d e h (n + 1) (stepW (.slice z x lo hi mx) e h n) := ok_step rfl
@[simp] theorem ok_fld {o : Nat} {x : Opd} : OK C base fin k a (⟨d, none, .fld o x⟩ :: l) ⟨e, h, n⟩ = SK C base fin k a l d e h (n + 1) (stepW (.fld o x) e h n) := ok_step rfl
@[simp] theorem ok_fldv {o m : Nat} {ag : Bool} {x : Opd} : OK C base fin k a (⟨d, none, .fldv o m ag x⟩ :: l) ⟨e, h, n⟩ = SK C base fin k a l d e h (n + 1) (stepW (.fldv o m ag x) e h n) := ok_step rfl
@[simp] theorem ok_idxs {z : Nat} {x y : Opd} : OK C base fin k a (⟨d, none, .idxs z x y⟩ :: l) ⟨e, h, n⟩ = SK C base fin k a l d e h (n + 1) (stepW (.idxs z x y) e h n) := ok_step rfl
@[simp] theorem ok_idxa {m z : Nat} {x y : Opd} : OK C base fin k a (⟨d, none, .idxa m z x y⟩ :: l) ⟨e, h, n⟩ = SK C base fin k a l d e h (n + 1) (stepW (.idxa m z x y) e h n) := ok_step rfl
@[simp] theorem ok_idxstr {x y : Opd} : OK C base fin k a (⟨d, none, .idxstr x y⟩ :: l) ⟨e, h, n⟩ = SK C base fin k a l d e h (n + 1) (stepW (.idxstr x y) e h n) := ok_step rfl
@[simp] theorem ok_idxv {m z : Nat} {ag : Bool} {x y : Opd} : OK C base fin k a (⟨d, none, .idxv m z ag x y⟩ :: l) ⟨e, h, n⟩ = SK C base fin k a l d e h (n + 1) (stepW (.idxv m z ag x y) e h n) := ok_step rfl
@[simp] theorem ok_look {kd : Nat} {z : AV} {ok : Bool} {x y : Opd} : OK C base fin k a (⟨d, none, .look kd z ok x y⟩ :: l) ⟨e, h, n⟩ = SK C base fin k a l d e h (n + 1) (stepW (.look kd z ok x y) e h n) := ok_step rfl
@[simp] theorem ok_upd {kd : Nat} {x y z : Opd} : OK C base fin k a (⟨d, none, .upd kd x y z⟩ :: l) ⟨e, h, n⟩ = SK C base fin k a l d e h (n + 1) (stepW (.upd kd x y z) e h n) := ok_step rfl
@[simp] theorem ok_range {x : Opd} : OK C base fin k a (⟨d, none, .range x⟩ :: l) ⟨e, h, n⟩ = SK C base fin k a l d e h (n + 1) (stepW (.range x) e h n) := ok_step rfl
@[simp] theorem ok_next {x : Opd} : OK C base fin k a (⟨d, none, .next x⟩ :: l) ⟨e, h, n⟩ = SK C base fin k a l d e h (n + 1) (stepW (.next x) e h n) := ok_step rfl
@[simp] theorem ok_ext {i : Nat} {x : Opd} : OK C base fin k a (⟨d, none, .ext i x⟩ :: l) ⟨e, h, n⟩ = SK C base fin k a l d e h (n + 1) (stepW (.ext i x) e h n) := ok_step rfl
@[simp] theorem ok_len {kd : Nat} {x : Opd} : OK C base fin k a (⟨d, none, .len kd x⟩ :: l) ⟨e, h, n⟩ = SK C base fin k a l d e h (n + 1) (stepW (.len kd x) e h n) := ok_step rfl
@[simp] theorem ok_cap {x : Opd} : OK C base fin k a (⟨d, none, .cap x⟩ :: l) ⟨e, h, n⟩ = SK C base fin k a l d e h (n + 1) (stepW (.cap x) e h n) := ok_step rfl
@[simp] theorem ok_app {z : List AV} {b : Nat} {zs : Bool} {x y : Opd} : OK C base fin k a (⟨d, none, .app z b zs x y⟩ :: l) ⟨e, h, n⟩ = SK C base fin k a l d e h (n + 1) (stepW (.app z b zs x y) e h n) := ok_step rfl
@[simp] theorem ok_cpy {z : Nat} {x y : Opd} : OK C base fin k a (⟨d, none, .cpy z x y⟩ :: l) ⟨e, h, n⟩ = SK C base fin k a l d e h (n + 1) (stepW (.cpy z x y) e h n) := ok_step rfl
@[simp] theorem ok_mx {x y : Opd} : OK C base fin k a (⟨d, none, .mx x y⟩ :: l) ⟨e, h, n⟩ = SK C base fin k a l d e h (n + 1) (stepW (.mx x y) e h n) := ok_step rfl
@[simp] theorem ok_mn {x y : Opd} : OK C base fin k a (⟨d, none, .mn x y⟩ :: l) ⟨e, h, n⟩ = SK C base fin k a l d e h (n + 1) (stepW (.mn x y) e h n) := ok_step rfl
@[simp] theorem dk_mv {x : Opd} : DK C base fin k a un (⟨d, none, .mv x⟩ :: l) nid ⟨e, h, n⟩ ds = DSK C base fin k a un l (nid + 1) d e h n ds (readsOf e (.mv x)) (stepW (.mv x) e h nid) := dk_step rfl
@[simp] theorem dk_pick {c x y : Opd} : DK C base fin k a un (⟨d, none, .pick c x y⟩ :: l) nid ⟨e, h, n⟩ ds = DSK C base fin k a un l (nid + 1) d e h n ds (readsOf e (.pick c x y)) (stepW (.pick c x y) e h nid) := dk_step rfl
@[simp] theorem dk_alloc {z : List AV} : DK C base fin k a un (⟨d, none, .alloc z⟩ :: l) nid ⟨e, h, n⟩ ds = DSK C base fin k a un l (nid + 1) d e h n ds (readsOf e (.alloc z)) (stepW (.alloc z) e h nid) := dk_step rfl
@[simp] theorem dk_box {x : Opd} : DK C base fin k a un (⟨d, none, .box x⟩ :: l) nid ⟨e, h, n⟩ ds = DSK C base fin k a un l (nid + 1) d e h n ds (readsOf e (.box x)) (stepW (.box x) e h nid) := dk_step rfl
@[simp] theorem dk_build {z : List AV} {ps : List (Nat × Nat × Opd)} : DK C base fin k a un (⟨d, none, .build z ps⟩ :: l) nid ⟨e, h, n⟩ ds = DSK C base fin k a un l (nid + 1) d e h n ds (readsOf e (.build z ps)) (stepW (.build z ps) e h nid) := dk_step rfl
@[simp] theorem dk_buildS {z : List AV} {m : Nat} {ps : List (Nat × Opd)} : DK C base fin k a un (⟨d, none, .buildS z m ps⟩ :: l) nid ⟨e, h, n⟩ ds = DSK C base fin k a un l (nid + 1) d e h n ds (readsOf e (.buildS z m ps)) (stepW (.buildS z m ps) e h nid) := dk_step rfl
@[simp] theorem dk_load {m : Nat} {ag : Bool} {x : Opd} : DK C base fin k a un (⟨d, none, .load m ag x⟩ :: l) nid ⟨e, h, n⟩ ds = DSK C base fin k a un l (nid + 1) d e h n ds (readsOf e (.load m ag x)) (stepW (.load m ag x) e h nid) := dk_step rfl
@[simp] theorem dk_store {m : Nat} {x y : Opd} : DK C base fin k a un (⟨d, none, .store m x y⟩ :: l) nid ⟨e, h, n⟩ ds = DSK C base fin k a un l (nid + 1) d e h n ds (readsOf e (.store m x y)) (stepW (.store m x y) e h nid) := dk_step rfl
@[simp] theorem dk_nilchk {x : Opd} : DK C base fin k a un (⟨d, none, .nilchk x⟩ :: l) nid ⟨e, h, n⟩ ds = DSK C base fin k a un l (nid + 1) d e h n ds (readsOf e (.nilchk x)) (stepW (.nilchk x) e h nid) := dk_step rfl
@[simp] theorem dk_bin {op : BinOp} {x y : Opd} : DK C base fin k a un (⟨d, none, .bin op x y⟩ :: l) nid ⟨e, h, n⟩ ds = DSK C base fin k a un l (nid + 1) d e h n ds (readsOf e (.bin op x y)) (stepW (.bin op x y) e h nid) := dk_step rfl
@[simp] theorem dk_eqv {kd : Nat} {ks : List Nat} {ne : Bool} {x y : Opd} : DK C base fin k a un (⟨d, none, .eqv kd ks ne x y⟩ :: l) nid ⟨e, h, n⟩ ds = DSK C base fin k a un l (nid + 1) d e h n ds (readsOf e (.eqv kd ks ne x y)) (stepW (.eqv kd ks ne x y) e h nid) := dk_step rfl
@[simp] theorem dk_un {op : UnOp} {x : Opd} : DK C base fin k a un (⟨d, none, .un op x⟩ :: l) nid ⟨e, h, n⟩ ds = DSK C base fin k a un l (nid + 1) d e h n ds (readsOf e (.un op x)) (stepW (.un op x) e h nid) := dk_step rfl
@[simp] theorem dk_cvt {kk : IntKind} {x : Opd} : DK C base fin k a un (⟨d, none, .cvt kk x⟩ :: l) nid ⟨e, h, n⟩ ds = DSK C base fin k a un l (nid + 1) d e h n ds (readsOf e (.cvt kk x)) (stepW (.cvt kk x) e h nid) := dk_step rfl
@[simp] theorem dk_cvs {x : Opd} : DK C base fin k a un (⟨d, none, .cvs x⟩ :: l) nid ⟨e, h, n⟩ ds = DSK C base fin k a un l (nid + 1) d e h n ds (readsOf e (.cvs x)) (stepW (.cvs x) e h nid) := dk_step rfl
@[simp] theorem dk_mkfn {f : Nat} {xs : List Opd} : DK C base fin k a un (⟨d, none, .mkfn f xs⟩ :: l) nid ⟨e, h, n⟩ ds = DSK C base fin k a un l (nid + 1) d e h n ds (readsOf e (.mkfn f xs)) (stepW (.mkfn f xs) e h nid) := dk_step rfl
@[simp] theorem dk_mkmap : DK C base fin k a un (⟨d, none, .mkmap⟩ :: l) nid ⟨e, h, n⟩ ds = DSK C base fin k a un l (nid + 1) d e h n ds (readsOf e (.mkmap)) (stepW (.mkmap) e h nid) := dk_step rfl
@[simp] theorem dk_mksl {z : List AV} {b : Nat} {x y : Opd} : DK C base fin k a un (⟨d, none, .mksl z b x y⟩ :: l) nid ⟨e, h, n⟩ ds = DSK C base fin k a un l (nid + 1) d e h n ds (readsOf e (.mksl z b x y)) (stepW (.mksl z b x y) e h nid) := dk_step rfl
@[simp] theorem dk_slice {z : Nat} {x : Opd} {lo hi mx : Option Opd} : DK C base fin k a un (⟨d, none, .slice z x lo hi mx⟩ :: l) nid ⟨e, h, n⟩ ds = DSK C base fin k a un l (nid + 1) d e h n ds (readsOf e (.slice z x lo hi mx)) (stepW (.slice z x lo hi mx) e h nid) := dk_step rfl
@[simp] theorem dk_fld {o : Nat} {x : Opd} : DK C base fin k a un (⟨d, none, .fld o x⟩ :: l) nid ⟨e, h, n⟩ ds = DSK C base fin k a un l (nid + 1) d e h n ds (readsOf e (.fld o x)) (stepW (.fld o x) e h nid) := dk_step rfl
@[simp] theorem dk_fldv {o m : Nat} {ag : Bool} {x : Opd} : DK C base fin k a un (⟨d, none, .fldv o m ag x⟩ :: l) nid ⟨e, h, n⟩ ds = DSK C base fin k a un l (nid + 1) d e h n ds (readsOf e (.fldv o m ag x)) (stepW (.fldv o m ag x) e h nid) := dk_step rfl
@[simp] theorem dk_idxs {z : Nat} {x y : Opd} : DK C base fin k a un (⟨d, none, .idxs z x y⟩ :: l) nid ⟨e, h, n⟩ ds = DSK C base fin k a un l (nid + 1) d e h n ds (readsOf e (.idxs z x y)) (stepW (.idxs z x y) e h nid) := dk_step rfl
@[simp] theorem dk_idxa {m z : Nat} {x y : Opd} : DK C base fin k a un (⟨d, none, .idxa m z x y⟩ :: l) nid ⟨e, h, n⟩ ds = DSK C base fin k a un l (nid + 1) d e h n ds (readsOf e (.idxa m z x y)) (stepW (.idxa m z x y) e h nid) := dk_step rfl
@[simp] theorem dk_idxstr {x y : Opd} : DK C base fin k a un (⟨d, none, .idxstr x y⟩ :: l) nid ⟨e, h, n⟩ ds = DSK C base fin k a un l (nid + 1) d e h n ds (readsOf e (.idxstr x y)) (stepW (.idxstr x y) e h nid) := dk_step rfl
@[simp] theorem dk_idxv {m z : Nat} {ag : Bool} {x y : Opd} : DK C base fin k a un (⟨d, none, .idxv m z ag x y⟩ :: l) nid ⟨e, h, n⟩ ds = DSK C base fin k a un l (nid + 1) d e h n ds (readsOf e (.idxv m z ag x y)) (stepW (.idxv m z ag x y) e h nid) := dk_step rfl
@[simp] theorem dk_look {kd : Nat} {z : AV} {ok : Bool} {x y : Opd} : DK C base fin k a un (⟨d, none, .look kd z ok x y⟩ :: l) nid ⟨e, h, n⟩ ds = DSK C base fin k a un l (nid + 1) d e h n ds (readsOf e (.look kd z ok x y)) (stepW (.look kd z ok x y) e h nid) := dk_step rfl
@[simp] theorem dk_upd {kd : Nat} {x y z : Opd} : DK C base fin k a un (⟨d, none, .upd kd x y z⟩ :: l) nid ⟨e, h, n⟩ ds = DSK C base fin k a un l (nid + 1) d e h n ds (readsOf e (.upd kd x y z)) (stepW (.upd kd x y z) e h nid) := dk_step rfl
@[simp] theorem dk_range {x : Opd} : DK C base fin k a un (⟨d, none, .range x⟩ :: l) nid ⟨e, h, n⟩ ds = DSK C base fin k a un l (nid + 1) d e h n ds (readsOf e (.range x)) (stepW (.range x) e h nid) := dk_step rfl
@[simp] theorem dk_next {x : Opd} : DK C base fin k a un (⟨d, none, .next x⟩ :: l) nid ⟨e, h, n⟩ ds = DSK C base fin k a un l (nid + 1) d e h n ds (readsOf e (.next x)) (stepW (.next x) e h nid) := dk_step rfl
@[simp] theorem dk_ext {i : Nat} {x : Opd} : DK C base fin k a un (⟨d, none, .ext i x⟩ :: l) nid ⟨e, h, n⟩ ds = DSK C base fin k a un l (nid + 1) d e h n ds (readsOf e (.ext i x)) (stepW (.ext i x) e h nid) := dk_step rfl
@[simp] theorem dk_len {kd : Nat} {x : Opd} : DK C base fin k a un (⟨d, none, .len kd x⟩ :: l) nid ⟨e, h, n⟩ ds = DSK C base fin k a un l (nid + 1) d e h n ds (readsOf e (.len kd x)) (stepW (.len kd x) e h nid) := dk_step rfl
@[simp] theorem dk_cap {x : Opd} : DK C base fin k a un (⟨d, none, .cap x⟩ :: l) nid ⟨e, h, n⟩ ds = DSK C base fin k a un l (nid + 1) d e h n ds (readsOf e (.cap x)) (stepW (.cap x) e h nid) := dk_step rfl
@[simp] theorem dk_app {z : List AV} {b : Nat} {zs : Bool} {x y : Opd} : DK C base fin k a un (⟨d, none, .app z b zs x y⟩ :: l) nid ⟨e, h, n⟩ ds = DSK C base fin k a un l (nid + 1) d e h n ds (readsOf e (.app z b zs x y)) (stepW (.app z b zs x y) e h nid) := dk_step rfl
@[simp] theorem dk_cpy {z : Nat} {x y : Opd} : DK C base fin k a un (⟨d, none, .cpy z x y⟩ :: l) nid ⟨e, h, n⟩ ds = DSK C base fin k a un l (nid + 1) d e h n ds (readsOf e (.cpy z x y)) (stepW (.cpy z x y) e h nid) := dk_step rfl
@[simp] theorem dk_mx {x y : Opd} : DK C base fin k a un (⟨d, none, .mx x y⟩ :: l) nid ⟨e, h, n⟩ ds = DSK C base fin k a un l (nid + 1) d e h n ds (readsOf e (.mx x y)) (stepW (.mx x y) e h nid) := dk_step rfl
@[simp] theorem dk_mn {x y : Opd} : DK C base fin k a un (⟨d, none, .mn x y⟩ :: l) nid ⟨e, h, n⟩ ds = DSK C base fin k a un l (nid + 1) d e h n ds (readsOf e (.mn x y)) (stepW (.mn x y) e h nid) := dk_step rfl

end

/- Data. -/
theorem nat?_of {x : Int} (h : 0 ≤ x) : nat? x = some x.toNat := by
  cases x with
  | ofNat n => rfl
  | negSucc n => omega
@[simp] theorem nat?_cast (n : Nat) : nat? (n : Int) = some n := rfl
@[simp] theorem nat?_zero : nat? 0 = some 0 := rfl
@[simp] theorem nat?_one : nat? 1 = some 1 := rfl
@[simp] theorem nat?_lit (n : Nat) : nat? (no_index (OfNat.ofNat n) : Int) = some n := rfl
@[simp] theorem nat?_add (n m : Nat) : nat? ((n : Int) + (m : Int)) = some (n + m) := rfl
@[simp] theorem nat?_add_lit (n m : Nat) : nat? ((n : Int) + (no_index (OfNat.ofNat m) : Int)) = some (n + m) := rfl

theorem wI64 {x : Int} (h1 : -9223372036854775808 ≤ x) (h2 : x < 9223372036854775808) : IntKind.i64.wrap x = x := by
  show (if (true && decide (x % 18446744073709551616 ≥ 9223372036854775808)) = true then x % 18446744073709551616 - 18446744073709551616 else x % 18446744073709551616) = x
  simp only [Bool.true_and, decide_eq_true_eq]
  split <;> omega
theorem wU64 {x : Int} (h1 : 0 ≤ x) (h2 : x < 18446744073709551616) : IntKind.u64.wrap x = x := by
  show (if (false && decide (x % 18446744073709551616 ≥ 9223372036854775808)) = true then x % 18446744073709551616 - 18446744073709551616 else x % 18446744073709551616) = x
  simp only [Bool.false_and, Bool.false_eq_true, if_false]
  omega
theorem wU8 {x : Int} (h1 : 0 ≤ x) (h2 : x < 256) : IntKind.u8.wrap x = x := by
  show (if (false && decide (x % 256 ≥ 128)) = true then x % 256 - 256 else x % 256) = x
  simp only [Bool.false_and, Bool.false_eq_true, if_false]
  omega
theorem wI32 {x : Int} (h1 : -2147483648 ≤ x) (h2 : x < 2147483648) : IntKind.i32.wrap x = x := by
  show (if (true && decide (x % 4294967296 ≥ 2147483648)) = true then x % 4294967296 - 4294967296 else x % 4294967296) = x
  simp only [Bool.true_and, decide_eq_true_eq]
  split <;> omega

theorem fits {n c : Nat} (h : n * c ≤ 35184372088832) : (n * c ≤ 35184372088832) = True := eq_true h

@[simp ↓] theorem ob_s {α β : Type} (a : α) (f : α → Option β) : ob (some a) f = f a := rfl
@[simp] theorem resOf_tmp (e : Env) (h : WHeap) (t : Nat) : resOfW e h (.tmp t) = Pav.get e t := rfl
def cellOf (h : WHeap) (n : Nat) (ag : Bool) : Option AV → Option AV
  | some (.ptr b i o) => wLoadAt n ag o i (Pav.get h b)
  | _ => none
@[simp] theorem resOf_cell (e : Env) (h : WHeap) (t n : Nat) (ag : Bool) : resOfW e h (.cell t n ag) = cellOf h n ag (Pav.get e t) := rfl
attribute [simp] cellOf
@[simp] theorem ev_t (s : Nat) (e : Env) : (Opd.t s).ev e = (Pav.get e s).getD .undef := rfl
@[simp] theorem ev_c (v : AV) (e : Env) : (Opd.c v).ev e = v := rfl
@[simp ↓] theorem ob_n {α β : Type} (f : α → Option β) : ob none f = none := rfl
@[simp ↓] theorem om_s {α β : Type} (a : α) (f : α → β) : om (some a) f = some (f a) := rfl
@[simp ↓] theorem om_n {α β : Type} (f : α → β) : om none f = none := rfl
@[simp] theorem og_t {β : Type} (x : Option β) : og true x = x := rfl
@[simp] theorem og_f {β : Type} (x : Option β) : og false x = none := rfl
@[simp] theorem ov_s (v : AV) : ov (some v) = some (v, []) := rfl
@[simp] theorem ovW_s (v : AV) : ovW (some v) = some (v, []) := rfl
@[simp] theorem plainW_s (x : AV × Upd) : plainW (some x) = some (x.1, []) := rfl
/- Without binders: what is evaluated in a row. -/
def consO {α : Type} : Option α → Option (List α) → Option (List α)
  | some a, some l => some (a :: l)
  | _, _ => none
@[simp] theorem consO_s {α : Type} (a : α) (l : List α) : consO (some a) (some l) = some (a :: l) := rfl
@[simp] theorem mapO_nil {α β : Type} (f : α → Option β) : mapO f [] = some [] := rfl
@[simp] theorem mapO_cons {α β : Type} (f : α → Option β) (a : α) (r : List α) : mapO f (a :: r) = consO (f a) (mapO f r) := by
  simp only [mapO]; cases f a <;> cases mapO f r <;> rfl
def consE (k : Nat) : Option AV → Option Env → Option Env
  | some v, some r => some ((k, v) :: r)
  | _, _ => none
@[simp] theorem consE_s (k : Nat) (v : AV) (r : Env) : consE k (some v) (some r) = some ((k, v) :: r) := rfl
@[simp] theorem renEnv_nil (π : Nat → Option Nat) : renEnv π [] = some [] := rfl
@[simp] theorem renEnv_cons (π : Nat → Option Nat) (k : Nat) (v : AV) (r : Env) : renEnv π ((k, v) :: r) = consE k (ren π v) (renEnv π r) := by
  simp only [renEnv]; cases ren π v <;> cases renEnv π r <;> rfl
def ptrO (i o : Nat) : Option Nat → Option AV
  | some b => some (.ptr b i o)
  | none => none
def slO (z i l c : Nat) (ex : Bool) : Option Nat → Option AV
  | some b => some (.sl b z i l c ex)
  | none => none
def mapV : Option Nat → Option AV
  | some b => some (.map b)
  | none => none
def fnO (f : Nat) : Option (List AV) → Option AV
  | some cs => some (.fn f cs)
  | none => none
def aggO : Option (List AV) → Option AV
  | some cs => some (.agg cs)
  | none => none
def tupO : Option (List AV) → Option AV
  | some cs => some (.tup cs)
  | none => none
@[simp] theorem ptrO_s (i o b : Nat) : ptrO i o (some b) = some (.ptr b i o) := rfl
@[simp] theorem slO_s (z i l c : Nat) (ex : Bool) (b : Nat) : slO z i l c ex (some b) = some (.sl b z i l c ex) := rfl
@[simp] theorem mapV_s (b : Nat) : mapV (some b) = some (.map b) := rfl
@[simp] theorem fnO_s (f : Nat) (cs : List AV) : fnO f (some cs) = some (.fn f cs) := rfl
@[simp] theorem aggO_s (cs : List AV) : aggO (some cs) = some (.agg cs) := rfl
@[simp] theorem tupO_s (cs : List AV) : tupO (some cs) = some (.tup cs) := rfl
section
variable (π : Nat → Option Nat)
@[simp] theorem ren_ptr (b i o : Nat) : ren π (.ptr b i o) = ptrO i o (π b) := by simp only [ren]; cases π b <;> rfl
@[simp] theorem ren_sl (b z i l c : Nat) (ex : Bool) : ren π (.sl b z i l c ex) = slO z i l c ex (π b) := by simp only [ren]; cases π b <;> rfl
@[simp] theorem ren_map (b : Nat) : ren π (.map b) = mapV (π b) := by simp only [ren]; cases π b <;> rfl
@[simp] theorem ren_fn (f : Nat) (cs : List AV) : ren π (.fn f cs) = fnO f (renL π cs) := by simp only [ren]; cases renL π cs <;> rfl
@[simp] theorem ren_agg (cs : List AV) : ren π (.agg cs) = aggO (renL π cs) := by simp only [ren]; cases renL π cs <;> rfl
@[simp] theorem ren_tup (cs : List AV) : ren π (.tup cs) = tupO (renL π cs) := by simp only [ren]; cases renL π cs <;> rfl
@[simp] theorem ren_undef : ren π .undef = some .undef := rfl
@[simp] theorem ren_bool (b : Bool) : ren π (.bool b) = some (.bool b) := rfl
@[simp] theorem ren_int (k : IntKind) (n : Int) : ren π (.int k n) = some (.int k n) := rfl
@[simp] theorem ren_str (s : List UInt8) : ren π (.str s) = some (.str s) := rfl
@[simp] theorem ren_nilp : ren π .nilp = some .nilp := rfl
@[simp] theorem ren_nils : ren π .nils = some .nils := rfl
@[simp] theorem ren_nilm : ren π .nilm = some .nilm := rfl
@[simp] theorem ren_nilf : ren π .nilf = some .nilf := rfl
@[simp] theorem ren_ro (z : Nat) (es : List (List AV)) (ex : Bool) : ren π (.ro z es ex) = some (.ro z es ex) := rfl
@[simp] theorem ren_rop (cs : List AV) : ren π (.rop cs) = some (.rop cs) := rfl
@[simp] theorem renL_nil : renL π [] = some [] := rfl
@[simp] theorem renL_cons (v : AV) (r : List AV) : renL π (v :: r) = consO (ren π v) (renL π r) := by simp only [renL]; cases ren π v <;> cases renL π r <;> rfl
def cellsO (z : Nat) (mu dt : Bool) : Option (List (List AV)) → Option WObj
  | some es => some (.cells z es mu dt)
  | none => none
@[simp] theorem cellsO_s (z : Nat) (mu dt : Bool) (es : List (List AV)) : cellsO z mu dt (some es) = some (.cells z es mu dt) := rfl
@[simp] theorem renObj_dt (z : Nat) (es : List (List AV)) (mu : Bool) : renObj π (.cells z es mu true) = some (.cells z es mu true) := rfl
@[simp] theorem renObj_nd (z : Nat) (es : List (List AV)) (mu : Bool) : renObj π (.cells z es mu false) = cellsO z mu false (mapO (renL π) es) := by simp only [renObj]; cases mapO (renL π) es <;> rfl
@[simp] theorem renObj_map (es : List (AV × AV)) : renObj π (.map es) = some (.map es) := rfl
@[simp] theorem renObj_iter (s : List UInt8) (p : Nat) : renObj π (.iter s p) = some (.iter s p) := rfl
def consH (k : Nat) : Option WObj → Option WHeap → Option WHeap
  | some v, some r => some ((k, v) :: r)
  | _, _ => none
@[simp] theorem consH_s (k : Nat) (v : WObj) (r : WHeap) : consH k (some v) (some r) = some ((k, v) :: r) := rfl
@[simp] theorem renOld_nil (base : Nat) : renOld base π [] = some [] := rfl
@[simp] theorem renOld_cons (base b : Nat) (o : WObj) (r : WHeap) : renOld base π ((b, o) :: r) = if b < base then consH b (renObj π o) (renOld base π r) else renOld base π r := by
  simp only [renOld]
  split
  · cases renObj π o <;> cases renOld base π r <;> rfl
  · rfl
def newH (n : Nat) (π : Nat → Option Nat) (r : Option WHeap) : Option WObj → Option WHeap
  | some o => consH n (renObj π o) r
  | none => r
@[simp] theorem newH_s (n : Nat) (r : Option WHeap) (o : WObj) : newH n π r (some o) = consH n (renObj π o) r := rfl
@[simp] theorem newH_n (n : Nat) (r : Option WHeap) : newH n π r none = r := rfl
@[simp] theorem renNew_nil (h : WHeap) (n : Nat) : renNew π h n [] = some [] := rfl
@[simp] theorem renNew_cons (h : WHeap) (n b : Nat) (r : List Nat) : renNew π h n (b :: r) = newH n π (renNew π h (n + 1) r) (Pav.get h b) := by
  simp only [renNew, newH]
  cases Pav.get h b with
  | none => rfl
  | some o => simp only; cases renObj π o <;> cases renNew π h (n + 1) r <;> rfl
end
def num3 (n : Nat) : Option Env → Option WHeap → Option WHeap → Option WSt
  | some e, some h1, some h2 => some ⟨e, h1 ++ h2, n⟩
  | _, _, _ => none
@[simp] theorem num3_s (n : Nat) (e : Env) (h1 h2 : WHeap) : num3 n (some e) (some h1) (some h2) = some ⟨e, h1 ++ h2, n⟩ := rfl
@[simp] theorem renumber_eq (base : Nat) (s : WSt) (L : List Nat) : renumber base s L = num3 (base + L.length) (renEnv (newNum base L) s.env) (renOld base (newNum base L) s.heap) (renNew (newNum base L) s.heap base L) := by
  simp only [renumber]
  cases renEnv (newNum base L) s.env <;> cases renOld base (newNum base L) s.heap <;> cases renNew (newNum base L) s.heap base L <;> rfl
def appK (h : WHeap) (nid zl bytes : Nat) (s : AV) : Option (List (List AV) × Bool) → Option (AV × WUpd)
  | some (xs, d) => wEvApp h nid zl bytes s xs d
  | none => none
@[simp] theorem appK_s (h : WHeap) (nid zl bytes : Nat) (s : AV) (xs : List (List AV)) (d : Bool) : appK h nid zl bytes s (some (xs, d)) = wEvApp h nid zl bytes s xs d := rfl
@[simp] theorem wApp_f (z : List AV) (bytes : Nat) (s x : Opd) (e : Env) (h : WHeap) (n : Nat) : wApp z bytes false s x e h n = appK h n z.length bytes (s.ev e) (wElems h z.length (x.ev e)) := by
  simp only [wApp, Bool.false_eq_true, if_false]; cases wElems h z.length (x.ev e) <;> rfl
def zerosK (h : WHeap) (nid : Nat) (z : List AV) (bytes : Nat) (s : AV) : AV → Option (AV × WUpd)
  | .int _ n => ob (nat? n) fun n => if n * (bytes + 1) ≤ maxBytes then wEvApp h nid z.length bytes s (List.replicate n z) (z.all isC) else none
  | _ => none
@[simp] theorem wApp_t (z : List AV) (bytes : Nat) (s x : Opd) (e : Env) (h : WHeap) (n : Nat) : wApp z bytes true s x e h n = zerosK h n z bytes (s.ev e) (x.ev e) := by
  simp only [wApp, if_true]; cases x.ev e <;> rfl
def cpyK (h : WHeap) (z : Nat) (d : AV) : Option (List (List AV) × Bool) → Option (AV × WUpd)
  | some (xs, b) => wCopyIn h z xs b d
  | none => none
@[simp] theorem cpyK_s (h : WHeap) (z : Nat) (d : AV) (xs : List (List AV)) (b : Bool) : cpyK h z d (some (xs, b)) = wCopyIn h z xs b d := rfl
@[simp] theorem wCpy_eq (z : Nat) (d s : Opd) (e : Env) (h : WHeap) (n : Nat) : wCpy z d s e h n = cpyK h z (d.ev e) (wElems h z (s.ev e)) := by
  simp only [wCpy]; cases wElems h z (s.ev e) <;> rfl
attribute [simp] zerosK

@[simp] theorem ob_map {α β γ : Type} (x : Option α) (g : α → β) (f : β → Option γ) : ob (Option.map g x) f = ob x fun a => f (g a) := by cases x <;> rfl

/-- Freezing a slice of a block. -/
def frzS (h : WHeap) (n z i len cap : Nat) (ex : Bool) : Option WObj → Option AV
  | some (.cells _ es _ true) => og (decide (((es.drop i).take len).length = len)) (some (.ro z ((es.drop i).take len) (ex && decide (cap = len))))
  | some (.cells _ es _ false) => ob (mapO (mapO (frzW h n)) ((es.drop i).take len)) fun es' => og (decide (es'.length = len) && es'.all fun e => e.all isC) (some (.ro z es' (ex && decide (cap = len))))
  | _ => none
def reachS (h : WHeap) (n i len : Nat) : Option WObj → List Nat
  | some (.cells _ es _ false) => ((es.drop i).take len).flatMap fun e => e.flatMap (reachW h n)
  | _ => []
section
variable (h : WHeap) (n : Nat)
@[simp] theorem frzW_bool (b : Bool) : frzW h (n + 1) (.bool b) = some (.bool b) := rfl
@[simp] theorem frzW_int (k : IntKind) (x : Int) : frzW h (n + 1) (.int k x) = some (.int k x) := rfl
@[simp] theorem frzW_str (s : List UInt8) : frzW h (n + 1) (.str s) = some (.str s) := rfl
@[simp] theorem frzW_nilp : frzW h (n + 1) .nilp = some .nilp := rfl
@[simp] theorem frzW_nils : frzW h (n + 1) .nils = some .nils := rfl
@[simp] theorem frzW_nilm : frzW h (n + 1) .nilm = some .nilm := rfl
@[simp] theorem frzW_nilf : frzW h (n + 1) .nilf = some .nilf := rfl
@[simp] theorem frzW_ro (z : Nat) (es : List (List AV)) (ex : Bool) : frzW h (n + 1) (.ro z es ex) = some (.ro z es ex) := rfl
@[simp] theorem frzW_rop (cs : List AV) : frzW h (n + 1) (.rop cs) = some (.rop cs) := rfl
@[simp] theorem frzW_fn (f : Nat) (cs : List AV) : frzW h (n + 1) (.fn f cs) = fnO f (mapO (frzW h n) cs) := by simp only [frzW]; cases mapO (frzW h n) cs <;> rfl
@[simp] theorem frzW_agg (cs : List AV) : frzW h (n + 1) (.agg cs) = aggO (mapO (frzW h n) cs) := by simp only [frzW]; cases mapO (frzW h n) cs <;> rfl
@[simp] theorem frzW_tup (cs : List AV) : frzW h (n + 1) (.tup cs) = tupO (mapO (frzW h n) cs) := by simp only [frzW]; cases mapO (frzW h n) cs <;> rfl
@[simp] theorem frzW_sl (b z i len cap : Nat) (ex : Bool) : frzW h (n + 2) (.sl b z i len cap ex) = frzS h (n + 1) z i len cap ex (Pav.get h b) := by
  simp only [frzW, frzS]
  split
  · rename_i hg
    rw [hg]
    rename_i dt
    cases dt <;> rfl
  · rename_i hg
    split
    · rename_i h1; exact absurd h1 (hg _ _ _ _)
    · rename_i h1; exact absurd h1 (hg _ _ _ _)
    · rfl
@[simp] theorem reachW_bool (b : Bool) : reachW h (n + 1) (.bool b) = [] := rfl
@[simp] theorem reachW_int (k : IntKind) (x : Int) : reachW h (n + 1) (.int k x) = [] := rfl
@[simp] theorem reachW_str (s : List UInt8) : reachW h (n + 1) (.str s) = [] := rfl
@[simp] theorem reachW_nilp : reachW h (n + 1) .nilp = [] := rfl
@[simp] theorem reachW_nils : reachW h (n + 1) .nils = [] := rfl
@[simp] theorem reachW_nilm : reachW h (n + 1) .nilm = [] := rfl
@[simp] theorem reachW_nilf : reachW h (n + 1) .nilf = [] := rfl
@[simp] theorem reachW_ro (z : Nat) (es : List (List AV)) (ex : Bool) : reachW h (n + 1) (.ro z es ex) = [] := rfl
@[simp] theorem reachW_rop (cs : List AV) : reachW h (n + 1) (.rop cs) = [] := rfl
@[simp] theorem reachW_fn (f : Nat) (cs : List AV) : reachW h (n + 1) (.fn f cs) = cs.flatMap (reachW h n) := rfl
@[simp] theorem reachW_agg (cs : List AV) : reachW h (n + 1) (.agg cs) = cs.flatMap (reachW h n) := rfl
@[simp] theorem reachW_tup (cs : List AV) : reachW h (n + 1) (.tup cs) = cs.flatMap (reachW h n) := rfl
@[simp] theorem reachW_sl (b z i len cap : Nat) (ex : Bool) : reachW h (n + 1) (.sl b z i len cap ex) = b :: reachS h n i len (Pav.get h b) := by
  simp only [reachW, reachS]
  congr 1
  split
  · rename_i hg
    rw [hg]
    rename_i dt
    cases dt <;> rfl
  · rename_i hg
    split
    · rename_i h1; exact absurd h1 (hg _ _ _ _)
    · rfl
@[simp] theorem hasRefW_bool (b : Bool) : hasRefW (n + 1) (.bool b) = false := rfl
@[simp] theorem hasRefW_int (k : IntKind) (x : Int) : hasRefW (n + 1) (.int k x) = false := rfl
@[simp] theorem hasRefW_str (s : List UInt8) : hasRefW (n + 1) (.str s) = false := rfl
@[simp] theorem hasRefW_nilp : hasRefW (n + 1) .nilp = false := rfl
@[simp] theorem hasRefW_nils : hasRefW (n + 1) .nils = false := rfl
@[simp] theorem hasRefW_nilm : hasRefW (n + 1) .nilm = false := rfl
@[simp] theorem hasRefW_nilf : hasRefW (n + 1) .nilf = false := rfl
@[simp] theorem hasRefW_ro (z : Nat) (es : List (List AV)) (ex : Bool) : hasRefW (n + 1) (.ro z es ex) = true := rfl
@[simp] theorem hasRefW_rop (cs : List AV) : hasRefW (n + 1) (.rop cs) = true := rfl
@[simp] theorem hasRefW_fn (f : Nat) (cs : List AV) : hasRefW (n + 1) (.fn f cs) = cs.any (hasRefW n) := rfl
@[simp] theorem hasRefW_agg (cs : List AV) : hasRefW (n + 1) (.agg cs) = cs.any (hasRefW n) := rfl
@[simp] theorem hasRefW_tup (cs : List AV) : hasRefW (n + 1) (.tup cs) = cs.any (hasRefW n) := rfl
end

/-- The greater, and the lesser, of two numbers. -/
def imax (a b : Int) : Int := if b > a then b else a
def imin (a b : Int) : Int := if b < a then b else a
theorem imax_l {a b : Int} (h : b ≤ a) : imax a b = a := by unfold imax; rw [if_neg (by omega)]
theorem imax_r {a b : Int} (h : a ≤ b) : imax a b = b := by unfold imax; split <;> omega
theorem imin_l {a b : Int} (h : a ≤ b) : imin a b = a := by unfold imin; rw [if_neg (by omega)]
theorem imin_r {a b : Int} (h : b ≤ a) : imin a b = b := by unfold imin; split <;> omega
def mxV : AV → AV → Option (AV × Upd)
  | .int k a, .int k' b => if k = k' then some (.int k (imax a b), []) else none
  | _, _ => none
def mnV : AV → AV → Option (AV × Upd)
  | .int k a, .int k' b => if k = k' then some (.int k (imin a b), []) else none
  | _, _ => none
@[simp] theorem sMx_eq (x y : Opd) (e : Env) (h : Heap) (n : Nat) : sMx x y e h n = mxV (x.ev e) (y.ev e) := rfl
@[simp] theorem sMn_eq (x y : Opd) (e : Env) (h : Heap) (n : Nat) : sMn x y e h n = mnV (x.ev e) (y.ev e) := rfl

attribute [simp] mxV mnV
attribute [simp] List.getElem?_cons_zero frzS reachS
attribute [simp] stepW wAlloc wBox boxedW wBuildS fillS wLoad wLoadOf wLoadAt loadC wStore wStoreOf wStoreAt splice wMkmap wMksl wLook wLookIn found wUpd wUpdIn wRange wNext wNextIter wLen wEvLen wLenMap wElems wNewRow wAppSl wEvApp
  wCopyTo wCopyIn sMv sPick sBuild fillC sNilchk sBin evBin binInt binStr isShift shiftInt sEqv eqVals eqFn eqPtr eqMap eqAgg eqCells eqBool wEqSl keyOk eqCell sUn evUn sCvt sCvs sMkfn sSlice evSlice sliceRo sliceSl sliceNil sliceStr bound oev
  sFld sFldv sIdxs idxsAt sIdxa idxaAt sIdxstr sIdxv sExt sCap evCap AV.cells AV.cell isC isD Pav.get Pav.put setD setE applyW updOneW del readsOf ptrId canon canonG growAll growOne keepL_nil keepL_cons keepN dropLt newNum place close
  envRefs oldRefs refs refsL objRefs markFrozenW marksW hasPtr hasPtrL resultsW tupled fnEndW pureFin argW frzDepth putE maxBytes mapGet mapPut apartR clashR meets

end Go.Pw
