/- The equations of the plain reading, bound together. -/
import Derived.Test.YtneehlkofcdhoaaDraw
namespace Go.Proofs.Ytneehlkofcdhoaa
open Go
set_option linter.defProp false
def sy1 := And.intro @R_skip (And.intro @R_ops (And.intro @R_seq (And.intro @R_cond (And.intro @R_block (And.intro @R_exit (And.intro @R_ret (And.intro @R_nil (And.intro @R_guard (And.intro @R_ite (And.intro @upd_at (And.intro @R_mv (And.intro @R_pick (And.intro @R_ld (And.intro @R_ldn (And.intro @R_st (And.intro @R_stn (And.intro @R_nilc (And.intro @R_bin (And.intro @R_beq (And.intro @R_eqn (And.intro @R_un (And.intro @R_fa (And.intro @R_fld (And.intro @R_ia (And.intro @R_iaa (And.intro @R_idx (And.intro @R_sidx (And.intro @R_ext (And.intro @R_box (And.intro @R_alloc (And.intro @R_bld (And.intro @R_bsl (And.intro @R_mkmap (And.intro @R_mkif (And.intro @R_mkfn (And.intro @R_len (And.intro @R_slc (And.intro @R_slca (And.intro @R_lkp (And.intro @R_conv (And.intro @R_ta (And.intro @R_call (And.intro @P_done (And.intro @P_take (And.intro @P_alt (@P_and))))))))))))))))))))))))))))))))))))))))))))))
def sy2 := And.intro @val1_some (And.intro @val2_some (And.intro @g_true (And.intro @g_false (And.intro @g_undef (And.intro @condS_b (And.intro @updO_some (And.intro @updO_none (And.intro @ev_tmp (And.intro @ev_const (And.intro @ev_func (And.intro @add_lit (And.intro @pickF_b (And.intro @ldF_p (And.intro @ldnF_p (And.intro @stF_p (And.intro @nilF_p (And.intro @nilF_f (And.intro @nilF_m (And.intro @beqF_f (And.intro @beqF_t (And.intro @eqnF_p (And.intro @eqnF_s (And.intro @eqnF_m (And.intro @unF_not (And.intro @unF_neg (And.intro @faF_p (And.intro @fldF_f (And.intro @fldF_t (And.intro @iaF_s (And.intro @iaaF_s (And.intro @extF_t (And.intro @boxF_eq (And.intro @bslF_some (And.intro @lenF_s (And.intro @lenF_str (And.intro @lenF_n (And.intro @lenF_m (And.intro @slcF_s (And.intro @slcaF_p (And.intro @convF_i (And.intro @taF_i (And.intro @bin_add (And.intro @bin_sub (And.intro @bin_mul (And.intro @bin_eql (And.intro @bin_neq (And.intro @bin_lss (And.intro @bin_leq (And.intro @bin_gtr (And.intro @bin_geq (And.intro @bin_quo (And.intro @bin_rem (And.intro @wrap_i64 (And.intro @wrap_u8 (And.intro @P_stop (And.intro @wanted_none (And.intro @wanted_some (And.intro @ldX_p (And.intro @lkX_m (And.intro @lkX_n (And.intro @drew_cell (And.intro @drew_heap (And.intro @drew_frozen (And.intro @drew_lkp (And.intro @fill_one (And.intro @fill_nil (@oneF_int)))))))))))))))))))))))))))))))))))))))))))))))))))))))))))))))))))
def sy3 := And.intro @Value.bool.injEq (And.intro @true_or (And.intro @false_or (And.intro @true_and (And.intro @not_false_eq_true (And.intro @imp_self (And.intro @true_implies (And.intro @decide_eq_true_eq (And.intro @Bool.not_eq_true (And.intro @Bool.not_true (And.intro @Bool.not_false (And.intro @Bool.not_eq_eq_eq_not (And.intro @decide_eq_false_iff_not (And.intro @Nat.mul_one (And.intro @Nat.add_zero (And.intro @and_true (And.intro @and_self (@Bool.false_eq_true)))))))))))))))))
section
universe u v
variable {α : Type u} {β : Type v}
theorem sy5 {α : Sort u} : (α → True) = True := implies_true α
theorem sy6 {b : Prop} (α : Sort u) [i : Nonempty α] : (α → b) = b := propext (forall_const α)
theorem sy7 (b : α) (f : α → β) : (some b).map f = some (f b) := rfl
theorem sy8 (f : α → β) : (none : Option α).map f = none := rfl
theorem sy9 {f : α → β} {a : α} {l : List α} : List.map f (a :: l) = f a :: List.map f l := rfl
theorem sya {f : α → β} : List.map f [] = [] := rfl
theorem syb {α : Sort u} (t e : α) : (if True then t else e) = t := if_true ..
theorem syc {α : Sort u} (t e : α) : (if False then t else e) = e := if_false ..
theorem syd {a : α} : (some a).isNone = false := rfl
theorem sye : (none : Option α).isNone = true := rfl
theorem syf {l : List α} {i : Nat} : l.toArray[i]? = l[i]? := List.getElem?_toArray
theorem syg {a : α} {l : List α} : (a :: l)[0]? = some a := rfl
theorem syh {a : α} {l : List α} {i : Nat} : (a :: l)[i + 1]? = l[i]? := rfl
end
end Go.Proofs.Ytneehlkofcdhoaa
