/- The rules, as a set of their own. -/
import Derived.Test.YtmciomkibklokaaA23
import Derived.Attr
set_option autoImplicit false
namespace Go.AM
theorem ret3' {a b c : AV} {H : AHeap} {K : AV → AHeap → Prop} : retF [a, b, c] H K = frzLK [a, b, c] H fun vs H' => finA (one1 vs) H' K := rfl
theorem ret4' {a b c d : AV} {H : AHeap} {K : AV → AHeap → Prop} : retF [a, b, c, d] H K = frzLK [a, b, c, d] H fun vs H' => finA (one1 vs) H' K := rfl
attribute [go_sem] ret3' ret4'
/-! calls that change things: what is open beside them -/
theorem qt_d {x : Dat} : qt (.d x) = True := rfl
theorem qt_lit {l : List (List Dat)} : qt (.lit l) = True := rfl
theorem qt_nilptr : qt .nilptr = True := rfl
theorem qt_nilmap : qt .nilmap = True := rfl
theorem qt_agg {l : List AV} : qt (.agg l) = True := rfl
theorem qt_func {f : FuncId} {a b : List AV} : qt (.func f a b) = True := rfl
theorem kp_d {x : Dat} {H H' : AHeap} : kp (.d x) H H' = True := rfl
theorem kp_lit {l : List (List Dat)} {H H' : AHeap} : kp (.lit l) H H' = True := rfl
theorem kp_nilptr {H H' : AHeap} : kp .nilptr H H' = True := rfl
theorem kp_nilmap {H H' : AHeap} : kp .nilmap H H' = True := rfl
theorem kp_agg {l : List AV} {H H' : AHeap} : kp (.agg l) H H' = True := rfl
theorem kp_vptr {l : List Dat} {o : Nat} {H H' : AHeap} : kp (.vptr l o) H H' = True := rfl
theorem kp_ptr {i v e o : Nat} {H H' : AHeap} : kp (.ptr i v e o) H H' = (H' i = H i) := rfl
theorem kp_rs {i v z o n : Nat} {H H' : AHeap} : kp (.rs i v z o n) H H' = (H' i = H i) := rfl
theorem kp_map {i : Nat} {H H' : AHeap} : kp (.map i) H H' = (H' i = H i) := rfl
attribute [go_sem] qt_d qt_lit qt_nilptr qt_nilmap qt_agg qt_func kp_d kp_lit kp_nilptr kp_nilmap kp_agg kp_vptr kp_ptr kp_rs kp_map
attribute [go_sem] optA_some optA_none ifA_t ifA_f ifA_ite ifA_bool' drA_true stepK_some stepK_none sets_cons sets_app st_d cl_d st_lit cl_lit st_nilptr cl_nilptr st_ptr cl_ptr st_rs cl_rs st_nilmap cl_nilmap st_map cl_map st_func cl_func st_nilfunc cl_nilfunc st_agg cl_agg set_self if_true if_false Bool.false_eq_true ldV_get getM_set getM_ne ne_eq not_false_eq_true ldV_v ldM partV List.map_cons List.map_nil List.getElem?_cons_zero List.getElem?_cons_succ List.drop_succ_cons List.drop_zero List.take_succ_cons List.take_zero List.length_cons List.length_nil List.take_nil List.drop_nil frzLK_nil frzLK_d frzLK_lit frzLK_nilptr frzLK_ptr frzLK_nilmap frzLK_map frzLK_func frzLK_nilfunc frzLK_tup frzLK_agg frzL_nil frzL_cons frzAL_nil frzAL_cons frz_d frzA_d ret1_d frz_lit frzA_lit ret1_lit frz_nilptr frzA_nilptr ret1_nilptr frz_ptr frzA_ptr ret1_ptr frz_nilmap frzA_nilmap ret1_nilmap frz_map frzA_map ret1_map frz_func frzA_func ret1_func frz_nilfunc frzA_nilfunc ret1_nilfunc frzA_agg ret1_agg ret0 ret2_dd ret2_litd ret2_aggd ret2_ptrd ret2_nilptrd one1_1 one1_2 sets_nil' set_set List.append_nil List.nil_append Nat.zero_add Nat.reduceAdd Nat.reduceSub decide_eq_true_eq Bool.not_eq_true' decide_eq_false_iff_not intA_add intA_sub intA_mul intA_eql intA_neq intA_lss intA_leq intA_gtr intA_geq strA_eql strA_neq boolA_eql boolA_neq unA_not unA_neg cvI_int lenSl_d lenSl_lit lenSl_rs lenStr_d extractA_0 extractA_1 extractA_2 true_and and_true cvBS_bs cvBS_lit cvBS_nil noRs_d noRs_lit noRs_nilptr noRs_ptr noRs_nilmap noRs_map noRs_func noRs_nilfunc ap_d_d ap_d_lit ap_d_nil ap_d_map ap_d_nilmap ap_d_agg ap_d_func ap_d_ptr ap_ptr_d aggL_d rsOf_d ap_lit_d ap_lit_lit ap_lit_nil ap_lit_map ap_lit_nilmap ap_lit_agg ap_lit_func ap_lit_ptr ap_ptr_lit aggL_lit rsOf_lit ap_nil_d ap_nil_lit ap_nil_nil ap_nil_map ap_nil_nilmap ap_nil_agg ap_nil_func ap_nil_ptr ap_ptr_nil aggL_nil rsOf_nil ap_map_d ap_map_lit ap_map_nil ap_map_nilmap ap_map_agg ap_map_func aggL_map rsOf_map ap_nilmap_d ap_nilmap_lit ap_nilmap_nil ap_nilmap_map ap_nilmap_nilmap ap_nilmap_agg ap_nilmap_func ap_nilmap_ptr ap_ptr_nilmap aggL_nilmap rsOf_nilmap ap_agg_d ap_agg_lit ap_agg_nil ap_agg_map ap_agg_nilmap ap_agg_agg ap_agg_func ap_agg_ptr ap_ptr_agg aggL_agg rsOf_agg ap_func_d ap_func_lit ap_func_nil ap_func_map ap_func_nilmap ap_func_agg ap_func_func ap_func_ptr ap_ptr_func aggL_func rsOf_func ap_nil ap_nil' ap_ptr_ptr aggL_ptr rsOf_ptr aggL_rs rsOf_rs noRsA_nil noRsA_cons
end Go.AM
