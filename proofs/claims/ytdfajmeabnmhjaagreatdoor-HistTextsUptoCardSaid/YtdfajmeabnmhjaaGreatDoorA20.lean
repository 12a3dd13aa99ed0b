/- weirlaw30.HistTexts: part of the proof (a value semantics for the model's code, and the functions told by it). -/
import Derived.Test.YtdfajmeabnmhjaaGreatDoorA19
set_option linter.unusedSimpArgs false
set_option linter.unusedVariables false
set_option linter.deprecated false
set_option linter.unusedSectionVars false
set_option linter.defProp false
namespace Go.Ve
def R0 := And.intro @g0 (And.intro @g1 (And.intro @s0 (And.intro @s1 (And.intro @pu0 (And.intro @pu1 (And.intro @st0 (And.intro @st1 (And.intro @bs0 (And.intro @bs1 (And.intro @bv0 (And.intro @bv1 (And.intro @bo0 (And.intro @bo1 (And.intro @bd0 (And.intro @vals0 (And.intro @vals1 (And.intro @e_tmp (And.intro @e_int (And.intro @e_bool (And.intro @e_str (And.intro @e_nilI (And.intro @e_nilP (@e_nilF)))))))))))))))))))))))
def R1 := And.intro @e_nilS (And.intro @e_func (And.intro @v_tmp (And.intro @v_const (And.intro @o_tmp (And.intro @o_const (And.intro @o_global (And.intro @o_func (And.intro @os0 (And.intro @os1 (And.intro @cj0 (And.intro @cj1 (And.intro @cc0 (And.intro @cc1 (And.intro @im0 (And.intro @im1 (And.intro @gc1 (And.intro @gc0 (And.intro @gv0 (And.intro @gv1 (And.intro @gv2 (And.intro @gd0 (And.intro @gd1 (@r_nil)))))))))))))))))))))))
def R2 := And.intro @r_op (And.intro @r_gd (And.intro @rn_q (And.intro @rn_e (And.intro @rn_g (And.intro @rg (And.intro @rc_q (And.intro @rc_g (And.intro @k_pick (And.intro @k_bin (And.intro @k_un (And.intro @k_load (And.intro @k_nil (And.intro @k_move (And.intro @k_assign (And.intro @k_index (And.intro @k_indexAddr (And.intro @k_fieldAddr (And.intro @k_field (And.intro @k_extract (And.intro @k_convert (And.intro @k_iface (And.intro @k_store (@k_slice)))))))))))))))))))))))
def R3 := And.intro @k_call (And.intro @k_blt (And.intro @k_alloc (And.intro @k_box (And.intro @k_build (And.intro @k_buildSlice (And.intro @k_makeSlice (And.intro @k_typeAssert (And.intro @a_pick (And.intro @a_bin (And.intro @a_un (And.intro @a_load (And.intro @a_nil (And.intro @a_index (And.intro @a_indexAddr (And.intro @a_slice (And.intro @a_callF (And.intro @a_len (And.intro @a_move (And.intro @a_assign (And.intro @mv0 (And.intro @mv1 (And.intro @pq (@pn)))))))))))))))))))))))
def R4 := And.intro @vq (And.intro @cq (And.intro @cg (And.intro @fa (And.intro @pk (And.intro @mb (And.intro @mi (And.intro @ms (And.intro @b_int (And.intro @b_str (And.intro @ar1 (And.intro @ar0 (And.intro @aru8 (And.intro @aru32 (And.intro @aru64 (And.intro @ari32 (And.intro @i_add (And.intro @i_sub (And.intro @i_mul (And.intro @i_quo (And.intro @i_rem (And.intro @i_eql (And.intro @i_neq (@i_lss)))))))))))))))))))))))
def R5 := And.intro @i_leq (And.intro @i_gtr (And.intro @i_geq (And.intro @i_and (And.intro @i_or (And.intro @i_shl (And.intro @i_shr (And.intro @t_add (And.intro @t_eql (And.intro @t_neq (And.intro @t_lss (And.intro @x_str (And.intro @y_sl (And.intro @l_f (And.intro @l_t (And.intro @u_neg (And.intro @u_not (And.intro @lo0 (And.intro @lo1 (And.intro @hi0 (And.intro @hi1 (And.intro @sl_s (And.intro @sl_sv (@sl_l)))))))))))))))))))))))
def R6 := And.intro @sl_lv (And.intro @c_skip (And.intro @c_reg (And.intro @c_drw (And.intro @c_seq (And.intro @c_cond (And.intro @c_bool (And.intro @c_block (And.intro @c_exit (And.intro @c_ret (And.intro @c_label (And.intro @c_loop (And.intro @q_n (And.intro @q_x (And.intro @q_r (And.intro @w_n (And.intro @w_x (And.intro @w_r (And.intro @z_n (And.intro @z_r (And.intro @ro0 (And.intro @ro1 (And.intro @ro2 (@rs1s)))))))))))))))))))))))
def R7 := And.intro @rb0 (And.intro @rb1 (And.intro @lq_n (And.intro @lq_x (And.intro @lq_r (And.intro @kr_some (And.intro @retV_one (And.intro @retV_two (And.intro @List.contains_nil.{0} (And.intro @List.contains_cons.{0} (And.intro @Bool.or_false (And.intro @Bool.false_or (And.intro @List.map_cons.{0,0} (And.intro @List.map_nil.{0,0} (And.intro @List.append_nil.{0} (And.intro @List.nil_append.{0} (And.intro @List.cons_append.{0} (And.intro @List.getElem?_cons_zero.{0} (And.intro @List.getElem?_cons_succ.{0} (And.intro @Option.map_some.{0,0} (And.intro @Option.map_none.{0,0} (And.intro @true_and (And.intro @and_true (@and_self)))))))))))))))))))))))
def R8 := And.intro @ne_eq.{1} (And.intro @Bool.and_eq_true (And.intro @Bool.or_eq_true (And.intro @Bool.not_eq_true' (And.intro @Bool.not_eq_false' (And.intro @decide_eq_true_eq (And.intro @decide_eq_false_iff_not (And.intro @Bool.and_true (And.intro @Bool.true_and (And.intro @true_imp_iff (And.intro @Bool.not_true (And.intro @Bool.not_false (And.intro @imp_self (And.intro @Bool.cond_true_left (And.intro @Bool.cond_false_right (And.intro @Bool.cond_true_right (And.intro @Bool.cond_false_left (And.intro @Nat.zero_ne_one (And.intro @Nat.one_ne_zero (And.intro @Nat.succ_ne_zero (And.intro @a_store (And.intro @a_mk (And.intro @a_cl (@cl_r)))))))))))))))))))))))
def R9 := And.intro @clQ_l (And.intro @ic_t (And.intro @ic_c (And.intro @a_fa (And.intro @a_fi (And.intro @fa_p (And.intro @fa_v (And.intro @a_app2 (And.intro @a_al (And.intro @a_bx (And.intro @a_bu (And.intro @a_bs (And.intro @ab_s (And.intro @rn_b (And.intro @sp_n (And.intro @sp_c (And.intro @a_ex (And.intro @ex_t (And.intro @a_cv (And.intro @cv_i (And.intro @cv_s (And.intro @a_if (And.intro @a_min (@a_max)))))))))))))))))))))))
def R10 := And.intro @mm_t (And.intro @mm_f (And.intro @ev_mf (And.intro @eq_q (And.intro @eq_n (And.intro @oq (And.intro @sl_t (And.intro @sl_tv (And.intro @sl_r (And.intro @sl_a (And.intro @sl_rv (And.intro @sr_o (And.intro @sr_f (And.intro @sr_l (And.intro @sr_h (And.intro @rr (And.intro @y_slt (And.intro @y_rs (And.intro @y_ap (And.intro @y_av (And.intro @l_p (And.intro @l_pf (And.intro @l_pt (@sB_p)))))))))))))))))))))))
def R11 := And.intro @sB_l (And.intro @m_st (And.intro @m_sl (And.intro @m_nw (And.intro @m_no (And.intro @mk_v (And.intro @mk_c (And.intro @ap_s (And.intro @ap_t (And.intro @ap_b (And.intro @ln_q (And.intro @ln_s (And.intro @ln_a (And.intro @ln_l (And.intro @ln_t (And.intro @ln_r (And.intro @rc_e (And.intro @sn_t (And.intro @sn_f (And.intro @sO_t (And.intro @sO_c (And.intro @sO_g (And.intro @sO_f (@fa1)))))))))))))))))))))))
def R12 := And.intro @bw_v (And.intro @bw_s (And.intro @bw_t (And.intro @bw_a (And.intro @bw_i (And.intro @bw_f (And.intro @bw_p (And.intro @bw_r (And.intro @bw_q (And.intro @bp_l (And.intro @List.any_cons.{0} (And.intro @List.any_nil.{0} (And.intro @va_f (And.intro @va_y (And.intro @ov0 (And.intro @ov1 (And.intro @jk0 (And.intro @jk1 (And.intro @om0 (And.intro @om1 (And.intro @set0 (And.intro @set1 (And.intro @c_rf (@List.take_zero.{0})))))))))))))))))))))))
def R13 := And.intro @List.take_succ_cons.{0} (And.intro @List.drop_zero.{0} (And.intro @List.drop_succ_cons.{0} (And.intro @List.length_cons.{0} (And.intro @List.length_nil.{0} (And.intro @List.getD_cons_zero.{0} (And.intro @List.getD_cons_succ.{0} (And.intro @List.all_cons.{0} (And.intro @List.all_nil.{0} (And.intro @List.take_nil.{0} (And.intro @List.drop_nil.{0} (And.intro @Option.isSome_some.{0} (And.intro @Option.isSome_none.{0} (And.intro @List.length_map.{0,0} (And.intro @List.length_replicate.{0} (And.intro @Nat.zero_add (And.intro @Nat.add_zero (And.intro @Nat.mul_one (And.intro @Nat.one_mul (And.intro @Nat.zero_mul (And.intro @Nat.mul_zero (And.intro @not_false_eq_true (And.intro @decide_true (@Bool.and_self)))))))))))))))))))))))
def R14 := And.intro @Bool.cond_true.{1} (And.intro @Bool.cond_false.{1} (And.intro @Option.bind_some.{0,0} (And.intro @List.range_zero (And.intro @List.map_replicate.{0,0} (And.intro @true_or (And.intro @or_true (And.intro @Nat.lt_add_one (And.intro @Nat.le_refl (And.intro @Nat.not_lt_zero (And.intro @or_false (And.intro @false_or (And.intro @and_false (And.intro @false_and (And.intro @not_true_eq_false (And.intro @vb_0 (And.intro @vs_t (And.intro @vs_f (And.intro @vd_n (And.intro @vd_s (And.intro @dr_i (And.intro @dr_d (And.intro @Bool.false_and (@rn_v)))))))))))))))))))))))
def R15 := And.intro @rc_v (And.intro @vq_l (And.intro @vv_n (And.intro @vv_nt (And.intro @vv_r (And.intro @vv_rt (And.intro @kb_n (And.intro @kb_0 (And.intro @kb_1 (And.intro @kv_p (And.intro @kv_m (And.intro @Option.toList_some.{0} (And.intro @Option.toList_none.{0} (And.intro @Int.cast_ofNat_Int (And.intro @b_bb (And.intro @bn_e (And.intro @bn_n (And.intro @vl_p (And.intro @vl_t (And.intro @vl_f (And.intro @ap_z (And.intro @List.set_cons_zero.{0} (And.intro @List.set_cons_succ.{0} (@lend_r)))))))))))))))))))))))
def R16 := And.intro @lk_s (And.intro @lb_t (And.intro @lb_f (And.intro @cb_r (And.intro @k_mf (And.intro @a_call (And.intro @Bool.or_self (And.intro @frz_v (And.intro @zf_0 (And.intro @zf_1 (And.intro @al_v (And.intro @bm_s (And.intro @sp_2 (And.intro @sp_3 (And.intro @en_b (And.intro @m_nB (@l_pb))))))))))))))))
def RB0 := And.intro @false_implies (And.intro @true_implies (And.intro @implies_true.{0} (And.intro @decide_false (And.intro @Bool.or_true (And.intro @Bool.true_or (And.intro @Bool.and_false (And.intro @Bool.true_eq_false (@Bool.false_eq_true))))))))
def RG0 := And.intro @gcE (And.intro @wk_n (And.intro @wk_c (And.intro @wk_j (And.intro @wk_s (And.intro @wk_i (And.intro @wk_b (And.intro @wk_t (And.intro @wk_z (And.intro @wkB_n (And.intro @wkB_l (And.intro @bd0 (And.intro @ov0 (And.intro @ov1 (And.intro @jk0 (And.intro @jk1 (And.intro @om0 (And.intro @om1 (And.intro @set0 (And.intro @set1 (And.intro @List.map_cons.{0,0} (And.intro @List.map_nil.{0,0} (And.intro @List.take_zero.{0} (@List.take_succ_cons.{0})))))))))))))))))))))))
def RG1 := And.intro @List.take_nil.{0} (And.intro @List.length_cons.{0} (And.intro @List.length_nil.{0} (And.intro @Nat.zero_add (And.intro @Nat.le_refl (And.intro @List.all_cons.{0} (And.intro @List.all_nil.{0} (And.intro @Bool.and_true (And.intro @Bool.true_and (And.intro @Bool.and_self (And.intro @true_and (And.intro @and_true (And.intro @and_self (And.intro @true_or (And.intro @or_true (And.intro @decide_true (And.intro @decide_eq_true_eq (And.intro @List.cons_append.{0} (And.intro @List.nil_append.{0} (@Int.ofNat_zero)))))))))))))))))))
end Go.Ve
namespace Go.Ve
theorem atl {α : Type} (l : List α) : (List.toArray l).toList = l := rfl
theorem atl2 {α : Type} (l : List α) : (Array.mk l).toList = l := rfl
theorem pj1 (d : Option Tmp) (o : Op) (t : TypeId) (p : String) (a : Array Edge) (g : Option (Nat × Bool)) : (Oper.mk d o t p a g).dst = d := rfl
theorem pj2 (d : Option Tmp) (o : Op) (t : TypeId) (p : String) (a : Array Edge) (g : Option (Nat × Bool)) : (Oper.mk d o t p a g).op = o := rfl
theorem pj3 (ds : List (Option Tmp)) (fd : List Tmp) (dr : Bool) : (RI.mk ds fd dr).ds = ds := rfl
theorem pj4 (ds : List (Option Tmp)) (fd : List Tmp) (dr : Bool) : (RI.mk ds fd dr).fd = fd := rfl
theorem pj5 (ds : List (Option Tmp)) (fd : List Tmp) (dr : Bool) : (RI.mk ds fd dr).dr = dr := rfl
theorem pf1 (strip : Option Tmp) (mem : MEff) : (Eff.mk strip mem).strip = strip := rfl
theorem pf2 (strip : Option Tmp) (mem : MEff) : (Eff.mk strip mem).mem = mem := rfl
theorem peP (P : Program) (G : Nat → Option (List PV)) (Y : Option Yd) (ro : Option Nat) (lo : Nat) (vc : List Tmp) (dk : Bool) : (Env.mk P G Y ro lo vc dk).P = P := rfl
theorem peG (P : Program) (G : Nat → Option (List PV)) (Y : Option Yd) (ro : Option Nat) (lo : Nat) (vc : List Tmp) (dk : Bool) : (Env.mk P G Y ro lo vc dk).G = G := rfl
theorem peY (P : Program) (G : Nat → Option (List PV)) (Y : Option Yd) (ro : Option Nat) (lo : Nat) (vc : List Tmp) (dk : Bool) : (Env.mk P G Y ro lo vc dk).Y = Y := rfl
theorem pero (P : Program) (G : Nat → Option (List PV)) (Y : Option Yd) (ro : Option Nat) (lo : Nat) (vc : List Tmp) (dk : Bool) : (Env.mk P G Y ro lo vc dk).ro = ro := rfl
theorem pelo (P : Program) (G : Nat → Option (List PV)) (Y : Option Yd) (ro : Option Nat) (lo : Nat) (vc : List Tmp) (dk : Bool) : (Env.mk P G Y ro lo vc dk).lo = lo := rfl
theorem pevc (P : Program) (G : Nat → Option (List PV)) (Y : Option Yd) (ro : Option Nat) (lo : Nat) (vc : List Tmp) (dk : Bool) : (Env.mk P G Y ro lo vc dk).vc = vc := rfl
theorem so_val (v : Value) : (PV.val v).solid = true := rfl
theorem on_val (v : Value) : (PV.val v).one = true := rfl
theorem ce_val (v : Value) : (PV.val v).cells = [(PV.val v)] := rfl
theorem ir_val (v : Value) : (PV.val v).isRef = false := rfl
theorem so_sl (k : Nat) (xs : List PV) (o : Bool) : (PV.sl k xs o).solid = true := rfl
theorem on_sl (k : Nat) (xs : List PV) (o : Bool) : (PV.sl k xs o).one = true := rfl
theorem ce_sl (k : Nat) (xs : List PV) (o : Bool) : (PV.sl k xs o).cells = [(PV.sl k xs o)] := rfl
theorem ir_sl (k : Nat) (xs : List PV) (o : Bool) : (PV.sl k xs o).isRef = false := rfl
theorem sc_sl (k : Nat) (xs : List PV) (o : Bool) : (PV.sl k xs o).scalar = false := rfl
theorem so_ptr (b o : Nat) : (PV.ptr b o).solid = true := rfl
theorem on_ptr (b o : Nat) : (PV.ptr b o).one = true := rfl
theorem ce_ptr (b o : Nat) : (PV.ptr b o).cells = [(PV.ptr b o)] := rfl
theorem ir_ptr (b o : Nat) : (PV.ptr b o).isRef = true := rfl
theorem sc_ptr (b o : Nat) : (PV.ptr b o).scalar = false := rfl
theorem so_vptr (cs : List PV) (o : Nat) : (PV.vptr cs o).solid = true := rfl
theorem on_vptr (cs : List PV) (o : Nat) : (PV.vptr cs o).one = true := rfl
theorem ce_vptr (cs : List PV) (o : Nat) : (PV.vptr cs o).cells = [(PV.vptr cs o)] := rfl
theorem ir_vptr (cs : List PV) (o : Nat) : (PV.vptr cs o).isRef = false := rfl
theorem sc_vptr (cs : List PV) (o : Nat) : (PV.vptr cs o).scalar = false := rfl
theorem so_rs (k b o n c : Nat) : (PV.rs k b o n c).solid = true := rfl
theorem on_rs (k b o n c : Nat) : (PV.rs k b o n c).one = true := rfl
theorem ce_rs (k b o n c : Nat) : (PV.rs k b o n c).cells = [(PV.rs k b o n c)] := rfl
theorem ir_rs (k b o n c : Nat) : (PV.rs k b o n c).isRef = true := rfl
theorem sc_rs (k b o n c : Nat) : (PV.rs k b o n c).scalar = false := rfl
theorem so_slt (k : Nat) (xs ys : List PV) : (PV.slt k xs ys).solid = true := rfl
theorem on_slt (k : Nat) (xs ys : List PV) : (PV.slt k xs ys).one = true := rfl
theorem ce_slt (k : Nat) (xs ys : List PV) : (PV.slt k xs ys).cells = [(PV.slt k xs ys)] := rfl
theorem ir_slt (k : Nat) (xs ys : List PV) : (PV.slt k xs ys).isRef = false := rfl
theorem sc_slt (k : Nat) (xs ys : List PV) : (PV.slt k xs ys).scalar = false := rfl
theorem so_func (f : Fn) (a c : List PV) : (PV.func f a c).solid = true := rfl
theorem on_func (f : Fn) (a c : List PV) : (PV.func f a c).one = true := rfl
theorem ce_func (f : Fn) (a c : List PV) : (PV.func f a c).cells = [(PV.func f a c)] := rfl
theorem ir_func (f : Fn) (a c : List PV) : (PV.func f a c).isRef = false := rfl
theorem sc_func (f : Fn) (a c : List PV) : (PV.func f a c).scalar = false := rfl
theorem so_iface (t : TypeId) (p : PV) : (PV.iface t p).solid = true := rfl
theorem on_iface (t : TypeId) (p : PV) : (PV.iface t p).one = true := rfl
theorem ce_iface (t : TypeId) (p : PV) : (PV.iface t p).cells = [(PV.iface t p)] := rfl
theorem ir_iface (t : TypeId) (p : PV) : (PV.iface t p).isRef = false := rfl
theorem so_agg (cs : List PV) : (PV.agg cs).solid = true := rfl
theorem on_agg (cs : List PV) : (PV.agg cs).one = false := rfl
theorem ce_agg (cs : List PV) : (PV.agg cs).cells = cs := rfl
theorem ir_agg (cs : List PV) : (PV.agg cs).isRef = false := rfl
theorem so_tuple (vs : List PV) : (PV.tuple vs).solid = false := rfl
theorem on_tuple (vs : List PV) : (PV.tuple vs).one = true := rfl
theorem ce_tuple (vs : List PV) : (PV.tuple vs).cells = [(PV.tuple vs)] := rfl
theorem ir_tuple (vs : List PV) : (PV.tuple vs).isRef = false := rfl
theorem so_junk  : (PV.junk ).solid = false := rfl
theorem on_junk  : (PV.junk ).one = true := rfl
theorem ce_junk  : (PV.junk ).cells = [(PV.junk )] := rfl
theorem ir_junk  : (PV.junk ).isRef = false := rfl
theorem sc_junk  : (PV.junk ).scalar = false := rfl
theorem fe_n (r : RI) : feeds r none = false := rfl
theorem fe_s (r : RI) (t : Tmp) : feeds r (some t) = r.fd.contains t := rfl
theorem qu_t : quiet ⟨none, .none⟩ = true := rfl
theorem qu_s (t : Tmp) (m : MEff) : quiet ⟨some t, m⟩ = false := rfl
theorem tnL (n : Nat) : (@OfNat.ofNat Int n instOfNat).toNat = @OfNat.ofNat Nat n (instOfNatNat n) := rfl
theorem tnN (n : Nat) : (-(@OfNat.ofNat Int n instOfNat)).toNat = 0 := by
 show (-(n : Int)).toNat = 0
 omega
theorem ncF : @NatCast.natCast Int instNatCastInt = @Nat.cast Int instNatCastInt := rfl
end Go.Ve
