/- What is proved at the end: for every input FnPointSums returns true and its argument reads as it did; without condition. Part 4 of 7. -/
import Derived.Test.YtiicfnongikeeaaGreatXc

set_option linter.unusedSimpArgs false
set_option linter.unusedVariables false
/- Functions of the translation in the code of the abstract machine. -/
namespace XM
open Go Z
def l_impl_Series_compose_0 : YC :=
  .seq (.seq (.region false [m 11 6,
  p 12 (.bin .geq 11 (k 0))])
 (.cond 12
 (.skip)
 (.exit 0)))
 (.seq (.block 1
 (.region true [o 15 (.load 2 true 5),
  o 16 (.load 2 true 3),
  ⟨some 17, cl n_impl_Series_times [15, 16], none, true⟩,
  ⟨some 18, .load 2 true 2, none, true⟩,
  p 19 (.fieldAddr 1 2),
  ⟨some 20, .load 1 false 19, none, true⟩,
  m 21 6,
  p 22 (.indexAddr 1 20 21),
  ⟨some 23, .load 1 false 22, none, true⟩,
  o 24 (cl n_impl_Series_constant [18, 23]),
  o 25 (cl n_impl_Series_plus [17, 24]),
  e (.store 2 5 25)]))
 (.region false [m 13 6,
  p 14 (.bin .sub 13 (k 1)),
  m 6 14]))
def q_impl_Series_compose_0 (a2 a3 a4 a5 a6 : Value) (h : Hp) (K K0 : Kont) : Prop :=
  bindO (binV .geq a6 (.int .i64 0)) fun v12 => condM v12 (bindO (ldV 2 true h a5) fun v15 => bindO (ldV 2 true h a3) fun v16 => CallW FF n_impl_Series_times [v15, v16] h fun v17 h1 => keepB h.nx h h1 ∧ (inB h.nx a2 ∧ (bindO (ldV 2 true h1 a2) fun v18 => bindO (fieldAddrV 1 a2) fun v19 => inB h.nx v19 ∧ (bindO (ldV 1 false h1 v19) fun v20 => bindO (indexAddrV 1 v20 a6) fun v22 => inB h.nx v22 ∧ (bindO (ldV 1 false h1 v22) fun v23 => CallW FF n_impl_Series_constant [v18, v23] h1 fun v24 h2 => CallW FF n_impl_Series_plus [v17, v24] h2 fun v25 h3 => bindO (storeV 2 h3 v25 a5) fun h4 => bindO (binV .sub a6 (.int .i64 1)) fun v14 => K [a2, a3, a4, a5, v14] h4))))) (K0 [a4, a5] h)
theorem wl_impl_Series_compose_0 {a2 a3 a4 a5 a6 : Value} {h : Hp} {K K0 : Kont} (H : q_impl_Series_compose_0 a2 a3 a4 a5 a6 h K K0) : ∀ e : Env, [e 2, e 3, e 4, e 5, e 6] = [a2, a3, a4, a5, a6] → V FF l_impl_Series_compose_0 (qsel [2, 3, 4, 5, 6] K [(.exit 0, [4, 5], K0)]) ⟨e, h⟩ := by
  intro e he; cases he; exact Eq.mp (by kernel_rfl) H
def y_impl_Series_compose : YC :=
  .seq (.region false [o 2 (.box y_t_impl_Series 2 0),
  o 3 (.box y_t_impl_Series 2 1),
  o 4 (.box y_t_impl_Series 2 (.c (.agg #[.int .i64 0, .slice none 0 0])))])
 (.seq (.region false [o 7 (.load 2 true 2),
  o 8 (cl n_impl_Series_constant [7, (k 0)]),
  o 5 (.box y_t_impl_Series 2 (.c (.agg #[.int .i64 0, .slice none 0 0]))),
  e (.store 2 5 8)])
 (.seq (.seq (.region false [o 9 (.load 2 true 2),
  o 10 (cl n_impl_Series_degree [9]),
  m 6 10])
 (.block 0
 (.loop [2, 3, 4, 5, 6] [(.exit 0, [4, 5])] l_impl_Series_compose_0)))
 (.seq (.region false [o 26 (.load 2 true 5),
  e (.store 2 4 26)])
 (.ret))))
theorem c_impl_Series_compose : FF n_impl_Series_compose = some ⟨27, y_impl_Series_compose.er, [.cell 4 2 true]⟩ := by kernel_rfl
def p_impl_Series_compose (a0 a1 : Value) (h : Hp) (R : Value → Hp → Prop) : Prop :=
  bindO (boxV 2 a0) fun c2 => newB h ⟨c2, y_t_impl_Series, true⟩ fun b2 h1 => bindO (boxV 2 a1) fun c3 => newB h1 ⟨c3, y_t_impl_Series, true⟩ fun b3 h2 => bindO (boxV 2 (.agg #[.int .i64 0, .slice none 0 0])) fun c4 => newB h2 ⟨c4, y_t_impl_Series, true⟩ fun b4 h3 => bindO (ldV 2 true h3 (.pointer (some ⟨b2, 0, none⟩))) fun v7 => CallW FF n_impl_Series_constant [v7, (.int .i64 0)] h3 fun v8 h4 => bindO (boxV 2 (.agg #[.int .i64 0, .slice none 0 0])) fun c5 => newB h4 ⟨c5, y_t_impl_Series, true⟩ fun b5 h5 => bindO (storeV 2 h5 v8 (.pointer (some ⟨b5, 0, none⟩))) fun h6 => bindO (ldV 2 true h6 (.pointer (some ⟨b2, 0, none⟩))) fun v9 => CallW FF n_impl_Series_degree [v9] h6 fun v10 h7 => LP FF (YC.er l_impl_Series_compose_0) [2, 3, 4, 5, 6] [(.exit 0, [4, 5], fun vs h8 => ∀ e : Env, [e 4, e 5] = vs → bindO (ldV 2 true h8 (e 5)) fun v26 => bindO (storeV 2 h8 v26 (e 4)) fun h9 => bindO (ldV 2 true h9 (e 4)) fun r4 => R r4 h9)] [(.pointer (some ⟨b2, 0, none⟩)), (.pointer (some ⟨b3, 0, none⟩)), (.pointer (some ⟨b4, 0, none⟩)), (.pointer (some ⟨b5, 0, none⟩)), v10] h7
theorem w_impl_Series_compose {a0 a1 : Value} {h : Hp} {R : Value → Hp → Prop} (H : p_impl_Series_compose a0 a1 h R) : CallW FF n_impl_Series_compose [a0, a1] h R := callV_fin c_impl_Series_compose (Eq.mp (by kernel_rfl) H)
def y_math_bits_Mul64 : YC :=
  .seq (.region false [mc 4 (.c (.int .u64 0)),
  mc 5 (.c (.int .u64 0))])
 (.seq (.region false [m 14 0,
  p 15 (.bin .and 14 (.c (.int .u64 4294967295))),
  m 6 15])
 (.seq (.region false [m 16 0,
  p 17 (.bin .shr 16 (.c (.int .u64 32))),
  m 7 17])
 (.seq (.region false [m 18 1,
  p 19 (.bin .and 18 (.c (.int .u64 4294967295))),
  m 8 19])
 (.seq (.region false [m 20 1,
  p 21 (.bin .shr 20 (.c (.int .u64 32))),
  m 9 21])
 (.seq (.region false [m 22 6,
  m 23 8,
  p 24 (.bin .mul 22 23),
  m 10 24])
 (.seq (.region false [m 25 7,
  m 26 8,
  p 27 (.bin .mul 25 26),
  m 28 10,
  p 29 (.bin .shr 28 (.c (.int .u64 32))),
  p 30 (.bin .add 27 29),
  m 11 30])
 (.seq (.region false [m 31 11,
  p 32 (.bin .and 31 (.c (.int .u64 4294967295))),
  m 12 32])
 (.seq (.region false [m 33 11,
  p 34 (.bin .shr 33 (.c (.int .u64 32))),
  m 13 34])
 (.seq (.region false [m 35 12,
  m 36 6,
  m 37 9,
  p 38 (.bin .mul 36 37),
  p 39 (.bin .add 35 38),
  m 12 39])
 (.seq (.region false [m 40 7,
  m 41 9,
  p 42 (.bin .mul 40 41),
  m 43 13,
  p 44 (.bin .add 42 43),
  m 45 12,
  p 46 (.bin .shr 45 (.c (.int .u64 32))),
  p 47 (.bin .add 44 46),
  m 4 47])
 (.seq (.region false [m 48 0,
  m 49 1,
  p 50 (.bin .mul 48 49),
  m 5 50])
 (.ret))))))))))))
theorem c_math_bits_Mul64 : FF n_math_bits_Mul64 = some ⟨51, y_math_bits_Mul64.er, [.tmp 4, .tmp 5]⟩ := by kernel_rfl
def p_math_bits_Mul64 (a0 a1 : Value) (h : Hp) (R : Value → Hp → Prop) : Prop :=
  bindO (binV .and a0 (.int .u64 4294967295)) fun v15 => bindO (binV .shr a0 (.int .u64 32)) fun v17 => bindO (binV .and a1 (.int .u64 4294967295)) fun v19 => bindO (binV .shr a1 (.int .u64 32)) fun v21 => bindO (binV .mul v15 v19) fun v24 => bindO (binV .mul v17 v19) fun v27 => bindO (binV .shr v24 (.int .u64 32)) fun v29 => bindO (binV .add v27 v29) fun v30 => bindO (binV .and v30 (.int .u64 4294967295)) fun v32 => bindO (binV .shr v30 (.int .u64 32)) fun v34 => bindO (binV .mul v15 v21) fun v38 => bindO (binV .add v32 v38) fun v39 => bindO (binV .mul v17 v21) fun v42 => bindO (binV .add v42 v34) fun v44 => bindO (binV .shr v39 (.int .u64 32)) fun v46 => bindO (binV .add v44 v46) fun v47 => bindO (binV .mul a0 a1) fun v50 => R (.tuple #[v47, v50]) h
theorem w_math_bits_Mul64 {a0 a1 : Value} {h : Hp} {R : Value → Hp → Prop} (H : p_math_bits_Mul64 a0 a1 h R) : CallW FF n_math_bits_Mul64 [a0, a1] h R := callV_fin c_math_bits_Mul64 (Eq.mp (by kernel_rfl) H)
def y_impl_IsSeries_c1 : YC :=
  .seq (.region false [mc 3 (.c (.bool false))])
 (.seq (.region false [m 4 0,
  p 5 (.fieldAddr 0 1),
  o 6 (.load 1 false 5),
  o 7 (cl n_impl_isNumber [4, 6]),
  m 3 7])
 (.ret))
theorem c_impl_IsSeries_c1 : FF n_impl_IsSeries_c1 = some ⟨8, y_impl_IsSeries_c1.er, [.tmp 3]⟩ := by kernel_rfl
def p_impl_IsSeries_c1 (a0 a1 : Value) (h : Hp) (R : Value → Hp → Prop) : Prop :=
  bindO (fieldAddrV 0 a1) fun v5 => bindO (ldV 1 false h v5) fun v6 => CallW FF n_impl_isNumber [a0, v6] h fun v7 h1 => R v7 h1
theorem w_impl_IsSeries_c1 {a0 a1 : Value} {h : Hp} {R : Value → Hp → Prop} (H : p_impl_IsSeries_c1 a0 a1 h R) : CallW FF n_impl_IsSeries_c1 [a0, a1] h R := callV_fin c_impl_IsSeries_c1 (Eq.mp (by kernel_rfl) H)
def y_spec_l04With : YC :=
  .seq (.region false [o 6 (.box y_t_impl_Plane 2 (.c (.agg #[.int .i64 0, .slice none 0 0])))])
 (.seq (.region false [m 8 0,
  m 9 1,
  m 10 2,
  o 11 (cl n_spec_l08Any [8, 9, 10]),
  m 7 11])
 (.seq (.seq (.region false [m 12 0,
  o 13 (cl n_spec_l01Next [12, (k 3)]),
  p 14 (.bin .gtr 13 (k 0))])
 (.cond 14
 (.region false [m 15 1,
  m 16 7,
  m 17 0,
  m 18 1,
  m 19 2,
  o 20 (cl n_spec_l04DrawCurve [17, 18, 19]),
  o 21 (cl n_spec_l06Conjugate [15, 16, 20]),
  m 7 21])
 (.skip)))
 (.seq (.region false [m 22 1,
  m 23 7,
  o 24 (cl n_spec_l03Make [22, 23]),
  e (.store 2 6 24)])
 (.ret))))
theorem c_spec_l04With : FF n_spec_l04With = some ⟨25, y_spec_l04With.er, [.cell 6 2 true]⟩ := by kernel_rfl
def p_spec_l04With (a0 a1 a2 : Value) (h : Hp) (R : Value → Hp → Prop) : Prop :=
  bindO (boxV 2 (.agg #[.int .i64 0, .slice none 0 0])) fun c6 => newB h ⟨c6, y_t_impl_Plane, true⟩ fun b6 h1 => CallW FF n_spec_l08Any [a0, a1, a2] h1 fun v11 h2 => CallW FF n_spec_l01Next [a0, (.int .i64 3)] h2 fun v13 h3 => bindO (binV .gtr v13 (.int .i64 0)) fun v14 => condM v14 (CallW FF n_spec_l04DrawCurve [a0, a1, a2] h3 fun v20 h4 => CallW FF n_spec_l06Conjugate [a1, v11, v20] h4 fun v21 h5 => CallW FF n_spec_l03Make [a1, v21] h5 fun v24 h6 => bindO (storeV 2 h6 v24 (.pointer (some ⟨b6, 0, none⟩))) fun h7 => bindO (ldV 2 true h7 (.pointer (some ⟨b6, 0, none⟩))) fun r6 => R r6 h7) (CallW FF n_spec_l03Make [a1, v11] h3 fun v24 h4 => bindO (storeV 2 h4 v24 (.pointer (some ⟨b6, 0, none⟩))) fun h5 => bindO (ldV 2 true h5 (.pointer (some ⟨b6, 0, none⟩))) fun r6 => R r6 h5)
theorem w_spec_l04With {a0 a1 a2 : Value} {h : Hp} {R : Value → Hp → Prop} (H : p_spec_l04With a0 a1 a2 h R) : CallW FF n_spec_l04With [a0, a1, a2] h R := callV_fin c_spec_l04With (Eq.mp (by kernel_rfl) H)
def y_spec_l04DrawModulus : YC :=
  .seq (.region false [mc 2 (k 0)])
 (.seq (.region false [m 3 0,
  m 4 0,
  o 5 (cl n_spec_l01Next [4, (k 60)]),
  p 6 (.bin .add (k 2) 5),
  o 7 (.mkrow y_t_int64 1 12 [.int .i64 0] [(0, (k 2)), (1, (k 3)), (2, (k 5)), (3, (k 7)), (4, (k 4)), (5, (k 9)), (6, (k 8)), (7, (k 6)), (8, (k 11)), (9, (k 101)), (10, (k 9973)), (11, 6)]),
  o 8 (cl n_spec_l01Pick [3, 7]),
  m 2 8])
 (.ret))
theorem c_spec_l04DrawModulus : FF n_spec_l04DrawModulus = some ⟨9, y_spec_l04DrawModulus.er, [.tmp 2]⟩ := by kernel_rfl
def p_spec_l04DrawModulus (a0 : Value) (h : Hp) (R : Value → Hp → Prop) : Prop :=
  CallW FF n_spec_l01Next [a0, (.int .i64 60)] h fun v5 h1 => bindO (binV .add (.int .i64 2) v5) fun v6 => bindO (rowV 1 12 [.int .i64 0] [(0, (.int .i64 2)), (1, (.int .i64 3)), (2, (.int .i64 5)), (3, (.int .i64 7)), (4, (.int .i64 4)), (5, (.int .i64 9)), (6, (.int .i64 8)), (7, (.int .i64 6)), (8, (.int .i64 11)), (9, (.int .i64 101)), (10, (.int .i64 9973)), (11, v6)]) fun c7 => newB h1 ⟨c7, y_t_int64, true⟩ fun b7 h2 => CallW FF n_spec_l01Pick [a0, (.slice (some ⟨b7, 0, none⟩) 12 1)] h2 fun v8 h3 => R v8 h3
theorem w_spec_l04DrawModulus {a0 : Value} {h : Hp} {R : Value → Hp → Prop} (H : p_spec_l04DrawModulus a0 h R) : CallW FF n_spec_l04DrawModulus [a0] h R := callV_fin c_spec_l04DrawModulus (Eq.mp (by kernel_rfl) H)
def y_impl_IsPlane_c1 : YC :=
  .seq (.region false [mc 3 (.c (.bool false))])
 (.seq (.region false [m 4 0,
  p 5 (.fieldAddr 0 1),
  o 6 (.load 1 false 5),
  o 7 (cl n_impl_isNumber [4, 6]),
  m 3 7])
 (.ret))
theorem c_impl_IsPlane_c1 : FF n_impl_IsPlane_c1 = some ⟨8, y_impl_IsPlane_c1.er, [.tmp 3]⟩ := by kernel_rfl
def p_impl_IsPlane_c1 (a0 a1 : Value) (h : Hp) (R : Value → Hp → Prop) : Prop :=
  bindO (fieldAddrV 0 a1) fun v5 => bindO (ldV 1 false h v5) fun v6 => CallW FF n_impl_isNumber [a0, v6] h fun v7 h1 => R v7 h1
theorem w_impl_IsPlane_c1 {a0 a1 : Value} {h : Hp} {R : Value → Hp → Prop} (H : p_impl_IsPlane_c1 a0 a1 h R) : CallW FF n_impl_IsPlane_c1 [a0, a1] h R := callV_fin c_impl_IsPlane_c1 (Eq.mp (by kernel_rfl) H)
def y_impl_defectsOf : YC :=
  .seq (.region false [o 1 (.box y_t_impl_Plane 2 0),
  mc 2 (.c (.nilFunc))])
 (.seq (.region true [o 5 (.load 2 true 1),
  ⟨some 6, cl n_impl_Plane_powers [5], none, true⟩,
  ⟨some 7, .load 2 true 1, none, true⟩,
  o 8 (cl n_impl_Plane_degree [7]),
  o 3 (.box y_t_Limpl_Plane 1 (.c (.slice none 0 0))),
  o 4 (.box y_t_int 1 (k 0)),
  e (.store 1 3 6),
  e (.store 1 4 8)])
 (.seq (.region false [p 9 (.mkfunc n_impl_defectsOf_c1 [] [4, 1, 3]),
  m 2 9])
 (.ret)))
theorem c_impl_defectsOf : FF n_impl_defectsOf = some ⟨10, y_impl_defectsOf.er, [.tmp 2]⟩ := by kernel_rfl
def p_impl_defectsOf (a0 : Value) (h : Hp) (R : Value → Hp → Prop) : Prop :=
  bindO (boxV 2 a0) fun c1 => newB h ⟨c1, y_t_impl_Plane, true⟩ fun b1 h1 => bindO (ldV 2 true h1 (.pointer (some ⟨b1, 0, none⟩))) fun v5 => CallW FF n_impl_Plane_powers [v5] h1 fun v6 h2 => keepB h1.nx h1 h2 ∧ (inB h1.nx (.pointer (some ⟨b1, 0, none⟩)) ∧ (bindO (ldV 2 true h2 (.pointer (some ⟨b1, 0, none⟩))) fun v7 => CallW FF n_impl_Plane_degree [v7] h2 fun v8 h3 => bindO (boxV 1 (.slice none 0 0)) fun c3 => newB h3 ⟨c3, y_t_Limpl_Plane, true⟩ fun b3 h4 => bindO (boxV 1 (.int .i64 0)) fun c4 => newB h4 ⟨c4, y_t_int, true⟩ fun b4 h5 => bindO (storeV 1 h5 v6 (.pointer (some ⟨b3, 0, none⟩))) fun h6 => bindO (storeV 1 h6 v8 (.pointer (some ⟨b4, 0, none⟩))) fun h7 => R (.func (.func n_impl_defectsOf_c1) #[] #[(.pointer (some ⟨b4, 0, none⟩)), (.pointer (some ⟨b1, 0, none⟩)), (.pointer (some ⟨b3, 0, none⟩))]) h7))
theorem w_impl_defectsOf {a0 : Value} {h : Hp} {R : Value → Hp → Prop} (H : p_impl_defectsOf a0 h R) : CallW FF n_impl_defectsOf [a0] h R := callV_fin c_impl_defectsOf (Eq.mp (by kernel_rfl) H)
def l_slices_IndexFunc_Lint64_int64_0 : YC :=
  .seq (.region false [p 9 (.bin .lss 8 7)])
 (.seq (.cond 9
 (.skip)
 (.exit 0))
 (.seq (.block 1
 (.seq (.region false [m 10 8,
  m 5 10])
 (.seq (.region false [m 11 1,
  m 12 0,
  m 13 5,
  p 14 (.indexAddr 1 12 13),
  o 15 (.load 1 false 14),
  o 16 (.call 11 [15])])
 (.cond 16
 (.seq (.region false [m 17 5,
  m 4 17])
 (.ret))
 (.skip)))))
 (.region false [p 18 (.bin .add 8 (k 1)),
  m 8 18])))
def q_slices_IndexFunc_Lint64_int64_0 (a0 a1 a7 a8 : Value) (h : Hp) (K K0 K1 : Kont) : Prop :=
  bindO (binV .lss a8 a7) fun v9 => condM v9 (bindO (indexAddrV 1 a0 a8) fun v14 => bindO (ldV 1 false h v14) fun v15 => CallV FF a1 [v15] h fun v16 h1 => condM v16 (K1 [a8] h1) (bindO (binV .add a8 (.int .i64 1)) fun v18 => K [a0, a1, a7, v18] h1)) (K0 [] h)
theorem wl_slices_IndexFunc_Lint64_int64_0 {a0 a1 a7 a8 : Value} {h : Hp} {K K0 K1 : Kont} (H : q_slices_IndexFunc_Lint64_int64_0 a0 a1 a7 a8 h K K0 K1) : ∀ e : Env, [e 0, e 1, e 7, e 8] = [a0, a1, a7, a8] → V FF l_slices_IndexFunc_Lint64_int64_0 (qsel [0, 1, 7, 8] K [(.exit 0, [], K0), (.ret, [4], K1)]) ⟨e, h⟩ := by
  intro e he; cases he; exact Eq.mp (by kernel_rfl) H
def y_slices_IndexFunc_Lint64_int64 : YC :=
  .seq (.region false [mc 4 (k 0)])
 (.seq (.seq (.region false [m 6 0,
  p 7 (.len  6),
  mc 8 (k 0)])
 (.block 0
 (.loop [0, 1, 7, 8] [(.exit 0, []), (.ret, [4])] l_slices_IndexFunc_Lint64_int64_0)))
 (.seq (.region false [mc 4 (k (-1))])
 (.ret)))
theorem c_slices_IndexFunc_Lint64_int64 : FF n_slices_IndexFunc_Lint64_int64 = some ⟨19, y_slices_IndexFunc_Lint64_int64.er, [.tmp 4]⟩ := by kernel_rfl
def p_slices_IndexFunc_Lint64_int64 (a0 a1 : Value) (h : Hp) (R : Value → Hp → Prop) : Prop :=
  bindO (lenV  a0) fun v7 => LP FF (YC.er l_slices_IndexFunc_Lint64_int64_0) [0, 1, 7, 8] [(.exit 0, [], fun vs h1 => ∀ e : Env, [] = vs → R (.int .i64 (-1)) h1), (.ret, [4], fun vs h1 => ∀ e : Env, [e 4] = vs → R (e 4) h1)] [a0, a1, v7, (.int .i64 0)] h
theorem w_slices_IndexFunc_Lint64_int64 {a0 a1 : Value} {h : Hp} {R : Value → Hp → Prop} (H : p_slices_IndexFunc_Lint64_int64 a0 a1 h R) : CallW FF n_slices_IndexFunc_Lint64_int64 [a0, a1] h R := callV_fin c_slices_IndexFunc_Lint64_int64 (Eq.mp (by kernel_rfl) H)
def y_spec_l01Modulus : YC :=
  .seq (.region false [mc 2 (.c (.bool false))])
 (.seq (.region false [m 3 0,
  o 4 (cl n_spec_l01In [3, (k 2), (k 10000)]),
  m 2 4])
 (.ret))
theorem c_spec_l01Modulus : FF n_spec_l01Modulus = some ⟨5, y_spec_l01Modulus.er, [.tmp 2]⟩ := by kernel_rfl
def p_spec_l01Modulus (a0 : Value) (h : Hp) (R : Value → Hp → Prop) : Prop :=
  CallW FF n_spec_l01In [a0, (.int .i64 2), (.int .i64 10000)] h fun v4 h1 => R v4 h1
theorem w_spec_l01Modulus {a0 : Value} {h : Hp} {R : Value → Hp → Prop} (H : p_spec_l01Modulus a0 h R) : CallW FF n_spec_l01Modulus [a0] h R := callV_fin c_spec_l01Modulus (Eq.mp (by kernel_rfl) H)
def l_spec_l03After_0 : YC :=
  .seq (.seq (.region false [m 17 8,
  p 18 (.bin .geq 17 (k 0))])
 (.cond 18
 (.skip)
 (.exit 0)))
 (.seq (.block 1
 (.seq (.region false [m 21 0,
  m 22 7,
  m 23 2,
  o 24 (cl n_spec_l03Times [21, 22, 23]),
  m 7 24])
 (.seq (.region false [m 25 7,
  p 26 (.indexAddr 1 25 (k 0)),
  o 27 (.load 1 false 26),
  m 9 27])
 (.region false [m 28 9,
  m 29 9,
  p 30 (.indexAddr 1 29 (k 0)),
  o 31 (.load 1 false 30),
  m 32 1,
  m 33 8,
  p 34 (.indexAddr 1 32 33),
  o 35 (.load 1 false 34),
  p 36 (.bin .add 31 35),
  m 37 0,
  p 38 (.bin .rem 36 37),
  p 39 (.indexAddr 1 28 (k 0)),
  e (.store 1 39 38)]))))
 (.region false [m 19 8,
  p 20 (.bin .sub 19 (k 1)),
  m 8 20]))
def q_spec_l03After_0 (a0 a1 a2 a7 a8 : Value) (h : Hp) (K K0 : Kont) : Prop :=
  bindO (binV .geq a8 (.int .i64 0)) fun v18 => condM v18 (CallW FF n_spec_l03Times [a0, a7, a2] h fun v24 h1 => bindO (indexAddrV 1 v24 (.int .i64 0)) fun v26 => bindO (ldV 1 false h1 v26) fun v27 => bindO (indexAddrV 1 v27 (.int .i64 0)) fun v30 => bindO (ldV 1 false h1 v30) fun v31 => bindO (indexAddrV 1 a1 a8) fun v34 => bindO (ldV 1 false h1 v34) fun v35 => bindO (binV .add v31 v35) fun v36 => bindO (binV .rem v36 a0) fun v38 => bindO (indexAddrV 1 v27 (.int .i64 0)) fun v39 => bindO (storeV 1 h1 v38 v39) fun h2 => bindO (binV .sub a8 (.int .i64 1)) fun v20 => K [a0, a1, a2, v24, v20] h2) (K0 [a7] h)
theorem wl_spec_l03After_0 {a0 a1 a2 a7 a8 : Value} {h : Hp} {K K0 : Kont} (H : q_spec_l03After_0 a0 a1 a2 a7 a8 h K K0) : ∀ e : Env, [e 0, e 1, e 2, e 7, e 8] = [a0, a1, a2, a7, a8] → V FF l_spec_l03After_0 (qsel [0, 1, 2, 7, 8] K [(.exit 0, [7], K0)]) ⟨e, h⟩ := by
  intro e he; cases he; exact Eq.mp (by kernel_rfl) H
def y_spec_l03After : YC :=
  .seq (.region false [mc 6 (.c (.slice none 0 0))])
 (.seq (.region false [m 10 2,
  p 11 (.len  10),
  p 12 (.bin .sub 11 (k 1)),
  o 13 (cl n_spec_l03Zero [12]),
  m 7 13])
 (.seq (.seq (.region false [m 14 1,
  p 15 (.len  14),
  p 16 (.bin .sub 15 (k 1)),
  m 8 16])
 (.block 0
 (.loop [0, 1, 2, 7, 8] [(.exit 0, [7])] l_spec_l03After_0)))
 (.seq (.region false [m 40 7,
  m 6 40])
 (.ret))))
theorem c_spec_l03After : FF n_spec_l03After = some ⟨41, y_spec_l03After.er, [.tmp 6]⟩ := by kernel_rfl
def p_spec_l03After (a0 a1 a2 : Value) (h : Hp) (R : Value → Hp → Prop) : Prop :=
  bindO (lenV  a2) fun v11 => bindO (binV .sub v11 (.int .i64 1)) fun v12 => CallW FF n_spec_l03Zero [v12] h fun v13 h1 => bindO (lenV  a1) fun v15 => bindO (binV .sub v15 (.int .i64 1)) fun v16 => LP FF (YC.er l_spec_l03After_0) [0, 1, 2, 7, 8] [(.exit 0, [7], fun vs h2 => ∀ e : Env, [e 7] = vs → R (e 7) h2)] [a0, a1, a2, v13, v16] h1
theorem w_spec_l03After {a0 a1 a2 : Value} {h : Hp} {R : Value → Hp → Prop} (H : p_spec_l03After a0 a1 a2 h R) : CallW FF n_spec_l03After [a0, a1, a2] h R := callV_fin c_spec_l03After (Eq.mp (by kernel_rfl) H)
def l_spec_l04Column_0 : YC :=
  .seq (.seq (.region false [m 8 6,
  m 9 1,
  p 10 (.bin .add 8 9),
  m 11 0,
  p 12 (.len  11),
  p 13 (.bin .lss 10 12)])
 (.cond 13
 (.skip)
 (.exit 0)))
 (.seq (.block 1
 (.region false [m 16 5,
  m 17 0,
  m 18 6,
  p 19 (.indexAddr 1 17 18),
  o 20 (.load 1 false 19),
  m 21 1,
  p 22 (.indexAddr 1 20 21),
  o 23 (.load 1 false 22),
  o 24 (.mkrow y_t_int64 1 1 [.int .i64 0] [(0, 23)]),
  o 25 (.append y_t_int64 1 8 16 24),
  m 5 25]))
 (.region false [m 14 6,
  p 15 (.bin .add 14 (k 1)),
  m 6 15]))
def q_spec_l04Column_0 (a0 a1 a5 a6 : Value) (h : Hp) (K K0 : Kont) : Prop :=
  bindO (binV .add a6 a1) fun v10 => bindO (lenV  a0) fun v12 => bindO (binV .lss v10 v12) fun v13 => condM v13 (bindO (indexAddrV 1 a0 a6) fun v19 => bindO (ldV 1 false h v19) fun v20 => bindO (indexAddrV 1 v20 a1) fun v22 => bindO (ldV 1 false h v22) fun v23 => bindO (rowV 1 1 [.int .i64 0] [(0, v23)]) fun c24 => newB h ⟨c24, y_t_int64, true⟩ fun b24 h1 => bindVH (appendV y_t_int64 1 h1 a5 (.slice (some ⟨b24, 0, none⟩) 1 1)) fun v25 h2 => bindO (binV .add a6 (.int .i64 1)) fun v15 => K [a0, a1, v25, v15] h2) (K0 [a5] h)
theorem wl_spec_l04Column_0 {a0 a1 a5 a6 : Value} {h : Hp} {K K0 : Kont} (H : q_spec_l04Column_0 a0 a1 a5 a6 h K K0) : ∀ e : Env, [e 0, e 1, e 5, e 6] = [a0, a1, a5, a6] → V FF l_spec_l04Column_0 (qsel [0, 1, 5, 6] K [(.exit 0, [5], K0)]) ⟨e, h⟩ := by
  intro e he; cases he; exact Eq.mp (by kernel_rfl) H
def y_spec_l04Column : YC :=
  .seq (.region false [mc 4 (.c (.slice none 0 0))])
 (.seq (.region false [o 7 (.mkrow y_t_int64 1 0 [.int .i64 0] []),
  m 5 7])
 (.seq (.seq (.region false [mc 6 (k 0)])
 (.block 0
 (.loop [0, 1, 5, 6] [(.exit 0, [5])] l_spec_l04Column_0)))
 (.seq (.region false [m 26 5,
  m 4 26])
 (.ret))))
theorem c_spec_l04Column : FF n_spec_l04Column = some ⟨27, y_spec_l04Column.er, [.tmp 4]⟩ := by kernel_rfl
def p_spec_l04Column (a0 a1 : Value) (h : Hp) (R : Value → Hp → Prop) : Prop :=
  bindO (rowV 1 0 [.int .i64 0] []) fun c7 => newB h ⟨c7, y_t_int64, true⟩ fun b7 h1 => LP FF (YC.er l_spec_l04Column_0) [0, 1, 5, 6] [(.exit 0, [5], fun vs h2 => ∀ e : Env, [e 5] = vs → R (e 5) h2)] [a0, a1, (.slice (some ⟨b7, 0, none⟩) 0 1), (.int .i64 0)] h1
theorem w_spec_l04Column {a0 a1 : Value} {h : Hp} {R : Value → Hp → Prop} (H : p_spec_l04Column a0 a1 h R) : CallW FF n_spec_l04Column [a0, a1] h R := callV_fin c_spec_l04Column (Eq.mp (by kernel_rfl) H)
def l_spec_l02Compose_0 : YC :=
  .seq (.seq (.region false [m 19 10,
  p 20 (.bin .geq 19 (k 0))])
 (.cond 20
 (.skip)
 (.exit 0)))
 (.seq (.block 1
 (.seq (.region false [m 23 0,
  m 24 9,
  m 25 2,
  m 26 3,
  o 27 (cl n_spec_l02Times [23, 24, 25, 26]),
  m 9 27])
 (.region false [m 28 9,
  m 29 9,
  p 30 (.indexAddr 1 29 (k 0)),
  o 31 (.load 1 false 30),
  m 32 1,
  m 33 10,
  p 34 (.indexAddr 1 32 33),
  o 35 (.load 1 false 34),
  p 36 (.bin .add 31 35),
  m 37 0,
  p 38 (.bin .rem 36 37),
  p 39 (.indexAddr 1 28 (k 0)),
  e (.store 1 39 38)])))
 (.region false [m 21 10,
  p 22 (.bin .sub 21 (k 1)),
  m 10 22]))
def q_spec_l02Compose_0 (a0 a1 a2 a3 a9 a10 : Value) (h : Hp) (K K0 : Kont) : Prop :=
  bindO (binV .geq a10 (.int .i64 0)) fun v20 => condM v20 (CallW FF n_spec_l02Times [a0, a9, a2, a3] h fun v27 h1 => bindO (indexAddrV 1 v27 (.int .i64 0)) fun v30 => bindO (ldV 1 false h1 v30) fun v31 => bindO (indexAddrV 1 a1 a10) fun v34 => bindO (ldV 1 false h1 v34) fun v35 => bindO (binV .add v31 v35) fun v36 => bindO (binV .rem v36 a0) fun v38 => bindO (indexAddrV 1 v27 (.int .i64 0)) fun v39 => bindO (storeV 1 h1 v38 v39) fun h2 => bindO (binV .sub a10 (.int .i64 1)) fun v22 => K [a0, a1, a2, a3, v27, v22] h2) (K0 [a9] h)
theorem wl_spec_l02Compose_0 {a0 a1 a2 a3 a9 a10 : Value} {h : Hp} {K K0 : Kont} (H : q_spec_l02Compose_0 a0 a1 a2 a3 a9 a10 h K K0) : ∀ e : Env, [e 0, e 1, e 2, e 3, e 9, e 10] = [a0, a1, a2, a3, a9, a10] → V FF l_spec_l02Compose_0 (qsel [0, 1, 2, 3, 9, 10] K [(.exit 0, [9], K0)]) ⟨e, h⟩ := by
  intro e he; cases he; exact Eq.mp (by kernel_rfl) H
def y_spec_l02Compose : YC :=
  .seq (.region false [mc 8 (.c (.slice none 0 0))])
 (.seq (.region false [m 11 3,
  p 12 (.bin .add 11 (k 1)),
  o 13 (.make y_t_int64 1 8 [.int .i64 0] 12),
  m 9 13])
 (.seq (.seq (.region false [m 14 1,
  p 15 (.len  14),
  p 16 (.bin .sub 15 (k 1)),
  m 17 3,
  p 18 (.mn  16 17),
  m 10 18])
 (.block 0
 (.loop [0, 1, 2, 3, 9, 10] [(.exit 0, [9])] l_spec_l02Compose_0)))
 (.seq (.region false [m 40 9,
  m 8 40])
 (.ret))))
theorem c_spec_l02Compose : FF n_spec_l02Compose = some ⟨41, y_spec_l02Compose.er, [.tmp 8]⟩ := by kernel_rfl
def p_spec_l02Compose (a0 a1 a2 a3 : Value) (h : Hp) (R : Value → Hp → Prop) : Prop :=
  bindO (binV .add a3 (.int .i64 1)) fun v12 => bindO (makN v12) fun c13 => newB h ⟨reps c13 [.int .i64 0], y_t_int64, true⟩ fun b13 h1 => bindO (lenV  a1) fun v15 => bindO (binV .sub v15 (.int .i64 1)) fun v16 => bindO (mnV  v16 a3) fun v18 => LP FF (YC.er l_spec_l02Compose_0) [0, 1, 2, 3, 9, 10] [(.exit 0, [9], fun vs h2 => ∀ e : Env, [e 9] = vs → R (e 9) h2)] [a0, a1, a2, a3, (.slice (some ⟨b13, 0, none⟩) c13 1), v18] h1
theorem w_spec_l02Compose {a0 a1 a2 a3 : Value} {h : Hp} {R : Value → Hp → Prop} (H : p_spec_l02Compose a0 a1 a2 a3 h R) : CallW FF n_spec_l02Compose [a0, a1, a2, a3] h R := callV_fin c_spec_l02Compose (Eq.mp (by kernel_rfl) H)
def l_spec_l04Inverse_0 : YC :=
  .seq (.seq (.region false [m 20 6,
  m 21 3,
  p 22 (.bin .leq 20 21)])
 (.cond 22
 (.skip)
 (.exit 0)))
 (.seq (.block 1
 (.seq (.region false [p 25 (.fieldAddr 0 1),
  o 26 (.load 1 false 25),
  p 27 (.fieldAddr 1 1),
  o 28 (.load 1 false 27),
  m 29 5,
  m 30 4,
  o 31 (cl n_spec_l03Put [26, 28, 29, 30]),
  m 7 31])
 (.region false [m 32 4,
  m 33 6,
  p 34 (.fieldAddr 0 1),
  o 35 (.load 1 false 34),
  m 36 7,
  m 37 6,
  p 38 (.indexAddr 1 36 37),
  o 39 (.load 1 false 38),
  p 40 (.bin .sub 35 39),
  p 41 (.fieldAddr 0 1),
  o 42 (.load 1 false 41),
  p 43 (.bin .rem 40 42),
  p 44 (.indexAddr 1 32 33),
  e (.store 1 44 43)])))
 (.region false [m 23 6,
  p 24 (.bin .add 23 (k 1)),
  m 6 24]))
def q_spec_l04Inverse_0 (a1 a3 a4 a5 a6 : Value) (h : Hp) (K K0 : Kont) : Prop :=
  bindO (binV .leq a6 a3) fun v22 => condM v22 (bindO (fieldAddrV 0 a1) fun v25 => bindO (ldV 1 false h v25) fun v26 => bindO (fieldAddrV 1 a1) fun v27 => bindO (ldV 1 false h v27) fun v28 => CallW FF n_spec_l03Put [v26, v28, a5, a4] h fun v31 h1 => bindO (fieldAddrV 0 a1) fun v34 => bindO (ldV 1 false h1 v34) fun v35 => bindO (indexAddrV 1 v31 a6) fun v38 => bindO (ldV 1 false h1 v38) fun v39 => bindO (binV .sub v35 v39) fun v40 => bindO (fieldAddrV 0 a1) fun v41 => bindO (ldV 1 false h1 v41) fun v42 => bindO (binV .rem v40 v42) fun v43 => bindO (indexAddrV 1 a4 a6) fun v44 => bindO (storeV 1 h1 v43 v44) fun h2 => bindO (binV .add a6 (.int .i64 1)) fun v24 => K [a1, a3, a4, a5, v24] h2) (K0 [a4] h)
theorem wl_spec_l04Inverse_0 {a1 a3 a4 a5 a6 : Value} {h : Hp} {K K0 : Kont} (H : q_spec_l04Inverse_0 a1 a3 a4 a5 a6 h K K0) : ∀ e : Env, [e 1, e 3, e 4, e 5, e 6] = [a1, a3, a4, a5, a6] → V FF l_spec_l04Inverse_0 (qsel [1, 3, 4, 5, 6] K [(.exit 0, [4], K0)]) ⟨e, h⟩ := by
  intro e he; cases he; exact Eq.mp (by kernel_rfl) H
def y_spec_l04Inverse : YC :=
  .seq (.region false [o 1 (.box y_t_impl_Plane 2 0),
  mc 2 (.c (.slice none 0 0))])
 (.seq (.region false [p 8 (.fieldAddr 1 1),
  o 9 (.load 1 false 8),
  p 10 (.len  9),
  p 11 (.bin .sub 10 (k 1)),
  m 3 11])
 (.seq (.region false [m 12 3,
  p 13 (.bin .add 12 (k 1)),
  o 14 (.make y_t_int64 1 8 [.int .i64 0] 13),
  m 15 3,
  p 16 (.bin .add 15 (k 1)),
  o 17 (.make y_t_int64 1 8 [.int .i64 0] 16),
  m 4 14,
  m 5 17])
 (.seq (.region false [m 18 5,
  p 19 (.indexAddr 1 18 (k 1)),
  e (.store 1 19 (k 1))])
 (.seq (.seq (.region false [mc 6 (k 1)])
 (.block 0
 (.loop [1, 3, 4, 5, 6] [(.exit 0, [4])] l_spec_l04Inverse_0)))
 (.seq (.region false [m 45 4,
  m 2 45])
 (.ret))))))
theorem c_spec_l04Inverse : FF n_spec_l04Inverse = some ⟨46, y_spec_l04Inverse.er, [.tmp 2]⟩ := by kernel_rfl
def p_spec_l04Inverse (a0 : Value) (h : Hp) (R : Value → Hp → Prop) : Prop :=
  bindO (boxV 2 a0) fun c1 => newB h ⟨c1, y_t_impl_Plane, true⟩ fun b1 h1 => bindO (fieldAddrV 1 (.pointer (some ⟨b1, 0, none⟩))) fun v8 => bindO (ldV 1 false h1 v8) fun v9 => bindO (lenV  v9) fun v10 => bindO (binV .sub v10 (.int .i64 1)) fun v11 => bindO (binV .add v11 (.int .i64 1)) fun v13 => bindO (makN v13) fun c14 => newB h1 ⟨reps c14 [.int .i64 0], y_t_int64, true⟩ fun b14 h2 => bindO (binV .add v11 (.int .i64 1)) fun v16 => bindO (makN v16) fun c17 => newB h2 ⟨reps c17 [.int .i64 0], y_t_int64, true⟩ fun b17 h3 => bindO (indexAddrV 1 (.slice (some ⟨b17, 0, none⟩) c17 1) (.int .i64 1)) fun v19 => bindO (storeV 1 h3 (.int .i64 1) v19) fun h4 => LP FF (YC.er l_spec_l04Inverse_0) [1, 3, 4, 5, 6] [(.exit 0, [4], fun vs h5 => ∀ e : Env, [e 4] = vs → R (e 4) h5)] [(.pointer (some ⟨b1, 0, none⟩)), v11, (.slice (some ⟨b14, 0, none⟩) c14 1), (.slice (some ⟨b17, 0, none⟩) c17 1), (.int .i64 1)] h4
theorem w_spec_l04Inverse {a0 : Value} {h : Hp} {R : Value → Hp → Prop} (H : p_spec_l04Inverse a0 h R) : CallW FF n_spec_l04Inverse [a0] h R := callV_fin c_spec_l04Inverse (Eq.mp (by kernel_rfl) H)
def y_math_bits_LeadingZeros64 : YC :=
  .seq (.region false [mc 2 (k 0)])
 (.seq (.region false [m 3 0,
  o 4 (cl n_math_bits_Len64 [3]),
  p 5 (.bin .sub (k 64) 4),
  m 2 5])
 (.ret))
theorem c_math_bits_LeadingZeros64 : FF n_math_bits_LeadingZeros64 = some ⟨6, y_math_bits_LeadingZeros64.er, [.tmp 2]⟩ := by kernel_rfl
def p_math_bits_LeadingZeros64 (a0 : Value) (h : Hp) (R : Value → Hp → Prop) : Prop :=
  CallW FF n_math_bits_Len64 [a0] h fun v4 h1 => bindO (binV .sub (.int .i64 64) v4) fun v5 => R v5 h1
theorem w_math_bits_LeadingZeros64 {a0 : Value} {h : Hp} {R : Value → Hp → Prop} (H : p_math_bits_LeadingZeros64 a0 h R) : CallW FF n_math_bits_LeadingZeros64 [a0] h R := callV_fin c_math_bits_LeadingZeros64 (Eq.mp (by kernel_rfl) H)
def y_spec_l08Any : YC :=
  .seq (.region false [mc 6 (.c (.slice none 0 0))])
 (.seq (.seq (.region false [m 7 0,
  o 8 (cl n_spec_l01Next [7, (k 6)])])
 (.block 0
 (.seq (.region false [p 10 (.bin .eql 8 (k 0)),
  m 9 10])
 (.cond 9
 (.seq (.region false [m 11 1,
  m 12 2,
  o 13 (cl n_spec_l08Multiplicative [11, 12, (k 0)]),
  m 6 13])
 (.ret))
 (.join [0, 1, 2, 8, 14] (.seq (.region false [p 15 (.bin .eql 8 (k 1)),
  m 14 15])
 (.cond 14
 (.skip)
 (.region false [p 16 (.bin .eql 8 (k 2)),
  m 14 16])))
 (.cond 14
 (.seq (.region false [m 17 1,
  m 18 2,
  m 19 0,
  m 20 1,
  o 21 (cl n_spec_l01Next [19, 20]),
  o 22 (cl n_spec_l08Multiplicative [17, 18, 21]),
  m 6 22])
 (.ret))
 (.seq (.region false [p 24 (.bin .eql 8 (k 3)),
  m 23 24])
 (.cond 23
 (.seq (.region false [m 25 1,
  m 26 2,
  m 27 0,
  m 28 1,
  o 29 (cl n_spec_l01Next [27, 28]),
  o 30 (cl n_spec_l08Tangent [25, 26, 29]),
  m 6 30])
 (.ret))
 (.seq (.region false [p 32 (.bin .eql 8 (k 4)),
  m 31 32])
 (.cond 31
 (.seq (.region false [m 33 1,
  p 34 (.bin .rem 33 (k 2)),
  p 35 (.bin .eql 34 (k 1))])
 (.cond 35
 (.seq (.region false [m 36 1,
  m 37 2,
  m 38 0,
  m 39 1,
  o 40 (cl n_spec_l01Next [38, 39]),
  m 41 0,
  m 42 1,
  o 43 (cl n_spec_l01Next [41, 42]),
  o 44 (cl n_spec_l08Euler [36, 37, 40, 43]),
  m 6 44])
 (.ret))
 (.skip)))
 (.skip)))))))))))
 (.seq (.region false [m 45 1,
  m 46 2,
  m 47 0,
  m 48 1,
  o 49 (cl n_spec_l08DrawList [47, 48]),
  o 50 (cl n_spec_l08Weierstrass [45, 46, 49]),
  m 6 50])
 (.ret)))
theorem c_spec_l08Any : FF n_spec_l08Any = some ⟨51, y_spec_l08Any.er, [.tmp 6]⟩ := by kernel_rfl
def p_spec_l08Any (a0 a1 a2 : Value) (h : Hp) (R : Value → Hp → Prop) : Prop :=
  CallW FF n_spec_l01Next [a0, (.int .i64 6)] h fun v8 h1 => bindO (binV .eql v8 (.int .i64 0)) fun v10 => condM v10 (CallW FF n_spec_l08Multiplicative [a1, a2, (.int .i64 0)] h1 fun v13 h2 => R v13 h2) (JN (fun J => bindO (binV .eql v8 (.int .i64 1)) fun v15 => condM v15 (J [a0, a1, a2, v8, v15] h1) (bindO (binV .eql v8 (.int .i64 2)) fun v16 => J [a0, a1, a2, v8, v16] h1)) fun vs h2 => ∀ e : Env, [e 0, e 1, e 2, e 8, e 14] = vs → condM (e 14) (CallW FF n_spec_l01Next [(e 0), (e 1)] h2 fun v21 h3 => CallW FF n_spec_l08Multiplicative [(e 1), (e 2), v21] h3 fun v22 h4 => R v22 h4) (bindO (binV .eql (e 8) (.int .i64 3)) fun v24 => condM v24 (CallW FF n_spec_l01Next [(e 0), (e 1)] h2 fun v29 h3 => CallW FF n_spec_l08Tangent [(e 1), (e 2), v29] h3 fun v30 h4 => R v30 h4) (bindO (binV .eql (e 8) (.int .i64 4)) fun v32 => condM v32 (bindO (binV .rem (e 1) (.int .i64 2)) fun v34 => bindO (binV .eql v34 (.int .i64 1)) fun v35 => condM v35 (CallW FF n_spec_l01Next [(e 0), (e 1)] h2 fun v40 h3 => CallW FF n_spec_l01Next [(e 0), (e 1)] h3 fun v43 h4 => CallW FF n_spec_l08Euler [(e 1), (e 2), v40, v43] h4 fun v44 h5 => R v44 h5) (CallW FF n_spec_l08DrawList [(e 0), (e 1)] h2 fun v49 h3 => CallW FF n_spec_l08Weierstrass [(e 1), (e 2), v49] h3 fun v50 h4 => R v50 h4)) (CallW FF n_spec_l08DrawList [(e 0), (e 1)] h2 fun v49 h3 => CallW FF n_spec_l08Weierstrass [(e 1), (e 2), v49] h3 fun v50 h4 => R v50 h4))))
theorem w_spec_l08Any {a0 a1 a2 : Value} {h : Hp} {R : Value → Hp → Prop} (H : p_spec_l08Any a0 a1 a2 h R) : CallW FF n_spec_l08Any [a0, a1, a2] h R := callV_fin c_spec_l08Any (Eq.mp (by kernel_rfl) H)
def y_spec_l06Conjugate : YC :=
  .seq (.region false [mc 6 (.c (.slice none 0 0))])
 (.seq (.region false [m 8 0,
  m 9 2,
  m 10 2,
  p 11 (.len  10),
  p 12 (.bin .sub 11 (k 1)),
  o 13 (cl n_spec_l02Reverse [8, 9, 12]),
  m 7 13])
 (.seq (.region false [m 14 0,
  m 15 2,
  m 16 0,
  m 17 1,
  m 18 7,
  o 19 (cl n_spec_l03Both2 [16, 17, 18]),
  o 20 (cl n_spec_l03After [14, 15, 19]),
  m 6 20])
 (.ret)))
theorem c_spec_l06Conjugate : FF n_spec_l06Conjugate = some ⟨21, y_spec_l06Conjugate.er, [.tmp 6]⟩ := by kernel_rfl
def p_spec_l06Conjugate (a0 a1 a2 : Value) (h : Hp) (R : Value → Hp → Prop) : Prop :=
  bindO (lenV  a2) fun v11 => bindO (binV .sub v11 (.int .i64 1)) fun v12 => CallW FF n_spec_l02Reverse [a0, a2, v12] h fun v13 h1 => CallW FF n_spec_l03Both2 [a0, a1, v13] h1 fun v19 h2 => CallW FF n_spec_l03After [a0, a2, v19] h2 fun v20 h3 => R v20 h3
theorem w_spec_l06Conjugate {a0 a1 a2 : Value} {h : Hp} {R : Value → Hp → Prop} (H : p_spec_l06Conjugate a0 a1 a2 h R) : CallW FF n_spec_l06Conjugate [a0, a1, a2] h R := callV_fin c_spec_l06Conjugate (Eq.mp (by kernel_rfl) H)
def l_spec_l04DrawCurve_0 : YC :=
  .seq (.seq (.region false [m 10 8,
  m 11 2,
  p 12 (.bin .leq 10 11)])
 (.cond 12
 (.skip)
 (.exit 0)))
 (.seq (.block 1
 (.region false [m 15 7,
  m 16 0,
  m 17 0,
  m 18 1,
  o 19 (cl n_spec_l01Next [17, 18]),
  m 20 0,
  m 21 1,
  o 22 (cl n_spec_l01Next [20, 21]),
  o 23 (.mkrow y_t_int64 1 4 [.int .i64 0] [(0, (k 0)), (1, (k 0)), (2, 19), (3, 22)]),
  o 24 (cl n_spec_l01Pick [16, 23]),
  o 25 (.mkrow y_t_int64 1 1 [.int .i64 0] [(0, 24)]),
  o 26 (.append y_t_int64 1 8 15 25),
  m 7 26]))
 (.region false [m 13 8,
  p 14 (.bin .add 13 (k 1)),
  m 8 14]))
def q_spec_l04DrawCurve_0 (a0 a1 a2 a7 a8 : Value) (h : Hp) (K K0 : Kont) : Prop :=
  bindO (binV .leq a8 a2) fun v12 => condM v12 (CallW FF n_spec_l01Next [a0, a1] h fun v19 h1 => CallW FF n_spec_l01Next [a0, a1] h1 fun v22 h2 => bindO (rowV 1 4 [.int .i64 0] [(0, (.int .i64 0)), (1, (.int .i64 0)), (2, v19), (3, v22)]) fun c23 => newB h2 ⟨c23, y_t_int64, true⟩ fun b23 h3 => CallW FF n_spec_l01Pick [a0, (.slice (some ⟨b23, 0, none⟩) 4 1)] h3 fun v24 h4 => bindO (rowV 1 1 [.int .i64 0] [(0, v24)]) fun c25 => newB h4 ⟨c25, y_t_int64, true⟩ fun b25 h5 => bindVH (appendV y_t_int64 1 h5 a7 (.slice (some ⟨b25, 0, none⟩) 1 1)) fun v26 h6 => bindO (binV .add a8 (.int .i64 1)) fun v14 => K [a0, a1, a2, v26, v14] h6) (K0 [a7] h)
theorem wl_spec_l04DrawCurve_0 {a0 a1 a2 a7 a8 : Value} {h : Hp} {K K0 : Kont} (H : q_spec_l04DrawCurve_0 a0 a1 a2 a7 a8 h K K0) : ∀ e : Env, [e 0, e 1, e 2, e 7, e 8] = [a0, a1, a2, a7, a8] → V FF l_spec_l04DrawCurve_0 (qsel [0, 1, 2, 7, 8] K [(.exit 0, [7], K0)]) ⟨e, h⟩ := by
  intro e he; cases he; exact Eq.mp (by kernel_rfl) H
def y_spec_l04DrawCurve : YC :=
  .seq (.region false [mc 6 (.c (.slice none 0 0))])
 (.seq (.region false [o 9 (.mkrow y_t_int64 1 2 [.int .i64 0] [(0, (k 0)), (1, (k 1))]),
  m 7 9])
 (.seq (.seq (.region false [mc 8 (k 2)])
 (.block 0
 (.loop [0, 1, 2, 7, 8] [(.exit 0, [7])] l_spec_l04DrawCurve_0)))
 (.seq (.region false [m 27 7,
  m 6 27])
 (.ret))))
theorem c_spec_l04DrawCurve : FF n_spec_l04DrawCurve = some ⟨28, y_spec_l04DrawCurve.er, [.tmp 6]⟩ := by kernel_rfl
def p_spec_l04DrawCurve (a0 a1 a2 : Value) (h : Hp) (R : Value → Hp → Prop) : Prop :=
  bindO (rowV 1 2 [.int .i64 0] [(0, (.int .i64 0)), (1, (.int .i64 1))]) fun c9 => newB h ⟨c9, y_t_int64, true⟩ fun b9 h1 => LP FF (YC.er l_spec_l04DrawCurve_0) [0, 1, 2, 7, 8] [(.exit 0, [7], fun vs h2 => ∀ e : Env, [e 7] = vs → R (e 7) h2)] [a0, a1, a2, (.slice (some ⟨b9, 0, none⟩) 2 1), (.int .i64 2)] h1
theorem w_spec_l04DrawCurve {a0 a1 a2 : Value} {h : Hp} {R : Value → Hp → Prop} (H : p_spec_l04DrawCurve a0 a1 a2 h R) : CallW FF n_spec_l04DrawCurve [a0, a1, a2] h R := callV_fin c_spec_l04DrawCurve (Eq.mp (by kernel_rfl) H)
def l_impl_Plane_powers_0 : YC :=
  .seq (.region false [p 10 (.bin .lss 9 8)])
 (.seq (.cond 10
 (.skip)
 (.exit 0))
 (.seq (.block 1
 (.region false [m 11 3,
  m 12 3,
  m 13 3,
  p 14 (.len  13),
  p 15 (.bin .sub 14 (k 1)),
  p 16 (.indexAddr 2 12 15),
  o 17 (.load 2 true 16),
  o 18 (.load 2 true 1),
  o 19 (cl n_impl_Plane_times [17, 18]),
  o 20 (.mkrow y_t_impl_Plane 2 1 [.int .i64 0, .slice none 0 0] [(0, 19)]),
  o 21 (.append y_t_impl_Plane 2 32 11 20),
  m 3 21]))
 (.region false [p 22 (.bin .add 9 (k 1)),
  m 9 22])))
def q_impl_Plane_powers_0 (a1 a3 a8 a9 : Value) (h : Hp) (K K0 : Kont) : Prop :=
  bindO (binV .lss a9 a8) fun v10 => condM v10 (bindO (lenV  a3) fun v14 => bindO (binV .sub v14 (.int .i64 1)) fun v15 => bindO (indexAddrV 2 a3 v15) fun v16 => bindO (ldV 2 true h v16) fun v17 => bindO (ldV 2 true h a1) fun v18 => CallW FF n_impl_Plane_times [v17, v18] h fun v19 h1 => bindO (rowV 2 1 [.int .i64 0, .slice none 0 0] [(0, v19)]) fun c20 => newB h1 ⟨c20, y_t_impl_Plane, true⟩ fun b20 h2 => bindVH (appendV y_t_impl_Plane 2 h2 a3 (.slice (some ⟨b20, 0, none⟩) 1 2)) fun v21 h3 => bindO (binV .add a9 (.int .i64 1)) fun v22 => K [a1, v21, a8, v22] h3) (K0 [a3] h)
theorem wl_impl_Plane_powers_0 {a1 a3 a8 a9 : Value} {h : Hp} {K K0 : Kont} (H : q_impl_Plane_powers_0 a1 a3 a8 a9 h K K0) : ∀ e : Env, [e 1, e 3, e 8, e 9] = [a1, a3, a8, a9] → V FF l_impl_Plane_powers_0 (qsel [1, 3, 8, 9] K [(.exit 0, [3], K0)]) ⟨e, h⟩ := by
  intro e he; cases he; exact Eq.mp (by kernel_rfl) H
def y_impl_Plane_powers : YC :=
  .seq (.region false [o 1 (.box y_t_impl_Plane 2 0),
  mc 2 (.c (.slice none 0 0))])
 (.seq (.region false [o 4 (.load 2 true 1),
  o 5 (cl n_impl_Plane_number [4, (k 1)]),
  o 6 (.mkrow y_t_impl_Plane 2 1 [.int .i64 0, .slice none 0 0] [(0, 5)]),
  m 3 6])
 (.seq (.seq (.region false [o 7 (.load 2 true 1),
  o 8 (cl n_impl_Plane_degree [7]),
  mc 9 (k 0)])
 (.block 0
 (.loop [1, 3, 8, 9] [(.exit 0, [3])] l_impl_Plane_powers_0)))
 (.seq (.region false [m 23 3,
  m 2 23])
 (.ret))))
theorem c_impl_Plane_powers : FF n_impl_Plane_powers = some ⟨24, y_impl_Plane_powers.er, [.tmp 2]⟩ := by kernel_rfl
def p_impl_Plane_powers (a0 : Value) (h : Hp) (R : Value → Hp → Prop) : Prop :=
  bindO (boxV 2 a0) fun c1 => newB h ⟨c1, y_t_impl_Plane, true⟩ fun b1 h1 => bindO (ldV 2 true h1 (.pointer (some ⟨b1, 0, none⟩))) fun v4 => CallW FF n_impl_Plane_number [v4, (.int .i64 1)] h1 fun v5 h2 => bindO (rowV 2 1 [.int .i64 0, .slice none 0 0] [(0, v5)]) fun c6 => newB h2 ⟨c6, y_t_impl_Plane, true⟩ fun b6 h3 => bindO (ldV 2 true h3 (.pointer (some ⟨b1, 0, none⟩))) fun v7 => CallW FF n_impl_Plane_degree [v7] h3 fun v8 h4 => LP FF (YC.er l_impl_Plane_powers_0) [1, 3, 8, 9] [(.exit 0, [3], fun vs h5 => ∀ e : Env, [e 3] = vs → R (e 3) h5)] [(.pointer (some ⟨b1, 0, none⟩)), (.slice (some ⟨b6, 0, none⟩) 1 2), v8, (.int .i64 0)] h4
theorem w_impl_Plane_powers {a0 : Value} {h : Hp} {R : Value → Hp → Prop} (H : p_impl_Plane_powers a0 h R) : CallW FF n_impl_Plane_powers [a0] h R := callV_fin c_impl_Plane_powers (Eq.mp (by kernel_rfl) H)
def l_impl_defectsOf_c1_0 : YC :=
  .seq (.seq (.region false [m 14 12,
  o 15 (.load 1 false 3),
  m 16 2,
  p 17 (.bin .sub 15 16),
  p 18 (.bin .leq 14 17)])
 (.cond 18
 (.skip)
 (.exit 0)))
 (.seq (.block 1
 (.region false [m 21 10,
  p 22 (.fieldAddr 1 4),
  o 23 (.load 1 false 22),
  m 24 12,
  p 25 (.indexAddr 1 23 24),
  o 26 (.load 1 false 25),
  m 27 2,
  p 28 (.indexAddr 1 26 27),
  o 29 (.load 1 false 28),
  o 30 (.load 1 false 5),
  m 31 12,
  p 32 (.indexAddr 2 30 31),
  p 33 (.fieldAddr 1 32),
  o 34 (.load 1 false 33),
  m 35 0,
  p 36 (.indexAddr 1 34 35),
  o 37 (.load 1 false 36),
  m 38 1,
  p 39 (.indexAddr 1 37 38),
  o 40 (.load 1 false 39),
  p 41 (.bin .mul 29 40),
  p 42 (.fieldAddr 0 4),
  o 43 (.load 1 false 42),
  p 44 (.bin .rem 41 43),
  p 45 (.bin .add 21 44),
  m 10 45]))
 (.region false [m 19 12,
  p 20 (.bin .add 19 (k 1)),
  m 12 20]))
def q_impl_defectsOf_c1_0 (a0 a1 a2 a3 a4 a5 a10 a11 a12 : Value) (h : Hp) (K K0 : Kont) : Prop :=
  bindO (ldV 1 false h a3) fun v15 => bindO (binV .sub v15 a2) fun v17 => bindO (binV .leq a12 v17) fun v18 => condM v18 (bindO (fieldAddrV 1 a4) fun v22 => bindO (ldV 1 false h v22) fun v23 => bindO (indexAddrV 1 v23 a12) fun v25 => bindO (ldV 1 false h v25) fun v26 => bindO (indexAddrV 1 v26 a2) fun v28 => bindO (ldV 1 false h v28) fun v29 => bindO (ldV 1 false h a5) fun v30 => bindO (indexAddrV 2 v30 a12) fun v32 => bindO (fieldAddrV 1 v32) fun v33 => bindO (ldV 1 false h v33) fun v34 => bindO (indexAddrV 1 v34 a0) fun v36 => bindO (ldV 1 false h v36) fun v37 => bindO (indexAddrV 1 v37 a1) fun v39 => bindO (ldV 1 false h v39) fun v40 => bindO (binV .mul v29 v40) fun v41 => bindO (fieldAddrV 0 a4) fun v42 => bindO (ldV 1 false h v42) fun v43 => bindO (binV .rem v41 v43) fun v44 => bindO (binV .add a10 v44) fun v45 => bindO (binV .add a12 (.int .i64 1)) fun v20 => K [a0, a1, a2, a3, a4, a5, v45, a11, v20] h) (K0 [a0, a1, a2, a3, a4, a5, a10, a11] h)
theorem wl_impl_defectsOf_c1_0 {a0 a1 a2 a3 a4 a5 a10 a11 a12 : Value} {h : Hp} {K K0 : Kont} (H : q_impl_defectsOf_c1_0 a0 a1 a2 a3 a4 a5 a10 a11 a12 h K K0) : ∀ e : Env, [e 0, e 1, e 2, e 3, e 4, e 5, e 10, e 11, e 12] = [a0, a1, a2, a3, a4, a5, a10, a11, a12] → V FF l_impl_defectsOf_c1_0 (qsel [0, 1, 2, 3, 4, 5, 10, 11, 12] K [(.exit 0, [0, 1, 2, 3, 4, 5, 10, 11], K0)]) ⟨e, h⟩ := by
  intro e he; cases he; exact Eq.mp (by kernel_rfl) H
def l_impl_defectsOf_c1_1 : YC :=
  .seq (.seq (.region false [m 46 13,
  o 47 (.load 1 false 3),
  m 48 0,
  p 49 (.bin .sub 47 48),
  p 50 (.bin .leq 46 49)])
 (.cond 50
 (.skip)
 (.exit 2)))
 (.seq (.block 3
 (.region false [m 53 11,
  p 54 (.fieldAddr 1 4),
  o 55 (.load 1 false 54),
  m 56 0,
  p 57 (.indexAddr 1 55 56),
  o 58 (.load 1 false 57),
  m 59 13,
  p 60 (.indexAddr 1 58 59),
  o 61 (.load 1 false 60),
  o 62 (.load 1 false 5),
  m 63 13,
  p 64 (.indexAddr 2 62 63),
  p 65 (.fieldAddr 1 64),
  o 66 (.load 1 false 65),
  m 67 1,
  p 68 (.indexAddr 1 66 67),
  o 69 (.load 1 false 68),
  m 70 2,
  p 71 (.indexAddr 1 69 70),
  o 72 (.load 1 false 71),
  p 73 (.bin .mul 61 72),
  p 74 (.fieldAddr 0 4),
  o 75 (.load 1 false 74),
  p 76 (.bin .rem 73 75),
  p 77 (.bin .add 53 76),
  m 11 77]))
 (.region false [m 51 13,
  p 52 (.bin .add 51 (k 1)),
  m 13 52]))
def q_impl_defectsOf_c1_1 (a0 a1 a2 a3 a4 a5 a10 a11 a13 : Value) (h : Hp) (K K0 : Kont) : Prop :=
  bindO (ldV 1 false h a3) fun v47 => bindO (binV .sub v47 a0) fun v49 => bindO (binV .leq a13 v49) fun v50 => condM v50 (bindO (fieldAddrV 1 a4) fun v54 => bindO (ldV 1 false h v54) fun v55 => bindO (indexAddrV 1 v55 a0) fun v57 => bindO (ldV 1 false h v57) fun v58 => bindO (indexAddrV 1 v58 a13) fun v60 => bindO (ldV 1 false h v60) fun v61 => bindO (ldV 1 false h a5) fun v62 => bindO (indexAddrV 2 v62 a13) fun v64 => bindO (fieldAddrV 1 v64) fun v65 => bindO (ldV 1 false h v65) fun v66 => bindO (indexAddrV 1 v66 a1) fun v68 => bindO (ldV 1 false h v68) fun v69 => bindO (indexAddrV 1 v69 a2) fun v71 => bindO (ldV 1 false h v71) fun v72 => bindO (binV .mul v61 v72) fun v73 => bindO (fieldAddrV 0 a4) fun v74 => bindO (ldV 1 false h v74) fun v75 => bindO (binV .rem v73 v75) fun v76 => bindO (binV .add a11 v76) fun v77 => bindO (binV .add a13 (.int .i64 1)) fun v52 => K [a0, a1, a2, a3, a4, a5, a10, v77, v52] h) (K0 [a4, a10, a11] h)
theorem wl_impl_defectsOf_c1_1 {a0 a1 a2 a3 a4 a5 a10 a11 a13 : Value} {h : Hp} {K K0 : Kont} (H : q_impl_defectsOf_c1_1 a0 a1 a2 a3 a4 a5 a10 a11 a13 h K K0) : ∀ e : Env, [e 0, e 1, e 2, e 3, e 4, e 5, e 10, e 11, e 13] = [a0, a1, a2, a3, a4, a5, a10, a11, a13] → V FF l_impl_defectsOf_c1_1 (qsel [0, 1, 2, 3, 4, 5, 10, 11, 13] K [(.exit 2, [4, 10, 11], K0)]) ⟨e, h⟩ := by
  intro e he; cases he; exact Eq.mp (by kernel_rfl) H
def y_impl_defectsOf_c1 : YC :=
  .seq (.region false [mc 9 (k 0)])
 (.seq (.region false [mc 10 (k 0),
  mc 11 (k 0)])
 (.seq (.seq (.region false [mc 12 (k 0)])
 (.block 0
 (.loop [0, 1, 2, 3, 4, 5, 10, 11, 12] [(.exit 0, [0, 1, 2, 3, 4, 5, 10, 11])] l_impl_defectsOf_c1_0)))
 (.seq (.seq (.region false [mc 13 (k 0)])
 (.block 2
 (.loop [0, 1, 2, 3, 4, 5, 10, 11, 13] [(.exit 2, [4, 10, 11])] l_impl_defectsOf_c1_1)))
 (.seq (.region false [m 78 10,
  m 79 11,
  p 80 (.bin .sub 78 79),
  p 81 (.fieldAddr 0 4),
  o 82 (.load 1 false 81),
  o 83 (cl n_impl_mod [80, 82]),
  m 9 83])
 (.ret)))))
theorem c_impl_defectsOf_c1 : FF n_impl_defectsOf_c1 = some ⟨84, y_impl_defectsOf_c1.er, [.tmp 9]⟩ := by kernel_rfl
def p_impl_defectsOf_c1 (a0 a1 a2 a3 a4 a5 : Value) (h : Hp) (R : Value → Hp → Prop) : Prop :=
  LP FF (YC.er l_impl_defectsOf_c1_0) [0, 1, 2, 3, 4, 5, 10, 11, 12] [(.exit 0, [0, 1, 2, 3, 4, 5, 10, 11], fun vs h1 => ∀ e : Env, [e 0, e 1, e 2, e 3, e 4, e 5, e 10, e 11] = vs → LP FF (YC.er l_impl_defectsOf_c1_1) [0, 1, 2, 3, 4, 5, 10, 11, 13] [(.exit 2, [4, 10, 11], fun vs_1 h2 => ∀ e_1 : Env, [e_1 4, e_1 10, e_1 11] = vs_1 → bindO (binV .sub (e_1 10) (e_1 11)) fun v80 => bindO (fieldAddrV 0 (e_1 4)) fun v81 => bindO (ldV 1 false h2 v81) fun v82 => CallW FF n_impl_mod [v80, v82] h2 fun v83 h3 => R v83 h3)] [(e 0), (e 1), (e 2), (e 3), (e 4), (e 5), (e 10), (e 11), (.int .i64 0)] h1)] [a0, a1, a2, a3, a4, a5, (.int .i64 0), (.int .i64 0), (.int .i64 0)] h
theorem w_impl_defectsOf_c1 {a0 a1 a2 a3 a4 a5 : Value} {h : Hp} {R : Value → Hp → Prop} (H : p_impl_defectsOf_c1 a0 a1 a2 a3 a4 a5 h R) : CallW FF n_impl_defectsOf_c1 [a0, a1, a2, a3, a4, a5] h R := callV_fin c_impl_defectsOf_c1 (Eq.mp (by kernel_rfl) H)
def l_spec_l03Zero_0 : YC :=
  .seq (.seq (.region false [m 6 4,
  m 7 0,
  p 8 (.bin .leq 6 7)])
 (.cond 8
 (.skip)
 (.exit 0)))
 (.seq (.block 1
 (.region false [m 11 3,
  m 12 0,
  m 13 4,
  p 14 (.bin .sub 12 13),
  p 15 (.bin .add 14 (k 1)),
  o 16 (.make y_t_int64 1 8 [.int .i64 0] 15),
  o 17 (.mkrow y_t_Lint64 1 1 [.slice none 0 0] [(0, 16)]),
  o 18 (.append y_t_Lint64 1 24 11 17),
  m 3 18]))
 (.region false [m 9 4,
  p 10 (.bin .add 9 (k 1)),
  m 4 10]))
def q_spec_l03Zero_0 (a0 a3 a4 : Value) (h : Hp) (K K0 : Kont) : Prop :=
  bindO (binV .leq a4 a0) fun v8 => condM v8 (bindO (binV .sub a0 a4) fun v14 => bindO (binV .add v14 (.int .i64 1)) fun v15 => bindO (makN v15) fun c16 => newB h ⟨reps c16 [.int .i64 0], y_t_int64, true⟩ fun b16 h1 => bindO (rowV 1 1 [.slice none 0 0] [(0, (.slice (some ⟨b16, 0, none⟩) c16 1))]) fun c17 => newB h1 ⟨c17, y_t_Lint64, true⟩ fun b17 h2 => bindVH (appendV y_t_Lint64 1 h2 a3 (.slice (some ⟨b17, 0, none⟩) 1 1)) fun v18 h3 => bindO (binV .add a4 (.int .i64 1)) fun v10 => K [a0, v18, v10] h3) (K0 [a3] h)
theorem wl_spec_l03Zero_0 {a0 a3 a4 : Value} {h : Hp} {K K0 : Kont} (H : q_spec_l03Zero_0 a0 a3 a4 h K K0) : ∀ e : Env, [e 0, e 3, e 4] = [a0, a3, a4] → V FF l_spec_l03Zero_0 (qsel [0, 3, 4] K [(.exit 0, [3], K0)]) ⟨e, h⟩ := by
  intro e he; cases he; exact Eq.mp (by kernel_rfl) H
def y_spec_l03Zero : YC :=
  .seq (.region false [mc 2 (.c (.slice none 0 0))])
 (.seq (.region false [o 5 (.mkrow y_t_Lint64 1 0 [.slice none 0 0] []),
  m 3 5])
 (.seq (.seq (.region false [mc 4 (k 0)])
 (.block 0
 (.loop [0, 3, 4] [(.exit 0, [3])] l_spec_l03Zero_0)))
 (.seq (.region false [m 19 3,
  m 2 19])
 (.ret))))
theorem c_spec_l03Zero : FF n_spec_l03Zero = some ⟨20, y_spec_l03Zero.er, [.tmp 2]⟩ := by kernel_rfl
def p_spec_l03Zero (a0 : Value) (h : Hp) (R : Value → Hp → Prop) : Prop :=
  bindO (rowV 1 0 [.slice none 0 0] []) fun c5 => newB h ⟨c5, y_t_Lint64, true⟩ fun b5 h1 => LP FF (YC.er l_spec_l03Zero_0) [0, 3, 4] [(.exit 0, [3], fun vs h2 => ∀ e : Env, [e 3] = vs → R (e 3) h2)] [a0, (.slice (some ⟨b5, 0, none⟩) 0 1), (.int .i64 0)] h1
theorem w_spec_l03Zero {a0 : Value} {h : Hp} {R : Value → Hp → Prop} (H : p_spec_l03Zero a0 h R) : CallW FF n_spec_l03Zero [a0] h R := callV_fin c_spec_l03Zero (Eq.mp (by kernel_rfl) H)
def l_spec_l03Times_0 : YC :=
  .seq (.seq (.region false [m 59 9,
  m 60 10,
  p 61 (.bin .add 59 60),
  m 62 11,
  p 63 (.bin .add 61 62),
  m 64 14,
  p 65 (.bin .add 63 64),
  m 66 7,
  p 67 (.bin .lss 65 66)])
 (.cond 67
 (.skip)
 (.exit 6)))
 (.seq (.block 7
 (.region false [m 70 12,
  m 71 10,
  m 72 14,
  p 73 (.bin .add 71 72),
  m 74 12,
  m 75 10,
  m 76 14,
  p 77 (.bin .add 75 76),
  p 78 (.indexAddr 1 74 77),
  o 79 (.load 1 false 78),
  m 80 1,
  m 81 9,
  p 82 (.indexAddr 1 80 81),
  o 83 (.load 1 false 82),
  m 84 10,
  p 85 (.indexAddr 1 83 84),
  o 86 (.load 1 false 85),
  m 87 13,
  m 88 14,
  p 89 (.indexAddr 1 87 88),
  o 90 (.load 1 false 89),
  p 91 (.bin .mul 86 90),
  p 92 (.bin .add 79 91),
  m 93 0,
  p 94 (.bin .rem 92 93),
  p 95 (.indexAddr 1 70 73),
  e (.store 1 95 94)]))
 (.region false [m 68 14,
  p 69 (.bin .add 68 (k 1)),
  m 14 69]))
def q_spec_l03Times_0 (a0 a1 a2 a7 a8 a9 a10 a11 a12 a13 a14 : Value) (h : Hp) (K K0 : Kont) : Prop :=
  bindO (binV .add a9 a10) fun v61 => bindO (binV .add v61 a11) fun v63 => bindO (binV .add v63 a14) fun v65 => bindO (binV .lss v65 a7) fun v67 => condM v67 (bindO (binV .add a10 a14) fun v73 => bindO (binV .add a10 a14) fun v77 => bindO (indexAddrV 1 a12 v77) fun v78 => bindO (ldV 1 false h v78) fun v79 => bindO (indexAddrV 1 a1 a9) fun v82 => bindO (ldV 1 false h v82) fun v83 => bindO (indexAddrV 1 v83 a10) fun v85 => bindO (ldV 1 false h v85) fun v86 => bindO (indexAddrV 1 a13 a14) fun v89 => bindO (ldV 1 false h v89) fun v90 => bindO (binV .mul v86 v90) fun v91 => bindO (binV .add v79 v91) fun v92 => bindO (binV .rem v92 a0) fun v94 => bindO (indexAddrV 1 a12 v73) fun v95 => bindO (storeV 1 h v94 v95) fun h1 => bindO (binV .add a14 (.int .i64 1)) fun v69 => K [a0, a1, a2, a7, a8, a9, a10, a11, a12, a13, v69] h1) (K0 [a0, a1, a2, a7, a8, a9, a10, a11] h)
theorem wl_spec_l03Times_0 {a0 a1 a2 a7 a8 a9 a10 a11 a12 a13 a14 : Value} {h : Hp} {K K0 : Kont} (H : q_spec_l03Times_0 a0 a1 a2 a7 a8 a9 a10 a11 a12 a13 a14 h K K0) : ∀ e : Env, [e 0, e 1, e 2, e 7, e 8, e 9, e 10, e 11, e 12, e 13, e 14] = [a0, a1, a2, a7, a8, a9, a10, a11, a12, a13, a14] → V FF l_spec_l03Times_0 (qsel [0, 1, 2, 7, 8, 9, 10, 11, 12, 13, 14] K [(.exit 6, [0, 1, 2, 7, 8, 9, 10, 11], K0)]) ⟨e, h⟩ := by
  intro e he; cases he; exact Eq.mp (by kernel_rfl) H
def l_spec_l03Times_1 : YC :=
  .seq (.seq (.region false [m 40 9,
  m 41 10,
  p 42 (.bin .add 40 41),
  m 43 11,
  p 44 (.bin .add 42 43),
  m 45 7,
  p 46 (.bin .lss 44 45)])
 (.cond 46
 (.skip)
 (.exit 4)))
 (.seq (.block 5
 (.seq (.region false [m 49 8,
  m 50 9,
  m 51 11,
  p 52 (.bin .add 50 51),
  p 53 (.indexAddr 1 49 52),
  o 54 (.load 1 false 53),
  m 55 2,
  m 56 11,
  p 57 (.indexAddr 1 55 56),
  o 58 (.load 1 false 57),
  m 12 54,
  m 13 58])
 (.seq (.region false [mc 14 (k 0)])
 (.block 6
 (.loop [0, 1, 2, 7, 8, 9, 10, 11, 12, 13, 14] [(.exit 6, [0, 1, 2, 7, 8, 9, 10, 11])] l_spec_l03Times_0)))))
 (.region false [m 47 11,
  p 48 (.bin .add 47 (k 1)),
  m 11 48]))
def q_spec_l03Times_1 (a0 a1 a2 a7 a8 a9 a10 a11 : Value) (h : Hp) (K K0 : Kont) : Prop :=
  bindO (binV .add a9 a10) fun v42 => bindO (binV .add v42 a11) fun v44 => bindO (binV .lss v44 a7) fun v46 => condM v46 (bindO (binV .add a9 a11) fun v52 => bindO (indexAddrV 1 a8 v52) fun v53 => bindO (ldV 1 false h v53) fun v54 => bindO (indexAddrV 1 a2 a11) fun v57 => bindO (ldV 1 false h v57) fun v58 => LP FF (YC.er l_spec_l03Times_0) [0, 1, 2, 7, 8, 9, 10, 11, 12, 13, 14] [(.exit 6, [0, 1, 2, 7, 8, 9, 10, 11], fun vs h1 => ∀ e : Env, [e 0, e 1, e 2, e 7, e 8, e 9, e 10, e 11] = vs → bindO (binV .add (e 11) (.int .i64 1)) fun v48 => K [(e 0), (e 1), (e 2), (e 7), (e 8), (e 9), (e 10), v48] h1)] [a0, a1, a2, a7, a8, a9, a10, a11, v54, v58, (.int .i64 0)] h) (K0 [a0, a1, a2, a7, a8, a9, a10] h)
theorem wl_spec_l03Times_1 {a0 a1 a2 a7 a8 a9 a10 a11 : Value} {h : Hp} {K K0 : Kont} (H : q_spec_l03Times_1 a0 a1 a2 a7 a8 a9 a10 a11 h K K0) : ∀ e : Env, [e 0, e 1, e 2, e 7, e 8, e 9, e 10, e 11] = [a0, a1, a2, a7, a8, a9, a10, a11] → V FF l_spec_l03Times_1 (qsel [0, 1, 2, 7, 8, 9, 10, 11] K [(.exit 4, [0, 1, 2, 7, 8, 9, 10], K0)]) ⟨e, h⟩ := by
  intro e he; cases he; exact Eq.mp (by kernel_rfl) H
def l_spec_l03Times_2 : YC :=
  .seq (.seq (.region false [m 25 9,
  m 26 10,
  p 27 (.bin .add 25 26),
  m 28 7,
  p 29 (.bin .lss 27 28)])
 (.cond 29
 (.skip)
 (.exit 2)))
 (.seq (.block 3
 (.seq (.seq (.region false [m 32 1,
  m 33 9,
  p 34 (.indexAddr 1 32 33),
  o 35 (.load 1 false 34),
  m 36 10,
  p 37 (.indexAddr 1 35 36),
  o 38 (.load 1 false 37),
  p 39 (.bin .eql 38 (k 0))])
 (.cond 39
 (.exit 3)
 (.skip)))
 (.seq (.region false [mc 11 (k 0)])
 (.block 4
 (.loop [0, 1, 2, 7, 8, 9, 10, 11] [(.exit 4, [0, 1, 2, 7, 8, 9, 10])] l_spec_l03Times_1)))))
 (.region false [m 30 10,
  p 31 (.bin .add 30 (k 1)),
  m 10 31]))
def q_spec_l03Times_2 (a0 a1 a2 a7 a8 a9 a10 : Value) (h : Hp) (K K0 : Kont) : Prop :=
  bindO (binV .add a9 a10) fun v27 => bindO (binV .lss v27 a7) fun v29 => condM v29 (bindO (indexAddrV 1 a1 a9) fun v34 => bindO (ldV 1 false h v34) fun v35 => bindO (indexAddrV 1 v35 a10) fun v37 => bindO (ldV 1 false h v37) fun v38 => bindO (binV .eql v38 (.int .i64 0)) fun v39 => condM v39 (bindO (binV .add a10 (.int .i64 1)) fun v31 => K [a0, a1, a2, a7, a8, a9, v31] h) (LP FF (YC.er l_spec_l03Times_1) [0, 1, 2, 7, 8, 9, 10, 11] [(.exit 4, [0, 1, 2, 7, 8, 9, 10], fun vs h1 => ∀ e : Env, [e 0, e 1, e 2, e 7, e 8, e 9, e 10] = vs → bindO (binV .add (e 10) (.int .i64 1)) fun v31 => K [(e 0), (e 1), (e 2), (e 7), (e 8), (e 9), v31] h1)] [a0, a1, a2, a7, a8, a9, a10, (.int .i64 0)] h)) (K0 [a0, a1, a2, a7, a8, a9] h)
theorem wl_spec_l03Times_2 {a0 a1 a2 a7 a8 a9 a10 : Value} {h : Hp} {K K0 : Kont} (H : q_spec_l03Times_2 a0 a1 a2 a7 a8 a9 a10 h K K0) : ∀ e : Env, [e 0, e 1, e 2, e 7, e 8, e 9, e 10] = [a0, a1, a2, a7, a8, a9, a10] → V FF l_spec_l03Times_2 (qsel [0, 1, 2, 7, 8, 9, 10] K [(.exit 2, [0, 1, 2, 7, 8, 9], K0)]) ⟨e, h⟩ := by
  intro e he; cases he; exact Eq.mp (by kernel_rfl) H
def l_spec_l03Times_3 : YC :=
  .seq (.seq (.region false [m 20 9,
  m 21 7,
  p 22 (.bin .lss 20 21)])
 (.cond 22
 (.skip)
 (.exit 0)))
 (.seq (.block 1
 (.seq (.region false [mc 10 (k 0)])
 (.block 2
 (.loop [0, 1, 2, 7, 8, 9, 10] [(.exit 2, [0, 1, 2, 7, 8, 9])] l_spec_l03Times_2))))
 (.region false [m 23 9,
  p 24 (.bin .add 23 (k 1)),
  m 9 24]))
def q_spec_l03Times_3 (a0 a1 a2 a7 a8 a9 : Value) (h : Hp) (K K0 : Kont) : Prop :=
  bindO (binV .lss a9 a7) fun v22 => condM v22 (LP FF (YC.er l_spec_l03Times_2) [0, 1, 2, 7, 8, 9, 10] [(.exit 2, [0, 1, 2, 7, 8, 9], fun vs h1 => ∀ e : Env, [e 0, e 1, e 2, e 7, e 8, e 9] = vs → bindO (binV .add (e 9) (.int .i64 1)) fun v24 => K [(e 0), (e 1), (e 2), (e 7), (e 8), v24] h1)] [a0, a1, a2, a7, a8, a9, (.int .i64 0)] h) (K0 [a8] h)
theorem wl_spec_l03Times_3 {a0 a1 a2 a7 a8 a9 : Value} {h : Hp} {K K0 : Kont} (H : q_spec_l03Times_3 a0 a1 a2 a7 a8 a9 h K K0) : ∀ e : Env, [e 0, e 1, e 2, e 7, e 8, e 9] = [a0, a1, a2, a7, a8, a9] → V FF l_spec_l03Times_3 (qsel [0, 1, 2, 7, 8, 9] K [(.exit 0, [8], K0)]) ⟨e, h⟩ := by
  intro e he; cases he; exact Eq.mp (by kernel_rfl) H
def y_spec_l03Times : YC :=
  .seq (.region false [mc 6 (.c (.slice none 0 0))])
 (.seq (.region false [m 15 1,
  p 16 (.len  15),
  m 7 16])
 (.seq (.region false [m 17 7,
  p 18 (.bin .sub 17 (k 1)),
  o 19 (cl n_spec_l03Zero [18]),
  m 8 19])
 (.seq (.seq (.region false [mc 9 (k 0)])
 (.block 0
 (.loop [0, 1, 2, 7, 8, 9] [(.exit 0, [8])] l_spec_l03Times_3)))
 (.seq (.region false [m 96 8,
  m 6 96])
 (.ret)))))
theorem c_spec_l03Times : FF n_spec_l03Times = some ⟨97, y_spec_l03Times.er, [.tmp 6]⟩ := by kernel_rfl
def p_spec_l03Times (a0 a1 a2 : Value) (h : Hp) (R : Value → Hp → Prop) : Prop :=
  bindO (lenV  a1) fun v16 => bindO (binV .sub v16 (.int .i64 1)) fun v18 => CallW FF n_spec_l03Zero [v18] h fun v19 h1 => LP FF (YC.er l_spec_l03Times_3) [0, 1, 2, 7, 8, 9] [(.exit 0, [8], fun vs h2 => ∀ e : Env, [e 8] = vs → R (e 8) h2)] [a0, a1, a2, v16, v19, (.int .i64 0)] h1
theorem w_spec_l03Times {a0 a1 a2 : Value} {h : Hp} {R : Value → Hp → Prop} (H : p_spec_l03Times a0 a1 a2 h R) : CallW FF n_spec_l03Times [a0, a1, a2] h R := callV_fin c_spec_l03Times (Eq.mp (by kernel_rfl) H)
def y_math_bits_Len64 : YC :=
  .seq (.region false [mc 2 (k 0)])
 (.join [0, 2] (.seq (.region false [m 3 0,
  p 4 (.bin .geq 3 (.c (.int .u64 4294967296)))])
 (.cond 4
 (.seq (.region false [m 5 0,
  p 6 (.bin .shr 5 (.c (.int .u64 32))),
  m 0 6])
 (.region false [mc 2 (k 32)]))
 (.skip)))
 (.join [0, 2] (.seq (.region false [m 7 0,
  p 8 (.bin .geq 7 (.c (.int .u64 65536)))])
 (.cond 8
 (.seq (.region false [m 9 0,
  p 10 (.bin .shr 9 (.c (.int .u64 16))),
  m 0 10])
 (.region false [m 11 2,
  p 12 (.bin .add 11 (k 16)),
  m 2 12]))
 (.skip)))
 (.join [0, 2] (.seq (.region false [m 13 0,
  p 14 (.bin .geq 13 (.c (.int .u64 256)))])
 (.cond 14
 (.seq (.region false [m 15 0,
  p 16 (.bin .shr 15 (.c (.int .u64 8))),
  m 0 16])
 (.region false [m 17 2,
  p 18 (.bin .add 17 (k 8)),
  m 2 18]))
 (.skip)))
 (.seq (.region false [m 19 2,
  m 20 0,
  p 21 (.conv .u8 20),
  p 22 (.indexStr  (.c (.string ⟨#[0, 1, 2, 2, 3, 3, 3, 3, 4, 4, 4, 4, 4, 4, 4, 4, 5, 5, 5, 5, 5, 5, 5, 5, 5, 5, 5, 5, 5, 5, 5, 5, 6, 6, 6, 6, 6, 6, 6, 6, 6, 6, 6, 6, 6, 6, 6, 6, 6, 6, 6, 6, 6, 6, 6, 6, 6, 6, 6, 6, 6, 6, 6, 6, 7, 7, 7, 7, 7, 7, 7, 7, 7, 7, 7, 7, 7, 7, 7, 7, 7, 7, 7, 7, 7, 7, 7, 7, 7, 7, 7, 7, 7, 7, 7, 7, 7, 7, 7, 7, 7, 7, 7, 7, 7, 7, 7, 7, 7, 7, 7, 7, 7, 7, 7, 7, 7, 7, 7, 7, 7, 7, 7, 7, 7, 7, 7, 7, 8, 8, 8, 8, 8, 8, 8, 8, 8, 8, 8, 8, 8, 8, 8, 8, 8, 8, 8, 8, 8, 8, 8, 8, 8, 8, 8, 8, 8, 8, 8, 8, 8, 8, 8, 8, 8, 8, 8, 8, 8, 8, 8, 8, 8, 8, 8, 8, 8, 8, 8, 8, 8, 8, 8, 8, 8, 8, 8, 8, 8, 8, 8, 8, 8, 8, 8, 8, 8, 8, 8, 8, 8, 8, 8, 8, 8, 8, 8, 8, 8, 8, 8, 8, 8, 8, 8, 8, 8, 8, 8, 8, 8, 8, 8, 8, 8, 8, 8, 8, 8, 8, 8, 8, 8, 8, 8, 8, 8, 8, 8, 8, 8, 8, 8, 8, 8, 8, 8, 8, 8, 8, 8, 8, 8, 8, 8, 8]⟩)) 21),
  p 23 (.conv .i64 22),
  p 24 (.bin .add 19 23),
  m 2 24])
 (.ret)))))
theorem c_math_bits_Len64 : FF n_math_bits_Len64 = some ⟨25, y_math_bits_Len64.er, [.tmp 2]⟩ := by kernel_rfl
def p_math_bits_Len64 (a0 : Value) (h : Hp) (R : Value → Hp → Prop) : Prop :=
  JN (fun J => bindO (binV .geq a0 (.int .u64 4294967296)) fun v4 => condM v4 (bindO (binV .shr a0 (.int .u64 32)) fun v6 => J [v6, (.int .i64 32)] h) (J [a0, (.int .i64 0)] h)) fun vs h1 => ∀ e : Env, [e 0, e 2] = vs → JN (fun J => bindO (binV .geq (e 0) (.int .u64 65536)) fun v8 => condM v8 (bindO (binV .shr (e 0) (.int .u64 16)) fun v10 => bindO (binV .add (e 2) (.int .i64 16)) fun v12 => J [v10, v12] h1) (J [(e 0), (e 2)] h1)) fun vs_1 h2 => ∀ e_1 : Env, [e_1 0, e_1 2] = vs_1 → JN (fun J => bindO (binV .geq (e_1 0) (.int .u64 256)) fun v14 => condM v14 (bindO (binV .shr (e_1 0) (.int .u64 8)) fun v16 => bindO (binV .add (e_1 2) (.int .i64 8)) fun v18 => J [v16, v18] h2) (J [(e_1 0), (e_1 2)] h2)) fun vs_2 h3 => ∀ e_2 : Env, [e_2 0, e_2 2] = vs_2 → bindO (convV .u8 (e_2 0)) fun v21 => bindO (indexStrV  (.string ⟨#[0, 1, 2, 2, 3, 3, 3, 3, 4, 4, 4, 4, 4, 4, 4, 4, 5, 5, 5, 5, 5, 5, 5, 5, 5, 5, 5, 5, 5, 5, 5, 5, 6, 6, 6, 6, 6, 6, 6, 6, 6, 6, 6, 6, 6, 6, 6, 6, 6, 6, 6, 6, 6, 6, 6, 6, 6, 6, 6, 6, 6, 6, 6, 6, 7, 7, 7, 7, 7, 7, 7, 7, 7, 7, 7, 7, 7, 7, 7, 7, 7, 7, 7, 7, 7, 7, 7, 7, 7, 7, 7, 7, 7, 7, 7, 7, 7, 7, 7, 7, 7, 7, 7, 7, 7, 7, 7, 7, 7, 7, 7, 7, 7, 7, 7, 7, 7, 7, 7, 7, 7, 7, 7, 7, 7, 7, 7, 7, 8, 8, 8, 8, 8, 8, 8, 8, 8, 8, 8, 8, 8, 8, 8, 8, 8, 8, 8, 8, 8, 8, 8, 8, 8, 8, 8, 8, 8, 8, 8, 8, 8, 8, 8, 8, 8, 8, 8, 8, 8, 8, 8, 8, 8, 8, 8, 8, 8, 8, 8, 8, 8, 8, 8, 8, 8, 8, 8, 8, 8, 8, 8, 8, 8, 8, 8, 8, 8, 8, 8, 8, 8, 8, 8, 8, 8, 8, 8, 8, 8, 8, 8, 8, 8, 8, 8, 8, 8, 8, 8, 8, 8, 8, 8, 8, 8, 8, 8, 8, 8, 8, 8, 8, 8, 8, 8, 8, 8, 8, 8, 8, 8, 8, 8, 8, 8, 8, 8, 8, 8, 8, 8, 8, 8, 8, 8, 8]⟩) v21) fun v22 => bindO (convV .i64 v22) fun v23 => bindO (binV .add (e_2 2) v23) fun v24 => R v24 h3
theorem w_math_bits_Len64 {a0 : Value} {h : Hp} {R : Value → Hp → Prop} (H : p_math_bits_Len64 a0 h R) : CallW FF n_math_bits_Len64 [a0] h R := callV_fin c_math_bits_Len64 (Eq.mp (by kernel_rfl) H)
def y_spec_l08Multiplicative : YC :=
  .seq (.region false [mc 6 (.c (.slice none 0 0))])
 (.seq (.region false [m 8 1,
  o 9 (cl n_spec_l03Zero [8]),
  m 7 9])
 (.seq (.region false [m 10 7,
  p 11 (.indexAddr 1 10 (k 1)),
  o 12 (.load 1 false 11),
  p 13 (.indexAddr 1 12 (k 0)),
  e (.store 1 13 (k 1))])
 (.seq (.region false [m 14 7,
  p 15 (.indexAddr 1 14 (k 0)),
  o 16 (.load 1 false 15),
  p 17 (.indexAddr 1 16 (k 1)),
  e (.store 1 17 (k 1))])
 (.seq (.seq (.region false [m 18 1,
  p 19 (.bin .gtr 18 (k 1))])
 (.cond 19
 (.region false [m 20 7,
  p 21 (.indexAddr 1 20 (k 1)),
  o 22 (.load 1 false 21),
  m 23 2,
  p 24 (.indexAddr 1 22 (k 1)),
  e (.store 1 24 23)])
 (.skip)))
 (.seq (.region false [m 25 7,
  m 6 25])
 (.ret))))))
theorem c_spec_l08Multiplicative : FF n_spec_l08Multiplicative = some ⟨26, y_spec_l08Multiplicative.er, [.tmp 6]⟩ := by kernel_rfl
def p_spec_l08Multiplicative (a0 a1 a2 : Value) (h : Hp) (R : Value → Hp → Prop) : Prop :=
  CallW FF n_spec_l03Zero [a1] h fun v9 h1 => bindO (indexAddrV 1 v9 (.int .i64 1)) fun v11 => bindO (ldV 1 false h1 v11) fun v12 => bindO (indexAddrV 1 v12 (.int .i64 0)) fun v13 => bindO (storeV 1 h1 (.int .i64 1) v13) fun h2 => bindO (indexAddrV 1 v9 (.int .i64 0)) fun v15 => bindO (ldV 1 false h2 v15) fun v16 => bindO (indexAddrV 1 v16 (.int .i64 1)) fun v17 => bindO (storeV 1 h2 (.int .i64 1) v17) fun h3 => bindO (binV .gtr a1 (.int .i64 1)) fun v19 => condM v19 (bindO (indexAddrV 1 v9 (.int .i64 1)) fun v21 => bindO (ldV 1 false h3 v21) fun v22 => bindO (indexAddrV 1 v22 (.int .i64 1)) fun v24 => bindO (storeV 1 h3 a2 v24) fun h4 => R v9 h4) (R v9 h3)
theorem w_spec_l08Multiplicative {a0 a1 a2 : Value} {h : Hp} {R : Value → Hp → Prop} (H : p_spec_l08Multiplicative a0 a1 a2 h R) : CallW FF n_spec_l08Multiplicative [a0, a1, a2] h R := callV_fin c_spec_l08Multiplicative (Eq.mp (by kernel_rfl) H)
def l_spec_l08Tangent_0 : YC :=
  .seq (.seq (.region false [m 14 9,
  p 15 (.bin .mul (k 2) 14),
  p 16 (.bin .add 15 (k 1)),
  m 17 1,
  p 18 (.bin .leq 16 17)])
 (.cond 18
 (.skip)
 (.exit 0)))
 (.seq (.block 1
 (.seq (.region false [m 21 7,
  m 22 9,
  p 23 (.bin .add 22 (k 1)),
  p 24 (.indexAddr 1 21 23),
  o 25 (.load 1 false 24),
  m 26 9,
  m 27 8,
  p 28 (.indexAddr 1 25 26),
  e (.store 1 28 27)])
 (.seq (.region false [m 29 7,
  m 30 9,
  p 31 (.indexAddr 1 29 30),
  o 32 (.load 1 false 31),
  m 33 9,
  p 34 (.bin .add 33 (k 1)),
  m 35 8,
  p 36 (.indexAddr 1 32 34),
  e (.store 1 36 35)])
 (.region false [m 37 8,
  m 38 0,
  m 39 2,
  p 40 (.bin .sub 38 39),
  p 41 (.bin .mul 37 40),
  m 42 0,
  p 43 (.bin .rem 41 42),
  m 8 43]))))
 (.region false [m 19 9,
  p 20 (.bin .add 19 (k 1)),
  m 9 20]))
def q_spec_l08Tangent_0 (a0 a1 a2 a7 a8 a9 : Value) (h : Hp) (K K0 : Kont) : Prop :=
  bindO (binV .mul (.int .i64 2) a9) fun v15 => bindO (binV .add v15 (.int .i64 1)) fun v16 => bindO (binV .leq v16 a1) fun v18 => condM v18 (bindO (binV .add a9 (.int .i64 1)) fun v23 => bindO (indexAddrV 1 a7 v23) fun v24 => bindO (ldV 1 false h v24) fun v25 => bindO (indexAddrV 1 v25 a9) fun v28 => bindO (storeV 1 h a8 v28) fun h1 => bindO (indexAddrV 1 a7 a9) fun v31 => bindO (ldV 1 false h1 v31) fun v32 => bindO (binV .add a9 (.int .i64 1)) fun v34 => bindO (indexAddrV 1 v32 v34) fun v36 => bindO (storeV 1 h1 a8 v36) fun h2 => bindO (binV .sub a0 a2) fun v40 => bindO (binV .mul a8 v40) fun v41 => bindO (binV .rem v41 a0) fun v43 => bindO (binV .add a9 (.int .i64 1)) fun v20 => K [a0, a1, a2, a7, v43, v20] h2) (K0 [a7] h)
theorem wl_spec_l08Tangent_0 {a0 a1 a2 a7 a8 a9 : Value} {h : Hp} {K K0 : Kont} (H : q_spec_l08Tangent_0 a0 a1 a2 a7 a8 a9 h K K0) : ∀ e : Env, [e 0, e 1, e 2, e 7, e 8, e 9] = [a0, a1, a2, a7, a8, a9] → V FF l_spec_l08Tangent_0 (qsel [0, 1, 2, 7, 8, 9] K [(.exit 0, [7], K0)]) ⟨e, h⟩ := by
  intro e he; cases he; exact Eq.mp (by kernel_rfl) H
def y_spec_l08Tangent : YC :=
  .seq (.region false [mc 6 (.c (.slice none 0 0))])
 (.seq (.region false [m 10 1,
  o 11 (cl n_spec_l03Zero [10]),
  m 7 11])
 (.seq (.region false [m 12 0,
  p 13 (.bin .rem (k 1) 12),
  m 8 13])
 (.seq (.seq (.region false [mc 9 (k 0)])
 (.block 0
 (.loop [0, 1, 2, 7, 8, 9] [(.exit 0, [7])] l_spec_l08Tangent_0)))
 (.seq (.region false [m 44 7,
  m 6 44])
 (.ret)))))
theorem c_spec_l08Tangent : FF n_spec_l08Tangent = some ⟨45, y_spec_l08Tangent.er, [.tmp 6]⟩ := by kernel_rfl
def p_spec_l08Tangent (a0 a1 a2 : Value) (h : Hp) (R : Value → Hp → Prop) : Prop :=
  CallW FF n_spec_l03Zero [a1] h fun v11 h1 => bindO (binV .rem (.int .i64 1) a0) fun v13 => LP FF (YC.er l_spec_l08Tangent_0) [0, 1, 2, 7, 8, 9] [(.exit 0, [7], fun vs h2 => ∀ e : Env, [e 7] = vs → R (e 7) h2)] [a0, a1, a2, v11, v13, (.int .i64 0)] h1
theorem w_spec_l08Tangent {a0 a1 a2 : Value} {h : Hp} {R : Value → Hp → Prop} (H : p_spec_l08Tangent a0 a1 a2 h R) : CallW FF n_spec_l08Tangent [a0, a1, a2] h R := callV_fin c_spec_l08Tangent (Eq.mp (by kernel_rfl) H)
def l_spec_l08Euler_0 : YC :=
  .seq (.seq (.region false [m 26 12,
  m 27 1,
  p 28 (.bin .lss 26 27)])
 (.cond 28
 (.skip)
 (.exit 0)))
 (.seq (.block 1
 (.region false [m 31 10,
  p 32 (.indexAddr 1 31 (k 1)),
  o 33 (.load 1 false 32),
  m 34 12,
  m 35 9,
  m 36 12,
  p 37 (.indexAddr 1 35 36),
  o 38 (.load 1 false 37),
  p 39 (.indexAddr 1 33 34),
  e (.store 1 39 38)]))
 (.region false [m 29 12,
  p 30 (.bin .add 29 (k 1)),
  m 12 30]))
def q_spec_l08Euler_0 (a0 a1 a3 a9 a10 a11 a12 : Value) (h : Hp) (K K0 : Kont) : Prop :=
  bindO (binV .lss a12 a1) fun v28 => condM v28 (bindO (indexAddrV 1 a10 (.int .i64 1)) fun v32 => bindO (ldV 1 false h v32) fun v33 => bindO (indexAddrV 1 a9 a12) fun v37 => bindO (ldV 1 false h v37) fun v38 => bindO (indexAddrV 1 v33 a12) fun v39 => bindO (storeV 1 h v38 v39) fun h1 => bindO (binV .add a12 (.int .i64 1)) fun v30 => K [a0, a1, a3, a9, a10, a11, v30] h1) (K0 [a0, a1, a3, a9, a10, a11] h)
theorem wl_spec_l08Euler_0 {a0 a1 a3 a9 a10 a11 a12 : Value} {h : Hp} {K K0 : Kont} (H : q_spec_l08Euler_0 a0 a1 a3 a9 a10 a11 a12 h K K0) : ∀ e : Env, [e 0, e 1, e 3, e 9, e 10, e 11, e 12] = [a0, a1, a3, a9, a10, a11, a12] → V FF l_spec_l08Euler_0 (qsel [0, 1, 3, 9, 10, 11, 12] K [(.exit 0, [0, 1, 3, 9, 10, 11], K0)]) ⟨e, h⟩ := by
  intro e he; cases he; exact Eq.mp (by kernel_rfl) H
def l_spec_l08Euler_1 : YC :=
  .seq (.seq (.region false [m 40 13,
  m 41 1,
  p 42 (.bin .lss 40 41)])
 (.cond 42
 (.skip)
 (.exit 2)))
 (.seq (.block 3
 (.seq (.region false [m 45 10,
  m 46 13,
  p 47 (.indexAddr 1 45 46),
  o 48 (.load 1 false 47),
  m 14 48])
 (.region false [m 49 14,
  m 50 14,
  p 51 (.indexAddr 1 50 (k 1)),
  o 52 (.load 1 false 51),
  m 53 9,
  m 54 13,
  p 55 (.indexAddr 1 53 54),
  o 56 (.load 1 false 55),
  p 57 (.bin .add 52 56),
  m 58 0,
  p 59 (.bin .rem 57 58),
  p 60 (.indexAddr 1 49 (k 1)),
  e (.store 1 60 59)])))
 (.region false [m 43 13,
  p 44 (.bin .add 43 (k 1)),
  m 13 44]))
def q_spec_l08Euler_1 (a0 a1 a3 a9 a10 a11 a13 : Value) (h : Hp) (K K0 : Kont) : Prop :=
  bindO (binV .lss a13 a1) fun v42 => condM v42 (bindO (indexAddrV 1 a10 a13) fun v47 => bindO (ldV 1 false h v47) fun v48 => bindO (indexAddrV 1 v48 (.int .i64 1)) fun v51 => bindO (ldV 1 false h v51) fun v52 => bindO (indexAddrV 1 a9 a13) fun v55 => bindO (ldV 1 false h v55) fun v56 => bindO (binV .add v52 v56) fun v57 => bindO (binV .rem v57 a0) fun v59 => bindO (indexAddrV 1 v48 (.int .i64 1)) fun v60 => bindO (storeV 1 h v59 v60) fun h1 => bindO (binV .add a13 (.int .i64 1)) fun v44 => K [a0, a1, a3, a9, a10, a11, v44] h1) (K0 [a0, a1, a3, a10, a11] h)
theorem wl_spec_l08Euler_1 {a0 a1 a3 a9 a10 a11 a13 : Value} {h : Hp} {K K0 : Kont} (H : q_spec_l08Euler_1 a0 a1 a3 a9 a10 a11 a13 h K K0) : ∀ e : Env, [e 0, e 1, e 3, e 9, e 10, e 11, e 13] = [a0, a1, a3, a9, a10, a11, a13] → V FF l_spec_l08Euler_1 (qsel [0, 1, 3, 9, 10, 11, 13] K [(.exit 2, [0, 1, 3, 10, 11], K0)]) ⟨e, h⟩ := by
  intro e he; cases he; exact Eq.mp (by kernel_rfl) H
def l_spec_l08Euler_2 : YC :=
  .seq (.seq (.region false [m 63 16,
  p 64 (.bin .mul (k 4) 63),
  m 65 1,
  p 66 (.bin .leq 64 65)])
 (.cond 66
 (.skip)
 (.exit 4)))
 (.seq (.block 5
 (.seq (.region false [m 69 11,
  m 70 16,
  p 71 (.bin .mul (k 2) 70),
  p 72 (.indexAddr 1 69 71),
  o 73 (.load 1 false 72),
  m 74 16,
  p 75 (.bin .mul (k 2) 74),
  m 76 15,
  p 77 (.indexAddr 1 73 75),
  e (.store 1 77 76)])
 (.region false [m 78 15,
  m 79 3,
  p 80 (.bin .mul 78 79),
  m 81 0,
  p 82 (.bin .rem 80 81),
  m 15 82])))
 (.region false [m 67 16,
  p 68 (.bin .add 67 (k 1)),
  m 16 68]))
def q_spec_l08Euler_2 (a0 a1 a3 a10 a11 a15 a16 : Value) (h : Hp) (K K0 : Kont) : Prop :=
  bindO (binV .mul (.int .i64 4) a16) fun v64 => bindO (binV .leq v64 a1) fun v66 => condM v66 (bindO (binV .mul (.int .i64 2) a16) fun v71 => bindO (indexAddrV 1 a11 v71) fun v72 => bindO (ldV 1 false h v72) fun v73 => bindO (binV .mul (.int .i64 2) a16) fun v75 => bindO (indexAddrV 1 v73 v75) fun v77 => bindO (storeV 1 h a15 v77) fun h1 => bindO (binV .mul a15 a3) fun v80 => bindO (binV .rem v80 a0) fun v82 => bindO (binV .add a16 (.int .i64 1)) fun v68 => K [a0, a1, a3, a10, a11, v82, v68] h1) (K0 [a0, a10, a11] h)
theorem wl_spec_l08Euler_2 {a0 a1 a3 a10 a11 a15 a16 : Value} {h : Hp} {K K0 : Kont} (H : q_spec_l08Euler_2 a0 a1 a3 a10 a11 a15 a16 h K K0) : ∀ e : Env, [e 0, e 1, e 3, e 10, e 11, e 15, e 16] = [a0, a1, a3, a10, a11, a15, a16] → V FF l_spec_l08Euler_2 (qsel [0, 1, 3, 10, 11, 15, 16] K [(.exit 4, [0, 10, 11], K0)]) ⟨e, h⟩ := by
  intro e he; cases he; exact Eq.mp (by kernel_rfl) H
def y_spec_l08Euler : YC :=
  .seq (.region false [mc 8 (.c (.slice none 0 0))])
 (.seq (.region false [m 17 0,
  m 18 1,
  m 19 2,
  m 20 3,
  o 21 (cl n_spec_l08Root [17, 18, 19, 20]),
  m 22 1,
  o 23 (cl n_spec_l03Zero [22]),
  m 24 1,
  o 25 (cl n_spec_l03Zero [24]),
  m 9 21,
  m 10 23,
  m 11 25])
 (.seq (.seq (.region false [mc 12 (k 0)])
 (.block 0
 (.loop [0, 1, 3, 9, 10, 11, 12] [(.exit 0, [0, 1, 3, 9, 10, 11])] l_spec_l08Euler_0)))
 (.seq (.seq (.region false [mc 13 (k 0)])
 (.block 2
 (.loop [0, 1, 3, 9, 10, 11, 13] [(.exit 2, [0, 1, 3, 10, 11])] l_spec_l08Euler_1)))
 (.seq (.region false [m 61 0,
  p 62 (.bin .rem (k 1) 61),
  m 15 62])
 (.seq (.seq (.region false [mc 16 (k 0)])
 (.block 4
 (.loop [0, 1, 3, 10, 11, 15, 16] [(.exit 4, [0, 10, 11])] l_spec_l08Euler_2)))
 (.seq (.region false [m 83 0,
  m 84 10,
  m 85 11,
  o 86 (cl n_spec_l03Times [83, 84, 85]),
  m 8 86])
 (.ret)))))))
theorem c_spec_l08Euler : FF n_spec_l08Euler = some ⟨87, y_spec_l08Euler.er, [.tmp 8]⟩ := by kernel_rfl
def p_spec_l08Euler (a0 a1 a2 a3 : Value) (h : Hp) (R : Value → Hp → Prop) : Prop :=
  CallW FF n_spec_l08Root [a0, a1, a2, a3] h fun v21 h1 => CallW FF n_spec_l03Zero [a1] h1 fun v23 h2 => CallW FF n_spec_l03Zero [a1] h2 fun v25 h3 => LP FF (YC.er l_spec_l08Euler_0) [0, 1, 3, 9, 10, 11, 12] [(.exit 0, [0, 1, 3, 9, 10, 11], fun vs h4 => ∀ e : Env, [e 0, e 1, e 3, e 9, e 10, e 11] = vs → LP FF (YC.er l_spec_l08Euler_1) [0, 1, 3, 9, 10, 11, 13] [(.exit 2, [0, 1, 3, 10, 11], fun vs_1 h5 => ∀ e_1 : Env, [e_1 0, e_1 1, e_1 3, e_1 10, e_1 11] = vs_1 → bindO (binV .rem (.int .i64 1) (e_1 0)) fun v62 => LP FF (YC.er l_spec_l08Euler_2) [0, 1, 3, 10, 11, 15, 16] [(.exit 4, [0, 10, 11], fun vs_2 h6 => ∀ e_2 : Env, [e_2 0, e_2 10, e_2 11] = vs_2 → CallW FF n_spec_l03Times [(e_2 0), (e_2 10), (e_2 11)] h6 fun v86 h7 => R v86 h7)] [(e_1 0), (e_1 1), (e_1 3), (e_1 10), (e_1 11), v62, (.int .i64 0)] h5)] [(e 0), (e 1), (e 3), (e 9), (e 10), (e 11), (.int .i64 0)] h4)] [a0, a1, a3, v21, v23, v25, (.int .i64 0)] h3
theorem w_spec_l08Euler {a0 a1 a2 a3 : Value} {h : Hp} {R : Value → Hp → Prop} (H : p_spec_l08Euler a0 a1 a2 a3 h R) : CallW FF n_spec_l08Euler [a0, a1, a2, a3] h R := callV_fin c_spec_l08Euler (Eq.mp (by kernel_rfl) H)
def l_spec_l08Weierstrass_0 : YC :=
  .seq (.seq (.region false [m 39 10,
  m 40 9,
  p 41 (.bin .lss 39 40)])
 (.cond 41
 (.skip)
 (.exit 2)))
 (.seq (.block 3
 (.region false [m 44 8,
  m 45 10,
  p 46 (.indexAddr 1 44 45),
  o 47 (.load 1 false 46),
  m 48 9,
  p 49 (.bin .sub 48 (k 1)),
  m 50 10,
  p 51 (.bin .sub 49 50),
  m 52 7,
  m 53 9,
  p 54 (.indexAddr 1 52 53),
  o 55 (.load 1 false 54),
  p 56 (.indexAddr 1 47 51),
  e (.store 1 56 55)]))
 (.region false [m 42 10,
  p 43 (.bin .add 42 (k 1)),
  m 10 43]))
def q_spec_l08Weierstrass_0 (a0 a1 a2 a7 a8 a9 a10 : Value) (h : Hp) (K K0 : Kont) : Prop :=
  bindO (binV .lss a10 a9) fun v41 => condM v41 (bindO (indexAddrV 1 a8 a10) fun v46 => bindO (ldV 1 false h v46) fun v47 => bindO (binV .sub a9 (.int .i64 1)) fun v49 => bindO (binV .sub v49 a10) fun v51 => bindO (indexAddrV 1 a7 a9) fun v54 => bindO (ldV 1 false h v54) fun v55 => bindO (indexAddrV 1 v47 v51) fun v56 => bindO (storeV 1 h v55 v56) fun h1 => bindO (binV .add a10 (.int .i64 1)) fun v43 => K [a0, a1, a2, a7, a8, a9, v43] h1) (K0 [a0, a1, a2, a7, a8, a9] h)
theorem wl_spec_l08Weierstrass_0 {a0 a1 a2 a7 a8 a9 a10 : Value} {h : Hp} {K K0 : Kont} (H : q_spec_l08Weierstrass_0 a0 a1 a2 a7 a8 a9 a10 h K K0) : ∀ e : Env, [e 0, e 1, e 2, e 7, e 8, e 9, e 10] = [a0, a1, a2, a7, a8, a9, a10] → V FF l_spec_l08Weierstrass_0 (qsel [0, 1, 2, 7, 8, 9, 10] K [(.exit 2, [0, 1, 2, 7, 8, 9], K0)]) ⟨e, h⟩ := by
  intro e he; cases he; exact Eq.mp (by kernel_rfl) H
def l_spec_l08Weierstrass_1 : YC :=
  .seq (.seq (.region false [m 33 9,
  m 34 1,
  p 35 (.bin .add 34 (k 1)),
  p 36 (.bin .leq 33 35)])
 (.cond 36
 (.skip)
 (.exit 0)))
 (.seq (.block 1
 (.seq (.region false [mc 10 (k 0)])
 (.block 2
 (.loop [0, 1, 2, 7, 8, 9, 10] [(.exit 2, [0, 1, 2, 7, 8, 9])] l_spec_l08Weierstrass_0))))
 (.region false [m 37 9,
  p 38 (.bin .add 37 (k 1)),
  m 9 38]))
def q_spec_l08Weierstrass_1 (a0 a1 a2 a7 a8 a9 : Value) (h : Hp) (K K0 : Kont) : Prop :=
  bindO (binV .add a1 (.int .i64 1)) fun v35 => bindO (binV .leq a9 v35) fun v36 => condM v36 (LP FF (YC.er l_spec_l08Weierstrass_0) [0, 1, 2, 7, 8, 9, 10] [(.exit 2, [0, 1, 2, 7, 8, 9], fun vs h1 => ∀ e : Env, [e 0, e 1, e 2, e 7, e 8, e 9] = vs → bindO (binV .add (e 9) (.int .i64 1)) fun v38 => K [(e 0), (e 1), (e 2), (e 7), (e 8), v38] h1)] [a0, a1, a2, a7, a8, a9, (.int .i64 0)] h) (K0 [a0, a1, a2, a7, a8] h)
theorem wl_spec_l08Weierstrass_1 {a0 a1 a2 a7 a8 a9 : Value} {h : Hp} {K K0 : Kont} (H : q_spec_l08Weierstrass_1 a0 a1 a2 a7 a8 a9 h K K0) : ∀ e : Env, [e 0, e 1, e 2, e 7, e 8, e 9] = [a0, a1, a2, a7, a8, a9] → V FF l_spec_l08Weierstrass_1 (qsel [0, 1, 2, 7, 8, 9] K [(.exit 0, [0, 1, 2, 7, 8], K0)]) ⟨e, h⟩ := by
  intro e he; cases he; exact Eq.mp (by kernel_rfl) H
def l_spec_l08Weierstrass_2 : YC :=
  .seq (.seq (.region false [m 65 13,
  m 66 1,
  p 67 (.bin .leq 65 66)])
 (.cond 67
 (.skip)
 (.exit 4)))
 (.seq (.block 5
 (.region false [m 70 12,
  m 71 13,
  p 72 (.indexAddr 1 70 71),
  o 73 (.load 1 false 72),
  m 74 7,
  m 75 13,
  p 76 (.indexAddr 1 74 75),
  o 77 (.load 1 false 76),
  p 78 (.indexAddr 1 73 (k 0)),
  e (.store 1 78 77)]))
 (.region false [m 68 13,
  p 69 (.bin .add 68 (k 1)),
  m 13 69]))
def q_spec_l08Weierstrass_2 (a0 a1 a2 a7 a8 a11 a12 a13 : Value) (h : Hp) (K K0 : Kont) : Prop :=
  bindO (binV .leq a13 a1) fun v67 => condM v67 (bindO (indexAddrV 1 a12 a13) fun v72 => bindO (ldV 1 false h v72) fun v73 => bindO (indexAddrV 1 a7 a13) fun v76 => bindO (ldV 1 false h v76) fun v77 => bindO (indexAddrV 1 v73 (.int .i64 0)) fun v78 => bindO (storeV 1 h v77 v78) fun h1 => bindO (binV .add a13 (.int .i64 1)) fun v69 => K [a0, a1, a2, a7, a8, a11, a12, v69] h1) (K0 [a0, a1, a2, a7, a8, a11, a12] h)
theorem wl_spec_l08Weierstrass_2 {a0 a1 a2 a7 a8 a11 a12 a13 : Value} {h : Hp} {K K0 : Kont} (H : q_spec_l08Weierstrass_2 a0 a1 a2 a7 a8 a11 a12 a13 h K K0) : ∀ e : Env, [e 0, e 1, e 2, e 7, e 8, e 11, e 12, e 13] = [a0, a1, a2, a7, a8, a11, a12, a13] → V FF l_spec_l08Weierstrass_2 (qsel [0, 1, 2, 7, 8, 11, 12, 13] K [(.exit 4, [0, 1, 2, 7, 8, 11, 12], K0)]) ⟨e, h⟩ := by
  intro e he; cases he; exact Eq.mp (by kernel_rfl) H
def l_spec_l08Weierstrass_3 : YC :=
  .seq (.seq (.region false [m 174 19,
  m 175 1,
  p 176 (.bin .leq 174 175)])
 (.cond 176
 (.skip)
 (.exit 6)))
 (.seq (.block 7
 (.region false [m 179 18,
  m 180 0,
  p 181 (.bin .sub 180 (k 1)),
  o 182 (.mkrow y_t_int64 1 2 [.int .i64 0] [(0, (k 1)), (1, 181)]),
  m 183 19,
  p 184 (.bin .rem 183 (k 2)),
  p 185 (.indexAddr 1 182 184),
  o 186 (.load 1 false 185),
  o 187 (.mkrow y_t_int64 1 1 [.int .i64 0] [(0, 186)]),
  o 188 (.append y_t_int64 1 8 179 187),
  m 18 188]))
 (.region false [m 177 19,
  p 178 (.bin .add 177 (k 1)),
  m 19 178]))
def q_spec_l08Weierstrass_3 (a0 a1 a2 a7 a11 a16 a17 a18 a19 : Value) (h : Hp) (K K0 : Kont) : Prop :=
  bindO (binV .leq a19 a1) fun v176 => condM v176 (bindO (binV .sub a0 (.int .i64 1)) fun v181 => bindO (rowV 1 2 [.int .i64 0] [(0, (.int .i64 1)), (1, v181)]) fun c182 => newB h ⟨c182, y_t_int64, true⟩ fun b182 h1 => bindO (binV .rem a19 (.int .i64 2)) fun v184 => bindO (indexAddrV 1 (.slice (some ⟨b182, 0, none⟩) 2 1) v184) fun v185 => bindO (ldV 1 false h1 v185) fun v186 => bindO (rowV 1 1 [.int .i64 0] [(0, v186)]) fun c187 => newB h1 ⟨c187, y_t_int64, true⟩ fun b187 h2 => bindVH (appendV y_t_int64 1 h2 a18 (.slice (some ⟨b187, 0, none⟩) 1 1)) fun v188 h3 => bindO (binV .add a19 (.int .i64 1)) fun v178 => K [a0, a1, a2, a7, a11, a16, a17, v188, v178] h3) (K0 [a0, a1, a2, a7, a11, a16, a17, a18] h)
theorem wl_spec_l08Weierstrass_3 {a0 a1 a2 a7 a11 a16 a17 a18 a19 : Value} {h : Hp} {K K0 : Kont} (H : q_spec_l08Weierstrass_3 a0 a1 a2 a7 a11 a16 a17 a18 a19 h K K0) : ∀ e : Env, [e 0, e 1, e 2, e 7, e 11, e 16, e 17, e 18, e 19] = [a0, a1, a2, a7, a11, a16, a17, a18, a19] → V FF l_spec_l08Weierstrass_3 (qsel [0, 1, 2, 7, 11, 16, 17, 18, 19] K [(.exit 6, [0, 1, 2, 7, 11, 16, 17, 18], K0)]) ⟨e, h⟩ := by
  intro e he; cases he; exact Eq.mp (by kernel_rfl) H
def l_spec_l08Weierstrass_4 : YC :=
  .seq (.seq (.region false [m 210 23,
  m 211 1,
  p 212 (.bin .leq 210 211)])
 (.cond 212
 (.skip)
 (.exit 8)))
 (.seq (.block 9
 (.seq (.region false [m 215 2,
  p 216 (.indexAddr 1 215 (k 2)),
  o 217 (.load 1 false 216),
  m 218 7,
  m 219 23,
  p 220 (.indexAddr 1 218 219),
  o 221 (.load 1 false 220),
  p 222 (.bin .mul 217 221),
  m 24 222])
 (.join [0, 1, 2, 7, 21, 22, 23, 24] (.seq (.region false [m 223 23,
  p 224 (.bin .eql 223 (k 1))])
 (.cond 224
 (.region false [m 225 24,
  m 226 2,
  p 227 (.indexAddr 1 226 (k 0)),
  o 228 (.load 1 false 227),
  p 229 (.bin .add 225 228),
  m 24 229])
 (.skip)))
 (.region false [m 230 22,
  m 231 0,
  m 232 24,
  m 233 0,
  p 234 (.bin .rem 232 233),
  p 235 (.bin .sub 231 234),
  m 236 0,
  p 237 (.bin .rem 235 236),
  o 238 (.mkrow y_t_int64 1 1 [.int .i64 0] [(0, 237)]),
  o 239 (.append y_t_int64 1 8 230 238),
  m 22 239]))))
 (.region false [m 213 23,
  p 214 (.bin .add 213 (k 1)),
  m 23 214]))
def q_spec_l08Weierstrass_4 (a0 a1 a2 a7 a21 a22 a23 : Value) (h : Hp) (K K0 : Kont) : Prop :=
  bindO (binV .leq a23 a1) fun v212 => condM v212 (bindO (indexAddrV 1 a2 (.int .i64 2)) fun v216 => bindO (ldV 1 false h v216) fun v217 => bindO (indexAddrV 1 a7 a23) fun v220 => bindO (ldV 1 false h v220) fun v221 => bindO (binV .mul v217 v221) fun v222 => JN (fun J => bindO (binV .eql a23 (.int .i64 1)) fun v224 => condM v224 (bindO (indexAddrV 1 a2 (.int .i64 0)) fun v227 => bindO (ldV 1 false h v227) fun v228 => bindO (binV .add v222 v228) fun v229 => J [a0, a1, a2, a7, a21, a22, a23, v229] h) (J [a0, a1, a2, a7, a21, a22, a23, v222] h)) fun vs h1 => ∀ e : Env, [e 0, e 1, e 2, e 7, e 21, e 22, e 23, e 24] = vs → bindO (binV .rem (e 24) (e 0)) fun v234 => bindO (binV .sub (e 0) v234) fun v235 => bindO (binV .rem v235 (e 0)) fun v237 => bindO (rowV 1 1 [.int .i64 0] [(0, v237)]) fun c238 => newB h1 ⟨c238, y_t_int64, true⟩ fun b238 h2 => bindVH (appendV y_t_int64 1 h2 (e 22) (.slice (some ⟨b238, 0, none⟩) 1 1)) fun v239 h3 => bindO (binV .add (e 23) (.int .i64 1)) fun v214 => K [(e 0), (e 1), (e 2), (e 7), (e 21), v239, v214] h3) (K0 [a0, a1, a21, a22] h)
theorem wl_spec_l08Weierstrass_4 {a0 a1 a2 a7 a21 a22 a23 : Value} {h : Hp} {K K0 : Kont} (H : q_spec_l08Weierstrass_4 a0 a1 a2 a7 a21 a22 a23 h K K0) : ∀ e : Env, [e 0, e 1, e 2, e 7, e 21, e 22, e 23] = [a0, a1, a2, a7, a21, a22, a23] → V FF l_spec_l08Weierstrass_4 (qsel [0, 1, 2, 7, 21, 22, 23] K [(.exit 8, [0, 1, 21, 22], K0)]) ⟨e, h⟩ := by
  intro e he; cases he; exact Eq.mp (by kernel_rfl) H
def y_spec_l08Weierstrass : YC :=
  .seq (.region false [mc 6 (.c (.slice none 0 0))])
 (.seq (.region false [m 26 0,
  m 27 1,
  p 28 (.bin .add 27 (k 1)),
  m 29 2,
  o 30 (cl n_spec_l08Series [26, 28, 29]),
  m 7 30])
 (.seq (.region false [m 31 1,
  o 32 (cl n_spec_l03Zero [31]),
  m 8 32])
 (.seq (.seq (.region false [mc 9 (k 1)])
 (.block 0
 (.loop [0, 1, 2, 7, 8, 9] [(.exit 0, [0, 1, 2, 7, 8])] l_spec_l08Weierstrass_1)))
 (.seq (.region false [m 57 1,
  o 58 (cl n_spec_l03Zero [57]),
  m 59 1,
  o 60 (cl n_spec_l03Zero [59]),
  m 11 58,
  m 12 60])
 (.seq (.region false [m 61 11,
  p 62 (.indexAddr 1 61 (k 1)),
  o 63 (.load 1 false 62),
  p 64 (.indexAddr 1 63 (k 0)),
  e (.store 1 64 (k 1))])
 (.seq (.seq (.region false [mc 13 (k 0)])
 (.block 4
 (.loop [0, 1, 2, 7, 8, 11, 12, 13] [(.exit 4, [0, 1, 2, 7, 8, 11, 12])] l_spec_l08Weierstrass_2)))
 (.seq (.region false [m 79 0,
  m 80 12,
  m 81 0,
  m 82 0,
  p 83 (.bin .sub 82 (k 1)),
  m 84 0,
  m 85 8,
  m 86 11,
  o 87 (cl n_spec_l03Times [84, 85, 86]),
  o 88 (cl n_spec_l03Scale [81, 83, 87]),
  o 89 (cl n_spec_l03Add [79, 80, 88]),
  m 14 89])
 (.seq (.region false [m 90 0,
  m 91 8,
  m 92 8,
  o 93 (cl n_spec_l03Times [90, 91, 92]),
  m 15 93])
 (.seq (.region true [m 94 0,
  m 95 0,
  m 96 2,
  p 97 (.indexAddr 1 96 (k 0)),
  o 98 (.load 1 false 97),
  m 99 8,
  ⟨some 100, cl n_spec_l03Scale [95, 98, 99], none, true⟩,
  m 101 0,
  m 102 2,
  p 103 (.indexAddr 1 102 (k 1)),
  ⟨some 104, .load 1 false 103, none, true⟩,
  m 105 14,
  o 106 (cl n_spec_l03Scale [101, 104, 105]),
  o 107 (cl n_spec_l03Add [94, 100, 106]),
  m 16 107])
 (.seq (.region false [m 108 0,
  m 109 16,
  m 110 0,
  m 111 2,
  p 112 (.indexAddr 1 111 (k 2)),
  o 113 (.load 1 false 112),
  m 114 15,
  o 115 (cl n_spec_l03Scale [110, 113, 114]),
  o 116 (cl n_spec_l03Add [108, 109, 115]),
  m 16 116])
 (.seq (.region true [m 117 0,
  m 118 16,
  m 119 0,
  m 120 2,
  p 121 (.indexAddr 1 120 (k 3)),
  ⟨some 122, .load 1 false 121, none, true⟩,
  p 123 (.bin .mul (k 2) 122),
  m 124 0,
  p 125 (.bin .rem 123 124),
  m 126 0,
  m 127 8,
  m 128 14,
  ⟨some 129, cl n_spec_l03Times [126, 127, 128], none, true⟩,
  o 130 (cl n_spec_l03Scale [119, 125, 129]),
  o 131 (cl n_spec_l03Add [117, 118, 130]),
  m 16 131])
 (.seq (.region true [m 132 0,
  m 133 16,
  m 134 0,
  m 135 2,
  p 136 (.indexAddr 1 135 (k 4)),
  ⟨some 137, .load 1 false 136, none, true⟩,
  p 138 (.bin .mul (k 3) 137),
  m 139 0,
  p 140 (.bin .rem 138 139),
  m 141 0,
  m 142 15,
  m 143 14,
  ⟨some 144, cl n_spec_l03Times [141, 142, 143], none, true⟩,
  o 145 (cl n_spec_l03Scale [134, 140, 144]),
  o 146 (cl n_spec_l03Add [132, 133, 145]),
  m 16 146])
 (.seq (.region true [m 147 0,
  m 148 0,
  m 149 2,
  p 150 (.indexAddr 1 149 (k 1)),
  o 151 (.load 1 false 150),
  m 152 8,
  ⟨some 153, cl n_spec_l03Scale [148, 151, 152], none, true⟩,
  m 154 0,
  m 155 2,
  p 156 (.indexAddr 1 155 (k 3)),
  ⟨some 157, .load 1 false 156, none, true⟩,
  m 158 15,
  o 159 (cl n_spec_l03Scale [154, 157, 158]),
  o 160 (cl n_spec_l03Add [147, 153, 159]),
  m 17 160])
 (.seq (.region true [m 161 0,
  m 162 17,
  m 163 0,
  m 164 2,
  p 165 (.indexAddr 1 164 (k 4)),
  ⟨some 166, .load 1 false 165, none, true⟩,
  m 167 0,
  m 168 15,
  m 169 8,
  ⟨some 170, cl n_spec_l03Times [167, 168, 169], none, true⟩,
  o 171 (cl n_spec_l03Scale [163, 166, 170]),
  o 172 (cl n_spec_l03Add [161, 162, 171]),
  m 17 172])
 (.seq (.region false [o 173 (.mkrow y_t_int64 1 0 [.int .i64 0] []),
  m 18 173])
 (.seq (.seq (.region false [mc 19 (k 0)])
 (.block 6
 (.loop [0, 1, 2, 7, 11, 16, 17, 18, 19] [(.exit 6, [0, 1, 2, 7, 11, 16, 17, 18])] l_spec_l08Weierstrass_3)))
 (.seq (.region false [m 189 0,
  m 190 16,
  m 191 0,
  m 192 18,
  m 193 17,
  o 194 (cl n_spec_l03After [191, 192, 193]),
  o 195 (cl n_spec_l03Times [189, 190, 194]),
  m 20 195])
 (.seq (.region false [m 196 0,
  m 197 0,
  m 198 11,
  m 199 11,
  o 200 (cl n_spec_l03Turn [199]),
  o 201 (cl n_spec_l03Add [197, 198, 200]),
  m 202 20,
  o 203 (cl n_spec_l03Add [196, 201, 202]),
  m 21 203])
 (.seq (.region false [m 204 0,
  m 205 0,
  p 206 (.bin .sub 205 (k 1)),
  m 207 21,
  o 208 (cl n_spec_l03Scale [204, 206, 207]),
  m 21 208])
 (.seq (.region false [o 209 (.mkrow y_t_int64 1 1 [.int .i64 0] [(0, (k 1))]),
  m 22 209])
 (.seq (.seq (.region false [mc 23 (k 1)])
 (.block 8
 (.loop [0, 1, 2, 7, 21, 22, 23] [(.exit 8, [0, 1, 21, 22])] l_spec_l08Weierstrass_4)))
 (.seq (.region false [m 240 1,
  p 241 (.bin .add 240 (k 1)),
  o 242 (.make y_t_int64 1 8 [.int .i64 0] 241),
  m 25 242])
 (.seq (.region false [m 243 25,
  m 244 0,
  p 245 (.bin .sub 244 (k 1)),
  p 246 (.indexAddr 1 243 (k 1)),
  e (.store 1 246 245)])
 (.seq (.region false [m 247 0,
  m 248 0,
  m 249 25,
  m 250 0,
  m 251 22,
  m 252 1,
  o 253 (cl n_spec_l02Inverse [250, 251, 252]),
  m 254 1,
  o 255 (cl n_spec_l02Times [248, 249, 253, 254]),
  m 256 21,
  o 257 (cl n_spec_l03After [247, 255, 256]),
  m 6 257])
 (.ret)))))))))))))))))))))))))
theorem c_spec_l08Weierstrass : FF n_spec_l08Weierstrass = some ⟨258, y_spec_l08Weierstrass.er, [.tmp 6]⟩ := by kernel_rfl
def p_spec_l08Weierstrass (a0 a1 a2 : Value) (h : Hp) (R : Value → Hp → Prop) : Prop :=
  bindO (binV .add a1 (.int .i64 1)) fun v28 => CallW FF n_spec_l08Series [a0, v28, a2] h fun v30 h1 => CallW FF n_spec_l03Zero [a1] h1 fun v32 h2 => LP FF (YC.er l_spec_l08Weierstrass_1) [0, 1, 2, 7, 8, 9] [(.exit 0, [0, 1, 2, 7, 8], fun vs h3 => ∀ e : Env, [e 0, e 1, e 2, e 7, e 8] = vs → CallW FF n_spec_l03Zero [(e 1)] h3 fun v58 h4 => CallW FF n_spec_l03Zero [(e 1)] h4 fun v60 h5 => bindO (indexAddrV 1 v58 (.int .i64 1)) fun v62 => bindO (ldV 1 false h5 v62) fun v63 => bindO (indexAddrV 1 v63 (.int .i64 0)) fun v64 => bindO (storeV 1 h5 (.int .i64 1) v64) fun h6 => LP FF (YC.er l_spec_l08Weierstrass_2) [0, 1, 2, 7, 8, 11, 12, 13] [(.exit 4, [0, 1, 2, 7, 8, 11, 12], fun vs_1 h7 => ∀ e_1 : Env, [e_1 0, e_1 1, e_1 2, e_1 7, e_1 8, e_1 11, e_1 12] = vs_1 → bindO (binV .sub (e_1 0) (.int .i64 1)) fun v83 => CallW FF n_spec_l03Times [(e_1 0), (e_1 8), (e_1 11)] h7 fun v87 h8 => CallW FF n_spec_l03Scale [(e_1 0), v83, v87] h8 fun v88 h9 => CallW FF n_spec_l03Add [(e_1 0), (e_1 12), v88] h9 fun v89 h10 => CallW FF n_spec_l03Times [(e_1 0), (e_1 8), (e_1 8)] h10 fun v93 h11 => bindO (indexAddrV 1 (e_1 2) (.int .i64 0)) fun v97 => bindO (ldV 1 false h11 v97) fun v98 => CallW FF n_spec_l03Scale [(e_1 0), v98, (e_1 8)] h11 fun v100 h12 => keepB h11.nx h11 h12 ∧ (bindO (indexAddrV 1 (e_1 2) (.int .i64 1)) fun v103 => inB h11.nx v103 ∧ (bindO (ldV 1 false h12 v103) fun v104 => CallW FF n_spec_l03Scale [(e_1 0), v104, v89] h12 fun v106 h13 => CallW FF n_spec_l03Add [(e_1 0), v100, v106] h13 fun v107 h14 => bindO (indexAddrV 1 (e_1 2) (.int .i64 2)) fun v112 => bindO (ldV 1 false h14 v112) fun v113 => CallW FF n_spec_l03Scale [(e_1 0), v113, v93] h14 fun v115 h15 => CallW FF n_spec_l03Add [(e_1 0), v107, v115] h15 fun v116 h16 => bindO (indexAddrV 1 (e_1 2) (.int .i64 3)) fun v121 => inB h16.nx v121 ∧ (bindO (ldV 1 false h16 v121) fun v122 => bindO (binV .mul (.int .i64 2) v122) fun v123 => bindO (binV .rem v123 (e_1 0)) fun v125 => CallW FF n_spec_l03Times [(e_1 0), (e_1 8), v89] h16 fun v129 h17 => keepB h16.nx h16 h17 ∧ (CallW FF n_spec_l03Scale [(e_1 0), v125, v129] h17 fun v130 h18 => CallW FF n_spec_l03Add [(e_1 0), v116, v130] h18 fun v131 h19 => bindO (indexAddrV 1 (e_1 2) (.int .i64 4)) fun v136 => inB h19.nx v136 ∧ (bindO (ldV 1 false h19 v136) fun v137 => bindO (binV .mul (.int .i64 3) v137) fun v138 => bindO (binV .rem v138 (e_1 0)) fun v140 => CallW FF n_spec_l03Times [(e_1 0), v93, v89] h19 fun v144 h20 => keepB h19.nx h19 h20 ∧ (CallW FF n_spec_l03Scale [(e_1 0), v140, v144] h20 fun v145 h21 => CallW FF n_spec_l03Add [(e_1 0), v131, v145] h21 fun v146 h22 => bindO (indexAddrV 1 (e_1 2) (.int .i64 1)) fun v150 => bindO (ldV 1 false h22 v150) fun v151 => CallW FF n_spec_l03Scale [(e_1 0), v151, (e_1 8)] h22 fun v153 h23 => keepB h22.nx h22 h23 ∧ (bindO (indexAddrV 1 (e_1 2) (.int .i64 3)) fun v156 => inB h22.nx v156 ∧ (bindO (ldV 1 false h23 v156) fun v157 => CallW FF n_spec_l03Scale [(e_1 0), v157, v93] h23 fun v159 h24 => CallW FF n_spec_l03Add [(e_1 0), v153, v159] h24 fun v160 h25 => bindO (indexAddrV 1 (e_1 2) (.int .i64 4)) fun v165 => inB h25.nx v165 ∧ (bindO (ldV 1 false h25 v165) fun v166 => CallW FF n_spec_l03Times [(e_1 0), v93, (e_1 8)] h25 fun v170 h26 => keepB h25.nx h25 h26 ∧ (CallW FF n_spec_l03Scale [(e_1 0), v166, v170] h26 fun v171 h27 => CallW FF n_spec_l03Add [(e_1 0), v160, v171] h27 fun v172 h28 => bindO (rowV 1 0 [.int .i64 0] []) fun c173 => newB h28 ⟨c173, y_t_int64, true⟩ fun b173 h29 => LP FF (YC.er l_spec_l08Weierstrass_3) [0, 1, 2, 7, 11, 16, 17, 18, 19] [(.exit 6, [0, 1, 2, 7, 11, 16, 17, 18], fun vs_2 h30 => ∀ e_2 : Env, [e_2 0, e_2 1, e_2 2, e_2 7, e_2 11, e_2 16, e_2 17, e_2 18] = vs_2 → CallW FF n_spec_l03After [(e_2 0), (e_2 18), (e_2 17)] h30 fun v194 h31 => CallW FF n_spec_l03Times [(e_2 0), (e_2 16), v194] h31 fun v195 h32 => CallW FF n_spec_l03Turn [(e_2 11)] h32 fun v200 h33 => CallW FF n_spec_l03Add [(e_2 0), (e_2 11), v200] h33 fun v201 h34 => CallW FF n_spec_l03Add [(e_2 0), v201, v195] h34 fun v203 h35 => bindO (binV .sub (e_2 0) (.int .i64 1)) fun v206 => CallW FF n_spec_l03Scale [(e_2 0), v206, v203] h35 fun v208 h36 => bindO (rowV 1 1 [.int .i64 0] [(0, (.int .i64 1))]) fun c209 => newB h36 ⟨c209, y_t_int64, true⟩ fun b209 h37 => LP FF (YC.er l_spec_l08Weierstrass_4) [0, 1, 2, 7, 21, 22, 23] [(.exit 8, [0, 1, 21, 22], fun vs_3 h38 => ∀ e_3 : Env, [e_3 0, e_3 1, e_3 21, e_3 22] = vs_3 → bindO (binV .add (e_3 1) (.int .i64 1)) fun v241 => bindO (makN v241) fun c242 => newB h38 ⟨reps c242 [.int .i64 0], y_t_int64, true⟩ fun b242 h39 => bindO (binV .sub (e_3 0) (.int .i64 1)) fun v245 => bindO (indexAddrV 1 (.slice (some ⟨b242, 0, none⟩) c242 1) (.int .i64 1)) fun v246 => bindO (storeV 1 h39 v245 v246) fun h40 => CallW FF n_spec_l02Inverse [(e_3 0), (e_3 22), (e_3 1)] h40 fun v253 h41 => CallW FF n_spec_l02Times [(e_3 0), (.slice (some ⟨b242, 0, none⟩) c242 1), v253, (e_3 1)] h41 fun v255 h42 => CallW FF n_spec_l03After [(e_3 0), v255, (e_3 21)] h42 fun v257 h43 => R v257 h43)] [(e_2 0), (e_2 1), (e_2 2), (e_2 7), v208, (.slice (some ⟨b209, 0, none⟩) 1 1), (.int .i64 1)] h37)] [(e_1 0), (e_1 1), (e_1 2), (e_1 7), (e_1 11), v146, v172, (.slice (some ⟨b173, 0, none⟩) 0 1), (.int .i64 0)] h29)))))))))))] [(e 0), (e 1), (e 2), (e 7), (e 8), v58, v60, (.int .i64 0)] h6)] [a0, a1, a2, v30, v32, (.int .i64 1)] h2
theorem w_spec_l08Weierstrass {a0 a1 a2 : Value} {h : Hp} {R : Value → Hp → Prop} (H : p_spec_l08Weierstrass a0 a1 a2 h R) : CallW FF n_spec_l08Weierstrass [a0, a1, a2] h R := callV_fin c_spec_l08Weierstrass (Eq.mp (by kernel_rfl) H)
def l_spec_l08DrawList_0 : YC :=
  .seq (.seq (.region false [m 8 6,
  p 9 (.bin .lss 8 (k 5))])
 (.cond 9
 (.skip)
 (.exit 0)))
 (.seq (.block 1
 (.region false [m 12 5,
  m 13 0,
  m 14 0,
  m 15 1,
  o 16 (cl n_spec_l01Next [14, 15]),
  o 17 (.mkrow y_t_int64 1 4 [.int .i64 0] [(0, (k 0)), (1, (k 0)), (2, (k 1)), (3, 16)]),
  o 18 (cl n_spec_l01Pick [13, 17]),
  o 19 (.mkrow y_t_int64 1 1 [.int .i64 0] [(0, 18)]),
  o 20 (.append y_t_int64 1 8 12 19),
  m 5 20]))
 (.region false [m 10 6,
  p 11 (.bin .add 10 (k 1)),
  m 6 11]))
def q_spec_l08DrawList_0 (a0 a1 a5 a6 : Value) (h : Hp) (K K0 : Kont) : Prop :=
  bindO (binV .lss a6 (.int .i64 5)) fun v9 => condM v9 (CallW FF n_spec_l01Next [a0, a1] h fun v16 h1 => bindO (rowV 1 4 [.int .i64 0] [(0, (.int .i64 0)), (1, (.int .i64 0)), (2, (.int .i64 1)), (3, v16)]) fun c17 => newB h1 ⟨c17, y_t_int64, true⟩ fun b17 h2 => CallW FF n_spec_l01Pick [a0, (.slice (some ⟨b17, 0, none⟩) 4 1)] h2 fun v18 h3 => bindO (rowV 1 1 [.int .i64 0] [(0, v18)]) fun c19 => newB h3 ⟨c19, y_t_int64, true⟩ fun b19 h4 => bindVH (appendV y_t_int64 1 h4 a5 (.slice (some ⟨b19, 0, none⟩) 1 1)) fun v20 h5 => bindO (binV .add a6 (.int .i64 1)) fun v11 => K [a0, a1, v20, v11] h5) (K0 [a5] h)
theorem wl_spec_l08DrawList_0 {a0 a1 a5 a6 : Value} {h : Hp} {K K0 : Kont} (H : q_spec_l08DrawList_0 a0 a1 a5 a6 h K K0) : ∀ e : Env, [e 0, e 1, e 5, e 6] = [a0, a1, a5, a6] → V FF l_spec_l08DrawList_0 (qsel [0, 1, 5, 6] K [(.exit 0, [5], K0)]) ⟨e, h⟩ := by
  intro e he; cases he; exact Eq.mp (by kernel_rfl) H
def y_spec_l08DrawList : YC :=
  .seq (.region false [mc 4 (.c (.slice none 0 0))])
 (.seq (.region false [o 7 (.mkrow y_t_int64 1 0 [.int .i64 0] []),
  m 5 7])
 (.seq (.seq (.region false [mc 6 (k 0)])
 (.block 0
 (.loop [0, 1, 5, 6] [(.exit 0, [5])] l_spec_l08DrawList_0)))
 (.seq (.region false [m 21 5,
  m 4 21])
 (.ret))))
theorem c_spec_l08DrawList : FF n_spec_l08DrawList = some ⟨22, y_spec_l08DrawList.er, [.tmp 4]⟩ := by kernel_rfl
def p_spec_l08DrawList (a0 a1 : Value) (h : Hp) (R : Value → Hp → Prop) : Prop :=
  bindO (rowV 1 0 [.int .i64 0] []) fun c7 => newB h ⟨c7, y_t_int64, true⟩ fun b7 h1 => LP FF (YC.er l_spec_l08DrawList_0) [0, 1, 5, 6] [(.exit 0, [5], fun vs h2 => ∀ e : Env, [e 5] = vs → R (e 5) h2)] [a0, a1, (.slice (some ⟨b7, 0, none⟩) 0 1), (.int .i64 0)] h1
theorem w_spec_l08DrawList {a0 a1 : Value} {h : Hp} {R : Value → Hp → Prop} (H : p_spec_l08DrawList a0 a1 h R) : CallW FF n_spec_l08DrawList [a0, a1] h R := callV_fin c_spec_l08DrawList (Eq.mp (by kernel_rfl) H)
def l_spec_l02Reverse_0 : YC :=
  .seq (.seq (.region false [m 22 9,
  m 23 2,
  p 24 (.bin .leq 22 23)])
 (.cond 24
 (.skip)
 (.exit 0)))
 (.seq (.block 1
 (.seq (.region false [m 27 0,
  m 28 1,
  m 29 7,
  m 30 9,
  o 31 (cl n_spec_l02Compose [27, 28, 29, 30]),
  m 10 31])
 (.region false [m 32 7,
  m 33 9,
  m 34 0,
  m 35 10,
  m 36 9,
  p 37 (.indexAddr 1 35 36),
  o 38 (.load 1 false 37),
  p 39 (.bin .sub 34 38),
  m 40 8,
  p 41 (.bin .mul 39 40),
  m 42 0,
  p 43 (.bin .rem 41 42),
  p 44 (.indexAddr 1 32 33),
  e (.store 1 44 43)])))
 (.region false [m 25 9,
  p 26 (.bin .add 25 (k 1)),
  m 9 26]))
def q_spec_l02Reverse_0 (a0 a1 a2 a7 a8 a9 : Value) (h : Hp) (K K0 : Kont) : Prop :=
  bindO (binV .leq a9 a2) fun v24 => condM v24 (CallW FF n_spec_l02Compose [a0, a1, a7, a9] h fun v31 h1 => bindO (indexAddrV 1 v31 a9) fun v37 => bindO (ldV 1 false h1 v37) fun v38 => bindO (binV .sub a0 v38) fun v39 => bindO (binV .mul v39 a8) fun v41 => bindO (binV .rem v41 a0) fun v43 => bindO (indexAddrV 1 a7 a9) fun v44 => bindO (storeV 1 h1 v43 v44) fun h2 => bindO (binV .add a9 (.int .i64 1)) fun v26 => K [a0, a1, a2, a7, a8, v26] h2) (K0 [a7] h)
theorem wl_spec_l02Reverse_0 {a0 a1 a2 a7 a8 a9 : Value} {h : Hp} {K K0 : Kont} (H : q_spec_l02Reverse_0 a0 a1 a2 a7 a8 a9 h K K0) : ∀ e : Env, [e 0, e 1, e 2, e 7, e 8, e 9] = [a0, a1, a2, a7, a8, a9] → V FF l_spec_l02Reverse_0 (qsel [0, 1, 2, 7, 8, 9] K [(.exit 0, [7], K0)]) ⟨e, h⟩ := by
  intro e he; cases he; exact Eq.mp (by kernel_rfl) H
def y_spec_l02Reverse : YC :=
  .seq (.region false [mc 6 (.c (.slice none 0 0))])
 (.seq (.region false [m 11 2,
  p 12 (.bin .add 11 (k 1)),
  o 13 (.make y_t_int64 1 8 [.int .i64 0] 12),
  m 7 13])
 (.seq (.region false [m 14 0,
  m 15 1,
  p 16 (.indexAddr 1 15 (k 1)),
  o 17 (.load 1 false 16),
  o 18 (cl n_spec_l01Inv [14, 17]),
  m 8 18])
 (.seq (.region false [m 19 7,
  m 20 8,
  p 21 (.indexAddr 1 19 (k 1)),
  e (.store 1 21 20)])
 (.seq (.seq (.region false [mc 9 (k 2)])
 (.block 0
 (.loop [0, 1, 2, 7, 8, 9] [(.exit 0, [7])] l_spec_l02Reverse_0)))
 (.seq (.region false [m 45 7,
  m 6 45])
 (.ret))))))
theorem c_spec_l02Reverse : FF n_spec_l02Reverse = some ⟨46, y_spec_l02Reverse.er, [.tmp 6]⟩ := by kernel_rfl
def p_spec_l02Reverse (a0 a1 a2 : Value) (h : Hp) (R : Value → Hp → Prop) : Prop :=
  bindO (binV .add a2 (.int .i64 1)) fun v12 => bindO (makN v12) fun c13 => newB h ⟨reps c13 [.int .i64 0], y_t_int64, true⟩ fun b13 h1 => bindO (indexAddrV 1 a1 (.int .i64 1)) fun v16 => bindO (ldV 1 false h1 v16) fun v17 => CallW FF n_spec_l01Inv [a0, v17] h1 fun v18 h2 => bindO (indexAddrV 1 (.slice (some ⟨b13, 0, none⟩) c13 1) (.int .i64 1)) fun v21 => bindO (storeV 1 h2 v18 v21) fun h3 => LP FF (YC.er l_spec_l02Reverse_0) [0, 1, 2, 7, 8, 9] [(.exit 0, [7], fun vs h4 => ∀ e : Env, [e 7] = vs → R (e 7) h4)] [a0, a1, a2, (.slice (some ⟨b13, 0, none⟩) c13 1), v18, (.int .i64 2)] h3
theorem w_spec_l02Reverse {a0 a1 a2 : Value} {h : Hp} {R : Value → Hp → Prop} (H : p_spec_l02Reverse a0 a1 a2 h R) : CallW FF n_spec_l02Reverse [a0, a1, a2] h R := callV_fin c_spec_l02Reverse (Eq.mp (by kernel_rfl) H)
def y_spec_l03Both2 : YC :=
  .seq (.region false [mc 6 (.c (.slice none 0 0))])
 (.seq (.region false [m 7 0,
  m 8 1,
  m 9 2,
  m 10 2,
  o 11 (cl n_spec_l03Both [7, 8, 9, 10]),
  m 6 11])
 (.ret))
theorem c_spec_l03Both2 : FF n_spec_l03Both2 = some ⟨12, y_spec_l03Both2.er, [.tmp 6]⟩ := by kernel_rfl
def p_spec_l03Both2 (a0 a1 a2 : Value) (h : Hp) (R : Value → Hp → Prop) : Prop :=
  CallW FF n_spec_l03Both [a0, a1, a2, a2] h fun v11 h1 => R v11 h1
theorem w_spec_l03Both2 {a0 a1 a2 : Value} {h : Hp} {R : Value → Hp → Prop} (H : p_spec_l03Both2 a0 a1 a2 h R) : CallW FF n_spec_l03Both2 [a0, a1, a2] h R := callV_fin c_spec_l03Both2 (Eq.mp (by kernel_rfl) H)
def y_impl_Plane_number : YC :=
  .seq (.region false [o 2 (.box y_t_impl_Plane 2 0),
  o 4 (.box y_t_impl_Plane 2 (.c (.agg #[.int .i64 0, .slice none 0 0])))])
 (.seq (.region true [p 6 (.fieldAddr 0 2),
  ⟨some 7, .load 1 false 6, none, true⟩,
  o 8 (.load 2 true 2),
  ⟨some 9, cl n_impl_Plane_degree [8], none, true⟩,
  o 10 (cl n_impl_emptyPlane [7, 9]),
  o 5 (.box y_t_impl_Plane 2 (.c (.agg #[.int .i64 0, .slice none 0 0]))),
  e (.store 2 5 10)])
 (.seq (.region true [p 11 (.fieldAddr 1 5),
  ⟨some 12, .load 1 false 11, none, true⟩,
  p 13 (.indexAddr 1 12 (k 0)),
  ⟨some 14, .load 1 false 13, none, true⟩,
  m 15 1,
  p 16 (.fieldAddr 0 2),
  o 17 (.load 1 false 16),
  ⟨some 18, cl n_impl_mod [15, 17], none, true⟩,
  p 19 (.indexAddr 1 14 (k 0)),
  e (.store 1 19 18)])
 (.seq (.region false [o 20 (.load 2 true 5),
  e (.store 2 4 20)])
 (.ret))))
theorem c_impl_Plane_number : FF n_impl_Plane_number = some ⟨21, y_impl_Plane_number.er, [.cell 4 2 true]⟩ := by kernel_rfl
def p_impl_Plane_number (a0 a1 : Value) (h : Hp) (R : Value → Hp → Prop) : Prop :=
  bindO (boxV 2 a0) fun c2 => newB h ⟨c2, y_t_impl_Plane, true⟩ fun b2 h1 => bindO (boxV 2 (.agg #[.int .i64 0, .slice none 0 0])) fun c4 => newB h1 ⟨c4, y_t_impl_Plane, true⟩ fun b4 h2 => bindO (fieldAddrV 0 (.pointer (some ⟨b2, 0, none⟩))) fun v6 => inB h2.nx v6 ∧ (bindO (ldV 1 false h2 v6) fun v7 => bindO (ldV 2 true h2 (.pointer (some ⟨b2, 0, none⟩))) fun v8 => CallW FF n_impl_Plane_degree [v8] h2 fun v9 h3 => keepB h2.nx h2 h3 ∧ (CallW FF n_impl_emptyPlane [v7, v9] h3 fun v10 h4 => bindO (boxV 2 (.agg #[.int .i64 0, .slice none 0 0])) fun c5 => newB h4 ⟨c5, y_t_impl_Plane, true⟩ fun b5 h5 => bindO (storeV 2 h5 v10 (.pointer (some ⟨b5, 0, none⟩))) fun h6 => bindO (fieldAddrV 1 (.pointer (some ⟨b5, 0, none⟩))) fun v11 => inB h6.nx v11 ∧ (bindO (ldV 1 false h6 v11) fun v12 => bindO (indexAddrV 1 v12 (.int .i64 0)) fun v13 => inB h6.nx v13 ∧ (bindO (ldV 1 false h6 v13) fun v14 => bindO (fieldAddrV 0 (.pointer (some ⟨b2, 0, none⟩))) fun v16 => bindO (ldV 1 false h6 v16) fun v17 => CallW FF n_impl_mod [a1, v17] h6 fun v18 h7 => keepB h6.nx h6 h7 ∧ (bindO (indexAddrV 1 v14 (.int .i64 0)) fun v19 => bindO (storeV 1 h7 v18 v19) fun h8 => bindO (ldV 2 true h8 (.pointer (some ⟨b5, 0, none⟩))) fun v20 => bindO (storeV 2 h8 v20 (.pointer (some ⟨b4, 0, none⟩))) fun h9 => bindO (ldV 2 true h9 (.pointer (some ⟨b4, 0, none⟩))) fun r4 => R r4 h9)))))
theorem w_impl_Plane_number {a0 a1 : Value} {h : Hp} {R : Value → Hp → Prop} (H : p_impl_Plane_number a0 a1 h R) : CallW FF n_impl_Plane_number [a0, a1] h R := callV_fin c_impl_Plane_number (Eq.mp (by kernel_rfl) H)
def l_spec_l08Root_0 : YC :=
  .seq (.seq (.region false [m 38 13,
  m 39 11,
  p 40 (.bin .lss 38 39)])
 (.cond 40
 (.skip)
 (.exit 2)))
 (.seq (.block 3
 (.region false [m 43 12,
  m 44 0,
  m 45 10,
  m 46 13,
  p 47 (.indexAddr 1 45 46),
  o 48 (.load 1 false 47),
  p 49 (.bin .sub 44 48),
  m 50 10,
  m 51 11,
  m 52 13,
  p 53 (.bin .sub 51 52),
  p 54 (.indexAddr 1 50 53),
  o 55 (.load 1 false 54),
  p 56 (.bin .mul 49 55),
  p 57 (.bin .add 43 56),
  m 58 0,
  p 59 (.bin .rem 57 58),
  m 12 59]))
 (.region false [m 41 13,
  p 42 (.bin .add 41 (k 1)),
  m 13 42]))
def q_spec_l08Root_0 (a0 a1 a2 a3 a9 a10 a11 a12 a13 : Value) (h : Hp) (K K0 : Kont) : Prop :=
  bindO (binV .lss a13 a11) fun v40 => condM v40 (bindO (indexAddrV 1 a10 a13) fun v47 => bindO (ldV 1 false h v47) fun v48 => bindO (binV .sub a0 v48) fun v49 => bindO (binV .sub a11 a13) fun v53 => bindO (indexAddrV 1 a10 v53) fun v54 => bindO (ldV 1 false h v54) fun v55 => bindO (binV .mul v49 v55) fun v56 => bindO (binV .add a12 v56) fun v57 => bindO (binV .rem v57 a0) fun v59 => bindO (binV .add a13 (.int .i64 1)) fun v42 => K [a0, a1, a2, a3, a9, a10, a11, v59, v42] h) (K0 [a0, a1, a2, a3, a9, a10, a11, a12] h)
theorem wl_spec_l08Root_0 {a0 a1 a2 a3 a9 a10 a11 a12 a13 : Value} {h : Hp} {K K0 : Kont} (H : q_spec_l08Root_0 a0 a1 a2 a3 a9 a10 a11 a12 a13 h K K0) : ∀ e : Env, [e 0, e 1, e 2, e 3, e 9, e 10, e 11, e 12, e 13] = [a0, a1, a2, a3, a9, a10, a11, a12, a13] → V FF l_spec_l08Root_0 (qsel [0, 1, 2, 3, 9, 10, 11, 12, 13] K [(.exit 2, [0, 1, 2, 3, 9, 10, 11, 12], K0)]) ⟨e, h⟩ := by
  intro e he; cases he; exact Eq.mp (by kernel_rfl) H
def l_spec_l08Root_1 : YC :=
  .seq (.seq (.region false [m 21 11,
  m 22 1,
  p 23 (.bin .leq 21 22)])
 (.cond 23
 (.skip)
 (.exit 0)))
 (.seq (.block 1
 (.seq (.region false [mc 12 (k 0)])
 (.join [0, 1, 2, 3, 9, 10, 11, 12] (.seq (.region false [m 26 11,
  p 27 (.bin .eql 26 (k 2))])
 (.cond 27
 (.region false [m 28 0,
  p 29 (.bin .mul (k 2) 28),
  m 30 2,
  p 31 (.bin .mul (k 2) 30),
  p 32 (.bin .sub 29 31),
  m 33 0,
  p 34 (.bin .rem 32 33),
  m 12 34])
 (.skip)))
 (.join [0, 1, 2, 3, 9, 10, 11, 12] (.seq (.region false [m 35 11,
  p 36 (.bin .eql 35 (k 4))])
 (.cond 36
 (.region false [m 37 3,
  m 12 37])
 (.skip)))
 (.seq (.seq (.region false [mc 13 (k 1)])
 (.block 2
 (.loop [0, 1, 2, 3, 9, 10, 11, 12, 13] [(.exit 2, [0, 1, 2, 3, 9, 10, 11, 12])] l_spec_l08Root_0)))
 (.region false [m 60 10,
  m 61 11,
  m 62 12,
  m 63 9,
  p 64 (.bin .mul 62 63),
  m 65 0,
  p 66 (.bin .rem 64 65),
  p 67 (.indexAddr 1 60 61),
  e (.store 1 67 66)]))))))
 (.region false [m 24 11,
  p 25 (.bin .add 24 (k 1)),
  m 11 25]))
def q_spec_l08Root_1 (a0 a1 a2 a3 a9 a10 a11 : Value) (h : Hp) (K K0 : Kont) : Prop :=
  bindO (binV .leq a11 a1) fun v23 => condM v23 (JN (fun J => bindO (binV .eql a11 (.int .i64 2)) fun v27 => condM v27 (bindO (binV .mul (.int .i64 2) a0) fun v29 => bindO (binV .mul (.int .i64 2) a2) fun v31 => bindO (binV .sub v29 v31) fun v32 => bindO (binV .rem v32 a0) fun v34 => J [a0, a1, a2, a3, a9, a10, a11, v34] h) (J [a0, a1, a2, a3, a9, a10, a11, (.int .i64 0)] h)) fun vs h1 => ∀ e : Env, [e 0, e 1, e 2, e 3, e 9, e 10, e 11, e 12] = vs → JN (fun J => bindO (binV .eql (e 11) (.int .i64 4)) fun v36 => condM v36 (J [(e 0), (e 1), (e 2), (e 3), (e 9), (e 10), (e 11), (e 3)] h1) (J [(e 0), (e 1), (e 2), (e 3), (e 9), (e 10), (e 11), (e 12)] h1)) fun vs_1 h2 => ∀ e_1 : Env, [e_1 0, e_1 1, e_1 2, e_1 3, e_1 9, e_1 10, e_1 11, e_1 12] = vs_1 → LP FF (YC.er l_spec_l08Root_0) [0, 1, 2, 3, 9, 10, 11, 12, 13] [(.exit 2, [0, 1, 2, 3, 9, 10, 11, 12], fun vs_2 h3 => ∀ e_2 : Env, [e_2 0, e_2 1, e_2 2, e_2 3, e_2 9, e_2 10, e_2 11, e_2 12] = vs_2 → bindO (binV .mul (e_2 12) (e_2 9)) fun v64 => bindO (binV .rem v64 (e_2 0)) fun v66 => bindO (indexAddrV 1 (e_2 10) (e_2 11)) fun v67 => bindO (storeV 1 h3 v66 v67) fun h4 => bindO (binV .add (e_2 11) (.int .i64 1)) fun v25 => K [(e_2 0), (e_2 1), (e_2 2), (e_2 3), (e_2 9), (e_2 10), v25] h4)] [(e_1 0), (e_1 1), (e_1 2), (e_1 3), (e_1 9), (e_1 10), (e_1 11), (e_1 12), (.int .i64 1)] h2) (K0 [a10] h)
theorem wl_spec_l08Root_1 {a0 a1 a2 a3 a9 a10 a11 : Value} {h : Hp} {K K0 : Kont} (H : q_spec_l08Root_1 a0 a1 a2 a3 a9 a10 a11 h K K0) : ∀ e : Env, [e 0, e 1, e 2, e 3, e 9, e 10, e 11] = [a0, a1, a2, a3, a9, a10, a11] → V FF l_spec_l08Root_1 (qsel [0, 1, 2, 3, 9, 10, 11] K [(.exit 0, [10], K0)]) ⟨e, h⟩ := by
  intro e he; cases he; exact Eq.mp (by kernel_rfl) H
def y_spec_l08Root : YC :=
  .seq (.region false [mc 8 (.c (.slice none 0 0))])
 (.seq (.region false [m 14 0,
  o 15 (cl n_spec_l01Inv [14, (k 2)]),
  m 16 1,
  p 17 (.bin .add 16 (k 1)),
  o 18 (.make y_t_int64 1 8 [.int .i64 0] 17),
  m 9 15,
  m 10 18])
 (.seq (.region false [m 19 10,
  p 20 (.indexAddr 1 19 (k 0)),
  e (.store 1 20 (k 1))])
 (.seq (.seq (.region false [mc 11 (k 1)])
 (.block 0
 (.loop [0, 1, 2, 3, 9, 10, 11] [(.exit 0, [10])] l_spec_l08Root_1)))
 (.seq (.region false [m 68 10,
  m 8 68])
 (.ret)))))
theorem c_spec_l08Root : FF n_spec_l08Root = some ⟨69, y_spec_l08Root.er, [.tmp 8]⟩ := by kernel_rfl
def p_spec_l08Root (a0 a1 a2 a3 : Value) (h : Hp) (R : Value → Hp → Prop) : Prop :=
  CallW FF n_spec_l01Inv [a0, (.int .i64 2)] h fun v15 h1 => bindO (binV .add a1 (.int .i64 1)) fun v17 => bindO (makN v17) fun c18 => newB h1 ⟨reps c18 [.int .i64 0], y_t_int64, true⟩ fun b18 h2 => bindO (indexAddrV 1 (.slice (some ⟨b18, 0, none⟩) c18 1) (.int .i64 0)) fun v20 => bindO (storeV 1 h2 (.int .i64 1) v20) fun h3 => LP FF (YC.er l_spec_l08Root_1) [0, 1, 2, 3, 9, 10, 11] [(.exit 0, [10], fun vs h4 => ∀ e : Env, [e 10] = vs → R (e 10) h4)] [a0, a1, a2, a3, v15, (.slice (some ⟨b18, 0, none⟩) c18 1), (.int .i64 1)] h3
theorem w_spec_l08Root {a0 a1 a2 a3 : Value} {h : Hp} {R : Value → Hp → Prop} (H : p_spec_l08Root a0 a1 a2 a3 h R) : CallW FF n_spec_l08Root [a0, a1, a2, a3] h R := callV_fin c_spec_l08Root (Eq.mp (by kernel_rfl) H)
def l_spec_l08Series_0 : YC :=
  .seq (.seq (.region false [m 15 8,
  m 16 1,
  p 17 (.bin .leq 15 16)])
 (.cond 17
 (.skip)
 (.exit 0)))
 (.seq (.block 1
 (.seq (.region false [m 20 0,
  m 21 7,
  m 22 7,
  m 23 8,
  o 24 (cl n_spec_l02Times [20, 21, 22, 23]),
  m 9 24])
 (.seq (.region false [m 25 0,
  m 26 9,
  m 27 7,
  m 28 8,
  o 29 (cl n_spec_l02Times [25, 26, 27, 28]),
  m 10 29])
 (.seq (.region false [m 30 2,
  p 31 (.indexAddr 1 30 (k 0)),
  o 32 (.load 1 false 31),
  m 33 7,
  m 34 8,
  p 35 (.bin .sub 34 (k 1)),
  p 36 (.indexAddr 1 33 35),
  o 37 (.load 1 false 36),
  p 38 (.bin .mul 32 37),
  m 39 2,
  p 40 (.indexAddr 1 39 (k 1)),
  o 41 (.load 1 false 40),
  m 42 7,
  m 43 8,
  p 44 (.bin .sub 43 (k 2)),
  p 45 (.indexAddr 1 42 44),
  o 46 (.load 1 false 45),
  p 47 (.bin .mul 41 46),
  p 48 (.bin .add 38 47),
  m 49 2,
  p 50 (.indexAddr 1 49 (k 2)),
  o 51 (.load 1 false 50),
  m 52 9,
  m 53 8,
  p 54 (.indexAddr 1 52 53),
  o 55 (.load 1 false 54),
  p 56 (.bin .mul 51 55),
  p 57 (.bin .add 48 56),
  m 58 2,
  p 59 (.indexAddr 1 58 (k 3)),
  o 60 (.load 1 false 59),
  m 61 9,
  m 62 8,
  p 63 (.bin .sub 62 (k 1)),
  p 64 (.indexAddr 1 61 63),
  o 65 (.load 1 false 64),
  p 66 (.bin .mul 60 65),
  p 67 (.bin .add 57 66),
  m 68 2,
  p 69 (.indexAddr 1 68 (k 4)),
  o 70 (.load 1 false 69),
  m 71 10,
  m 72 8,
  p 73 (.indexAddr 1 71 72),
  o 74 (.load 1 false 73),
  p 75 (.bin .mul 70 74),
  p 76 (.bin .add 67 75),
  m 11 76])
 (.seq (.seq (.region false [m 77 8,
  p 78 (.bin .eql 77 (k 3))])
 (.cond 78
 (.region false [m 79 11,
  p 80 (.bin .add 79 (k 1)),
  m 11 80])
 (.skip)))
 (.region false [m 81 7,
  m 82 8,
  m 83 11,
  m 84 0,
  p 85 (.bin .rem 83 84),
  p 86 (.indexAddr 1 81 82),
  e (.store 1 86 85)]))))))
 (.region false [m 18 8,
  p 19 (.bin .add 18 (k 1)),
  m 8 19]))
def q_spec_l08Series_0 (a0 a1 a2 a7 a8 : Value) (h : Hp) (K K0 : Kont) : Prop :=
  bindO (binV .leq a8 a1) fun v17 => condM v17 (CallW FF n_spec_l02Times [a0, a7, a7, a8] h fun v24 h1 => CallW FF n_spec_l02Times [a0, v24, a7, a8] h1 fun v29 h2 => bindO (indexAddrV 1 a2 (.int .i64 0)) fun v31 => bindO (ldV 1 false h2 v31) fun v32 => bindO (binV .sub a8 (.int .i64 1)) fun v35 => bindO (indexAddrV 1 a7 v35) fun v36 => bindO (ldV 1 false h2 v36) fun v37 => bindO (binV .mul v32 v37) fun v38 => bindO (indexAddrV 1 a2 (.int .i64 1)) fun v40 => bindO (ldV 1 false h2 v40) fun v41 => bindO (binV .sub a8 (.int .i64 2)) fun v44 => bindO (indexAddrV 1 a7 v44) fun v45 => bindO (ldV 1 false h2 v45) fun v46 => bindO (binV .mul v41 v46) fun v47 => bindO (binV .add v38 v47) fun v48 => bindO (indexAddrV 1 a2 (.int .i64 2)) fun v50 => bindO (ldV 1 false h2 v50) fun v51 => bindO (indexAddrV 1 v24 a8) fun v54 => bindO (ldV 1 false h2 v54) fun v55 => bindO (binV .mul v51 v55) fun v56 => bindO (binV .add v48 v56) fun v57 => bindO (indexAddrV 1 a2 (.int .i64 3)) fun v59 => bindO (ldV 1 false h2 v59) fun v60 => bindO (binV .sub a8 (.int .i64 1)) fun v63 => bindO (indexAddrV 1 v24 v63) fun v64 => bindO (ldV 1 false h2 v64) fun v65 => bindO (binV .mul v60 v65) fun v66 => bindO (binV .add v57 v66) fun v67 => bindO (indexAddrV 1 a2 (.int .i64 4)) fun v69 => bindO (ldV 1 false h2 v69) fun v70 => bindO (indexAddrV 1 v29 a8) fun v73 => bindO (ldV 1 false h2 v73) fun v74 => bindO (binV .mul v70 v74) fun v75 => bindO (binV .add v67 v75) fun v76 => bindO (binV .eql a8 (.int .i64 3)) fun v78 => condM v78 (bindO (binV .add v76 (.int .i64 1)) fun v80 => bindO (binV .rem v80 a0) fun v85 => bindO (indexAddrV 1 a7 a8) fun v86 => bindO (storeV 1 h2 v85 v86) fun h3 => bindO (binV .add a8 (.int .i64 1)) fun v19 => K [a0, a1, a2, a7, v19] h3) (bindO (binV .rem v76 a0) fun v85 => bindO (indexAddrV 1 a7 a8) fun v86 => bindO (storeV 1 h2 v85 v86) fun h3 => bindO (binV .add a8 (.int .i64 1)) fun v19 => K [a0, a1, a2, a7, v19] h3)) (K0 [a7] h)
theorem wl_spec_l08Series_0 {a0 a1 a2 a7 a8 : Value} {h : Hp} {K K0 : Kont} (H : q_spec_l08Series_0 a0 a1 a2 a7 a8 h K K0) : ∀ e : Env, [e 0, e 1, e 2, e 7, e 8] = [a0, a1, a2, a7, a8] → V FF l_spec_l08Series_0 (qsel [0, 1, 2, 7, 8] K [(.exit 0, [7], K0)]) ⟨e, h⟩ := by
  intro e he; cases he; exact Eq.mp (by kernel_rfl) H
def y_spec_l08Series : YC :=
  .seq (.region false [mc 6 (.c (.slice none 0 0))])
 (.seq (.region false [m 12 1,
  p 13 (.bin .add 12 (k 1)),
  o 14 (.make y_t_int64 1 8 [.int .i64 0] 13),
  m 7 14])
 (.seq (.seq (.region false [mc 8 (k 3)])
 (.block 0
 (.loop [0, 1, 2, 7, 8] [(.exit 0, [7])] l_spec_l08Series_0)))
 (.seq (.region false [m 87 7,
  m 6 87])
 (.ret))))
theorem c_spec_l08Series : FF n_spec_l08Series = some ⟨88, y_spec_l08Series.er, [.tmp 6]⟩ := by kernel_rfl
def p_spec_l08Series (a0 a1 a2 : Value) (h : Hp) (R : Value → Hp → Prop) : Prop :=
  bindO (binV .add a1 (.int .i64 1)) fun v13 => bindO (makN v13) fun c14 => newB h ⟨reps c14 [.int .i64 0], y_t_int64, true⟩ fun b14 h1 => LP FF (YC.er l_spec_l08Series_0) [0, 1, 2, 7, 8] [(.exit 0, [7], fun vs h2 => ∀ e : Env, [e 7] = vs → R (e 7) h2)] [a0, a1, a2, (.slice (some ⟨b14, 0, none⟩) c14 1), (.int .i64 3)] h1
theorem w_spec_l08Series {a0 a1 a2 : Value} {h : Hp} {R : Value → Hp → Prop} (H : p_spec_l08Series a0 a1 a2 h R) : CallW FF n_spec_l08Series [a0, a1, a2] h R := callV_fin c_spec_l08Series (Eq.mp (by kernel_rfl) H)
def l_spec_l03Add_0 : YC :=
  .seq (.seq (.region false [m 10 8,
  m 11 1,
  p 12 (.len  11),
  p 13 (.bin .lss 10 12)])
 (.cond 13
 (.skip)
 (.exit 0)))
 (.seq (.block 1
 (.region false [m 16 7,
  m 17 0,
  m 18 1,
  m 19 8,
  p 20 (.indexAddr 1 18 19),
  o 21 (.load 1 false 20),
  m 22 2,
  m 23 8,
  p 24 (.indexAddr 1 22 23),
  o 25 (.load 1 false 24),
  o 26 (cl n_spec_l02Add [17, 21, 25]),
  o 27 (.mkrow y_t_Lint64 1 1 [.slice none 0 0] [(0, 26)]),
  o 28 (.append y_t_Lint64 1 24 16 27),
  m 7 28]))
 (.region false [m 14 8,
  p 15 (.bin .add 14 (k 1)),
  m 8 15]))
def q_spec_l03Add_0 (a0 a1 a2 a7 a8 : Value) (h : Hp) (K K0 : Kont) : Prop :=
  bindO (lenV  a1) fun v12 => bindO (binV .lss a8 v12) fun v13 => condM v13 (bindO (indexAddrV 1 a1 a8) fun v20 => bindO (ldV 1 false h v20) fun v21 => bindO (indexAddrV 1 a2 a8) fun v24 => bindO (ldV 1 false h v24) fun v25 => CallW FF n_spec_l02Add [a0, v21, v25] h fun v26 h1 => bindO (rowV 1 1 [.slice none 0 0] [(0, v26)]) fun c27 => newB h1 ⟨c27, y_t_Lint64, true⟩ fun b27 h2 => bindVH (appendV y_t_Lint64 1 h2 a7 (.slice (some ⟨b27, 0, none⟩) 1 1)) fun v28 h3 => bindO (binV .add a8 (.int .i64 1)) fun v15 => K [a0, a1, a2, v28, v15] h3) (K0 [a7] h)
theorem wl_spec_l03Add_0 {a0 a1 a2 a7 a8 : Value} {h : Hp} {K K0 : Kont} (H : q_spec_l03Add_0 a0 a1 a2 a7 a8 h K K0) : ∀ e : Env, [e 0, e 1, e 2, e 7, e 8] = [a0, a1, a2, a7, a8] → V FF l_spec_l03Add_0 (qsel [0, 1, 2, 7, 8] K [(.exit 0, [7], K0)]) ⟨e, h⟩ := by
  intro e he; cases he; exact Eq.mp (by kernel_rfl) H
def y_spec_l03Add : YC :=
  .seq (.region false [mc 6 (.c (.slice none 0 0))])
 (.seq (.region false [o 9 (.mkrow y_t_Lint64 1 0 [.slice none 0 0] []),
  m 7 9])
 (.seq (.seq (.region false [mc 8 (k 0)])
 (.block 0
 (.loop [0, 1, 2, 7, 8] [(.exit 0, [7])] l_spec_l03Add_0)))
 (.seq (.region false [m 29 7,
  m 6 29])
 (.ret))))
theorem c_spec_l03Add : FF n_spec_l03Add = some ⟨30, y_spec_l03Add.er, [.tmp 6]⟩ := by kernel_rfl
def p_spec_l03Add (a0 a1 a2 : Value) (h : Hp) (R : Value → Hp → Prop) : Prop :=
  bindO (rowV 1 0 [.slice none 0 0] []) fun c9 => newB h ⟨c9, y_t_Lint64, true⟩ fun b9 h1 => LP FF (YC.er l_spec_l03Add_0) [0, 1, 2, 7, 8] [(.exit 0, [7], fun vs h2 => ∀ e : Env, [e 7] = vs → R (e 7) h2)] [a0, a1, a2, (.slice (some ⟨b9, 0, none⟩) 0 1), (.int .i64 0)] h1
theorem w_spec_l03Add {a0 a1 a2 : Value} {h : Hp} {R : Value → Hp → Prop} (H : p_spec_l03Add a0 a1 a2 h R) : CallW FF n_spec_l03Add [a0, a1, a2] h R := callV_fin c_spec_l03Add (Eq.mp (by kernel_rfl) H)
def l_spec_l03Scale_0 : YC :=
  .seq (.seq (.region false [m 10 8,
  m 11 2,
  p 12 (.len  11),
  p 13 (.bin .lss 10 12)])
 (.cond 13
 (.skip)
 (.exit 0)))
 (.seq (.block 1
 (.region false [m 16 7,
  m 17 0,
  m 18 1,
  m 19 2,
  m 20 8,
  p 21 (.indexAddr 1 19 20),
  o 22 (.load 1 false 21),
  o 23 (cl n_spec_l02Scale [17, 18, 22]),
  o 24 (.mkrow y_t_Lint64 1 1 [.slice none 0 0] [(0, 23)]),
  o 25 (.append y_t_Lint64 1 24 16 24),
  m 7 25]))
 (.region false [m 14 8,
  p 15 (.bin .add 14 (k 1)),
  m 8 15]))
def q_spec_l03Scale_0 (a0 a1 a2 a7 a8 : Value) (h : Hp) (K K0 : Kont) : Prop :=
  bindO (lenV  a2) fun v12 => bindO (binV .lss a8 v12) fun v13 => condM v13 (bindO (indexAddrV 1 a2 a8) fun v21 => bindO (ldV 1 false h v21) fun v22 => CallW FF n_spec_l02Scale [a0, a1, v22] h fun v23 h1 => bindO (rowV 1 1 [.slice none 0 0] [(0, v23)]) fun c24 => newB h1 ⟨c24, y_t_Lint64, true⟩ fun b24 h2 => bindVH (appendV y_t_Lint64 1 h2 a7 (.slice (some ⟨b24, 0, none⟩) 1 1)) fun v25 h3 => bindO (binV .add a8 (.int .i64 1)) fun v15 => K [a0, a1, a2, v25, v15] h3) (K0 [a7] h)
theorem wl_spec_l03Scale_0 {a0 a1 a2 a7 a8 : Value} {h : Hp} {K K0 : Kont} (H : q_spec_l03Scale_0 a0 a1 a2 a7 a8 h K K0) : ∀ e : Env, [e 0, e 1, e 2, e 7, e 8] = [a0, a1, a2, a7, a8] → V FF l_spec_l03Scale_0 (qsel [0, 1, 2, 7, 8] K [(.exit 0, [7], K0)]) ⟨e, h⟩ := by
  intro e he; cases he; exact Eq.mp (by kernel_rfl) H
def y_spec_l03Scale : YC :=
  .seq (.region false [mc 6 (.c (.slice none 0 0))])
 (.seq (.region false [o 9 (.mkrow y_t_Lint64 1 0 [.slice none 0 0] []),
  m 7 9])
 (.seq (.seq (.region false [mc 8 (k 0)])
 (.block 0
 (.loop [0, 1, 2, 7, 8] [(.exit 0, [7])] l_spec_l03Scale_0)))
 (.seq (.region false [m 26 7,
  m 6 26])
 (.ret))))
theorem c_spec_l03Scale : FF n_spec_l03Scale = some ⟨27, y_spec_l03Scale.er, [.tmp 6]⟩ := by kernel_rfl
def p_spec_l03Scale (a0 a1 a2 : Value) (h : Hp) (R : Value → Hp → Prop) : Prop :=
  bindO (rowV 1 0 [.slice none 0 0] []) fun c9 => newB h ⟨c9, y_t_Lint64, true⟩ fun b9 h1 => LP FF (YC.er l_spec_l03Scale_0) [0, 1, 2, 7, 8] [(.exit 0, [7], fun vs h2 => ∀ e : Env, [e 7] = vs → R (e 7) h2)] [a0, a1, a2, (.slice (some ⟨b9, 0, none⟩) 0 1), (.int .i64 0)] h1
theorem w_spec_l03Scale {a0 a1 a2 : Value} {h : Hp} {R : Value → Hp → Prop} (H : p_spec_l03Scale a0 a1 a2 h R) : CallW FF n_spec_l03Scale [a0, a1, a2] h R := callV_fin c_spec_l03Scale (Eq.mp (by kernel_rfl) H)
def l_spec_l03Turn_0 : YC :=
  .seq (.seq (.region false [m 17 5,
  m 18 0,
  m 19 4,
  p 20 (.indexAddr 1 18 19),
  o 21 (.load 1 false 20),
  p 22 (.len  21),
  p 23 (.bin .lss 17 22)])
 (.cond 23
 (.skip)
 (.exit 2)))
 (.seq (.block 3
 (.seq (.region false [m 26 3,
  m 27 5,
  p 28 (.indexAddr 1 26 27),
  o 29 (.load 1 false 28),
  m 6 29])
 (.region false [m 30 6,
  m 31 4,
  m 32 0,
  m 33 4,
  p 34 (.indexAddr 1 32 33),
  o 35 (.load 1 false 34),
  m 36 5,
  p 37 (.indexAddr 1 35 36),
  o 38 (.load 1 false 37),
  p 39 (.indexAddr 1 30 31),
  e (.store 1 39 38)])))
 (.region false [m 24 5,
  p 25 (.bin .add 24 (k 1)),
  m 5 25]))
def q_spec_l03Turn_0 (a0 a3 a4 a5 : Value) (h : Hp) (K K0 : Kont) : Prop :=
  bindO (indexAddrV 1 a0 a4) fun v20 => bindO (ldV 1 false h v20) fun v21 => bindO (lenV  v21) fun v22 => bindO (binV .lss a5 v22) fun v23 => condM v23 (bindO (indexAddrV 1 a3 a5) fun v28 => bindO (ldV 1 false h v28) fun v29 => bindO (indexAddrV 1 a0 a4) fun v34 => bindO (ldV 1 false h v34) fun v35 => bindO (indexAddrV 1 v35 a5) fun v37 => bindO (ldV 1 false h v37) fun v38 => bindO (indexAddrV 1 v29 a4) fun v39 => bindO (storeV 1 h v38 v39) fun h1 => bindO (binV .add a5 (.int .i64 1)) fun v25 => K [a0, a3, a4, v25] h1) (K0 [a0, a3, a4] h)
theorem wl_spec_l03Turn_0 {a0 a3 a4 a5 : Value} {h : Hp} {K K0 : Kont} (H : q_spec_l03Turn_0 a0 a3 a4 a5 h K K0) : ∀ e : Env, [e 0, e 3, e 4, e 5] = [a0, a3, a4, a5] → V FF l_spec_l03Turn_0 (qsel [0, 3, 4, 5] K [(.exit 2, [0, 3, 4], K0)]) ⟨e, h⟩ := by
  intro e he; cases he; exact Eq.mp (by kernel_rfl) H
def l_spec_l03Turn_1 : YC :=
  .seq (.seq (.region false [m 11 4,
  m 12 0,
  p 13 (.len  12),
  p 14 (.bin .lss 11 13)])
 (.cond 14
 (.skip)
 (.exit 0)))
 (.seq (.block 1
 (.seq (.region false [mc 5 (k 0)])
 (.block 2
 (.loop [0, 3, 4, 5] [(.exit 2, [0, 3, 4])] l_spec_l03Turn_0))))
 (.region false [m 15 4,
  p 16 (.bin .add 15 (k 1)),
  m 4 16]))
def q_spec_l03Turn_1 (a0 a3 a4 : Value) (h : Hp) (K K0 : Kont) : Prop :=
  bindO (lenV  a0) fun v13 => bindO (binV .lss a4 v13) fun v14 => condM v14 (LP FF (YC.er l_spec_l03Turn_0) [0, 3, 4, 5] [(.exit 2, [0, 3, 4], fun vs h1 => ∀ e : Env, [e 0, e 3, e 4] = vs → bindO (binV .add (e 4) (.int .i64 1)) fun v16 => K [(e 0), (e 3), v16] h1)] [a0, a3, a4, (.int .i64 0)] h) (K0 [a3] h)
theorem wl_spec_l03Turn_1 {a0 a3 a4 : Value} {h : Hp} {K K0 : Kont} (H : q_spec_l03Turn_1 a0 a3 a4 h K K0) : ∀ e : Env, [e 0, e 3, e 4] = [a0, a3, a4] → V FF l_spec_l03Turn_1 (qsel [0, 3, 4] K [(.exit 0, [3], K0)]) ⟨e, h⟩ := by
  intro e he; cases he; exact Eq.mp (by kernel_rfl) H
def y_spec_l03Turn : YC :=
  .seq (.region false [mc 2 (.c (.slice none 0 0))])
 (.seq (.region false [m 7 0,
  p 8 (.len  7),
  p 9 (.bin .sub 8 (k 1)),
  o 10 (cl n_spec_l03Zero [9]),
  m 3 10])
 (.seq (.seq (.region false [mc 4 (k 0)])
 (.block 0
 (.loop [0, 3, 4] [(.exit 0, [3])] l_spec_l03Turn_1)))
 (.seq (.region false [m 40 3,
  m 2 40])
 (.ret))))
theorem c_spec_l03Turn : FF n_spec_l03Turn = some ⟨41, y_spec_l03Turn.er, [.tmp 2]⟩ := by kernel_rfl
def p_spec_l03Turn (a0 : Value) (h : Hp) (R : Value → Hp → Prop) : Prop :=
  bindO (lenV  a0) fun v8 => bindO (binV .sub v8 (.int .i64 1)) fun v9 => CallW FF n_spec_l03Zero [v9] h fun v10 h1 => LP FF (YC.er l_spec_l03Turn_1) [0, 3, 4] [(.exit 0, [3], fun vs h2 => ∀ e : Env, [e 3] = vs → R (e 3) h2)] [a0, v10, (.int .i64 0)] h1
theorem w_spec_l03Turn {a0 : Value} {h : Hp} {R : Value → Hp → Prop} (H : p_spec_l03Turn a0 h R) : CallW FF n_spec_l03Turn [a0] h R := callV_fin c_spec_l03Turn (Eq.mp (by kernel_rfl) H)
def l_spec_l02Inverse_0 : YC :=
  .seq (.seq (.region false [m 24 11,
  m 25 9,
  p 26 (.bin .leq 24 25),
  m 27 26,
  ⟨some 28, .p (.move  11), some (27, true), false⟩,
  ⟨some 29, .p (.move  1), some (27, true), false⟩,
  ⟨some 30, .p (.len  29), some (27, true), false⟩,
  ⟨some 31, .p (.bin .lss 28 30), some (27, true), false⟩,
  p 32 (.pick  27 31 (.c (.bool false)))])
 (.cond 32
 (.skip)
 (.exit 2)))
 (.seq (.block 3
 (.region false [m 35 10,
  m 36 1,
  m 37 11,
  p 38 (.indexAddr 1 36 37),
  o 39 (.load 1 false 38),
  m 40 8,
  m 41 9,
  m 42 11,
  p 43 (.bin .sub 41 42),
  p 44 (.indexAddr 1 40 43),
  o 45 (.load 1 false 44),
  p 46 (.bin .mul 39 45),
  p 47 (.bin .add 35 46),
  m 48 0,
  p 49 (.bin .rem 47 48),
  m 10 49]))
 (.region false [m 33 11,
  p 34 (.bin .add 33 (k 1)),
  m 11 34]))
def q_spec_l02Inverse_0 (a0 a1 a2 a7 a8 a9 a10 a11 : Value) (h : Hp) (K K0 : Kont) : Prop :=
  bindO (binV .leq a11 a9) fun v26 => condM v26 (bindO (lenV  a1) fun v30 => bindO (binV .lss a11 v30) fun v31 => condM v31 (bindO (indexAddrV 1 a1 a11) fun v38 => bindO (ldV 1 false h v38) fun v39 => bindO (binV .sub a9 a11) fun v43 => bindO (indexAddrV 1 a8 v43) fun v44 => bindO (ldV 1 false h v44) fun v45 => bindO (binV .mul v39 v45) fun v46 => bindO (binV .add a10 v46) fun v47 => bindO (binV .rem v47 a0) fun v49 => bindO (binV .add a11 (.int .i64 1)) fun v34 => K [a0, a1, a2, a7, a8, a9, v49, v34] h) (K0 [a0, a1, a2, a7, a8, a9, a10] h)) (K0 [a0, a1, a2, a7, a8, a9, a10] h)
theorem wl_spec_l02Inverse_0 {a0 a1 a2 a7 a8 a9 a10 a11 : Value} {h : Hp} {K K0 : Kont} (H : q_spec_l02Inverse_0 a0 a1 a2 a7 a8 a9 a10 a11 h K K0) : ∀ e : Env, [e 0, e 1, e 2, e 7, e 8, e 9, e 10, e 11] = [a0, a1, a2, a7, a8, a9, a10, a11] → V FF l_spec_l02Inverse_0 (qsel [0, 1, 2, 7, 8, 9, 10, 11] K [(.exit 2, [0, 1, 2, 7, 8, 9, 10], K0)]) ⟨e, h⟩ := by
  intro e he; cases he; exact Eq.mp (by kernel_rfl) H
def l_spec_l02Inverse_1 : YC :=
  .seq (.seq (.region false [m 19 9,
  m 20 2,
  p 21 (.bin .leq 19 20)])
 (.cond 21
 (.skip)
 (.exit 0)))
 (.seq (.block 1
 (.seq (.region false [mc 10 (k 0)])
 (.seq (.seq (.region false [mc 11 (k 1)])
 (.block 2
 (.loop [0, 1, 2, 7, 8, 9, 10, 11] [(.exit 2, [0, 1, 2, 7, 8, 9, 10])] l_spec_l02Inverse_0)))
 (.region false [m 50 8,
  m 51 0,
  m 52 10,
  p 53 (.bin .sub 51 52),
  m 54 7,
  p 55 (.bin .mul 53 54),
  m 56 0,
  p 57 (.bin .rem 55 56),
  o 58 (.mkrow y_t_int64 1 1 [.int .i64 0] [(0, 57)]),
  o 59 (.append y_t_int64 1 8 50 58),
  m 8 59]))))
 (.region false [m 22 9,
  p 23 (.bin .add 22 (k 1)),
  m 9 23]))
def q_spec_l02Inverse_1 (a0 a1 a2 a7 a8 a9 : Value) (h : Hp) (K K0 : Kont) : Prop :=
  bindO (binV .leq a9 a2) fun v21 => condM v21 (LP FF (YC.er l_spec_l02Inverse_0) [0, 1, 2, 7, 8, 9, 10, 11] [(.exit 2, [0, 1, 2, 7, 8, 9, 10], fun vs h1 => ∀ e : Env, [e 0, e 1, e 2, e 7, e 8, e 9, e 10] = vs → bindO (binV .sub (e 0) (e 10)) fun v53 => bindO (binV .mul v53 (e 7)) fun v55 => bindO (binV .rem v55 (e 0)) fun v57 => bindO (rowV 1 1 [.int .i64 0] [(0, v57)]) fun c58 => newB h1 ⟨c58, y_t_int64, true⟩ fun b58 h2 => bindVH (appendV y_t_int64 1 h2 (e 8) (.slice (some ⟨b58, 0, none⟩) 1 1)) fun v59 h3 => bindO (binV .add (e 9) (.int .i64 1)) fun v23 => K [(e 0), (e 1), (e 2), (e 7), v59, v23] h3)] [a0, a1, a2, a7, a8, a9, (.int .i64 0), (.int .i64 1)] h) (K0 [a8] h)
theorem wl_spec_l02Inverse_1 {a0 a1 a2 a7 a8 a9 : Value} {h : Hp} {K K0 : Kont} (H : q_spec_l02Inverse_1 a0 a1 a2 a7 a8 a9 h K K0) : ∀ e : Env, [e 0, e 1, e 2, e 7, e 8, e 9] = [a0, a1, a2, a7, a8, a9] → V FF l_spec_l02Inverse_1 (qsel [0, 1, 2, 7, 8, 9] K [(.exit 0, [8], K0)]) ⟨e, h⟩ := by
  intro e he; cases he; exact Eq.mp (by kernel_rfl) H
def y_spec_l02Inverse : YC :=
  .seq (.region false [mc 6 (.c (.slice none 0 0))])
 (.seq (.region false [m 12 0,
  m 13 1,
  p 14 (.indexAddr 1 13 (k 0)),
  o 15 (.load 1 false 14),
  o 16 (cl n_spec_l01Inv [12, 15]),
  m 7 16])
 (.seq (.region false [m 17 7,
  o 18 (.mkrow y_t_int64 1 1 [.int .i64 0] [(0, 17)]),
  m 8 18])
 (.seq (.seq (.region false [mc 9 (k 1)])
 (.block 0
 (.loop [0, 1, 2, 7, 8, 9] [(.exit 0, [8])] l_spec_l02Inverse_1)))
 (.seq (.region false [m 60 8,
  m 6 60])
 (.ret)))))
theorem c_spec_l02Inverse : FF n_spec_l02Inverse = some ⟨61, y_spec_l02Inverse.er, [.tmp 6]⟩ := by kernel_rfl
def p_spec_l02Inverse (a0 a1 a2 : Value) (h : Hp) (R : Value → Hp → Prop) : Prop :=
  bindO (indexAddrV 1 a1 (.int .i64 0)) fun v14 => bindO (ldV 1 false h v14) fun v15 => CallW FF n_spec_l01Inv [a0, v15] h fun v16 h1 => bindO (rowV 1 1 [.int .i64 0] [(0, v16)]) fun c18 => newB h1 ⟨c18, y_t_int64, true⟩ fun b18 h2 => LP FF (YC.er l_spec_l02Inverse_1) [0, 1, 2, 7, 8, 9] [(.exit 0, [8], fun vs h3 => ∀ e : Env, [e 8] = vs → R (e 8) h3)] [a0, a1, a2, v16, (.slice (some ⟨b18, 0, none⟩) 1 1), (.int .i64 1)] h2
theorem w_spec_l02Inverse {a0 a1 a2 : Value} {h : Hp} {R : Value → Hp → Prop} (H : p_spec_l02Inverse a0 a1 a2 h R) : CallW FF n_spec_l02Inverse [a0, a1, a2] h R := callV_fin c_spec_l02Inverse (Eq.mp (by kernel_rfl) H)
def l_spec_l01Inv_0 : YC :=
  .seq (.seq (.region false [m 16 6,
  p 17 (.bin .gtr 16 (k 0))])
 (.cond 17
 (.skip)
 (.exit 0)))
 (.block 1
 (.seq (.region false [m 18 5,
  m 19 6,
  p 20 (.bin .quo 18 19),
  m 9 20])
 (.seq (.region false [m 21 5,
  m 22 9,
  m 23 6,
  p 24 (.bin .mul 22 23),
  p 25 (.bin .sub 21 24),
  m 26 7,
  m 27 9,
  m 28 8,
  p 29 (.bin .mul 27 28),
  p 30 (.bin .sub 26 29),
  m 10 25,
  m 11 30])
 (.seq (.region false [m 31 6,
  m 5 31])
 (.seq (.region false [m 32 10,
  m 6 32])
 (.seq (.region false [m 33 8,
  m 7 33])
 (.region false [m 34 11,
  m 8 34])))))))
def q_spec_l01Inv_0 (a0 a5 a6 a7 a8 : Value) (h : Hp) (K K0 : Kont) : Prop :=
  bindO (binV .gtr a6 (.int .i64 0)) fun v17 => condM v17 (bindO (binV .quo a5 a6) fun v20 => bindO (binV .mul v20 a6) fun v24 => bindO (binV .sub a5 v24) fun v25 => bindO (binV .mul v20 a8) fun v29 => bindO (binV .sub a7 v29) fun v30 => K [a0, a6, v25, a8, v30] h) (K0 [a0, a7] h)
theorem wl_spec_l01Inv_0 {a0 a5 a6 a7 a8 : Value} {h : Hp} {K K0 : Kont} (H : q_spec_l01Inv_0 a0 a5 a6 a7 a8 h K K0) : ∀ e : Env, [e 0, e 5, e 6, e 7, e 8] = [a0, a5, a6, a7, a8] → V FF l_spec_l01Inv_0 (qsel [0, 5, 6, 7, 8] K [(.exit 0, [0, 7], K0)]) ⟨e, h⟩ := by
  intro e he; cases he; exact Eq.mp (by kernel_rfl) H
def y_spec_l01Inv : YC :=
  .seq (.region false [mc 4 (k 0)])
 (.seq (.region false [m 12 0,
  m 13 0,
  m 14 1,
  o 15 (cl n_spec_l01Mod [13, 14]),
  m 5 12,
  m 6 15,
  mc 7 (k 0),
  mc 8 (k 1)])
 (.seq (.block 0
 (.loop [0, 5, 6, 7, 8] [(.exit 0, [0, 7])] l_spec_l01Inv_0))
 (.seq (.region false [m 35 0,
  m 36 7,
  o 37 (cl n_spec_l01Mod [35, 36]),
  m 4 37])
 (.ret))))
theorem c_spec_l01Inv : FF n_spec_l01Inv = some ⟨38, y_spec_l01Inv.er, [.tmp 4]⟩ := by kernel_rfl
def p_spec_l01Inv (a0 a1 : Value) (h : Hp) (R : Value → Hp → Prop) : Prop :=
  CallW FF n_spec_l01Mod [a0, a1] h fun v15 h1 => LP FF (YC.er l_spec_l01Inv_0) [0, 5, 6, 7, 8] [(.exit 0, [0, 7], fun vs h2 => ∀ e : Env, [e 0, e 7] = vs → CallW FF n_spec_l01Mod [(e 0), (e 7)] h2 fun v37 h3 => R v37 h3)] [a0, a0, v15, (.int .i64 0), (.int .i64 1)] h1
theorem w_spec_l01Inv {a0 a1 : Value} {h : Hp} {R : Value → Hp → Prop} (H : p_spec_l01Inv a0 a1 h R) : CallW FF n_spec_l01Inv [a0, a1] h R := callV_fin c_spec_l01Inv (Eq.mp (by kernel_rfl) H)
def l_spec_l03Both_0 : YC :=
  .seq (.seq (.region false [m 62 15,
  m 63 17,
  p 64 (.bin .add 62 63),
  m 65 9,
  p 66 (.bin .lss 64 65)])
 (.cond 66
 (.skip)
 (.exit 6)))
 (.seq (.block 7
 (.region false [m 69 16,
  m 70 17,
  m 71 16,
  m 72 17,
  p 73 (.indexAddr 1 71 72),
  o 74 (.load 1 false 73),
  m 75 1,
  m 76 13,
  p 77 (.indexAddr 1 75 76),
  o 78 (.load 1 false 77),
  m 79 14,
  p 80 (.indexAddr 1 78 79),
  o 81 (.load 1 false 80),
  m 82 10,
  m 83 13,
  p 84 (.indexAddr 1 82 83),
  o 85 (.load 1 false 84),
  m 86 15,
  p 87 (.indexAddr 1 85 86),
  o 88 (.load 1 false 87),
  p 89 (.bin .mul 81 88),
  m 90 0,
  p 91 (.bin .rem 89 90),
  m 92 11,
  m 93 14,
  p 94 (.indexAddr 1 92 93),
  o 95 (.load 1 false 94),
  m 96 17,
  p 97 (.indexAddr 1 95 96),
  o 98 (.load 1 false 97),
  p 99 (.bin .mul 91 98),
  p 100 (.bin .add 74 99),
  m 101 0,
  p 102 (.bin .rem 100 101),
  p 103 (.indexAddr 1 69 70),
  e (.store 1 103 102)]))
 (.region false [m 67 17,
  p 68 (.bin .add 67 (k 1)),
  m 17 68]))
def q_spec_l03Both_0 (a0 a1 a9 a10 a11 a12 a13 a14 a15 a16 a17 : Value) (h : Hp) (K K0 : Kont) : Prop :=
  bindO (binV .add a15 a17) fun v64 => bindO (binV .lss v64 a9) fun v66 => condM v66 (bindO (indexAddrV 1 a16 a17) fun v73 => bindO (ldV 1 false h v73) fun v74 => bindO (indexAddrV 1 a1 a13) fun v77 => bindO (ldV 1 false h v77) fun v78 => bindO (indexAddrV 1 v78 a14) fun v80 => bindO (ldV 1 false h v80) fun v81 => bindO (indexAddrV 1 a10 a13) fun v84 => bindO (ldV 1 false h v84) fun v85 => bindO (indexAddrV 1 v85 a15) fun v87 => bindO (ldV 1 false h v87) fun v88 => bindO (binV .mul v81 v88) fun v89 => bindO (binV .rem v89 a0) fun v91 => bindO (indexAddrV 1 a11 a14) fun v94 => bindO (ldV 1 false h v94) fun v95 => bindO (indexAddrV 1 v95 a17) fun v97 => bindO (ldV 1 false h v97) fun v98 => bindO (binV .mul v91 v98) fun v99 => bindO (binV .add v74 v99) fun v100 => bindO (binV .rem v100 a0) fun v102 => bindO (indexAddrV 1 a16 a17) fun v103 => bindO (storeV 1 h v102 v103) fun h1 => bindO (binV .add a17 (.int .i64 1)) fun v68 => K [a0, a1, a9, a10, a11, a12, a13, a14, a15, a16, v68] h1) (K0 [a0, a1, a9, a10, a11, a12, a13, a14, a15] h)
theorem wl_spec_l03Both_0 {a0 a1 a9 a10 a11 a12 a13 a14 a15 a16 a17 : Value} {h : Hp} {K K0 : Kont} (H : q_spec_l03Both_0 a0 a1 a9 a10 a11 a12 a13 a14 a15 a16 a17 h K K0) : ∀ e : Env, [e 0, e 1, e 9, e 10, e 11, e 12, e 13, e 14, e 15, e 16, e 17] = [a0, a1, a9, a10, a11, a12, a13, a14, a15, a16, a17] → V FF l_spec_l03Both_0 (qsel [0, 1, 9, 10, 11, 12, 13, 14, 15, 16, 17] K [(.exit 6, [0, 1, 9, 10, 11, 12, 13, 14, 15], K0)]) ⟨e, h⟩ := by
  intro e he; cases he; exact Eq.mp (by kernel_rfl) H
def l_spec_l03Both_1 : YC :=
  .seq (.seq (.region false [m 42 15,
  m 43 9,
  p 44 (.bin .lss 42 43),
  m 45 44,
  ⟨some 46, .p (.move  1), some (45, true), false⟩,
  ⟨some 47, .p (.move  13), some (45, true), false⟩,
  ⟨some 48, .p (.indexAddr 1 46 47), some (45, true), false⟩,
  ⟨some 49, .load 1 false 48, some (45, true), false⟩,
  ⟨some 50, .p (.move  14), some (45, true), false⟩,
  ⟨some 51, .p (.indexAddr 1 49 50), some (45, true), false⟩,
  ⟨some 52, .load 1 false 51, some (45, true), false⟩,
  ⟨some 53, .p (.bin .neq 52 (k 0)), some (45, true), false⟩,
  p 54 (.pick  45 53 (.c (.bool false)))])
 (.cond 54
 (.skip)
 (.exit 4)))
 (.seq (.block 5
 (.seq (.region false [m 57 12,
  m 58 15,
  p 59 (.indexAddr 1 57 58),
  o 60 (.load 1 false 59),
  m 16 60])
 (.seq (.region false [m 61 14,
  m 17 61])
 (.block 6
 (.loop [0, 1, 9, 10, 11, 12, 13, 14, 15, 16, 17] [(.exit 6, [0, 1, 9, 10, 11, 12, 13, 14, 15])] l_spec_l03Both_0)))))
 (.region false [m 55 15,
  p 56 (.bin .add 55 (k 1)),
  m 15 56]))
def q_spec_l03Both_1 (a0 a1 a9 a10 a11 a12 a13 a14 a15 : Value) (h : Hp) (K K0 : Kont) : Prop :=
  bindO (binV .lss a15 a9) fun v44 => condM v44 (bindO (indexAddrV 1 a1 a13) fun v48 => bindO (ldV 1 false h v48) fun v49 => bindO (indexAddrV 1 v49 a14) fun v51 => bindO (ldV 1 false h v51) fun v52 => bindO (binV .neq v52 (.int .i64 0)) fun v53 => condM v53 (bindO (indexAddrV 1 a12 a15) fun v59 => bindO (ldV 1 false h v59) fun v60 => LP FF (YC.er l_spec_l03Both_0) [0, 1, 9, 10, 11, 12, 13, 14, 15, 16, 17] [(.exit 6, [0, 1, 9, 10, 11, 12, 13, 14, 15], fun vs h1 => ∀ e : Env, [e 0, e 1, e 9, e 10, e 11, e 12, e 13, e 14, e 15] = vs → bindO (binV .add (e 15) (.int .i64 1)) fun v56 => K [(e 0), (e 1), (e 9), (e 10), (e 11), (e 12), (e 13), (e 14), v56] h1)] [a0, a1, a9, a10, a11, a12, a13, a14, a15, v60, a14] h) (K0 [a0, a1, a9, a10, a11, a12, a13, a14] h)) (K0 [a0, a1, a9, a10, a11, a12, a13, a14] h)
theorem wl_spec_l03Both_1 {a0 a1 a9 a10 a11 a12 a13 a14 a15 : Value} {h : Hp} {K K0 : Kont} (H : q_spec_l03Both_1 a0 a1 a9 a10 a11 a12 a13 a14 a15 h K K0) : ∀ e : Env, [e 0, e 1, e 9, e 10, e 11, e 12, e 13, e 14, e 15] = [a0, a1, a9, a10, a11, a12, a13, a14, a15] → V FF l_spec_l03Both_1 (qsel [0, 1, 9, 10, 11, 12, 13, 14, 15] K [(.exit 4, [0, 1, 9, 10, 11, 12, 13, 14], K0)]) ⟨e, h⟩ := by
  intro e he; cases he; exact Eq.mp (by kernel_rfl) H
def l_spec_l03Both_2 : YC :=
  .seq (.seq (.region false [m 34 13,
  m 35 14,
  p 36 (.bin .add 34 35),
  m 37 9,
  p 38 (.bin .lss 36 37)])
 (.cond 38
 (.skip)
 (.exit 2)))
 (.seq (.block 3
 (.seq (.region false [m 41 13,
  m 15 41])
 (.block 4
 (.loop [0, 1, 9, 10, 11, 12, 13, 14, 15] [(.exit 4, [0, 1, 9, 10, 11, 12, 13, 14])] l_spec_l03Both_1))))
 (.region false [m 39 14,
  p 40 (.bin .add 39 (k 1)),
  m 14 40]))
def q_spec_l03Both_2 (a0 a1 a9 a10 a11 a12 a13 a14 : Value) (h : Hp) (K K0 : Kont) : Prop :=
  bindO (binV .add a13 a14) fun v36 => bindO (binV .lss v36 a9) fun v38 => condM v38 (LP FF (YC.er l_spec_l03Both_1) [0, 1, 9, 10, 11, 12, 13, 14, 15] [(.exit 4, [0, 1, 9, 10, 11, 12, 13, 14], fun vs h1 => ∀ e : Env, [e 0, e 1, e 9, e 10, e 11, e 12, e 13, e 14] = vs → bindO (binV .add (e 14) (.int .i64 1)) fun v40 => K [(e 0), (e 1), (e 9), (e 10), (e 11), (e 12), (e 13), v40] h1)] [a0, a1, a9, a10, a11, a12, a13, a14, a13] h) (K0 [a0, a1, a9, a10, a11, a12, a13] h)
theorem wl_spec_l03Both_2 {a0 a1 a9 a10 a11 a12 a13 a14 : Value} {h : Hp} {K K0 : Kont} (H : q_spec_l03Both_2 a0 a1 a9 a10 a11 a12 a13 a14 h K K0) : ∀ e : Env, [e 0, e 1, e 9, e 10, e 11, e 12, e 13, e 14] = [a0, a1, a9, a10, a11, a12, a13, a14] → V FF l_spec_l03Both_2 (qsel [0, 1, 9, 10, 11, 12, 13, 14] K [(.exit 2, [0, 1, 9, 10, 11, 12, 13], K0)]) ⟨e, h⟩ := by
  intro e he; cases he; exact Eq.mp (by kernel_rfl) H
def l_spec_l03Both_3 : YC :=
  .seq (.seq (.region false [m 29 13,
  m 30 9,
  p 31 (.bin .lss 29 30)])
 (.cond 31
 (.skip)
 (.exit 0)))
 (.seq (.block 1
 (.seq (.region false [mc 14 (k 0)])
 (.block 2
 (.loop [0, 1, 9, 10, 11, 12, 13, 14] [(.exit 2, [0, 1, 9, 10, 11, 12, 13])] l_spec_l03Both_2))))
 (.region false [m 32 13,
  p 33 (.bin .add 32 (k 1)),
  m 13 33]))
def q_spec_l03Both_3 (a0 a1 a9 a10 a11 a12 a13 : Value) (h : Hp) (K K0 : Kont) : Prop :=
  bindO (binV .lss a13 a9) fun v31 => condM v31 (LP FF (YC.er l_spec_l03Both_2) [0, 1, 9, 10, 11, 12, 13, 14] [(.exit 2, [0, 1, 9, 10, 11, 12, 13], fun vs h1 => ∀ e : Env, [e 0, e 1, e 9, e 10, e 11, e 12, e 13] = vs → bindO (binV .add (e 13) (.int .i64 1)) fun v33 => K [(e 0), (e 1), (e 9), (e 10), (e 11), (e 12), v33] h1)] [a0, a1, a9, a10, a11, a12, a13, (.int .i64 0)] h) (K0 [a12] h)
theorem wl_spec_l03Both_3 {a0 a1 a9 a10 a11 a12 a13 : Value} {h : Hp} {K K0 : Kont} (H : q_spec_l03Both_3 a0 a1 a9 a10 a11 a12 a13 h K K0) : ∀ e : Env, [e 0, e 1, e 9, e 10, e 11, e 12, e 13] = [a0, a1, a9, a10, a11, a12, a13] → V FF l_spec_l03Both_3 (qsel [0, 1, 9, 10, 11, 12, 13] K [(.exit 0, [12], K0)]) ⟨e, h⟩ := by
  intro e he; cases he; exact Eq.mp (by kernel_rfl) H
def y_spec_l03Both : YC :=
  .seq (.region false [mc 8 (.c (.slice none 0 0))])
 (.seq (.region false [m 18 1,
  p 19 (.len  18),
  m 9 19])
 (.seq (.region false [m 20 0,
  m 21 2,
  o 22 (cl n_spec_l03Powers [20, 21]),
  m 23 0,
  m 24 3,
  o 25 (cl n_spec_l03Powers [23, 24]),
  m 26 9,
  p 27 (.bin .sub 26 (k 1)),
  o 28 (cl n_spec_l03Zero [27]),
  m 10 22,
  m 11 25,
  m 12 28])
 (.seq (.seq (.region false [mc 13 (k 0)])
 (.block 0
 (.loop [0, 1, 9, 10, 11, 12, 13] [(.exit 0, [12])] l_spec_l03Both_3)))
 (.seq (.region false [m 104 12,
  m 8 104])
 (.ret)))))
theorem c_spec_l03Both : FF n_spec_l03Both = some ⟨105, y_spec_l03Both.er, [.tmp 8]⟩ := by kernel_rfl
def p_spec_l03Both (a0 a1 a2 a3 : Value) (h : Hp) (R : Value → Hp → Prop) : Prop :=
  bindO (lenV  a1) fun v19 => CallW FF n_spec_l03Powers [a0, a2] h fun v22 h1 => CallW FF n_spec_l03Powers [a0, a3] h1 fun v25 h2 => bindO (binV .sub v19 (.int .i64 1)) fun v27 => CallW FF n_spec_l03Zero [v27] h2 fun v28 h3 => LP FF (YC.er l_spec_l03Both_3) [0, 1, 9, 10, 11, 12, 13] [(.exit 0, [12], fun vs h4 => ∀ e : Env, [e 12] = vs → R (e 12) h4)] [a0, a1, v19, v22, v25, v28, (.int .i64 0)] h3
theorem w_spec_l03Both {a0 a1 a2 a3 : Value} {h : Hp} {R : Value → Hp → Prop} (H : p_spec_l03Both a0 a1 a2 a3 h R) : CallW FF n_spec_l03Both [a0, a1, a2, a3] h R := callV_fin c_spec_l03Both (Eq.mp (by kernel_rfl) H)
def y_spec_l01Mod : YC :=
  .seq (.region false [mc 4 (k 0)])
 (.seq (.region false [m 5 1,
  m 6 0,
  p 7 (.bin .rem 5 6),
  m 8 0,
  p 9 (.bin .add 7 8),
  m 10 0,
  p 11 (.bin .rem 9 10),
  m 4 11])
 (.ret))
theorem c_spec_l01Mod : FF n_spec_l01Mod = some ⟨12, y_spec_l01Mod.er, [.tmp 4]⟩ := by kernel_rfl
def p_spec_l01Mod (a0 a1 : Value) (h : Hp) (R : Value → Hp → Prop) : Prop :=
  bindO (binV .rem a1 a0) fun v7 => bindO (binV .add v7 a0) fun v9 => bindO (binV .rem v9 a0) fun v11 => R v11 h
theorem w_spec_l01Mod {a0 a1 : Value} {h : Hp} {R : Value → Hp → Prop} (H : p_spec_l01Mod a0 a1 h R) : CallW FF n_spec_l01Mod [a0, a1] h R := callV_fin c_spec_l01Mod (Eq.mp (by kernel_rfl) H)
end XM

/- All of them. -/

/- Numbers modulo M: the functions of the first chapter that all others use. -/
namespace XM
open Go

abbrev i6 (n : Int) : Value := .int .i64 n

theorem s_spec_l01In {n lo hi : Int} {h : Hp} {R : Value → Hp → Prop} (hR : R (.bool (decide (lo ≤ n ∧ n ≤ hi))) h) : CallW FF n_spec_l01In [i6 n, i6 lo, i6 hi] h R := by
  refine w_spec_l01In ?_
  by_cases h1 : lo ≤ n <;> simp [p_spec_l01In, h1] at hR ⊢ <;> exact hR
theorem s_impl_in {n lo hi : Int} {h : Hp} {R : Value → Hp → Prop} (hR : R (.bool (decide (lo ≤ n ∧ n ≤ hi))) h) : CallW FF n_impl_in [i6 n, i6 lo, i6 hi] h R := by
  refine w_impl_in ?_
  by_cases h1 : lo ≤ n <;> simp [p_impl_in, h1] at hR ⊢ <;> exact hR
theorem s_spec_l01Modulus {n : Int} {h : Hp} {R : Value → Hp → Prop} (hR : R (.bool (decide (2 ≤ n ∧ n ≤ 10000))) h) : CallW FF n_spec_l01Modulus [i6 n] h R :=
  w_spec_l01Modulus (s_spec_l01In hR)
theorem s_impl_IsModulus {n : Int} {h : Hp} {R : Value → Hp → Prop} (hR : R (.bool (decide (2 ≤ n ∧ n ≤ 10000))) h) : CallW FF n_impl_IsModulus [i6 n] h R :=
  w_impl_IsModulus (s_impl_in hR)
theorem s_impl_isNumber {a m : Int} {h : Hp} {R : Value → Hp → Prop} (hm : -9000000000000000000 ≤ m) (hm2 : m ≤ 9000000000000000000) (hR : R (.bool (decide (0 ≤ a ∧ a < m))) h) : CallW FF n_impl_isNumber [i6 a, i6 m] h R := by
  refine w_impl_isNumber ?_
  have w1 : IntKind.i64.wrap (m - 1) = m - 1 := wrapI (by omega) (by omega)
  simp [p_impl_isNumber, w1]
  refine s_impl_in ?_
  have e : (decide (0 ≤ a ∧ a ≤ m - 1)) = decide (0 ≤ a ∧ a < m) := by congr 1; rw [eq_iff_iff]; omega
  rw [e]; exact hR

theorem tmod_mod {n m : Int} (hm : 0 < m) : (n.tmod m + m).tmod m = n % m := by
  have h1 : -m < n.tmod m := Int.lt_tmod_of_pos n hm
  rw [Int.tmod_eq_emod_of_nonneg (by omega), Int.add_emod_right]
  rcases Int.lt_or_le n 0 with h | h
  · have := Int.tmod_def n m
    rw [this, Int.sub_emod, Int.mul_emod_right]; simp
  · rw [Int.tmod_eq_emod_of_nonneg h, Int.emod_emod]

theorem s_impl_mod {n m : Int} {h : Hp} {R : Value → Hp → Prop} (hm : 0 < m) (hm2 : m ≤ 4000000000000000000) (hR : R (i6 (n % m)) h) : CallW FF n_impl_mod [i6 n, i6 m] h R := by
  refine w_impl_mod ?_
  have h1 : -m < n.tmod m := Int.lt_tmod_of_pos n hm
  have h2 : n.tmod m < m := Int.tmod_lt_of_pos n hm
  have w1 : IntKind.i64.wrap (n.tmod m + m) = n.tmod m + m := wrapI (by omega) (by omega)
  have m0 : ¬ m = 0 := by omega
  simpa [p_impl_mod, w1, m0, tmod_mod hm] using hR
theorem s_spec_l01Mod {n m : Int} {h : Hp} {R : Value → Hp → Prop} (hm : 0 < m) (hm2 : m ≤ 4000000000000000000) (hR : R (i6 (n % m)) h) : CallW FF n_spec_l01Mod [i6 m, i6 n] h R := by
  refine w_spec_l01Mod ?_
  have h1 : -m < n.tmod m := Int.lt_tmod_of_pos n hm
  have h2 : n.tmod m < m := Int.tmod_lt_of_pos n hm
  have w1 : IntKind.i64.wrap (n.tmod m + m) = n.tmod m + m := wrapI (by omega) (by omega)
  have m0 : ¬ m = 0 := by omega
  simpa [p_spec_l01Mod, w1, m0, tmod_mod hm] using hR
theorem s_impl_mul {a b m : Int} {h : Hp} {R : Value → Hp → Prop} (hm : 0 < m) (hm2 : m ≤ 3000000000) (ha : 0 ≤ a) (hb : 0 ≤ b) (hab : a * b ≤ 9000000000000000000) (hR : R (i6 (a * b % m)) h) : CallW FF n_impl_mul [i6 m, i6 a, i6 b] h R := by
  refine w_impl_mul ?_
  have h0 : 0 ≤ a * b := Int.mul_nonneg ha hb
  have w1 : IntKind.i64.wrap (a * b) = a * b := wrapI (by omega) (by omega)
  have m0 : ¬ m = 0 := by omega
  simpa [p_impl_mul, w1, m0, hm2, Int.tmod_eq_emod_of_nonneg h0] using hR

theorem s_spec_l01Numbers {m : Int} {A : Option Addr} {xs : List Int} {c : Nat} {h : Hp} {R : Value → Hp → Prop} (hr : RI h A xs) (hm : -9000000000000000000 ≤ m) (hm2 : m ≤ 9000000000000000000) (hl : xs.length ≤ sizeMax)
    (hR : R (.bool (decide (Nums m xs))) h) : CallW FF n_spec_l01Numbers [i6 m, .slice A xs.length c] h R := by
  refine w_spec_l01Numbers ?_
  unfold sizeMax at hl
  refine LP2 (fun d vs h' => ∃ i : Nat, d = xs.length - i ∧ i ≤ xs.length ∧ h' = h ∧ vs = [i6 m, .slice A xs.length c, i6 i] ∧ Nums m (xs.take i)) ?_ _ _ _ ⟨0, rfl, by omega, rfl, rfl, by simp [Nums]⟩
  rintro d vs h' ⟨i, rfl, hi, rfl, rfl, hN⟩ K K1 K2 hK hK1 hK2
  have w1 : IntKind.i64.wrap (m - 1) = m - 1 := wrapI (by omega) (by omega)
  refine wl_spec_l01Numbers_0 ?_
  by_cases hlt : i < xs.length
  · obtain ⟨r1, r2⟩ := hr.rd (e := i) (c := c) (k := .i64) rfl rfl hlt
    have r3 := r2 h' (HE.refl _)
    have w2 : IntKind.i64.wrap ((i : Int) + 1) = i + 1 := wrapI (by omega) (by omega)
    simp [q_spec_l01Numbers_0, hlt, r1, r3, w1]
    refine s_spec_l01In ?_
    by_cases hc : 0 ≤ XM.gt xs i ∧ XM.gt xs i ≤ m - 1
    · simp [hc, w2]
      exact hK _ _ _ (by omega) ⟨i + 1, rfl, by omega, rfl, rfl, (nums_take hlt).2 ⟨hN, by omega⟩⟩
    · simp [hc]
      refine hK2 _ _ fun e he => ?_
      have : ¬ Nums m xs := fun hn => hc (by have := hn.gt hlt; omega)
      simp at he; simpa [this, he] using hR
  · have : xs.take i = xs := List.take_of_length_le (by omega)
    rw [this] at hN
    simp [q_spec_l01Numbers_0, hlt]
    refine hK1 _ _ fun e he => ?_
    simpa [hN] using hR

end XM

/- Lists of coefficients: the reference's functions. -/
namespace XM
open Go

theorem s_spec_l02Times {m : Int} {A B : Option Addr} {xs ys : List Int} {ca cb D na nb : Nat} {h : Hp} {R : Value → Hp → Prop} (ha : RI h A xs) (hb : RI h B ys) (hna : na = xs.length) (hnb : nb = ys.length) (hm : 0 < m) (hm2 : m ≤ 3000000000)
    (hx : Nums m xs) (hy : Nums m ys) (hlx : xs.length ≤ 1000000) (hly : ys.length ≤ 1000000) (hD : D ≤ 1000000)
    (hR : ∀ v h', HE h h' → FI y_t_int64 h h' v (mulL m (D + 1) xs ys) → R v h') : CallW FF n_spec_l02Times [i6 m, .slice A na ca, .slice B nb cb, i6 D] h R := by
  subst hna; subst hnb
  refine w_spec_l02Times ?_
  have w1 : IntKind.i64.wrap ((D : Int) + 1) = D + 1 := wrapI (by omega) (by omega)
  have m0 : ¬ m = 0 := by omega
  have mk : makN (.int .i64 ((D : Int) + 1)) = some (D + 1) := makN_nat (by omega) (by unfold sizeMax; omega)
  simp [p_spec_l02Times, w1, mk, mapI_rep]
  refine newB_i fun b h1 eb en eh eB => ?_
  -- the outer loop
  refine LP1 (fun d vs h' => ∃ (i : Nat) (zs : List Int), d = D + 1 - i ∧ i ≤ xs.length ∧ i ≤ D + 1 ∧ vs = [i6 m, .slice A xs.length ca, .slice B ys.length cb, i6 D, .slice (some ⟨b, 0, none⟩) (D + 1) 1, i6 i] ∧
     zs.length = D + 1 ∧ h'.bk b = some ⟨mapI zs, y_t_int64, true⟩ ∧ HE h h' ∧ b < h'.nx ∧ ∀ n, n ≤ D → gt zs n = ps xs ys i n % m)
    ?_ _ _ _ ⟨0, List.replicate (D + 1) 0, rfl, by omega, by omega, rfl, by simp, eB, eh, by omega, fun n hn => by rw [rep_tab, gt_tab (by omega), ps_zero]; simp⟩
  rintro d vs h2 ⟨i, zs, rfl, hi, hiD, rfl, hz, hbk, hE, hnx, hzs⟩ K K1 hK hK1
  refine wl_spec_l02Times_1 ?_
  by_cases hlt : i < xs.length ∧ i ≤ D
  · obtain ⟨hlt, hle⟩ := hlt
    simp [q_spec_l02Times_1, hlt, hle]
    -- the inner loop
    refine LP1 (fun d vs h' => ∃ (k : Nat) (zs : List Int), d = D + 1 - i - k ∧ k ≤ ys.length ∧ k ≤ D + 1 - i ∧ vs = [i6 m, .slice A xs.length ca, .slice B ys.length cb, i6 D, .slice (some ⟨b, 0, none⟩) (D + 1) 1, i6 i, i6 k] ∧
       zs.length = D + 1 ∧ h'.bk b = some ⟨mapI zs, y_t_int64, true⟩ ∧ HE h h' ∧ b < h'.nx ∧
       ∀ n, n ≤ D → gt zs n = (ps xs ys i n + if i ≤ n ∧ n < i + k then gt xs i * gt ys (n - i) else 0) % m)
      ?_ _ _ _ ⟨0, zs, rfl, by omega, by omega, rfl, hz, hbk, hE, hnx, fun n hn => by rw [hzs n hn, if_neg (by omega)]; simp⟩
    rintro d2 vs h3 ⟨k, zs, rfl, hk, hkD, rfl, hz, hbk, hE, hnx, hzs⟩ K2 K3 hK2 hK3
    refine wl_spec_l02Times_0 ?_
    obtain ⟨r1, r2⟩ := ha.rd (e := i) (c := ca) (k := .i64) rfl rfl hlt
    have r3 := r2 _ hE
    have w4 : IntKind.i64.wrap ((i : Int) + k) = i + k := wrapI (by omega) (by omega)
    have w5 : IntKind.i64.wrap ((k : Int) + 1) = k + 1 := wrapI (by omega) (by omega)
    have w6 : IntKind.i64.wrap ((i : Int) + 1) = i + 1 := wrapI (by omega) (by omega)
    by_cases hgo : k < ys.length ∧ i + k ≤ D ∧ gt xs i ≠ 0
    · obtain ⟨g1, g2, g3⟩ := hgo
      obtain ⟨t1, t2⟩ := hb.rd (e := k) (c := cb) (k := .i64) rfl rfl g1
      have t3 := t2 _ hE
      have q4 : (i : Int) + k ≤ D := by omega
      have q5 : indexAddrV 1 (.slice (some ⟨b, 0, none⟩) (D + 1) 1) (.int .i64 ((i : Int) + k)) = some (.pointer (some ⟨b, i + k, none⟩)) := ixOwn (by omega) (by omega)
      have q6 := ownRd (n := 0) (c := 0) hbk (show i + k < zs.length by omega)
      have bx := hx.gt hlt; have by_ := hy.gt g1
      have bm := mul_bd hm2 bx by_
      have bz : 0 ≤ gt zs (i + k) ∧ gt zs (i + k) < m := by rw [hzs _ g2]; exact mod_bd hm _
      have w7 : IntKind.i64.wrap (gt xs i * gt ys k) = gt xs i * gt ys k := wrapI (by omega) (by omega)
      have w8 : IntKind.i64.wrap (gt zs (i + k) + gt xs i * gt ys k) = gt zs (i + k) + gt xs i * gt ys k := wrapI (by omega) (by omega)
      simp [q_spec_l02Times_0, g1, q4, q5, q6, w4, w5, w7, w8, r1, r3, t1, t3, g3, m0, Int.tmod_eq_emod_of_nonneg (show 0 ≤ gt zs (i + k) + gt xs i * gt ys k by omega)]
      refine storeI (i := i + k) hbk (by omega) fun h4 u => ?_
      refine hK2 _ _ _ (by omega) ⟨k + 1, zs.set (i + k) ((gt zs (i + k) + gt xs i * gt ys k) % m), rfl, by omega, by omega, by simp, by simp [hz], u.bk, u.he hE (by omega), by rw [u.nx]; omega, fun n hn => ?_⟩
      rw [gt_set]
      by_cases hn2 : i + k = n
      · subst hn2
        rw [if_pos ⟨rfl, by omega⟩, if_pos (by omega), hzs _ hn, if_neg (by omega), Int.add_zero, Int.emod_add_emod]
        rw [show i + k - i = k by omega]
      · rw [if_neg (by omega), hzs n hn]
        by_cases hn3 : i ≤ n ∧ n < i + k
        · rw [if_pos hn3, if_pos (by omega)]
        · rw [if_neg hn3, if_neg (by omega)]
    · -- the row is done
      have hend : ∀ n, n ≤ D → gt zs n = ps xs ys (i + 1) n % m := by
        intro n hn
        rw [hzs n hn, ps_succ]
        refine congrArg (fun t => (ps xs ys i n + t) % m) ?_
        by_cases h1 : i ≤ n ∧ n < i + k
        · rw [if_pos h1, if_pos h1.1]
        · rw [if_neg h1]
          by_cases h2 : i ≤ n
          · rw [if_pos h2]
            by_cases g3 : gt xs i = 0
            · simp [g3]
            · have : k = ys.length := by
                rcases Nat.lt_or_ge k ys.length with h3 | h3
                · exact absurd ⟨h3, by omega, g3⟩ hgo
                · omega
              rw [gt_out (xs := ys) (by omega)]; simp
          · rw [if_neg h2]
      have fin : K3 [i6 m, .slice A xs.length ca, .slice B ys.length cb, i6 D, .slice (some ⟨b, 0, none⟩) (D + 1) 1, i6 i] h3 := by
        refine hK3 _ _ fun e he => ?_
        simp at he; simp [he, w6]
        exact hK _ _ _ (by omega) ⟨i + 1, zs, rfl, by omega, by omega, rfl, hz, hbk, hE, hnx, hend⟩
      by_cases g1 : k < ys.length
      · by_cases g2 : i + k ≤ D
        · have q4 : (i : Int) + k ≤ D := by omega
          have g3 : gt xs i = 0 := Classical.not_not.1 fun g3 => hgo ⟨g1, g2, g3⟩
          simpa [q_spec_l02Times_0, g1, q4, w4, r1, r3, g3] using fin
        · have q4 : ¬ (i : Int) + k ≤ D := by omega
          simpa [q_spec_l02Times_0, g1, q4, w4] using fin
      · simpa [q_spec_l02Times_0, g1] using fin
  · have hfin : K1 [.slice (some ⟨b, 0, none⟩) (D + 1) 1] h2 := by
      refine hK1 _ _ fun e he => ?_
      simp at he; rw [he]
      refine hR _ _ hE ⟨b, by simp, by omega, hnx, ?_⟩
      rw [hbk, show zs = mulL m (D + 1) xs ys from ?_]
      refine eq_tab hz fun n hn => by rw [hzs n (by omega), ps_full fun j h1 h2 => by
        rcases Nat.lt_or_ge j xs.length with h3 | h3
        · exfalso; exact hlt ⟨by omega, by omega⟩
        · exact gt_out h3]
    by_cases q1 : i < xs.length
    · have q2 : ¬ i ≤ D := by omega
      simpa [q_spec_l02Times_1, q1, q2] using hfin
    · simpa [q_spec_l02Times_1, q1] using hfin
end XM

/- Sums and multiples of lists of coefficients. -/
namespace XM
open Go

theorem take_snoc {n : Nat} {f : Nat → Int} : tab (n + 1) f = tab n f ++ [f n] := by simp [tab, List.range_succ]

theorem s_spec_l02Add {m : Int} {A B : Option Addr} {xs ys : List Int} {ca cb na nb : Nat} {h : Hp} {R : Value → Hp → Prop} (ha : RI h A xs) (hb : RI h B ys) (hna : na = xs.length) (hnb : nb = ys.length) (hm : 0 < m) (hm2 : m ≤ 3000000000)
    (hx : Nums m xs) (hy : Nums m ys) (hlx : xs.length ≤ 1000000) (hl : xs.length ≤ ys.length)
    (hR : ∀ v h', HE h h' → FI y_t_int64 h h' v (addL m xs ys) → R v h') : CallW FF n_spec_l02Add [i6 m, .slice A na ca, .slice B nb cb] h R := by
  subst hna; subst hnb
  refine w_spec_l02Add ?_
  have m0 : ¬ m = 0 := by omega
  simp [p_spec_l02Add]
  refine newB_i fun b h1 eb en eh eB => ?_
  refine LP1 (fun d vs h' => ∃ i b : Nat, d = xs.length - i ∧ i ≤ xs.length ∧ vs = [i6 m, .slice A xs.length ca, .slice B ys.length cb, .slice (some ⟨b, 0, none⟩) i 1, i6 i] ∧
     h'.bk b = some ⟨mapI (tab i fun i => (gt xs i + gt ys i) % m), y_t_int64, true⟩ ∧ HE h h' ∧ h.nx ≤ b ∧ b < h'.nx)
    ?_ _ _ _ ⟨0, b, rfl, by omega, rfl, eB, eh, by omega, by omega⟩
  rintro d vs h2 ⟨i, b, rfl, hi, rfl, hbk, hE, hge, hnx⟩ K K1 hK hK1
  refine wl_spec_l02Add_0 ?_
  by_cases hlt : i < xs.length
  · obtain ⟨r1, r2⟩ := ha.rd (e := i) (c := ca) (k := .i64) rfl rfl hlt
    have r3 := r2 _ hE
    obtain ⟨t1, t2⟩ := hb.rd (e := i) (c := cb) (k := .i64) rfl rfl (by omega)
    have t3 := t2 _ hE
    have bx := hx.gt hlt; have by_ := hy.gt (show i < ys.length by omega)
    have w1 : IntKind.i64.wrap (gt xs i + gt ys i) = gt xs i + gt ys i := wrapI (by omega) (by omega)
    have w2 : IntKind.i64.wrap ((i : Int) + 1) = i + 1 := wrapI (by omega) (by omega)
    simp [q_spec_l02Add_0, hlt, r1, r3, t1, t3, w1, w2, m0, Int.tmod_eq_emod_of_nonneg (show 0 ≤ gt xs i + gt ys i by omega)]
    refine pushI hbk hnx (by simp) (by unfold sizeMax; omega) fun b' h' u => ?_
    exact hK _ _ _ (by omega) ⟨i + 1, b', rfl, by omega, rfl, by rw [take_snoc]; exact u.bk, u.he hE hge, by have := u.ge; have := hE.nx; omega, u.lt⟩
  · have : i = xs.length := by omega
    subst this
    simp [q_spec_l02Add_0]
    refine hK1 _ _ fun e he => ?_
    simp at he; rw [he]
    exact hR _ _ hE ⟨b, by simp, hge, hnx, hbk⟩

theorem s_spec_l02Scale {m c : Int} {A : Option Addr} {xs : List Int} {ca na : Nat} {h : Hp} {R : Value → Hp → Prop} (ha : RI h A xs) (hna : na = xs.length) (hm : 0 < m) (hm2 : m ≤ 3000000000) (hc : 0 ≤ c ∧ c < m)
    (hx : Nums m xs) (hlx : xs.length ≤ 1000000)
    (hR : ∀ v h', HE h h' → FI y_t_int64 h h' v (scaleL m c xs) → R v h') : CallW FF n_spec_l02Scale [i6 m, i6 c, .slice A na ca] h R := by
  subst hna
  refine w_spec_l02Scale ?_
  have m0 : ¬ m = 0 := by omega
  simp [p_spec_l02Scale]
  refine newB_i fun b h1 eb en eh eB => ?_
  refine LP1 (fun d vs h' => ∃ i b : Nat, d = xs.length - i ∧ i ≤ xs.length ∧ vs = [i6 m, i6 c, .slice A xs.length ca, .slice (some ⟨b, 0, none⟩) i 1, i6 i] ∧
     h'.bk b = some ⟨mapI (tab i fun i => (c * gt xs i) % m), y_t_int64, true⟩ ∧ HE h h' ∧ h.nx ≤ b ∧ b < h'.nx)
    ?_ _ _ _ ⟨0, b, rfl, by omega, rfl, eB, eh, by omega, by omega⟩
  rintro d vs h2 ⟨i, b, rfl, hi, rfl, hbk, hE, hge, hnx⟩ K K1 hK hK1
  refine wl_spec_l02Scale_0 ?_
  by_cases hlt : i < xs.length
  · obtain ⟨r1, r2⟩ := ha.rd (e := i) (c := ca) (k := .i64) rfl rfl hlt
    have r3 := r2 _ hE
    have bx := hx.gt hlt
    have bm := mul_bd hm2 hc bx
    have w1 : IntKind.i64.wrap (c * gt xs i) = c * gt xs i := wrapI (by omega) (by omega)
    have w2 : IntKind.i64.wrap ((i : Int) + 1) = i + 1 := wrapI (by omega) (by omega)
    simp [q_spec_l02Scale_0, hlt, r1, r3, w1, w2, m0, Int.tmod_eq_emod_of_nonneg bm.1]
    refine pushI hbk hnx (by simp) (by unfold sizeMax; omega) fun b' h' u => ?_
    exact hK _ _ _ (by omega) ⟨i + 1, b', rfl, by omega, rfl, by rw [take_snoc]; exact u.bk, u.he hE hge, by have := u.ge; have := hE.nx; omega, u.lt⟩
  · have : i = xs.length := by omega
    subst this
    simp [q_spec_l02Scale_0]
    refine hK1 _ _ fun e he => ?_
    simp at he; rw [he]
    exact hR _ _ hE ⟨b, by simp, hge, hnx, hbk⟩
end XM

/- Tables of the function's own, in the abstract heap. -/
namespace XM
open Go

def hdr (rb : Nat → Nat) (T : List (List Int)) : List Value := (List.range T.length).map fun i => .slice (some ⟨rb i, 0, none⟩) (row T i).length 1
@[simp] theorem hdr_len (rb : Nat → Nat) (T : List (List Int)) : (hdr rb T).length = T.length := by simp [hdr]
theorem hdr_get {rb : Nat → Nat} {T : List (List Int)} {i : Nat} (h : i < T.length) : (hdr rb T)[i]? = some (.slice (some ⟨rb i, 0, none⟩) (row T i).length 1) := by simp [hdr, h]
theorem row_app {T : List (List Int)} {r : List Int} {i : Nat} : row (T ++ [r]) i = if i < T.length then row T i else if i = T.length then r else [] := by
  unfold row
  simp only [List.getD_eq_getElem?_getD, List.getElem?_append]
  split
  · rfl
  · rename_i h
    by_cases h2 : i = T.length
    · subst h2; simp
    · rw [if_neg h2, List.getElem?_eq_none (by simp; omega)]; rfl
theorem row_set {T : List (List Int)} {r : List Int} {i j : Nat} : row (T.set i r) j = if i = j ∧ i < T.length then r else row T j := by
  unfold row
  simp only [List.getD_eq_getElem?_getD, List.getElem?_set]
  by_cases h : i = j
  · subst h
    by_cases h2 : i < T.length
    · simp [h2]
    · simp [h2]
  · simp [h]

/-- A table with blocks of its own, all from lo on; lt says that they are there. -/
structure OT (lo : Nat) (h : Hp) (b : Nat) (rb : Nat → Nat) (T : List (List Int)) : Prop where
  lob : lo ≤ b
  ltb : b < h.nx
  top : h.bk b = some ⟨hdr rb T, y_t_Lint64, true⟩
  lor : ∀ i, i < T.length → lo ≤ rb i
  ltr : ∀ i, i < T.length → rb i < h.nx
  ne : ∀ i, i < T.length → rb i ≠ b
  rows : ∀ i, i < T.length → h.bk (rb i) = some ⟨mapI (row T i), y_t_int64, true⟩
  inj : ∀ i j, i < T.length → j < T.length → rb i = rb j → i = j

theorem OT.mono {lo : Nat} {h h' : Hp} {b : Nat} {rb : Nat → Nat} {T : List (List Int)} (t : OT lo h b rb T) (e : HE h h') : OT lo h' b rb T :=
  ⟨t.lob, Nat.lt_of_lt_of_le t.ltb e.nx, by rw [e.bk _ t.ltb]; exact t.top, t.lor, fun i hi => Nat.lt_of_lt_of_le (t.ltr i hi) e.nx, t.ne, fun i hi => by rw [e.bk _ (t.ltr i hi)]; exact t.rows i hi, t.inj⟩

theorem OT.rt {lo : Nat} {h : Hp} {b : Nat} {rb : Nat → Nat} {T : List (List Int)} (t : OT lo h b rb T) : RT h (some ⟨b, 0, none⟩) (fun i => some ⟨rb i, 0, none⟩) T :=
  ⟨RV.of_block t.ltb t.top rfl, fun i hi => RI.of_block (t.ltr i hi) (t.rows i hi)⟩

theorem OT.nil {lo : Nat} {h : Hp} {b : Nat} (rb : Nat → Nat) (hb : lo ≤ b) (hl : b < h.nx) (ht : h.bk b = some ⟨[], y_t_Lint64, true⟩) : OT lo h b rb [] :=
  ⟨hb, hl, ht, by simp, by simp, by simp, by simp, by simp⟩

/-- A new row at the end. -/
theorem OT.push {lo : Nat} {h h1 h2 : Hp} {b b' r n : Nat} {rb : Nat → Nat} {T : List (List Int)} {xs : List Int} (t : OT lo h b rb T) (e : HE h h1) (hr : lo ≤ r) (hr2 : h.nx ≤ r) (hr3 : r < h1.nx) (hn : n = xs.length)
    (hrow : h1.bk r = some ⟨mapI xs, y_t_int64, true⟩) (u : App b b' ⟨hdr rb T ++ [.slice (some ⟨r, 0, none⟩) n 1], y_t_Lint64, true⟩ h1 h2) :
    OT lo h2 b' (fun i => if i < T.length then rb i else r) (T ++ [xs]) := by
  have tm := t.mono e
  have ge := u.ge; have lt := u.lt
  have hrb : ∀ i, i < T.length + 1 → (if i < T.length then rb i else r) < h1.nx := fun i hi => by split <;> rename_i h3; exact tm.ltr i h3; exact hr3
  have hnb : ∀ i, i < T.length + 1 → (if i < T.length then rb i else r) ≠ b := fun i hi => by
    split <;> rename_i h3
    · exact t.ne i h3
    · have := t.ltb; omega
  refine ⟨by have := t.lob; have := e.nx; have := t.ltb; omega, lt, ?_, ?_, ?_, ?_, ?_, ?_⟩
  · rw [u.bk]
    congr 2
    unfold hdr
    rw [List.length_append, List.length_singleton, List.range_succ, List.map_append]
    congr 1
    · refine List.map_congr_left fun i hi => ?_
      have hi : i < T.length := by simpa using hi
      simp [hi, row_app]
    · simp [row_app, hn]
  · intro i hi
    simp only [List.length_append, List.length_singleton] at hi
    split <;> rename_i h3
    · exact t.lor i h3
    · exact hr
  · intro i hi
    simp only [List.length_append, List.length_singleton] at hi
    have := hrb i hi; omega
  · intro i hi
    simp only [List.length_append, List.length_singleton] at hi
    have := hrb i hi; omega
  · intro i hi
    simp only [List.length_append, List.length_singleton] at hi
    rw [u.ot _ (hrb i hi) (hnb i hi), row_app]
    by_cases h3 : i < T.length
    · simp only [h3, if_true]; exact tm.rows i h3
    · simp only [h3, if_false, if_pos (show i = T.length by omega)]; exact hrow
  · intro i j hi hj hij
    simp only [List.length_append, List.length_singleton] at hi hj
    by_cases h3 : i < T.length <;> by_cases h4 : j < T.length
    · simp only [h3, h4, if_true] at hij; exact t.inj i j h3 h4 hij
    · simp only [h3, h4, if_true, if_false] at hij; have := t.ltr i h3; omega
    · simp only [h3, h4, if_true, if_false] at hij; have := t.ltr j h4; omega
    · omega

/-- A number in a row is changed. -/
theorem OT.set {lo : Nat} {h h' : Hp} {b : Nat} {rb : Nat → Nat} {T : List (List Int)} {i : Nat} {xs : List Int} (t : OT lo h b rb T) (hi : i < T.length) (hx : xs.length = (row T i).length)
    (u : Upd (rb i) (some ⟨mapI xs, y_t_int64, true⟩) h h') : OT lo h' b rb (T.set i xs) := by
  have hh : hdr rb (T.set i xs) = hdr rb T := by
    unfold hdr
    rw [List.length_set]
    refine List.map_congr_left fun j hj => ?_
    rw [row_set]; split
    · rename_i h2; rw [hx, h2.1]
    · rfl
  refine ⟨t.lob, by rw [u.nx]; exact t.ltb, by rw [u.ot _ (t.ne i hi).symm, hh]; exact t.top, fun j hj => t.lor j (by simpa using hj), fun j hj => by rw [u.nx]; exact t.ltr j (by simpa using hj), fun j hj => t.ne j (by simpa using hj), fun j hj => ?_,
    fun j k hj hk => t.inj j k (by simpa using hj) (by simpa using hk)⟩
  have hj : j < T.length := by simpa using hj
  rw [row_set]
  by_cases h2 : i = j
  · subst h2; rw [if_pos ⟨rfl, hi⟩]; exact u.bk
  · rw [if_neg (fun h3 => h2 h3.1), u.ot _ (fun h3 => h2 (t.inj j i hj hi h3).symm)]; exact t.rows j hj

/-- A table as the answer of a function. -/
def FT (h h' : Hp) (v : Value) (T : List (List Int)) : Prop := ∃ b rb, v = .slice (some ⟨b, 0, none⟩) T.length 1 ∧ OT h.nx h' b rb T
end XM

/- Tables and powers: the reference's functions. -/
namespace XM
open Go

def ztab (D : Nat) : Nat → List (List Int)
  | 0 => []
  | i + 1 => ztab D i ++ [List.replicate (D - i + 1) 0]
@[simp] theorem ztab_len (D n : Nat) : (ztab D n).length = n := by induction n with | zero => rfl | succ n ih => simp [ztab, ih]

theorem s_spec_l03Zero {D : Nat} {h : Hp} {R : Value → Hp → Prop} (hD : D ≤ 1000000) (hR : ∀ v h', HE h h' → FT h h' v (ztab D (D + 1)) → R v h') : CallW FF n_spec_l03Zero [i6 D] h R := by
  refine w_spec_l03Zero ?_
  simp [p_spec_l03Zero]
  refine newB_i fun b h1 eb en eh eB => ?_
  refine LP1 (fun d vs h' => ∃ (i b : Nat) (rb : Nat → Nat), d = D + 1 - i ∧ i ≤ D + 1 ∧ vs = [i6 D, .slice (some ⟨b, 0, none⟩) i 1, i6 i] ∧ HE h h' ∧ OT h.nx h' b rb (ztab D i))
    ?_ _ _ _ ⟨0, b, fun _ => 0, rfl, by omega, rfl, eh, OT.nil _ (by omega) (by omega) eB⟩
  rintro d vs h2 ⟨i, b, rb, rfl, hi, rfl, hE, hT⟩ K K1 hK hK1
  refine wl_spec_l03Zero_0 ?_
  by_cases hlt : i ≤ D
  · have w1 : IntKind.i64.wrap ((D : Int) - i) = D - i := wrapI (by omega) (by omega)
    have w2 : IntKind.i64.wrap ((D : Int) - i + 1) = D - i + 1 := wrapI (by omega) (by omega)
    have w3 : IntKind.i64.wrap ((i : Int) + 1) = i + 1 := wrapI (by omega) (by omega)
    have mk : makN (.int .i64 ((D : Int) - i + 1)) = some (D - i + 1) := makN_nat (by omega) (by unfold sizeMax; omega)
    simp [q_spec_l03Zero_0, hlt, w1, w2, w3, mk, mapI_rep]
    refine newB_i fun r h3 er3 en3 eh3 eB3 => ?_
    have t3 := hT.mono eh3
    refine push1 t3.top t3.ltb (by simp) (by unfold sizeMax; omega) fun b' h' u => ?_
    exact hK _ _ _ (by omega) ⟨i + 1, b', _, rfl, by omega, rfl, u.he (hE.trans eh3) (hT.lob), hT.push eh3 (by have := hE.nx; omega) (by omega) (by omega) (by simp) eB3 u⟩
  · have : i = D + 1 := by omega
    subst this
    have : ¬ ((D : Int) + 1 ≤ D) := by omega
    simp [q_spec_l03Zero_0, this]
    refine hK1 _ _ fun e he => ?_
    simp at he; rw [he]
    exact hR _ _ hE ⟨b, rb, by simp, hT⟩

/-- The powers of a list, of D + 1 coefficients each. -/
def oneL (n : Nat) : List Int := (List.replicate n (0 : Int)).set 0 1
def powL (m : Int) (D : Nat) (a : List Int) : Nat → List Int
  | 0 => oneL (D + 1)
  | i + 1 => mulL m (D + 1) (powL m D a i) a
@[simp] theorem powL_len (m : Int) (D : Nat) (a : List Int) (i : Nat) : (powL m D a i).length = D + 1 := by cases i <;> simp [powL, oneL]
theorem nums_mulL {m : Int} (hm : 0 < m) (n : Nat) (a b : List Int) : Nums m (mulL m n a b) := nums_tab hm
theorem nums_oneL {m : Int} (hm : 2 ≤ m) (n : Nat) : Nums m (oneL n) := by
  rw [nums_iff]; intro i hi
  unfold oneL; rw [gt_set]
  split
  · omega
  · rw [rep_tab, gt_tab']; split <;> omega
theorem nums_powL {m : Int} (hm : 2 ≤ m) (D : Nat) (a : List Int) (i : Nat) : Nums m (powL m D a i) := by
  cases i
  · exact nums_oneL hm _
  · exact nums_mulL (by omega) _ _ _
def powT (m : Int) (D : Nat) (a : List Int) : Nat → List (List Int)
  | 0 => []
  | i + 1 => powT m D a i ++ [powL m D a i]
@[simp] theorem powT_len (m : Int) (D : Nat) (a : List Int) (n : Nat) : (powT m D a n).length = n := by induction n with | zero => rfl | succ n ih => simp [powT, ih]
theorem row_powT {m : Int} {D : Nat} {a : List Int} {n i : Nat} (h : i < n) : row (powT m D a n) i = powL m D a i := by
  induction n with
  | zero => omega
  | succ n ih =>
    rw [powT, row_app, powT_len]
    by_cases h2 : i < n
    · rw [if_pos h2, ih h2]
    · rw [if_neg h2, if_pos (by omega), show i = n by omega]

theorem s_spec_l03Powers {m : Int} {A : Option Addr} {a : List Int} {D ca : Nat} {h : Hp} {R : Value → Hp → Prop} (ha : RI h A a) (hl : a.length = D + 1) (hm : 2 ≤ m) (hm2 : m ≤ 3000000000)
    (hx : Nums m a) (hD : D ≤ 100000) (hR : ∀ v h', HE h h' → FT h h' v (powT m D a (D + 1)) → R v h') : CallW FF n_spec_l03Powers [i6 m, .slice A (D + 1) ca] h R := by
  refine w_spec_l03Powers ?_
  have w1 : IntKind.i64.wrap (D : Int) = D := wrapI (by omega) (by omega)
  have mk : makN (.int .i64 ((D : Int) + 1)) = some (D + 1) := makN_nat (by omega) (by unfold sizeMax; omega)
  simp [p_spec_l03Powers, w1, mk, mapI_rep]
  refine newB_i fun r h1 er1 en1 eh1 eB1 => ?_
  have q1 : indexAddrV 1 (.slice (some ⟨r, 0, none⟩) (D + 1) 1) (.int .i64 0) = some (.pointer (some ⟨r, 0, none⟩)) := ixOwn (i := 0) rfl (by omega)
  simp [q1]
  refine storeI (i := 0) eB1 (by simp) fun h2 u => ?_
  refine newB_i fun b h3 er3 en3 eh3 eB3 => ?_
  have nx2 := u.nx
  have hE2 : HE h h3 := (u.he eh1 (by omega)).trans eh3
  have rbk : h3.bk r = some ⟨mapI (oneL (D + 1)), y_t_int64, true⟩ := by rw [eh3.bk _ (by omega)]; exact u.bk
  refine LP1 (fun d vs h' => ∃ (i b : Nat) (rb : Nat → Nat), d = D - i ∧ i ≤ D ∧ vs = [i6 m, .slice A (D + 1) ca, i6 D, .slice (some ⟨b, 0, none⟩) (i + 1) 1, i6 i] ∧ HE h h' ∧ OT h.nx h' b rb (powT m D a (i + 1)))
    ?_ _ _ _ ⟨0, b, fun _ => r, rfl, by omega, rfl, hE2, ⟨by omega, by omega, by rw [eB3]; simp [hdr, powT, row], by simp [powT]; omega, by simp [powT]; omega, by simp [powT]; omega, by simp [powT, row]; exact rbk, by simp [powT]⟩⟩
  rintro d vs h4 ⟨i, b, rb, rfl, hi, rfl, hE, hT⟩ K K1 hK hK1
  refine wl_spec_l03Powers_0 ?_
  by_cases hlt : i < D
  · have w3 : IntKind.i64.wrap ((i : Int) + 1) = i + 1 := wrapI (by omega) (by omega)
    obtain ⟨r1, r2⟩ := hT.rt.rd (e := i) (i := i) (n := i + 1) (c := 1) (k := .i64) rfl (by simp) (by simp)
    have r3 := r2 _ (HE.refl _)
    rw [row_powT (by omega)] at r3
    have hrow := hT.rt.rows i (by simp)
    rw [row_powT (by omega)] at hrow
    simp [q_spec_l03Powers_0, hlt, w3, r1, r3]
    refine s_spec_l02Times hrow (ha.mono hE) (by simp) hl.symm (by omega) hm2 (nums_powL hm D a i) hx (by simp; omega) (by omega) (by omega) fun v h5 hE5 hF => ?_
    obtain ⟨q, rfl, hq1, hq2, hq3⟩ := hF
    simp
    refine push1 (hT.mono hE5).top (hT.mono hE5).ltb (by simp) (by unfold sizeMax; omega) fun b' h6 u => ?_
    exact hK _ _ _ (by omega) ⟨i + 1, b', _, rfl, by omega, rfl, u.he (hE.trans hE5) hT.lob, hT.push hE5 (by have := hE.nx; omega) hq1 hq2 (by simp) hq3 u⟩
  · have : i = D := by omega
    subst this
    simp [q_spec_l03Powers_0]
    refine hK1 _ _ fun e he => ?_
    simp at he; rw [he]
    exact hR _ _ hE ⟨b, rb, by simp, hT⟩
end XM

/- Compositions and values of tables at series: the reference's functions. -/
namespace XM
open Go

def addC (m : Int) (xs : List Int) (c : Int) : List Int := xs.set 0 ((gt xs 0 + c) % m)
/-- The k-th state of Horner's rule from the coefficient at s on. -/
def horn (m : Int) (D : Nat) (a f : List Int) (s : Nat) : Nat → List Int
  | 0 => List.replicate (D + 1) 0
  | k + 1 => addC m (mulL m (D + 1) (horn m D a f s k) f) (gt a (s - k))
@[simp] theorem horn_len (m : Int) (D : Nat) (a f : List Int) (s k : Nat) : (horn m D a f s k).length = D + 1 := by cases k <;> simp [horn, addC]
theorem nums_addC {m : Int} (hm : 0 < m) {xs : List Int} (h : Nums m xs) (c : Int) : Nums m (addC m xs c) := by
  rw [nums_iff]; intro i hi
  unfold addC; rw [gt_set]; split
  · exact mod_bd hm _
  · exact h.gt (by simpa [addC] using hi)
theorem nums_rep {m : Int} (hm : 0 < m) (n : Nat) : Nums m (List.replicate n 0) := by
  intro x hx; simp at hx; omega
theorem nums_horn {m : Int} (hm : 0 < m) (D : Nat) (a f : List Int) (s k : Nat) : Nums m (horn m D a f s k) := by
  cases k
  · exact nums_rep hm _
  · exact nums_addC hm (nums_mulL hm _ _ _) _

theorem s_spec_l02Compose {m : Int} {A B : Option Addr} {a f : List Int} {D ca cb na nb : Nat} {h : Hp} {R : Value → Hp → Prop} (ha : RI h A a) (hf : RI h B f) (hna : na = a.length) (hnb : nb = f.length) (hm : 2 ≤ m) (hm2 : m ≤ 3000000000)
    (hx : Nums m a) (hy : Nums m f) (h1a : 1 ≤ a.length) (hla : a.length ≤ 100000) (hlf : f.length ≤ 100000) (hD : D ≤ 100000)
    (hR : ∀ v h', HE h h' → FI y_t_int64 h h' v (horn m D a f (min (a.length - 1) D) (min (a.length - 1) D + 1)) → R v h') : CallW FF n_spec_l02Compose [i6 m, .slice A na ca, .slice B nb cb, i6 D] h R := by
  subst hna; subst hnb
  refine w_spec_l02Compose ?_
  have m0 : ¬ m = 0 := by omega
  have w1 : IntKind.i64.wrap ((D : Int) + 1) = D + 1 := wrapI (by omega) (by omega)
  have w2 : IntKind.i64.wrap ((a.length : Int) - 1) = a.length - 1 := wrapI (by omega) (by omega)
  have mk : makN (.int .i64 ((D : Int) + 1)) = some (D + 1) := makN_nat (by omega) (by unfold sizeMax; omega)
  generalize hs : min (a.length - 1) D = s at hR
  have e1 : (if (D : Int) < (a.length : Int) - 1 then (D : Int) else (a.length : Int) - 1) = s := by split <;> omega
  simp [p_spec_l02Compose, w1, w2, mk, mapI_rep, e1]
  refine newB_i fun b h1 eb en eh eB => ?_
  refine LP1 (fun d vs h' => ∃ k b : Nat, d = s + 1 - k ∧ k ≤ s + 1 ∧ vs = [i6 m, .slice A a.length ca, .slice B f.length cb, i6 D, .slice (some ⟨b, 0, none⟩) (D + 1) 1, i6 ((s : Int) - k)] ∧ HE h h' ∧ h.nx ≤ b ∧ b < h'.nx ∧
      h'.bk b = some ⟨mapI (horn m D a f s k), y_t_int64, true⟩) ?_ _ _ _ ⟨0, b, rfl, by omega, by simp, eh, by omega, by omega, eB⟩
  rintro d vs h2 ⟨k, b, rfl, hk, rfl, hE, hge, hnx, hbk⟩ K K1 hK hK1
  refine wl_spec_l02Compose_0 ?_
  by_cases hlt : k ≤ s
  · have g1 : (0 : Int) ≤ (s : Int) - k := by omega
    have w3 : IntKind.i64.wrap ((s : Int) - k - 1) = s - k - 1 := wrapI (by omega) (by omega)
    simp [q_spec_l02Compose_0, hlt]
    refine s_spec_l02Times (xs := horn m D a f s k) (RI.of_block hnx hbk) (hf.mono hE) (by simp) rfl (by omega) hm2 (nums_horn (by omega) D a f s k) hy (by simp; omega) (by omega) (by omega) fun v h5 hE5 hF => ?_
    obtain ⟨q, rfl, hq1, hq2, hq3⟩ := hF
    obtain ⟨r1, r2⟩ := ha.rd (e := (s : Int) - k) (i := s - k) (c := ca) (k := .i64) (by omega) rfl (by omega)
    have r3 := r2 _ (hE.trans hE5)
    have q1 : indexAddrV 1 (.slice (some ⟨q, 0, none⟩) (D + 1) 1) (.int .i64 0) = some (.pointer (some ⟨q, 0, none⟩)) := ixOwn (i := 0) rfl (by omega)
    have q2 := ownRd (n := 0) (c := 0) hq3 (show 0 < _ by simp)
    have bx := hx.gt (show s - k < a.length by omega)
    have bz := (nums_mulL (m := m) (by omega) (D + 1) (horn m D a f s k) f).gt (show 0 < _ by simp)
    have w4 : IntKind.i64.wrap (gt (mulL m (D + 1) (horn m D a f s k) f) 0 + gt a (s - k)) = gt (mulL m (D + 1) (horn m D a f s k) f) 0 + gt a (s - k) := wrapI (by omega) (by omega)
    simp [q1, q2, r1, r3, w3, w4, m0, Int.tmod_eq_emod_of_nonneg (show 0 ≤ gt (mulL m (D + 1) (horn m D a f s k) f) 0 + gt a (s - k) by omega)]
    refine storeI (i := 0) hq3 (by simp) fun h6 u => ?_
    refine hK _ _ _ (by omega) ⟨k + 1, q, rfl, by omega, by simp; omega, u.he (hE.trans hE5) (by have := hE.nx; omega), by have := hE.nx; omega, by rw [u.nx]; omega, u.bk⟩
  · have : k = s + 1 := by omega
    subst this
    have g1 : ¬ ((s : Int) + 1 ≤ s) := by omega
    simp [q_spec_l02Compose_0, g1]
    refine hK1 _ _ fun e he => ?_
    simp at he; rw [he]
    exact hR _ _ hE ⟨b, by simp, hge, hnx, hbk⟩
end XM

/- The value of a table at two series: l03Put. -/
namespace XM
open Go

/-- The first rows of a table and a part of the next one, at lists P i and Q j. -/
def ptI (T : List (List Int)) (P Q : Nat → List Int) (i j n : Nat) : Int := sm j fun j' => gt (row T i) j' * cv (P i) (Q j') n
def pt (T : List (List Int)) (P Q : Nat → List Int) (i n : Nat) : Int := sm i fun i' => ptI T P Q i' (row T i').length n
/-- F(f, g), up to degree D. -/
def putL (m : Int) (D : Nat) (T : List (List Int)) (f g : List Int) : List Int := tab (D + 1) fun n => pt T (powL m D f) (powL m D g) (D + 1) n % m
@[simp] theorem putL_len (m : Int) (D : Nat) (T : List (List Int)) (f g : List Int) : (putL m D T f g).length = D + 1 := by simp [putL]
theorem nums_putL {m : Int} (hm : 0 < m) (D : Nat) (T : List (List Int)) (f g : List Int) : Nums m (putL m D T f g) := nums_tab hm

theorem put_step {m c S : Int} {D n : Nat} {P Q out : List Int} (hn : n < D + 1) (ho : gt out n = S % m) (hl : out.length = D + 1) :
    gt (addL m out (scaleL m c (mulL m (D + 1) P Q))) n = (S + c * cv P Q n) % m := by
  unfold addL
  rw [gt_tab (by omega), ho]
  unfold scaleL
  rw [gt_tab (by simpa using hn)]
  unfold mulL
  rw [gt_tab hn, Int.add_emod, Int.emod_emod, Int.emod_emod, Int.mul_emod, Int.emod_emod, ← Int.mul_emod, ← Int.add_emod]

theorem nums_addL {m : Int} (hm : 0 < m) (a b : List Int) : Nums m (addL m a b) := nums_tab hm
theorem nums_scaleL {m : Int} (hm : 0 < m) (c : Int) (a : List Int) : Nums m (scaleL m c a) := nums_tab hm

theorem s_spec_l03Put {m : Int} {A B C : Option Addr} {Rr : Nat → Option Addr} {T : List (List Int)} {f g : List Int} {D ca cb cc n : Nat} {h : Hp} {R : Value → Hp → Prop} (hT : RT h A Rr T) (hf : RI h B f) (hg : RI h C g) (hn : n = D + 1) (hTl : T.length = D + 1)
    (hfl : f.length = D + 1) (hgl : g.length = D + 1) (hrl : ∀ i, i < T.length → (row T i).length ≤ D + 1) (hrn : ∀ i, i < T.length → Nums m (row T i)) (hm : 2 ≤ m) (hm2 : m ≤ 3000000000) (hx : Nums m f) (hy : Nums m g) (hD : D ≤ 100000)
    (hR : ∀ v h', HE h h' → FI y_t_int64 h h' v (putL m D T f g) → R v h') : CallW FF n_spec_l03Put [i6 m, .slice A n ca, .slice B (D + 1) cb, .slice C (D + 1) cc] h R := by
  subst hn
  refine w_spec_l03Put ?_
  have w1 : IntKind.i64.wrap (D : Int) = D := wrapI (by omega) (by omega)
  have w2 : IntKind.i64.wrap ((D : Int) + 1) = D + 1 := wrapI (by omega) (by omega)
  have mk : makN (.int .i64 ((D : Int) + 1)) = some (D + 1) := makN_nat (by omega) (by unfold sizeMax; omega)
  simp [p_spec_l03Put, w1]
  refine s_spec_l03Powers hf hfl hm hm2 hx hD fun v h1 hE1 hF1 => ?_
  obtain ⟨b1, rb1, rfl, hP⟩ := hF1
  refine s_spec_l03Powers (hg.mono hE1) hgl hm hm2 hy hD fun v h2 hE2 hF2 => ?_
  obtain ⟨b2, rb2, rfl, hQ⟩ := hF2
  simp [w2, mk, mapI_rep]
  refine newB_i fun b h3 eb en eh eB => ?_
  have hE3 : HE h h3 := (hE1.trans hE2).trans eh
  have hP3 := (hP.mono (hE2.trans eh)).rt
  have hQ3 := (hQ.mono eh).rt
  have nx1 := hE1.nx; have nx2 := hE2.nx
  -- rows
  refine LP1 (fun d vs h' => ∃ (i b : Nat) (out : List Int), d = D + 1 - i ∧ i ≤ D + 1 ∧ vs = [i6 m, .slice A (D + 1) ca, i6 D, .slice (some ⟨b1, 0, none⟩) (D + 1) 1, .slice (some ⟨b2, 0, none⟩) (D + 1) 1, .slice (some ⟨b, 0, none⟩) (D + 1) 1, i6 i] ∧
     HE h3 h' ∧ HE h h' ∧ h.nx ≤ b ∧ b < h'.nx ∧ h'.bk b = some ⟨mapI out, y_t_int64, true⟩ ∧ out.length = D + 1 ∧ Nums m out ∧ ∀ n, n < D + 1 → gt out n = pt T (powL m D f) (powL m D g) i n % m)
    ?_ _ _ _ ⟨0, b, List.replicate (D + 1) 0, rfl, by omega, by simp, HE.refl _, hE3, by omega, by omega, eB, by simp, nums_rep (by omega) _, fun n hn => by rw [rep_tab, gt_tab hn]; simp [pt, sm]⟩
  rintro d vs h4 ⟨i, b, out, rfl, hi, rfl, hE, hEh, hge, hnx, hbk, hol, hon, hout⟩ K K1 hK hK1
  refine wl_spec_l03Put_1 ?_
  by_cases hlt : i ≤ D
  · have hiT : i < T.length := by omega
    have rl := hrl i hiT
    simp [q_spec_l03Put_1, hlt]
    -- the entries of a row
    refine LP1 (fun d vs h' => ∃ (j b : Nat) (out : List Int), d = (row T i).length - j ∧ j ≤ (row T i).length ∧ vs = [i6 m, .slice A (D + 1) ca, i6 D, .slice (some ⟨b1, 0, none⟩) (D + 1) 1, .slice (some ⟨b2, 0, none⟩) (D + 1) 1, .slice (some ⟨b, 0, none⟩) (D + 1) 1, i6 i, i6 j] ∧
       HE h3 h' ∧ HE h h' ∧ h.nx ≤ b ∧ b < h'.nx ∧ h'.bk b = some ⟨mapI out, y_t_int64, true⟩ ∧ out.length = D + 1 ∧ Nums m out ∧ ∀ n, n < D + 1 → gt out n = (pt T (powL m D f) (powL m D g) i n + ptI T (powL m D f) (powL m D g) i j n) % m)
      ?_ _ _ _ ⟨0, b, out, rfl, by omega, by simp, hE, hEh, hge, hnx, hbk, hol, hon, fun n hn => by rw [hout n hn]; simp [ptI, sm]⟩
    clear hE hEh hge hnx hbk hol hon hout
    rintro d2 vs h5 ⟨j, b, out, rfl, hj, rfl, hE, hEh, hge, hnx, hbk, hol, hon, hout⟩ K2 K3 hK2 hK3
    refine wl_spec_l03Put_0 ?_
    obtain ⟨r1, r2⟩ := hT.rd (e := i) (n := D + 1) (c := ca) (k := .i64) rfl hTl.symm hiT
    have r3 := r2 _ hEh
    have w3 : IntKind.i64.wrap ((i : Int) + 1) = i + 1 := wrapI (by omega) (by omega)
    have w4 : IntKind.i64.wrap ((j : Int) + 1) = j + 1 := wrapI (by omega) (by omega)
    by_cases hjl : j < (row T i).length
    · obtain ⟨t1, t2⟩ := (hT.rows i hiT).rd (e := j) (n := (row T i).length) (c := 1) (k := .i64) rfl rfl hjl
      have t3 := t2 _ hEh
      have bT := (hrn i hiT).gt hjl
      by_cases h0 : gt (row T i) j = 0
      · simp [q_spec_l03Put_0, r1, r3, t1, t3, hjl, h0, w4]
        refine hK2 _ _ _ (by omega) ⟨j + 1, b, out, rfl, by omega, by simp, hE, hEh, hge, hnx, hbk, hol, hon, fun n hn => ?_⟩
        rw [hout n hn]; simp [ptI, sm_succ, h0]
      · obtain ⟨p1, p2⟩ := hP3.rd (e := i) (i := i) (n := D + 1) (c := 1) (k := .i64) rfl (by simp) (by simp; omega)
        have p3 := p2 _ hE
        rw [row_powT (by omega), powL_len] at p3
        have pr := (hP3.rows i (by simp; omega)).mono hE
        rw [row_powT (by omega)] at pr
        obtain ⟨q1, q2⟩ := hQ3.rd (e := j) (i := j) (n := D + 1) (c := 1) (k := .i64) rfl (by simp) (by simp; omega)
        have q3 := q2 _ hE
        rw [row_powT (by omega), powL_len] at q3
        have qr := (hQ3.rows j (by simp; omega)).mono hE
        rw [row_powT (by omega)] at qr
        have i1 := hT.inb hEh hiT
        have i2 := (hT.rows i hiT).inb hEh hjl
        simp [q_spec_l03Put_0, r1, r3, t1, t3, hjl, h0, p1, p3, q1, q3, i1, i2]
        refine s_spec_l02Times pr qr (by simp) (by simp) (by omega) hm2 (nums_powL hm D f i) (nums_powL hm D g j) (by simp; omega) (by simp; omega) (by omega) fun v h6 hE6 hF => ?_
        obtain ⟨x, rfl, hx1, hx2, hx3⟩ := hF
        refine ⟨hE6.keep, ?_⟩
        simp only [mulL_len]
        refine s_spec_l02Scale (RI.of_block hx2 hx3) (by simp) (by omega) hm2 bT (nums_mulL (by omega) _ _ _) (by simp; omega) fun v h7 hE7 hF => ?_
        obtain ⟨y, rfl, hy1, hy2, hy3⟩ := hF
        simp only [scaleL_len, mulL_len]
        refine s_spec_l02Add (RI.mono (RI.of_block hnx hbk) (hE6.trans hE7)) (RI.of_block hy2 hy3) (by simp [hol]) (by simp) (by omega) hm2 hon (nums_scaleL (by omega) _ _) (by omega) (by simp [hol]) fun v h8 hE8 hF => ?_
        obtain ⟨z, rfl, hz1, hz2, hz3⟩ := hF
        simp [w4, hol]
        have nx5 := hEh.nx; have nx6 := hE6.nx; have nx7 := hE7.nx
        refine hK2 _ _ _ (by omega) ⟨j + 1, z, _, rfl, by omega, rfl, ((hE.trans hE6).trans hE7).trans hE8, ((hEh.trans hE6).trans hE7).trans hE8, by omega, hz2, hz3, by simp [hol], nums_addL (by omega) _ _, fun n hn => ?_⟩
        rw [put_step hn (hout n hn) hol]
        simp [ptI, sm_succ, Int.add_assoc]
    · have : j = (row T i).length := by omega
      subst this
      simp [q_spec_l03Put_0, r1, r3]
      refine hK3 _ _ fun e he => ?_
      simp at he; simp [he, w3]
      exact hK _ _ _ (by omega) ⟨i + 1, b, out, rfl, by omega, by simp, hE, hEh, hge, hnx, hbk, hol, hon, fun n hn => by rw [hout n hn]; rfl⟩
  · have : i = D + 1 := by omega
    subst this
    have g1 : ¬ ((D : Int) + 1 ≤ D) := by omega
    simp [q_spec_l03Put_1, g1]
    refine hK1 _ _ fun e he => ?_
    simp at he; rw [he]
    refine hR _ _ hEh ⟨b, by simp, hge, hnx, ?_⟩
    rw [hbk, show out = putL m D T f g from eq_tab hol hout]
end XM

/- Series and planes as values: l02Make, l03Make, l02Is, l02Curve, l03Is; the inverse of a law. -/
namespace XM
open Go

/-- A series or a plane: its modulus and its list. -/
abbrev sv (m : Int) (A : Option Addr) (n c : Nat) : Value := .agg #[i6 m, .slice A n c]

@[simp] theorem fill_sv (z0 z1 : Value) (m : Int) (A : Option Addr) (n c : Nat) : (fillX [z0, z1] [(0, 1, i6 m), (1, 1, .slice A n c)]).map (fun cs => Value.agg cs.toArray) = some (sv m A n c) := by simp [fillX]
@[simp] theorem fill_s1 (z0 : Value) (m : Int) (n c : Nat) (A : Option Addr) : (fillX [z0, .slice A n c] [(0, 1, i6 m)]).map (fun cs => Value.agg cs.toArray) = some (sv m A n c) := by simp [fillX]

theorem s_spec_l03Make {m : Int} {A : Option Addr} {n c : Nat} {h : Hp} {R : Value → Hp → Prop} (hR : ∀ h', HE h h' → R (sv m A n c) h') : CallW FF n_spec_l03Make [i6 m, .slice A n c] h R := by
  refine w_spec_l03Make ?_
  simp [p_spec_l03Make]
  refine newB_i fun b h1 eb en eh eB => ?_
  refine storeBox2 eB rfl rfl rfl rfl fun h2 u => ?_
  simp [(box2 u.bk).1]
  exact hR _ (u.he eh (by omega))

/-- A list that is a series modulo m. -/
def IsS (m : Int) (xs : List Int) : Prop := (2 ≤ m ∧ m ≤ 10000) ∧ (2 ≤ xs.length ∧ xs.length ≤ 11) ∧ Nums m xs
instance (m : Int) (xs : List Int) : Decidable (IsS m xs) := inferInstanceAs (Decidable (_ ∧ _))

end XM

/- Curves, planes, columns: the reference's functions. -/
namespace XM
open Go

def IsC (m : Int) (xs : List Int) : Prop := IsS m xs ∧ gt xs 0 = 0
instance (m : Int) (xs : List Int) : Decidable (IsC m xs) := inferInstanceAs (Decidable (_ ∧ _))

/-- A table that is a plane modulo m. -/
def IsP (m : Int) (T : List (List Int)) : Prop := (2 ≤ m ∧ m ≤ 10000) ∧ (2 ≤ T.length ∧ T.length ≤ 11) ∧ ∀ i, i < T.length → (row T i).length = T.length - i ∧ Nums m (row T i)
instance (m : Int) (T : List (List Int)) : Decidable (IsP m T) := inferInstanceAs (Decidable (_ ∧ _ ∧ ∀ i, i < T.length → _))

theorem s_spec_l03Is {m : Int} {A : Option Addr} {Rr : Nat → Option Addr} {T : List (List Int)} {n c : Nat} {h : Hp} {R : Value → Hp → Prop} (hr : RT h A Rr T) (hn : n = T.length) (hl : n ≤ 1000000) (hrl : ∀ i, i < T.length → (row T i).length ≤ 1000000)
    (hR : ∀ h', HE h h' → R (.bool (decide (IsP m T))) h') : CallW FF n_spec_l03Is [sv m A n c] h R := by
  subst hn
  refine w_spec_l03Is ?_
  simp [p_spec_l03Is]
  refine newB_i fun b h1 eb en eh eB => ?_
  obtain ⟨b0, b1, b2⟩ := box2 eB
  simp [b1, b2]
  refine s_spec_l01Modulus ?_
  by_cases c1 : 2 ≤ m ∧ m ≤ 10000
  case neg =>
    have e : ¬ IsP m T := fun h => c1 h.1
    have := hR _ eh
    simpa [c1, e] using this
  by_cases c2 : T.length < 2
  · have e : ¬ IsP m T := fun h => by have := h.2.1; omega
    have c2' : (T.length : Int) < 2 := by omega
    have := hR _ eh
    simpa [c1, c2', e] using this
  have c2' : ¬ (T.length : Int) < 2 := by omega
  by_cases c3 : 11 < T.length
  · have e : ¬ IsP m T := fun h => by have := h.2.1; omega
    have c3' : (11 : Int) < T.length := by omega
    have := hR _ eh
    simpa [c1, c2', c3', e] using this
  have c3' : ¬ (11 : Int) < T.length := by omega
  simp [c1, c2', c3']
  refine LP2 (fun d vs h' => ∃ i : Nat, d = T.length - i ∧ i ≤ T.length ∧ vs = [.pointer (some ⟨b, 0, none⟩), i6 T.length, i6 i] ∧ h' = h1 ∧ ∀ j, j < i → (row T j).length = T.length - j ∧ Nums m (row T j)) ?_ _ _ _
    ⟨0, rfl, by omega, rfl, rfl, by omega⟩
  rintro d vs h2 ⟨i, rfl, hi, rfl, rfl, hN⟩ K K1 K2 hK hK1 hK2
  refine wl_spec_l03Is_0 ?_
  by_cases hlt : i < T.length
  · obtain ⟨r1, r2⟩ := hr.rd (e := i) (c := c) (k := .i64) rfl rfl hlt
    have r3 := r2 _ eh
    have w1 : IntKind.i64.wrap ((T.length : Int) - i) = T.length - i := wrapI (by omega) (by omega)
    have w2 : IntKind.i64.wrap ((i : Int) + 1) = i + 1 := wrapI (by omega) (by omega)
    by_cases c4 : ((row T i).length : Int) = T.length - i
    · simp [q_spec_l03Is_0, hlt, b1, b2, r1, r3, w1, c4]
      refine s_spec_l01Numbers ((hr.rows i hlt).mono eh) (by omega) (by omega) (by have := hrl i hlt; unfold sizeMax; omega) ?_
      by_cases c5 : Nums m (row T i)
      · simp [c5, w2]
        refine hK _ _ _ (by omega) ⟨i + 1, rfl, by omega, rfl, rfl, fun j hj => ?_⟩
        by_cases hj2 : j = i
        · subst hj2; exact ⟨by omega, c5⟩
        · exact hN j (by omega)
      · simp [c5]
        refine hK2 _ _ fun e he => ?_
        have e1 : ¬ IsP m T := fun h => c5 (h.2.2 i hlt).2
        simp at he
        simpa [he, e1] using hR _ eh
    · simp [q_spec_l03Is_0, hlt, b1, b2, r1, r3, w1, c4]
      refine hK2 _ _ fun e he => ?_
      have e1 : ¬ IsP m T := fun h => c4 (by have := (h.2.2 i hlt).1; omega)
      simp at he
      simpa [he, e1] using hR _ eh
  · have : i = T.length := by omega
    subst this
    simp [q_spec_l03Is_0]
    refine hK1 _ _ fun _ => ?_
    have e1 : IsP m T := ⟨c1, by omega, hN⟩
    simpa [e1] using hR _ eh

def colL (T : List (List Int)) (j : Nat) : List Int := tab (T.length - j) fun i => gt (row T i) j

theorem s_spec_l04Column {A : Option Addr} {Rr : Nat → Option Addr} {T : List (List Int)} {j n c : Nat} {h : Hp} {R : Value → Hp → Prop} (hr : RT h A Rr T) (hn : n = T.length) (hl : n ≤ 1000000) (hj : j ≤ 1000000) (hrl : ∀ i, i < T.length → (row T i).length = T.length - i)
    (hR : ∀ v h', HE h h' → FI y_t_int64 h h' v (colL T j) → R v h') : CallW FF n_spec_l04Column [.slice A n c, i6 j] h R := by
  subst hn
  refine w_spec_l04Column ?_
  simp [p_spec_l04Column]
  refine newB_i fun b h1 eb en eh eB => ?_
  refine LP1 (fun d vs h' => ∃ i b : Nat, d = T.length - i ∧ i ≤ T.length - j ∧ vs = [.slice A T.length c, i6 j, .slice (some ⟨b, 0, none⟩) i 1, i6 i] ∧
     h'.bk b = some ⟨mapI (tab i fun i => gt (row T i) j), y_t_int64, true⟩ ∧ HE h h' ∧ h.nx ≤ b ∧ b < h'.nx)
    ?_ _ _ _ ⟨0, b, rfl, by omega, rfl, eB, eh, by omega, by omega⟩
  rintro d vs h2 ⟨i, b, rfl, hi, rfl, hbk, hE, hge, hnx⟩ K K1 hK hK1
  refine wl_spec_l04Column_0 ?_
  have w1 : IntKind.i64.wrap ((i : Int) + j) = i + j := wrapI (by omega) (by omega)
  by_cases hlt : i + j < T.length
  · have hlt' : (i : Int) + j < T.length := by omega
    obtain ⟨r1, r2⟩ := hr.rd (e := i) (c := c) (k := .i64) rfl rfl (show i < T.length by omega)
    have r3 := r2 _ hE
    obtain ⟨t1, t2⟩ := (hr.rows i (by omega)).rd (e := j) (n := (row T i).length) (c := 1) (k := .i64) rfl rfl (by rw [hrl i (by omega)]; omega)
    have t3 := t2 _ hE
    have w2 : IntKind.i64.wrap ((i : Int) + 1) = i + 1 := wrapI (by omega) (by omega)
    simp [q_spec_l04Column_0, hlt', r1, r3, t1, t3, w1, w2]
    refine pushI hbk hnx (by simp) (by unfold sizeMax; omega) fun b' h' u => ?_
    exact hK _ _ _ (by omega) ⟨i + 1, b', rfl, by omega, rfl, by rw [take_snoc]; exact u.bk, u.he hE hge, by have := u.ge; have := hE.nx; omega, u.lt⟩
  · have : i = T.length - j := by omega
    subst this
    have hlt' : ¬ (((T.length - j : Nat) : Int) + j < T.length) := by omega
    simp [q_spec_l04Column_0, w1, hlt']
    refine hK1 _ _ fun e he => ?_
    simp at he; rw [he]
    exact hR _ _ hE ⟨b, by simp [colL], hge, hnx, hbk⟩
end XM

/- Products of tables: l03Times. -/
namespace XM
open Go

def gt2 (T : List (List Int)) (i j : Nat) : Int := gt (row T i) j
def term (a b : List (List Int)) (i j x y : Nat) : Int := if i ≤ x ∧ j ≤ y then gt2 a i j * gt2 b (x - i) (y - j) else 0
def tE3 (N : Nat) (a b : List (List Int)) (i x y : Nat) : Int := sm i fun i' => sm (N - i') fun j' => term a b i' j' x y
def tE2 (N : Nat) (a b : List (List Int)) (i j x y : Nat) : Int := tE3 N a b i x y + sm j fun j' => term a b i j' x y
def tE1 (N : Nat) (a b : List (List Int)) (i j k x y : Nat) : Int := tE2 N a b i j x y + if x < i + k then term a b i j x y else 0
def tE0 (N : Nat) (a b : List (List Int)) (i j k l x y : Nat) : Int := tE2 N a b i j x y + if x < i + k ∨ (x = i + k ∧ y < j + l) then term a b i j x y else 0
/-- The product of two tables. -/
def mulT (m : Int) (N : Nat) (a b : List (List Int)) : List (List Int) := (List.range N).map fun x => tab (N - x) fun y => tE3 N a b N x y % m

/-- A triangle of N rows whose entries are those of E. -/
structure TS (m : Int) (N : Nat) (Z : List (List Int)) (E : Nat → Nat → Int) : Prop where
  len : Z.length = N
  rl : ∀ x, x < N → (row Z x).length = N - x
  en : ∀ x y, x + y < N → gt2 Z x y = E x y % m
theorem TS.congr {m : Int} {N : Nat} {Z : List (List Int)} {E E' : Nat → Nat → Int} (t : TS m N Z E) (h : ∀ x y, x + y < N → E x y = E' x y) : TS m N Z E' := ⟨t.len, t.rl, fun x y hx => by rw [t.en x y hx, h x y hx]⟩

theorem row_ztab {D n i : Nat} (h : i < n) : row (ztab D n) i = List.replicate (D - i + 1) 0 := by
  induction n with
  | zero => omega
  | succ n ih =>
    rw [ztab, row_app, ztab_len]
    by_cases h2 : i < n
    · rw [if_pos h2, ih h2]
    · rw [if_neg h2, if_pos (by omega), show i = n by omega]

theorem table_ext {T U : List (List Int)} (h : T.length = U.length) (hr : ∀ i, i < T.length → row T i = row U i) : T = U := by
  apply List.ext_getElem h
  intro i h1 h2
  have := hr i h1
  simpa [row, h1, h2] using this

theorem TS.eq {m : Int} {N : Nat} {Z a b : List (List Int)} (t : TS m N Z (tE3 N a b N)) : Z = mulT m N a b := by
  refine table_ext (by simp [mulT, t.len]) fun i hi => ?_
  have hi' : i < N := by rw [← t.len]; exact hi
  have e : row (mulT m N a b) i = tab (N - i) fun y => tE3 N a b N i y % m := by simp [row, mulT, hi']
  rw [e]
  exact eq_tab (t.rl i hi') fun y hy => t.en i y (by omega)

theorem s_spec_l03Times {m : Int} {A B : Option Addr} {Ra Rb : Nat → Option Addr} {a b : List (List Int)} {N na nb ca cb : Nat} {h : Hp} {R : Value → Hp → Prop} (ha : RT h A Ra a) (hb : RT h B Rb b) (hna : na = N) (hnb : nb = N) (hla : a.length = N) (hlb : b.length = N)
    (hra : ∀ i, i < N → (row a i).length = N - i ∧ Nums m (row a i)) (hrb : ∀ i, i < N → (row b i).length = N - i ∧ Nums m (row b i)) (hm : 0 < m) (hm2 : m ≤ 3000000000) (hN : 1 ≤ N) (hN2 : N ≤ 100000)
    (hR : ∀ v h', HE h h' → FT h h' v (mulT m N a b) → R v h') : CallW FF n_spec_l03Times [i6 m, .slice A na ca, .slice B nb cb] h R := by
  subst hna; subst hnb
  refine w_spec_l03Times ?_
  have m0 : ¬ m = 0 := by omega
  have w1 : IntKind.i64.wrap ((nb : Int) - 1) = ((nb - 1 : Nat) : Int) := by rw [wrapI] <;> omega
  simp [p_spec_l03Times, w1]
  refine s_spec_l03Zero (by omega) fun v h1 hE1 hF => ?_
  obtain ⟨bo, rb, rfl, hT⟩ := hF
  simp only [ztab_len, show nb - 1 + 1 = nb by omega] at hT ⊢
  generalize hNe : nb = N at *
  -- i
  refine LP1 (fun d vs h' => ∃ (i : Nat) (Z : List (List Int)), d = N - i ∧ i ≤ N ∧ vs = [i6 m, .slice A N ca, .slice B N cb, i6 N, .slice (some ⟨bo, 0, none⟩) N 1, i6 i] ∧ HE h h' ∧ OT h.nx h' bo rb Z ∧ TS m N Z (tE3 N a b i)) ?_ _ _ _
    ⟨0, ztab (N - 1) N, rfl, by omega, rfl, hE1, hT, by simp, fun x hx => by rw [row_ztab hx]; simp; omega, fun x y hxy => by rw [gt2, row_ztab (by omega), rep_tab, gt_tab (by omega)]; simp [tE3, sm]⟩
  rintro d vs h2 ⟨i, Z, rfl, hi, rfl, hE, hO, hZ⟩ K K1 hK hK1
  refine wl_spec_l03Times_3 ?_
  by_cases hiN : i < N
  case neg =>
    have : i = N := by omega
    subst this
    simp [q_spec_l03Times_3]
    refine hK1 _ _ fun e he => ?_
    simp at he; rw [he]
    exact hR _ _ hE ⟨bo, rb, by simp [mulT], by rw [← hZ.eq]; exact hO⟩
  have wi : IntKind.i64.wrap ((i : Int) + 1) = i + 1 := wrapI (by omega) (by omega)
  simp [q_spec_l03Times_3, hiN]
  -- j
  refine LP1 (fun d vs h' => ∃ (j : Nat) (Z : List (List Int)), d = N - j ∧ i + j ≤ N ∧ vs = [i6 m, .slice A N ca, .slice B N cb, i6 N, .slice (some ⟨bo, 0, none⟩) N 1, i6 i, i6 j] ∧ HE h h' ∧ OT h.nx h' bo rb Z ∧ TS m N Z (tE2 N a b i j)) ?_ _ _ _
    ⟨0, Z, rfl, by omega, rfl, hE, hO, hZ.congr fun x y _ => by simp [tE2, sm]⟩
  clear hE hO hZ Z
  rintro d vs h3 ⟨j, Z, rfl, hj, rfl, hE, hO, hZ⟩ K2 K3 hK2 hK3
  refine wl_spec_l03Times_2 ?_
  have wij : IntKind.i64.wrap ((i : Int) + j) = i + j := wrapI (by omega) (by omega)
  have wj : IntKind.i64.wrap ((j : Int) + 1) = j + 1 := wrapI (by omega) (by omega)
  by_cases hijN : i + j < N
  case neg =>
    have hijN' : ¬ (i : Int) + j < N := by omega
    simp [q_spec_l03Times_2, wij, hijN']
    refine hK3 _ _ fun e he => ?_
    simp at he; simp [he, wi]
    refine hK _ _ _ (by omega) ⟨i + 1, Z, rfl, by omega, rfl, hE, hO, hZ.congr fun x y _ => ?_⟩
    rw [tE2, tE3, tE3, sm_succ, show j = N - i by omega]
  have hijN' : (i : Int) + j < N := by omega
  obtain ⟨r1, r2⟩ := ha.rd (e := i) (n := N) (c := ca) (k := .i64) rfl hla.symm (by omega)
  have r3 := r2 _ hE
  have hai := hra i hiN
  obtain ⟨s1, s2⟩ := (ha.rows i (by omega)).rd (e := j) (n := (row a i).length) (c := 1) (k := .i64) rfl rfl (by omega)
  have s3 := s2 _ hE
  have bA := hai.2.gt (show j < (row a i).length by omega)
  by_cases h0 : gt (row a i) j = 0
  · simp [q_spec_l03Times_2, wij, hijN', r1, r3, s1, s3, h0, wj]
    refine hK2 _ _ _ (by omega) ⟨j + 1, Z, rfl, by omega, rfl, hE, hO, hZ.congr fun x y _ => ?_⟩
    rw [tE2, tE2, sm_succ]
    have : term a b i j x y = 0 := by unfold term gt2; rw [h0]; simp
    omega
  simp [q_spec_l03Times_2, wij, hijN', r1, r3, s1, s3, h0]
  -- k
  refine LP1 (fun d vs h' => ∃ (k : Nat) (Z : List (List Int)), d = N - k ∧ i + j + k ≤ N ∧ vs = [i6 m, .slice A N ca, .slice B N cb, i6 N, .slice (some ⟨bo, 0, none⟩) N 1, i6 i, i6 j, i6 k] ∧ HE h h' ∧ OT h.nx h' bo rb Z ∧ TS m N Z (tE1 N a b i j k)) ?_ _ _ _
    ⟨0, Z, rfl, by omega, rfl, hE, hO, hZ.congr fun x y _ => by
      unfold tE1 term
      split
      · rw [if_neg (by omega)]; simp
      · simp⟩
  clear hE hO hZ Z r3 s3
  rintro d vs h4 ⟨k, Z, rfl, hk, rfl, hE, hO, hZ⟩ K4 K5 hK4 hK5
  refine wl_spec_l03Times_1 ?_
  have wijk : IntKind.i64.wrap ((i : Int) + j + k) = i + j + k := wrapI (by omega) (by omega)
  have wik : IntKind.i64.wrap ((i : Int) + k) = i + k := wrapI (by omega) (by omega)
  have wk : IntKind.i64.wrap ((k : Int) + 1) = k + 1 := wrapI (by omega) (by omega)
  by_cases hijk : i + j + k < N
  case neg =>
    have hijk' : ¬ (i : Int) + j + k < N := by omega
    simp [q_spec_l03Times_1, wij, wijk, hijk']
    refine hK5 _ _ fun e he => ?_
    simp at he; simp [he, wj]
    refine hK2 _ _ _ (by omega) ⟨j + 1, Z, rfl, by omega, rfl, hE, hO, hZ.congr fun x y hxy => ?_⟩
    rw [tE1, tE2, tE2, sm_succ, Int.add_assoc]
    congr 2
    split
    · rfl
    · unfold term; rw [if_neg (by omega)]
  have hijk' : (i : Int) + j + k < N := by omega
  have hZk := hO.rt.rd (e := (i : Int) + k) (i := i + k) (n := N) (c := 1) (k := .i64) (by omega) hZ.len.symm (by rw [hZ.len]; omega)
  have hZk3 := hZk.2 _ (HE.refl _)
  rw [hZ.rl _ (by omega)] at hZk3
  obtain ⟨t1, t2⟩ := hb.rd (e := k) (n := N) (c := cb) (k := .i64) rfl hlb.symm (by omega)
  have t3 := t2 _ hE
  have hbk := hrb k (by omega)
  rw [hbk.1] at t3
  simp [q_spec_l03Times_1, wij, wijk, hijk', wik, hZk.1, hZk3, t1, t3]
  -- l
  refine LP1 (fun d vs h' => ∃ (l : Nat) (Z : List (List Int)), d = N - l ∧ i + j + k + l ≤ N ∧ vs = [i6 m, .slice A N ca, .slice B N cb, i6 N, .slice (some ⟨bo, 0, none⟩) N 1, i6 i, i6 j, i6 k, .slice (some ⟨rb (i + k), 0, none⟩) (N - (i + k)) 1, .slice (Rb k) (N - k) 1, i6 l] ∧
     HE h h' ∧ OT h.nx h' bo rb Z ∧ TS m N Z (tE0 N a b i j k l)) ?_ _ _ _
    ⟨0, Z, rfl, by omega, rfl, hE, hO, hZ.congr fun x y _ => by
      unfold tE1 tE0
      congr 1
      by_cases hx : x < i + k
      · rw [if_pos hx, if_pos (.inl hx)]
      · rw [if_neg hx]
        split
        · unfold term; rw [if_neg (by omega)]
        · rfl⟩
  clear hE hO hZ Z hZk hZk3 t3
  rintro d vs h5 ⟨l, Z, rfl, hl, rfl, hE, hO, hZ⟩ K6 K7 hK6 hK7
  refine wl_spec_l03Times_0 ?_
  have wl : IntKind.i64.wrap ((i : Int) + j + k + l) = i + j + k + l := wrapI (by omega) (by omega)
  have wl1 : IntKind.i64.wrap ((l : Int) + 1) = l + 1 := wrapI (by omega) (by omega)
  by_cases hg : i + j + k + l < N
  case neg =>
    have hg' : ¬ (i : Int) + j + k + l < N := by omega
    simp [q_spec_l03Times_0, wij, wijk, wl, hg']
    refine hK7 _ _ fun e he => ?_
    simp at he; simp [he, wk]
    refine hK4 _ _ _ (by omega) ⟨k + 1, Z, rfl, by omega, rfl, hE, hO, hZ.congr fun x y hxy => ?_⟩
    unfold tE1 tE0
    congr 1
    by_cases hx : x < i + (k + 1)
    · rw [if_pos hx, if_pos (by omega)]
    · rw [if_neg hx, if_neg (by omega)]
  have hg' : (i : Int) + j + k + l < N := by omega
  have r3 := r2 _ hE
  have s3 := s2 _ hE
  have wjl : IntKind.i64.wrap ((j : Int) + l) = j + l := wrapI (by omega) (by omega)
  obtain ⟨u1, u2⟩ := (hb.rows k (by omega)).rd (e := l) (n := N - k) (c := 1) (k := .i64) rfl hbk.1.symm (by omega)
  have u3 := u2 _ hE
  have bB := hbk.2.gt (show l < (row b k).length by omega)
  have hik : i + k < Z.length := by rw [hZ.len]; omega
  have hrow := hO.rows (i + k) hik
  have hrl := hZ.rl (i + k) (by omega)
  have x1 : indexAddrV 1 (.slice (some ⟨rb (i + k), 0, none⟩) (N - (i + k)) 1) (.int .i64 ((j : Int) + l)) = some (.pointer (some ⟨rb (i + k), j + l, none⟩)) := ixOwn (by omega) (by omega)
  have x2 := ownRd (n := 0) (c := 0) hrow (show j + l < _ by omega)
  have bm := mul_bd hm2 bA bB
  have hz := hZ.en (i + k) (j + l) (by omega)
  have bz : 0 ≤ gt (row Z (i + k)) (j + l) ∧ gt (row Z (i + k)) (j + l) < m := by
    have := mod_bd hm (tE0 N a b i j k l (i + k) (j + l)); rw [← hz] at this; exact this
  have w7 : IntKind.i64.wrap (gt (row a i) j * gt (row b k) l) = gt (row a i) j * gt (row b k) l := wrapI (by omega) (by omega)
  have w8 : IntKind.i64.wrap (gt (row Z (i + k)) (j + l) + gt (row a i) j * gt (row b k) l) = gt (row Z (i + k)) (j + l) + gt (row a i) j * gt (row b k) l := wrapI (by omega) (by omega)
  simp [q_spec_l03Times_0, wij, wijk, wl, hg', wjl, x1, x2, r1, r3, s1, s3, u1, u3, w7, w8, m0, wl1, Int.tmod_eq_emod_of_nonneg (show 0 ≤ gt (row Z (i + k)) (j + l) + gt (row a i) j * gt (row b k) l by omega)]
  refine storeI (i := j + l) hrow (by omega) fun h6 u => ?_
  refine hK6 _ _ _ (by omega) ⟨l + 1, _, rfl, by omega, rfl, u.he hE (hO.lor _ hik), hO.set hik (by simp) u, by simp [hZ.len], fun x hx => ?_, fun x y hxy => ?_⟩
  · rw [row_set]; split
    · rename_i hc; rw [List.length_set, ← hc.1]; exact hrl
    · exact hZ.rl x hx
  · unfold gt2
    rw [row_set]
    by_cases hx : i + k = x
    · subst hx
      rw [if_pos ⟨rfl, hik⟩, gt_set]
      by_cases hy : j + l = y
      · subst hy
        rw [if_pos ⟨rfl, by omega⟩]
        have : gt (row Z (i + k)) (j + l) = gt2 Z (i + k) (j + l) := rfl
        rw [this, hz, Int.emod_add_emod]
        unfold tE0
        rw [if_neg (by omega), if_pos (by omega)]
        unfold term
        rw [if_pos (by omega), show i + k - i = k by omega, show j + l - j = l by omega]
        unfold gt2; simp
      · rw [if_neg (by omega)]
        have := hZ.en (i + k) y hxy
        unfold gt2 at this; rw [this]
        unfold tE0
        by_cases hy2 : y < j + l
        · rw [if_pos (by omega), if_pos (by omega)]
        · rw [if_neg (by omega), if_neg (by omega)]
    · rw [if_neg (by omega)]
      have := hZ.en x y hxy
      unfold gt2 at this; rw [this]
      unfold tE0
      by_cases hx2 : x < i + k
      · rw [if_pos (by omega), if_pos (by omega)]
      · rw [if_neg (by omega), if_neg (by omega)]
end XM

/- A series of a table: l03After. -/
namespace XM
open Go

def addT0 (m : Int) (Z : List (List Int)) (c : Int) : List (List Int) := Z.set 0 ((row Z 0).set 0 ((gt2 Z 0 0 + c) % m))
def hornT (m : Int) (N : Nat) (f : List Int) (T : List (List Int)) (s : Nat) : Nat → List (List Int)
  | 0 => ztab (N - 1) N
  | k + 1 => addT0 m (mulT m N (hornT m N f T s k) T) (gt f (s - k))
/-- f(T), by Horner's rule. -/
def afterT (m : Int) (N : Nat) (f : List Int) (T : List (List Int)) : List (List Int) := hornT m N f T (f.length - 1) f.length
@[simp] theorem mulT_len (m : Int) (N : Nat) (a b : List (List Int)) : (mulT m N a b).length = N := by simp [mulT]
theorem row_mulT {m : Int} {N : Nat} {a b : List (List Int)} {i : Nat} (h : i < N) : row (mulT m N a b) i = tab (N - i) fun y => tE3 N a b N i y % m := by simp [row, mulT, h]
theorem addT0_len (m : Int) (Z : List (List Int)) (c : Int) : (addT0 m Z c).length = Z.length := by simp [addT0]
@[simp] theorem hornT_len (m : Int) (N : Nat) (f : List Int) (T : List (List Int)) (s k : Nat) : (hornT m N f T s k).length = N := by cases k <;> simp [hornT, addT0_len]
theorem hornT_row {m : Int} (hm : 0 < m) {N : Nat} {f : List Int} {T : List (List Int)} {s k : Nat} : ∀ i, i < N → (row (hornT m N f T s k) i).length = N - i ∧ Nums m (row (hornT m N f T s k) i) := by
  intro i hi
  cases k with
  | zero => rw [hornT, row_ztab hi]; exact ⟨by simp; omega, nums_rep hm _⟩
  | succ k =>
    have e := row_mulT (m := m) (a := hornT m N f T s k) (b := T) hi
    have e0 := row_mulT (m := m) (a := hornT m N f T s k) (b := T) (show 0 < N by omega)
    have hn : ∀ j, j < N → Nums m (row (mulT m N (hornT m N f T s k) T) j) := fun j hj => by rw [row_mulT hj]; exact nums_tab hm
    rw [hornT, addT0, row_set]
    split
    · rename_i hc
      refine ⟨by rw [List.length_set, e0, tab_len]; omega, ?_⟩
      exact nums_addC hm (hn 0 (by omega)) _
    · exact ⟨by rw [e, tab_len], hn i hi⟩

theorem s_spec_l03After {m : Int} {A B : Option Addr} {Rb : Nat → Option Addr} {f : List Int} {T : List (List Int)} {N nf nb ca cb : Nat} {h : Hp} {R : Value → Hp → Prop} (hf : RI h A f) (hb : RT h B Rb T) (hnf : nf = f.length) (hnb : nb = N) (hlb : T.length = N)
    (hrb : ∀ i, i < N → (row T i).length = N - i ∧ Nums m (row T i)) (hm : 0 < m) (hm2 : m ≤ 3000000000) (hN : 1 ≤ N) (hN2 : N ≤ 100000) (hfl : f.length ≤ 100000) (hfn : Nums m f)
    (hR : ∀ v h', HE h h' → FT h h' v (afterT m N f T) → R v h') : CallW FF n_spec_l03After [i6 m, .slice A nf ca, .slice B nb cb] h R := by
  subst hnf; subst hnb
  refine w_spec_l03After ?_
  have m0 : ¬ m = 0 := by omega
  have w1 : IntKind.i64.wrap ((nb : Int) - 1) = ((nb - 1 : Nat) : Int) := by rw [wrapI] <;> omega
  have w2 : IntKind.i64.wrap ((f.length : Int) - 1) = f.length - 1 := wrapI (by omega) (by omega)
  simp [p_spec_l03After, w1]
  refine s_spec_l03Zero (by omega) fun v h1 hE1 hF => ?_
  obtain ⟨bo, rb, rfl, hT⟩ := hF
  simp only [ztab_len, show nb - 1 + 1 = nb by omega] at hT ⊢
  simp [w2]
  refine LP1 (fun d vs h' => ∃ (k bo : Nat) (rb : Nat → Nat), d = f.length - k ∧ k ≤ f.length ∧ vs = [i6 m, .slice A f.length ca, .slice B nb cb, .slice (some ⟨bo, 0, none⟩) nb 1, i6 ((f.length : Int) - 1 - k)] ∧ HE h h' ∧
     OT h.nx h' bo rb (hornT m nb f T (f.length - 1) k)) ?_ _ _ _ ⟨0, bo, rb, rfl, by omega, by simp, hE1, hT⟩
  clear hT hE1
  rintro d vs h2 ⟨k, bo, rb, rfl, hk, rfl, hE, hO⟩ K K1 hK hK1
  refine wl_spec_l03After_0 ?_
  by_cases hlt : k < f.length
  · have g1 : (k : Int) ≤ (f.length : Int) - 1 := by omega
    have g2 : (0 : Int) ≤ (f.length : Int) - 1 - k := by omega
    have w3 : IntKind.i64.wrap ((f.length : Int) - 1 - k - 1) = f.length - 1 - k - 1 := wrapI (by omega) (by omega)
    have hz := hornT_row (m := m) hm (N := nb) (f := f) (T := T) (s := f.length - 1) (k := k)
    simp [q_spec_l03After_0, g1, g2]
    refine s_spec_l03Times hO.rt (hb.mono hE) rfl rfl (by simp) hlb hz hrb hm hm2 hN hN2 fun v h3 hE3 hF => ?_
    obtain ⟨bq, rq, rfl, hQ⟩ := hF
    have r0 : row (mulT m nb (hornT m nb f T (f.length - 1) k) T) 0 = tab nb fun y => tE3 nb (hornT m nb f T (f.length - 1) k) T nb 0 y % m := by rw [row_mulT (by omega)]; rfl
    have l0 : (row (mulT m nb (hornT m nb f T (f.length - 1) k) T) 0).length = nb := by rw [r0, tab_len]
    obtain ⟨r1, r2⟩ := hQ.rt.rd (e := 0) (i := 0) (n := nb) (c := 1) (k := .i64) rfl (by simp) (by simp; omega)
    have r3 := r2 _ (HE.refl _)
    rw [l0] at r3
    have hrow := hQ.rows 0 (by simp; omega)
    have x1 : indexAddrV 1 (.slice (some ⟨rq 0, 0, none⟩) nb 1) (.int .i64 0) = some (.pointer (some ⟨rq 0, 0, none⟩)) := ixOwn (i := 0) rfl (by omega)
    have x2 := ownRd (n := 0) (c := 0) hrow (show 0 < _ by omega)
    obtain ⟨t1, t2⟩ := hf.rd (e := (f.length : Int) - 1 - k) (i := f.length - 1 - k) (n := f.length) (c := ca) (k := .i64) (by omega) rfl (by omega)
    have t3 := t2 _ (hE.trans hE3)
    have bf := hfn.gt (show f.length - 1 - k < f.length by omega)
    have bz : 0 ≤ gt (row (mulT m nb (hornT m nb f T (f.length - 1) k) T) 0) 0 ∧ gt (row (mulT m nb (hornT m nb f T (f.length - 1) k) T) 0) 0 < m := by rw [r0, gt_tab (by omega)]; exact mod_bd hm _
    have w4 : IntKind.i64.wrap (gt (row (mulT m nb (hornT m nb f T (f.length - 1) k) T) 0) 0 + gt f (f.length - 1 - k)) = gt (row (mulT m nb (hornT m nb f T (f.length - 1) k) T) 0) 0 + gt f (f.length - 1 - k) := wrapI (by omega) (by omega)
    have lq : (mulT m nb (hornT m nb f T (f.length - 1) k) T).length = nb := by simp
    simp [r1, r3, x1, x2, t1, t3, w3, w4, m0, Int.tmod_eq_emod_of_nonneg (show 0 ≤ gt (row (mulT m nb (hornT m nb f T (f.length - 1) k) T) 0) 0 + gt f (f.length - 1 - k) by omega)]
    refine storeI (i := 0) hrow (by omega) fun h4 u => ?_
    have hQ' : OT h.nx h3 bq rq (mulT m nb (hornT m nb f T (f.length - 1) k) T) := ⟨by have := hQ.lob; have := hE.nx; omega, hQ.ltb, hQ.top, fun i hi => by have := hQ.lor i hi; have := hE.nx; omega, hQ.ltr, hQ.ne, hQ.rows, hQ.inj⟩
    refine hK _ _ _ (by omega) ⟨k + 1, bq, rq, rfl, by omega, by simp; omega, u.he (hE.trans hE3) (hQ'.lor 0 (by simp; omega)), hQ'.set (by simp; omega) (by simp) u⟩
  · have : k = f.length := by omega
    subst this
    have g1 : ¬ ((f.length : Int) ≤ (f.length : Int) - 1) := by omega
    have g2 : ¬ ((0 : Int) ≤ (f.length : Int) - 1 - f.length) := by omega
    simp [q_spec_l03After_0, g1, g2]
    refine hK1 _ _ fun e he => ?_
    simp at he; rw [he]
    exact hR _ _ hE ⟨bo, rb, by simp [afterT], hO⟩
end XM

/- The inverse of a law, opposites and multiples: the reference's functions. -/
namespace XM
open Go

/-- The coefficients of t. -/
def varL (D : Nat) : List Int := (List.replicate (D + 1) (0 : Int)).set 1 1
@[simp] theorem varL_len (D : Nat) : (varL D).length = D + 1 := by simp [varL]
theorem nums_varL {m : Int} (hm : 2 ≤ m) (D : Nat) : Nums m (varL D) := by
  rw [nums_iff]; intro i hi
  unfold varL; rw [gt_set]
  split
  · omega
  · rw [rep_tab, gt_tab']; split <;> omega
def invS (m : Int) (D : Nat) (T : List (List Int)) : Nat → List Int
  | 0 => List.replicate (D + 1) 0
  | n + 1 => (invS m D T n).set (n + 1) (-gt (putL m D T (varL D) (invS m D T n)) (n + 1) % m)
def invL (m : Int) (D : Nat) (T : List (List Int)) : List Int := invS m D T D
@[simp] theorem invS_len (m : Int) (D : Nat) (T : List (List Int)) (n : Nat) : (invS m D T n).length = D + 1 := by induction n with | zero => simp [invS] | succ n ih => simp [invS, ih]
@[simp] theorem invL_len (m : Int) (D : Nat) (T : List (List Int)) : (invL m D T).length = D + 1 := invS_len _ _ _ _
theorem nums_set {m : Int} {xs : List Int} (h : Nums m xs) {i : Nat} {v : Int} (hv : 0 ≤ v ∧ v < m) : Nums m (xs.set i v) := by
  rw [nums_iff]; intro j hj
  rw [gt_set]; split
  · exact hv
  · exact h.gt (by simpa using hj)
theorem nums_invS {m : Int} (hm : 0 < m) (D : Nat) (T : List (List Int)) (n : Nat) : Nums m (invS m D T n) := by
  induction n with
  | zero => exact nums_rep hm _
  | succ n ih => exact nums_set ih (mod_bd hm _)

/-- A table with the rows that l03Put asks for. -/
structure Tri (m : Int) (D : Nat) (T : List (List Int)) : Prop where
  len : T.length = D + 1
  rows : ∀ i, i < T.length → (row T i).length = D + 1 - i ∧ Nums m (row T i)

theorem s_spec_l04Inverse {m : Int} {A : Option Addr} {Ra : Nat → Option Addr} {T : List (List Int)} {D n c : Nat} {h : Hp} {R : Value → Hp → Prop} (hT : RT h A Ra T) (hn : n = D + 1) (t : Tri m D T) (hm : 2 ≤ m) (hm2 : m ≤ 3000000000) (hD : D ≤ 100000) (hD1 : 1 ≤ D)
    (hR : ∀ v h', HE h h' → FI y_t_int64 h h' v (invL m D T) → R v h') : CallW FF n_spec_l04Inverse [sv m A n c] h R := by
  subst hn
  refine w_spec_l04Inverse ?_
  have m0 : ¬ m = 0 := by omega
  have w1 : IntKind.i64.wrap (D : Int) = D := wrapI (by omega) (by omega)
  have w2 : IntKind.i64.wrap ((D : Int) + 1) = D + 1 := wrapI (by omega) (by omega)
  have mk : makN (.int .i64 ((D : Int) + 1)) = some (D + 1) := makN_nat (by omega) (by unfold sizeMax; omega)
  simp [p_spec_l04Inverse]
  refine newB_i fun b h1 eb en eh eB => ?_
  obtain ⟨b0, b1, b2⟩ := box2 eB
  simp [b2, w1, w2, mk, mapI_rep]
  refine newB_i fun o h2 eo en2 eh2 eO => ?_
  refine newB_i fun v h3 ev en3 eh3 eV => ?_
  have q1 : indexAddrV 1 (.slice (some ⟨v, 0, none⟩) (D + 1) 1) (.int .i64 1) = some (.pointer (some ⟨v, 1, none⟩)) := ixOwn (i := 1) rfl (by omega)
  simp [q1]
  refine storeI (i := 1) eV (by simp; omega) fun h4 u => ?_
  have hE4 : HE h h4 := u.he ((eh.trans eh2).trans eh3) (by omega)
  have nx4 := u.nx
  refine LP1 (fun d vs h' => ∃ k : Nat, d = D - k ∧ k ≤ D ∧ vs = [.pointer (some ⟨b, 0, none⟩), i6 D, .slice (some ⟨o, 0, none⟩) (D + 1) 1, .slice (some ⟨v, 0, none⟩) (D + 1) 1, i6 ((k : Int) + 1)] ∧ HE h h' ∧ h4.nx ≤ h'.nx ∧
      h'.bk b = some ⟨[i6 m, .slice A (D + 1) c], y_t_impl_Plane, true⟩ ∧ h'.bk v = some ⟨mapI (varL D), y_t_int64, true⟩ ∧ h'.bk o = some ⟨mapI (invS m D T k), y_t_int64, true⟩) ?_ _ _ _
    ⟨0, rfl, by omega, by simp, hE4, Nat.le_refl _, by rw [u.ot _ (by omega), eh3.bk _ (by omega), eh2.bk _ (by omega)]; exact eB, u.bk, by rw [u.ot _ (by omega), eh3.bk _ (by omega)]; exact eO⟩
  rintro d vs h5 ⟨k, rfl, hk, rfl, hE, hnx, hb, hv, ho⟩ K K1 hK hK1
  refine wl_spec_l04Inverse_0 ?_
  obtain ⟨c0, c1, c2⟩ := box2 hb
  by_cases hlt : k < D
  · have g1 : (k : Int) + 1 ≤ D := by omega
    have w3 : IntKind.i64.wrap ((k : Int) + 1 + 1) = k + 1 + 1 := wrapI (by omega) (by omega)
    simp [q_spec_l04Inverse_0, g1, c1, c2]
    refine s_spec_l03Put (hT.mono hE) (RI.of_block (by omega) hv) (RI.of_block (by omega) ho) rfl t.len (by simp) (by simp) (fun i hi => by have := (t.rows i hi).1; omega) (fun i hi => (t.rows i hi).2) hm hm2 (nums_varL hm D) (nums_invS (by omega) D T k) hD fun w h6 hE6 hF => ?_
    obtain ⟨q, rfl, hq1, hq2, hq3⟩ := hF
    obtain ⟨d0, d1, d2⟩ := box2 ((hE6.bk b (by omega)).trans hb)
    have x1 : indexAddrV 1 (.slice (some ⟨q, 0, none⟩) (D + 1) 1) (.int .i64 ((k : Int) + 1)) = some (.pointer (some ⟨q, k + 1, none⟩)) := ixOwn (by omega) (by omega)
    have x2 := ownRd (n := 0) (c := 0) hq3 (show k + 1 < _ by simp; omega)
    have x3 : indexAddrV 1 (.slice (some ⟨o, 0, none⟩) (D + 1) 1) (.int .i64 ((k : Int) + 1)) = some (.pointer (some ⟨o, k + 1, none⟩)) := ixOwn (by omega) (by omega)
    have bz := (nums_putL (m := m) (by omega) D T (varL D) (invS m D T k)).gt (show k + 1 < _ by simp; omega)
    have w4 : IntKind.i64.wrap (m - gt (putL m D T (varL D) (invS m D T k)) (k + 1)) = m - gt (putL m D T (varL D) (invS m D T k)) (k + 1) := wrapI (by omega) (by omega)
    simp [d1, x1, x2, x3, w3, w4, m0, Int.tmod_eq_emod_of_nonneg (show 0 ≤ m - gt (putL m D T (varL D) (invS m D T k)) (k + 1) by omega)]
    have ho6 := (hE6.bk o (by omega)).trans ho
    refine storeI (i := k + 1) ho6 (by simp; omega) fun h7 u7 => ?_
    have nx6 := hE6.nx; have nx7 := u7.nx
    exact hK _ _ _ (by omega) ⟨k + 1, rfl, by omega, by simp, u7.he (hE.trans hE6) (by omega), by omega, by rw [u7.ot _ (by omega), hE6.bk _ (by omega)]; exact hb, by rw [u7.ot _ (by omega), hE6.bk _ (by omega)]; exact hv, u7.bk⟩
  · have : k = D := by omega
    subst this
    have g1 : ¬ ((k : Int) + 1 ≤ k) := by omega
    simp [q_spec_l04Inverse_0, g1]
    refine hK1 _ _ fun e he => ?_
    simp at he; rw [he]
    exact hR _ _ hE ⟨o, by simp, by omega, by omega, ho⟩
end XM

/- Opposites and multiples: the reference's functions. -/
namespace XM
open Go

def compL (m : Int) (D : Nat) (a f : List Int) : List Int := horn m D a f (min (a.length - 1) D) (min (a.length - 1) D + 1)
@[simp] theorem compL_len (m : Int) (D : Nat) (a f : List Int) : (compL m D a f).length = D + 1 := by simp [compL]
theorem nums_compL {m : Int} (hm : 0 < m) (D : Nat) (a f : List Int) : Nums m (compL m D a f) := nums_horn hm _ _ _ _ _
def oppL (m : Int) (D : Nat) (T : List (List Int)) (a : List Int) : List Int := compL m D (invL m D T) a

theorem s_spec_l04Opposite {m : Int} {A B : Option Addr} {Ra : Nat → Option Addr} {T : List (List Int)} {a : List Int} {D n n2 c c2 : Nat} {h : Hp} {R : Value → Hp → Prop} (hT : RT h A Ra T) (ha : RI h B a) (hn : n = D + 1) (hn2 : n2 = D + 1) (t : Tri m D T) (hm : 2 ≤ m) (hm2 : m ≤ 3000000000)
    (hD : D ≤ 90000) (hD1 : 1 ≤ D) (hal : a.length = D + 1) (hx : Nums m a)
    (hR : ∀ v h', HE h h' → FI y_t_int64 h h' v (oppL m D T a) → R v h') : CallW FF n_spec_l04Opposite [sv m A n c, .slice B n2 c2] h R := by
  subst hn; subst hn2
  refine w_spec_l04Opposite ?_
  have w1 : IntKind.i64.wrap (D : Int) = D := wrapI (by omega) (by omega)
  simp [p_spec_l04Opposite]
  refine newB_i fun b h1 eb en eh eB => ?_
  obtain ⟨b0, b1, b2⟩ := box2 eB
  simp [b0, b1, show b < h1.nx by omega]
  refine s_spec_l04Inverse (hT.mono eh) rfl t hm hm2 (by omega) hD1 fun v h2 hE2 hF => ?_
  obtain ⟨q, rfl, hq1, hq2, hq3⟩ := hF
  refine ⟨hE2.keep, ?_⟩
  simp [w1]
  refine s_spec_l02Compose (RI.of_block hq2 hq3) (ha.mono (eh.trans hE2)) (by simp) hal.symm hm hm2 (nums_invS (by omega) D T D) hx (by simp) (by simp; omega) (by omega) (by omega) fun v h3 hE3 hF => ?_
  obtain ⟨z, rfl, hz1, hz2, hz3⟩ := hF
  have := hE2.nx; have := eh.nx
  exact hR _ _ ((eh.trans hE2).trans hE3) ⟨z, by simp [oppL], by omega, hz2, by rw [hz3]; simp [oppL, compL]⟩

/-- The multiple by n, by doubling. -/
def binL (m : Int) (D : Nat) (T : List (List Int)) (n : Nat) (a out : List Int) : List Int :=
  if n = 0 then out else binL m D T (n / 2) (putL m D T a a) (if n % 2 = 1 then putL m D T out a else out)
termination_by n
decreasing_by omega

def mulN (m : Int) (D : Nat) (T : List (List Int)) (n : Int) (a : List Int) : List Int :=
  if n < 0 then oppL m D T (binL m D T (-n).toNat a (List.replicate (D + 1) 0)) else binL m D T n.toNat a (List.replicate (D + 1) 0)
theorem binL_len {m : Int} {D : Nat} {T : List (List Int)} {n : Nat} {a out : List Int} (ho : out.length = D + 1) : (binL m D T n a out).length = D + 1 := by
  induction n using Nat.strongRecOn generalizing a out with
  | _ n ih =>
    rw [binL]; split
    · exact ho
    · refine ih _ (by omega) ?_
      split <;> simp [ho]
theorem nums_binL {m : Int} (hm : 0 < m) {D : Nat} {T : List (List Int)} {n : Nat} {a out : List Int} (ho : Nums m out) : Nums m (binL m D T n a out) := by
  induction n using Nat.strongRecOn generalizing a out with
  | _ n ih =>
    rw [binL]; split
    · exact ho
    · refine ih _ (by omega) ?_
      split
      · exact nums_putL hm _ _ _ _
      · exact ho

theorem s_spec_l04Multiple_pos {m : Int} {A B : Option Addr} {Ra : Nat → Option Addr} {T : List (List Int)} {a : List Int} {D n n2 c c2 N : Nat} {h : Hp} {R : Value → Hp → Prop} (hT : RT h A Ra T) (ha : RI h B a) (hn : n = D + 1) (hn2 : n2 = D + 1) (t : Tri m D T) (hm : 2 ≤ m) (hm2 : m ≤ 3000000000)
    (hD : D ≤ 90000) (hal : a.length = D + 1) (hx : Nums m a) (hN : N ≤ 4000000000000)
    (hR : ∀ v h', HE h h' → FI y_t_int64 h h' v (binL m D T N a (List.replicate (D + 1) 0)) → R v h') : CallW FF n_spec_l04Multiple [sv m A n c, i6 N, .slice B n2 c2] h R := by
  subst hn; subst hn2
  refine w_spec_l04Multiple ?_
  have mk : makN (.int .i64 ((D : Int) + 1)) = some (D + 1) := makN_nat (by omega) (by unfold sizeMax; omega)
  have g0 : ¬ (N : Int) < 0 := by omega
  simp [p_spec_l04Multiple]
  refine newB_i fun b h1 eb en eh eB => ?_
  simp [g0, mk, mapI_rep]
  refine newB_i fun o h2 eo en2 eh2 eO => ?_
  have hE2 := eh.trans eh2
  refine LP1 (fun d vs h' => ∃ (k c' o : Nat) (A' : Option Addr) (a' out : List Int), k = d ∧ k ≤ N ∧ vs = [i6 k, .slice A' (D + 1) c', .pointer (some ⟨b, 0, none⟩), .slice (some ⟨o, 0, none⟩) (D + 1) 1] ∧ HE h h' ∧ HE h1 h' ∧ RI h' A' a' ∧ a'.length = D + 1 ∧ Nums m a' ∧
     h.nx ≤ o ∧ o < h'.nx ∧ h'.bk o = some ⟨mapI out, y_t_int64, true⟩ ∧ out.length = D + 1 ∧ Nums m out ∧ binL m D T k a' out = binL m D T N a (List.replicate (D + 1) 0)) ?_ _ _ _
    ⟨N, c2, o, B, a, List.replicate (D + 1) 0, rfl, by omega, by simp, hE2, eh2, ha.mono hE2, hal, hx, by omega, by omega, eO, by simp, nums_rep (by omega) _, rfl⟩
  rintro d vs h3 ⟨k, c', o, A', a', out, rfl, hk, rfl, hE, hE1, hA, hl, hn, ho1, ho2, ho3, hol, hon, hb⟩ K K1 hK hK1
  refine wl_spec_l04Multiple_0 ?_
  by_cases hk0 : k = 0
  · subst hk0
    simp [q_spec_l04Multiple_0]
    refine hK1 _ _ fun e he => ?_
    simp at he; rw [he]
    rw [binL, if_pos rfl] at hb
    exact hR _ _ hE ⟨o, by simp [← hb, hol], ho1, ho2, by rw [ho3, hb]⟩
  have hpos : (0 : Int) < k := by omega
  have d1 : (k : Int).tmod 2 = ((k % 2 : Nat) : Int) := by rw [Int.tmod_eq_emod_of_nonneg (by omega)]; omega
  have d2 : (k : Int).tdiv 2 = (k : Int) / 2 := Int.tdiv_eq_ediv_of_nonneg (by omega)
  have d3 : IntKind.i64.wrap ((k : Int) / 2) = (k : Int) / 2 := wrapI (by omega) (by omega)
  have rT : ∀ i, i < T.length → (row T i).length ≤ D + 1 := fun i hi => by have := (t.rows i hi).1; omega
  rw [binL, if_neg hk0] at hb
  have box := box2 ((hE1.bk b (by omega)).trans eB)
  have hpos' : 0 < k := by omega
  simp [q_spec_l04Multiple_0, hpos']
  refine ⟨fun vs h' => ∃ (o : Nat) (out' : List Int), vs = [i6 k, .slice A' (D + 1) c', .pointer (some ⟨b, 0, none⟩), .slice (some ⟨o, 0, none⟩) (D + 1) 1] ∧ HE h h' ∧ HE h1 h' ∧ RI h' A' a' ∧ h.nx ≤ o ∧ o < h'.nx ∧ h'.bk o = some ⟨mapI out', y_t_int64, true⟩ ∧
    out' = (if k % 2 = 1 then putL m D T out a' else out), ?_, ?_⟩
  · rintro vs h4 ⟨o, out', rfl, hE, hE1, hA, ho1, ho2, ho3, hout⟩ e he
    simp at he
    have box := box2 ((hE1.bk b (by omega)).trans eB)
    simp [he, box.2.1, box.2.2]
    refine s_spec_l03Put (hT.mono hE) hA hA rfl t.len hl hl rT (fun i hi => (t.rows i hi).2) hm hm2 hn hn (by omega) fun w h6 hE6 hF => ?_
    obtain ⟨q, rfl, hq1, hq2, hq3⟩ := hF
    simp [d2, d3]
    have nx6 := hE6.nx
    refine hK (k / 2) _ _ (by omega) ⟨k / 2, 1, o, _, _, out', rfl, by omega, by simp, hE.trans hE6, hE1.trans hE6, RI.of_block hq2 hq3, by simp, nums_putL (by omega) _ _ _ _, ho1, by omega, by rw [hE6.bk _ ho2]; exact ho3, ?_, ?_, ?_⟩
    · rw [hout]; split <;> simp [hol]
    · rw [hout]; split
      · exact nums_putL (by omega) _ _ _ _
      · exact hon
    · rw [hout]; exact hb
  · by_cases h2 : k % 2 = 1
    · have d1' : (k : Int).tmod 2 = 1 := by rw [d1, h2]; rfl
      simp [d1', box.2.1, box.2.2]
      refine s_spec_l03Put (hT.mono hE) (RI.of_block ho2 ho3) hA rfl t.len hol hl rT (fun i hi => (t.rows i hi).2) hm hm2 hon hn (by omega) fun w h6 hE6 hF => ?_
      obtain ⟨q, rfl, hq1, hq2, hq3⟩ := hF
      have nx6 := hE6.nx; have nx := hE.nx
      exact ⟨q, by simp, hE.trans hE6, hE1.trans hE6, hA.mono hE6, by omega, hq2, by rw [if_pos h2]; exact hq3⟩
    · have d1' : (k : Int).tmod 2 = 0 := by rw [d1, show k % 2 = 0 by omega]; rfl
      simp [d1']
      exact ⟨hE, hE1, hA, ho1, ho2, by rw [if_neg h2]; exact ho3⟩
end XM

/- Multiples by all integers and of a law: the reference's functions. -/
namespace XM
open Go

theorem s_spec_l04Multiple {m : Int} {A B : Option Addr} {Ra : Nat → Option Addr} {T : List (List Int)} {a : List Int} {D n n2 c c2 : Nat} {N : Int} {h : Hp} {R : Value → Hp → Prop} (hT : RT h A Ra T) (ha : RI h B a) (hn : n = D + 1) (hn2 : n2 = D + 1) (t : Tri m D T) (hm : 2 ≤ m) (hm2 : m ≤ 3000000000)
    (hD : D ≤ 90000) (hD1 : 1 ≤ D) (hal : a.length = D + 1) (hx : Nums m a) (hN : -4000000000000 ≤ N) (hN2 : N ≤ 4000000000000)
    (hR : ∀ v h', HE h h' → FI y_t_int64 h h' v (mulN m D T N a) → R v h') : CallW FF n_spec_l04Multiple [sv m A n c, i6 N, .slice B n2 c2] h R := by
  by_cases hneg : N < 0
  · subst hn; subst hn2
    refine w_spec_l04Multiple ?_
    have w1 : IntKind.i64.wrap (-N) = -N := wrapI (by omega) (by omega)
    simp [p_spec_l04Multiple]
    refine newB_i fun b h1 eb en eh eB => ?_
    have box := box2 eB
    simp [hneg, box.1, w1, show b < h1.nx by omega]
    rw [show (-N : Int) = ((-N).toNat : Int) by omega]
    refine s_spec_l04Multiple_pos (N := (-N).toNat) (hT.mono eh) (ha.mono eh) rfl rfl t hm hm2 hD hal hx (by omega) fun v h2 hE2 hF => ?_
    obtain ⟨q, rfl, hq1, hq2, hq3⟩ := hF
    refine ⟨hE2.keep, ?_⟩
    have hl : (binL m D T (-N).toNat a (List.replicate (D + 1) 0)).length = D + 1 := binL_len (by simp)
    refine s_spec_l04Opposite (hT.mono (eh.trans hE2)) (RI.of_block hq2 hq3) rfl hl t hm hm2 hD hD1 hl (nums_binL (by omega) (nums_rep (by omega) _)) fun v h3 hE3 hF => ?_
    refine hR _ _ ((eh.trans hE2).trans hE3) ?_
    obtain ⟨z, rfl, hz1, hz2, hz3⟩ := hF
    have := hE2.nx; have := eh.nx
    exact ⟨z, by rw [mulN, if_pos hneg], by omega, hz2, by rw [mulN, if_pos hneg]; exact hz3⟩
  · have e : N = ((N.toNat : Nat) : Int) := by omega
    have e2 : mulN m D T N a = binL m D T N.toNat a (List.replicate (D + 1) 0) := by rw [mulN, if_neg hneg]
    rw [e2] at hR
    rw [e]
    exact s_spec_l04Multiple_pos hT ha hn hn2 t hm hm2 hD hal hx (by omega) hR
end XM

/- The multiple of a law: the reference's function. -/
namespace XM
open Go

end XM

/- Shorter ways to read lists and tables; rules for simp whose conditions omega shows. -/
namespace XM
open Go

theorem RI.at {h : Hp} {A : Option Addr} {xs : List Int} (r : RI h A xs) (c : Nat) {e : Int} {i n : Nat} (he : e = i) (hn : n = xs.length) (hi : i < xs.length) :
    indexAddrV 1 (.slice A n c) (.int .i64 e) = some (elp A 1 i) ∧ ldV 1 false h (elp A 1 i) = some (.int .i64 (gt xs i)) := by
  obtain ⟨a, b⟩ := r.rd (c := c) (k := .i64) he hn hi
  exact ⟨a, b _ (HE.refl _)⟩
theorem RT.at {h : Hp} {A : Option Addr} {R : Nat → Option Addr} {T : List (List Int)} (r : RT h A R T) (c : Nat) {e : Int} {i n : Nat} (he : e = i) (hn : n = T.length) (hi : i < T.length) :
    indexAddrV 1 (.slice A n c) (.int .i64 e) = some (elp A 1 i) ∧ ldV 1 false h (elp A 1 i) = some (.slice (R i) (row T i).length 1) := by
  obtain ⟨a, b⟩ := r.rd (c := c) (k := .i64) he hn hi
  exact ⟨a, b _ (HE.refl _)⟩
theorem RV.at {h : Hp} {A : Option Addr} {vs : List Value} (r : RV h A vs) (c : Nat) {e : Int} {i n : Nat} {v : Value} (he : e = i) (hn : n = vs.length) (hv : vs[i]? = some v) :
    indexAddrV 1 (.slice A n c) (.int .i64 e) = some (elp A 1 i) ∧ ldV 1 false h (elp A 1 i) = some v := by
  obtain ⟨a, b⟩ := r.rd (c := c) (k := .i64) he hn hv
  exact ⟨a, b _ (HE.refl _)⟩
theorem RT.el {h : Hp} {A : Option Addr} {R : Nat → Option Addr} {T : List (List Int)} (r : RT h A R T) (c : Nat) {e : Int} {i j n : Nat} (hi : i < T.length) (he : e = j) (hn : n = (row T i).length) (hj : j < (row T i).length) :
    indexAddrV 1 (.slice (R i) n c) (.int .i64 e) = some (elp (R i) 1 j) ∧ ldV 1 false h (elp (R i) 1 j) = some (.int .i64 (gt (row T i) j)) := (r.rows i hi).at c he hn hj

theorem condM_t {c : Prop} [Decidable c] (A B : Prop) (h : c) : condM (.bool (decide c)) A B = A := by simp [h]
theorem condM_f {c : Prop} [Decidable c] (A B : Prop) (h : ¬ c) : condM (.bool (decide c)) A B = B := by simp [h]
theorem idxOwn {b n c : Nat} {k : IntKind} {e : Int} (h0 : 0 ≤ e) (h1 : e < n) : indexAddrV 1 (.slice (some ⟨b, 0, none⟩) n c) (.int k e) = some (.pointer (some ⟨b, e.toNat, none⟩)) := by
  obtain ⟨i, rfl⟩ := Int.eq_ofNat_of_zero_le h0
  exact ixOwn (by simp) (by omega)

/-- What stands in h stands in h'. -/
structure HS (h h' : Hp) : Prop where
  nx : h.nx ≤ h'.nx
  bk : ∀ b x, b < h.nx → h.bk b = some x → h'.bk b = some x
theorem HE.hs {h h' : Hp} (e : HE h h') : HS h h' := ⟨e.nx, fun b x hb hx => (e.bk b hb).trans hx⟩
theorem HS.refl (h : Hp) : HS h h := ⟨Nat.le_refl _, fun _ _ _ h => h⟩
theorem HS.trans {h h' h'' : Hp} (a : HS h h') (b : HS h' h'') : HS h h'' := ⟨Nat.le_trans a.nx b.nx, fun c x hc hx => b.bk c x (Nat.lt_of_lt_of_le hc a.nx) (a.bk c x hc hx)⟩
theorem RV.mos {h h' : Hp} {A : Option Addr} {vs : List Value} (r : RV h A vs) (e : HS h h') : RV h' A vs := by
  intro hl
  obtain ⟨b, o, x, h1, h2, h3, h4⟩ := r hl
  exact ⟨b, o, x, h1, Nat.lt_of_lt_of_le h2 e.nx, e.bk b x h2 h3, h4⟩
theorem RI.mos {h h' : Hp} {A : Option Addr} {xs : List Int} (r : RI h A xs) (e : HS h h') : RI h' A xs := RV.mos r e
theorem RT.mos {h h' : Hp} {A : Option Addr} {R : Nat → Option Addr} {T : List (List Int)} (r : RT h A R T) (e : HS h h') : RT h' A R T := ⟨r.top.mos e, fun i hi => (r.rows i hi).mos e⟩
/-- The heap without the blocks of P. -/
def msk (h : Hp) (P : Nat → Prop) [DecidablePred P] : Hp := ⟨fun b => if P b then none else h.bk b, h.nx⟩
section
variable {P : Nat → Prop} [DecidablePred P]
@[simp] theorem msk_nx (h : Hp) : (msk h P).nx = h.nx := rfl
theorem msk_bk {h : Hp} {b : Nat} (hb : ¬ P b) : (msk h P).bk b = h.bk b := by simp [msk, hb]
theorem msk_some {h : Hp} {b : Nat} {x : Blk} (hx : (msk h P).bk b = some x) : ¬ P b ∧ h.bk b = some x := by
  unfold msk at hx; simp only at hx
  split at hx
  · cases hx
  · rename_i hb; exact ⟨hb, hx⟩
theorem msk_hs (h : Hp) : HS (msk h P) h := ⟨Nat.le_refl _, fun b x _ hx => (msk_some hx).2⟩
theorem msk_to {Q : Nat → Prop} [DecidablePred Q] {h h' : Hp} (hn : h.nx ≤ h'.nx) (hk : ∀ b, b < h.nx → ¬ P b → h'.bk b = h.bk b ∧ ¬ Q b) : HS (msk h P) (msk h' Q) :=
  ⟨hn, fun b x hb hx => by
    obtain ⟨h1, h2⟩ := msk_some hx
    obtain ⟨h3, h4⟩ := hk b hb h1
    rw [msk_bk h4, h3]; exact h2⟩
theorem OT.rtm {lo : Nat} {h : Hp} {b : Nat} {rb : Nat → Nat} {T : List (List Int)} (t : OT lo h b rb T) (hP : ∀ x, P x → x < lo) : RT (msk h P) (some ⟨b, 0, none⟩) (fun i => some ⟨rb i, 0, none⟩) T := by
  have np : ∀ x, lo ≤ x → ¬ P x := fun x hx hp => by have := hP x hp; omega
  exact ⟨RV.of_block (x := ⟨_, _, true⟩) t.ltb (by rw [msk_bk (np _ t.lob)]; exact t.top) rfl, fun i hi => RI.of_block (t.ltr i hi) (by rw [msk_bk (np _ (t.lor i hi))]; exact t.rows i hi)⟩
end

/-- Tables one after the other, in a block of headers. -/
def hdT (TA : Nat → Option Addr) (n : Nat) (k : Nat) : List Value := (List.range k).map fun c => .slice (TA c) n 1
@[simp] theorem hdT_len (TA : Nat → Option Addr) (n k : Nat) : (hdT TA n k).length = k := by simp [hdT]
theorem hdT_get {TA : Nat → Option Addr} {n k i : Nat} (h : i < k) : (hdT TA n k)[i]? = some (.slice (TA i) n 1) := by simp [hdT, h]
def updF {α : Type} (f : Nat → α) (k : Nat) (x : α) : Nat → α := fun i => if i = k then x else f i
theorem updF_eq {α : Type} (f : Nat → α) (k : Nat) (x : α) : updF f k x k = x := by simp [updF]
theorem updF_ne {α : Type} {f : Nat → α} {k i : Nat} {x : α} (h : i ≠ k) : updF f k x i = f i := by simp [updF, h]
theorem hdT_snoc (TA : Nat → Option Addr) (n k : Nat) (A : Option Addr) : hdT (updF TA k A) n (k + 1) = hdT TA n k ++ [.slice A n 1] := by
  simp only [hdT, List.range_succ, List.map_append]
  congr 1
  · exact List.map_congr_left fun i hi => by rw [updF_ne (by simp at hi; omega)]
  · simp [updF]
end XM

/- The faults of a law: l04Fault, l04Is. -/
namespace XM
open Go

/-- The first fault is none. -/
def AssL (m : Int) (N : Nat) (T : List (List Int)) (a b c : Nat) : Int := gt2 (afterT m N (colL T c) T) a b
def AssR (m : Int) (N : Nat) (T : List (List Int)) (a b c : Nat) : Int := gt2 (afterT m N (row T a) T) b c
def NoF1 (T : List (List Int)) (i : Nat) : Prop := gt2 T i 0 = if i = 1 then 1 else 0
def NoF (m : Int) (N : Nat) (T : List (List Int)) : Prop := (∀ i, i < N → NoF1 T i) ∧ (∀ i j, i < j → i + j < N → gt2 T i j = gt2 T j i) ∧
  ∀ a b c, a + b + c < N → AssL m N T a b c = AssR m N T a b c

theorem nums_col {m : Int} {T : List (List Int)} {j : Nat} (hr : ∀ i, i < T.length → (row T i).length = T.length - i ∧ Nums m (row T i)) : Nums m (colL T j) := by
  rw [nums_iff]; intro i hi
  simp only [colL, tab_len] at hi
  rw [colL, gt_tab hi]
  obtain ⟨h1, h2⟩ := hr i (by omega)
  exact h2.gt (by omega)
@[simp] theorem afterT_len (m : Int) (N : Nat) (f : List Int) (T : List (List Int)) : (afterT m N f T).length = N := by simp [afterT]
theorem afterT_row {m : Int} (hm : 0 < m) {N : Nat} {f : List Int} {T : List (List Int)} {i : Nat} (hi : i < N) : (row (afterT m N f T) i).length = N - i := (hornT_row hm i hi).1

/-- Tables G 0 .. G (k - 1), one after the other, in a block of its own. -/
structure TT (lo : Nat) (h : Hp) (b : Nat) (TA : Nat → Option Addr) (N : Nat) (k : Nat) : Prop where
  lob : lo ≤ b
  ltb : b < h.nx
  top : h.bk b = some ⟨hdT TA N k, y_t_LLint64, true⟩

theorem TT.mono {lo : Nat} {h h' : Hp} {b : Nat} {TA : Nat → Option Addr} {N : Nat} {k : Nat} (t : TT lo h b TA N k) (e : HE h h') : TT lo h' b TA N k :=
  ⟨t.lob, Nat.lt_of_lt_of_le t.ltb e.nx, by rw [e.bk _ t.ltb]; exact t.top⟩
theorem TT.at {lo : Nat} {h : Hp} {b : Nat} {TA : Nat → Option Addr} {N : Nat} {k : Nat} (t : TT lo h b TA N k) (c : Nat) {e : Int} {i n : Nat} (he : e = i) (hn : n = k) (hi : i < k) :
    indexAddrV 1 (.slice (some ⟨b, 0, none⟩) n c) (.int .i64 e) = some (elp (some ⟨b, 0, none⟩) 1 i) ∧ ldV 1 false h (elp (some ⟨b, 0, none⟩) 1 i) = some (.slice (TA i) N 1) :=
  (RV.of_block t.ltb t.top rfl).at c he (by simpa using hn) (hdT_get hi)

theorem s_spec_l04Fault {m : Int} {A : Option Addr} {Rr : Nat → Option Addr} {T : List (List Int)} {N n c : Nat} {h : Hp} {R : Value → Hp → Prop} (hT : RT h A Rr T) (hn : n = N) (hN : T.length = N)
    (hr : ∀ i, i < N → (row T i).length = N - i ∧ Nums m (row T i)) (hm : 2 ≤ m) (hm2 : m ≤ 3000000000) (hN1 : 1 ≤ N) (hN2 : N ≤ 1000)
    (hR : ∀ h' A' n' c', HE h h' → (n' = 0 ↔ NoF m N T) → R (.slice A' n' c') h') : CallW FF n_spec_l04Fault [sv m A n c] h R := by
  subst hn
  refine w_spec_l04Fault ?_
  simp [p_spec_l04Fault]
  refine newB_i fun b h1 eb en eh eB => ?_
  obtain ⟨b0, b1, b2⟩ := box2 eB
  simp [b2]
  have T1 := hT.mono eh
  refine LP2 (fun d vs h' => ∃ i : Nat, d = n - i ∧ i ≤ n ∧ h' = h1 ∧ vs = [.pointer (some ⟨b, 0, none⟩), i6 n, .slice A n c, i6 i] ∧ ∀ j, j < i → NoF1 T j) ?_ _ _ _ ⟨0, rfl, by omega, rfl, rfl, by omega⟩
  · rintro d vs h2 ⟨i, rfl, hi, rfl, rfl, hF⟩ K K1 K2 hK hK1 hK2
    refine wl_spec_l04Fault_0 ?_
    by_cases hlt : i < n
    case neg =>
      simp [q_spec_l04Fault_0, hlt]
      refine hK1 _ _ fun e he => ?_
      simp at he
      simp [he]
      have hF : ∀ j, j < n → NoF1 T j := fun j hj => hF j (by omega)
      clear hK hK1 hK2 K K1 K2 hlt hi he
      refine LP2 (fun d vs h' => ∃ i : Nat, d = n - i ∧ i ≤ n ∧ h' = h2 ∧ vs = [.pointer (some ⟨b, 0, none⟩), i6 n, .slice A n c, i6 i] ∧ ∀ j k, j < i → j < k → j + k < n → gt2 T j k = gt2 T k j) ?_ _ _ _ ⟨0, rfl, by omega, rfl, rfl, by omega⟩
      rintro d vs h2 ⟨i, rfl, hi, rfl, rfl, hF2⟩ K K1 K2 hK hK1 hK2
      refine wl_spec_l04Fault_2 ?_
      by_cases hlt : i < n
      case neg =>
        simp [q_spec_l04Fault_2, hlt]
        refine hK1 _ _ fun e he => ?_
        simp at he
        simp [he]
        have hF2 : ∀ j k, j < k → j + k < n → gt2 T j k = gt2 T k j := fun j k h1 h2 => hF2 j k (by omega) h1 h2
        clear hK hK1 hK2 K K1 K2 hlt hi he
        refine newB_i fun b3 h3 eb3 en3 eh3 eB3 => ?_
        refine newB_i fun b4 h4 eb4 en4 eh4 eB4 => ?_
        have E4 := eh3.trans eh4
        refine LP1 (fun d vs h' => ∃ (k bl br : Nat) (TA TB : Nat → Option Addr) (TP TQ : Nat → Nat → Option Addr), d = n - k ∧ k ≤ n ∧ vs = [.pointer (some ⟨b, 0, none⟩), i6 n, .slice A n c, .slice (some ⟨bl, 0, none⟩) k 1, .slice (some ⟨br, 0, none⟩) k 1, i6 k] ∧
            HE h h' ∧ HE h2 h' ∧ bl ≠ br ∧ TT h2.nx h' bl TA n k ∧ TT h2.nx h' br TB n k ∧ (∀ c, c < k → RT (msk h' fun b => b = bl ∨ b = br) (TA c) (TP c) (afterT m n (colL T c) T) ∧ RT (msk h' fun b => b = bl ∨ b = br) (TB c) (TQ c) (afterT m n (row T c) T))) ?_ _ _ _
          ⟨0, b3, b4, fun _ => none, fun _ => none, fun _ _ => none, fun _ _ => none, rfl, by omega, rfl, eh.trans E4, E4, by omega, ⟨by omega, by omega, by rw [eh4.bk _ (by omega)]; exact eB3⟩, ⟨by omega, by omega, eB4⟩, by omega⟩
        rintro d vs h5 ⟨k, bl, br, TA, TB, TP, TQ, rfl, hk, rfl, E5, E25, hne, tl, tr, tbs⟩ K K1 hK hK1
        refine wl_spec_l04Fault_3 ?_
        by_cases hlt : k < n
        case neg =>
          have : k = n := by omega
          subst this
          simp [q_spec_l04Fault_3]
          refine hK1 _ _ fun e he => ?_
          simp at he
          simp [he]
          clear hK hK1 K K1 hlt hk he
          refine LP2 (fun d vs h' => ∃ i : Nat, d = k - i ∧ i ≤ k ∧ h' = h5 ∧ vs = [i6 k, .slice (some ⟨bl, 0, none⟩) k 1, .slice (some ⟨br, 0, none⟩) k 1, i6 i] ∧ ∀ a b c, a < i → a + b + c < k → AssL m k T a b c = AssR m k T a b c) ?_ _ _ _ ⟨0, rfl, by omega, rfl, rfl, by omega⟩
          rintro d vs h6 ⟨i, rfl, hi, rfl, rfl, hA⟩ K K1 K2 hK hK1 hK2
          refine wl_spec_l04Fault_6 ?_
          by_cases hlt : i < k
          case neg =>
            simp [q_spec_l04Fault_6, hlt]
            refine hK1 _ _ ?_
            exact fun _ => hR _ _ _ _ E5 ⟨fun _ => ⟨hF, hF2, fun a b c h => hA a b c (by omega) h⟩, fun _ => rfl⟩
          simp [q_spec_l04Fault_6, hlt]
          refine LP2 (fun d vs h' => ∃ j : Nat, d = k - j ∧ i + j ≤ k ∧ h' = h6 ∧ vs = [i6 k, .slice (some ⟨bl, 0, none⟩) k 1, .slice (some ⟨br, 0, none⟩) k 1, i6 i, i6 j] ∧ ∀ b c, b < j → i + b + c < k → AssL m k T i b c = AssR m k T i b c) ?_ _ _ _ ⟨0, rfl, by omega, rfl, rfl, by omega⟩
          rintro d vs h7 ⟨j, rfl, hj, rfl, rfl, hB⟩ K3 K4 K5 hK3 hK4 hK5
          refine wl_spec_l04Fault_5 ?_
          have wij := wrapI (n := (i : Int) + j) (by omega) (by omega)
          by_cases hlt2 : i + j < k
          case neg =>
            have hlt2' : ¬ (i : Int) + j < k := by omega
            simp [q_spec_l04Fault_5, hlt2', wij]
            refine hK4 _ _ fun e he => ?_
            simp at he
            simp [he, wrapI (n := (i : Int) + 1) (by omega) (by omega)]
            refine hK _ _ _ (by omega) ⟨i + 1, rfl, by omega, rfl, rfl, fun a b c h1 h2 => ?_⟩
            by_cases h : a = i
            · subst h; exact hB b c (by omega) h2
            · exact hA a b c (by omega) h2
          have hlt2' : (i : Int) + j < k := by omega
          simp [q_spec_l04Fault_5, hlt2', wij]
          refine LP2 (fun d vs h' => ∃ l : Nat, d = k - l ∧ i + j + l ≤ k ∧ h' = h7 ∧ vs = [i6 k, .slice (some ⟨bl, 0, none⟩) k 1, .slice (some ⟨br, 0, none⟩) k 1, i6 i, i6 j, i6 l] ∧ ∀ c, c < l → i + j + c < k → AssL m k T i j c = AssR m k T i j c) ?_ _ _ _ ⟨0, rfl, by omega, rfl, rfl, by omega⟩
          rintro d vs h8 ⟨l, rfl, hl, rfl, rfl, hC⟩ K6 K7 K8 hK6 hK7 hK8
          refine wl_spec_l04Fault_4 ?_
          have wijl := wrapI (n := (i : Int) + j + l) (by omega) (by omega)
          by_cases hlt3 : i + j + l < k
          case neg =>
            have hlt3' : ¬ (i : Int) + j + l < k := by omega
            simp [q_spec_l04Fault_4, hlt3', wij, wijl]
            refine hK7 _ _ fun e he => ?_
            simp at he
            simp [he, wrapI (n := (j : Int) + 1) (by omega) (by omega)]
            refine hK3 _ _ _ (by omega) ⟨j + 1, rfl, by omega, rfl, rfl, fun b c h1 h2 => ?_⟩
            by_cases h : b = j
            · subst h; exact hC c (by omega) h2
            · exact hB b c (by omega) h2
          have hlt3' : (i : Int) + j + l < k := by omega
          have hm0 : 0 < m := by omega
          have x1 := tl.at 1 (e := l) (n := k) rfl rfl (by omega)
          have tlb := ((tbs l (by omega)).1).mos (msk_hs _)
          have trb := ((tbs i (by omega)).2).mos (msk_hs _)
          have x2 := tlb.at 1 (e := i) (n := k) rfl (by simp) (by simp; omega)
          have x3 := tlb.el 1 (e := j) (i := i) (n := (row (afterT m k (colL T l) T) i).length) (by simp; omega) rfl rfl (by rw [afterT_row hm0 (by omega)]; omega)
          have y1 := tr.at 1 (e := i) (n := k) rfl rfl (by omega)
          have y2 := trb.at 1 (e := j) (n := k) rfl (by simp) (by simp; omega)
          have y3 := trb.el 1 (e := l) (i := j) (n := (row (afterT m k (row T i) T) j).length) (by simp; omega) rfl rfl (by rw [afterT_row hm0 (by omega)]; omega)
          simp [q_spec_l04Fault_4, hlt3', wij, wijl, x1, x2, x3, y1, y2, y3]
          by_cases hc : AssL m k T i j l = AssR m k T i j l
          · have hc' : gt (row (afterT m k (colL T l) T) i) j = gt (row (afterT m k (row T i) T) j) l := hc
            simp [hc', wrapI (n := (l : Int) + 1) (by omega) (by omega)]
            refine hK6 _ _ _ (by omega) ⟨l + 1, rfl, by omega, rfl, rfl, fun c h1 h2 => ?_⟩
            by_cases h : c = l
            · subst h; exact hc
            · exact hC c (by omega) h2
          · have hc' : ¬ gt (row (afterT m k (colL T l) T) i) j = gt (row (afterT m k (row T i) T) j) l := hc
            simp [hc', rowV, rowFill, reps]
            refine newB_i fun b9 h9 eb9 en9 eh9 eB9 => ?_
            refine hK8 _ _ fun e he => ?_
            simp at he
            refine hK5 _ _ fun e2 he2 => ?_
            simp at he2
            refine hK2 _ _ fun e3 he3 => ?_
            simp at he3
            rw [he3, he2, he]
            exact hR _ _ _ _ (E5.trans eh9) ⟨fun h => by omega, fun h => (hc (h.2.2 i j l (by omega))).elim⟩
        have hr' : ∀ i, i < T.length → (row T i).length = T.length - i ∧ Nums m (row T i) := by rw [hN]; exact hr
        have bx := box2 ((E25.bk b (by omega)).trans eB)
        have T5 := hT.mono E5
        simp [q_spec_l04Fault_3, hlt, bx, show b < h5.nx by have := E25.nx; omega]
        refine s_spec_l04Column T5 hN.symm (by omega) (by omega) (fun i hi => (hr' i hi).1) fun v h6 e6 f6 => ?_
        obtain ⟨v, rfl, f7, f8, f9⟩ := f6
        refine ⟨e6.keep, ?_⟩
        refine s_spec_l03After (RI.of_block f8 f9) (T5.mono e6) rfl rfl hN hr (by omega) hm2 hN1 (by omega) (by simp [colL]; omega) (nums_col hr') fun v h7 e7 g7 => ?_
        obtain ⟨v2, rb, rfl, o7⟩ := g7
        simp
        have E57 := e6.trans e7
        refine push1 ((E57.bk _ tl.ltb).trans tl.top) (Nat.lt_of_lt_of_le tl.ltb E57.nx) (by simp) (by unfold sizeMax; omega) fun bl' h8 u8 => ?_
        have Q57 := E57.nx; have Q25 := E25.nx; have Q67 := e7.nx; have Q56 := e6.nx; have hlob := tl.lob; have hltb := tl.ltb; have hrob := tr.lob; have hrtb := tr.ltb; have u8g := u8.ge; have u8l := u8.lt
        have E8 : HE h h8 := u8.he (E5.trans E57) (by have := eh.nx; omega)
        have E28 : HE h2 h8 := u8.he (E25.trans E57) (by omega)
        have bx8 := box2 ((E28.bk b (by omega)).trans eB)
        have T8 := hT.mono E8
        have r8 := T8.at c (e := k) (n := n) rfl hN.symm (by omega)
        simp [bx8, r8]
        refine s_spec_l03After (T8.rows k (by omega)) T8 rfl rfl hN hr (by omega) hm2 hN1 (by omega) (by rw [(hr k hlt).1]; omega) (hr k hlt).2 fun v h9 e9 g9 => ?_
        obtain ⟨v3, rb3, rfl, o9⟩ := g9
        simp
        have keepO : ∀ c, c < h7.nx → c ≠ bl → h9.bk c = h7.bk c := fun c hc hne => by rw [e9.bk _ (by omega)]; exact u8.ot c hc hne
        have brk : h9.bk br = some ⟨hdT TB n k, y_t_LLint64, true⟩ := by rw [keepO br (by omega) (by omega), E57.bk _ hrtb]; exact tr.top
        refine push1 brk (by have := e9.nx; omega) (by simp) (by unfold sizeMax; omega) fun br' h10 u10 => ?_
        have u10g := u10.ge; have u10l := u10.lt; have Q89 := e9.nx
        have E910 : ∀ c, c < h8.nx → c ≠ br → c ≠ bl → h10.bk c = h8.bk c := fun c hc h1 h2 => by rw [u10.ot c (by omega) h1, e9.bk _ hc]
        have w1 := wrapI (n := (k : Int) + 1) (by omega) (by omega)
        simp [w1]
        have E510 : ∀ b, b < h5.nx → ¬ (b = bl ∨ b = br) → h10.bk b = h5.bk b ∧ ¬ (b = bl' ∨ b = br') := fun b hb hP => by
          rw [not_or] at hP
          refine ⟨?_, by omega⟩
          rw [u10.ot b (by omega) hP.2, e9.bk _ (by omega), u8.ot b (by omega) hP.1, E57.bk b hb]
        have S510 : HS (msk h5 fun b => b = bl ∨ b = br) (msk h10 fun b => b = bl' ∨ b = br') := msk_to (by omega) E510
        have S710 : HS (msk h7 fun b => b = bl ∨ b = br) (msk h10 fun b => b = bl' ∨ b = br') := msk_to (by omega) fun b hb hP => by
          rw [not_or] at hP
          refine ⟨?_, by omega⟩
          rw [u10.ot b (by omega) hP.2, e9.bk _ (by omega), u8.ot b (by omega) hP.1]
        have S910 : HS (msk h9 fun b => b = bl' ∨ b = br) (msk h10 fun b => b = bl' ∨ b = br') := msk_to (by omega) fun b hb hP => by
          rw [not_or] at hP
          exact ⟨u10.ot b (by omega) hP.2, by omega⟩
        refine hK _ _ _ (by omega) ⟨k + 1, bl', br', updF TA k (some ⟨v2, 0, none⟩), updF TB k (some ⟨v3, 0, none⟩), updF TP k (fun i => some ⟨rb i, 0, none⟩), updF TQ k (fun i => some ⟨rb3 i, 0, none⟩), rfl, by omega, by simp,
          u10.he (E8.trans e9) (by have := eh.nx; omega), u10.he (E28.trans e9) (by omega), by omega, ⟨by omega, by omega, ?_⟩, ⟨by omega, by omega, ?_⟩, fun c hc => ?_⟩
        · rw [u10.ot _ (by omega) (by omega), e9.bk _ (by omega), u8.bk, hdT_snoc]
        · rw [u10.bk, hdT_snoc]
        · by_cases h : c = k
          · subst h
            rw [updF_eq, updF_eq, updF_eq, updF_eq]
            exact ⟨(o7.rtm (P := fun b => b = bl ∨ b = br) fun x hx => by omega).mos S710, (o9.rtm (P := fun b => b = bl' ∨ b = br) fun x hx => by omega).mos S910⟩
          · rw [updF_ne h, updF_ne h, updF_ne h, updF_ne h]
            have := tbs c (by omega)
            exact ⟨this.1.mos S510, this.2.mos S510⟩
      simp [q_spec_l04Fault_2, hlt, wrapI (n := (i : Int) + 1) (by omega) (by omega)]
      have w1 : IntKind.i64.wrap ((i : Int) + 1) = ((i + 1 : Nat) : Int) := wrapI (by omega) (by omega)
      refine LP2 (fun d vs h' => ∃ j : Nat, d = n - j ∧ i < j ∧ h' = h2 ∧ vs = [.pointer (some ⟨b, 0, none⟩), i6 n, .slice A n c, i6 i, i6 j] ∧ j ≤ n + 1 ∧ ∀ k, i < k → k < j → i + k < n → gt2 T i k = gt2 T k i) ?_ _ _ _ ⟨i + 1, rfl, by omega, rfl, by simp, by omega, by omega⟩
      rintro d vs h7 ⟨j, rfl, hj, rfl, rfl, hj2, hB⟩ K3 K4 K5 hK3 hK4 hK5
      refine wl_spec_l04Fault_1 ?_
      have wij := wrapI (n := (i : Int) + j) (by omega) (by omega)
      by_cases hlt2 : i + j < n
      case neg =>
        have hlt2' : ¬ (i : Int) + j < n := by omega
        simp [q_spec_l04Fault_1, hlt2', wij]
        refine hK4 _ _ fun e he => ?_
        simp at he
        simp [he, wrapI (n := (i : Int) + 1) (by omega) (by omega)]
        refine hK _ _ _ (by omega) ⟨i + 1, rfl, by omega, rfl, rfl, fun a b h1 h2 h3 => ?_⟩
        by_cases h : a = i
        · subst h; exact hB b h2 (by omega) h3
        · exact hF2 a b (by omega) h2 h3
      have hlt2' : (i : Int) + j < n := by omega
      have x1 := T1.at c (e := i) rfl hN.symm (by omega)
      have x2 := T1.el 1 (e := j) (i := i) (n := (row T i).length) (by omega) rfl rfl (by rw [(hr i hlt).1]; omega)
      have y1 := T1.at c (e := j) rfl hN.symm (by omega)
      have y2 := T1.el 1 (e := i) (i := j) (n := (row T j).length) (by omega) rfl rfl (by rw [(hr j (by omega)).1]; omega)
      simp [q_spec_l04Fault_1, hlt2', wij, x1, x2, y1, y2]
      by_cases hc : gt2 T i j = gt2 T j i
      · have hc' : gt (row T i) j = gt (row T j) i := hc
        simp [hc', wrapI (n := (j : Int) + 1) (by omega) (by omega)]
        refine hK3 _ _ _ (by omega) ⟨j + 1, rfl, by omega, rfl, rfl, by omega, fun k h1 h2 h3 => ?_⟩
        by_cases h : k = j
        · subst h; exact hc
        · exact hB k h1 (by omega) h3
      · have hc' : ¬ gt (row T i) j = gt (row T j) i := hc
        simp [hc', rowV, rowFill, reps]
        refine newB_i fun b9 h9 eb9 en9 eh9 eB9 => ?_
        refine hK5 _ _ fun e he => ?_
        simp at he
        refine hK2 _ _ fun e2 he2 => ?_
        simp at he2
        rw [he2, he]
        exact hR _ _ _ _ (eh.trans eh9) ⟨fun h => by omega, fun h => (hc (h.2.1 i j (by omega) (by omega))).elim⟩
    obtain ⟨r1, r2⟩ := T1.at c (e := i) rfl hN.symm (by omega)
    have hri := hr i hlt
    obtain ⟨t1, t2⟩ := T1.el 1 (e := 0) (i := i) (j := 0) (by omega) rfl rfl (by omega)
    simp [q_spec_l04Fault_0, hlt]
    refine ⟨fun vs h' => vs = [.pointer (some ⟨b, 0, none⟩), i6 n, .slice A n c, i6 i, i6 (if i = 1 then 1 else 0)] ∧ h' = h2, ?_, ?_⟩
    · rintro vs h3 ⟨rfl, rfl⟩ e he
      simp at he
      simp [he, r1, r2, t1, t2]
      by_cases hc : NoF1 T i
      · have hc' : gt (row T i) 0 = if i = 1 then 1 else 0 := hc
        simp [hc', wrapI (n := (i : Int) + 1) (by omega) (by omega)]
        exact hK _ _ _ (by omega) ⟨i + 1, rfl, by omega, rfl, rfl, fun j hj => by
          by_cases h : j = i
          · subst h; exact hc
          · exact hF j (by omega)⟩
      · have hc' : ¬ gt (row T i) 0 = if i = 1 then 1 else 0 := hc
        simp [hc', rowV, rowFill, reps]
        refine newB_i fun b9 h9 eb9 en9 eh9 eB9 => ?_
        refine hK2 _ _ fun e2 he2 => ?_
        simp at he2
        rw [he2]
        exact hR _ _ _ _ (eh.trans eh9) ⟨fun h => by omega, fun h => (hc (h.1 i (by omega))).elim⟩
    · by_cases h : (i : Int) = 1
      · have : i = 1 := by omega
        simp [this]
      · have : ¬ i = 1 := by omega
        simp [h, this]

def LawT (m : Int) (T : List (List Int)) : Prop := IsP m T ∧ NoF m T.length T
open Classical in
theorem s_spec_l04Is {m : Int} {A : Option Addr} {Rr : Nat → Option Addr} {T : List (List Int)} {n c : Nat} {h : Hp} {R : Value → Hp → Prop} (hT : RT h A Rr T) (hn : n = T.length) (hl : n ≤ 1000000) (hrl : ∀ i, i < T.length → (row T i).length ≤ 1000000)
    (hR : ∀ h', HE h h' → R (.bool (decide (LawT m T))) h') : CallW FF n_spec_l04Is [sv m A n c] h R := by
  subst hn
  refine w_spec_l04Is ?_
  simp [p_spec_l04Is]
  refine newB_i fun b h1 eb en eh eB => ?_
  have bx := box2 eB
  simp [bx]
  refine s_spec_l03Is (hT.mono eh) rfl hl hrl fun h2 e2 => ?_
  have bx := box2 ((e2.bk b (by omega)).trans eB)
  by_cases hp : IsP m T
  · have hp2 := hp
    obtain ⟨q1, q2, q3⟩ := hp2
    simp [hp, bx]
    refine s_spec_l04Fault (hT.mono (eh.trans e2)) rfl rfl q3 (by omega) (by omega) (by omega) (by omega) fun h3 A' n' c' e3 hi => ?_
    simp
    have : (LawT m T) ↔ n' = 0 := ⟨fun h => hi.2 h.2, fun h => ⟨hp, hi.1 h⟩⟩
    have h4 := hR _ ((eh.trans e2).trans e3)
    by_cases h0 : n' = 0 <;> simpa [this, h0] using h4
  · have : ¬ LawT m T := fun h => hp h.1
    have h4 := hR _ (eh.trans e2)
    simpa [hp, this] using h4
end XM

/- Lists of series; l04Code, MultipleOf, MultipleUnder, InverseOfLaw of the reference. -/
namespace XM
open Go

structure Ser where
  m : Int
  A : Option Addr
  c : Nat
  xs : List Int

/-- A list of series that is only read. -/
structure RS (h : Hp) (A : Option Addr) (L : List Ser) : Prop where
  top : 0 < L.length → ∃ b o x, A = some ⟨b, o, none⟩ ∧ b < h.nx ∧ h.bk b = some x ∧ ∀ (i : Nat) (e : Ser), L[i]? = some e → x.cells[o + i * 2]? = some (i6 e.m) ∧ x.cells[o + i * 2 + 1]? = some (.slice e.A e.xs.length e.c)
  el : ∀ (i : Nat) (e : Ser), L[i]? = some e → RI h e.A e.xs

theorem RS.mos {h h' : Hp} {A : Option Addr} {L : List Ser} (r : RS h A L) (e : HS h h') : RS h' A L :=
  ⟨fun hl => by
    obtain ⟨b, o, x, h1, h2, h3, h4⟩ := r.top hl
    exact ⟨b, o, x, h1, Nat.lt_of_lt_of_le h2 e.nx, e.bk b x h2 h3, h4⟩, fun i x hx => (r.el i x hx).mos e⟩
theorem RS.mono {h h' : Hp} {A : Option Addr} {L : List Ser} (r : RS h A L) (e : HE h h') : RS h' A L := r.mos e.hs

/-- The places of a series in a list. -/
def elp2 (A : Option Addr) (i d : Nat) : Value := .pointer (A.map fun a => ⟨a.block, a.off + i * 2 + d, none⟩)

theorem RS.at {h : Hp} {A : Option Addr} {L : List Ser} (r : RS h A L) (c : Nat) {e : Int} {i n : Nat} {x : Ser} (he : e = i) (hn : n = L.length) (hx : L[i]? = some x) :
    indexAddrV 2 (.slice A n c) (.int .i64 e) = some (elp2 A i 0) ∧ ldV 2 true h (elp2 A i 0) = some (sv x.m x.A x.xs.length x.c) ∧ fieldAddrV 0 (elp2 A i 0) = some (elp2 A i 0) ∧ fieldAddrV 1 (elp2 A i 0) = some (elp2 A i 1) ∧
      ldV 1 false h (elp2 A i 0) = some (i6 x.m) ∧ ldV 1 false h (elp2 A i 1) = some (.slice x.A x.xs.length x.c) ∧ inB h.nx (elp2 A i 0) ∧ inB h.nx (elp2 A i 1) := by
  have hi : i < L.length := (List.getElem?_eq_some_iff.1 hx).1
  obtain ⟨b, o, bl, rfl, h2, h3, h4⟩ := r.top (by omega)
  obtain ⟨h5, h6⟩ := h4 i x hx
  have l5 := (List.getElem?_eq_some_iff.1 h5).1
  have l6 := (List.getElem?_eq_some_iff.1 h6).1
  subst he; subst hn
  refine ⟨by simp [indexAddrV, idx_nat hi, elp2, addOff], ?_, by simp [elp2], by simp [elp2], ?_, ?_, h2, h2⟩
  · simp only [elp2, Option.map_some, ldV_ptr, h3, Option.bind_some, Nat.add_zero]
    rw [if_pos (by omega)]
    simp only [if_true, Option.some.injEq, Value.agg.injEq]
    have : (bl.cells.drop (o + i * 2)).take 2 = [i6 x.m, .slice x.A x.xs.length x.c] := by
      rw [List.drop_eq_getElem_cons l5, List.drop_eq_getElem_cons l6]
      rw [List.getElem?_eq_getElem l5] at h5; rw [List.getElem?_eq_getElem l6] at h6
      simp only [Option.some.injEq] at h5 h6
      simp [h5, h6]
    rw [this]
  · simp only [elp2, Option.map_some, ldV_ptr, h3, Option.bind_some, Nat.add_zero]
    rw [if_pos (by omega)]; simpa using h5
  · simp only [elp2, Option.map_some, ldV_ptr, h3, Option.bind_some]
    rw [if_pos (by omega)]; simpa using h6

/-- The series fit the law. -/
def FitC (m : Int) (N : Nat) (e : Ser) : Prop := IsC e.m e.xs ∧ e.m = m ∧ e.xs.length = N
open Classical in
noncomputable def codeL (m : Int) (T : List (List Int)) (L : List Ser) : Int :=
  if ¬ LawT m T then 1 else if ¬ (∀ (i : Nat) (e : Ser), L[i]? = some e → IsS e.m e.xs) then 1 else if ¬ (∀ (i : Nat) (e : Ser), L[i]? = some e → FitC m T.length e) then 2 else 0

/-- A series as an answer. -/
def SerR (h : Hp) (v : Value) (m : Int) (xs : List Int) : Prop := ∃ A c, v = sv m A xs.length c ∧ RI h A xs
theorem SerR.mono {h h' : Hp} {v : Value} {m : Int} {xs : List Int} (s : SerR h v m xs) (e : HE h h') : SerR h' v m xs := by
  obtain ⟨A, c, h1, h2⟩ := s; exact ⟨A, c, h1, h2.mono e⟩
theorem SerR.zero (h : Hp) : SerR h (.agg #[i6 0, .slice none 0 0]) 0 [] := ⟨none, 0, rfl, RI.nil _ _⟩

@[simp] theorem fill_none2 (a b : Value) : (fillX [a, b] []).map (fun cs => Value.agg cs.toArray) = some (.agg #[a, b]) := rfl

theorem LawT.tri {m : Int} {T : List (List Int)} (l : LawT m T) : Tri m (T.length - 1) T := by
  obtain ⟨⟨h1, h2, h3⟩, _⟩ := l
  exact ⟨by omega, fun i hi => ⟨by have := (h3 i hi).1; omega, (h3 i hi).2⟩⟩

open Classical in
noncomputable def mulOfR (m : Int) (T : List (List Int)) (n : Int) : (Int × List Int) × Int :=
  if ¬ LawT m T then ((0, []), 1) else if ¬ (-1000000 ≤ n ∧ n ≤ 1000000) then ((0, []), 2) else ((m, mulN m (T.length - 1) T n (varL (T.length - 1))), 0)

open Classical in
noncomputable def invR (m : Int) (T : List (List Int)) : (Int × List Int) × Int :=
  if ¬ LawT m T then ((0, []), 1) else ((m, invL m (T.length - 1) T), 0)

open Classical in
/-- The code of a law and its curves. -/
noncomputable def codeC (m : Int) (T : List (List Int)) (L : List (Int × List Int)) : Int :=
  if ¬ LawT m T then 1 else if ¬ (∀ e ∈ L, IsS e.1 e.2) then 1 else if ¬ (∀ e ∈ L, IsC e.1 e.2 ∧ e.1 = m ∧ e.2.length = T.length) then 2 else 0
theorem codeC_all {m : Int} {T : List (List Int)} {L : List (Int × List Int)} (h : codeC m T L = 0) : LawT m T ∧ ∀ e ∈ L, IsC e.1 e.2 ∧ e.1 = m ∧ e.2.length = T.length := by
  unfold codeC at h
  split at h
  · simp at h
  · split at h
    · simp at h
    · split at h
      · simp at h
      · rename_i h1 _ h3
        exact ⟨Classical.not_not.1 h1, Classical.not_not.1 h3⟩
theorem codeC_zero {m m' : Int} {T : List (List Int)} {xs : List Int} (h : codeC m T [(m', xs)] = 0) : LawT m T ∧ IsC m' xs ∧ m' = m ∧ xs.length = T.length := by
  obtain ⟨h1, h2⟩ := codeC_all h
  exact ⟨h1, h2 (m', xs) (by simp)⟩
theorem codeL_C {m : Int} {T : List (List Int)} {L : List Ser} : codeL m T L = codeC m T (L.map fun e => (e.m, e.xs)) := by
  unfold codeL codeC FitC
  have h1 : ∀ P : Int → List Int → Prop, (∀ (i : Nat) (e : Ser), L[i]? = some e → P e.m e.xs) ↔ ∀ e ∈ L.map fun e => (e.m, e.xs), P e.1 e.2 := fun P => by
    constructor
    · intro h e he
      obtain ⟨x, hx, rfl⟩ := List.mem_map.1 he
      obtain ⟨i, hi, rfl⟩ := List.getElem_of_mem hx
      exact h i _ (List.getElem?_eq_getElem hi)
    · intro h i e he
      exact h _ (List.mem_map.2 ⟨e, List.mem_of_getElem? he, rfl⟩)
  have h2 := h1 fun a b => IsS a b
  have h3 := h1 fun a b => IsC a b ∧ a = m ∧ b.length = T.length
  simp only [h2, h3]

/-- The multiple of a curve, as both programs answer. -/
noncomputable def mulUR (m : Int) (T : List (List Int)) (n m' : Int) (xs : List Int) : (Int × List Int) × Int :=
  if codeC m T [(m', xs)] ≠ 0 then ((0, []), codeC m T [(m', xs)]) else if ¬ (-1000000 ≤ n ∧ n ≤ 1000000) then ((0, []), 2) else ((m, mulN m (T.length - 1) T n xs), 0)

theorem rowV_ser (z0 z1 : Value) (m : Int) (A : Option Addr) (n c : Nat) : rowV 2 1 [z0, z1] [(0, sv m A n c)] = some [i6 m, .slice A n c] := by simp [rowV, rowFill, reps]
theorem rowV_ser2 (z0 z1 : Value) (m m' : Int) (A B : Option Addr) (n c n' c' : Nat) : rowV 2 2 [z0, z1] [(0, sv m A n c), (1, sv m' B n' c')] = some [i6 m, .slice A n c, i6 m', .slice B n' c'] := by simp [rowV, rowFill, reps]

theorem RS.one {h h' : Hp} {b : Nat} {m : Int} {A : Option Addr} {xs : List Int} {c : Nat} {y : TypeId} {w : Bool} (hb : b < h.nx) (hx : h.bk b = some ⟨[i6 m, .slice A xs.length c], y, w⟩) (hr : RI h A xs) : RS h (some ⟨b, 0, none⟩) [⟨m, A, c, xs⟩] :=
  ⟨fun _ => ⟨b, 0, _, rfl, hb, hx, fun i e he => by
    cases i with
    | zero => cases he; simp
    | succ i => simp at he⟩, fun i e he => by
    cases i with
    | zero => cases he; exact hr
    | succ i => simp at he⟩
theorem RS.two {h h' : Hp} {b : Nat} {m m' : Int} {A B : Option Addr} {xs ys : List Int} {c c' : Nat} {y : TypeId} {w : Bool} (hb : b < h.nx) (hx : h.bk b = some ⟨[i6 m, .slice A xs.length c, i6 m', .slice B ys.length c'], y, w⟩) (hr : RI h A xs) (hr2 : RI h B ys) :
    RS h (some ⟨b, 0, none⟩) [⟨m, A, c, xs⟩, ⟨m', B, c', ys⟩] :=
  ⟨fun _ => ⟨b, 0, _, rfl, hb, hx, fun i e he => by
    match i with
    | 0 => cases he; simp
    | 1 => cases he; simp
    | i + 2 => simp at he⟩, fun i e he => by
    match i with
    | 0 => cases he; exact hr
    | 1 => cases he; exact hr2
    | i + 2 => simp at he⟩

/-- The code of a law and its curves, by what they hold. -/
theorem codeL_one {m m' : Int} {T : List (List Int)} {A : Option Addr} {c : Nat} {xs : List Int} : codeL m T [⟨m', A, c, xs⟩] = codeC m T [(m', xs)] := codeL_C

end XM
