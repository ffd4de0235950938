/- What is proved at the end: for every input FnMultiples returns true and its argument reads as it did; without condition. Part 4 of 7. -/
import Derived.Test.YtannhbjgabcjgaaGreatXc

/- Functions of the translation in the code of the abstract machine. -/
namespace XM
open Go
def y_spec_l04DrawModulus : YC :=
  .seq (.region false [⟨some 2, .p (.move  (.c (.int .i64 0))), none, false⟩])
  (.seq (.region false [⟨some 3, .p (.move  (.t 0)), none, false⟩,
     ⟨some 4, .p (.move  (.t 0)), none, false⟩,
     ⟨some 5, .call (.c (.func (.func n_spec_l01Next) #[] #[])) [(.t 4), (.c (.int .i64 60))], none, false⟩,
     ⟨some 6, .p (.bin .add (.c (.int .i64 2)) (.t 5)), none, false⟩,
     ⟨some 7, .mkrow y_t_int64 1 12 [.int .i64 0] [(0, (.c (.int .i64 2))), (1, (.c (.int .i64 3))), (2, (.c (.int .i64 5))), (3, (.c (.int .i64 7))), (4, (.c (.int .i64 4))), (5, (.c (.int .i64 9))), (6, (.c (.int .i64 8))), (7, (.c (.int .i64 6))), (8, (.c (.int .i64 11))), (9, (.c (.int .i64 101))), (10, (.c (.int .i64 9973))), (11, (.t 6))], none, false⟩,
     ⟨some 8, .call (.c (.func (.func n_spec_l01Pick) #[] #[])) [(.t 3), (.t 7)], none, false⟩,
     ⟨some 2, .p (.move  (.t 8)), none, false⟩])
   (.ret))
theorem c_spec_l04DrawModulus : FF n_spec_l04DrawModulus = some ⟨9, y_spec_l04DrawModulus.er, [.tmp 2]⟩ := by kernel_rfl
def p_spec_l04DrawModulus (a0 : Value) (h : Hp) (R : Value → Hp → Prop) : Prop :=
  CallW FF n_spec_l01Next [a0, (.int .i64 60)] h fun v5 h1 => bindO (binV .add (.int .i64 2) v5) fun v6 => bindO (rowV 1 12 [.int .i64 0] [(0, (.int .i64 2)), (1, (.int .i64 3)), (2, (.int .i64 5)), (3, (.int .i64 7)), (4, (.int .i64 4)), (5, (.int .i64 9)), (6, (.int .i64 8)), (7, (.int .i64 6)), (8, (.int .i64 11)), (9, (.int .i64 101)), (10, (.int .i64 9973)), (11, v6)]) fun c7 => newB h1 ⟨c7, y_t_int64, true⟩ fun b7 h2 => CallW FF n_spec_l01Pick [a0, (.slice (some ⟨b7, 0, none⟩) 12 1)] h2 fun v8 h3 => R v8 h3
theorem w_spec_l04DrawModulus {a0 : Value} {h : Hp} {R : Value → Hp → Prop} (H : p_spec_l04DrawModulus a0 h R) : CallW FF n_spec_l04DrawModulus [a0] h R := callV_fin c_spec_l04DrawModulus (Eq.mp (by kernel_rfl) H)
def y_impl_IsModulus : YC :=
  .seq (.region false [⟨some 2, .p (.move  (.c (.bool false))), none, false⟩])
  (.seq (.region false [⟨some 3, .p (.move  (.t 0)), none, false⟩,
     ⟨some 4, .call (.c (.func (.func n_impl_in) #[] #[])) [(.t 3), (.c (.int .i64 2)), (.c (.int .i64 10000))], none, false⟩,
     ⟨some 2, .p (.move  (.t 4)), none, false⟩])
   (.ret))
theorem c_impl_IsModulus : FF n_impl_IsModulus = some ⟨5, y_impl_IsModulus.er, [.tmp 2]⟩ := by kernel_rfl
def p_impl_IsModulus (a0 : Value) (h : Hp) (R : Value → Hp → Prop) : Prop :=
  CallW FF n_impl_in [a0, (.int .i64 2), (.int .i64 10000)] h fun v4 h1 => R v4 h1
theorem w_impl_IsModulus {a0 : Value} {h : Hp} {R : Value → Hp → Prop} (H : p_impl_IsModulus a0 h R) : CallW FF n_impl_IsModulus [a0] h R := callV_fin c_impl_IsModulus (Eq.mp (by kernel_rfl) H)
def y_impl_all_int64 : YC :=
  .seq (.region false [⟨some 3, .box y_t_func_int64_bool 1 (.t 1), none, false⟩,
    ⟨some 4, .p (.move  (.c (.bool false))), none, false⟩])
  (.seq (.region false [⟨some 5, .p (.move  (.t 0)), none, false⟩,
     ⟨some 6, .p (.mkfunc n_impl_all_int64__c1 [] [(.t 3)]), none, false⟩,
     ⟨some 7, .call (.c (.func (.func n_slices_ContainsFunc_Lint64_int64) #[] #[])) [(.t 5), (.t 6)], none, false⟩,
     ⟨some 8, .p (.un .not (.t 7)), none, false⟩,
     ⟨some 4, .p (.move  (.t 8)), none, false⟩])
   (.ret))
theorem c_impl_all_int64 : FF n_impl_all_int64 = some ⟨9, y_impl_all_int64.er, [.tmp 4]⟩ := by kernel_rfl
def p_impl_all_int64 (a0 a1 : Value) (h : Hp) (R : Value → Hp → Prop) : Prop :=
  bindO (boxV 1 a1) fun c3 => newB h ⟨c3, y_t_func_int64_bool, true⟩ fun b3 h1 => CallW FF n_slices_ContainsFunc_Lint64_int64 [a0, (.func (.func n_impl_all_int64__c1) #[] #[(.pointer (some ⟨b3, 0, none⟩))])] h1 fun v7 h2 => bindO (unV .not v7) fun v8 => R v8 h2
theorem w_impl_all_int64 {a0 a1 : Value} {h : Hp} {R : Value → Hp → Prop} (H : p_impl_all_int64 a0 a1 h R) : CallW FF n_impl_all_int64 [a0, a1] h R := callV_fin c_impl_all_int64 (Eq.mp (by kernel_rfl) H)
def y_impl_IsPlane_c1 : YC :=
  .seq (.region false [⟨some 3, .p (.move  (.c (.bool false))), none, false⟩])
  (.seq (.region false [⟨some 4, .p (.move  (.t 0)), none, false⟩,
     ⟨some 5, .p (.fieldAddr 0 (.t 1)), none, false⟩,
     ⟨some 6, .load 1 false (.t 5), none, false⟩,
     ⟨some 7, .call (.c (.func (.func n_impl_isNumber) #[] #[])) [(.t 4), (.t 6)], none, false⟩,
     ⟨some 3, .p (.move  (.t 7)), none, false⟩])
   (.ret))
theorem c_impl_IsPlane_c1 : FF n_impl_IsPlane_c1 = some ⟨8, y_impl_IsPlane_c1.er, [.tmp 3]⟩ := by kernel_rfl
def p_impl_IsPlane_c1 (a0 a1 : Value) (h : Hp) (R : Value → Hp → Prop) : Prop :=
  bindO (fieldAddrV 0 a1) fun v5 => bindO (ldV 1 false h v5) fun v6 => CallW FF n_impl_isNumber [a0, v6] h fun v7 h1 => R v7 h1
theorem w_impl_IsPlane_c1 {a0 a1 : Value} {h : Hp} {R : Value → Hp → Prop} (H : p_impl_IsPlane_c1 a0 a1 h R) : CallW FF n_impl_IsPlane_c1 [a0, a1] h R := callV_fin c_impl_IsPlane_c1 (Eq.mp (by kernel_rfl) H)
def y_impl_isNumber : YC :=
  .seq (.region false [⟨some 4, .p (.move  (.c (.bool false))), none, false⟩])
  (.seq (.region false [⟨some 5, .p (.move  (.t 0)), none, false⟩,
     ⟨some 6, .p (.move  (.t 1)), none, false⟩,
     ⟨some 7, .p (.bin .sub (.t 6) (.c (.int .i64 1))), none, false⟩,
     ⟨some 8, .call (.c (.func (.func n_impl_in) #[] #[])) [(.t 5), (.c (.int .i64 0)), (.t 7)], none, false⟩,
     ⟨some 4, .p (.move  (.t 8)), none, false⟩])
   (.ret))
theorem c_impl_isNumber : FF n_impl_isNumber = some ⟨9, y_impl_isNumber.er, [.tmp 4]⟩ := by kernel_rfl
def p_impl_isNumber (a0 a1 : Value) (h : Hp) (R : Value → Hp → Prop) : Prop :=
  bindO (binV .sub a1 (.int .i64 1)) fun v7 => CallW FF n_impl_in [a0, (.int .i64 0), v7] h fun v8 h1 => R v8 h1
theorem w_impl_isNumber {a0 a1 : Value} {h : Hp} {R : Value → Hp → Prop} (H : p_impl_isNumber a0 a1 h R) : CallW FF n_impl_isNumber [a0, a1] h R := callV_fin c_impl_isNumber (Eq.mp (by kernel_rfl) H)
def y_impl_defectsOf : YC :=
  .seq (.region false [⟨some 1, .box y_t_impl_Plane 2 (.t 0), none, false⟩,
    ⟨some 2, .p (.move  (.c (.nilFunc))), none, false⟩])
  (.seq (.region true [⟨some 5, .load 2 true (.t 1), none, false⟩,
     ⟨some 6, .call (.c (.func (.func n_impl_Plane_powers) #[] #[])) [(.t 5)], none, true⟩,
     ⟨some 7, .load 2 true (.t 1), none, true⟩,
     ⟨some 8, .call (.c (.func (.func n_impl_Plane_degree) #[] #[])) [(.t 7)], none, false⟩,
     ⟨some 3, .box y_t_Limpl_Plane 1 (.c (.slice none 0 0)), none, false⟩,
     ⟨some 4, .box y_t_int 1 (.c (.int .i64 0)), none, false⟩,
     ⟨none, .store 1 (.t 3) (.t 6), none, false⟩,
     ⟨none, .store 1 (.t 4) (.t 8), none, false⟩])
   (.seq (.region false [⟨some 9, .p (.mkfunc n_impl_defectsOf_c1 [] [(.t 4), (.t 1), (.t 3)]), none, false⟩,
      ⟨some 2, .p (.move  (.t 9)), none, false⟩])
    (.ret)))
theorem c_impl_defectsOf : FF n_impl_defectsOf = some ⟨10, y_impl_defectsOf.er, [.tmp 2]⟩ := by kernel_rfl
def p_impl_defectsOf (a0 : Value) (h : Hp) (R : Value → Hp → Prop) : Prop :=
  bindO (boxV 2 a0) fun c1 => newB h ⟨c1, y_t_impl_Plane, true⟩ fun b1 h1 => bindO (ldV 2 true h1 (.pointer (some ⟨b1, 0, none⟩))) fun v5 => CallW FF n_impl_Plane_powers [v5] h1 fun v6 h2 => keepB h1.nx h1 h2 ∧ (inB h1.nx (.pointer (some ⟨b1, 0, none⟩)) ∧ (bindO (ldV 2 true h2 (.pointer (some ⟨b1, 0, none⟩))) fun v7 => CallW FF n_impl_Plane_degree [v7] h2 fun v8 h3 => bindO (boxV 1 (.slice none 0 0)) fun c3 => newB h3 ⟨c3, y_t_Limpl_Plane, true⟩ fun b3 h4 => bindO (boxV 1 (.int .i64 0)) fun c4 => newB h4 ⟨c4, y_t_int, true⟩ fun b4 h5 => bindO (storeV 1 h5 v6 (.pointer (some ⟨b3, 0, none⟩))) fun h6 => bindO (storeV 1 h6 v8 (.pointer (some ⟨b4, 0, none⟩))) fun h7 => R (.func (.func n_impl_defectsOf_c1) #[] #[(.pointer (some ⟨b4, 0, none⟩)), (.pointer (some ⟨b1, 0, none⟩)), (.pointer (some ⟨b3, 0, none⟩))]) h7))
theorem w_impl_defectsOf {a0 : Value} {h : Hp} {R : Value → Hp → Prop} (H : p_impl_defectsOf a0 h R) : CallW FF n_impl_defectsOf [a0] h R := callV_fin c_impl_defectsOf (Eq.mp (by kernel_rfl) H)
def y_spec_l01Modulus : YC :=
  .seq (.region false [⟨some 2, .p (.move  (.c (.bool false))), none, false⟩])
  (.seq (.region false [⟨some 3, .p (.move  (.t 0)), none, false⟩,
     ⟨some 4, .call (.c (.func (.func n_spec_l01In) #[] #[])) [(.t 3), (.c (.int .i64 2)), (.c (.int .i64 10000))], none, false⟩,
     ⟨some 2, .p (.move  (.t 4)), none, false⟩])
   (.ret))
theorem c_spec_l01Modulus : FF n_spec_l01Modulus = some ⟨5, y_spec_l01Modulus.er, [.tmp 2]⟩ := by kernel_rfl
def p_spec_l01Modulus (a0 : Value) (h : Hp) (R : Value → Hp → Prop) : Prop :=
  CallW FF n_spec_l01In [a0, (.int .i64 2), (.int .i64 10000)] h fun v4 h1 => R v4 h1
theorem w_spec_l01Modulus {a0 : Value} {h : Hp} {R : Value → Hp → Prop} (H : p_spec_l01Modulus a0 h R) : CallW FF n_spec_l01Modulus [a0] h R := callV_fin c_spec_l01Modulus (Eq.mp (by kernel_rfl) H)
def l_spec_l01Numbers_0 : YC :=
  .seq (.seq (.region false [⟨some 6, .p (.move  (.t 5)), none, false⟩,
     ⟨some 7, .p (.move  (.t 1)), none, false⟩,
     ⟨some 8, .p (.len  (.t 7)), none, false⟩,
     ⟨some 9, .p (.bin .lss (.t 6) (.t 8)), none, false⟩])
   (.cond (.t 9)
    (.skip)
    (.exit 0)))
  (.seq (.block 1
    (.seq (.region false [⟨some 12, .p (.move  (.t 1)), none, false⟩,
       ⟨some 13, .p (.move  (.t 5)), none, false⟩,
       ⟨some 14, .p (.indexAddr 1 (.t 12) (.t 13)), none, false⟩,
       ⟨some 15, .load 1 false (.t 14), none, false⟩,
       ⟨some 16, .p (.move  (.t 0)), none, false⟩,
       ⟨some 17, .p (.bin .sub (.t 16) (.c (.int .i64 1))), none, false⟩,
       ⟨some 18, .call (.c (.func (.func n_spec_l01In) #[] #[])) [(.t 15), (.c (.int .i64 0)), (.t 17)], none, false⟩,
       ⟨some 19, .p (.un .not (.t 18)), none, false⟩])
     (.cond (.t 19)
      (.seq (.region false [⟨some 4, .p (.move  (.c (.bool false))), none, false⟩])
       (.ret))
      (.skip))))
   (.region false [⟨some 10, .p (.move  (.t 5)), none, false⟩,
     ⟨some 11, .p (.bin .add (.t 10) (.c (.int .i64 1))), none, false⟩,
     ⟨some 5, .p (.move  (.t 11)), none, false⟩]))
def q_spec_l01Numbers_0 (a0 a1 a5 : Value) (h : Hp) (K K0 K1 : Kont) : Prop :=
  bindO (lenV  a1) fun v8 => bindO (binV .lss a5 v8) fun v9 => condM v9 (bindO (indexAddrV 1 a1 a5) fun v14 => bindO (ldV 1 false h v14) fun v15 => bindO (binV .sub a0 (.int .i64 1)) fun v17 => CallW FF n_spec_l01In [v15, (.int .i64 0), v17] h fun v18 h1 => bindO (unV .not v18) fun v19 => condM v19 (K1 [(.bool false)] h1) (bindO (binV .add a5 (.int .i64 1)) fun v11 => K [a0, a1, v11] h1)) (K0 [] h)
theorem wl_spec_l01Numbers_0 {a0 a1 a5 : Value} {h : Hp} {K K0 K1 : Kont} (H : q_spec_l01Numbers_0 a0 a1 a5 h K K0 K1) : ∀ e : Env, [e 0, e 1, e 5] = [a0, a1, a5] → V FF l_spec_l01Numbers_0 (qsel [0, 1, 5] K [(.exit 0, [], K0), (.ret, [4], K1)]) ⟨e, h⟩ := by
  intro e he; cases he; exact Eq.mp (by kernel_rfl) H
def y_spec_l01Numbers : YC :=
  .seq (.region false [⟨some 4, .p (.move  (.c (.bool false))), none, false⟩])
  (.seq (.seq (.region false [⟨some 5, .p (.move  (.c (.int .i64 0))), none, false⟩])
    (.block 0
     (.loop [0, 1, 5] [(.exit 0, []), (.ret, [4])] l_spec_l01Numbers_0)))
   (.seq (.region false [⟨some 4, .p (.move  (.c (.bool true))), none, false⟩])
    (.ret)))
theorem c_spec_l01Numbers : FF n_spec_l01Numbers = some ⟨20, y_spec_l01Numbers.er, [.tmp 4]⟩ := by kernel_rfl
def p_spec_l01Numbers (a0 a1 : Value) (h : Hp) (R : Value → Hp → Prop) : Prop :=
  LP FF (YC.er l_spec_l01Numbers_0) [0, 1, 5] [(.exit 0, [], fun vs h1 => ∀ e : Env, [] = vs → R (.bool true) h1), (.ret, [4], fun vs h1 => ∀ e : Env, [e 4] = vs → R (e 4) h1)] [a0, a1, (.int .i64 0)] h
theorem w_spec_l01Numbers {a0 a1 : Value} {h : Hp} {R : Value → Hp → Prop} (H : p_spec_l01Numbers a0 a1 h R) : CallW FF n_spec_l01Numbers [a0, a1] h R := callV_fin c_spec_l01Numbers (Eq.mp (by kernel_rfl) H)
def l_spec_l03After_0 : YC :=
  .seq (.seq (.region false [⟨some 17, .p (.move  (.t 8)), none, false⟩,
     ⟨some 18, .p (.bin .geq (.t 17) (.c (.int .i64 0))), none, false⟩])
   (.cond (.t 18)
    (.skip)
    (.exit 0)))
  (.seq (.block 1
    (.seq (.region false [⟨some 21, .p (.move  (.t 0)), none, false⟩,
       ⟨some 22, .p (.move  (.t 7)), none, false⟩,
       ⟨some 23, .p (.move  (.t 2)), none, false⟩,
       ⟨some 24, .call (.c (.func (.func n_spec_l03Times) #[] #[])) [(.t 21), (.t 22), (.t 23)], none, false⟩,
       ⟨some 7, .p (.move  (.t 24)), none, false⟩])
     (.seq (.region false [⟨some 25, .p (.move  (.t 7)), none, false⟩,
        ⟨some 26, .p (.indexAddr 1 (.t 25) (.c (.int .i64 0))), none, false⟩,
        ⟨some 27, .load 1 false (.t 26), none, false⟩,
        ⟨some 9, .p (.move  (.t 27)), none, false⟩])
      (.region false [⟨some 28, .p (.move  (.t 9)), none, false⟩,
        ⟨some 29, .p (.move  (.t 9)), none, false⟩,
        ⟨some 30, .p (.indexAddr 1 (.t 29) (.c (.int .i64 0))), none, false⟩,
        ⟨some 31, .load 1 false (.t 30), none, false⟩,
        ⟨some 32, .p (.move  (.t 1)), none, false⟩,
        ⟨some 33, .p (.move  (.t 8)), none, false⟩,
        ⟨some 34, .p (.indexAddr 1 (.t 32) (.t 33)), none, false⟩,
        ⟨some 35, .load 1 false (.t 34), none, false⟩,
        ⟨some 36, .p (.bin .add (.t 31) (.t 35)), none, false⟩,
        ⟨some 37, .p (.move  (.t 0)), none, false⟩,
        ⟨some 38, .p (.bin .rem (.t 36) (.t 37)), none, false⟩,
        ⟨some 39, .p (.indexAddr 1 (.t 28) (.c (.int .i64 0))), none, false⟩,
        ⟨none, .store 1 (.t 39) (.t 38), none, false⟩]))))
   (.region false [⟨some 19, .p (.move  (.t 8)), none, false⟩,
     ⟨some 20, .p (.bin .sub (.t 19) (.c (.int .i64 1))), none, false⟩,
     ⟨some 8, .p (.move  (.t 20)), none, false⟩]))
def q_spec_l03After_0 (a0 a1 a2 a7 a8 : Value) (h : Hp) (K K0 : Kont) : Prop :=
  bindO (binV .geq a8 (.int .i64 0)) fun v18 => condM v18 (CallW FF n_spec_l03Times [a0, a7, a2] h fun v24 h1 => bindO (indexAddrV 1 v24 (.int .i64 0)) fun v26 => bindO (ldV 1 false h1 v26) fun v27 => bindO (indexAddrV 1 v27 (.int .i64 0)) fun v30 => bindO (ldV 1 false h1 v30) fun v31 => bindO (indexAddrV 1 a1 a8) fun v34 => bindO (ldV 1 false h1 v34) fun v35 => bindO (binV .add v31 v35) fun v36 => bindO (binV .rem v36 a0) fun v38 => bindO (indexAddrV 1 v27 (.int .i64 0)) fun v39 => bindO (storeV 1 h1 v38 v39) fun h2 => bindO (binV .sub a8 (.int .i64 1)) fun v20 => K [a0, a1, a2, v24, v20] h2) (K0 [a7] h)
theorem wl_spec_l03After_0 {a0 a1 a2 a7 a8 : Value} {h : Hp} {K K0 : Kont} (H : q_spec_l03After_0 a0 a1 a2 a7 a8 h K K0) : ∀ e : Env, [e 0, e 1, e 2, e 7, e 8] = [a0, a1, a2, a7, a8] → V FF l_spec_l03After_0 (qsel [0, 1, 2, 7, 8] K [(.exit 0, [7], K0)]) ⟨e, h⟩ := by
  intro e he; cases he; exact Eq.mp (by kernel_rfl) H
def y_spec_l03After : YC :=
  .seq (.region false [⟨some 6, .p (.move  (.c (.slice none 0 0))), none, false⟩])
  (.seq (.region false [⟨some 10, .p (.move  (.t 2)), none, false⟩,
     ⟨some 11, .p (.len  (.t 10)), none, false⟩,
     ⟨some 12, .p (.bin .sub (.t 11) (.c (.int .i64 1))), none, false⟩,
     ⟨some 13, .call (.c (.func (.func n_spec_l03Zero) #[] #[])) [(.t 12)], none, false⟩,
     ⟨some 7, .p (.move  (.t 13)), none, false⟩])
   (.seq (.seq (.region false [⟨some 14, .p (.move  (.t 1)), none, false⟩,
       ⟨some 15, .p (.len  (.t 14)), none, false⟩,
       ⟨some 16, .p (.bin .sub (.t 15) (.c (.int .i64 1))), none, false⟩,
       ⟨some 8, .p (.move  (.t 16)), none, false⟩])
     (.block 0
      (.loop [0, 1, 2, 7, 8] [(.exit 0, [7])] l_spec_l03After_0)))
    (.seq (.region false [⟨some 40, .p (.move  (.t 7)), none, false⟩,
       ⟨some 6, .p (.move  (.t 40)), none, false⟩])
     (.ret))))
theorem c_spec_l03After : FF n_spec_l03After = some ⟨41, y_spec_l03After.er, [.tmp 6]⟩ := by kernel_rfl
def p_spec_l03After (a0 a1 a2 : Value) (h : Hp) (R : Value → Hp → Prop) : Prop :=
  bindO (lenV  a2) fun v11 => bindO (binV .sub v11 (.int .i64 1)) fun v12 => CallW FF n_spec_l03Zero [v12] h fun v13 h1 => bindO (lenV  a1) fun v15 => bindO (binV .sub v15 (.int .i64 1)) fun v16 => LP FF (YC.er l_spec_l03After_0) [0, 1, 2, 7, 8] [(.exit 0, [7], fun vs h2 => ∀ e : Env, [e 7] = vs → R (e 7) h2)] [a0, a1, a2, v13, v16] h1
theorem w_spec_l03After {a0 a1 a2 : Value} {h : Hp} {R : Value → Hp → Prop} (H : p_spec_l03After a0 a1 a2 h R) : CallW FF n_spec_l03After [a0, a1, a2] h R := callV_fin c_spec_l03After (Eq.mp (by kernel_rfl) H)
def l_spec_l04Column_0 : YC :=
  .seq (.seq (.region false [⟨some 8, .p (.move  (.t 6)), none, false⟩,
     ⟨some 9, .p (.move  (.t 1)), none, false⟩,
     ⟨some 10, .p (.bin .add (.t 8) (.t 9)), none, false⟩,
     ⟨some 11, .p (.move  (.t 0)), none, false⟩,
     ⟨some 12, .p (.len  (.t 11)), none, false⟩,
     ⟨some 13, .p (.bin .lss (.t 10) (.t 12)), none, false⟩])
   (.cond (.t 13)
    (.skip)
    (.exit 0)))
  (.seq (.block 1
    (.region false [⟨some 16, .p (.move  (.t 5)), none, false⟩,
      ⟨some 17, .p (.move  (.t 0)), none, false⟩,
      ⟨some 18, .p (.move  (.t 6)), none, false⟩,
      ⟨some 19, .p (.indexAddr 1 (.t 17) (.t 18)), none, false⟩,
      ⟨some 20, .load 1 false (.t 19), none, false⟩,
      ⟨some 21, .p (.move  (.t 1)), none, false⟩,
      ⟨some 22, .p (.indexAddr 1 (.t 20) (.t 21)), none, false⟩,
      ⟨some 23, .load 1 false (.t 22), none, false⟩,
      ⟨some 24, .mkrow y_t_int64 1 1 [.int .i64 0] [(0, (.t 23))], none, false⟩,
      ⟨some 25, .append y_t_int64 1 8 (.t 16) (.t 24), none, false⟩,
      ⟨some 5, .p (.move  (.t 25)), none, false⟩]))
   (.region false [⟨some 14, .p (.move  (.t 6)), none, false⟩,
     ⟨some 15, .p (.bin .add (.t 14) (.c (.int .i64 1))), none, false⟩,
     ⟨some 6, .p (.move  (.t 15)), none, false⟩]))
def q_spec_l04Column_0 (a0 a1 a5 a6 : Value) (h : Hp) (K K0 : Kont) : Prop :=
  bindO (binV .add a6 a1) fun v10 => bindO (lenV  a0) fun v12 => bindO (binV .lss v10 v12) fun v13 => condM v13 (bindO (indexAddrV 1 a0 a6) fun v19 => bindO (ldV 1 false h v19) fun v20 => bindO (indexAddrV 1 v20 a1) fun v22 => bindO (ldV 1 false h v22) fun v23 => bindO (rowV 1 1 [.int .i64 0] [(0, v23)]) fun c24 => newB h ⟨c24, y_t_int64, true⟩ fun b24 h1 => bindVH (appendV y_t_int64 1 h1 a5 (.slice (some ⟨b24, 0, none⟩) 1 1)) fun v25 h2 => bindO (binV .add a6 (.int .i64 1)) fun v15 => K [a0, a1, v25, v15] h2) (K0 [a5] h)
theorem wl_spec_l04Column_0 {a0 a1 a5 a6 : Value} {h : Hp} {K K0 : Kont} (H : q_spec_l04Column_0 a0 a1 a5 a6 h K K0) : ∀ e : Env, [e 0, e 1, e 5, e 6] = [a0, a1, a5, a6] → V FF l_spec_l04Column_0 (qsel [0, 1, 5, 6] K [(.exit 0, [5], K0)]) ⟨e, h⟩ := by
  intro e he; cases he; exact Eq.mp (by kernel_rfl) H
def y_spec_l04Column : YC :=
  .seq (.region false [⟨some 4, .p (.move  (.c (.slice none 0 0))), none, false⟩])
  (.seq (.region false [⟨some 7, .mkrow y_t_int64 1 0 [.int .i64 0] [], none, false⟩,
     ⟨some 5, .p (.move  (.t 7)), none, false⟩])
   (.seq (.seq (.region false [⟨some 6, .p (.move  (.c (.int .i64 0))), none, false⟩])
     (.block 0
      (.loop [0, 1, 5, 6] [(.exit 0, [5])] l_spec_l04Column_0)))
    (.seq (.region false [⟨some 26, .p (.move  (.t 5)), none, false⟩,
       ⟨some 4, .p (.move  (.t 26)), none, false⟩])
     (.ret))))
theorem c_spec_l04Column : FF n_spec_l04Column = some ⟨27, y_spec_l04Column.er, [.tmp 4]⟩ := by kernel_rfl
def p_spec_l04Column (a0 a1 : Value) (h : Hp) (R : Value → Hp → Prop) : Prop :=
  bindO (rowV 1 0 [.int .i64 0] []) fun c7 => newB h ⟨c7, y_t_int64, true⟩ fun b7 h1 => LP FF (YC.er l_spec_l04Column_0) [0, 1, 5, 6] [(.exit 0, [5], fun vs h2 => ∀ e : Env, [e 5] = vs → R (e 5) h2)] [a0, a1, (.slice (some ⟨b7, 0, none⟩) 0 1), (.int .i64 0)] h1
theorem w_spec_l04Column {a0 a1 : Value} {h : Hp} {R : Value → Hp → Prop} (H : p_spec_l04Column a0 a1 h R) : CallW FF n_spec_l04Column [a0, a1] h R := callV_fin c_spec_l04Column (Eq.mp (by kernel_rfl) H)
def y_slices_ContainsFunc_Limpl_Series_impl_Series : YC :=
  .seq (.region false [⟨some 4, .p (.move  (.c (.bool false))), none, false⟩])
  (.seq (.region false [⟨some 5, .p (.move  (.t 0)), none, false⟩,
     ⟨some 6, .p (.move  (.t 1)), none, false⟩,
     ⟨some 7, .call (.c (.func (.func n_slices_IndexFunc_Limpl_Series_impl_Series) #[] #[])) [(.t 5), (.t 6)], none, false⟩,
     ⟨some 8, .p (.bin .geq (.t 7) (.c (.int .i64 0))), none, false⟩,
     ⟨some 4, .p (.move  (.t 8)), none, false⟩])
   (.ret))
theorem c_slices_ContainsFunc_Limpl_Series_impl_Series : FF n_slices_ContainsFunc_Limpl_Series_impl_Series = some ⟨9, y_slices_ContainsFunc_Limpl_Series_impl_Series.er, [.tmp 4]⟩ := by kernel_rfl
def p_slices_ContainsFunc_Limpl_Series_impl_Series (a0 a1 : Value) (h : Hp) (R : Value → Hp → Prop) : Prop :=
  CallW FF n_slices_IndexFunc_Limpl_Series_impl_Series [a0, a1] h fun v7 h1 => bindO (binV .geq v7 (.int .i64 0)) fun v8 => R v8 h1
theorem w_slices_ContainsFunc_Limpl_Series_impl_Series {a0 a1 : Value} {h : Hp} {R : Value → Hp → Prop} (H : p_slices_ContainsFunc_Limpl_Series_impl_Series a0 a1 h R) : CallW FF n_slices_ContainsFunc_Limpl_Series_impl_Series [a0, a1] h R := callV_fin c_slices_ContainsFunc_Limpl_Series_impl_Series (Eq.mp (by kernel_rfl) H)
def y_impl_all_impl_Series__c1 : YC :=
  .seq (.region false [⟨some 2, .box y_t_impl_Series 2 (.t 0), none, false⟩,
    ⟨some 3, .p (.move  (.c (.bool false))), none, false⟩])
  (.seq (.region false [⟨some 4, .load 1 false (.t 1), none, false⟩,
     ⟨some 5, .load 2 true (.t 2), none, false⟩,
     ⟨some 6, .call (.t 4) [(.t 5)], none, false⟩,
     ⟨some 7, .p (.un .not (.t 6)), none, false⟩,
     ⟨some 3, .p (.move  (.t 7)), none, false⟩])
   (.ret))
theorem c_impl_all_impl_Series__c1 : FF n_impl_all_impl_Series__c1 = some ⟨8, y_impl_all_impl_Series__c1.er, [.tmp 3]⟩ := by kernel_rfl
def p_impl_all_impl_Series__c1 (a0 a1 : Value) (h : Hp) (R : Value → Hp → Prop) : Prop :=
  bindO (boxV 2 a0) fun c2 => newB h ⟨c2, y_t_impl_Series, true⟩ fun b2 h1 => bindO (ldV 1 false h1 a1) fun v4 => bindO (ldV 2 true h1 (.pointer (some ⟨b2, 0, none⟩))) fun v5 => CallV FF v4 [v5] h1 fun v6 h2 => bindO (unV .not v6) fun v7 => R v7 h2
theorem w_impl_all_impl_Series__c1 {a0 a1 : Value} {h : Hp} {R : Value → Hp → Prop} (H : p_impl_all_impl_Series__c1 a0 a1 h R) : CallW FF n_impl_all_impl_Series__c1 [a0, a1] h R := callV_fin c_impl_all_impl_Series__c1 (Eq.mp (by kernel_rfl) H)
def y_impl_Series_degree : YC :=
  .seq (.region false [⟨some 1, .box y_t_impl_Series 2 (.t 0), none, false⟩,
    ⟨some 2, .p (.move  (.c (.int .i64 0))), none, false⟩])
  (.seq (.region false [⟨some 3, .p (.fieldAddr 1 (.t 1)), none, false⟩,
     ⟨some 4, .load 1 false (.t 3), none, false⟩,
     ⟨some 5, .p (.len  (.t 4)), none, false⟩,
     ⟨some 6, .p (.bin .sub (.t 5) (.c (.int .i64 1))), none, false⟩,
     ⟨some 2, .p (.move  (.t 6)), none, false⟩])
   (.ret))
theorem c_impl_Series_degree : FF n_impl_Series_degree = some ⟨7, y_impl_Series_degree.er, [.tmp 2]⟩ := by kernel_rfl
def p_impl_Series_degree (a0 : Value) (h : Hp) (R : Value → Hp → Prop) : Prop :=
  bindO (boxV 2 a0) fun c1 => newB h ⟨c1, y_t_impl_Series, true⟩ fun b1 h1 => bindO (fieldAddrV 1 (.pointer (some ⟨b1, 0, none⟩))) fun v3 => bindO (ldV 1 false h1 v3) fun v4 => bindO (lenV  v4) fun v5 => bindO (binV .sub v5 (.int .i64 1)) fun v6 => R v6 h1
theorem w_impl_Series_degree {a0 : Value} {h : Hp} {R : Value → Hp → Prop} (H : p_impl_Series_degree a0 h R) : CallW FF n_impl_Series_degree [a0] h R := callV_fin c_impl_Series_degree (Eq.mp (by kernel_rfl) H)
def y_impl_IsSeries_c1 : YC :=
  .seq (.region false [⟨some 3, .p (.move  (.c (.bool false))), none, false⟩])
  (.seq (.region false [⟨some 4, .p (.move  (.t 0)), none, false⟩,
     ⟨some 5, .p (.fieldAddr 0 (.t 1)), none, false⟩,
     ⟨some 6, .load 1 false (.t 5), none, false⟩,
     ⟨some 7, .call (.c (.func (.func n_impl_isNumber) #[] #[])) [(.t 4), (.t 6)], none, false⟩,
     ⟨some 3, .p (.move  (.t 7)), none, false⟩])
   (.ret))
theorem c_impl_IsSeries_c1 : FF n_impl_IsSeries_c1 = some ⟨8, y_impl_IsSeries_c1.er, [.tmp 3]⟩ := by kernel_rfl
def p_impl_IsSeries_c1 (a0 a1 : Value) (h : Hp) (R : Value → Hp → Prop) : Prop :=
  bindO (fieldAddrV 0 a1) fun v5 => bindO (ldV 1 false h v5) fun v6 => CallW FF n_impl_isNumber [a0, v6] h fun v7 h1 => R v7 h1
theorem w_impl_IsSeries_c1 {a0 a1 : Value} {h : Hp} {R : Value → Hp → Prop} (H : p_impl_IsSeries_c1 a0 a1 h R) : CallW FF n_impl_IsSeries_c1 [a0, a1] h R := callV_fin c_impl_IsSeries_c1 (Eq.mp (by kernel_rfl) H)
def y_impl_Plane_fits : YC :=
  .seq (.region false [⟨some 2, .box y_t_impl_Plane 2 (.t 0), none, false⟩,
    ⟨some 3, .box y_t_impl_Series 2 (.t 1), none, false⟩,
    ⟨some 4, .p (.move  (.c (.bool false))), none, false⟩])
  (.seq (.region true [⟨some 5, .p (.fieldAddr 0 (.t 2)), none, false⟩,
     ⟨some 6, .load 1 false (.t 5), none, false⟩,
     ⟨some 7, .p (.fieldAddr 0 (.t 3)), none, false⟩,
     ⟨some 8, .load 1 false (.t 7), none, false⟩,
     ⟨some 9, .p (.bin .eql (.t 6) (.t 8)), none, false⟩,
     ⟨some 10, .p (.move  (.t 9)), none, false⟩,
     ⟨some 11, .load 2 true (.t 2), some (10, true), false⟩,
     ⟨some 12, .call (.c (.func (.func n_impl_Plane_degree) #[] #[])) [(.t 11)], some (10, true), true⟩,
     ⟨some 13, .load 2 true (.t 3), some (10, true), true⟩,
     ⟨some 14, .call (.c (.func (.func n_impl_Series_degree) #[] #[])) [(.t 13)], some (10, true), false⟩,
     ⟨some 15, .p (.bin .eql (.t 12) (.t 14)), some (10, true), false⟩,
     ⟨some 16, .p (.pick  (.t 10) (.t 15) (.c (.bool false))), none, false⟩,
     ⟨some 4, .p (.move  (.t 16)), none, false⟩])
   (.ret))
theorem c_impl_Plane_fits : FF n_impl_Plane_fits = some ⟨17, y_impl_Plane_fits.er, [.tmp 4]⟩ := by kernel_rfl
def p_impl_Plane_fits (a0 a1 : Value) (h : Hp) (R : Value → Hp → Prop) : Prop :=
  bindO (boxV 2 a0) fun c2 => newB h ⟨c2, y_t_impl_Plane, true⟩ fun b2 h1 => bindO (boxV 2 a1) fun c3 => newB h1 ⟨c3, y_t_impl_Series, true⟩ fun b3 h2 => bindO (fieldAddrV 0 (.pointer (some ⟨b2, 0, none⟩))) fun v5 => bindO (ldV 1 false h2 v5) fun v6 => bindO (fieldAddrV 0 (.pointer (some ⟨b3, 0, none⟩))) fun v7 => bindO (ldV 1 false h2 v7) fun v8 => bindO (binV .eql v6 v8) fun v9 => condM v9 (bindO (ldV 2 true h2 (.pointer (some ⟨b2, 0, none⟩))) fun v11 => CallW FF n_impl_Plane_degree [v11] h2 fun v12 h3 => keepB h2.nx h2 h3 ∧ (inB h2.nx (.pointer (some ⟨b3, 0, none⟩)) ∧ (bindO (ldV 2 true h3 (.pointer (some ⟨b3, 0, none⟩))) fun v13 => CallW FF n_impl_Series_degree [v13] h3 fun v14 h4 => bindO (binV .eql v12 v14) fun v15 => R v15 h4))) (R (.bool false) h2)
theorem w_impl_Plane_fits {a0 a1 : Value} {h : Hp} {R : Value → Hp → Prop} (H : p_impl_Plane_fits a0 a1 h R) : CallW FF n_impl_Plane_fits [a0, a1] h R := callV_fin c_impl_Plane_fits (Eq.mp (by kernel_rfl) H)
def l_spec_l02Compose_0 : YC :=
  .seq (.seq (.region false [⟨some 19, .p (.move  (.t 10)), none, false⟩,
     ⟨some 20, .p (.bin .geq (.t 19) (.c (.int .i64 0))), none, false⟩])
   (.cond (.t 20)
    (.skip)
    (.exit 0)))
  (.seq (.block 1
    (.seq (.region false [⟨some 23, .p (.move  (.t 0)), none, false⟩,
       ⟨some 24, .p (.move  (.t 9)), none, false⟩,
       ⟨some 25, .p (.move  (.t 2)), none, false⟩,
       ⟨some 26, .p (.move  (.t 3)), none, false⟩,
       ⟨some 27, .call (.c (.func (.func n_spec_l02Times) #[] #[])) [(.t 23), (.t 24), (.t 25), (.t 26)], none, false⟩,
       ⟨some 9, .p (.move  (.t 27)), none, false⟩])
     (.region false [⟨some 28, .p (.move  (.t 9)), none, false⟩,
       ⟨some 29, .p (.move  (.t 9)), none, false⟩,
       ⟨some 30, .p (.indexAddr 1 (.t 29) (.c (.int .i64 0))), none, false⟩,
       ⟨some 31, .load 1 false (.t 30), none, false⟩,
       ⟨some 32, .p (.move  (.t 1)), none, false⟩,
       ⟨some 33, .p (.move  (.t 10)), none, false⟩,
       ⟨some 34, .p (.indexAddr 1 (.t 32) (.t 33)), none, false⟩,
       ⟨some 35, .load 1 false (.t 34), none, false⟩,
       ⟨some 36, .p (.bin .add (.t 31) (.t 35)), none, false⟩,
       ⟨some 37, .p (.move  (.t 0)), none, false⟩,
       ⟨some 38, .p (.bin .rem (.t 36) (.t 37)), none, false⟩,
       ⟨some 39, .p (.indexAddr 1 (.t 28) (.c (.int .i64 0))), none, false⟩,
       ⟨none, .store 1 (.t 39) (.t 38), none, false⟩])))
   (.region false [⟨some 21, .p (.move  (.t 10)), none, false⟩,
     ⟨some 22, .p (.bin .sub (.t 21) (.c (.int .i64 1))), none, false⟩,
     ⟨some 10, .p (.move  (.t 22)), none, false⟩]))
def q_spec_l02Compose_0 (a0 a1 a2 a3 a9 a10 : Value) (h : Hp) (K K0 : Kont) : Prop :=
  bindO (binV .geq a10 (.int .i64 0)) fun v20 => condM v20 (CallW FF n_spec_l02Times [a0, a9, a2, a3] h fun v27 h1 => bindO (indexAddrV 1 v27 (.int .i64 0)) fun v30 => bindO (ldV 1 false h1 v30) fun v31 => bindO (indexAddrV 1 a1 a10) fun v34 => bindO (ldV 1 false h1 v34) fun v35 => bindO (binV .add v31 v35) fun v36 => bindO (binV .rem v36 a0) fun v38 => bindO (indexAddrV 1 v27 (.int .i64 0)) fun v39 => bindO (storeV 1 h1 v38 v39) fun h2 => bindO (binV .sub a10 (.int .i64 1)) fun v22 => K [a0, a1, a2, a3, v27, v22] h2) (K0 [a9] h)
theorem wl_spec_l02Compose_0 {a0 a1 a2 a3 a9 a10 : Value} {h : Hp} {K K0 : Kont} (H : q_spec_l02Compose_0 a0 a1 a2 a3 a9 a10 h K K0) : ∀ e : Env, [e 0, e 1, e 2, e 3, e 9, e 10] = [a0, a1, a2, a3, a9, a10] → V FF l_spec_l02Compose_0 (qsel [0, 1, 2, 3, 9, 10] K [(.exit 0, [9], K0)]) ⟨e, h⟩ := by
  intro e he; cases he; exact Eq.mp (by kernel_rfl) H
def y_spec_l02Compose : YC :=
  .seq (.region false [⟨some 8, .p (.move  (.c (.slice none 0 0))), none, false⟩])
  (.seq (.region false [⟨some 11, .p (.move  (.t 3)), none, false⟩,
     ⟨some 12, .p (.bin .add (.t 11) (.c (.int .i64 1))), none, false⟩,
     ⟨some 13, .make y_t_int64 1 8 [.int .i64 0] (.t 12), none, false⟩,
     ⟨some 9, .p (.move  (.t 13)), none, false⟩])
   (.seq (.seq (.region false [⟨some 14, .p (.move  (.t 1)), none, false⟩,
       ⟨some 15, .p (.len  (.t 14)), none, false⟩,
       ⟨some 16, .p (.bin .sub (.t 15) (.c (.int .i64 1))), none, false⟩,
       ⟨some 17, .p (.move  (.t 3)), none, false⟩,
       ⟨some 18, .p (.mn  (.t 16) (.t 17)), none, false⟩,
       ⟨some 10, .p (.move  (.t 18)), none, false⟩])
     (.block 0
      (.loop [0, 1, 2, 3, 9, 10] [(.exit 0, [9])] l_spec_l02Compose_0)))
    (.seq (.region false [⟨some 40, .p (.move  (.t 9)), none, false⟩,
       ⟨some 8, .p (.move  (.t 40)), none, false⟩])
     (.ret))))
theorem c_spec_l02Compose : FF n_spec_l02Compose = some ⟨41, y_spec_l02Compose.er, [.tmp 8]⟩ := by kernel_rfl
def p_spec_l02Compose (a0 a1 a2 a3 : Value) (h : Hp) (R : Value → Hp → Prop) : Prop :=
  bindO (binV .add a3 (.int .i64 1)) fun v12 => bindO (makN v12) fun c13 => newB h ⟨reps c13 [.int .i64 0], y_t_int64, true⟩ fun b13 h1 => bindO (lenV  a1) fun v15 => bindO (binV .sub v15 (.int .i64 1)) fun v16 => bindO (mnV  v16 a3) fun v18 => LP FF (YC.er l_spec_l02Compose_0) [0, 1, 2, 3, 9, 10] [(.exit 0, [9], fun vs h2 => ∀ e : Env, [e 9] = vs → R (e 9) h2)] [a0, a1, a2, a3, (.slice (some ⟨b13, 0, none⟩) c13 1), v18] h1
theorem w_spec_l02Compose {a0 a1 a2 a3 : Value} {h : Hp} {R : Value → Hp → Prop} (H : p_spec_l02Compose a0 a1 a2 a3 h R) : CallW FF n_spec_l02Compose [a0, a1, a2, a3] h R := callV_fin c_spec_l02Compose (Eq.mp (by kernel_rfl) H)
def l_spec_l03Powers_0 : YC :=
  .seq (.seq (.region false [⟨some 19, .p (.move  (.t 8)), none, false⟩,
     ⟨some 20, .p (.move  (.t 5)), none, false⟩,
     ⟨some 21, .p (.bin .lss (.t 19) (.t 20)), none, false⟩])
   (.cond (.t 21)
    (.skip)
    (.exit 0)))
  (.seq (.block 1
    (.region false [⟨some 24, .p (.move  (.t 7)), none, false⟩,
      ⟨some 25, .p (.move  (.t 0)), none, false⟩,
      ⟨some 26, .p (.move  (.t 7)), none, false⟩,
      ⟨some 27, .p (.move  (.t 8)), none, false⟩,
      ⟨some 28, .p (.indexAddr 1 (.t 26) (.t 27)), none, false⟩,
      ⟨some 29, .load 1 false (.t 28), none, false⟩,
      ⟨some 30, .p (.move  (.t 1)), none, false⟩,
      ⟨some 31, .p (.move  (.t 5)), none, false⟩,
      ⟨some 32, .call (.c (.func (.func n_spec_l02Times) #[] #[])) [(.t 25), (.t 29), (.t 30), (.t 31)], none, false⟩,
      ⟨some 33, .mkrow y_t_Lint64 1 1 [.slice none 0 0] [(0, (.t 32))], none, false⟩,
      ⟨some 34, .append y_t_Lint64 1 24 (.t 24) (.t 33), none, false⟩,
      ⟨some 7, .p (.move  (.t 34)), none, false⟩]))
   (.region false [⟨some 22, .p (.move  (.t 8)), none, false⟩,
     ⟨some 23, .p (.bin .add (.t 22) (.c (.int .i64 1))), none, false⟩,
     ⟨some 8, .p (.move  (.t 23)), none, false⟩]))
def q_spec_l03Powers_0 (a0 a1 a5 a7 a8 : Value) (h : Hp) (K K0 : Kont) : Prop :=
  bindO (binV .lss a8 a5) fun v21 => condM v21 (bindO (indexAddrV 1 a7 a8) fun v28 => bindO (ldV 1 false h v28) fun v29 => CallW FF n_spec_l02Times [a0, v29, a1, a5] h fun v32 h1 => bindO (rowV 1 1 [.slice none 0 0] [(0, v32)]) fun c33 => newB h1 ⟨c33, y_t_Lint64, true⟩ fun b33 h2 => bindVH (appendV y_t_Lint64 1 h2 a7 (.slice (some ⟨b33, 0, none⟩) 1 1)) fun v34 h3 => bindO (binV .add a8 (.int .i64 1)) fun v23 => K [a0, a1, a5, v34, v23] h3) (K0 [a7] h)
theorem wl_spec_l03Powers_0 {a0 a1 a5 a7 a8 : Value} {h : Hp} {K K0 : Kont} (H : q_spec_l03Powers_0 a0 a1 a5 a7 a8 h K K0) : ∀ e : Env, [e 0, e 1, e 5, e 7, e 8] = [a0, a1, a5, a7, a8] → V FF l_spec_l03Powers_0 (qsel [0, 1, 5, 7, 8] K [(.exit 0, [7], K0)]) ⟨e, h⟩ := by
  intro e he; cases he; exact Eq.mp (by kernel_rfl) H
def y_spec_l03Powers : YC :=
  .seq (.region false [⟨some 4, .p (.move  (.c (.slice none 0 0))), none, false⟩])
  (.seq (.region false [⟨some 9, .p (.move  (.t 1)), none, false⟩,
     ⟨some 10, .p (.len  (.t 9)), none, false⟩,
     ⟨some 11, .p (.bin .sub (.t 10) (.c (.int .i64 1))), none, false⟩,
     ⟨some 5, .p (.move  (.t 11)), none, false⟩])
   (.seq (.region false [⟨some 12, .p (.move  (.t 1)), none, false⟩,
      ⟨some 13, .p (.len  (.t 12)), none, false⟩,
      ⟨some 14, .make y_t_int64 1 8 [.int .i64 0] (.t 13), none, false⟩,
      ⟨some 6, .p (.move  (.t 14)), none, false⟩])
    (.seq (.region false [⟨some 15, .p (.move  (.t 6)), none, false⟩,
       ⟨some 16, .p (.indexAddr 1 (.t 15) (.c (.int .i64 0))), none, false⟩,
       ⟨none, .store 1 (.t 16) (.c (.int .i64 1)), none, false⟩])
     (.seq (.region false [⟨some 17, .p (.move  (.t 6)), none, false⟩,
        ⟨some 18, .mkrow y_t_Lint64 1 1 [.slice none 0 0] [(0, (.t 17))], none, false⟩,
        ⟨some 7, .p (.move  (.t 18)), none, false⟩])
      (.seq (.seq (.region false [⟨some 8, .p (.move  (.c (.int .i64 0))), none, false⟩])
        (.block 0
         (.loop [0, 1, 5, 7, 8] [(.exit 0, [7])] l_spec_l03Powers_0)))
       (.seq (.region false [⟨some 35, .p (.move  (.t 7)), none, false⟩,
          ⟨some 4, .p (.move  (.t 35)), none, false⟩])
        (.ret)))))))
theorem c_spec_l03Powers : FF n_spec_l03Powers = some ⟨36, y_spec_l03Powers.er, [.tmp 4]⟩ := by kernel_rfl
def p_spec_l03Powers (a0 a1 : Value) (h : Hp) (R : Value → Hp → Prop) : Prop :=
  bindO (lenV  a1) fun v10 => bindO (binV .sub v10 (.int .i64 1)) fun v11 => bindO (lenV  a1) fun v13 => bindO (makN v13) fun c14 => newB h ⟨reps c14 [.int .i64 0], y_t_int64, true⟩ fun b14 h1 => bindO (indexAddrV 1 (.slice (some ⟨b14, 0, none⟩) c14 1) (.int .i64 0)) fun v16 => bindO (storeV 1 h1 (.int .i64 1) v16) fun h2 => bindO (rowV 1 1 [.slice none 0 0] [(0, (.slice (some ⟨b14, 0, none⟩) c14 1))]) fun c18 => newB h2 ⟨c18, y_t_Lint64, true⟩ fun b18 h3 => LP FF (YC.er l_spec_l03Powers_0) [0, 1, 5, 7, 8] [(.exit 0, [7], fun vs h4 => ∀ e : Env, [e 7] = vs → R (e 7) h4)] [a0, a1, v11, (.slice (some ⟨b18, 0, none⟩) 1 1), (.int .i64 0)] h3
theorem w_spec_l03Powers {a0 a1 : Value} {h : Hp} {R : Value → Hp → Prop} (H : p_spec_l03Powers a0 a1 h R) : CallW FF n_spec_l03Powers [a0, a1] h R := callV_fin c_spec_l03Powers (Eq.mp (by kernel_rfl) H)
def l_spec_l02Add_0 : YC :=
  .seq (.seq (.region false [⟨some 10, .p (.move  (.t 8)), none, false⟩,
     ⟨some 11, .p (.move  (.t 1)), none, false⟩,
     ⟨some 12, .p (.len  (.t 11)), none, false⟩,
     ⟨some 13, .p (.bin .lss (.t 10) (.t 12)), none, false⟩])
   (.cond (.t 13)
    (.skip)
    (.exit 0)))
  (.seq (.block 1
    (.region false [⟨some 16, .p (.move  (.t 7)), none, false⟩,
      ⟨some 17, .p (.move  (.t 1)), none, false⟩,
      ⟨some 18, .p (.move  (.t 8)), none, false⟩,
      ⟨some 19, .p (.indexAddr 1 (.t 17) (.t 18)), none, false⟩,
      ⟨some 20, .load 1 false (.t 19), none, false⟩,
      ⟨some 21, .p (.move  (.t 2)), none, false⟩,
      ⟨some 22, .p (.move  (.t 8)), none, false⟩,
      ⟨some 23, .p (.indexAddr 1 (.t 21) (.t 22)), none, false⟩,
      ⟨some 24, .load 1 false (.t 23), none, false⟩,
      ⟨some 25, .p (.bin .add (.t 20) (.t 24)), none, false⟩,
      ⟨some 26, .p (.move  (.t 0)), none, false⟩,
      ⟨some 27, .p (.bin .rem (.t 25) (.t 26)), none, false⟩,
      ⟨some 28, .mkrow y_t_int64 1 1 [.int .i64 0] [(0, (.t 27))], none, false⟩,
      ⟨some 29, .append y_t_int64 1 8 (.t 16) (.t 28), none, false⟩,
      ⟨some 7, .p (.move  (.t 29)), none, false⟩]))
   (.region false [⟨some 14, .p (.move  (.t 8)), none, false⟩,
     ⟨some 15, .p (.bin .add (.t 14) (.c (.int .i64 1))), none, false⟩,
     ⟨some 8, .p (.move  (.t 15)), none, false⟩]))
def q_spec_l02Add_0 (a0 a1 a2 a7 a8 : Value) (h : Hp) (K K0 : Kont) : Prop :=
  bindO (lenV  a1) fun v12 => bindO (binV .lss a8 v12) fun v13 => condM v13 (bindO (indexAddrV 1 a1 a8) fun v19 => bindO (ldV 1 false h v19) fun v20 => bindO (indexAddrV 1 a2 a8) fun v23 => bindO (ldV 1 false h v23) fun v24 => bindO (binV .add v20 v24) fun v25 => bindO (binV .rem v25 a0) fun v27 => bindO (rowV 1 1 [.int .i64 0] [(0, v27)]) fun c28 => newB h ⟨c28, y_t_int64, true⟩ fun b28 h1 => bindVH (appendV y_t_int64 1 h1 a7 (.slice (some ⟨b28, 0, none⟩) 1 1)) fun v29 h2 => bindO (binV .add a8 (.int .i64 1)) fun v15 => K [a0, a1, a2, v29, v15] h2) (K0 [a7] h)
theorem wl_spec_l02Add_0 {a0 a1 a2 a7 a8 : Value} {h : Hp} {K K0 : Kont} (H : q_spec_l02Add_0 a0 a1 a2 a7 a8 h K K0) : ∀ e : Env, [e 0, e 1, e 2, e 7, e 8] = [a0, a1, a2, a7, a8] → V FF l_spec_l02Add_0 (qsel [0, 1, 2, 7, 8] K [(.exit 0, [7], K0)]) ⟨e, h⟩ := by
  intro e he; cases he; exact Eq.mp (by kernel_rfl) H
def y_spec_l02Add : YC :=
  .seq (.region false [⟨some 6, .p (.move  (.c (.slice none 0 0))), none, false⟩])
  (.seq (.region false [⟨some 9, .mkrow y_t_int64 1 0 [.int .i64 0] [], none, false⟩,
     ⟨some 7, .p (.move  (.t 9)), none, false⟩])
   (.seq (.seq (.region false [⟨some 8, .p (.move  (.c (.int .i64 0))), none, false⟩])
     (.block 0
      (.loop [0, 1, 2, 7, 8] [(.exit 0, [7])] l_spec_l02Add_0)))
    (.seq (.region false [⟨some 30, .p (.move  (.t 7)), none, false⟩,
       ⟨some 6, .p (.move  (.t 30)), none, false⟩])
     (.ret))))
theorem c_spec_l02Add : FF n_spec_l02Add = some ⟨31, y_spec_l02Add.er, [.tmp 6]⟩ := by kernel_rfl
def p_spec_l02Add (a0 a1 a2 : Value) (h : Hp) (R : Value → Hp → Prop) : Prop :=
  bindO (rowV 1 0 [.int .i64 0] []) fun c9 => newB h ⟨c9, y_t_int64, true⟩ fun b9 h1 => LP FF (YC.er l_spec_l02Add_0) [0, 1, 2, 7, 8] [(.exit 0, [7], fun vs h2 => ∀ e : Env, [e 7] = vs → R (e 7) h2)] [a0, a1, a2, (.slice (some ⟨b9, 0, none⟩) 0 1), (.int .i64 0)] h1
theorem w_spec_l02Add {a0 a1 a2 : Value} {h : Hp} {R : Value → Hp → Prop} (H : p_spec_l02Add a0 a1 a2 h R) : CallW FF n_spec_l02Add [a0, a1, a2] h R := callV_fin c_spec_l02Add (Eq.mp (by kernel_rfl) H)
def l_spec_l02Scale_0 : YC :=
  .seq (.seq (.region false [⟨some 10, .p (.move  (.t 8)), none, false⟩,
     ⟨some 11, .p (.move  (.t 2)), none, false⟩,
     ⟨some 12, .p (.len  (.t 11)), none, false⟩,
     ⟨some 13, .p (.bin .lss (.t 10) (.t 12)), none, false⟩])
   (.cond (.t 13)
    (.skip)
    (.exit 0)))
  (.seq (.block 1
    (.region false [⟨some 16, .p (.move  (.t 7)), none, false⟩,
      ⟨some 17, .p (.move  (.t 1)), none, false⟩,
      ⟨some 18, .p (.move  (.t 2)), none, false⟩,
      ⟨some 19, .p (.move  (.t 8)), none, false⟩,
      ⟨some 20, .p (.indexAddr 1 (.t 18) (.t 19)), none, false⟩,
      ⟨some 21, .load 1 false (.t 20), none, false⟩,
      ⟨some 22, .p (.bin .mul (.t 17) (.t 21)), none, false⟩,
      ⟨some 23, .p (.move  (.t 0)), none, false⟩,
      ⟨some 24, .p (.bin .rem (.t 22) (.t 23)), none, false⟩,
      ⟨some 25, .mkrow y_t_int64 1 1 [.int .i64 0] [(0, (.t 24))], none, false⟩,
      ⟨some 26, .append y_t_int64 1 8 (.t 16) (.t 25), none, false⟩,
      ⟨some 7, .p (.move  (.t 26)), none, false⟩]))
   (.region false [⟨some 14, .p (.move  (.t 8)), none, false⟩,
     ⟨some 15, .p (.bin .add (.t 14) (.c (.int .i64 1))), none, false⟩,
     ⟨some 8, .p (.move  (.t 15)), none, false⟩]))
def q_spec_l02Scale_0 (a0 a1 a2 a7 a8 : Value) (h : Hp) (K K0 : Kont) : Prop :=
  bindO (lenV  a2) fun v12 => bindO (binV .lss a8 v12) fun v13 => condM v13 (bindO (indexAddrV 1 a2 a8) fun v20 => bindO (ldV 1 false h v20) fun v21 => bindO (binV .mul a1 v21) fun v22 => bindO (binV .rem v22 a0) fun v24 => bindO (rowV 1 1 [.int .i64 0] [(0, v24)]) fun c25 => newB h ⟨c25, y_t_int64, true⟩ fun b25 h1 => bindVH (appendV y_t_int64 1 h1 a7 (.slice (some ⟨b25, 0, none⟩) 1 1)) fun v26 h2 => bindO (binV .add a8 (.int .i64 1)) fun v15 => K [a0, a1, a2, v26, v15] h2) (K0 [a7] h)
theorem wl_spec_l02Scale_0 {a0 a1 a2 a7 a8 : Value} {h : Hp} {K K0 : Kont} (H : q_spec_l02Scale_0 a0 a1 a2 a7 a8 h K K0) : ∀ e : Env, [e 0, e 1, e 2, e 7, e 8] = [a0, a1, a2, a7, a8] → V FF l_spec_l02Scale_0 (qsel [0, 1, 2, 7, 8] K [(.exit 0, [7], K0)]) ⟨e, h⟩ := by
  intro e he; cases he; exact Eq.mp (by kernel_rfl) H
def y_spec_l02Scale : YC :=
  .seq (.region false [⟨some 6, .p (.move  (.c (.slice none 0 0))), none, false⟩])
  (.seq (.region false [⟨some 9, .mkrow y_t_int64 1 0 [.int .i64 0] [], none, false⟩,
     ⟨some 7, .p (.move  (.t 9)), none, false⟩])
   (.seq (.seq (.region false [⟨some 8, .p (.move  (.c (.int .i64 0))), none, false⟩])
     (.block 0
      (.loop [0, 1, 2, 7, 8] [(.exit 0, [7])] l_spec_l02Scale_0)))
    (.seq (.region false [⟨some 27, .p (.move  (.t 7)), none, false⟩,
       ⟨some 6, .p (.move  (.t 27)), none, false⟩])
     (.ret))))
theorem c_spec_l02Scale : FF n_spec_l02Scale = some ⟨28, y_spec_l02Scale.er, [.tmp 6]⟩ := by kernel_rfl
def p_spec_l02Scale (a0 a1 a2 : Value) (h : Hp) (R : Value → Hp → Prop) : Prop :=
  bindO (rowV 1 0 [.int .i64 0] []) fun c9 => newB h ⟨c9, y_t_int64, true⟩ fun b9 h1 => LP FF (YC.er l_spec_l02Scale_0) [0, 1, 2, 7, 8] [(.exit 0, [7], fun vs h2 => ∀ e : Env, [e 7] = vs → R (e 7) h2)] [a0, a1, a2, (.slice (some ⟨b9, 0, none⟩) 0 1), (.int .i64 0)] h1
theorem w_spec_l02Scale {a0 a1 a2 : Value} {h : Hp} {R : Value → Hp → Prop} (H : p_spec_l02Scale a0 a1 a2 h R) : CallW FF n_spec_l02Scale [a0, a1, a2] h R := callV_fin c_spec_l02Scale (Eq.mp (by kernel_rfl) H)
def l_spec_l02Times_0 : YC :=
  .seq (.seq (.region false [⟨some 26, .p (.move  (.t 11)), none, false⟩,
     ⟨some 27, .p (.move  (.t 2)), none, false⟩,
     ⟨some 28, .p (.len  (.t 27)), none, false⟩,
     ⟨some 29, .p (.bin .lss (.t 26) (.t 28)), none, false⟩,
     ⟨some 30, .p (.move  (.t 29)), none, false⟩,
     ⟨some 31, .p (.move  (.t 10)), some (30, true), false⟩,
     ⟨some 32, .p (.move  (.t 11)), some (30, true), false⟩,
     ⟨some 33, .p (.bin .add (.t 31) (.t 32)), some (30, true), false⟩,
     ⟨some 34, .p (.move  (.t 3)), some (30, true), false⟩,
     ⟨some 35, .p (.bin .leq (.t 33) (.t 34)), some (30, true), false⟩,
     ⟨some 36, .p (.pick  (.t 30) (.t 35) (.c (.bool false))), none, false⟩,
     ⟨some 37, .p (.move  (.t 36)), none, false⟩,
     ⟨some 38, .p (.move  (.t 1)), some (37, true), false⟩,
     ⟨some 39, .p (.move  (.t 10)), some (37, true), false⟩,
     ⟨some 40, .p (.indexAddr 1 (.t 38) (.t 39)), some (37, true), false⟩,
     ⟨some 41, .load 1 false (.t 40), some (37, true), false⟩,
     ⟨some 42, .p (.bin .neq (.t 41) (.c (.int .i64 0))), some (37, true), false⟩,
     ⟨some 43, .p (.pick  (.t 37) (.t 42) (.c (.bool false))), none, false⟩])
   (.cond (.t 43)
    (.skip)
    (.exit 2)))
  (.seq (.block 3
    (.region false [⟨some 46, .p (.move  (.t 9)), none, false⟩,
      ⟨some 47, .p (.move  (.t 10)), none, false⟩,
      ⟨some 48, .p (.move  (.t 11)), none, false⟩,
      ⟨some 49, .p (.bin .add (.t 47) (.t 48)), none, false⟩,
      ⟨some 50, .p (.move  (.t 9)), none, false⟩,
      ⟨some 51, .p (.move  (.t 10)), none, false⟩,
      ⟨some 52, .p (.move  (.t 11)), none, false⟩,
      ⟨some 53, .p (.bin .add (.t 51) (.t 52)), none, false⟩,
      ⟨some 54, .p (.indexAddr 1 (.t 50) (.t 53)), none, false⟩,
      ⟨some 55, .load 1 false (.t 54), none, false⟩,
      ⟨some 56, .p (.move  (.t 1)), none, false⟩,
      ⟨some 57, .p (.move  (.t 10)), none, false⟩,
      ⟨some 58, .p (.indexAddr 1 (.t 56) (.t 57)), none, false⟩,
      ⟨some 59, .load 1 false (.t 58), none, false⟩,
      ⟨some 60, .p (.move  (.t 2)), none, false⟩,
      ⟨some 61, .p (.move  (.t 11)), none, false⟩,
      ⟨some 62, .p (.indexAddr 1 (.t 60) (.t 61)), none, false⟩,
      ⟨some 63, .load 1 false (.t 62), none, false⟩,
      ⟨some 64, .p (.bin .mul (.t 59) (.t 63)), none, false⟩,
      ⟨some 65, .p (.bin .add (.t 55) (.t 64)), none, false⟩,
      ⟨some 66, .p (.move  (.t 0)), none, false⟩,
      ⟨some 67, .p (.bin .rem (.t 65) (.t 66)), none, false⟩,
      ⟨some 68, .p (.indexAddr 1 (.t 46) (.t 49)), none, false⟩,
      ⟨none, .store 1 (.t 68) (.t 67), none, false⟩]))
   (.region false [⟨some 44, .p (.move  (.t 11)), none, false⟩,
     ⟨some 45, .p (.bin .add (.t 44) (.c (.int .i64 1))), none, false⟩,
     ⟨some 11, .p (.move  (.t 45)), none, false⟩]))
def q_spec_l02Times_0 (a0 a1 a2 a3 a9 a10 a11 : Value) (h : Hp) (K K0 : Kont) : Prop :=
  bindO (lenV  a2) fun v28 => bindO (binV .lss a11 v28) fun v29 => condM v29 (bindO (binV .add a10 a11) fun v33 => bindO (binV .leq v33 a3) fun v35 => condM v35 (bindO (indexAddrV 1 a1 a10) fun v40 => bindO (ldV 1 false h v40) fun v41 => bindO (binV .neq v41 (.int .i64 0)) fun v42 => condM v42 (bindO (binV .add a10 a11) fun v49 => bindO (binV .add a10 a11) fun v53 => bindO (indexAddrV 1 a9 v53) fun v54 => bindO (ldV 1 false h v54) fun v55 => bindO (indexAddrV 1 a1 a10) fun v58 => bindO (ldV 1 false h v58) fun v59 => bindO (indexAddrV 1 a2 a11) fun v62 => bindO (ldV 1 false h v62) fun v63 => bindO (binV .mul v59 v63) fun v64 => bindO (binV .add v55 v64) fun v65 => bindO (binV .rem v65 a0) fun v67 => bindO (indexAddrV 1 a9 v49) fun v68 => bindO (storeV 1 h v67 v68) fun h1 => bindO (binV .add a11 (.int .i64 1)) fun v45 => K [a0, a1, a2, a3, a9, a10, v45] h1) (K0 [a0, a1, a2, a3, a9, a10] h)) (K0 [a0, a1, a2, a3, a9, a10] h)) (K0 [a0, a1, a2, a3, a9, a10] h)
theorem wl_spec_l02Times_0 {a0 a1 a2 a3 a9 a10 a11 : Value} {h : Hp} {K K0 : Kont} (H : q_spec_l02Times_0 a0 a1 a2 a3 a9 a10 a11 h K K0) : ∀ e : Env, [e 0, e 1, e 2, e 3, e 9, e 10, e 11] = [a0, a1, a2, a3, a9, a10, a11] → V FF l_spec_l02Times_0 (qsel [0, 1, 2, 3, 9, 10, 11] K [(.exit 2, [0, 1, 2, 3, 9, 10], K0)]) ⟨e, h⟩ := by
  intro e he; cases he; exact Eq.mp (by kernel_rfl) H
def l_spec_l02Times_1 : YC :=
  .seq (.seq (.region false [⟨some 15, .p (.move  (.t 10)), none, false⟩,
     ⟨some 16, .p (.move  (.t 1)), none, false⟩,
     ⟨some 17, .p (.len  (.t 16)), none, false⟩,
     ⟨some 18, .p (.bin .lss (.t 15) (.t 17)), none, false⟩,
     ⟨some 19, .p (.move  (.t 18)), none, false⟩,
     ⟨some 20, .p (.move  (.t 10)), some (19, true), false⟩,
     ⟨some 21, .p (.move  (.t 3)), some (19, true), false⟩,
     ⟨some 22, .p (.bin .leq (.t 20) (.t 21)), some (19, true), false⟩,
     ⟨some 23, .p (.pick  (.t 19) (.t 22) (.c (.bool false))), none, false⟩])
   (.cond (.t 23)
    (.skip)
    (.exit 0)))
  (.seq (.block 1
    (.seq (.region false [⟨some 11, .p (.move  (.c (.int .i64 0))), none, false⟩])
     (.block 2
      (.loop [0, 1, 2, 3, 9, 10, 11] [(.exit 2, [0, 1, 2, 3, 9, 10])] l_spec_l02Times_0))))
   (.region false [⟨some 24, .p (.move  (.t 10)), none, false⟩,
     ⟨some 25, .p (.bin .add (.t 24) (.c (.int .i64 1))), none, false⟩,
     ⟨some 10, .p (.move  (.t 25)), none, false⟩]))
def q_spec_l02Times_1 (a0 a1 a2 a3 a9 a10 : Value) (h : Hp) (K K0 : Kont) : Prop :=
  bindO (lenV  a1) fun v17 => bindO (binV .lss a10 v17) fun v18 => condM v18 (bindO (binV .leq a10 a3) fun v22 => condM v22 (LP FF (YC.er l_spec_l02Times_0) [0, 1, 2, 3, 9, 10, 11] [(.exit 2, [0, 1, 2, 3, 9, 10], fun vs h1 => ∀ e : Env, [e 0, e 1, e 2, e 3, e 9, e 10] = vs → bindO (binV .add (e 10) (.int .i64 1)) fun v25 => K [(e 0), (e 1), (e 2), (e 3), (e 9), v25] h1)] [a0, a1, a2, a3, a9, a10, (.int .i64 0)] h) (K0 [a9] h)) (K0 [a9] h)
theorem wl_spec_l02Times_1 {a0 a1 a2 a3 a9 a10 : Value} {h : Hp} {K K0 : Kont} (H : q_spec_l02Times_1 a0 a1 a2 a3 a9 a10 h K K0) : ∀ e : Env, [e 0, e 1, e 2, e 3, e 9, e 10] = [a0, a1, a2, a3, a9, a10] → V FF l_spec_l02Times_1 (qsel [0, 1, 2, 3, 9, 10] K [(.exit 0, [9], K0)]) ⟨e, h⟩ := by
  intro e he; cases he; exact Eq.mp (by kernel_rfl) H
def y_spec_l02Times : YC :=
  .seq (.region false [⟨some 8, .p (.move  (.c (.slice none 0 0))), none, false⟩])
  (.seq (.region false [⟨some 12, .p (.move  (.t 3)), none, false⟩,
     ⟨some 13, .p (.bin .add (.t 12) (.c (.int .i64 1))), none, false⟩,
     ⟨some 14, .make y_t_int64 1 8 [.int .i64 0] (.t 13), none, false⟩,
     ⟨some 9, .p (.move  (.t 14)), none, false⟩])
   (.seq (.seq (.region false [⟨some 10, .p (.move  (.c (.int .i64 0))), none, false⟩])
     (.block 0
      (.loop [0, 1, 2, 3, 9, 10] [(.exit 0, [9])] l_spec_l02Times_1)))
    (.seq (.region false [⟨some 69, .p (.move  (.t 9)), none, false⟩,
       ⟨some 8, .p (.move  (.t 69)), none, false⟩])
     (.ret))))
theorem c_spec_l02Times : FF n_spec_l02Times = some ⟨70, y_spec_l02Times.er, [.tmp 8]⟩ := by kernel_rfl
def p_spec_l02Times (a0 a1 a2 a3 : Value) (h : Hp) (R : Value → Hp → Prop) : Prop :=
  bindO (binV .add a3 (.int .i64 1)) fun v13 => bindO (makN v13) fun c14 => newB h ⟨reps c14 [.int .i64 0], y_t_int64, true⟩ fun b14 h1 => LP FF (YC.er l_spec_l02Times_1) [0, 1, 2, 3, 9, 10] [(.exit 0, [9], fun vs h2 => ∀ e : Env, [e 9] = vs → R (e 9) h2)] [a0, a1, a2, a3, (.slice (some ⟨b14, 0, none⟩) c14 1), (.int .i64 0)] h1
theorem w_spec_l02Times {a0 a1 a2 a3 : Value} {h : Hp} {R : Value → Hp → Prop} (H : p_spec_l02Times a0 a1 a2 a3 h R) : CallW FF n_spec_l02Times [a0, a1, a2, a3] h R := callV_fin c_spec_l02Times (Eq.mp (by kernel_rfl) H)
def y_impl_mul : YC :=
  .seq (.region false [⟨some 6, .p (.move  (.c (.int .i64 0))), none, false⟩])
  (.seq (.seq (.region false [⟨some 11, .p (.move  (.t 0)), none, false⟩,
      ⟨some 12, .p (.bin .leq (.t 11) (.c (.int .i64 3000000000))), none, false⟩])
    (.cond (.t 12)
     (.seq (.region false [⟨some 13, .p (.move  (.t 1)), none, false⟩,
        ⟨some 14, .p (.move  (.t 2)), none, false⟩,
        ⟨some 15, .p (.bin .mul (.t 13) (.t 14)), none, false⟩,
        ⟨some 16, .p (.move  (.t 0)), none, false⟩,
        ⟨some 17, .p (.bin .rem (.t 15) (.t 16)), none, false⟩,
        ⟨some 6, .p (.move  (.t 17)), none, false⟩])
      (.ret))
     (.skip)))
   (.seq (.region false [⟨some 19, .p (.move  (.t 1)), none, false⟩,
      ⟨some 20, .p (.conv .u64 (.t 19)), none, false⟩,
      ⟨some 21, .p (.move  (.t 2)), none, false⟩,
      ⟨some 22, .p (.conv .u64 (.t 21)), none, false⟩,
      ⟨some 23, .call (.c (.func (.func n_math_bits_Mul64) #[] #[])) [(.t 20), (.t 22)], none, false⟩,
      ⟨some 18, .p (.move  (.t 23)), none, false⟩,
      ⟨some 24, .p (.extract (.t 18) 0), none, false⟩,
      ⟨some 25, .p (.extract (.t 18) 1), none, false⟩,
      ⟨some 7, .p (.move  (.t 24)), none, false⟩,
      ⟨some 8, .p (.move  (.t 25)), none, false⟩])
    (.seq (.region false [⟨some 27, .p (.move  (.t 7)), none, false⟩,
       ⟨some 28, .p (.move  (.t 8)), none, false⟩,
       ⟨some 29, .p (.move  (.t 0)), none, false⟩,
       ⟨some 30, .p (.conv .u64 (.t 29)), none, false⟩,
       ⟨some 31, .call (.c (.func (.func n_math_bits_Div64) #[] #[])) [(.t 27), (.t 28), (.t 30)], none, false⟩,
       ⟨some 26, .p (.move  (.t 31)), none, false⟩,
       ⟨some 32, .p (.extract (.t 26) 0), none, false⟩,
       ⟨some 33, .p (.extract (.t 26) 1), none, false⟩,
       ⟨some 9, .p (.move  (.t 32)), none, false⟩,
       ⟨some 10, .p (.move  (.t 33)), none, false⟩])
     (.seq (.region false [⟨some 34, .p (.move  (.t 10)), none, false⟩,
        ⟨some 35, .p (.conv .i64 (.t 34)), none, false⟩,
        ⟨some 6, .p (.move  (.t 35)), none, false⟩])
      (.ret)))))
theorem c_impl_mul : FF n_impl_mul = some ⟨36, y_impl_mul.er, [.tmp 6]⟩ := by kernel_rfl
def p_impl_mul (a0 a1 a2 : Value) (h : Hp) (R : Value → Hp → Prop) : Prop :=
  bindO (binV .leq a0 (.int .i64 3000000000)) fun v12 => condM v12 (bindO (binV .mul a1 a2) fun v15 => bindO (binV .rem v15 a0) fun v17 => R v17 h) (bindO (convV .u64 a1) fun v20 => bindO (convV .u64 a2) fun v22 => CallW FF n_math_bits_Mul64 [v20, v22] h fun v23 h1 => bindO (extractV 0 v23) fun v24 => bindO (extractV 1 v23) fun v25 => bindO (convV .u64 a0) fun v30 => CallW FF n_math_bits_Div64 [v24, v25, v30] h1 fun v31 h2 => bindO (extractV 0 v31) fun v32 => bindO (extractV 1 v31) fun v33 => bindO (convV .i64 v33) fun v35 => R v35 h2)
theorem w_impl_mul {a0 a1 a2 : Value} {h : Hp} {R : Value → Hp → Prop} (H : p_impl_mul a0 a1 a2 h R) : CallW FF n_impl_mul [a0, a1, a2] h R := callV_fin c_impl_mul (Eq.mp (by kernel_rfl) H)
def y_spec_l08Any : YC :=
  .seq (.region false [⟨some 6, .p (.move  (.c (.slice none 0 0))), none, false⟩])
  (.seq (.seq (.region false [⟨some 7, .p (.move  (.t 0)), none, false⟩,
      ⟨some 8, .call (.c (.func (.func n_spec_l01Next) #[] #[])) [(.t 7), (.c (.int .i64 6))], none, false⟩])
    (.block 0
     (.seq (.region false [⟨some 10, .p (.bin .eql (.t 8) (.c (.int .i64 0))), none, false⟩,
        ⟨some 9, .p (.move  (.t 10)), none, false⟩])
      (.cond (.t 9)
       (.seq (.region false [⟨some 11, .p (.move  (.t 1)), none, false⟩,
          ⟨some 12, .p (.move  (.t 2)), none, false⟩,
          ⟨some 13, .call (.c (.func (.func n_spec_l08Multiplicative) #[] #[])) [(.t 11), (.t 12), (.c (.int .i64 0))], none, false⟩,
          ⟨some 6, .p (.move  (.t 13)), none, false⟩])
        (.ret))
       (.join [0, 1, 2, 8, 14] (.seq (.region false [⟨some 15, .p (.bin .eql (.t 8) (.c (.int .i64 1))), none, false⟩,
           ⟨some 14, .p (.move  (.t 15)), none, false⟩])
         (.cond (.t 14)
          (.skip)
          (.region false [⟨some 16, .p (.bin .eql (.t 8) (.c (.int .i64 2))), none, false⟩,
            ⟨some 14, .p (.move  (.t 16)), none, false⟩])))
        (.cond (.t 14)
         (.seq (.region false [⟨some 17, .p (.move  (.t 1)), none, false⟩,
            ⟨some 18, .p (.move  (.t 2)), none, false⟩,
            ⟨some 19, .p (.move  (.t 0)), none, false⟩,
            ⟨some 20, .p (.move  (.t 1)), none, false⟩,
            ⟨some 21, .call (.c (.func (.func n_spec_l01Next) #[] #[])) [(.t 19), (.t 20)], none, false⟩,
            ⟨some 22, .call (.c (.func (.func n_spec_l08Multiplicative) #[] #[])) [(.t 17), (.t 18), (.t 21)], none, false⟩,
            ⟨some 6, .p (.move  (.t 22)), none, false⟩])
          (.ret))
         (.seq (.region false [⟨some 24, .p (.bin .eql (.t 8) (.c (.int .i64 3))), none, false⟩,
            ⟨some 23, .p (.move  (.t 24)), none, false⟩])
          (.cond (.t 23)
           (.seq (.region false [⟨some 25, .p (.move  (.t 1)), none, false⟩,
              ⟨some 26, .p (.move  (.t 2)), none, false⟩,
              ⟨some 27, .p (.move  (.t 0)), none, false⟩,
              ⟨some 28, .p (.move  (.t 1)), none, false⟩,
              ⟨some 29, .call (.c (.func (.func n_spec_l01Next) #[] #[])) [(.t 27), (.t 28)], none, false⟩,
              ⟨some 30, .call (.c (.func (.func n_spec_l08Tangent) #[] #[])) [(.t 25), (.t 26), (.t 29)], none, false⟩,
              ⟨some 6, .p (.move  (.t 30)), none, false⟩])
            (.ret))
           (.seq (.region false [⟨some 32, .p (.bin .eql (.t 8) (.c (.int .i64 4))), none, false⟩,
              ⟨some 31, .p (.move  (.t 32)), none, false⟩])
            (.cond (.t 31)
             (.seq (.region false [⟨some 33, .p (.move  (.t 1)), none, false⟩,
                ⟨some 34, .p (.bin .rem (.t 33) (.c (.int .i64 2))), none, false⟩,
                ⟨some 35, .p (.bin .eql (.t 34) (.c (.int .i64 1))), none, false⟩])
              (.cond (.t 35)
               (.seq (.region false [⟨some 36, .p (.move  (.t 1)), none, false⟩,
                  ⟨some 37, .p (.move  (.t 2)), none, false⟩,
                  ⟨some 38, .p (.move  (.t 0)), none, false⟩,
                  ⟨some 39, .p (.move  (.t 1)), none, false⟩,
                  ⟨some 40, .call (.c (.func (.func n_spec_l01Next) #[] #[])) [(.t 38), (.t 39)], none, false⟩,
                  ⟨some 41, .p (.move  (.t 0)), none, false⟩,
                  ⟨some 42, .p (.move  (.t 1)), none, false⟩,
                  ⟨some 43, .call (.c (.func (.func n_spec_l01Next) #[] #[])) [(.t 41), (.t 42)], none, false⟩,
                  ⟨some 44, .call (.c (.func (.func n_spec_l08Euler) #[] #[])) [(.t 36), (.t 37), (.t 40), (.t 43)], none, false⟩,
                  ⟨some 6, .p (.move  (.t 44)), none, false⟩])
                (.ret))
               (.skip)))
             (.skip)))))))))))
   (.seq (.region false [⟨some 45, .p (.move  (.t 1)), none, false⟩,
      ⟨some 46, .p (.move  (.t 2)), none, false⟩,
      ⟨some 47, .p (.move  (.t 0)), none, false⟩,
      ⟨some 48, .p (.move  (.t 1)), none, false⟩,
      ⟨some 49, .call (.c (.func (.func n_spec_l08DrawList) #[] #[])) [(.t 47), (.t 48)], none, false⟩,
      ⟨some 50, .call (.c (.func (.func n_spec_l08Weierstrass) #[] #[])) [(.t 45), (.t 46), (.t 49)], none, false⟩,
      ⟨some 6, .p (.move  (.t 50)), none, false⟩])
    (.ret)))
theorem c_spec_l08Any : FF n_spec_l08Any = some ⟨51, y_spec_l08Any.er, [.tmp 6]⟩ := by kernel_rfl
def p_spec_l08Any (a0 a1 a2 : Value) (h : Hp) (R : Value → Hp → Prop) : Prop :=
  CallW FF n_spec_l01Next [a0, (.int .i64 6)] h fun v8 h1 => bindO (binV .eql v8 (.int .i64 0)) fun v10 => condM v10 (CallW FF n_spec_l08Multiplicative [a1, a2, (.int .i64 0)] h1 fun v13 h2 => R v13 h2) (JN (fun J => bindO (binV .eql v8 (.int .i64 1)) fun v15 => condM v15 (J [a0, a1, a2, v8, v15] h1) (bindO (binV .eql v8 (.int .i64 2)) fun v16 => J [a0, a1, a2, v8, v16] h1)) fun vs h2 => ∀ e : Env, [e 0, e 1, e 2, e 8, e 14] = vs → condM (e 14) (CallW FF n_spec_l01Next [(e 0), (e 1)] h2 fun v21 h3 => CallW FF n_spec_l08Multiplicative [(e 1), (e 2), v21] h3 fun v22 h4 => R v22 h4) (bindO (binV .eql (e 8) (.int .i64 3)) fun v24 => condM v24 (CallW FF n_spec_l01Next [(e 0), (e 1)] h2 fun v29 h3 => CallW FF n_spec_l08Tangent [(e 1), (e 2), v29] h3 fun v30 h4 => R v30 h4) (bindO (binV .eql (e 8) (.int .i64 4)) fun v32 => condM v32 (bindO (binV .rem (e 1) (.int .i64 2)) fun v34 => bindO (binV .eql v34 (.int .i64 1)) fun v35 => condM v35 (CallW FF n_spec_l01Next [(e 0), (e 1)] h2 fun v40 h3 => CallW FF n_spec_l01Next [(e 0), (e 1)] h3 fun v43 h4 => CallW FF n_spec_l08Euler [(e 1), (e 2), v40, v43] h4 fun v44 h5 => R v44 h5) (CallW FF n_spec_l08DrawList [(e 0), (e 1)] h2 fun v49 h3 => CallW FF n_spec_l08Weierstrass [(e 1), (e 2), v49] h3 fun v50 h4 => R v50 h4)) (CallW FF n_spec_l08DrawList [(e 0), (e 1)] h2 fun v49 h3 => CallW FF n_spec_l08Weierstrass [(e 1), (e 2), v49] h3 fun v50 h4 => R v50 h4))))
theorem w_spec_l08Any {a0 a1 a2 : Value} {h : Hp} {R : Value → Hp → Prop} (H : p_spec_l08Any a0 a1 a2 h R) : CallW FF n_spec_l08Any [a0, a1, a2] h R := callV_fin c_spec_l08Any (Eq.mp (by kernel_rfl) H)
def y_spec_l06Conjugate : YC :=
  .seq (.region false [⟨some 6, .p (.move  (.c (.slice none 0 0))), none, false⟩])
  (.seq (.region false [⟨some 8, .p (.move  (.t 0)), none, false⟩,
     ⟨some 9, .p (.move  (.t 2)), none, false⟩,
     ⟨some 10, .p (.move  (.t 2)), none, false⟩,
     ⟨some 11, .p (.len  (.t 10)), none, false⟩,
     ⟨some 12, .p (.bin .sub (.t 11) (.c (.int .i64 1))), none, false⟩,
     ⟨some 13, .call (.c (.func (.func n_spec_l02Reverse) #[] #[])) [(.t 8), (.t 9), (.t 12)], none, false⟩,
     ⟨some 7, .p (.move  (.t 13)), none, false⟩])
   (.seq (.region false [⟨some 14, .p (.move  (.t 0)), none, false⟩,
      ⟨some 15, .p (.move  (.t 2)), none, false⟩,
      ⟨some 16, .p (.move  (.t 0)), none, false⟩,
      ⟨some 17, .p (.move  (.t 1)), none, false⟩,
      ⟨some 18, .p (.move  (.t 7)), none, false⟩,
      ⟨some 19, .call (.c (.func (.func n_spec_l03Both2) #[] #[])) [(.t 16), (.t 17), (.t 18)], none, false⟩,
      ⟨some 20, .call (.c (.func (.func n_spec_l03After) #[] #[])) [(.t 14), (.t 15), (.t 19)], none, false⟩,
      ⟨some 6, .p (.move  (.t 20)), none, false⟩])
    (.ret)))
theorem c_spec_l06Conjugate : FF n_spec_l06Conjugate = some ⟨21, y_spec_l06Conjugate.er, [.tmp 6]⟩ := by kernel_rfl
def p_spec_l06Conjugate (a0 a1 a2 : Value) (h : Hp) (R : Value → Hp → Prop) : Prop :=
  bindO (lenV  a2) fun v11 => bindO (binV .sub v11 (.int .i64 1)) fun v12 => CallW FF n_spec_l02Reverse [a0, a2, v12] h fun v13 h1 => CallW FF n_spec_l03Both2 [a0, a1, v13] h1 fun v19 h2 => CallW FF n_spec_l03After [a0, a2, v19] h2 fun v20 h3 => R v20 h3
theorem w_spec_l06Conjugate {a0 a1 a2 : Value} {h : Hp} {R : Value → Hp → Prop} (H : p_spec_l06Conjugate a0 a1 a2 h R) : CallW FF n_spec_l06Conjugate [a0, a1, a2] h R := callV_fin c_spec_l06Conjugate (Eq.mp (by kernel_rfl) H)
def l_spec_l04DrawCurve_0 : YC :=
  .seq (.seq (.region false [⟨some 10, .p (.move  (.t 8)), none, false⟩,
     ⟨some 11, .p (.move  (.t 2)), none, false⟩,
     ⟨some 12, .p (.bin .leq (.t 10) (.t 11)), none, false⟩])
   (.cond (.t 12)
    (.skip)
    (.exit 0)))
  (.seq (.block 1
    (.region false [⟨some 15, .p (.move  (.t 7)), none, false⟩,
      ⟨some 16, .p (.move  (.t 0)), none, false⟩,
      ⟨some 17, .p (.move  (.t 0)), none, false⟩,
      ⟨some 18, .p (.move  (.t 1)), none, false⟩,
      ⟨some 19, .call (.c (.func (.func n_spec_l01Next) #[] #[])) [(.t 17), (.t 18)], none, false⟩,
      ⟨some 20, .p (.move  (.t 0)), none, false⟩,
      ⟨some 21, .p (.move  (.t 1)), none, false⟩,
      ⟨some 22, .call (.c (.func (.func n_spec_l01Next) #[] #[])) [(.t 20), (.t 21)], none, false⟩,
      ⟨some 23, .mkrow y_t_int64 1 4 [.int .i64 0] [(0, (.c (.int .i64 0))), (1, (.c (.int .i64 0))), (2, (.t 19)), (3, (.t 22))], none, false⟩,
      ⟨some 24, .call (.c (.func (.func n_spec_l01Pick) #[] #[])) [(.t 16), (.t 23)], none, false⟩,
      ⟨some 25, .mkrow y_t_int64 1 1 [.int .i64 0] [(0, (.t 24))], none, false⟩,
      ⟨some 26, .append y_t_int64 1 8 (.t 15) (.t 25), none, false⟩,
      ⟨some 7, .p (.move  (.t 26)), none, false⟩]))
   (.region false [⟨some 13, .p (.move  (.t 8)), none, false⟩,
     ⟨some 14, .p (.bin .add (.t 13) (.c (.int .i64 1))), none, false⟩,
     ⟨some 8, .p (.move  (.t 14)), none, false⟩]))
def q_spec_l04DrawCurve_0 (a0 a1 a2 a7 a8 : Value) (h : Hp) (K K0 : Kont) : Prop :=
  bindO (binV .leq a8 a2) fun v12 => condM v12 (CallW FF n_spec_l01Next [a0, a1] h fun v19 h1 => CallW FF n_spec_l01Next [a0, a1] h1 fun v22 h2 => bindO (rowV 1 4 [.int .i64 0] [(0, (.int .i64 0)), (1, (.int .i64 0)), (2, v19), (3, v22)]) fun c23 => newB h2 ⟨c23, y_t_int64, true⟩ fun b23 h3 => CallW FF n_spec_l01Pick [a0, (.slice (some ⟨b23, 0, none⟩) 4 1)] h3 fun v24 h4 => bindO (rowV 1 1 [.int .i64 0] [(0, v24)]) fun c25 => newB h4 ⟨c25, y_t_int64, true⟩ fun b25 h5 => bindVH (appendV y_t_int64 1 h5 a7 (.slice (some ⟨b25, 0, none⟩) 1 1)) fun v26 h6 => bindO (binV .add a8 (.int .i64 1)) fun v14 => K [a0, a1, a2, v26, v14] h6) (K0 [a7] h)
theorem wl_spec_l04DrawCurve_0 {a0 a1 a2 a7 a8 : Value} {h : Hp} {K K0 : Kont} (H : q_spec_l04DrawCurve_0 a0 a1 a2 a7 a8 h K K0) : ∀ e : Env, [e 0, e 1, e 2, e 7, e 8] = [a0, a1, a2, a7, a8] → V FF l_spec_l04DrawCurve_0 (qsel [0, 1, 2, 7, 8] K [(.exit 0, [7], K0)]) ⟨e, h⟩ := by
  intro e he; cases he; exact Eq.mp (by kernel_rfl) H
def y_spec_l04DrawCurve : YC :=
  .seq (.region false [⟨some 6, .p (.move  (.c (.slice none 0 0))), none, false⟩])
  (.seq (.region false [⟨some 9, .mkrow y_t_int64 1 2 [.int .i64 0] [(0, (.c (.int .i64 0))), (1, (.c (.int .i64 1)))], none, false⟩,
     ⟨some 7, .p (.move  (.t 9)), none, false⟩])
   (.seq (.seq (.region false [⟨some 8, .p (.move  (.c (.int .i64 2))), none, false⟩])
     (.block 0
      (.loop [0, 1, 2, 7, 8] [(.exit 0, [7])] l_spec_l04DrawCurve_0)))
    (.seq (.region false [⟨some 27, .p (.move  (.t 7)), none, false⟩,
       ⟨some 6, .p (.move  (.t 27)), none, false⟩])
     (.ret))))
theorem c_spec_l04DrawCurve : FF n_spec_l04DrawCurve = some ⟨28, y_spec_l04DrawCurve.er, [.tmp 6]⟩ := by kernel_rfl
def p_spec_l04DrawCurve (a0 a1 a2 : Value) (h : Hp) (R : Value → Hp → Prop) : Prop :=
  bindO (rowV 1 2 [.int .i64 0] [(0, (.int .i64 0)), (1, (.int .i64 1))]) fun c9 => newB h ⟨c9, y_t_int64, true⟩ fun b9 h1 => LP FF (YC.er l_spec_l04DrawCurve_0) [0, 1, 2, 7, 8] [(.exit 0, [7], fun vs h2 => ∀ e : Env, [e 7] = vs → R (e 7) h2)] [a0, a1, a2, (.slice (some ⟨b9, 0, none⟩) 2 1), (.int .i64 2)] h1
theorem w_spec_l04DrawCurve {a0 a1 a2 : Value} {h : Hp} {R : Value → Hp → Prop} (H : p_spec_l04DrawCurve a0 a1 a2 h R) : CallW FF n_spec_l04DrawCurve [a0, a1, a2] h R := callV_fin c_spec_l04DrawCurve (Eq.mp (by kernel_rfl) H)
def y_spec_l03Make : YC :=
  .seq (.region false [⟨some 4, .box y_t_impl_Plane 2 (.c (.agg #[.int .i64 0, .slice none 0 0])), none, false⟩])
  (.seq (.region false [⟨some 5, .p (.move  (.t 0)), none, false⟩,
     ⟨some 6, .p (.move  (.t 1)), none, false⟩,
     ⟨some 7, .p (.build [.int .i64 0, .slice none 0 0] [(0, 1, (.t 5)), (1, 1, (.t 6))]), none, false⟩,
     ⟨none, .store 2 (.t 4) (.t 7), none, false⟩])
   (.ret))
theorem c_spec_l03Make : FF n_spec_l03Make = some ⟨8, y_spec_l03Make.er, [.cell 4 2 true]⟩ := by kernel_rfl
def p_spec_l03Make (a0 a1 : Value) (h : Hp) (R : Value → Hp → Prop) : Prop :=
  bindO (boxV 2 (.agg #[.int .i64 0, .slice none 0 0])) fun c4 => newB h ⟨c4, y_t_impl_Plane, true⟩ fun b4 h1 => bindO ((fillX [.int .i64 0, .slice none 0 0] [(0, 1, a0), (1, 1, a1)]).map fun cs => Value.agg cs.toArray) fun v7 => bindO (storeV 2 h1 v7 (.pointer (some ⟨b4, 0, none⟩))) fun h2 => bindO (ldV 2 true h2 (.pointer (some ⟨b4, 0, none⟩))) fun r4 => R r4 h2
theorem w_spec_l03Make {a0 a1 : Value} {h : Hp} {R : Value → Hp → Prop} (H : p_spec_l03Make a0 a1 h R) : CallW FF n_spec_l03Make [a0, a1] h R := callV_fin c_spec_l03Make (Eq.mp (by kernel_rfl) H)
def y_slices_ContainsFunc_Lint64_int64 : YC :=
  .seq (.region false [⟨some 4, .p (.move  (.c (.bool false))), none, false⟩])
  (.seq (.region false [⟨some 5, .p (.move  (.t 0)), none, false⟩,
     ⟨some 6, .p (.move  (.t 1)), none, false⟩,
     ⟨some 7, .call (.c (.func (.func n_slices_IndexFunc_Lint64_int64) #[] #[])) [(.t 5), (.t 6)], none, false⟩,
     ⟨some 8, .p (.bin .geq (.t 7) (.c (.int .i64 0))), none, false⟩,
     ⟨some 4, .p (.move  (.t 8)), none, false⟩])
   (.ret))
theorem c_slices_ContainsFunc_Lint64_int64 : FF n_slices_ContainsFunc_Lint64_int64 = some ⟨9, y_slices_ContainsFunc_Lint64_int64.er, [.tmp 4]⟩ := by kernel_rfl
def p_slices_ContainsFunc_Lint64_int64 (a0 a1 : Value) (h : Hp) (R : Value → Hp → Prop) : Prop :=
  CallW FF n_slices_IndexFunc_Lint64_int64 [a0, a1] h fun v7 h1 => bindO (binV .geq v7 (.int .i64 0)) fun v8 => R v8 h1
theorem w_slices_ContainsFunc_Lint64_int64 {a0 a1 : Value} {h : Hp} {R : Value → Hp → Prop} (H : p_slices_ContainsFunc_Lint64_int64 a0 a1 h R) : CallW FF n_slices_ContainsFunc_Lint64_int64 [a0, a1] h R := callV_fin c_slices_ContainsFunc_Lint64_int64 (Eq.mp (by kernel_rfl) H)
def y_impl_all_int64__c1 : YC :=
  .seq (.region false [⟨some 3, .p (.move  (.c (.bool false))), none, false⟩])
  (.seq (.region false [⟨some 4, .load 1 false (.t 1), none, false⟩,
     ⟨some 5, .p (.move  (.t 0)), none, false⟩,
     ⟨some 6, .call (.t 4) [(.t 5)], none, false⟩,
     ⟨some 7, .p (.un .not (.t 6)), none, false⟩,
     ⟨some 3, .p (.move  (.t 7)), none, false⟩])
   (.ret))
theorem c_impl_all_int64__c1 : FF n_impl_all_int64__c1 = some ⟨8, y_impl_all_int64__c1.er, [.tmp 3]⟩ := by kernel_rfl
def p_impl_all_int64__c1 (a0 a1 : Value) (h : Hp) (R : Value → Hp → Prop) : Prop :=
  bindO (ldV 1 false h a1) fun v4 => CallV FF v4 [a0] h fun v6 h1 => bindO (unV .not v6) fun v7 => R v7 h1
theorem w_impl_all_int64__c1 {a0 a1 : Value} {h : Hp} {R : Value → Hp → Prop} (H : p_impl_all_int64__c1 a0 a1 h R) : CallW FF n_impl_all_int64__c1 [a0, a1] h R := callV_fin c_impl_all_int64__c1 (Eq.mp (by kernel_rfl) H)
def l_impl_Plane_powers_0 : YC :=
  .seq (.region false [⟨some 10, .p (.bin .lss (.t 9) (.t 8)), none, false⟩])
  (.seq (.cond (.t 10)
    (.skip)
    (.exit 0))
   (.seq (.block 1
     (.region false [⟨some 11, .p (.move  (.t 3)), none, false⟩,
       ⟨some 12, .p (.move  (.t 3)), none, false⟩,
       ⟨some 13, .p (.move  (.t 3)), none, false⟩,
       ⟨some 14, .p (.len  (.t 13)), none, false⟩,
       ⟨some 15, .p (.bin .sub (.t 14) (.c (.int .i64 1))), none, false⟩,
       ⟨some 16, .p (.indexAddr 2 (.t 12) (.t 15)), none, false⟩,
       ⟨some 17, .load 2 true (.t 16), none, false⟩,
       ⟨some 18, .load 2 true (.t 1), none, false⟩,
       ⟨some 19, .call (.c (.func (.func n_impl_Plane_times) #[] #[])) [(.t 17), (.t 18)], none, false⟩,
       ⟨some 20, .mkrow y_t_impl_Plane 2 1 [.int .i64 0, .slice none 0 0] [(0, (.t 19))], none, false⟩,
       ⟨some 21, .append y_t_impl_Plane 2 32 (.t 11) (.t 20), none, false⟩,
       ⟨some 3, .p (.move  (.t 21)), none, false⟩]))
    (.region false [⟨some 22, .p (.bin .add (.t 9) (.c (.int .i64 1))), none, false⟩,
      ⟨some 9, .p (.move  (.t 22)), none, false⟩])))
def q_impl_Plane_powers_0 (a1 a3 a8 a9 : Value) (h : Hp) (K K0 : Kont) : Prop :=
  bindO (binV .lss a9 a8) fun v10 => condM v10 (bindO (lenV  a3) fun v14 => bindO (binV .sub v14 (.int .i64 1)) fun v15 => bindO (indexAddrV 2 a3 v15) fun v16 => bindO (ldV 2 true h v16) fun v17 => bindO (ldV 2 true h a1) fun v18 => CallW FF n_impl_Plane_times [v17, v18] h fun v19 h1 => bindO (rowV 2 1 [.int .i64 0, .slice none 0 0] [(0, v19)]) fun c20 => newB h1 ⟨c20, y_t_impl_Plane, true⟩ fun b20 h2 => bindVH (appendV y_t_impl_Plane 2 h2 a3 (.slice (some ⟨b20, 0, none⟩) 1 2)) fun v21 h3 => bindO (binV .add a9 (.int .i64 1)) fun v22 => K [a1, v21, a8, v22] h3) (K0 [a3] h)
theorem wl_impl_Plane_powers_0 {a1 a3 a8 a9 : Value} {h : Hp} {K K0 : Kont} (H : q_impl_Plane_powers_0 a1 a3 a8 a9 h K K0) : ∀ e : Env, [e 1, e 3, e 8, e 9] = [a1, a3, a8, a9] → V FF l_impl_Plane_powers_0 (qsel [1, 3, 8, 9] K [(.exit 0, [3], K0)]) ⟨e, h⟩ := by
  intro e he; cases he; exact Eq.mp (by kernel_rfl) H
def y_impl_Plane_powers : YC :=
  .seq (.region false [⟨some 1, .box y_t_impl_Plane 2 (.t 0), none, false⟩,
    ⟨some 2, .p (.move  (.c (.slice none 0 0))), none, false⟩])
  (.seq (.region false [⟨some 4, .load 2 true (.t 1), none, false⟩,
     ⟨some 5, .call (.c (.func (.func n_impl_Plane_number) #[] #[])) [(.t 4), (.c (.int .i64 1))], none, false⟩,
     ⟨some 6, .mkrow y_t_impl_Plane 2 1 [.int .i64 0, .slice none 0 0] [(0, (.t 5))], none, false⟩,
     ⟨some 3, .p (.move  (.t 6)), none, false⟩])
   (.seq (.seq (.region false [⟨some 7, .load 2 true (.t 1), none, false⟩,
       ⟨some 8, .call (.c (.func (.func n_impl_Plane_degree) #[] #[])) [(.t 7)], none, false⟩,
       ⟨some 9, .p (.move  (.c (.int .i64 0))), none, false⟩])
     (.block 0
      (.loop [1, 3, 8, 9] [(.exit 0, [3])] l_impl_Plane_powers_0)))
    (.seq (.region false [⟨some 23, .p (.move  (.t 3)), none, false⟩,
       ⟨some 2, .p (.move  (.t 23)), none, false⟩])
     (.ret))))
theorem c_impl_Plane_powers : FF n_impl_Plane_powers = some ⟨24, y_impl_Plane_powers.er, [.tmp 2]⟩ := by kernel_rfl
def p_impl_Plane_powers (a0 : Value) (h : Hp) (R : Value → Hp → Prop) : Prop :=
  bindO (boxV 2 a0) fun c1 => newB h ⟨c1, y_t_impl_Plane, true⟩ fun b1 h1 => bindO (ldV 2 true h1 (.pointer (some ⟨b1, 0, none⟩))) fun v4 => CallW FF n_impl_Plane_number [v4, (.int .i64 1)] h1 fun v5 h2 => bindO (rowV 2 1 [.int .i64 0, .slice none 0 0] [(0, v5)]) fun c6 => newB h2 ⟨c6, y_t_impl_Plane, true⟩ fun b6 h3 => bindO (ldV 2 true h3 (.pointer (some ⟨b1, 0, none⟩))) fun v7 => CallW FF n_impl_Plane_degree [v7] h3 fun v8 h4 => LP FF (YC.er l_impl_Plane_powers_0) [1, 3, 8, 9] [(.exit 0, [3], fun vs h5 => ∀ e : Env, [e 3] = vs → R (e 3) h5)] [(.pointer (some ⟨b1, 0, none⟩)), (.slice (some ⟨b6, 0, none⟩) 1 2), v8, (.int .i64 0)] h4
theorem w_impl_Plane_powers {a0 : Value} {h : Hp} {R : Value → Hp → Prop} (H : p_impl_Plane_powers a0 h R) : CallW FF n_impl_Plane_powers [a0] h R := callV_fin c_impl_Plane_powers (Eq.mp (by kernel_rfl) H)
def l_impl_defectsOf_c1_0 : YC :=
  .seq (.seq (.region false [⟨some 14, .p (.move  (.t 12)), none, false⟩,
     ⟨some 15, .load 1 false (.t 3), none, false⟩,
     ⟨some 16, .p (.move  (.t 2)), none, false⟩,
     ⟨some 17, .p (.bin .sub (.t 15) (.t 16)), none, false⟩,
     ⟨some 18, .p (.bin .leq (.t 14) (.t 17)), none, false⟩])
   (.cond (.t 18)
    (.skip)
    (.exit 0)))
  (.seq (.block 1
    (.region false [⟨some 21, .p (.move  (.t 10)), none, false⟩,
      ⟨some 22, .p (.fieldAddr 1 (.t 4)), none, false⟩,
      ⟨some 23, .load 1 false (.t 22), none, false⟩,
      ⟨some 24, .p (.move  (.t 12)), none, false⟩,
      ⟨some 25, .p (.indexAddr 1 (.t 23) (.t 24)), none, false⟩,
      ⟨some 26, .load 1 false (.t 25), none, false⟩,
      ⟨some 27, .p (.move  (.t 2)), none, false⟩,
      ⟨some 28, .p (.indexAddr 1 (.t 26) (.t 27)), none, false⟩,
      ⟨some 29, .load 1 false (.t 28), none, false⟩,
      ⟨some 30, .load 1 false (.t 5), none, false⟩,
      ⟨some 31, .p (.move  (.t 12)), none, false⟩,
      ⟨some 32, .p (.indexAddr 2 (.t 30) (.t 31)), none, false⟩,
      ⟨some 33, .p (.fieldAddr 1 (.t 32)), none, false⟩,
      ⟨some 34, .load 1 false (.t 33), none, false⟩,
      ⟨some 35, .p (.move  (.t 0)), none, false⟩,
      ⟨some 36, .p (.indexAddr 1 (.t 34) (.t 35)), none, false⟩,
      ⟨some 37, .load 1 false (.t 36), none, false⟩,
      ⟨some 38, .p (.move  (.t 1)), none, false⟩,
      ⟨some 39, .p (.indexAddr 1 (.t 37) (.t 38)), none, false⟩,
      ⟨some 40, .load 1 false (.t 39), none, false⟩,
      ⟨some 41, .p (.bin .mul (.t 29) (.t 40)), none, false⟩,
      ⟨some 42, .p (.fieldAddr 0 (.t 4)), none, false⟩,
      ⟨some 43, .load 1 false (.t 42), none, false⟩,
      ⟨some 44, .p (.bin .rem (.t 41) (.t 43)), none, false⟩,
      ⟨some 45, .p (.bin .add (.t 21) (.t 44)), none, false⟩,
      ⟨some 10, .p (.move  (.t 45)), none, false⟩]))
   (.region false [⟨some 19, .p (.move  (.t 12)), none, false⟩,
     ⟨some 20, .p (.bin .add (.t 19) (.c (.int .i64 1))), none, false⟩,
     ⟨some 12, .p (.move  (.t 20)), none, false⟩]))
def q_impl_defectsOf_c1_0 (a0 a1 a2 a3 a4 a5 a10 a11 a12 : Value) (h : Hp) (K K0 : Kont) : Prop :=
  bindO (ldV 1 false h a3) fun v15 => bindO (binV .sub v15 a2) fun v17 => bindO (binV .leq a12 v17) fun v18 => condM v18 (bindO (fieldAddrV 1 a4) fun v22 => bindO (ldV 1 false h v22) fun v23 => bindO (indexAddrV 1 v23 a12) fun v25 => bindO (ldV 1 false h v25) fun v26 => bindO (indexAddrV 1 v26 a2) fun v28 => bindO (ldV 1 false h v28) fun v29 => bindO (ldV 1 false h a5) fun v30 => bindO (indexAddrV 2 v30 a12) fun v32 => bindO (fieldAddrV 1 v32) fun v33 => bindO (ldV 1 false h v33) fun v34 => bindO (indexAddrV 1 v34 a0) fun v36 => bindO (ldV 1 false h v36) fun v37 => bindO (indexAddrV 1 v37 a1) fun v39 => bindO (ldV 1 false h v39) fun v40 => bindO (binV .mul v29 v40) fun v41 => bindO (fieldAddrV 0 a4) fun v42 => bindO (ldV 1 false h v42) fun v43 => bindO (binV .rem v41 v43) fun v44 => bindO (binV .add a10 v44) fun v45 => bindO (binV .add a12 (.int .i64 1)) fun v20 => K [a0, a1, a2, a3, a4, a5, v45, a11, v20] h) (K0 [a0, a1, a2, a3, a4, a5, a10, a11] h)
theorem wl_impl_defectsOf_c1_0 {a0 a1 a2 a3 a4 a5 a10 a11 a12 : Value} {h : Hp} {K K0 : Kont} (H : q_impl_defectsOf_c1_0 a0 a1 a2 a3 a4 a5 a10 a11 a12 h K K0) : ∀ e : Env, [e 0, e 1, e 2, e 3, e 4, e 5, e 10, e 11, e 12] = [a0, a1, a2, a3, a4, a5, a10, a11, a12] → V FF l_impl_defectsOf_c1_0 (qsel [0, 1, 2, 3, 4, 5, 10, 11, 12] K [(.exit 0, [0, 1, 2, 3, 4, 5, 10, 11], K0)]) ⟨e, h⟩ := by
  intro e he; cases he; exact Eq.mp (by kernel_rfl) H
def l_impl_defectsOf_c1_1 : YC :=
  .seq (.seq (.region false [⟨some 46, .p (.move  (.t 13)), none, false⟩,
     ⟨some 47, .load 1 false (.t 3), none, false⟩,
     ⟨some 48, .p (.move  (.t 0)), none, false⟩,
     ⟨some 49, .p (.bin .sub (.t 47) (.t 48)), none, false⟩,
     ⟨some 50, .p (.bin .leq (.t 46) (.t 49)), none, false⟩])
   (.cond (.t 50)
    (.skip)
    (.exit 2)))
  (.seq (.block 3
    (.region false [⟨some 53, .p (.move  (.t 11)), none, false⟩,
      ⟨some 54, .p (.fieldAddr 1 (.t 4)), none, false⟩,
      ⟨some 55, .load 1 false (.t 54), none, false⟩,
      ⟨some 56, .p (.move  (.t 0)), none, false⟩,
      ⟨some 57, .p (.indexAddr 1 (.t 55) (.t 56)), none, false⟩,
      ⟨some 58, .load 1 false (.t 57), none, false⟩,
      ⟨some 59, .p (.move  (.t 13)), none, false⟩,
      ⟨some 60, .p (.indexAddr 1 (.t 58) (.t 59)), none, false⟩,
      ⟨some 61, .load 1 false (.t 60), none, false⟩,
      ⟨some 62, .load 1 false (.t 5), none, false⟩,
      ⟨some 63, .p (.move  (.t 13)), none, false⟩,
      ⟨some 64, .p (.indexAddr 2 (.t 62) (.t 63)), none, false⟩,
      ⟨some 65, .p (.fieldAddr 1 (.t 64)), none, false⟩,
      ⟨some 66, .load 1 false (.t 65), none, false⟩,
      ⟨some 67, .p (.move  (.t 1)), none, false⟩,
      ⟨some 68, .p (.indexAddr 1 (.t 66) (.t 67)), none, false⟩,
      ⟨some 69, .load 1 false (.t 68), none, false⟩,
      ⟨some 70, .p (.move  (.t 2)), none, false⟩,
      ⟨some 71, .p (.indexAddr 1 (.t 69) (.t 70)), none, false⟩,
      ⟨some 72, .load 1 false (.t 71), none, false⟩,
      ⟨some 73, .p (.bin .mul (.t 61) (.t 72)), none, false⟩,
      ⟨some 74, .p (.fieldAddr 0 (.t 4)), none, false⟩,
      ⟨some 75, .load 1 false (.t 74), none, false⟩,
      ⟨some 76, .p (.bin .rem (.t 73) (.t 75)), none, false⟩,
      ⟨some 77, .p (.bin .add (.t 53) (.t 76)), none, false⟩,
      ⟨some 11, .p (.move  (.t 77)), none, false⟩]))
   (.region false [⟨some 51, .p (.move  (.t 13)), none, false⟩,
     ⟨some 52, .p (.bin .add (.t 51) (.c (.int .i64 1))), none, false⟩,
     ⟨some 13, .p (.move  (.t 52)), none, false⟩]))
def q_impl_defectsOf_c1_1 (a0 a1 a2 a3 a4 a5 a10 a11 a13 : Value) (h : Hp) (K K0 : Kont) : Prop :=
  bindO (ldV 1 false h a3) fun v47 => bindO (binV .sub v47 a0) fun v49 => bindO (binV .leq a13 v49) fun v50 => condM v50 (bindO (fieldAddrV 1 a4) fun v54 => bindO (ldV 1 false h v54) fun v55 => bindO (indexAddrV 1 v55 a0) fun v57 => bindO (ldV 1 false h v57) fun v58 => bindO (indexAddrV 1 v58 a13) fun v60 => bindO (ldV 1 false h v60) fun v61 => bindO (ldV 1 false h a5) fun v62 => bindO (indexAddrV 2 v62 a13) fun v64 => bindO (fieldAddrV 1 v64) fun v65 => bindO (ldV 1 false h v65) fun v66 => bindO (indexAddrV 1 v66 a1) fun v68 => bindO (ldV 1 false h v68) fun v69 => bindO (indexAddrV 1 v69 a2) fun v71 => bindO (ldV 1 false h v71) fun v72 => bindO (binV .mul v61 v72) fun v73 => bindO (fieldAddrV 0 a4) fun v74 => bindO (ldV 1 false h v74) fun v75 => bindO (binV .rem v73 v75) fun v76 => bindO (binV .add a11 v76) fun v77 => bindO (binV .add a13 (.int .i64 1)) fun v52 => K [a0, a1, a2, a3, a4, a5, a10, v77, v52] h) (K0 [a4, a10, a11] h)
theorem wl_impl_defectsOf_c1_1 {a0 a1 a2 a3 a4 a5 a10 a11 a13 : Value} {h : Hp} {K K0 : Kont} (H : q_impl_defectsOf_c1_1 a0 a1 a2 a3 a4 a5 a10 a11 a13 h K K0) : ∀ e : Env, [e 0, e 1, e 2, e 3, e 4, e 5, e 10, e 11, e 13] = [a0, a1, a2, a3, a4, a5, a10, a11, a13] → V FF l_impl_defectsOf_c1_1 (qsel [0, 1, 2, 3, 4, 5, 10, 11, 13] K [(.exit 2, [4, 10, 11], K0)]) ⟨e, h⟩ := by
  intro e he; cases he; exact Eq.mp (by kernel_rfl) H
def y_impl_defectsOf_c1 : YC :=
  .seq (.region false [⟨some 9, .p (.move  (.c (.int .i64 0))), none, false⟩])
  (.seq (.region false [⟨some 10, .p (.move  (.c (.int .i64 0))), none, false⟩,
     ⟨some 11, .p (.move  (.c (.int .i64 0))), none, false⟩])
   (.seq (.seq (.region false [⟨some 12, .p (.move  (.c (.int .i64 0))), none, false⟩])
     (.block 0
      (.loop [0, 1, 2, 3, 4, 5, 10, 11, 12] [(.exit 0, [0, 1, 2, 3, 4, 5, 10, 11])] l_impl_defectsOf_c1_0)))
    (.seq (.seq (.region false [⟨some 13, .p (.move  (.c (.int .i64 0))), none, false⟩])
      (.block 2
       (.loop [0, 1, 2, 3, 4, 5, 10, 11, 13] [(.exit 2, [4, 10, 11])] l_impl_defectsOf_c1_1)))
     (.seq (.region false [⟨some 78, .p (.move  (.t 10)), none, false⟩,
        ⟨some 79, .p (.move  (.t 11)), none, false⟩,
        ⟨some 80, .p (.bin .sub (.t 78) (.t 79)), none, false⟩,
        ⟨some 81, .p (.fieldAddr 0 (.t 4)), none, false⟩,
        ⟨some 82, .load 1 false (.t 81), none, false⟩,
        ⟨some 83, .call (.c (.func (.func n_impl_mod) #[] #[])) [(.t 80), (.t 82)], none, false⟩,
        ⟨some 9, .p (.move  (.t 83)), none, false⟩])
      (.ret)))))
theorem c_impl_defectsOf_c1 : FF n_impl_defectsOf_c1 = some ⟨84, y_impl_defectsOf_c1.er, [.tmp 9]⟩ := by kernel_rfl
def p_impl_defectsOf_c1 (a0 a1 a2 a3 a4 a5 : Value) (h : Hp) (R : Value → Hp → Prop) : Prop :=
  LP FF (YC.er l_impl_defectsOf_c1_0) [0, 1, 2, 3, 4, 5, 10, 11, 12] [(.exit 0, [0, 1, 2, 3, 4, 5, 10, 11], fun vs h1 => ∀ e : Env, [e 0, e 1, e 2, e 3, e 4, e 5, e 10, e 11] = vs → LP FF (YC.er l_impl_defectsOf_c1_1) [0, 1, 2, 3, 4, 5, 10, 11, 13] [(.exit 2, [4, 10, 11], fun vs_1 h2 => ∀ e_1 : Env, [e_1 4, e_1 10, e_1 11] = vs_1 → bindO (binV .sub (e_1 10) (e_1 11)) fun v80 => bindO (fieldAddrV 0 (e_1 4)) fun v81 => bindO (ldV 1 false h2 v81) fun v82 => CallW FF n_impl_mod [v80, v82] h2 fun v83 h3 => R v83 h3)] [(e 0), (e 1), (e 2), (e 3), (e 4), (e 5), (e 10), (e 11), (.int .i64 0)] h1)] [a0, a1, a2, a3, a4, a5, (.int .i64 0), (.int .i64 0), (.int .i64 0)] h
theorem w_impl_defectsOf_c1 {a0 a1 a2 a3 a4 a5 : Value} {h : Hp} {R : Value → Hp → Prop} (H : p_impl_defectsOf_c1 a0 a1 a2 a3 a4 a5 h R) : CallW FF n_impl_defectsOf_c1 [a0, a1, a2, a3, a4, a5] h R := callV_fin c_impl_defectsOf_c1 (Eq.mp (by kernel_rfl) H)
def l_spec_l03Zero_0 : YC :=
  .seq (.seq (.region false [⟨some 6, .p (.move  (.t 4)), none, false⟩,
     ⟨some 7, .p (.move  (.t 0)), none, false⟩,
     ⟨some 8, .p (.bin .leq (.t 6) (.t 7)), none, false⟩])
   (.cond (.t 8)
    (.skip)
    (.exit 0)))
  (.seq (.block 1
    (.region false [⟨some 11, .p (.move  (.t 3)), none, false⟩,
      ⟨some 12, .p (.move  (.t 0)), none, false⟩,
      ⟨some 13, .p (.move  (.t 4)), none, false⟩,
      ⟨some 14, .p (.bin .sub (.t 12) (.t 13)), none, false⟩,
      ⟨some 15, .p (.bin .add (.t 14) (.c (.int .i64 1))), none, false⟩,
      ⟨some 16, .make y_t_int64 1 8 [.int .i64 0] (.t 15), none, false⟩,
      ⟨some 17, .mkrow y_t_Lint64 1 1 [.slice none 0 0] [(0, (.t 16))], none, false⟩,
      ⟨some 18, .append y_t_Lint64 1 24 (.t 11) (.t 17), none, false⟩,
      ⟨some 3, .p (.move  (.t 18)), none, false⟩]))
   (.region false [⟨some 9, .p (.move  (.t 4)), none, false⟩,
     ⟨some 10, .p (.bin .add (.t 9) (.c (.int .i64 1))), none, false⟩,
     ⟨some 4, .p (.move  (.t 10)), none, false⟩]))
def q_spec_l03Zero_0 (a0 a3 a4 : Value) (h : Hp) (K K0 : Kont) : Prop :=
  bindO (binV .leq a4 a0) fun v8 => condM v8 (bindO (binV .sub a0 a4) fun v14 => bindO (binV .add v14 (.int .i64 1)) fun v15 => bindO (makN v15) fun c16 => newB h ⟨reps c16 [.int .i64 0], y_t_int64, true⟩ fun b16 h1 => bindO (rowV 1 1 [.slice none 0 0] [(0, (.slice (some ⟨b16, 0, none⟩) c16 1))]) fun c17 => newB h1 ⟨c17, y_t_Lint64, true⟩ fun b17 h2 => bindVH (appendV y_t_Lint64 1 h2 a3 (.slice (some ⟨b17, 0, none⟩) 1 1)) fun v18 h3 => bindO (binV .add a4 (.int .i64 1)) fun v10 => K [a0, v18, v10] h3) (K0 [a3] h)
theorem wl_spec_l03Zero_0 {a0 a3 a4 : Value} {h : Hp} {K K0 : Kont} (H : q_spec_l03Zero_0 a0 a3 a4 h K K0) : ∀ e : Env, [e 0, e 3, e 4] = [a0, a3, a4] → V FF l_spec_l03Zero_0 (qsel [0, 3, 4] K [(.exit 0, [3], K0)]) ⟨e, h⟩ := by
  intro e he; cases he; exact Eq.mp (by kernel_rfl) H
def y_spec_l03Zero : YC :=
  .seq (.region false [⟨some 2, .p (.move  (.c (.slice none 0 0))), none, false⟩])
  (.seq (.region false [⟨some 5, .mkrow y_t_Lint64 1 0 [.slice none 0 0] [], none, false⟩,
     ⟨some 3, .p (.move  (.t 5)), none, false⟩])
   (.seq (.seq (.region false [⟨some 4, .p (.move  (.c (.int .i64 0))), none, false⟩])
     (.block 0
      (.loop [0, 3, 4] [(.exit 0, [3])] l_spec_l03Zero_0)))
    (.seq (.region false [⟨some 19, .p (.move  (.t 3)), none, false⟩,
       ⟨some 2, .p (.move  (.t 19)), none, false⟩])
     (.ret))))
theorem c_spec_l03Zero : FF n_spec_l03Zero = some ⟨20, y_spec_l03Zero.er, [.tmp 2]⟩ := by kernel_rfl
def p_spec_l03Zero (a0 : Value) (h : Hp) (R : Value → Hp → Prop) : Prop :=
  bindO (rowV 1 0 [.slice none 0 0] []) fun c5 => newB h ⟨c5, y_t_Lint64, true⟩ fun b5 h1 => LP FF (YC.er l_spec_l03Zero_0) [0, 3, 4] [(.exit 0, [3], fun vs h2 => ∀ e : Env, [e 3] = vs → R (e 3) h2)] [a0, (.slice (some ⟨b5, 0, none⟩) 0 1), (.int .i64 0)] h1
theorem w_spec_l03Zero {a0 : Value} {h : Hp} {R : Value → Hp → Prop} (H : p_spec_l03Zero a0 h R) : CallW FF n_spec_l03Zero [a0] h R := callV_fin c_spec_l03Zero (Eq.mp (by kernel_rfl) H)
def l_spec_l03Times_0 : YC :=
  .seq (.seq (.region false [⟨some 59, .p (.move  (.t 9)), none, false⟩,
     ⟨some 60, .p (.move  (.t 10)), none, false⟩,
     ⟨some 61, .p (.bin .add (.t 59) (.t 60)), none, false⟩,
     ⟨some 62, .p (.move  (.t 11)), none, false⟩,
     ⟨some 63, .p (.bin .add (.t 61) (.t 62)), none, false⟩,
     ⟨some 64, .p (.move  (.t 14)), none, false⟩,
     ⟨some 65, .p (.bin .add (.t 63) (.t 64)), none, false⟩,
     ⟨some 66, .p (.move  (.t 7)), none, false⟩,
     ⟨some 67, .p (.bin .lss (.t 65) (.t 66)), none, false⟩])
   (.cond (.t 67)
    (.skip)
    (.exit 6)))
  (.seq (.block 7
    (.region false [⟨some 70, .p (.move  (.t 12)), none, false⟩,
      ⟨some 71, .p (.move  (.t 10)), none, false⟩,
      ⟨some 72, .p (.move  (.t 14)), none, false⟩,
      ⟨some 73, .p (.bin .add (.t 71) (.t 72)), none, false⟩,
      ⟨some 74, .p (.move  (.t 12)), none, false⟩,
      ⟨some 75, .p (.move  (.t 10)), none, false⟩,
      ⟨some 76, .p (.move  (.t 14)), none, false⟩,
      ⟨some 77, .p (.bin .add (.t 75) (.t 76)), none, false⟩,
      ⟨some 78, .p (.indexAddr 1 (.t 74) (.t 77)), none, false⟩,
      ⟨some 79, .load 1 false (.t 78), none, false⟩,
      ⟨some 80, .p (.move  (.t 1)), none, false⟩,
      ⟨some 81, .p (.move  (.t 9)), none, false⟩,
      ⟨some 82, .p (.indexAddr 1 (.t 80) (.t 81)), none, false⟩,
      ⟨some 83, .load 1 false (.t 82), none, false⟩,
      ⟨some 84, .p (.move  (.t 10)), none, false⟩,
      ⟨some 85, .p (.indexAddr 1 (.t 83) (.t 84)), none, false⟩,
      ⟨some 86, .load 1 false (.t 85), none, false⟩,
      ⟨some 87, .p (.move  (.t 13)), none, false⟩,
      ⟨some 88, .p (.move  (.t 14)), none, false⟩,
      ⟨some 89, .p (.indexAddr 1 (.t 87) (.t 88)), none, false⟩,
      ⟨some 90, .load 1 false (.t 89), none, false⟩,
      ⟨some 91, .p (.bin .mul (.t 86) (.t 90)), none, false⟩,
      ⟨some 92, .p (.bin .add (.t 79) (.t 91)), none, false⟩,
      ⟨some 93, .p (.move  (.t 0)), none, false⟩,
      ⟨some 94, .p (.bin .rem (.t 92) (.t 93)), none, false⟩,
      ⟨some 95, .p (.indexAddr 1 (.t 70) (.t 73)), none, false⟩,
      ⟨none, .store 1 (.t 95) (.t 94), none, false⟩]))
   (.region false [⟨some 68, .p (.move  (.t 14)), none, false⟩,
     ⟨some 69, .p (.bin .add (.t 68) (.c (.int .i64 1))), none, false⟩,
     ⟨some 14, .p (.move  (.t 69)), none, false⟩]))
def q_spec_l03Times_0 (a0 a1 a2 a7 a8 a9 a10 a11 a12 a13 a14 : Value) (h : Hp) (K K0 : Kont) : Prop :=
  bindO (binV .add a9 a10) fun v61 => bindO (binV .add v61 a11) fun v63 => bindO (binV .add v63 a14) fun v65 => bindO (binV .lss v65 a7) fun v67 => condM v67 (bindO (binV .add a10 a14) fun v73 => bindO (binV .add a10 a14) fun v77 => bindO (indexAddrV 1 a12 v77) fun v78 => bindO (ldV 1 false h v78) fun v79 => bindO (indexAddrV 1 a1 a9) fun v82 => bindO (ldV 1 false h v82) fun v83 => bindO (indexAddrV 1 v83 a10) fun v85 => bindO (ldV 1 false h v85) fun v86 => bindO (indexAddrV 1 a13 a14) fun v89 => bindO (ldV 1 false h v89) fun v90 => bindO (binV .mul v86 v90) fun v91 => bindO (binV .add v79 v91) fun v92 => bindO (binV .rem v92 a0) fun v94 => bindO (indexAddrV 1 a12 v73) fun v95 => bindO (storeV 1 h v94 v95) fun h1 => bindO (binV .add a14 (.int .i64 1)) fun v69 => K [a0, a1, a2, a7, a8, a9, a10, a11, a12, a13, v69] h1) (K0 [a0, a1, a2, a7, a8, a9, a10, a11] h)
theorem wl_spec_l03Times_0 {a0 a1 a2 a7 a8 a9 a10 a11 a12 a13 a14 : Value} {h : Hp} {K K0 : Kont} (H : q_spec_l03Times_0 a0 a1 a2 a7 a8 a9 a10 a11 a12 a13 a14 h K K0) : ∀ e : Env, [e 0, e 1, e 2, e 7, e 8, e 9, e 10, e 11, e 12, e 13, e 14] = [a0, a1, a2, a7, a8, a9, a10, a11, a12, a13, a14] → V FF l_spec_l03Times_0 (qsel [0, 1, 2, 7, 8, 9, 10, 11, 12, 13, 14] K [(.exit 6, [0, 1, 2, 7, 8, 9, 10, 11], K0)]) ⟨e, h⟩ := by
  intro e he; cases he; exact Eq.mp (by kernel_rfl) H
def l_spec_l03Times_1 : YC :=
  .seq (.seq (.region false [⟨some 40, .p (.move  (.t 9)), none, false⟩,
     ⟨some 41, .p (.move  (.t 10)), none, false⟩,
     ⟨some 42, .p (.bin .add (.t 40) (.t 41)), none, false⟩,
     ⟨some 43, .p (.move  (.t 11)), none, false⟩,
     ⟨some 44, .p (.bin .add (.t 42) (.t 43)), none, false⟩,
     ⟨some 45, .p (.move  (.t 7)), none, false⟩,
     ⟨some 46, .p (.bin .lss (.t 44) (.t 45)), none, false⟩])
   (.cond (.t 46)
    (.skip)
    (.exit 4)))
  (.seq (.block 5
    (.seq (.region false [⟨some 49, .p (.move  (.t 8)), none, false⟩,
       ⟨some 50, .p (.move  (.t 9)), none, false⟩,
       ⟨some 51, .p (.move  (.t 11)), none, false⟩,
       ⟨some 52, .p (.bin .add (.t 50) (.t 51)), none, false⟩,
       ⟨some 53, .p (.indexAddr 1 (.t 49) (.t 52)), none, false⟩,
       ⟨some 54, .load 1 false (.t 53), none, false⟩,
       ⟨some 55, .p (.move  (.t 2)), none, false⟩,
       ⟨some 56, .p (.move  (.t 11)), none, false⟩,
       ⟨some 57, .p (.indexAddr 1 (.t 55) (.t 56)), none, false⟩,
       ⟨some 58, .load 1 false (.t 57), none, false⟩,
       ⟨some 12, .p (.move  (.t 54)), none, false⟩,
       ⟨some 13, .p (.move  (.t 58)), none, false⟩])
     (.seq (.region false [⟨some 14, .p (.move  (.c (.int .i64 0))), none, false⟩])
      (.block 6
       (.loop [0, 1, 2, 7, 8, 9, 10, 11, 12, 13, 14] [(.exit 6, [0, 1, 2, 7, 8, 9, 10, 11])] l_spec_l03Times_0)))))
   (.region false [⟨some 47, .p (.move  (.t 11)), none, false⟩,
     ⟨some 48, .p (.bin .add (.t 47) (.c (.int .i64 1))), none, false⟩,
     ⟨some 11, .p (.move  (.t 48)), none, false⟩]))
def q_spec_l03Times_1 (a0 a1 a2 a7 a8 a9 a10 a11 : Value) (h : Hp) (K K0 : Kont) : Prop :=
  bindO (binV .add a9 a10) fun v42 => bindO (binV .add v42 a11) fun v44 => bindO (binV .lss v44 a7) fun v46 => condM v46 (bindO (binV .add a9 a11) fun v52 => bindO (indexAddrV 1 a8 v52) fun v53 => bindO (ldV 1 false h v53) fun v54 => bindO (indexAddrV 1 a2 a11) fun v57 => bindO (ldV 1 false h v57) fun v58 => LP FF (YC.er l_spec_l03Times_0) [0, 1, 2, 7, 8, 9, 10, 11, 12, 13, 14] [(.exit 6, [0, 1, 2, 7, 8, 9, 10, 11], fun vs h1 => ∀ e : Env, [e 0, e 1, e 2, e 7, e 8, e 9, e 10, e 11] = vs → bindO (binV .add (e 11) (.int .i64 1)) fun v48 => K [(e 0), (e 1), (e 2), (e 7), (e 8), (e 9), (e 10), v48] h1)] [a0, a1, a2, a7, a8, a9, a10, a11, v54, v58, (.int .i64 0)] h) (K0 [a0, a1, a2, a7, a8, a9, a10] h)
theorem wl_spec_l03Times_1 {a0 a1 a2 a7 a8 a9 a10 a11 : Value} {h : Hp} {K K0 : Kont} (H : q_spec_l03Times_1 a0 a1 a2 a7 a8 a9 a10 a11 h K K0) : ∀ e : Env, [e 0, e 1, e 2, e 7, e 8, e 9, e 10, e 11] = [a0, a1, a2, a7, a8, a9, a10, a11] → V FF l_spec_l03Times_1 (qsel [0, 1, 2, 7, 8, 9, 10, 11] K [(.exit 4, [0, 1, 2, 7, 8, 9, 10], K0)]) ⟨e, h⟩ := by
  intro e he; cases he; exact Eq.mp (by kernel_rfl) H
def l_spec_l03Times_2 : YC :=
  .seq (.seq (.region false [⟨some 25, .p (.move  (.t 9)), none, false⟩,
     ⟨some 26, .p (.move  (.t 10)), none, false⟩,
     ⟨some 27, .p (.bin .add (.t 25) (.t 26)), none, false⟩,
     ⟨some 28, .p (.move  (.t 7)), none, false⟩,
     ⟨some 29, .p (.bin .lss (.t 27) (.t 28)), none, false⟩])
   (.cond (.t 29)
    (.skip)
    (.exit 2)))
  (.seq (.block 3
    (.seq (.seq (.region false [⟨some 32, .p (.move  (.t 1)), none, false⟩,
        ⟨some 33, .p (.move  (.t 9)), none, false⟩,
        ⟨some 34, .p (.indexAddr 1 (.t 32) (.t 33)), none, false⟩,
        ⟨some 35, .load 1 false (.t 34), none, false⟩,
        ⟨some 36, .p (.move  (.t 10)), none, false⟩,
        ⟨some 37, .p (.indexAddr 1 (.t 35) (.t 36)), none, false⟩,
        ⟨some 38, .load 1 false (.t 37), none, false⟩,
        ⟨some 39, .p (.bin .eql (.t 38) (.c (.int .i64 0))), none, false⟩])
      (.cond (.t 39)
       (.exit 3)
       (.skip)))
     (.seq (.region false [⟨some 11, .p (.move  (.c (.int .i64 0))), none, false⟩])
      (.block 4
       (.loop [0, 1, 2, 7, 8, 9, 10, 11] [(.exit 4, [0, 1, 2, 7, 8, 9, 10])] l_spec_l03Times_1)))))
   (.region false [⟨some 30, .p (.move  (.t 10)), none, false⟩,
     ⟨some 31, .p (.bin .add (.t 30) (.c (.int .i64 1))), none, false⟩,
     ⟨some 10, .p (.move  (.t 31)), none, false⟩]))
def q_spec_l03Times_2 (a0 a1 a2 a7 a8 a9 a10 : Value) (h : Hp) (K K0 : Kont) : Prop :=
  bindO (binV .add a9 a10) fun v27 => bindO (binV .lss v27 a7) fun v29 => condM v29 (bindO (indexAddrV 1 a1 a9) fun v34 => bindO (ldV 1 false h v34) fun v35 => bindO (indexAddrV 1 v35 a10) fun v37 => bindO (ldV 1 false h v37) fun v38 => bindO (binV .eql v38 (.int .i64 0)) fun v39 => condM v39 (bindO (binV .add a10 (.int .i64 1)) fun v31 => K [a0, a1, a2, a7, a8, a9, v31] h) (LP FF (YC.er l_spec_l03Times_1) [0, 1, 2, 7, 8, 9, 10, 11] [(.exit 4, [0, 1, 2, 7, 8, 9, 10], fun vs h1 => ∀ e : Env, [e 0, e 1, e 2, e 7, e 8, e 9, e 10] = vs → bindO (binV .add (e 10) (.int .i64 1)) fun v31 => K [(e 0), (e 1), (e 2), (e 7), (e 8), (e 9), v31] h1)] [a0, a1, a2, a7, a8, a9, a10, (.int .i64 0)] h)) (K0 [a0, a1, a2, a7, a8, a9] h)
theorem wl_spec_l03Times_2 {a0 a1 a2 a7 a8 a9 a10 : Value} {h : Hp} {K K0 : Kont} (H : q_spec_l03Times_2 a0 a1 a2 a7 a8 a9 a10 h K K0) : ∀ e : Env, [e 0, e 1, e 2, e 7, e 8, e 9, e 10] = [a0, a1, a2, a7, a8, a9, a10] → V FF l_spec_l03Times_2 (qsel [0, 1, 2, 7, 8, 9, 10] K [(.exit 2, [0, 1, 2, 7, 8, 9], K0)]) ⟨e, h⟩ := by
  intro e he; cases he; exact Eq.mp (by kernel_rfl) H
def l_spec_l03Times_3 : YC :=
  .seq (.seq (.region false [⟨some 20, .p (.move  (.t 9)), none, false⟩,
     ⟨some 21, .p (.move  (.t 7)), none, false⟩,
     ⟨some 22, .p (.bin .lss (.t 20) (.t 21)), none, false⟩])
   (.cond (.t 22)
    (.skip)
    (.exit 0)))
  (.seq (.block 1
    (.seq (.region false [⟨some 10, .p (.move  (.c (.int .i64 0))), none, false⟩])
     (.block 2
      (.loop [0, 1, 2, 7, 8, 9, 10] [(.exit 2, [0, 1, 2, 7, 8, 9])] l_spec_l03Times_2))))
   (.region false [⟨some 23, .p (.move  (.t 9)), none, false⟩,
     ⟨some 24, .p (.bin .add (.t 23) (.c (.int .i64 1))), none, false⟩,
     ⟨some 9, .p (.move  (.t 24)), none, false⟩]))
def q_spec_l03Times_3 (a0 a1 a2 a7 a8 a9 : Value) (h : Hp) (K K0 : Kont) : Prop :=
  bindO (binV .lss a9 a7) fun v22 => condM v22 (LP FF (YC.er l_spec_l03Times_2) [0, 1, 2, 7, 8, 9, 10] [(.exit 2, [0, 1, 2, 7, 8, 9], fun vs h1 => ∀ e : Env, [e 0, e 1, e 2, e 7, e 8, e 9] = vs → bindO (binV .add (e 9) (.int .i64 1)) fun v24 => K [(e 0), (e 1), (e 2), (e 7), (e 8), v24] h1)] [a0, a1, a2, a7, a8, a9, (.int .i64 0)] h) (K0 [a8] h)
theorem wl_spec_l03Times_3 {a0 a1 a2 a7 a8 a9 : Value} {h : Hp} {K K0 : Kont} (H : q_spec_l03Times_3 a0 a1 a2 a7 a8 a9 h K K0) : ∀ e : Env, [e 0, e 1, e 2, e 7, e 8, e 9] = [a0, a1, a2, a7, a8, a9] → V FF l_spec_l03Times_3 (qsel [0, 1, 2, 7, 8, 9] K [(.exit 0, [8], K0)]) ⟨e, h⟩ := by
  intro e he; cases he; exact Eq.mp (by kernel_rfl) H
def y_spec_l03Times : YC :=
  .seq (.region false [⟨some 6, .p (.move  (.c (.slice none 0 0))), none, false⟩])
  (.seq (.region false [⟨some 15, .p (.move  (.t 1)), none, false⟩,
     ⟨some 16, .p (.len  (.t 15)), none, false⟩,
     ⟨some 7, .p (.move  (.t 16)), none, false⟩])
   (.seq (.region false [⟨some 17, .p (.move  (.t 7)), none, false⟩,
      ⟨some 18, .p (.bin .sub (.t 17) (.c (.int .i64 1))), none, false⟩,
      ⟨some 19, .call (.c (.func (.func n_spec_l03Zero) #[] #[])) [(.t 18)], none, false⟩,
      ⟨some 8, .p (.move  (.t 19)), none, false⟩])
    (.seq (.seq (.region false [⟨some 9, .p (.move  (.c (.int .i64 0))), none, false⟩])
      (.block 0
       (.loop [0, 1, 2, 7, 8, 9] [(.exit 0, [8])] l_spec_l03Times_3)))
     (.seq (.region false [⟨some 96, .p (.move  (.t 8)), none, false⟩,
        ⟨some 6, .p (.move  (.t 96)), none, false⟩])
      (.ret)))))
theorem c_spec_l03Times : FF n_spec_l03Times = some ⟨97, y_spec_l03Times.er, [.tmp 6]⟩ := by kernel_rfl
def p_spec_l03Times (a0 a1 a2 : Value) (h : Hp) (R : Value → Hp → Prop) : Prop :=
  bindO (lenV  a1) fun v16 => bindO (binV .sub v16 (.int .i64 1)) fun v18 => CallW FF n_spec_l03Zero [v18] h fun v19 h1 => LP FF (YC.er l_spec_l03Times_3) [0, 1, 2, 7, 8, 9] [(.exit 0, [8], fun vs h2 => ∀ e : Env, [e 8] = vs → R (e 8) h2)] [a0, a1, a2, v16, v19, (.int .i64 0)] h1
theorem w_spec_l03Times {a0 a1 a2 : Value} {h : Hp} {R : Value → Hp → Prop} (H : p_spec_l03Times a0 a1 a2 h R) : CallW FF n_spec_l03Times [a0, a1, a2] h R := callV_fin c_spec_l03Times (Eq.mp (by kernel_rfl) H)
def l_slices_IndexFunc_Limpl_Series_impl_Series_0 : YC :=
  .seq (.region false [⟨some 9, .p (.bin .lss (.t 8) (.t 7)), none, false⟩])
  (.seq (.cond (.t 9)
    (.skip)
    (.exit 0))
   (.seq (.block 1
     (.seq (.region false [⟨some 10, .p (.move  (.t 8)), none, false⟩,
        ⟨some 5, .p (.move  (.t 10)), none, false⟩])
      (.seq (.region false [⟨some 11, .p (.move  (.t 1)), none, false⟩,
         ⟨some 12, .p (.move  (.t 0)), none, false⟩,
         ⟨some 13, .p (.move  (.t 5)), none, false⟩,
         ⟨some 14, .p (.indexAddr 2 (.t 12) (.t 13)), none, false⟩,
         ⟨some 15, .load 2 true (.t 14), none, false⟩,
         ⟨some 16, .call (.t 11) [(.t 15)], none, false⟩])
       (.cond (.t 16)
        (.seq (.region false [⟨some 17, .p (.move  (.t 5)), none, false⟩,
           ⟨some 4, .p (.move  (.t 17)), none, false⟩])
         (.ret))
        (.skip)))))
    (.region false [⟨some 18, .p (.bin .add (.t 8) (.c (.int .i64 1))), none, false⟩,
      ⟨some 8, .p (.move  (.t 18)), none, false⟩])))
def q_slices_IndexFunc_Limpl_Series_impl_Series_0 (a0 a1 a7 a8 : Value) (h : Hp) (K K0 K1 : Kont) : Prop :=
  bindO (binV .lss a8 a7) fun v9 => condM v9 (bindO (indexAddrV 2 a0 a8) fun v14 => bindO (ldV 2 true h v14) fun v15 => CallV FF a1 [v15] h fun v16 h1 => condM v16 (K1 [a8] h1) (bindO (binV .add a8 (.int .i64 1)) fun v18 => K [a0, a1, a7, v18] h1)) (K0 [] h)
theorem wl_slices_IndexFunc_Limpl_Series_impl_Series_0 {a0 a1 a7 a8 : Value} {h : Hp} {K K0 K1 : Kont} (H : q_slices_IndexFunc_Limpl_Series_impl_Series_0 a0 a1 a7 a8 h K K0 K1) : ∀ e : Env, [e 0, e 1, e 7, e 8] = [a0, a1, a7, a8] → V FF l_slices_IndexFunc_Limpl_Series_impl_Series_0 (qsel [0, 1, 7, 8] K [(.exit 0, [], K0), (.ret, [4], K1)]) ⟨e, h⟩ := by
  intro e he; cases he; exact Eq.mp (by kernel_rfl) H
def y_slices_IndexFunc_Limpl_Series_impl_Series : YC :=
  .seq (.region false [⟨some 4, .p (.move  (.c (.int .i64 0))), none, false⟩])
  (.seq (.seq (.region false [⟨some 6, .p (.move  (.t 0)), none, false⟩,
      ⟨some 7, .p (.len  (.t 6)), none, false⟩,
      ⟨some 8, .p (.move  (.c (.int .i64 0))), none, false⟩])
    (.block 0
     (.loop [0, 1, 7, 8] [(.exit 0, []), (.ret, [4])] l_slices_IndexFunc_Limpl_Series_impl_Series_0)))
   (.seq (.region false [⟨some 4, .p (.move  (.c (.int .i64 (-1)))), none, false⟩])
    (.ret)))
theorem c_slices_IndexFunc_Limpl_Series_impl_Series : FF n_slices_IndexFunc_Limpl_Series_impl_Series = some ⟨19, y_slices_IndexFunc_Limpl_Series_impl_Series.er, [.tmp 4]⟩ := by kernel_rfl
def p_slices_IndexFunc_Limpl_Series_impl_Series (a0 a1 : Value) (h : Hp) (R : Value → Hp → Prop) : Prop :=
  bindO (lenV  a0) fun v7 => LP FF (YC.er l_slices_IndexFunc_Limpl_Series_impl_Series_0) [0, 1, 7, 8] [(.exit 0, [], fun vs h1 => ∀ e : Env, [] = vs → R (.int .i64 (-1)) h1), (.ret, [4], fun vs h1 => ∀ e : Env, [e 4] = vs → R (e 4) h1)] [a0, a1, v7, (.int .i64 0)] h
theorem w_slices_IndexFunc_Limpl_Series_impl_Series {a0 a1 : Value} {h : Hp} {R : Value → Hp → Prop} (H : p_slices_IndexFunc_Limpl_Series_impl_Series a0 a1 h R) : CallW FF n_slices_IndexFunc_Limpl_Series_impl_Series [a0, a1] h R := callV_fin c_slices_IndexFunc_Limpl_Series_impl_Series (Eq.mp (by kernel_rfl) H)
def y_math_bits_Mul64 : YC :=
  .seq (.region false [⟨some 4, .p (.move  (.c (.int .u64 0))), none, false⟩,
    ⟨some 5, .p (.move  (.c (.int .u64 0))), none, false⟩])
  (.seq (.region false [⟨some 14, .p (.move  (.t 0)), none, false⟩,
     ⟨some 15, .p (.bin .and (.t 14) (.c (.int .u64 4294967295))), none, false⟩,
     ⟨some 6, .p (.move  (.t 15)), none, false⟩])
   (.seq (.region false [⟨some 16, .p (.move  (.t 0)), none, false⟩,
      ⟨some 17, .p (.bin .shr (.t 16) (.c (.int .u64 32))), none, false⟩,
      ⟨some 7, .p (.move  (.t 17)), none, false⟩])
    (.seq (.region false [⟨some 18, .p (.move  (.t 1)), none, false⟩,
       ⟨some 19, .p (.bin .and (.t 18) (.c (.int .u64 4294967295))), none, false⟩,
       ⟨some 8, .p (.move  (.t 19)), none, false⟩])
     (.seq (.region false [⟨some 20, .p (.move  (.t 1)), none, false⟩,
        ⟨some 21, .p (.bin .shr (.t 20) (.c (.int .u64 32))), none, false⟩,
        ⟨some 9, .p (.move  (.t 21)), none, false⟩])
      (.seq (.region false [⟨some 22, .p (.move  (.t 6)), none, false⟩,
         ⟨some 23, .p (.move  (.t 8)), none, false⟩,
         ⟨some 24, .p (.bin .mul (.t 22) (.t 23)), none, false⟩,
         ⟨some 10, .p (.move  (.t 24)), none, false⟩])
       (.seq (.region false [⟨some 25, .p (.move  (.t 7)), none, false⟩,
          ⟨some 26, .p (.move  (.t 8)), none, false⟩,
          ⟨some 27, .p (.bin .mul (.t 25) (.t 26)), none, false⟩,
          ⟨some 28, .p (.move  (.t 10)), none, false⟩,
          ⟨some 29, .p (.bin .shr (.t 28) (.c (.int .u64 32))), none, false⟩,
          ⟨some 30, .p (.bin .add (.t 27) (.t 29)), none, false⟩,
          ⟨some 11, .p (.move  (.t 30)), none, false⟩])
        (.seq (.region false [⟨some 31, .p (.move  (.t 11)), none, false⟩,
           ⟨some 32, .p (.bin .and (.t 31) (.c (.int .u64 4294967295))), none, false⟩,
           ⟨some 12, .p (.move  (.t 32)), none, false⟩])
         (.seq (.region false [⟨some 33, .p (.move  (.t 11)), none, false⟩,
            ⟨some 34, .p (.bin .shr (.t 33) (.c (.int .u64 32))), none, false⟩,
            ⟨some 13, .p (.move  (.t 34)), none, false⟩])
          (.seq (.region false [⟨some 35, .p (.move  (.t 12)), none, false⟩,
             ⟨some 36, .p (.move  (.t 6)), none, false⟩,
             ⟨some 37, .p (.move  (.t 9)), none, false⟩,
             ⟨some 38, .p (.bin .mul (.t 36) (.t 37)), none, false⟩,
             ⟨some 39, .p (.bin .add (.t 35) (.t 38)), none, false⟩,
             ⟨some 12, .p (.move  (.t 39)), none, false⟩])
           (.seq (.region false [⟨some 40, .p (.move  (.t 7)), none, false⟩,
              ⟨some 41, .p (.move  (.t 9)), none, false⟩,
              ⟨some 42, .p (.bin .mul (.t 40) (.t 41)), none, false⟩,
              ⟨some 43, .p (.move  (.t 13)), none, false⟩,
              ⟨some 44, .p (.bin .add (.t 42) (.t 43)), none, false⟩,
              ⟨some 45, .p (.move  (.t 12)), none, false⟩,
              ⟨some 46, .p (.bin .shr (.t 45) (.c (.int .u64 32))), none, false⟩,
              ⟨some 47, .p (.bin .add (.t 44) (.t 46)), none, false⟩,
              ⟨some 4, .p (.move  (.t 47)), none, false⟩])
            (.seq (.region false [⟨some 48, .p (.move  (.t 0)), none, false⟩,
               ⟨some 49, .p (.move  (.t 1)), none, false⟩,
               ⟨some 50, .p (.bin .mul (.t 48) (.t 49)), none, false⟩,
               ⟨some 5, .p (.move  (.t 50)), none, false⟩])
             (.ret))))))))))))
theorem c_math_bits_Mul64 : FF n_math_bits_Mul64 = some ⟨51, y_math_bits_Mul64.er, [.tmp 4, .tmp 5]⟩ := by kernel_rfl
def p_math_bits_Mul64 (a0 a1 : Value) (h : Hp) (R : Value → Hp → Prop) : Prop :=
  bindO (binV .and a0 (.int .u64 4294967295)) fun v15 => bindO (binV .shr a0 (.int .u64 32)) fun v17 => bindO (binV .and a1 (.int .u64 4294967295)) fun v19 => bindO (binV .shr a1 (.int .u64 32)) fun v21 => bindO (binV .mul v15 v19) fun v24 => bindO (binV .mul v17 v19) fun v27 => bindO (binV .shr v24 (.int .u64 32)) fun v29 => bindO (binV .add v27 v29) fun v30 => bindO (binV .and v30 (.int .u64 4294967295)) fun v32 => bindO (binV .shr v30 (.int .u64 32)) fun v34 => bindO (binV .mul v15 v21) fun v38 => bindO (binV .add v32 v38) fun v39 => bindO (binV .mul v17 v21) fun v42 => bindO (binV .add v42 v34) fun v44 => bindO (binV .shr v39 (.int .u64 32)) fun v46 => bindO (binV .add v44 v46) fun v47 => bindO (binV .mul a0 a1) fun v50 => R (.tuple #[v47, v50]) h
theorem w_math_bits_Mul64 {a0 a1 : Value} {h : Hp} {R : Value → Hp → Prop} (H : p_math_bits_Mul64 a0 a1 h R) : CallW FF n_math_bits_Mul64 [a0, a1] h R := callV_fin c_math_bits_Mul64 (Eq.mp (by kernel_rfl) H)
def y_spec_l08Multiplicative : YC :=
  .seq (.region false [⟨some 6, .p (.move  (.c (.slice none 0 0))), none, false⟩])
  (.seq (.region false [⟨some 8, .p (.move  (.t 1)), none, false⟩,
     ⟨some 9, .call (.c (.func (.func n_spec_l03Zero) #[] #[])) [(.t 8)], none, false⟩,
     ⟨some 7, .p (.move  (.t 9)), none, false⟩])
   (.seq (.region false [⟨some 10, .p (.move  (.t 7)), none, false⟩,
      ⟨some 11, .p (.indexAddr 1 (.t 10) (.c (.int .i64 1))), none, false⟩,
      ⟨some 12, .load 1 false (.t 11), none, false⟩,
      ⟨some 13, .p (.indexAddr 1 (.t 12) (.c (.int .i64 0))), none, false⟩,
      ⟨none, .store 1 (.t 13) (.c (.int .i64 1)), none, false⟩])
    (.seq (.region false [⟨some 14, .p (.move  (.t 7)), none, false⟩,
       ⟨some 15, .p (.indexAddr 1 (.t 14) (.c (.int .i64 0))), none, false⟩,
       ⟨some 16, .load 1 false (.t 15), none, false⟩,
       ⟨some 17, .p (.indexAddr 1 (.t 16) (.c (.int .i64 1))), none, false⟩,
       ⟨none, .store 1 (.t 17) (.c (.int .i64 1)), none, false⟩])
     (.seq (.seq (.region false [⟨some 18, .p (.move  (.t 1)), none, false⟩,
         ⟨some 19, .p (.bin .gtr (.t 18) (.c (.int .i64 1))), none, false⟩])
       (.cond (.t 19)
        (.region false [⟨some 20, .p (.move  (.t 7)), none, false⟩,
          ⟨some 21, .p (.indexAddr 1 (.t 20) (.c (.int .i64 1))), none, false⟩,
          ⟨some 22, .load 1 false (.t 21), none, false⟩,
          ⟨some 23, .p (.move  (.t 2)), none, false⟩,
          ⟨some 24, .p (.indexAddr 1 (.t 22) (.c (.int .i64 1))), none, false⟩,
          ⟨none, .store 1 (.t 24) (.t 23), none, false⟩])
        (.skip)))
      (.seq (.region false [⟨some 25, .p (.move  (.t 7)), none, false⟩,
         ⟨some 6, .p (.move  (.t 25)), none, false⟩])
       (.ret))))))
theorem c_spec_l08Multiplicative : FF n_spec_l08Multiplicative = some ⟨26, y_spec_l08Multiplicative.er, [.tmp 6]⟩ := by kernel_rfl
def p_spec_l08Multiplicative (a0 a1 a2 : Value) (h : Hp) (R : Value → Hp → Prop) : Prop :=
  CallW FF n_spec_l03Zero [a1] h fun v9 h1 => bindO (indexAddrV 1 v9 (.int .i64 1)) fun v11 => bindO (ldV 1 false h1 v11) fun v12 => bindO (indexAddrV 1 v12 (.int .i64 0)) fun v13 => bindO (storeV 1 h1 (.int .i64 1) v13) fun h2 => bindO (indexAddrV 1 v9 (.int .i64 0)) fun v15 => bindO (ldV 1 false h2 v15) fun v16 => bindO (indexAddrV 1 v16 (.int .i64 1)) fun v17 => bindO (storeV 1 h2 (.int .i64 1) v17) fun h3 => bindO (binV .gtr a1 (.int .i64 1)) fun v19 => condM v19 (bindO (indexAddrV 1 v9 (.int .i64 1)) fun v21 => bindO (ldV 1 false h3 v21) fun v22 => bindO (indexAddrV 1 v22 (.int .i64 1)) fun v24 => bindO (storeV 1 h3 a2 v24) fun h4 => R v9 h4) (R v9 h3)
theorem w_spec_l08Multiplicative {a0 a1 a2 : Value} {h : Hp} {R : Value → Hp → Prop} (H : p_spec_l08Multiplicative a0 a1 a2 h R) : CallW FF n_spec_l08Multiplicative [a0, a1, a2] h R := callV_fin c_spec_l08Multiplicative (Eq.mp (by kernel_rfl) H)
def l_spec_l08Tangent_0 : YC :=
  .seq (.seq (.region false [⟨some 14, .p (.move  (.t 9)), none, false⟩,
     ⟨some 15, .p (.bin .mul (.c (.int .i64 2)) (.t 14)), none, false⟩,
     ⟨some 16, .p (.bin .add (.t 15) (.c (.int .i64 1))), none, false⟩,
     ⟨some 17, .p (.move  (.t 1)), none, false⟩,
     ⟨some 18, .p (.bin .leq (.t 16) (.t 17)), none, false⟩])
   (.cond (.t 18)
    (.skip)
    (.exit 0)))
  (.seq (.block 1
    (.seq (.region false [⟨some 21, .p (.move  (.t 7)), none, false⟩,
       ⟨some 22, .p (.move  (.t 9)), none, false⟩,
       ⟨some 23, .p (.bin .add (.t 22) (.c (.int .i64 1))), none, false⟩,
       ⟨some 24, .p (.indexAddr 1 (.t 21) (.t 23)), none, false⟩,
       ⟨some 25, .load 1 false (.t 24), none, false⟩,
       ⟨some 26, .p (.move  (.t 9)), none, false⟩,
       ⟨some 27, .p (.move  (.t 8)), none, false⟩,
       ⟨some 28, .p (.indexAddr 1 (.t 25) (.t 26)), none, false⟩,
       ⟨none, .store 1 (.t 28) (.t 27), none, false⟩])
     (.seq (.region false [⟨some 29, .p (.move  (.t 7)), none, false⟩,
        ⟨some 30, .p (.move  (.t 9)), none, false⟩,
        ⟨some 31, .p (.indexAddr 1 (.t 29) (.t 30)), none, false⟩,
        ⟨some 32, .load 1 false (.t 31), none, false⟩,
        ⟨some 33, .p (.move  (.t 9)), none, false⟩,
        ⟨some 34, .p (.bin .add (.t 33) (.c (.int .i64 1))), none, false⟩,
        ⟨some 35, .p (.move  (.t 8)), none, false⟩,
        ⟨some 36, .p (.indexAddr 1 (.t 32) (.t 34)), none, false⟩,
        ⟨none, .store 1 (.t 36) (.t 35), none, false⟩])
      (.region false [⟨some 37, .p (.move  (.t 8)), none, false⟩,
        ⟨some 38, .p (.move  (.t 0)), none, false⟩,
        ⟨some 39, .p (.move  (.t 2)), none, false⟩,
        ⟨some 40, .p (.bin .sub (.t 38) (.t 39)), none, false⟩,
        ⟨some 41, .p (.bin .mul (.t 37) (.t 40)), none, false⟩,
        ⟨some 42, .p (.move  (.t 0)), none, false⟩,
        ⟨some 43, .p (.bin .rem (.t 41) (.t 42)), none, false⟩,
        ⟨some 8, .p (.move  (.t 43)), none, false⟩]))))
   (.region false [⟨some 19, .p (.move  (.t 9)), none, false⟩,
     ⟨some 20, .p (.bin .add (.t 19) (.c (.int .i64 1))), none, false⟩,
     ⟨some 9, .p (.move  (.t 20)), none, false⟩]))
def q_spec_l08Tangent_0 (a0 a1 a2 a7 a8 a9 : Value) (h : Hp) (K K0 : Kont) : Prop :=
  bindO (binV .mul (.int .i64 2) a9) fun v15 => bindO (binV .add v15 (.int .i64 1)) fun v16 => bindO (binV .leq v16 a1) fun v18 => condM v18 (bindO (binV .add a9 (.int .i64 1)) fun v23 => bindO (indexAddrV 1 a7 v23) fun v24 => bindO (ldV 1 false h v24) fun v25 => bindO (indexAddrV 1 v25 a9) fun v28 => bindO (storeV 1 h a8 v28) fun h1 => bindO (indexAddrV 1 a7 a9) fun v31 => bindO (ldV 1 false h1 v31) fun v32 => bindO (binV .add a9 (.int .i64 1)) fun v34 => bindO (indexAddrV 1 v32 v34) fun v36 => bindO (storeV 1 h1 a8 v36) fun h2 => bindO (binV .sub a0 a2) fun v40 => bindO (binV .mul a8 v40) fun v41 => bindO (binV .rem v41 a0) fun v43 => bindO (binV .add a9 (.int .i64 1)) fun v20 => K [a0, a1, a2, a7, v43, v20] h2) (K0 [a7] h)
theorem wl_spec_l08Tangent_0 {a0 a1 a2 a7 a8 a9 : Value} {h : Hp} {K K0 : Kont} (H : q_spec_l08Tangent_0 a0 a1 a2 a7 a8 a9 h K K0) : ∀ e : Env, [e 0, e 1, e 2, e 7, e 8, e 9] = [a0, a1, a2, a7, a8, a9] → V FF l_spec_l08Tangent_0 (qsel [0, 1, 2, 7, 8, 9] K [(.exit 0, [7], K0)]) ⟨e, h⟩ := by
  intro e he; cases he; exact Eq.mp (by kernel_rfl) H
def y_spec_l08Tangent : YC :=
  .seq (.region false [⟨some 6, .p (.move  (.c (.slice none 0 0))), none, false⟩])
  (.seq (.region false [⟨some 10, .p (.move  (.t 1)), none, false⟩,
     ⟨some 11, .call (.c (.func (.func n_spec_l03Zero) #[] #[])) [(.t 10)], none, false⟩,
     ⟨some 7, .p (.move  (.t 11)), none, false⟩])
   (.seq (.region false [⟨some 12, .p (.move  (.t 0)), none, false⟩,
      ⟨some 13, .p (.bin .rem (.c (.int .i64 1)) (.t 12)), none, false⟩,
      ⟨some 8, .p (.move  (.t 13)), none, false⟩])
    (.seq (.seq (.region false [⟨some 9, .p (.move  (.c (.int .i64 0))), none, false⟩])
      (.block 0
       (.loop [0, 1, 2, 7, 8, 9] [(.exit 0, [7])] l_spec_l08Tangent_0)))
     (.seq (.region false [⟨some 44, .p (.move  (.t 7)), none, false⟩,
        ⟨some 6, .p (.move  (.t 44)), none, false⟩])
      (.ret)))))
theorem c_spec_l08Tangent : FF n_spec_l08Tangent = some ⟨45, y_spec_l08Tangent.er, [.tmp 6]⟩ := by kernel_rfl
def p_spec_l08Tangent (a0 a1 a2 : Value) (h : Hp) (R : Value → Hp → Prop) : Prop :=
  CallW FF n_spec_l03Zero [a1] h fun v11 h1 => bindO (binV .rem (.int .i64 1) a0) fun v13 => LP FF (YC.er l_spec_l08Tangent_0) [0, 1, 2, 7, 8, 9] [(.exit 0, [7], fun vs h2 => ∀ e : Env, [e 7] = vs → R (e 7) h2)] [a0, a1, a2, v11, v13, (.int .i64 0)] h1
theorem w_spec_l08Tangent {a0 a1 a2 : Value} {h : Hp} {R : Value → Hp → Prop} (H : p_spec_l08Tangent a0 a1 a2 h R) : CallW FF n_spec_l08Tangent [a0, a1, a2] h R := callV_fin c_spec_l08Tangent (Eq.mp (by kernel_rfl) H)
def l_spec_l08Euler_0 : YC :=
  .seq (.seq (.region false [⟨some 26, .p (.move  (.t 12)), none, false⟩,
     ⟨some 27, .p (.move  (.t 1)), none, false⟩,
     ⟨some 28, .p (.bin .lss (.t 26) (.t 27)), none, false⟩])
   (.cond (.t 28)
    (.skip)
    (.exit 0)))
  (.seq (.block 1
    (.region false [⟨some 31, .p (.move  (.t 10)), none, false⟩,
      ⟨some 32, .p (.indexAddr 1 (.t 31) (.c (.int .i64 1))), none, false⟩,
      ⟨some 33, .load 1 false (.t 32), none, false⟩,
      ⟨some 34, .p (.move  (.t 12)), none, false⟩,
      ⟨some 35, .p (.move  (.t 9)), none, false⟩,
      ⟨some 36, .p (.move  (.t 12)), none, false⟩,
      ⟨some 37, .p (.indexAddr 1 (.t 35) (.t 36)), none, false⟩,
      ⟨some 38, .load 1 false (.t 37), none, false⟩,
      ⟨some 39, .p (.indexAddr 1 (.t 33) (.t 34)), none, false⟩,
      ⟨none, .store 1 (.t 39) (.t 38), none, false⟩]))
   (.region false [⟨some 29, .p (.move  (.t 12)), none, false⟩,
     ⟨some 30, .p (.bin .add (.t 29) (.c (.int .i64 1))), none, false⟩,
     ⟨some 12, .p (.move  (.t 30)), none, false⟩]))
def q_spec_l08Euler_0 (a0 a1 a3 a9 a10 a11 a12 : Value) (h : Hp) (K K0 : Kont) : Prop :=
  bindO (binV .lss a12 a1) fun v28 => condM v28 (bindO (indexAddrV 1 a10 (.int .i64 1)) fun v32 => bindO (ldV 1 false h v32) fun v33 => bindO (indexAddrV 1 a9 a12) fun v37 => bindO (ldV 1 false h v37) fun v38 => bindO (indexAddrV 1 v33 a12) fun v39 => bindO (storeV 1 h v38 v39) fun h1 => bindO (binV .add a12 (.int .i64 1)) fun v30 => K [a0, a1, a3, a9, a10, a11, v30] h1) (K0 [a0, a1, a3, a9, a10, a11] h)
theorem wl_spec_l08Euler_0 {a0 a1 a3 a9 a10 a11 a12 : Value} {h : Hp} {K K0 : Kont} (H : q_spec_l08Euler_0 a0 a1 a3 a9 a10 a11 a12 h K K0) : ∀ e : Env, [e 0, e 1, e 3, e 9, e 10, e 11, e 12] = [a0, a1, a3, a9, a10, a11, a12] → V FF l_spec_l08Euler_0 (qsel [0, 1, 3, 9, 10, 11, 12] K [(.exit 0, [0, 1, 3, 9, 10, 11], K0)]) ⟨e, h⟩ := by
  intro e he; cases he; exact Eq.mp (by kernel_rfl) H
def l_spec_l08Euler_1 : YC :=
  .seq (.seq (.region false [⟨some 40, .p (.move  (.t 13)), none, false⟩,
     ⟨some 41, .p (.move  (.t 1)), none, false⟩,
     ⟨some 42, .p (.bin .lss (.t 40) (.t 41)), none, false⟩])
   (.cond (.t 42)
    (.skip)
    (.exit 2)))
  (.seq (.block 3
    (.seq (.region false [⟨some 45, .p (.move  (.t 10)), none, false⟩,
       ⟨some 46, .p (.move  (.t 13)), none, false⟩,
       ⟨some 47, .p (.indexAddr 1 (.t 45) (.t 46)), none, false⟩,
       ⟨some 48, .load 1 false (.t 47), none, false⟩,
       ⟨some 14, .p (.move  (.t 48)), none, false⟩])
     (.region false [⟨some 49, .p (.move  (.t 14)), none, false⟩,
       ⟨some 50, .p (.move  (.t 14)), none, false⟩,
       ⟨some 51, .p (.indexAddr 1 (.t 50) (.c (.int .i64 1))), none, false⟩,
       ⟨some 52, .load 1 false (.t 51), none, false⟩,
       ⟨some 53, .p (.move  (.t 9)), none, false⟩,
       ⟨some 54, .p (.move  (.t 13)), none, false⟩,
       ⟨some 55, .p (.indexAddr 1 (.t 53) (.t 54)), none, false⟩,
       ⟨some 56, .load 1 false (.t 55), none, false⟩,
       ⟨some 57, .p (.bin .add (.t 52) (.t 56)), none, false⟩,
       ⟨some 58, .p (.move  (.t 0)), none, false⟩,
       ⟨some 59, .p (.bin .rem (.t 57) (.t 58)), none, false⟩,
       ⟨some 60, .p (.indexAddr 1 (.t 49) (.c (.int .i64 1))), none, false⟩,
       ⟨none, .store 1 (.t 60) (.t 59), none, false⟩])))
   (.region false [⟨some 43, .p (.move  (.t 13)), none, false⟩,
     ⟨some 44, .p (.bin .add (.t 43) (.c (.int .i64 1))), none, false⟩,
     ⟨some 13, .p (.move  (.t 44)), none, false⟩]))
def q_spec_l08Euler_1 (a0 a1 a3 a9 a10 a11 a13 : Value) (h : Hp) (K K0 : Kont) : Prop :=
  bindO (binV .lss a13 a1) fun v42 => condM v42 (bindO (indexAddrV 1 a10 a13) fun v47 => bindO (ldV 1 false h v47) fun v48 => bindO (indexAddrV 1 v48 (.int .i64 1)) fun v51 => bindO (ldV 1 false h v51) fun v52 => bindO (indexAddrV 1 a9 a13) fun v55 => bindO (ldV 1 false h v55) fun v56 => bindO (binV .add v52 v56) fun v57 => bindO (binV .rem v57 a0) fun v59 => bindO (indexAddrV 1 v48 (.int .i64 1)) fun v60 => bindO (storeV 1 h v59 v60) fun h1 => bindO (binV .add a13 (.int .i64 1)) fun v44 => K [a0, a1, a3, a9, a10, a11, v44] h1) (K0 [a0, a1, a3, a10, a11] h)
theorem wl_spec_l08Euler_1 {a0 a1 a3 a9 a10 a11 a13 : Value} {h : Hp} {K K0 : Kont} (H : q_spec_l08Euler_1 a0 a1 a3 a9 a10 a11 a13 h K K0) : ∀ e : Env, [e 0, e 1, e 3, e 9, e 10, e 11, e 13] = [a0, a1, a3, a9, a10, a11, a13] → V FF l_spec_l08Euler_1 (qsel [0, 1, 3, 9, 10, 11, 13] K [(.exit 2, [0, 1, 3, 10, 11], K0)]) ⟨e, h⟩ := by
  intro e he; cases he; exact Eq.mp (by kernel_rfl) H
def l_spec_l08Euler_2 : YC :=
  .seq (.seq (.region false [⟨some 63, .p (.move  (.t 16)), none, false⟩,
     ⟨some 64, .p (.bin .mul (.c (.int .i64 4)) (.t 63)), none, false⟩,
     ⟨some 65, .p (.move  (.t 1)), none, false⟩,
     ⟨some 66, .p (.bin .leq (.t 64) (.t 65)), none, false⟩])
   (.cond (.t 66)
    (.skip)
    (.exit 4)))
  (.seq (.block 5
    (.seq (.region false [⟨some 69, .p (.move  (.t 11)), none, false⟩,
       ⟨some 70, .p (.move  (.t 16)), none, false⟩,
       ⟨some 71, .p (.bin .mul (.c (.int .i64 2)) (.t 70)), none, false⟩,
       ⟨some 72, .p (.indexAddr 1 (.t 69) (.t 71)), none, false⟩,
       ⟨some 73, .load 1 false (.t 72), none, false⟩,
       ⟨some 74, .p (.move  (.t 16)), none, false⟩,
       ⟨some 75, .p (.bin .mul (.c (.int .i64 2)) (.t 74)), none, false⟩,
       ⟨some 76, .p (.move  (.t 15)), none, false⟩,
       ⟨some 77, .p (.indexAddr 1 (.t 73) (.t 75)), none, false⟩,
       ⟨none, .store 1 (.t 77) (.t 76), none, false⟩])
     (.region false [⟨some 78, .p (.move  (.t 15)), none, false⟩,
       ⟨some 79, .p (.move  (.t 3)), none, false⟩,
       ⟨some 80, .p (.bin .mul (.t 78) (.t 79)), none, false⟩,
       ⟨some 81, .p (.move  (.t 0)), none, false⟩,
       ⟨some 82, .p (.bin .rem (.t 80) (.t 81)), none, false⟩,
       ⟨some 15, .p (.move  (.t 82)), none, false⟩])))
   (.region false [⟨some 67, .p (.move  (.t 16)), none, false⟩,
     ⟨some 68, .p (.bin .add (.t 67) (.c (.int .i64 1))), none, false⟩,
     ⟨some 16, .p (.move  (.t 68)), none, false⟩]))
def q_spec_l08Euler_2 (a0 a1 a3 a10 a11 a15 a16 : Value) (h : Hp) (K K0 : Kont) : Prop :=
  bindO (binV .mul (.int .i64 4) a16) fun v64 => bindO (binV .leq v64 a1) fun v66 => condM v66 (bindO (binV .mul (.int .i64 2) a16) fun v71 => bindO (indexAddrV 1 a11 v71) fun v72 => bindO (ldV 1 false h v72) fun v73 => bindO (binV .mul (.int .i64 2) a16) fun v75 => bindO (indexAddrV 1 v73 v75) fun v77 => bindO (storeV 1 h a15 v77) fun h1 => bindO (binV .mul a15 a3) fun v80 => bindO (binV .rem v80 a0) fun v82 => bindO (binV .add a16 (.int .i64 1)) fun v68 => K [a0, a1, a3, a10, a11, v82, v68] h1) (K0 [a0, a10, a11] h)
theorem wl_spec_l08Euler_2 {a0 a1 a3 a10 a11 a15 a16 : Value} {h : Hp} {K K0 : Kont} (H : q_spec_l08Euler_2 a0 a1 a3 a10 a11 a15 a16 h K K0) : ∀ e : Env, [e 0, e 1, e 3, e 10, e 11, e 15, e 16] = [a0, a1, a3, a10, a11, a15, a16] → V FF l_spec_l08Euler_2 (qsel [0, 1, 3, 10, 11, 15, 16] K [(.exit 4, [0, 10, 11], K0)]) ⟨e, h⟩ := by
  intro e he; cases he; exact Eq.mp (by kernel_rfl) H
def y_spec_l08Euler : YC :=
  .seq (.region false [⟨some 8, .p (.move  (.c (.slice none 0 0))), none, false⟩])
  (.seq (.region false [⟨some 17, .p (.move  (.t 0)), none, false⟩,
     ⟨some 18, .p (.move  (.t 1)), none, false⟩,
     ⟨some 19, .p (.move  (.t 2)), none, false⟩,
     ⟨some 20, .p (.move  (.t 3)), none, false⟩,
     ⟨some 21, .call (.c (.func (.func n_spec_l08Root) #[] #[])) [(.t 17), (.t 18), (.t 19), (.t 20)], none, false⟩,
     ⟨some 22, .p (.move  (.t 1)), none, false⟩,
     ⟨some 23, .call (.c (.func (.func n_spec_l03Zero) #[] #[])) [(.t 22)], none, false⟩,
     ⟨some 24, .p (.move  (.t 1)), none, false⟩,
     ⟨some 25, .call (.c (.func (.func n_spec_l03Zero) #[] #[])) [(.t 24)], none, false⟩,
     ⟨some 9, .p (.move  (.t 21)), none, false⟩,
     ⟨some 10, .p (.move  (.t 23)), none, false⟩,
     ⟨some 11, .p (.move  (.t 25)), none, false⟩])
   (.seq (.seq (.region false [⟨some 12, .p (.move  (.c (.int .i64 0))), none, false⟩])
     (.block 0
      (.loop [0, 1, 3, 9, 10, 11, 12] [(.exit 0, [0, 1, 3, 9, 10, 11])] l_spec_l08Euler_0)))
    (.seq (.seq (.region false [⟨some 13, .p (.move  (.c (.int .i64 0))), none, false⟩])
      (.block 2
       (.loop [0, 1, 3, 9, 10, 11, 13] [(.exit 2, [0, 1, 3, 10, 11])] l_spec_l08Euler_1)))
     (.seq (.region false [⟨some 61, .p (.move  (.t 0)), none, false⟩,
        ⟨some 62, .p (.bin .rem (.c (.int .i64 1)) (.t 61)), none, false⟩,
        ⟨some 15, .p (.move  (.t 62)), none, false⟩])
      (.seq (.seq (.region false [⟨some 16, .p (.move  (.c (.int .i64 0))), none, false⟩])
        (.block 4
         (.loop [0, 1, 3, 10, 11, 15, 16] [(.exit 4, [0, 10, 11])] l_spec_l08Euler_2)))
       (.seq (.region false [⟨some 83, .p (.move  (.t 0)), none, false⟩,
          ⟨some 84, .p (.move  (.t 10)), none, false⟩,
          ⟨some 85, .p (.move  (.t 11)), none, false⟩,
          ⟨some 86, .call (.c (.func (.func n_spec_l03Times) #[] #[])) [(.t 83), (.t 84), (.t 85)], none, false⟩,
          ⟨some 8, .p (.move  (.t 86)), none, false⟩])
        (.ret)))))))
theorem c_spec_l08Euler : FF n_spec_l08Euler = some ⟨87, y_spec_l08Euler.er, [.tmp 8]⟩ := by kernel_rfl
def p_spec_l08Euler (a0 a1 a2 a3 : Value) (h : Hp) (R : Value → Hp → Prop) : Prop :=
  CallW FF n_spec_l08Root [a0, a1, a2, a3] h fun v21 h1 => CallW FF n_spec_l03Zero [a1] h1 fun v23 h2 => CallW FF n_spec_l03Zero [a1] h2 fun v25 h3 => LP FF (YC.er l_spec_l08Euler_0) [0, 1, 3, 9, 10, 11, 12] [(.exit 0, [0, 1, 3, 9, 10, 11], fun vs h4 => ∀ e : Env, [e 0, e 1, e 3, e 9, e 10, e 11] = vs → LP FF (YC.er l_spec_l08Euler_1) [0, 1, 3, 9, 10, 11, 13] [(.exit 2, [0, 1, 3, 10, 11], fun vs_1 h5 => ∀ e_1 : Env, [e_1 0, e_1 1, e_1 3, e_1 10, e_1 11] = vs_1 → bindO (binV .rem (.int .i64 1) (e_1 0)) fun v62 => LP FF (YC.er l_spec_l08Euler_2) [0, 1, 3, 10, 11, 15, 16] [(.exit 4, [0, 10, 11], fun vs_2 h6 => ∀ e_2 : Env, [e_2 0, e_2 10, e_2 11] = vs_2 → CallW FF n_spec_l03Times [(e_2 0), (e_2 10), (e_2 11)] h6 fun v86 h7 => R v86 h7)] [(e_1 0), (e_1 1), (e_1 3), (e_1 10), (e_1 11), v62, (.int .i64 0)] h5)] [(e 0), (e 1), (e 3), (e 9), (e 10), (e 11), (.int .i64 0)] h4)] [a0, a1, a3, v21, v23, v25, (.int .i64 0)] h3
theorem w_spec_l08Euler {a0 a1 a2 a3 : Value} {h : Hp} {R : Value → Hp → Prop} (H : p_spec_l08Euler a0 a1 a2 a3 h R) : CallW FF n_spec_l08Euler [a0, a1, a2, a3] h R := callV_fin c_spec_l08Euler (Eq.mp (by kernel_rfl) H)
end XM

/- Functions of the translation in the code of the abstract machine. -/
namespace XM
open Go
def l_spec_l08Weierstrass_0 : YC :=
  .seq (.seq (.region false [⟨some 39, .p (.move  (.t 10)), none, false⟩,
     ⟨some 40, .p (.move  (.t 9)), none, false⟩,
     ⟨some 41, .p (.bin .lss (.t 39) (.t 40)), none, false⟩])
   (.cond (.t 41)
    (.skip)
    (.exit 2)))
  (.seq (.block 3
    (.region false [⟨some 44, .p (.move  (.t 8)), none, false⟩,
      ⟨some 45, .p (.move  (.t 10)), none, false⟩,
      ⟨some 46, .p (.indexAddr 1 (.t 44) (.t 45)), none, false⟩,
      ⟨some 47, .load 1 false (.t 46), none, false⟩,
      ⟨some 48, .p (.move  (.t 9)), none, false⟩,
      ⟨some 49, .p (.bin .sub (.t 48) (.c (.int .i64 1))), none, false⟩,
      ⟨some 50, .p (.move  (.t 10)), none, false⟩,
      ⟨some 51, .p (.bin .sub (.t 49) (.t 50)), none, false⟩,
      ⟨some 52, .p (.move  (.t 7)), none, false⟩,
      ⟨some 53, .p (.move  (.t 9)), none, false⟩,
      ⟨some 54, .p (.indexAddr 1 (.t 52) (.t 53)), none, false⟩,
      ⟨some 55, .load 1 false (.t 54), none, false⟩,
      ⟨some 56, .p (.indexAddr 1 (.t 47) (.t 51)), none, false⟩,
      ⟨none, .store 1 (.t 56) (.t 55), none, false⟩]))
   (.region false [⟨some 42, .p (.move  (.t 10)), none, false⟩,
     ⟨some 43, .p (.bin .add (.t 42) (.c (.int .i64 1))), none, false⟩,
     ⟨some 10, .p (.move  (.t 43)), none, false⟩]))
def q_spec_l08Weierstrass_0 (a0 a1 a2 a7 a8 a9 a10 : Value) (h : Hp) (K K0 : Kont) : Prop :=
  bindO (binV .lss a10 a9) fun v41 => condM v41 (bindO (indexAddrV 1 a8 a10) fun v46 => bindO (ldV 1 false h v46) fun v47 => bindO (binV .sub a9 (.int .i64 1)) fun v49 => bindO (binV .sub v49 a10) fun v51 => bindO (indexAddrV 1 a7 a9) fun v54 => bindO (ldV 1 false h v54) fun v55 => bindO (indexAddrV 1 v47 v51) fun v56 => bindO (storeV 1 h v55 v56) fun h1 => bindO (binV .add a10 (.int .i64 1)) fun v43 => K [a0, a1, a2, a7, a8, a9, v43] h1) (K0 [a0, a1, a2, a7, a8, a9] h)
theorem wl_spec_l08Weierstrass_0 {a0 a1 a2 a7 a8 a9 a10 : Value} {h : Hp} {K K0 : Kont} (H : q_spec_l08Weierstrass_0 a0 a1 a2 a7 a8 a9 a10 h K K0) : ∀ e : Env, [e 0, e 1, e 2, e 7, e 8, e 9, e 10] = [a0, a1, a2, a7, a8, a9, a10] → V FF l_spec_l08Weierstrass_0 (qsel [0, 1, 2, 7, 8, 9, 10] K [(.exit 2, [0, 1, 2, 7, 8, 9], K0)]) ⟨e, h⟩ := by
  intro e he; cases he; exact Eq.mp (by kernel_rfl) H
def l_spec_l08Weierstrass_1 : YC :=
  .seq (.seq (.region false [⟨some 33, .p (.move  (.t 9)), none, false⟩,
     ⟨some 34, .p (.move  (.t 1)), none, false⟩,
     ⟨some 35, .p (.bin .add (.t 34) (.c (.int .i64 1))), none, false⟩,
     ⟨some 36, .p (.bin .leq (.t 33) (.t 35)), none, false⟩])
   (.cond (.t 36)
    (.skip)
    (.exit 0)))
  (.seq (.block 1
    (.seq (.region false [⟨some 10, .p (.move  (.c (.int .i64 0))), none, false⟩])
     (.block 2
      (.loop [0, 1, 2, 7, 8, 9, 10] [(.exit 2, [0, 1, 2, 7, 8, 9])] l_spec_l08Weierstrass_0))))
   (.region false [⟨some 37, .p (.move  (.t 9)), none, false⟩,
     ⟨some 38, .p (.bin .add (.t 37) (.c (.int .i64 1))), none, false⟩,
     ⟨some 9, .p (.move  (.t 38)), none, false⟩]))
def q_spec_l08Weierstrass_1 (a0 a1 a2 a7 a8 a9 : Value) (h : Hp) (K K0 : Kont) : Prop :=
  bindO (binV .add a1 (.int .i64 1)) fun v35 => bindO (binV .leq a9 v35) fun v36 => condM v36 (LP FF (YC.er l_spec_l08Weierstrass_0) [0, 1, 2, 7, 8, 9, 10] [(.exit 2, [0, 1, 2, 7, 8, 9], fun vs h1 => ∀ e : Env, [e 0, e 1, e 2, e 7, e 8, e 9] = vs → bindO (binV .add (e 9) (.int .i64 1)) fun v38 => K [(e 0), (e 1), (e 2), (e 7), (e 8), v38] h1)] [a0, a1, a2, a7, a8, a9, (.int .i64 0)] h) (K0 [a0, a1, a2, a7, a8] h)
theorem wl_spec_l08Weierstrass_1 {a0 a1 a2 a7 a8 a9 : Value} {h : Hp} {K K0 : Kont} (H : q_spec_l08Weierstrass_1 a0 a1 a2 a7 a8 a9 h K K0) : ∀ e : Env, [e 0, e 1, e 2, e 7, e 8, e 9] = [a0, a1, a2, a7, a8, a9] → V FF l_spec_l08Weierstrass_1 (qsel [0, 1, 2, 7, 8, 9] K [(.exit 0, [0, 1, 2, 7, 8], K0)]) ⟨e, h⟩ := by
  intro e he; cases he; exact Eq.mp (by kernel_rfl) H
def l_spec_l08Weierstrass_2 : YC :=
  .seq (.seq (.region false [⟨some 65, .p (.move  (.t 13)), none, false⟩,
     ⟨some 66, .p (.move  (.t 1)), none, false⟩,
     ⟨some 67, .p (.bin .leq (.t 65) (.t 66)), none, false⟩])
   (.cond (.t 67)
    (.skip)
    (.exit 4)))
  (.seq (.block 5
    (.region false [⟨some 70, .p (.move  (.t 12)), none, false⟩,
      ⟨some 71, .p (.move  (.t 13)), none, false⟩,
      ⟨some 72, .p (.indexAddr 1 (.t 70) (.t 71)), none, false⟩,
      ⟨some 73, .load 1 false (.t 72), none, false⟩,
      ⟨some 74, .p (.move  (.t 7)), none, false⟩,
      ⟨some 75, .p (.move  (.t 13)), none, false⟩,
      ⟨some 76, .p (.indexAddr 1 (.t 74) (.t 75)), none, false⟩,
      ⟨some 77, .load 1 false (.t 76), none, false⟩,
      ⟨some 78, .p (.indexAddr 1 (.t 73) (.c (.int .i64 0))), none, false⟩,
      ⟨none, .store 1 (.t 78) (.t 77), none, false⟩]))
   (.region false [⟨some 68, .p (.move  (.t 13)), none, false⟩,
     ⟨some 69, .p (.bin .add (.t 68) (.c (.int .i64 1))), none, false⟩,
     ⟨some 13, .p (.move  (.t 69)), none, false⟩]))
def q_spec_l08Weierstrass_2 (a0 a1 a2 a7 a8 a11 a12 a13 : Value) (h : Hp) (K K0 : Kont) : Prop :=
  bindO (binV .leq a13 a1) fun v67 => condM v67 (bindO (indexAddrV 1 a12 a13) fun v72 => bindO (ldV 1 false h v72) fun v73 => bindO (indexAddrV 1 a7 a13) fun v76 => bindO (ldV 1 false h v76) fun v77 => bindO (indexAddrV 1 v73 (.int .i64 0)) fun v78 => bindO (storeV 1 h v77 v78) fun h1 => bindO (binV .add a13 (.int .i64 1)) fun v69 => K [a0, a1, a2, a7, a8, a11, a12, v69] h1) (K0 [a0, a1, a2, a7, a8, a11, a12] h)
theorem wl_spec_l08Weierstrass_2 {a0 a1 a2 a7 a8 a11 a12 a13 : Value} {h : Hp} {K K0 : Kont} (H : q_spec_l08Weierstrass_2 a0 a1 a2 a7 a8 a11 a12 a13 h K K0) : ∀ e : Env, [e 0, e 1, e 2, e 7, e 8, e 11, e 12, e 13] = [a0, a1, a2, a7, a8, a11, a12, a13] → V FF l_spec_l08Weierstrass_2 (qsel [0, 1, 2, 7, 8, 11, 12, 13] K [(.exit 4, [0, 1, 2, 7, 8, 11, 12], K0)]) ⟨e, h⟩ := by
  intro e he; cases he; exact Eq.mp (by kernel_rfl) H
def l_spec_l08Weierstrass_3 : YC :=
  .seq (.seq (.region false [⟨some 174, .p (.move  (.t 19)), none, false⟩,
     ⟨some 175, .p (.move  (.t 1)), none, false⟩,
     ⟨some 176, .p (.bin .leq (.t 174) (.t 175)), none, false⟩])
   (.cond (.t 176)
    (.skip)
    (.exit 6)))
  (.seq (.block 7
    (.region false [⟨some 179, .p (.move  (.t 18)), none, false⟩,
      ⟨some 180, .p (.move  (.t 0)), none, false⟩,
      ⟨some 181, .p (.bin .sub (.t 180) (.c (.int .i64 1))), none, false⟩,
      ⟨some 182, .mkrow y_t_int64 1 2 [.int .i64 0] [(0, (.c (.int .i64 1))), (1, (.t 181))], none, false⟩,
      ⟨some 183, .p (.move  (.t 19)), none, false⟩,
      ⟨some 184, .p (.bin .rem (.t 183) (.c (.int .i64 2))), none, false⟩,
      ⟨some 185, .p (.indexAddr 1 (.t 182) (.t 184)), none, false⟩,
      ⟨some 186, .load 1 false (.t 185), none, false⟩,
      ⟨some 187, .mkrow y_t_int64 1 1 [.int .i64 0] [(0, (.t 186))], none, false⟩,
      ⟨some 188, .append y_t_int64 1 8 (.t 179) (.t 187), none, false⟩,
      ⟨some 18, .p (.move  (.t 188)), none, false⟩]))
   (.region false [⟨some 177, .p (.move  (.t 19)), none, false⟩,
     ⟨some 178, .p (.bin .add (.t 177) (.c (.int .i64 1))), none, false⟩,
     ⟨some 19, .p (.move  (.t 178)), none, false⟩]))
def q_spec_l08Weierstrass_3 (a0 a1 a2 a7 a11 a16 a17 a18 a19 : Value) (h : Hp) (K K0 : Kont) : Prop :=
  bindO (binV .leq a19 a1) fun v176 => condM v176 (bindO (binV .sub a0 (.int .i64 1)) fun v181 => bindO (rowV 1 2 [.int .i64 0] [(0, (.int .i64 1)), (1, v181)]) fun c182 => newB h ⟨c182, y_t_int64, true⟩ fun b182 h1 => bindO (binV .rem a19 (.int .i64 2)) fun v184 => bindO (indexAddrV 1 (.slice (some ⟨b182, 0, none⟩) 2 1) v184) fun v185 => bindO (ldV 1 false h1 v185) fun v186 => bindO (rowV 1 1 [.int .i64 0] [(0, v186)]) fun c187 => newB h1 ⟨c187, y_t_int64, true⟩ fun b187 h2 => bindVH (appendV y_t_int64 1 h2 a18 (.slice (some ⟨b187, 0, none⟩) 1 1)) fun v188 h3 => bindO (binV .add a19 (.int .i64 1)) fun v178 => K [a0, a1, a2, a7, a11, a16, a17, v188, v178] h3) (K0 [a0, a1, a2, a7, a11, a16, a17, a18] h)
theorem wl_spec_l08Weierstrass_3 {a0 a1 a2 a7 a11 a16 a17 a18 a19 : Value} {h : Hp} {K K0 : Kont} (H : q_spec_l08Weierstrass_3 a0 a1 a2 a7 a11 a16 a17 a18 a19 h K K0) : ∀ e : Env, [e 0, e 1, e 2, e 7, e 11, e 16, e 17, e 18, e 19] = [a0, a1, a2, a7, a11, a16, a17, a18, a19] → V FF l_spec_l08Weierstrass_3 (qsel [0, 1, 2, 7, 11, 16, 17, 18, 19] K [(.exit 6, [0, 1, 2, 7, 11, 16, 17, 18], K0)]) ⟨e, h⟩ := by
  intro e he; cases he; exact Eq.mp (by kernel_rfl) H
def l_spec_l08Weierstrass_4 : YC :=
  .seq (.seq (.region false [⟨some 210, .p (.move  (.t 23)), none, false⟩,
     ⟨some 211, .p (.move  (.t 1)), none, false⟩,
     ⟨some 212, .p (.bin .leq (.t 210) (.t 211)), none, false⟩])
   (.cond (.t 212)
    (.skip)
    (.exit 8)))
  (.seq (.block 9
    (.seq (.region false [⟨some 215, .p (.move  (.t 2)), none, false⟩,
       ⟨some 216, .p (.indexAddr 1 (.t 215) (.c (.int .i64 2))), none, false⟩,
       ⟨some 217, .load 1 false (.t 216), none, false⟩,
       ⟨some 218, .p (.move  (.t 7)), none, false⟩,
       ⟨some 219, .p (.move  (.t 23)), none, false⟩,
       ⟨some 220, .p (.indexAddr 1 (.t 218) (.t 219)), none, false⟩,
       ⟨some 221, .load 1 false (.t 220), none, false⟩,
       ⟨some 222, .p (.bin .mul (.t 217) (.t 221)), none, false⟩,
       ⟨some 24, .p (.move  (.t 222)), none, false⟩])
     (.join [0, 1, 2, 7, 21, 22, 23, 24] (.seq (.region false [⟨some 223, .p (.move  (.t 23)), none, false⟩,
         ⟨some 224, .p (.bin .eql (.t 223) (.c (.int .i64 1))), none, false⟩])
       (.cond (.t 224)
        (.region false [⟨some 225, .p (.move  (.t 24)), none, false⟩,
          ⟨some 226, .p (.move  (.t 2)), none, false⟩,
          ⟨some 227, .p (.indexAddr 1 (.t 226) (.c (.int .i64 0))), none, false⟩,
          ⟨some 228, .load 1 false (.t 227), none, false⟩,
          ⟨some 229, .p (.bin .add (.t 225) (.t 228)), none, false⟩,
          ⟨some 24, .p (.move  (.t 229)), none, false⟩])
        (.skip)))
      (.region false [⟨some 230, .p (.move  (.t 22)), none, false⟩,
        ⟨some 231, .p (.move  (.t 0)), none, false⟩,
        ⟨some 232, .p (.move  (.t 24)), none, false⟩,
        ⟨some 233, .p (.move  (.t 0)), none, false⟩,
        ⟨some 234, .p (.bin .rem (.t 232) (.t 233)), none, false⟩,
        ⟨some 235, .p (.bin .sub (.t 231) (.t 234)), none, false⟩,
        ⟨some 236, .p (.move  (.t 0)), none, false⟩,
        ⟨some 237, .p (.bin .rem (.t 235) (.t 236)), none, false⟩,
        ⟨some 238, .mkrow y_t_int64 1 1 [.int .i64 0] [(0, (.t 237))], none, false⟩,
        ⟨some 239, .append y_t_int64 1 8 (.t 230) (.t 238), none, false⟩,
        ⟨some 22, .p (.move  (.t 239)), none, false⟩]))))
   (.region false [⟨some 213, .p (.move  (.t 23)), none, false⟩,
     ⟨some 214, .p (.bin .add (.t 213) (.c (.int .i64 1))), none, false⟩,
     ⟨some 23, .p (.move  (.t 214)), none, false⟩]))
def q_spec_l08Weierstrass_4 (a0 a1 a2 a7 a21 a22 a23 : Value) (h : Hp) (K K0 : Kont) : Prop :=
  bindO (binV .leq a23 a1) fun v212 => condM v212 (bindO (indexAddrV 1 a2 (.int .i64 2)) fun v216 => bindO (ldV 1 false h v216) fun v217 => bindO (indexAddrV 1 a7 a23) fun v220 => bindO (ldV 1 false h v220) fun v221 => bindO (binV .mul v217 v221) fun v222 => JN (fun J => bindO (binV .eql a23 (.int .i64 1)) fun v224 => condM v224 (bindO (indexAddrV 1 a2 (.int .i64 0)) fun v227 => bindO (ldV 1 false h v227) fun v228 => bindO (binV .add v222 v228) fun v229 => J [a0, a1, a2, a7, a21, a22, a23, v229] h) (J [a0, a1, a2, a7, a21, a22, a23, v222] h)) fun vs h1 => ∀ e : Env, [e 0, e 1, e 2, e 7, e 21, e 22, e 23, e 24] = vs → bindO (binV .rem (e 24) (e 0)) fun v234 => bindO (binV .sub (e 0) v234) fun v235 => bindO (binV .rem v235 (e 0)) fun v237 => bindO (rowV 1 1 [.int .i64 0] [(0, v237)]) fun c238 => newB h1 ⟨c238, y_t_int64, true⟩ fun b238 h2 => bindVH (appendV y_t_int64 1 h2 (e 22) (.slice (some ⟨b238, 0, none⟩) 1 1)) fun v239 h3 => bindO (binV .add (e 23) (.int .i64 1)) fun v214 => K [(e 0), (e 1), (e 2), (e 7), (e 21), v239, v214] h3) (K0 [a0, a1, a21, a22] h)
theorem wl_spec_l08Weierstrass_4 {a0 a1 a2 a7 a21 a22 a23 : Value} {h : Hp} {K K0 : Kont} (H : q_spec_l08Weierstrass_4 a0 a1 a2 a7 a21 a22 a23 h K K0) : ∀ e : Env, [e 0, e 1, e 2, e 7, e 21, e 22, e 23] = [a0, a1, a2, a7, a21, a22, a23] → V FF l_spec_l08Weierstrass_4 (qsel [0, 1, 2, 7, 21, 22, 23] K [(.exit 8, [0, 1, 21, 22], K0)]) ⟨e, h⟩ := by
  intro e he; cases he; exact Eq.mp (by kernel_rfl) H
def y_spec_l08Weierstrass : YC :=
  .seq (.region false [⟨some 6, .p (.move  (.c (.slice none 0 0))), none, false⟩])
  (.seq (.region false [⟨some 26, .p (.move  (.t 0)), none, false⟩,
     ⟨some 27, .p (.move  (.t 1)), none, false⟩,
     ⟨some 28, .p (.bin .add (.t 27) (.c (.int .i64 1))), none, false⟩,
     ⟨some 29, .p (.move  (.t 2)), none, false⟩,
     ⟨some 30, .call (.c (.func (.func n_spec_l08Series) #[] #[])) [(.t 26), (.t 28), (.t 29)], none, false⟩,
     ⟨some 7, .p (.move  (.t 30)), none, false⟩])
   (.seq (.region false [⟨some 31, .p (.move  (.t 1)), none, false⟩,
      ⟨some 32, .call (.c (.func (.func n_spec_l03Zero) #[] #[])) [(.t 31)], none, false⟩,
      ⟨some 8, .p (.move  (.t 32)), none, false⟩])
    (.seq (.seq (.region false [⟨some 9, .p (.move  (.c (.int .i64 1))), none, false⟩])
      (.block 0
       (.loop [0, 1, 2, 7, 8, 9] [(.exit 0, [0, 1, 2, 7, 8])] l_spec_l08Weierstrass_1)))
     (.seq (.region false [⟨some 57, .p (.move  (.t 1)), none, false⟩,
        ⟨some 58, .call (.c (.func (.func n_spec_l03Zero) #[] #[])) [(.t 57)], none, false⟩,
        ⟨some 59, .p (.move  (.t 1)), none, false⟩,
        ⟨some 60, .call (.c (.func (.func n_spec_l03Zero) #[] #[])) [(.t 59)], none, false⟩,
        ⟨some 11, .p (.move  (.t 58)), none, false⟩,
        ⟨some 12, .p (.move  (.t 60)), none, false⟩])
      (.seq (.region false [⟨some 61, .p (.move  (.t 11)), none, false⟩,
         ⟨some 62, .p (.indexAddr 1 (.t 61) (.c (.int .i64 1))), none, false⟩,
         ⟨some 63, .load 1 false (.t 62), none, false⟩,
         ⟨some 64, .p (.indexAddr 1 (.t 63) (.c (.int .i64 0))), none, false⟩,
         ⟨none, .store 1 (.t 64) (.c (.int .i64 1)), none, false⟩])
       (.seq (.seq (.region false [⟨some 13, .p (.move  (.c (.int .i64 0))), none, false⟩])
         (.block 4
          (.loop [0, 1, 2, 7, 8, 11, 12, 13] [(.exit 4, [0, 1, 2, 7, 8, 11, 12])] l_spec_l08Weierstrass_2)))
        (.seq (.region false [⟨some 79, .p (.move  (.t 0)), none, false⟩,
           ⟨some 80, .p (.move  (.t 12)), none, false⟩,
           ⟨some 81, .p (.move  (.t 0)), none, false⟩,
           ⟨some 82, .p (.move  (.t 0)), none, false⟩,
           ⟨some 83, .p (.bin .sub (.t 82) (.c (.int .i64 1))), none, false⟩,
           ⟨some 84, .p (.move  (.t 0)), none, false⟩,
           ⟨some 85, .p (.move  (.t 8)), none, false⟩,
           ⟨some 86, .p (.move  (.t 11)), none, false⟩,
           ⟨some 87, .call (.c (.func (.func n_spec_l03Times) #[] #[])) [(.t 84), (.t 85), (.t 86)], none, false⟩,
           ⟨some 88, .call (.c (.func (.func n_spec_l03Scale) #[] #[])) [(.t 81), (.t 83), (.t 87)], none, false⟩,
           ⟨some 89, .call (.c (.func (.func n_spec_l03Add) #[] #[])) [(.t 79), (.t 80), (.t 88)], none, false⟩,
           ⟨some 14, .p (.move  (.t 89)), none, false⟩])
         (.seq (.region false [⟨some 90, .p (.move  (.t 0)), none, false⟩,
            ⟨some 91, .p (.move  (.t 8)), none, false⟩,
            ⟨some 92, .p (.move  (.t 8)), none, false⟩,
            ⟨some 93, .call (.c (.func (.func n_spec_l03Times) #[] #[])) [(.t 90), (.t 91), (.t 92)], none, false⟩,
            ⟨some 15, .p (.move  (.t 93)), none, false⟩])
          (.seq (.region true [⟨some 94, .p (.move  (.t 0)), none, false⟩,
             ⟨some 95, .p (.move  (.t 0)), none, false⟩,
             ⟨some 96, .p (.move  (.t 2)), none, false⟩,
             ⟨some 97, .p (.indexAddr 1 (.t 96) (.c (.int .i64 0))), none, false⟩,
             ⟨some 98, .load 1 false (.t 97), none, false⟩,
             ⟨some 99, .p (.move  (.t 8)), none, false⟩,
             ⟨some 100, .call (.c (.func (.func n_spec_l03Scale) #[] #[])) [(.t 95), (.t 98), (.t 99)], none, true⟩,
             ⟨some 101, .p (.move  (.t 0)), none, false⟩,
             ⟨some 102, .p (.move  (.t 2)), none, false⟩,
             ⟨some 103, .p (.indexAddr 1 (.t 102) (.c (.int .i64 1))), none, false⟩,
             ⟨some 104, .load 1 false (.t 103), none, true⟩,
             ⟨some 105, .p (.move  (.t 14)), none, false⟩,
             ⟨some 106, .call (.c (.func (.func n_spec_l03Scale) #[] #[])) [(.t 101), (.t 104), (.t 105)], none, false⟩,
             ⟨some 107, .call (.c (.func (.func n_spec_l03Add) #[] #[])) [(.t 94), (.t 100), (.t 106)], none, false⟩,
             ⟨some 16, .p (.move  (.t 107)), none, false⟩])
           (.seq (.region false [⟨some 108, .p (.move  (.t 0)), none, false⟩,
              ⟨some 109, .p (.move  (.t 16)), none, false⟩,
              ⟨some 110, .p (.move  (.t 0)), none, false⟩,
              ⟨some 111, .p (.move  (.t 2)), none, false⟩,
              ⟨some 112, .p (.indexAddr 1 (.t 111) (.c (.int .i64 2))), none, false⟩,
              ⟨some 113, .load 1 false (.t 112), none, false⟩,
              ⟨some 114, .p (.move  (.t 15)), none, false⟩,
              ⟨some 115, .call (.c (.func (.func n_spec_l03Scale) #[] #[])) [(.t 110), (.t 113), (.t 114)], none, false⟩,
              ⟨some 116, .call (.c (.func (.func n_spec_l03Add) #[] #[])) [(.t 108), (.t 109), (.t 115)], none, false⟩,
              ⟨some 16, .p (.move  (.t 116)), none, false⟩])
            (.seq (.region true [⟨some 117, .p (.move  (.t 0)), none, false⟩,
               ⟨some 118, .p (.move  (.t 16)), none, false⟩,
               ⟨some 119, .p (.move  (.t 0)), none, false⟩,
               ⟨some 120, .p (.move  (.t 2)), none, false⟩,
               ⟨some 121, .p (.indexAddr 1 (.t 120) (.c (.int .i64 3))), none, false⟩,
               ⟨some 122, .load 1 false (.t 121), none, true⟩,
               ⟨some 123, .p (.bin .mul (.c (.int .i64 2)) (.t 122)), none, false⟩,
               ⟨some 124, .p (.move  (.t 0)), none, false⟩,
               ⟨some 125, .p (.bin .rem (.t 123) (.t 124)), none, false⟩,
               ⟨some 126, .p (.move  (.t 0)), none, false⟩,
               ⟨some 127, .p (.move  (.t 8)), none, false⟩,
               ⟨some 128, .p (.move  (.t 14)), none, false⟩,
               ⟨some 129, .call (.c (.func (.func n_spec_l03Times) #[] #[])) [(.t 126), (.t 127), (.t 128)], none, true⟩,
               ⟨some 130, .call (.c (.func (.func n_spec_l03Scale) #[] #[])) [(.t 119), (.t 125), (.t 129)], none, false⟩,
               ⟨some 131, .call (.c (.func (.func n_spec_l03Add) #[] #[])) [(.t 117), (.t 118), (.t 130)], none, false⟩,
               ⟨some 16, .p (.move  (.t 131)), none, false⟩])
             (.seq (.region true [⟨some 132, .p (.move  (.t 0)), none, false⟩,
                ⟨some 133, .p (.move  (.t 16)), none, false⟩,
                ⟨some 134, .p (.move  (.t 0)), none, false⟩,
                ⟨some 135, .p (.move  (.t 2)), none, false⟩,
                ⟨some 136, .p (.indexAddr 1 (.t 135) (.c (.int .i64 4))), none, false⟩,
                ⟨some 137, .load 1 false (.t 136), none, true⟩,
                ⟨some 138, .p (.bin .mul (.c (.int .i64 3)) (.t 137)), none, false⟩,
                ⟨some 139, .p (.move  (.t 0)), none, false⟩,
                ⟨some 140, .p (.bin .rem (.t 138) (.t 139)), none, false⟩,
                ⟨some 141, .p (.move  (.t 0)), none, false⟩,
                ⟨some 142, .p (.move  (.t 15)), none, false⟩,
                ⟨some 143, .p (.move  (.t 14)), none, false⟩,
                ⟨some 144, .call (.c (.func (.func n_spec_l03Times) #[] #[])) [(.t 141), (.t 142), (.t 143)], none, true⟩,
                ⟨some 145, .call (.c (.func (.func n_spec_l03Scale) #[] #[])) [(.t 134), (.t 140), (.t 144)], none, false⟩,
                ⟨some 146, .call (.c (.func (.func n_spec_l03Add) #[] #[])) [(.t 132), (.t 133), (.t 145)], none, false⟩,
                ⟨some 16, .p (.move  (.t 146)), none, false⟩])
              (.seq (.region true [⟨some 147, .p (.move  (.t 0)), none, false⟩,
                 ⟨some 148, .p (.move  (.t 0)), none, false⟩,
                 ⟨some 149, .p (.move  (.t 2)), none, false⟩,
                 ⟨some 150, .p (.indexAddr 1 (.t 149) (.c (.int .i64 1))), none, false⟩,
                 ⟨some 151, .load 1 false (.t 150), none, false⟩,
                 ⟨some 152, .p (.move  (.t 8)), none, false⟩,
                 ⟨some 153, .call (.c (.func (.func n_spec_l03Scale) #[] #[])) [(.t 148), (.t 151), (.t 152)], none, true⟩,
                 ⟨some 154, .p (.move  (.t 0)), none, false⟩,
                 ⟨some 155, .p (.move  (.t 2)), none, false⟩,
                 ⟨some 156, .p (.indexAddr 1 (.t 155) (.c (.int .i64 3))), none, false⟩,
                 ⟨some 157, .load 1 false (.t 156), none, true⟩,
                 ⟨some 158, .p (.move  (.t 15)), none, false⟩,
                 ⟨some 159, .call (.c (.func (.func n_spec_l03Scale) #[] #[])) [(.t 154), (.t 157), (.t 158)], none, false⟩,
                 ⟨some 160, .call (.c (.func (.func n_spec_l03Add) #[] #[])) [(.t 147), (.t 153), (.t 159)], none, false⟩,
                 ⟨some 17, .p (.move  (.t 160)), none, false⟩])
               (.seq (.region true [⟨some 161, .p (.move  (.t 0)), none, false⟩,
                  ⟨some 162, .p (.move  (.t 17)), none, false⟩,
                  ⟨some 163, .p (.move  (.t 0)), none, false⟩,
                  ⟨some 164, .p (.move  (.t 2)), none, false⟩,
                  ⟨some 165, .p (.indexAddr 1 (.t 164) (.c (.int .i64 4))), none, false⟩,
                  ⟨some 166, .load 1 false (.t 165), none, true⟩,
                  ⟨some 167, .p (.move  (.t 0)), none, false⟩,
                  ⟨some 168, .p (.move  (.t 15)), none, false⟩,
                  ⟨some 169, .p (.move  (.t 8)), none, false⟩,
                  ⟨some 170, .call (.c (.func (.func n_spec_l03Times) #[] #[])) [(.t 167), (.t 168), (.t 169)], none, true⟩,
                  ⟨some 171, .call (.c (.func (.func n_spec_l03Scale) #[] #[])) [(.t 163), (.t 166), (.t 170)], none, false⟩,
                  ⟨some 172, .call (.c (.func (.func n_spec_l03Add) #[] #[])) [(.t 161), (.t 162), (.t 171)], none, false⟩,
                  ⟨some 17, .p (.move  (.t 172)), none, false⟩])
                (.seq (.region false [⟨some 173, .mkrow y_t_int64 1 0 [.int .i64 0] [], none, false⟩,
                   ⟨some 18, .p (.move  (.t 173)), none, false⟩])
                 (.seq (.seq (.region false [⟨some 19, .p (.move  (.c (.int .i64 0))), none, false⟩])
                   (.block 6
                    (.loop [0, 1, 2, 7, 11, 16, 17, 18, 19] [(.exit 6, [0, 1, 2, 7, 11, 16, 17, 18])] l_spec_l08Weierstrass_3)))
                  (.seq (.region false [⟨some 189, .p (.move  (.t 0)), none, false⟩,
                     ⟨some 190, .p (.move  (.t 16)), none, false⟩,
                     ⟨some 191, .p (.move  (.t 0)), none, false⟩,
                     ⟨some 192, .p (.move  (.t 18)), none, false⟩,
                     ⟨some 193, .p (.move  (.t 17)), none, false⟩,
                     ⟨some 194, .call (.c (.func (.func n_spec_l03After) #[] #[])) [(.t 191), (.t 192), (.t 193)], none, false⟩,
                     ⟨some 195, .call (.c (.func (.func n_spec_l03Times) #[] #[])) [(.t 189), (.t 190), (.t 194)], none, false⟩,
                     ⟨some 20, .p (.move  (.t 195)), none, false⟩])
                   (.seq (.region false [⟨some 196, .p (.move  (.t 0)), none, false⟩,
                      ⟨some 197, .p (.move  (.t 0)), none, false⟩,
                      ⟨some 198, .p (.move  (.t 11)), none, false⟩,
                      ⟨some 199, .p (.move  (.t 11)), none, false⟩,
                      ⟨some 200, .call (.c (.func (.func n_spec_l03Turn) #[] #[])) [(.t 199)], none, false⟩,
                      ⟨some 201, .call (.c (.func (.func n_spec_l03Add) #[] #[])) [(.t 197), (.t 198), (.t 200)], none, false⟩,
                      ⟨some 202, .p (.move  (.t 20)), none, false⟩,
                      ⟨some 203, .call (.c (.func (.func n_spec_l03Add) #[] #[])) [(.t 196), (.t 201), (.t 202)], none, false⟩,
                      ⟨some 21, .p (.move  (.t 203)), none, false⟩])
                    (.seq (.region false [⟨some 204, .p (.move  (.t 0)), none, false⟩,
                       ⟨some 205, .p (.move  (.t 0)), none, false⟩,
                       ⟨some 206, .p (.bin .sub (.t 205) (.c (.int .i64 1))), none, false⟩,
                       ⟨some 207, .p (.move  (.t 21)), none, false⟩,
                       ⟨some 208, .call (.c (.func (.func n_spec_l03Scale) #[] #[])) [(.t 204), (.t 206), (.t 207)], none, false⟩,
                       ⟨some 21, .p (.move  (.t 208)), none, false⟩])
                     (.seq (.region false [⟨some 209, .mkrow y_t_int64 1 1 [.int .i64 0] [(0, (.c (.int .i64 1)))], none, false⟩,
                        ⟨some 22, .p (.move  (.t 209)), none, false⟩])
                      (.seq (.seq (.region false [⟨some 23, .p (.move  (.c (.int .i64 1))), none, false⟩])
                        (.block 8
                         (.loop [0, 1, 2, 7, 21, 22, 23] [(.exit 8, [0, 1, 21, 22])] l_spec_l08Weierstrass_4)))
                       (.seq (.region false [⟨some 240, .p (.move  (.t 1)), none, false⟩,
                          ⟨some 241, .p (.bin .add (.t 240) (.c (.int .i64 1))), none, false⟩,
                          ⟨some 242, .make y_t_int64 1 8 [.int .i64 0] (.t 241), none, false⟩,
                          ⟨some 25, .p (.move  (.t 242)), none, false⟩])
                        (.seq (.region false [⟨some 243, .p (.move  (.t 25)), none, false⟩,
                           ⟨some 244, .p (.move  (.t 0)), none, false⟩,
                           ⟨some 245, .p (.bin .sub (.t 244) (.c (.int .i64 1))), none, false⟩,
                           ⟨some 246, .p (.indexAddr 1 (.t 243) (.c (.int .i64 1))), none, false⟩,
                           ⟨none, .store 1 (.t 246) (.t 245), none, false⟩])
                         (.seq (.region false [⟨some 247, .p (.move  (.t 0)), none, false⟩,
                            ⟨some 248, .p (.move  (.t 0)), none, false⟩,
                            ⟨some 249, .p (.move  (.t 25)), none, false⟩,
                            ⟨some 250, .p (.move  (.t 0)), none, false⟩,
                            ⟨some 251, .p (.move  (.t 22)), none, false⟩,
                            ⟨some 252, .p (.move  (.t 1)), none, false⟩,
                            ⟨some 253, .call (.c (.func (.func n_spec_l02Inverse) #[] #[])) [(.t 250), (.t 251), (.t 252)], none, false⟩,
                            ⟨some 254, .p (.move  (.t 1)), none, false⟩,
                            ⟨some 255, .call (.c (.func (.func n_spec_l02Times) #[] #[])) [(.t 248), (.t 249), (.t 253), (.t 254)], none, false⟩,
                            ⟨some 256, .p (.move  (.t 21)), none, false⟩,
                            ⟨some 257, .call (.c (.func (.func n_spec_l03After) #[] #[])) [(.t 247), (.t 255), (.t 256)], none, false⟩,
                            ⟨some 6, .p (.move  (.t 257)), none, false⟩])
                          (.ret)))))))))))))))))))))))))
theorem c_spec_l08Weierstrass : FF n_spec_l08Weierstrass = some ⟨258, y_spec_l08Weierstrass.er, [.tmp 6]⟩ := by kernel_rfl
def p_spec_l08Weierstrass (a0 a1 a2 : Value) (h : Hp) (R : Value → Hp → Prop) : Prop :=
  bindO (binV .add a1 (.int .i64 1)) fun v28 => CallW FF n_spec_l08Series [a0, v28, a2] h fun v30 h1 => CallW FF n_spec_l03Zero [a1] h1 fun v32 h2 => LP FF (YC.er l_spec_l08Weierstrass_1) [0, 1, 2, 7, 8, 9] [(.exit 0, [0, 1, 2, 7, 8], fun vs h3 => ∀ e : Env, [e 0, e 1, e 2, e 7, e 8] = vs → CallW FF n_spec_l03Zero [(e 1)] h3 fun v58 h4 => CallW FF n_spec_l03Zero [(e 1)] h4 fun v60 h5 => bindO (indexAddrV 1 v58 (.int .i64 1)) fun v62 => bindO (ldV 1 false h5 v62) fun v63 => bindO (indexAddrV 1 v63 (.int .i64 0)) fun v64 => bindO (storeV 1 h5 (.int .i64 1) v64) fun h6 => LP FF (YC.er l_spec_l08Weierstrass_2) [0, 1, 2, 7, 8, 11, 12, 13] [(.exit 4, [0, 1, 2, 7, 8, 11, 12], fun vs_1 h7 => ∀ e_1 : Env, [e_1 0, e_1 1, e_1 2, e_1 7, e_1 8, e_1 11, e_1 12] = vs_1 → bindO (binV .sub (e_1 0) (.int .i64 1)) fun v83 => CallW FF n_spec_l03Times [(e_1 0), (e_1 8), (e_1 11)] h7 fun v87 h8 => CallW FF n_spec_l03Scale [(e_1 0), v83, v87] h8 fun v88 h9 => CallW FF n_spec_l03Add [(e_1 0), (e_1 12), v88] h9 fun v89 h10 => CallW FF n_spec_l03Times [(e_1 0), (e_1 8), (e_1 8)] h10 fun v93 h11 => bindO (indexAddrV 1 (e_1 2) (.int .i64 0)) fun v97 => bindO (ldV 1 false h11 v97) fun v98 => CallW FF n_spec_l03Scale [(e_1 0), v98, (e_1 8)] h11 fun v100 h12 => keepB h11.nx h11 h12 ∧ (bindO (indexAddrV 1 (e_1 2) (.int .i64 1)) fun v103 => inB h11.nx v103 ∧ (bindO (ldV 1 false h12 v103) fun v104 => CallW FF n_spec_l03Scale [(e_1 0), v104, v89] h12 fun v106 h13 => CallW FF n_spec_l03Add [(e_1 0), v100, v106] h13 fun v107 h14 => bindO (indexAddrV 1 (e_1 2) (.int .i64 2)) fun v112 => bindO (ldV 1 false h14 v112) fun v113 => CallW FF n_spec_l03Scale [(e_1 0), v113, v93] h14 fun v115 h15 => CallW FF n_spec_l03Add [(e_1 0), v107, v115] h15 fun v116 h16 => bindO (indexAddrV 1 (e_1 2) (.int .i64 3)) fun v121 => inB h16.nx v121 ∧ (bindO (ldV 1 false h16 v121) fun v122 => bindO (binV .mul (.int .i64 2) v122) fun v123 => bindO (binV .rem v123 (e_1 0)) fun v125 => CallW FF n_spec_l03Times [(e_1 0), (e_1 8), v89] h16 fun v129 h17 => keepB h16.nx h16 h17 ∧ (CallW FF n_spec_l03Scale [(e_1 0), v125, v129] h17 fun v130 h18 => CallW FF n_spec_l03Add [(e_1 0), v116, v130] h18 fun v131 h19 => bindO (indexAddrV 1 (e_1 2) (.int .i64 4)) fun v136 => inB h19.nx v136 ∧ (bindO (ldV 1 false h19 v136) fun v137 => bindO (binV .mul (.int .i64 3) v137) fun v138 => bindO (binV .rem v138 (e_1 0)) fun v140 => CallW FF n_spec_l03Times [(e_1 0), v93, v89] h19 fun v144 h20 => keepB h19.nx h19 h20 ∧ (CallW FF n_spec_l03Scale [(e_1 0), v140, v144] h20 fun v145 h21 => CallW FF n_spec_l03Add [(e_1 0), v131, v145] h21 fun v146 h22 => bindO (indexAddrV 1 (e_1 2) (.int .i64 1)) fun v150 => bindO (ldV 1 false h22 v150) fun v151 => CallW FF n_spec_l03Scale [(e_1 0), v151, (e_1 8)] h22 fun v153 h23 => keepB h22.nx h22 h23 ∧ (bindO (indexAddrV 1 (e_1 2) (.int .i64 3)) fun v156 => inB h22.nx v156 ∧ (bindO (ldV 1 false h23 v156) fun v157 => CallW FF n_spec_l03Scale [(e_1 0), v157, v93] h23 fun v159 h24 => CallW FF n_spec_l03Add [(e_1 0), v153, v159] h24 fun v160 h25 => bindO (indexAddrV 1 (e_1 2) (.int .i64 4)) fun v165 => inB h25.nx v165 ∧ (bindO (ldV 1 false h25 v165) fun v166 => CallW FF n_spec_l03Times [(e_1 0), v93, (e_1 8)] h25 fun v170 h26 => keepB h25.nx h25 h26 ∧ (CallW FF n_spec_l03Scale [(e_1 0), v166, v170] h26 fun v171 h27 => CallW FF n_spec_l03Add [(e_1 0), v160, v171] h27 fun v172 h28 => bindO (rowV 1 0 [.int .i64 0] []) fun c173 => newB h28 ⟨c173, y_t_int64, true⟩ fun b173 h29 => LP FF (YC.er l_spec_l08Weierstrass_3) [0, 1, 2, 7, 11, 16, 17, 18, 19] [(.exit 6, [0, 1, 2, 7, 11, 16, 17, 18], fun vs_2 h30 => ∀ e_2 : Env, [e_2 0, e_2 1, e_2 2, e_2 7, e_2 11, e_2 16, e_2 17, e_2 18] = vs_2 → CallW FF n_spec_l03After [(e_2 0), (e_2 18), (e_2 17)] h30 fun v194 h31 => CallW FF n_spec_l03Times [(e_2 0), (e_2 16), v194] h31 fun v195 h32 => CallW FF n_spec_l03Turn [(e_2 11)] h32 fun v200 h33 => CallW FF n_spec_l03Add [(e_2 0), (e_2 11), v200] h33 fun v201 h34 => CallW FF n_spec_l03Add [(e_2 0), v201, v195] h34 fun v203 h35 => bindO (binV .sub (e_2 0) (.int .i64 1)) fun v206 => CallW FF n_spec_l03Scale [(e_2 0), v206, v203] h35 fun v208 h36 => bindO (rowV 1 1 [.int .i64 0] [(0, (.int .i64 1))]) fun c209 => newB h36 ⟨c209, y_t_int64, true⟩ fun b209 h37 => LP FF (YC.er l_spec_l08Weierstrass_4) [0, 1, 2, 7, 21, 22, 23] [(.exit 8, [0, 1, 21, 22], fun vs_3 h38 => ∀ e_3 : Env, [e_3 0, e_3 1, e_3 21, e_3 22] = vs_3 → bindO (binV .add (e_3 1) (.int .i64 1)) fun v241 => bindO (makN v241) fun c242 => newB h38 ⟨reps c242 [.int .i64 0], y_t_int64, true⟩ fun b242 h39 => bindO (binV .sub (e_3 0) (.int .i64 1)) fun v245 => bindO (indexAddrV 1 (.slice (some ⟨b242, 0, none⟩) c242 1) (.int .i64 1)) fun v246 => bindO (storeV 1 h39 v245 v246) fun h40 => CallW FF n_spec_l02Inverse [(e_3 0), (e_3 22), (e_3 1)] h40 fun v253 h41 => CallW FF n_spec_l02Times [(e_3 0), (.slice (some ⟨b242, 0, none⟩) c242 1), v253, (e_3 1)] h41 fun v255 h42 => CallW FF n_spec_l03After [(e_3 0), v255, (e_3 21)] h42 fun v257 h43 => R v257 h43)] [(e_2 0), (e_2 1), (e_2 2), (e_2 7), v208, (.slice (some ⟨b209, 0, none⟩) 1 1), (.int .i64 1)] h37)] [(e_1 0), (e_1 1), (e_1 2), (e_1 7), (e_1 11), v146, v172, (.slice (some ⟨b173, 0, none⟩) 0 1), (.int .i64 0)] h29)))))))))))] [(e 0), (e 1), (e 2), (e 7), (e 8), v58, v60, (.int .i64 0)] h6)] [a0, a1, a2, v30, v32, (.int .i64 1)] h2
theorem w_spec_l08Weierstrass {a0 a1 a2 : Value} {h : Hp} {R : Value → Hp → Prop} (H : p_spec_l08Weierstrass a0 a1 a2 h R) : CallW FF n_spec_l08Weierstrass [a0, a1, a2] h R := callV_fin c_spec_l08Weierstrass (Eq.mp (by kernel_rfl) H)
def l_spec_l08DrawList_0 : YC :=
  .seq (.seq (.region false [⟨some 8, .p (.move  (.t 6)), none, false⟩,
     ⟨some 9, .p (.bin .lss (.t 8) (.c (.int .i64 5))), none, false⟩])
   (.cond (.t 9)
    (.skip)
    (.exit 0)))
  (.seq (.block 1
    (.region false [⟨some 12, .p (.move  (.t 5)), none, false⟩,
      ⟨some 13, .p (.move  (.t 0)), none, false⟩,
      ⟨some 14, .p (.move  (.t 0)), none, false⟩,
      ⟨some 15, .p (.move  (.t 1)), none, false⟩,
      ⟨some 16, .call (.c (.func (.func n_spec_l01Next) #[] #[])) [(.t 14), (.t 15)], none, false⟩,
      ⟨some 17, .mkrow y_t_int64 1 4 [.int .i64 0] [(0, (.c (.int .i64 0))), (1, (.c (.int .i64 0))), (2, (.c (.int .i64 1))), (3, (.t 16))], none, false⟩,
      ⟨some 18, .call (.c (.func (.func n_spec_l01Pick) #[] #[])) [(.t 13), (.t 17)], none, false⟩,
      ⟨some 19, .mkrow y_t_int64 1 1 [.int .i64 0] [(0, (.t 18))], none, false⟩,
      ⟨some 20, .append y_t_int64 1 8 (.t 12) (.t 19), none, false⟩,
      ⟨some 5, .p (.move  (.t 20)), none, false⟩]))
   (.region false [⟨some 10, .p (.move  (.t 6)), none, false⟩,
     ⟨some 11, .p (.bin .add (.t 10) (.c (.int .i64 1))), none, false⟩,
     ⟨some 6, .p (.move  (.t 11)), none, false⟩]))
def q_spec_l08DrawList_0 (a0 a1 a5 a6 : Value) (h : Hp) (K K0 : Kont) : Prop :=
  bindO (binV .lss a6 (.int .i64 5)) fun v9 => condM v9 (CallW FF n_spec_l01Next [a0, a1] h fun v16 h1 => bindO (rowV 1 4 [.int .i64 0] [(0, (.int .i64 0)), (1, (.int .i64 0)), (2, (.int .i64 1)), (3, v16)]) fun c17 => newB h1 ⟨c17, y_t_int64, true⟩ fun b17 h2 => CallW FF n_spec_l01Pick [a0, (.slice (some ⟨b17, 0, none⟩) 4 1)] h2 fun v18 h3 => bindO (rowV 1 1 [.int .i64 0] [(0, v18)]) fun c19 => newB h3 ⟨c19, y_t_int64, true⟩ fun b19 h4 => bindVH (appendV y_t_int64 1 h4 a5 (.slice (some ⟨b19, 0, none⟩) 1 1)) fun v20 h5 => bindO (binV .add a6 (.int .i64 1)) fun v11 => K [a0, a1, v20, v11] h5) (K0 [a5] h)
theorem wl_spec_l08DrawList_0 {a0 a1 a5 a6 : Value} {h : Hp} {K K0 : Kont} (H : q_spec_l08DrawList_0 a0 a1 a5 a6 h K K0) : ∀ e : Env, [e 0, e 1, e 5, e 6] = [a0, a1, a5, a6] → V FF l_spec_l08DrawList_0 (qsel [0, 1, 5, 6] K [(.exit 0, [5], K0)]) ⟨e, h⟩ := by
  intro e he; cases he; exact Eq.mp (by kernel_rfl) H
def y_spec_l08DrawList : YC :=
  .seq (.region false [⟨some 4, .p (.move  (.c (.slice none 0 0))), none, false⟩])
  (.seq (.region false [⟨some 7, .mkrow y_t_int64 1 0 [.int .i64 0] [], none, false⟩,
     ⟨some 5, .p (.move  (.t 7)), none, false⟩])
   (.seq (.seq (.region false [⟨some 6, .p (.move  (.c (.int .i64 0))), none, false⟩])
     (.block 0
      (.loop [0, 1, 5, 6] [(.exit 0, [5])] l_spec_l08DrawList_0)))
    (.seq (.region false [⟨some 21, .p (.move  (.t 5)), none, false⟩,
       ⟨some 4, .p (.move  (.t 21)), none, false⟩])
     (.ret))))
theorem c_spec_l08DrawList : FF n_spec_l08DrawList = some ⟨22, y_spec_l08DrawList.er, [.tmp 4]⟩ := by kernel_rfl
def p_spec_l08DrawList (a0 a1 : Value) (h : Hp) (R : Value → Hp → Prop) : Prop :=
  bindO (rowV 1 0 [.int .i64 0] []) fun c7 => newB h ⟨c7, y_t_int64, true⟩ fun b7 h1 => LP FF (YC.er l_spec_l08DrawList_0) [0, 1, 5, 6] [(.exit 0, [5], fun vs h2 => ∀ e : Env, [e 5] = vs → R (e 5) h2)] [a0, a1, (.slice (some ⟨b7, 0, none⟩) 0 1), (.int .i64 0)] h1
theorem w_spec_l08DrawList {a0 a1 : Value} {h : Hp} {R : Value → Hp → Prop} (H : p_spec_l08DrawList a0 a1 h R) : CallW FF n_spec_l08DrawList [a0, a1] h R := callV_fin c_spec_l08DrawList (Eq.mp (by kernel_rfl) H)
def l_spec_l02Reverse_0 : YC :=
  .seq (.seq (.region false [⟨some 22, .p (.move  (.t 9)), none, false⟩,
     ⟨some 23, .p (.move  (.t 2)), none, false⟩,
     ⟨some 24, .p (.bin .leq (.t 22) (.t 23)), none, false⟩])
   (.cond (.t 24)
    (.skip)
    (.exit 0)))
  (.seq (.block 1
    (.seq (.region false [⟨some 27, .p (.move  (.t 0)), none, false⟩,
       ⟨some 28, .p (.move  (.t 1)), none, false⟩,
       ⟨some 29, .p (.move  (.t 7)), none, false⟩,
       ⟨some 30, .p (.move  (.t 9)), none, false⟩,
       ⟨some 31, .call (.c (.func (.func n_spec_l02Compose) #[] #[])) [(.t 27), (.t 28), (.t 29), (.t 30)], none, false⟩,
       ⟨some 10, .p (.move  (.t 31)), none, false⟩])
     (.region false [⟨some 32, .p (.move  (.t 7)), none, false⟩,
       ⟨some 33, .p (.move  (.t 9)), none, false⟩,
       ⟨some 34, .p (.move  (.t 0)), none, false⟩,
       ⟨some 35, .p (.move  (.t 10)), none, false⟩,
       ⟨some 36, .p (.move  (.t 9)), none, false⟩,
       ⟨some 37, .p (.indexAddr 1 (.t 35) (.t 36)), none, false⟩,
       ⟨some 38, .load 1 false (.t 37), none, false⟩,
       ⟨some 39, .p (.bin .sub (.t 34) (.t 38)), none, false⟩,
       ⟨some 40, .p (.move  (.t 8)), none, false⟩,
       ⟨some 41, .p (.bin .mul (.t 39) (.t 40)), none, false⟩,
       ⟨some 42, .p (.move  (.t 0)), none, false⟩,
       ⟨some 43, .p (.bin .rem (.t 41) (.t 42)), none, false⟩,
       ⟨some 44, .p (.indexAddr 1 (.t 32) (.t 33)), none, false⟩,
       ⟨none, .store 1 (.t 44) (.t 43), none, false⟩])))
   (.region false [⟨some 25, .p (.move  (.t 9)), none, false⟩,
     ⟨some 26, .p (.bin .add (.t 25) (.c (.int .i64 1))), none, false⟩,
     ⟨some 9, .p (.move  (.t 26)), none, false⟩]))
def q_spec_l02Reverse_0 (a0 a1 a2 a7 a8 a9 : Value) (h : Hp) (K K0 : Kont) : Prop :=
  bindO (binV .leq a9 a2) fun v24 => condM v24 (CallW FF n_spec_l02Compose [a0, a1, a7, a9] h fun v31 h1 => bindO (indexAddrV 1 v31 a9) fun v37 => bindO (ldV 1 false h1 v37) fun v38 => bindO (binV .sub a0 v38) fun v39 => bindO (binV .mul v39 a8) fun v41 => bindO (binV .rem v41 a0) fun v43 => bindO (indexAddrV 1 a7 a9) fun v44 => bindO (storeV 1 h1 v43 v44) fun h2 => bindO (binV .add a9 (.int .i64 1)) fun v26 => K [a0, a1, a2, a7, a8, v26] h2) (K0 [a7] h)
theorem wl_spec_l02Reverse_0 {a0 a1 a2 a7 a8 a9 : Value} {h : Hp} {K K0 : Kont} (H : q_spec_l02Reverse_0 a0 a1 a2 a7 a8 a9 h K K0) : ∀ e : Env, [e 0, e 1, e 2, e 7, e 8, e 9] = [a0, a1, a2, a7, a8, a9] → V FF l_spec_l02Reverse_0 (qsel [0, 1, 2, 7, 8, 9] K [(.exit 0, [7], K0)]) ⟨e, h⟩ := by
  intro e he; cases he; exact Eq.mp (by kernel_rfl) H
def y_spec_l02Reverse : YC :=
  .seq (.region false [⟨some 6, .p (.move  (.c (.slice none 0 0))), none, false⟩])
  (.seq (.region false [⟨some 11, .p (.move  (.t 2)), none, false⟩,
     ⟨some 12, .p (.bin .add (.t 11) (.c (.int .i64 1))), none, false⟩,
     ⟨some 13, .make y_t_int64 1 8 [.int .i64 0] (.t 12), none, false⟩,
     ⟨some 7, .p (.move  (.t 13)), none, false⟩])
   (.seq (.region false [⟨some 14, .p (.move  (.t 0)), none, false⟩,
      ⟨some 15, .p (.move  (.t 1)), none, false⟩,
      ⟨some 16, .p (.indexAddr 1 (.t 15) (.c (.int .i64 1))), none, false⟩,
      ⟨some 17, .load 1 false (.t 16), none, false⟩,
      ⟨some 18, .call (.c (.func (.func n_spec_l01Inv) #[] #[])) [(.t 14), (.t 17)], none, false⟩,
      ⟨some 8, .p (.move  (.t 18)), none, false⟩])
    (.seq (.region false [⟨some 19, .p (.move  (.t 7)), none, false⟩,
       ⟨some 20, .p (.move  (.t 8)), none, false⟩,
       ⟨some 21, .p (.indexAddr 1 (.t 19) (.c (.int .i64 1))), none, false⟩,
       ⟨none, .store 1 (.t 21) (.t 20), none, false⟩])
     (.seq (.seq (.region false [⟨some 9, .p (.move  (.c (.int .i64 2))), none, false⟩])
       (.block 0
        (.loop [0, 1, 2, 7, 8, 9] [(.exit 0, [7])] l_spec_l02Reverse_0)))
      (.seq (.region false [⟨some 45, .p (.move  (.t 7)), none, false⟩,
         ⟨some 6, .p (.move  (.t 45)), none, false⟩])
       (.ret))))))
theorem c_spec_l02Reverse : FF n_spec_l02Reverse = some ⟨46, y_spec_l02Reverse.er, [.tmp 6]⟩ := by kernel_rfl
def p_spec_l02Reverse (a0 a1 a2 : Value) (h : Hp) (R : Value → Hp → Prop) : Prop :=
  bindO (binV .add a2 (.int .i64 1)) fun v12 => bindO (makN v12) fun c13 => newB h ⟨reps c13 [.int .i64 0], y_t_int64, true⟩ fun b13 h1 => bindO (indexAddrV 1 a1 (.int .i64 1)) fun v16 => bindO (ldV 1 false h1 v16) fun v17 => CallW FF n_spec_l01Inv [a0, v17] h1 fun v18 h2 => bindO (indexAddrV 1 (.slice (some ⟨b13, 0, none⟩) c13 1) (.int .i64 1)) fun v21 => bindO (storeV 1 h2 v18 v21) fun h3 => LP FF (YC.er l_spec_l02Reverse_0) [0, 1, 2, 7, 8, 9] [(.exit 0, [7], fun vs h4 => ∀ e : Env, [e 7] = vs → R (e 7) h4)] [a0, a1, a2, (.slice (some ⟨b13, 0, none⟩) c13 1), v18, (.int .i64 2)] h3
theorem w_spec_l02Reverse {a0 a1 a2 : Value} {h : Hp} {R : Value → Hp → Prop} (H : p_spec_l02Reverse a0 a1 a2 h R) : CallW FF n_spec_l02Reverse [a0, a1, a2] h R := callV_fin c_spec_l02Reverse (Eq.mp (by kernel_rfl) H)
def y_spec_l03Both2 : YC :=
  .seq (.region false [⟨some 6, .p (.move  (.c (.slice none 0 0))), none, false⟩])
  (.seq (.region false [⟨some 7, .p (.move  (.t 0)), none, false⟩,
     ⟨some 8, .p (.move  (.t 1)), none, false⟩,
     ⟨some 9, .p (.move  (.t 2)), none, false⟩,
     ⟨some 10, .p (.move  (.t 2)), none, false⟩,
     ⟨some 11, .call (.c (.func (.func n_spec_l03Both) #[] #[])) [(.t 7), (.t 8), (.t 9), (.t 10)], none, false⟩,
     ⟨some 6, .p (.move  (.t 11)), none, false⟩])
   (.ret))
theorem c_spec_l03Both2 : FF n_spec_l03Both2 = some ⟨12, y_spec_l03Both2.er, [.tmp 6]⟩ := by kernel_rfl
def p_spec_l03Both2 (a0 a1 a2 : Value) (h : Hp) (R : Value → Hp → Prop) : Prop :=
  CallW FF n_spec_l03Both [a0, a1, a2, a2] h fun v11 h1 => R v11 h1
theorem w_spec_l03Both2 {a0 a1 a2 : Value} {h : Hp} {R : Value → Hp → Prop} (H : p_spec_l03Both2 a0 a1 a2 h R) : CallW FF n_spec_l03Both2 [a0, a1, a2] h R := callV_fin c_spec_l03Both2 (Eq.mp (by kernel_rfl) H)
def l_slices_IndexFunc_Lint64_int64_0 : YC :=
  .seq (.region false [⟨some 9, .p (.bin .lss (.t 8) (.t 7)), none, false⟩])
  (.seq (.cond (.t 9)
    (.skip)
    (.exit 0))
   (.seq (.block 1
     (.seq (.region false [⟨some 10, .p (.move  (.t 8)), none, false⟩,
        ⟨some 5, .p (.move  (.t 10)), none, false⟩])
      (.seq (.region false [⟨some 11, .p (.move  (.t 1)), none, false⟩,
         ⟨some 12, .p (.move  (.t 0)), none, false⟩,
         ⟨some 13, .p (.move  (.t 5)), none, false⟩,
         ⟨some 14, .p (.indexAddr 1 (.t 12) (.t 13)), none, false⟩,
         ⟨some 15, .load 1 false (.t 14), none, false⟩,
         ⟨some 16, .call (.t 11) [(.t 15)], none, false⟩])
       (.cond (.t 16)
        (.seq (.region false [⟨some 17, .p (.move  (.t 5)), none, false⟩,
           ⟨some 4, .p (.move  (.t 17)), none, false⟩])
         (.ret))
        (.skip)))))
    (.region false [⟨some 18, .p (.bin .add (.t 8) (.c (.int .i64 1))), none, false⟩,
      ⟨some 8, .p (.move  (.t 18)), none, false⟩])))
def q_slices_IndexFunc_Lint64_int64_0 (a0 a1 a7 a8 : Value) (h : Hp) (K K0 K1 : Kont) : Prop :=
  bindO (binV .lss a8 a7) fun v9 => condM v9 (bindO (indexAddrV 1 a0 a8) fun v14 => bindO (ldV 1 false h v14) fun v15 => CallV FF a1 [v15] h fun v16 h1 => condM v16 (K1 [a8] h1) (bindO (binV .add a8 (.int .i64 1)) fun v18 => K [a0, a1, a7, v18] h1)) (K0 [] h)
theorem wl_slices_IndexFunc_Lint64_int64_0 {a0 a1 a7 a8 : Value} {h : Hp} {K K0 K1 : Kont} (H : q_slices_IndexFunc_Lint64_int64_0 a0 a1 a7 a8 h K K0 K1) : ∀ e : Env, [e 0, e 1, e 7, e 8] = [a0, a1, a7, a8] → V FF l_slices_IndexFunc_Lint64_int64_0 (qsel [0, 1, 7, 8] K [(.exit 0, [], K0), (.ret, [4], K1)]) ⟨e, h⟩ := by
  intro e he; cases he; exact Eq.mp (by kernel_rfl) H
def y_slices_IndexFunc_Lint64_int64 : YC :=
  .seq (.region false [⟨some 4, .p (.move  (.c (.int .i64 0))), none, false⟩])
  (.seq (.seq (.region false [⟨some 6, .p (.move  (.t 0)), none, false⟩,
      ⟨some 7, .p (.len  (.t 6)), none, false⟩,
      ⟨some 8, .p (.move  (.c (.int .i64 0))), none, false⟩])
    (.block 0
     (.loop [0, 1, 7, 8] [(.exit 0, []), (.ret, [4])] l_slices_IndexFunc_Lint64_int64_0)))
   (.seq (.region false [⟨some 4, .p (.move  (.c (.int .i64 (-1)))), none, false⟩])
    (.ret)))
theorem c_slices_IndexFunc_Lint64_int64 : FF n_slices_IndexFunc_Lint64_int64 = some ⟨19, y_slices_IndexFunc_Lint64_int64.er, [.tmp 4]⟩ := by kernel_rfl
def p_slices_IndexFunc_Lint64_int64 (a0 a1 : Value) (h : Hp) (R : Value → Hp → Prop) : Prop :=
  bindO (lenV  a0) fun v7 => LP FF (YC.er l_slices_IndexFunc_Lint64_int64_0) [0, 1, 7, 8] [(.exit 0, [], fun vs h1 => ∀ e : Env, [] = vs → R (.int .i64 (-1)) h1), (.ret, [4], fun vs h1 => ∀ e : Env, [e 4] = vs → R (e 4) h1)] [a0, a1, v7, (.int .i64 0)] h
theorem w_slices_IndexFunc_Lint64_int64 {a0 a1 : Value} {h : Hp} {R : Value → Hp → Prop} (H : p_slices_IndexFunc_Lint64_int64 a0 a1 h R) : CallW FF n_slices_IndexFunc_Lint64_int64 [a0, a1] h R := callV_fin c_slices_IndexFunc_Lint64_int64 (Eq.mp (by kernel_rfl) H)
def y_impl_Plane_number : YC :=
  .seq (.region false [⟨some 2, .box y_t_impl_Plane 2 (.t 0), none, false⟩,
    ⟨some 4, .box y_t_impl_Plane 2 (.c (.agg #[.int .i64 0, .slice none 0 0])), none, false⟩])
  (.seq (.region true [⟨some 6, .p (.fieldAddr 0 (.t 2)), none, false⟩,
     ⟨some 7, .load 1 false (.t 6), none, true⟩,
     ⟨some 8, .load 2 true (.t 2), none, false⟩,
     ⟨some 9, .call (.c (.func (.func n_impl_Plane_degree) #[] #[])) [(.t 8)], none, true⟩,
     ⟨some 10, .call (.c (.func (.func n_impl_emptyPlane) #[] #[])) [(.t 7), (.t 9)], none, false⟩,
     ⟨some 5, .box y_t_impl_Plane 2 (.c (.agg #[.int .i64 0, .slice none 0 0])), none, false⟩,
     ⟨none, .store 2 (.t 5) (.t 10), none, false⟩])
   (.seq (.region true [⟨some 11, .p (.fieldAddr 1 (.t 5)), none, false⟩,
      ⟨some 12, .load 1 false (.t 11), none, true⟩,
      ⟨some 13, .p (.indexAddr 1 (.t 12) (.c (.int .i64 0))), none, false⟩,
      ⟨some 14, .load 1 false (.t 13), none, true⟩,
      ⟨some 15, .p (.move  (.t 1)), none, false⟩,
      ⟨some 16, .p (.fieldAddr 0 (.t 2)), none, false⟩,
      ⟨some 17, .load 1 false (.t 16), none, false⟩,
      ⟨some 18, .call (.c (.func (.func n_impl_mod) #[] #[])) [(.t 15), (.t 17)], none, true⟩,
      ⟨some 19, .p (.indexAddr 1 (.t 14) (.c (.int .i64 0))), none, false⟩,
      ⟨none, .store 1 (.t 19) (.t 18), none, false⟩])
    (.seq (.region false [⟨some 20, .load 2 true (.t 5), none, false⟩,
       ⟨none, .store 2 (.t 4) (.t 20), none, false⟩])
     (.ret))))
theorem c_impl_Plane_number : FF n_impl_Plane_number = some ⟨21, y_impl_Plane_number.er, [.cell 4 2 true]⟩ := by kernel_rfl
def p_impl_Plane_number (a0 a1 : Value) (h : Hp) (R : Value → Hp → Prop) : Prop :=
  bindO (boxV 2 a0) fun c2 => newB h ⟨c2, y_t_impl_Plane, true⟩ fun b2 h1 => bindO (boxV 2 (.agg #[.int .i64 0, .slice none 0 0])) fun c4 => newB h1 ⟨c4, y_t_impl_Plane, true⟩ fun b4 h2 => bindO (fieldAddrV 0 (.pointer (some ⟨b2, 0, none⟩))) fun v6 => inB h2.nx v6 ∧ (bindO (ldV 1 false h2 v6) fun v7 => bindO (ldV 2 true h2 (.pointer (some ⟨b2, 0, none⟩))) fun v8 => CallW FF n_impl_Plane_degree [v8] h2 fun v9 h3 => keepB h2.nx h2 h3 ∧ (CallW FF n_impl_emptyPlane [v7, v9] h3 fun v10 h4 => bindO (boxV 2 (.agg #[.int .i64 0, .slice none 0 0])) fun c5 => newB h4 ⟨c5, y_t_impl_Plane, true⟩ fun b5 h5 => bindO (storeV 2 h5 v10 (.pointer (some ⟨b5, 0, none⟩))) fun h6 => bindO (fieldAddrV 1 (.pointer (some ⟨b5, 0, none⟩))) fun v11 => inB h6.nx v11 ∧ (bindO (ldV 1 false h6 v11) fun v12 => bindO (indexAddrV 1 v12 (.int .i64 0)) fun v13 => inB h6.nx v13 ∧ (bindO (ldV 1 false h6 v13) fun v14 => bindO (fieldAddrV 0 (.pointer (some ⟨b2, 0, none⟩))) fun v16 => bindO (ldV 1 false h6 v16) fun v17 => CallW FF n_impl_mod [a1, v17] h6 fun v18 h7 => keepB h6.nx h6 h7 ∧ (bindO (indexAddrV 1 v14 (.int .i64 0)) fun v19 => bindO (storeV 1 h7 v18 v19) fun h8 => bindO (ldV 2 true h8 (.pointer (some ⟨b5, 0, none⟩))) fun v20 => bindO (storeV 2 h8 v20 (.pointer (some ⟨b4, 0, none⟩))) fun h9 => bindO (ldV 2 true h9 (.pointer (some ⟨b4, 0, none⟩))) fun r4 => R r4 h9)))))
theorem w_impl_Plane_number {a0 a1 : Value} {h : Hp} {R : Value → Hp → Prop} (H : p_impl_Plane_number a0 a1 h R) : CallW FF n_impl_Plane_number [a0, a1] h R := callV_fin c_impl_Plane_number (Eq.mp (by kernel_rfl) H)
def l_impl_Plane_times_0 : YC :=
  .seq (.region false [⟨some 63, .p (.bin .lss (.t 62) (.t 61)), none, false⟩])
  (.seq (.cond (.t 63)
    (.skip)
    (.exit 6))
   (.seq (.block 7
     (.seq (.region false [⟨some 64, .p (.move  (.t 62)), none, false⟩,
        ⟨some 65, .p (.indexAddr 1 (.t 60) (.t 62)), none, false⟩,
        ⟨some 66, .load 1 false (.t 65), none, false⟩,
        ⟨some 12, .p (.move  (.t 64)), none, false⟩,
        ⟨some 13, .p (.move  (.t 66)), none, false⟩])
      (.region true [⟨some 67, .p (.fieldAddr 1 (.t 5)), none, false⟩,
        ⟨some 68, .load 1 false (.t 67), none, true⟩,
        ⟨some 69, .p (.move  (.t 7)), none, false⟩,
        ⟨some 70, .p (.move  (.t 11)), none, false⟩,
        ⟨some 71, .p (.bin .add (.t 69) (.t 70)), none, false⟩,
        ⟨some 72, .p (.indexAddr 1 (.t 68) (.t 71)), none, false⟩,
        ⟨some 73, .load 1 false (.t 72), none, true⟩,
        ⟨some 74, .p (.move  (.t 9)), none, false⟩,
        ⟨some 75, .p (.move  (.t 12)), none, false⟩,
        ⟨some 76, .p (.bin .add (.t 74) (.t 75)), none, false⟩,
        ⟨some 77, .p (.fieldAddr 1 (.t 5)), none, false⟩,
        ⟨some 78, .load 1 false (.t 77), none, true⟩,
        ⟨some 79, .p (.move  (.t 7)), none, false⟩,
        ⟨some 80, .p (.move  (.t 11)), none, false⟩,
        ⟨some 81, .p (.bin .add (.t 79) (.t 80)), none, false⟩,
        ⟨some 82, .p (.indexAddr 1 (.t 78) (.t 81)), none, false⟩,
        ⟨some 83, .load 1 false (.t 82), none, true⟩,
        ⟨some 84, .p (.move  (.t 9)), none, false⟩,
        ⟨some 85, .p (.move  (.t 12)), none, false⟩,
        ⟨some 86, .p (.bin .add (.t 84) (.t 85)), none, false⟩,
        ⟨some 87, .p (.indexAddr 1 (.t 83) (.t 86)), none, false⟩,
        ⟨some 88, .load 1 false (.t 87), none, true⟩,
        ⟨some 89, .p (.fieldAddr 0 (.t 2)), none, false⟩,
        ⟨some 90, .load 1 false (.t 89), none, false⟩,
        ⟨some 91, .p (.move  (.t 10)), none, false⟩,
        ⟨some 92, .p (.move  (.t 13)), none, false⟩,
        ⟨some 93, .call (.c (.func (.func n_impl_mul) #[] #[])) [(.t 90), (.t 91), (.t 92)], none, true⟩,
        ⟨some 94, .p (.bin .add (.t 88) (.t 93)), none, false⟩,
        ⟨some 95, .p (.fieldAddr 0 (.t 2)), none, false⟩,
        ⟨some 96, .load 1 false (.t 95), none, true⟩,
        ⟨some 97, .p (.bin .rem (.t 94) (.t 96)), none, false⟩,
        ⟨some 98, .p (.indexAddr 1 (.t 73) (.t 76)), none, false⟩,
        ⟨none, .store 1 (.t 98) (.t 97), none, false⟩])))
    (.region false [⟨some 99, .p (.bin .add (.t 62) (.c (.int .i64 1))), none, false⟩,
      ⟨some 62, .p (.move  (.t 99)), none, false⟩])))
def q_impl_Plane_times_0 (a2 a3 a4 a5 a6 a7 a9 a10 a11 a22 a23 a24 a29 a30 a31 a60 a61 a62 : Value) (h : Hp) (K K0 : Kont) : Prop :=
  bindO (binV .lss a62 a61) fun v63 => condM v63 (bindO (indexAddrV 1 a60 a62) fun v65 => bindO (ldV 1 false h v65) fun v66 => bindO (fieldAddrV 1 a5) fun v67 => inB h.nx v67 ∧ (bindO (ldV 1 false h v67) fun v68 => bindO (binV .add a7 a11) fun v71 => bindO (indexAddrV 1 v68 v71) fun v72 => inB h.nx v72 ∧ (bindO (ldV 1 false h v72) fun v73 => bindO (binV .add a9 a62) fun v76 => bindO (fieldAddrV 1 a5) fun v77 => inB h.nx v77 ∧ (bindO (ldV 1 false h v77) fun v78 => bindO (binV .add a7 a11) fun v81 => bindO (indexAddrV 1 v78 v81) fun v82 => inB h.nx v82 ∧ (bindO (ldV 1 false h v82) fun v83 => bindO (binV .add a9 a62) fun v86 => bindO (indexAddrV 1 v83 v86) fun v87 => inB h.nx v87 ∧ (bindO (ldV 1 false h v87) fun v88 => bindO (fieldAddrV 0 a2) fun v89 => bindO (ldV 1 false h v89) fun v90 => CallW FF n_impl_mul [v90, a10, v66] h fun v93 h1 => keepB h.nx h h1 ∧ (bindO (binV .add v88 v93) fun v94 => bindO (fieldAddrV 0 a2) fun v95 => inB h.nx v95 ∧ (bindO (ldV 1 false h1 v95) fun v96 => bindO (binV .rem v94 v96) fun v97 => bindO (indexAddrV 1 v73 v76) fun v98 => bindO (storeV 1 h1 v97 v98) fun h2 => bindO (binV .add a62 (.int .i64 1)) fun v99 => K [a2, a3, a4, a5, a6, a7, a9, a10, a11, a22, a23, a24, a29, a30, a31, a60, a61, v99] h2)))))))) (K0 [a2, a3, a4, a5, a6, a7, a9, a10, a11, a22, a23, a24, a29, a30, a31] h)
theorem wl_impl_Plane_times_0 {a2 a3 a4 a5 a6 a7 a9 a10 a11 a22 a23 a24 a29 a30 a31 a60 a61 a62 : Value} {h : Hp} {K K0 : Kont} (H : q_impl_Plane_times_0 a2 a3 a4 a5 a6 a7 a9 a10 a11 a22 a23 a24 a29 a30 a31 a60 a61 a62 h K K0) : ∀ e : Env, [e 2, e 3, e 4, e 5, e 6, e 7, e 9, e 10, e 11, e 22, e 23, e 24, e 29, e 30, e 31, e 60, e 61, e 62] = [a2, a3, a4, a5, a6, a7, a9, a10, a11, a22, a23, a24, a29, a30, a31, a60, a61, a62] → V FF l_impl_Plane_times_0 (qsel [2, 3, 4, 5, 6, 7, 9, 10, 11, 22, 23, 24, 29, 30, 31, 60, 61, 62] K [(.exit 6, [2, 3, 4, 5, 6, 7, 9, 10, 11, 22, 23, 24, 29, 30, 31], K0)]) ⟨e, h⟩ := by
  intro e he; cases he; exact Eq.mp (by kernel_rfl) H
def l_impl_Plane_times_1 : YC :=
  .seq (.seq (.region false [⟨some 38, .p (.move  (.t 7)), none, false⟩,
     ⟨some 39, .p (.move  (.t 9)), none, false⟩,
     ⟨some 40, .p (.bin .add (.t 38) (.t 39)), none, false⟩,
     ⟨some 41, .p (.move  (.t 11)), none, false⟩,
     ⟨some 42, .p (.bin .add (.t 40) (.t 41)), none, false⟩,
     ⟨some 43, .p (.move  (.t 6)), none, false⟩,
     ⟨some 44, .p (.bin .leq (.t 42) (.t 43)), none, false⟩])
   (.cond (.t 44)
    (.skip)
    (.exit 4)))
  (.seq (.block 5
    (.seq (.region false [⟨some 47, .p (.fieldAddr 1 (.t 3)), none, false⟩,
       ⟨some 48, .load 1 false (.t 47), none, false⟩,
       ⟨some 49, .p (.move  (.t 11)), none, false⟩,
       ⟨some 50, .p (.indexAddr 1 (.t 48) (.t 49)), none, false⟩,
       ⟨some 51, .load 1 false (.t 50), none, false⟩,
       ⟨some 52, .p (.move  (.t 6)), none, false⟩,
       ⟨some 53, .p (.move  (.t 7)), none, false⟩,
       ⟨some 54, .p (.bin .sub (.t 52) (.t 53)), none, false⟩,
       ⟨some 55, .p (.move  (.t 9)), none, false⟩,
       ⟨some 56, .p (.bin .sub (.t 54) (.t 55)), none, false⟩,
       ⟨some 57, .p (.move  (.t 11)), none, false⟩,
       ⟨some 58, .p (.bin .sub (.t 56) (.t 57)), none, false⟩,
       ⟨some 59, .p (.bin .add (.t 58) (.c (.int .i64 1))), none, false⟩,
       ⟨some 60, .p (.slice 1 (.t 51) none (some (.t 59))), none, false⟩,
       ⟨some 61, .p (.len  (.t 60)), none, false⟩,
       ⟨some 62, .p (.move  (.c (.int .i64 0))), none, false⟩])
     (.block 6
      (.loop [2, 3, 4, 5, 6, 7, 9, 10, 11, 22, 23, 24, 29, 30, 31, 60, 61, 62] [(.exit 6, [2, 3, 4, 5, 6, 7, 9, 10, 11, 22, 23, 24, 29, 30, 31])] l_impl_Plane_times_0))))
   (.region false [⟨some 45, .p (.move  (.t 11)), none, false⟩,
     ⟨some 46, .p (.bin .add (.t 45) (.c (.int .i64 1))), none, false⟩,
     ⟨some 11, .p (.move  (.t 46)), none, false⟩]))
def q_impl_Plane_times_1 (a2 a3 a4 a5 a6 a7 a9 a10 a11 a22 a23 a24 a29 a30 a31 : Value) (h : Hp) (K K0 : Kont) : Prop :=
  bindO (binV .add a7 a9) fun v40 => bindO (binV .add v40 a11) fun v42 => bindO (binV .leq v42 a6) fun v44 => condM v44 (bindO (fieldAddrV 1 a3) fun v47 => bindO (ldV 1 false h v47) fun v48 => bindO (indexAddrV 1 v48 a11) fun v50 => bindO (ldV 1 false h v50) fun v51 => bindO (binV .sub a6 a7) fun v54 => bindO (binV .sub v54 a9) fun v56 => bindO (binV .sub v56 a11) fun v58 => bindO (binV .add v58 (.int .i64 1)) fun v59 => bindO (sliceV 1 none (some v59) v51) fun v60 => bindO (lenV  v60) fun v61 => LP FF (YC.er l_impl_Plane_times_0) [2, 3, 4, 5, 6, 7, 9, 10, 11, 22, 23, 24, 29, 30, 31, 60, 61, 62] [(.exit 6, [2, 3, 4, 5, 6, 7, 9, 10, 11, 22, 23, 24, 29, 30, 31], fun vs h1 => ∀ e : Env, [e 2, e 3, e 4, e 5, e 6, e 7, e 9, e 10, e 11, e 22, e 23, e 24, e 29, e 30, e 31] = vs → bindO (binV .add (e 11) (.int .i64 1)) fun v46 => K [(e 2), (e 3), (e 4), (e 5), (e 6), (e 7), (e 9), (e 10), v46, (e 22), (e 23), (e 24), (e 29), (e 30), (e 31)] h1)] [a2, a3, a4, a5, a6, a7, a9, a10, a11, a22, a23, a24, a29, a30, a31, v60, v61, (.int .i64 0)] h) (K0 [a2, a3, a4, a5, a6, a7, a22, a23, a24, a29, a30, a31] h)
theorem wl_impl_Plane_times_1 {a2 a3 a4 a5 a6 a7 a9 a10 a11 a22 a23 a24 a29 a30 a31 : Value} {h : Hp} {K K0 : Kont} (H : q_impl_Plane_times_1 a2 a3 a4 a5 a6 a7 a9 a10 a11 a22 a23 a24 a29 a30 a31 h K K0) : ∀ e : Env, [e 2, e 3, e 4, e 5, e 6, e 7, e 9, e 10, e 11, e 22, e 23, e 24, e 29, e 30, e 31] = [a2, a3, a4, a5, a6, a7, a9, a10, a11, a22, a23, a24, a29, a30, a31] → V FF l_impl_Plane_times_1 (qsel [2, 3, 4, 5, 6, 7, 9, 10, 11, 22, 23, 24, 29, 30, 31] K [(.exit 4, [2, 3, 4, 5, 6, 7, 22, 23, 24, 29, 30, 31], K0)]) ⟨e, h⟩ := by
  intro e he; cases he; exact Eq.mp (by kernel_rfl) H
def l_impl_Plane_times_2 : YC :=
  .seq (.region false [⟨some 32, .p (.bin .lss (.t 31) (.t 30)), none, false⟩])
  (.seq (.cond (.t 32)
    (.skip)
    (.exit 2))
   (.seq (.block 3
     (.seq (.region false [⟨some 33, .p (.move  (.t 31)), none, false⟩,
        ⟨some 34, .p (.indexAddr 1 (.t 29) (.t 31)), none, false⟩,
        ⟨some 35, .load 1 false (.t 34), none, false⟩,
        ⟨some 9, .p (.move  (.t 33)), none, false⟩,
        ⟨some 10, .p (.move  (.t 35)), none, false⟩])
      (.seq (.seq (.region false [⟨some 36, .p (.move  (.t 10)), none, false⟩,
          ⟨some 37, .p (.bin .eql (.t 36) (.c (.int .i64 0))), none, false⟩])
        (.cond (.t 37)
         (.exit 3)
         (.skip)))
       (.seq (.region false [⟨some 11, .p (.move  (.c (.int .i64 0))), none, false⟩])
        (.block 4
         (.loop [2, 3, 4, 5, 6, 7, 9, 10, 11, 22, 23, 24, 29, 30, 31] [(.exit 4, [2, 3, 4, 5, 6, 7, 22, 23, 24, 29, 30, 31])] l_impl_Plane_times_1))))))
    (.region false [⟨some 100, .p (.bin .add (.t 31) (.c (.int .i64 1))), none, false⟩,
      ⟨some 31, .p (.move  (.t 100)), none, false⟩])))
def q_impl_Plane_times_2 (a2 a3 a4 a5 a6 a7 a22 a23 a24 a29 a30 a31 : Value) (h : Hp) (K K0 : Kont) : Prop :=
  bindO (binV .lss a31 a30) fun v32 => condM v32 (bindO (indexAddrV 1 a29 a31) fun v34 => bindO (ldV 1 false h v34) fun v35 => bindO (binV .eql v35 (.int .i64 0)) fun v37 => condM v37 (bindO (binV .add a31 (.int .i64 1)) fun v100 => K [a2, a3, a4, a5, a6, a7, a22, a23, a24, a29, a30, v100] h) (LP FF (YC.er l_impl_Plane_times_1) [2, 3, 4, 5, 6, 7, 9, 10, 11, 22, 23, 24, 29, 30, 31] [(.exit 4, [2, 3, 4, 5, 6, 7, 22, 23, 24, 29, 30, 31], fun vs h1 => ∀ e : Env, [e 2, e 3, e 4, e 5, e 6, e 7, e 22, e 23, e 24, e 29, e 30, e 31] = vs → bindO (binV .add (e 31) (.int .i64 1)) fun v100 => K [(e 2), (e 3), (e 4), (e 5), (e 6), (e 7), (e 22), (e 23), (e 24), (e 29), (e 30), v100] h1)] [a2, a3, a4, a5, a6, a7, a31, v35, (.int .i64 0), a22, a23, a24, a29, a30, a31] h)) (K0 [a2, a3, a4, a5, a6, a22, a23, a24] h)
theorem wl_impl_Plane_times_2 {a2 a3 a4 a5 a6 a7 a22 a23 a24 a29 a30 a31 : Value} {h : Hp} {K K0 : Kont} (H : q_impl_Plane_times_2 a2 a3 a4 a5 a6 a7 a22 a23 a24 a29 a30 a31 h K K0) : ∀ e : Env, [e 2, e 3, e 4, e 5, e 6, e 7, e 22, e 23, e 24, e 29, e 30, e 31] = [a2, a3, a4, a5, a6, a7, a22, a23, a24, a29, a30, a31] → V FF l_impl_Plane_times_2 (qsel [2, 3, 4, 5, 6, 7, 22, 23, 24, 29, 30, 31] K [(.exit 2, [2, 3, 4, 5, 6, 22, 23, 24], K0)]) ⟨e, h⟩ := by
  intro e he; cases he; exact Eq.mp (by kernel_rfl) H
def l_impl_Plane_times_3 : YC :=
  .seq (.region false [⟨some 25, .p (.bin .lss (.t 24) (.t 23)), none, false⟩])
  (.seq (.cond (.t 25)
    (.skip)
    (.exit 0))
   (.seq (.block 1
     (.seq (.region false [⟨some 26, .p (.move  (.t 24)), none, false⟩,
        ⟨some 27, .p (.indexAddr 1 (.t 22) (.t 24)), none, false⟩,
        ⟨some 28, .load 1 false (.t 27), none, false⟩,
        ⟨some 7, .p (.move  (.t 26)), none, false⟩,
        ⟨some 8, .p (.move  (.t 28)), none, false⟩])
      (.seq (.region false [⟨some 29, .p (.move  (.t 8)), none, false⟩,
         ⟨some 30, .p (.len  (.t 29)), none, false⟩,
         ⟨some 31, .p (.move  (.c (.int .i64 0))), none, false⟩])
       (.block 2
        (.loop [2, 3, 4, 5, 6, 7, 22, 23, 24, 29, 30, 31] [(.exit 2, [2, 3, 4, 5, 6, 22, 23, 24])] l_impl_Plane_times_2)))))
    (.region false [⟨some 101, .p (.bin .add (.t 24) (.c (.int .i64 1))), none, false⟩,
      ⟨some 24, .p (.move  (.t 101)), none, false⟩])))
def q_impl_Plane_times_3 (a2 a3 a4 a5 a6 a22 a23 a24 : Value) (h : Hp) (K K0 : Kont) : Prop :=
  bindO (binV .lss a24 a23) fun v25 => condM v25 (bindO (indexAddrV 1 a22 a24) fun v27 => bindO (ldV 1 false h v27) fun v28 => bindO (lenV  v28) fun v30 => LP FF (YC.er l_impl_Plane_times_2) [2, 3, 4, 5, 6, 7, 22, 23, 24, 29, 30, 31] [(.exit 2, [2, 3, 4, 5, 6, 22, 23, 24], fun vs h1 => ∀ e : Env, [e 2, e 3, e 4, e 5, e 6, e 22, e 23, e 24] = vs → bindO (binV .add (e 24) (.int .i64 1)) fun v101 => K [(e 2), (e 3), (e 4), (e 5), (e 6), (e 22), (e 23), v101] h1)] [a2, a3, a4, a5, a6, a24, a22, a23, a24, v28, v30, (.int .i64 0)] h) (K0 [a4, a5] h)
theorem wl_impl_Plane_times_3 {a2 a3 a4 a5 a6 a22 a23 a24 : Value} {h : Hp} {K K0 : Kont} (H : q_impl_Plane_times_3 a2 a3 a4 a5 a6 a22 a23 a24 h K K0) : ∀ e : Env, [e 2, e 3, e 4, e 5, e 6, e 22, e 23, e 24] = [a2, a3, a4, a5, a6, a22, a23, a24] → V FF l_impl_Plane_times_3 (qsel [2, 3, 4, 5, 6, 22, 23, 24] K [(.exit 0, [4, 5], K0)]) ⟨e, h⟩ := by
  intro e he; cases he; exact Eq.mp (by kernel_rfl) H
def y_impl_Plane_times : YC :=
  .seq (.region false [⟨some 2, .box y_t_impl_Plane 2 (.t 0), none, false⟩,
    ⟨some 3, .box y_t_impl_Plane 2 (.t 1), none, false⟩,
    ⟨some 4, .box y_t_impl_Plane 2 (.c (.agg #[.int .i64 0, .slice none 0 0])), none, false⟩])
  (.seq (.region true [⟨some 14, .p (.fieldAddr 0 (.t 2)), none, false⟩,
     ⟨some 15, .load 1 false (.t 14), none, true⟩,
     ⟨some 16, .load 2 true (.t 2), none, false⟩,
     ⟨some 17, .call (.c (.func (.func n_impl_Plane_degree) #[] #[])) [(.t 16)], none, true⟩,
     ⟨some 18, .call (.c (.func (.func n_impl_emptyPlane) #[] #[])) [(.t 15), (.t 17)], none, false⟩,
     ⟨some 5, .box y_t_impl_Plane 2 (.c (.agg #[.int .i64 0, .slice none 0 0])), none, false⟩,
     ⟨none, .store 2 (.t 5) (.t 18), none, false⟩])
   (.seq (.region false [⟨some 19, .load 2 true (.t 2), none, false⟩,
      ⟨some 20, .call (.c (.func (.func n_impl_Plane_degree) #[] #[])) [(.t 19)], none, false⟩,
      ⟨some 6, .p (.move  (.t 20)), none, false⟩])
    (.seq (.seq (.region false [⟨some 21, .p (.fieldAddr 1 (.t 2)), none, false⟩,
        ⟨some 22, .load 1 false (.t 21), none, false⟩,
        ⟨some 23, .p (.len  (.t 22)), none, false⟩,
        ⟨some 24, .p (.move  (.c (.int .i64 0))), none, false⟩])
      (.block 0
       (.loop [2, 3, 4, 5, 6, 22, 23, 24] [(.exit 0, [4, 5])] l_impl_Plane_times_3)))
     (.seq (.region false [⟨some 102, .load 2 true (.t 5), none, false⟩,
        ⟨none, .store 2 (.t 4) (.t 102), none, false⟩])
      (.ret)))))
theorem c_impl_Plane_times : FF n_impl_Plane_times = some ⟨103, y_impl_Plane_times.er, [.cell 4 2 true]⟩ := by kernel_rfl
def p_impl_Plane_times (a0 a1 : Value) (h : Hp) (R : Value → Hp → Prop) : Prop :=
  bindO (boxV 2 a0) fun c2 => newB h ⟨c2, y_t_impl_Plane, true⟩ fun b2 h1 => bindO (boxV 2 a1) fun c3 => newB h1 ⟨c3, y_t_impl_Plane, true⟩ fun b3 h2 => bindO (boxV 2 (.agg #[.int .i64 0, .slice none 0 0])) fun c4 => newB h2 ⟨c4, y_t_impl_Plane, true⟩ fun b4 h3 => bindO (fieldAddrV 0 (.pointer (some ⟨b2, 0, none⟩))) fun v14 => inB h3.nx v14 ∧ (bindO (ldV 1 false h3 v14) fun v15 => bindO (ldV 2 true h3 (.pointer (some ⟨b2, 0, none⟩))) fun v16 => CallW FF n_impl_Plane_degree [v16] h3 fun v17 h4 => keepB h3.nx h3 h4 ∧ (CallW FF n_impl_emptyPlane [v15, v17] h4 fun v18 h5 => bindO (boxV 2 (.agg #[.int .i64 0, .slice none 0 0])) fun c5 => newB h5 ⟨c5, y_t_impl_Plane, true⟩ fun b5 h6 => bindO (storeV 2 h6 v18 (.pointer (some ⟨b5, 0, none⟩))) fun h7 => bindO (ldV 2 true h7 (.pointer (some ⟨b2, 0, none⟩))) fun v19 => CallW FF n_impl_Plane_degree [v19] h7 fun v20 h8 => bindO (fieldAddrV 1 (.pointer (some ⟨b2, 0, none⟩))) fun v21 => bindO (ldV 1 false h8 v21) fun v22 => bindO (lenV  v22) fun v23 => LP FF (YC.er l_impl_Plane_times_3) [2, 3, 4, 5, 6, 22, 23, 24] [(.exit 0, [4, 5], fun vs h9 => ∀ e : Env, [e 4, e 5] = vs → bindO (ldV 2 true h9 (e 5)) fun v102 => bindO (storeV 2 h9 v102 (e 4)) fun h10 => bindO (ldV 2 true h10 (e 4)) fun r4 => R r4 h10)] [(.pointer (some ⟨b2, 0, none⟩)), (.pointer (some ⟨b3, 0, none⟩)), (.pointer (some ⟨b4, 0, none⟩)), (.pointer (some ⟨b5, 0, none⟩)), v20, v22, v23, (.int .i64 0)] h8))
theorem w_impl_Plane_times {a0 a1 : Value} {h : Hp} {R : Value → Hp → Prop} (H : p_impl_Plane_times a0 a1 h R) : CallW FF n_impl_Plane_times [a0, a1] h R := callV_fin c_impl_Plane_times (Eq.mp (by kernel_rfl) H)
def y_math_bits_LeadingZeros64 : YC :=
  .seq (.region false [⟨some 2, .p (.move  (.c (.int .i64 0))), none, false⟩])
  (.seq (.region false [⟨some 3, .p (.move  (.t 0)), none, false⟩,
     ⟨some 4, .call (.c (.func (.func n_math_bits_Len64) #[] #[])) [(.t 3)], none, false⟩,
     ⟨some 5, .p (.bin .sub (.c (.int .i64 64)) (.t 4)), none, false⟩,
     ⟨some 2, .p (.move  (.t 5)), none, false⟩])
   (.ret))
theorem c_math_bits_LeadingZeros64 : FF n_math_bits_LeadingZeros64 = some ⟨6, y_math_bits_LeadingZeros64.er, [.tmp 2]⟩ := by kernel_rfl
def p_math_bits_LeadingZeros64 (a0 : Value) (h : Hp) (R : Value → Hp → Prop) : Prop :=
  CallW FF n_math_bits_Len64 [a0] h fun v4 h1 => bindO (binV .sub (.int .i64 64) v4) fun v5 => R v5 h1
theorem w_math_bits_LeadingZeros64 {a0 : Value} {h : Hp} {R : Value → Hp → Prop} (H : p_math_bits_LeadingZeros64 a0 h R) : CallW FF n_math_bits_LeadingZeros64 [a0] h R := callV_fin c_math_bits_LeadingZeros64 (Eq.mp (by kernel_rfl) H)
def l_spec_l08Root_0 : YC :=
  .seq (.seq (.region false [⟨some 38, .p (.move  (.t 13)), none, false⟩,
     ⟨some 39, .p (.move  (.t 11)), none, false⟩,
     ⟨some 40, .p (.bin .lss (.t 38) (.t 39)), none, false⟩])
   (.cond (.t 40)
    (.skip)
    (.exit 2)))
  (.seq (.block 3
    (.region false [⟨some 43, .p (.move  (.t 12)), none, false⟩,
      ⟨some 44, .p (.move  (.t 0)), none, false⟩,
      ⟨some 45, .p (.move  (.t 10)), none, false⟩,
      ⟨some 46, .p (.move  (.t 13)), none, false⟩,
      ⟨some 47, .p (.indexAddr 1 (.t 45) (.t 46)), none, false⟩,
      ⟨some 48, .load 1 false (.t 47), none, false⟩,
      ⟨some 49, .p (.bin .sub (.t 44) (.t 48)), none, false⟩,
      ⟨some 50, .p (.move  (.t 10)), none, false⟩,
      ⟨some 51, .p (.move  (.t 11)), none, false⟩,
      ⟨some 52, .p (.move  (.t 13)), none, false⟩,
      ⟨some 53, .p (.bin .sub (.t 51) (.t 52)), none, false⟩,
      ⟨some 54, .p (.indexAddr 1 (.t 50) (.t 53)), none, false⟩,
      ⟨some 55, .load 1 false (.t 54), none, false⟩,
      ⟨some 56, .p (.bin .mul (.t 49) (.t 55)), none, false⟩,
      ⟨some 57, .p (.bin .add (.t 43) (.t 56)), none, false⟩,
      ⟨some 58, .p (.move  (.t 0)), none, false⟩,
      ⟨some 59, .p (.bin .rem (.t 57) (.t 58)), none, false⟩,
      ⟨some 12, .p (.move  (.t 59)), none, false⟩]))
   (.region false [⟨some 41, .p (.move  (.t 13)), none, false⟩,
     ⟨some 42, .p (.bin .add (.t 41) (.c (.int .i64 1))), none, false⟩,
     ⟨some 13, .p (.move  (.t 42)), none, false⟩]))
def q_spec_l08Root_0 (a0 a1 a2 a3 a9 a10 a11 a12 a13 : Value) (h : Hp) (K K0 : Kont) : Prop :=
  bindO (binV .lss a13 a11) fun v40 => condM v40 (bindO (indexAddrV 1 a10 a13) fun v47 => bindO (ldV 1 false h v47) fun v48 => bindO (binV .sub a0 v48) fun v49 => bindO (binV .sub a11 a13) fun v53 => bindO (indexAddrV 1 a10 v53) fun v54 => bindO (ldV 1 false h v54) fun v55 => bindO (binV .mul v49 v55) fun v56 => bindO (binV .add a12 v56) fun v57 => bindO (binV .rem v57 a0) fun v59 => bindO (binV .add a13 (.int .i64 1)) fun v42 => K [a0, a1, a2, a3, a9, a10, a11, v59, v42] h) (K0 [a0, a1, a2, a3, a9, a10, a11, a12] h)
theorem wl_spec_l08Root_0 {a0 a1 a2 a3 a9 a10 a11 a12 a13 : Value} {h : Hp} {K K0 : Kont} (H : q_spec_l08Root_0 a0 a1 a2 a3 a9 a10 a11 a12 a13 h K K0) : ∀ e : Env, [e 0, e 1, e 2, e 3, e 9, e 10, e 11, e 12, e 13] = [a0, a1, a2, a3, a9, a10, a11, a12, a13] → V FF l_spec_l08Root_0 (qsel [0, 1, 2, 3, 9, 10, 11, 12, 13] K [(.exit 2, [0, 1, 2, 3, 9, 10, 11, 12], K0)]) ⟨e, h⟩ := by
  intro e he; cases he; exact Eq.mp (by kernel_rfl) H
def l_spec_l08Root_1 : YC :=
  .seq (.seq (.region false [⟨some 21, .p (.move  (.t 11)), none, false⟩,
     ⟨some 22, .p (.move  (.t 1)), none, false⟩,
     ⟨some 23, .p (.bin .leq (.t 21) (.t 22)), none, false⟩])
   (.cond (.t 23)
    (.skip)
    (.exit 0)))
  (.seq (.block 1
    (.seq (.region false [⟨some 12, .p (.move  (.c (.int .i64 0))), none, false⟩])
     (.join [0, 1, 2, 3, 9, 10, 11, 12] (.seq (.region false [⟨some 26, .p (.move  (.t 11)), none, false⟩,
         ⟨some 27, .p (.bin .eql (.t 26) (.c (.int .i64 2))), none, false⟩])
       (.cond (.t 27)
        (.region false [⟨some 28, .p (.move  (.t 0)), none, false⟩,
          ⟨some 29, .p (.bin .mul (.c (.int .i64 2)) (.t 28)), none, false⟩,
          ⟨some 30, .p (.move  (.t 2)), none, false⟩,
          ⟨some 31, .p (.bin .mul (.c (.int .i64 2)) (.t 30)), none, false⟩,
          ⟨some 32, .p (.bin .sub (.t 29) (.t 31)), none, false⟩,
          ⟨some 33, .p (.move  (.t 0)), none, false⟩,
          ⟨some 34, .p (.bin .rem (.t 32) (.t 33)), none, false⟩,
          ⟨some 12, .p (.move  (.t 34)), none, false⟩])
        (.skip)))
      (.join [0, 1, 2, 3, 9, 10, 11, 12] (.seq (.region false [⟨some 35, .p (.move  (.t 11)), none, false⟩,
          ⟨some 36, .p (.bin .eql (.t 35) (.c (.int .i64 4))), none, false⟩])
        (.cond (.t 36)
         (.region false [⟨some 37, .p (.move  (.t 3)), none, false⟩,
           ⟨some 12, .p (.move  (.t 37)), none, false⟩])
         (.skip)))
       (.seq (.seq (.region false [⟨some 13, .p (.move  (.c (.int .i64 1))), none, false⟩])
         (.block 2
          (.loop [0, 1, 2, 3, 9, 10, 11, 12, 13] [(.exit 2, [0, 1, 2, 3, 9, 10, 11, 12])] l_spec_l08Root_0)))
        (.region false [⟨some 60, .p (.move  (.t 10)), none, false⟩,
          ⟨some 61, .p (.move  (.t 11)), none, false⟩,
          ⟨some 62, .p (.move  (.t 12)), none, false⟩,
          ⟨some 63, .p (.move  (.t 9)), none, false⟩,
          ⟨some 64, .p (.bin .mul (.t 62) (.t 63)), none, false⟩,
          ⟨some 65, .p (.move  (.t 0)), none, false⟩,
          ⟨some 66, .p (.bin .rem (.t 64) (.t 65)), none, false⟩,
          ⟨some 67, .p (.indexAddr 1 (.t 60) (.t 61)), none, false⟩,
          ⟨none, .store 1 (.t 67) (.t 66), none, false⟩]))))))
   (.region false [⟨some 24, .p (.move  (.t 11)), none, false⟩,
     ⟨some 25, .p (.bin .add (.t 24) (.c (.int .i64 1))), none, false⟩,
     ⟨some 11, .p (.move  (.t 25)), none, false⟩]))
def q_spec_l08Root_1 (a0 a1 a2 a3 a9 a10 a11 : Value) (h : Hp) (K K0 : Kont) : Prop :=
  bindO (binV .leq a11 a1) fun v23 => condM v23 (JN (fun J => bindO (binV .eql a11 (.int .i64 2)) fun v27 => condM v27 (bindO (binV .mul (.int .i64 2) a0) fun v29 => bindO (binV .mul (.int .i64 2) a2) fun v31 => bindO (binV .sub v29 v31) fun v32 => bindO (binV .rem v32 a0) fun v34 => J [a0, a1, a2, a3, a9, a10, a11, v34] h) (J [a0, a1, a2, a3, a9, a10, a11, (.int .i64 0)] h)) fun vs h1 => ∀ e : Env, [e 0, e 1, e 2, e 3, e 9, e 10, e 11, e 12] = vs → JN (fun J => bindO (binV .eql (e 11) (.int .i64 4)) fun v36 => condM v36 (J [(e 0), (e 1), (e 2), (e 3), (e 9), (e 10), (e 11), (e 3)] h1) (J [(e 0), (e 1), (e 2), (e 3), (e 9), (e 10), (e 11), (e 12)] h1)) fun vs_1 h2 => ∀ e_1 : Env, [e_1 0, e_1 1, e_1 2, e_1 3, e_1 9, e_1 10, e_1 11, e_1 12] = vs_1 → LP FF (YC.er l_spec_l08Root_0) [0, 1, 2, 3, 9, 10, 11, 12, 13] [(.exit 2, [0, 1, 2, 3, 9, 10, 11, 12], fun vs_2 h3 => ∀ e_2 : Env, [e_2 0, e_2 1, e_2 2, e_2 3, e_2 9, e_2 10, e_2 11, e_2 12] = vs_2 → bindO (binV .mul (e_2 12) (e_2 9)) fun v64 => bindO (binV .rem v64 (e_2 0)) fun v66 => bindO (indexAddrV 1 (e_2 10) (e_2 11)) fun v67 => bindO (storeV 1 h3 v66 v67) fun h4 => bindO (binV .add (e_2 11) (.int .i64 1)) fun v25 => K [(e_2 0), (e_2 1), (e_2 2), (e_2 3), (e_2 9), (e_2 10), v25] h4)] [(e_1 0), (e_1 1), (e_1 2), (e_1 3), (e_1 9), (e_1 10), (e_1 11), (e_1 12), (.int .i64 1)] h2) (K0 [a10] h)
theorem wl_spec_l08Root_1 {a0 a1 a2 a3 a9 a10 a11 : Value} {h : Hp} {K K0 : Kont} (H : q_spec_l08Root_1 a0 a1 a2 a3 a9 a10 a11 h K K0) : ∀ e : Env, [e 0, e 1, e 2, e 3, e 9, e 10, e 11] = [a0, a1, a2, a3, a9, a10, a11] → V FF l_spec_l08Root_1 (qsel [0, 1, 2, 3, 9, 10, 11] K [(.exit 0, [10], K0)]) ⟨e, h⟩ := by
  intro e he; cases he; exact Eq.mp (by kernel_rfl) H
def y_spec_l08Root : YC :=
  .seq (.region false [⟨some 8, .p (.move  (.c (.slice none 0 0))), none, false⟩])
  (.seq (.region false [⟨some 14, .p (.move  (.t 0)), none, false⟩,
     ⟨some 15, .call (.c (.func (.func n_spec_l01Inv) #[] #[])) [(.t 14), (.c (.int .i64 2))], none, false⟩,
     ⟨some 16, .p (.move  (.t 1)), none, false⟩,
     ⟨some 17, .p (.bin .add (.t 16) (.c (.int .i64 1))), none, false⟩,
     ⟨some 18, .make y_t_int64 1 8 [.int .i64 0] (.t 17), none, false⟩,
     ⟨some 9, .p (.move  (.t 15)), none, false⟩,
     ⟨some 10, .p (.move  (.t 18)), none, false⟩])
   (.seq (.region false [⟨some 19, .p (.move  (.t 10)), none, false⟩,
      ⟨some 20, .p (.indexAddr 1 (.t 19) (.c (.int .i64 0))), none, false⟩,
      ⟨none, .store 1 (.t 20) (.c (.int .i64 1)), none, false⟩])
    (.seq (.seq (.region false [⟨some 11, .p (.move  (.c (.int .i64 1))), none, false⟩])
      (.block 0
       (.loop [0, 1, 2, 3, 9, 10, 11] [(.exit 0, [10])] l_spec_l08Root_1)))
     (.seq (.region false [⟨some 68, .p (.move  (.t 10)), none, false⟩,
        ⟨some 8, .p (.move  (.t 68)), none, false⟩])
      (.ret)))))
theorem c_spec_l08Root : FF n_spec_l08Root = some ⟨69, y_spec_l08Root.er, [.tmp 8]⟩ := by kernel_rfl
def p_spec_l08Root (a0 a1 a2 a3 : Value) (h : Hp) (R : Value → Hp → Prop) : Prop :=
  CallW FF n_spec_l01Inv [a0, (.int .i64 2)] h fun v15 h1 => bindO (binV .add a1 (.int .i64 1)) fun v17 => bindO (makN v17) fun c18 => newB h1 ⟨reps c18 [.int .i64 0], y_t_int64, true⟩ fun b18 h2 => bindO (indexAddrV 1 (.slice (some ⟨b18, 0, none⟩) c18 1) (.int .i64 0)) fun v20 => bindO (storeV 1 h2 (.int .i64 1) v20) fun h3 => LP FF (YC.er l_spec_l08Root_1) [0, 1, 2, 3, 9, 10, 11] [(.exit 0, [10], fun vs h4 => ∀ e : Env, [e 10] = vs → R (e 10) h4)] [a0, a1, a2, a3, v15, (.slice (some ⟨b18, 0, none⟩) c18 1), (.int .i64 1)] h3
theorem w_spec_l08Root {a0 a1 a2 a3 : Value} {h : Hp} {R : Value → Hp → Prop} (H : p_spec_l08Root a0 a1 a2 a3 h R) : CallW FF n_spec_l08Root [a0, a1, a2, a3] h R := callV_fin c_spec_l08Root (Eq.mp (by kernel_rfl) H)
def l_spec_l08Series_0 : YC :=
  .seq (.seq (.region false [⟨some 15, .p (.move  (.t 8)), none, false⟩,
     ⟨some 16, .p (.move  (.t 1)), none, false⟩,
     ⟨some 17, .p (.bin .leq (.t 15) (.t 16)), none, false⟩])
   (.cond (.t 17)
    (.skip)
    (.exit 0)))
  (.seq (.block 1
    (.seq (.region false [⟨some 20, .p (.move  (.t 0)), none, false⟩,
       ⟨some 21, .p (.move  (.t 7)), none, false⟩,
       ⟨some 22, .p (.move  (.t 7)), none, false⟩,
       ⟨some 23, .p (.move  (.t 8)), none, false⟩,
       ⟨some 24, .call (.c (.func (.func n_spec_l02Times) #[] #[])) [(.t 20), (.t 21), (.t 22), (.t 23)], none, false⟩,
       ⟨some 9, .p (.move  (.t 24)), none, false⟩])
     (.seq (.region false [⟨some 25, .p (.move  (.t 0)), none, false⟩,
        ⟨some 26, .p (.move  (.t 9)), none, false⟩,
        ⟨some 27, .p (.move  (.t 7)), none, false⟩,
        ⟨some 28, .p (.move  (.t 8)), none, false⟩,
        ⟨some 29, .call (.c (.func (.func n_spec_l02Times) #[] #[])) [(.t 25), (.t 26), (.t 27), (.t 28)], none, false⟩,
        ⟨some 10, .p (.move  (.t 29)), none, false⟩])
      (.seq (.region false [⟨some 30, .p (.move  (.t 2)), none, false⟩,
         ⟨some 31, .p (.indexAddr 1 (.t 30) (.c (.int .i64 0))), none, false⟩,
         ⟨some 32, .load 1 false (.t 31), none, false⟩,
         ⟨some 33, .p (.move  (.t 7)), none, false⟩,
         ⟨some 34, .p (.move  (.t 8)), none, false⟩,
         ⟨some 35, .p (.bin .sub (.t 34) (.c (.int .i64 1))), none, false⟩,
         ⟨some 36, .p (.indexAddr 1 (.t 33) (.t 35)), none, false⟩,
         ⟨some 37, .load 1 false (.t 36), none, false⟩,
         ⟨some 38, .p (.bin .mul (.t 32) (.t 37)), none, false⟩,
         ⟨some 39, .p (.move  (.t 2)), none, false⟩,
         ⟨some 40, .p (.indexAddr 1 (.t 39) (.c (.int .i64 1))), none, false⟩,
         ⟨some 41, .load 1 false (.t 40), none, false⟩,
         ⟨some 42, .p (.move  (.t 7)), none, false⟩,
         ⟨some 43, .p (.move  (.t 8)), none, false⟩,
         ⟨some 44, .p (.bin .sub (.t 43) (.c (.int .i64 2))), none, false⟩,
         ⟨some 45, .p (.indexAddr 1 (.t 42) (.t 44)), none, false⟩,
         ⟨some 46, .load 1 false (.t 45), none, false⟩,
         ⟨some 47, .p (.bin .mul (.t 41) (.t 46)), none, false⟩,
         ⟨some 48, .p (.bin .add (.t 38) (.t 47)), none, false⟩,
         ⟨some 49, .p (.move  (.t 2)), none, false⟩,
         ⟨some 50, .p (.indexAddr 1 (.t 49) (.c (.int .i64 2))), none, false⟩,
         ⟨some 51, .load 1 false (.t 50), none, false⟩,
         ⟨some 52, .p (.move  (.t 9)), none, false⟩,
         ⟨some 53, .p (.move  (.t 8)), none, false⟩,
         ⟨some 54, .p (.indexAddr 1 (.t 52) (.t 53)), none, false⟩,
         ⟨some 55, .load 1 false (.t 54), none, false⟩,
         ⟨some 56, .p (.bin .mul (.t 51) (.t 55)), none, false⟩,
         ⟨some 57, .p (.bin .add (.t 48) (.t 56)), none, false⟩,
         ⟨some 58, .p (.move  (.t 2)), none, false⟩,
         ⟨some 59, .p (.indexAddr 1 (.t 58) (.c (.int .i64 3))), none, false⟩,
         ⟨some 60, .load 1 false (.t 59), none, false⟩,
         ⟨some 61, .p (.move  (.t 9)), none, false⟩,
         ⟨some 62, .p (.move  (.t 8)), none, false⟩,
         ⟨some 63, .p (.bin .sub (.t 62) (.c (.int .i64 1))), none, false⟩,
         ⟨some 64, .p (.indexAddr 1 (.t 61) (.t 63)), none, false⟩,
         ⟨some 65, .load 1 false (.t 64), none, false⟩,
         ⟨some 66, .p (.bin .mul (.t 60) (.t 65)), none, false⟩,
         ⟨some 67, .p (.bin .add (.t 57) (.t 66)), none, false⟩,
         ⟨some 68, .p (.move  (.t 2)), none, false⟩,
         ⟨some 69, .p (.indexAddr 1 (.t 68) (.c (.int .i64 4))), none, false⟩,
         ⟨some 70, .load 1 false (.t 69), none, false⟩,
         ⟨some 71, .p (.move  (.t 10)), none, false⟩,
         ⟨some 72, .p (.move  (.t 8)), none, false⟩,
         ⟨some 73, .p (.indexAddr 1 (.t 71) (.t 72)), none, false⟩,
         ⟨some 74, .load 1 false (.t 73), none, false⟩,
         ⟨some 75, .p (.bin .mul (.t 70) (.t 74)), none, false⟩,
         ⟨some 76, .p (.bin .add (.t 67) (.t 75)), none, false⟩,
         ⟨some 11, .p (.move  (.t 76)), none, false⟩])
       (.seq (.seq (.region false [⟨some 77, .p (.move  (.t 8)), none, false⟩,
           ⟨some 78, .p (.bin .eql (.t 77) (.c (.int .i64 3))), none, false⟩])
         (.cond (.t 78)
          (.region false [⟨some 79, .p (.move  (.t 11)), none, false⟩,
            ⟨some 80, .p (.bin .add (.t 79) (.c (.int .i64 1))), none, false⟩,
            ⟨some 11, .p (.move  (.t 80)), none, false⟩])
          (.skip)))
        (.region false [⟨some 81, .p (.move  (.t 7)), none, false⟩,
          ⟨some 82, .p (.move  (.t 8)), none, false⟩,
          ⟨some 83, .p (.move  (.t 11)), none, false⟩,
          ⟨some 84, .p (.move  (.t 0)), none, false⟩,
          ⟨some 85, .p (.bin .rem (.t 83) (.t 84)), none, false⟩,
          ⟨some 86, .p (.indexAddr 1 (.t 81) (.t 82)), none, false⟩,
          ⟨none, .store 1 (.t 86) (.t 85), none, false⟩]))))))
   (.region false [⟨some 18, .p (.move  (.t 8)), none, false⟩,
     ⟨some 19, .p (.bin .add (.t 18) (.c (.int .i64 1))), none, false⟩,
     ⟨some 8, .p (.move  (.t 19)), none, false⟩]))
def q_spec_l08Series_0 (a0 a1 a2 a7 a8 : Value) (h : Hp) (K K0 : Kont) : Prop :=
  bindO (binV .leq a8 a1) fun v17 => condM v17 (CallW FF n_spec_l02Times [a0, a7, a7, a8] h fun v24 h1 => CallW FF n_spec_l02Times [a0, v24, a7, a8] h1 fun v29 h2 => bindO (indexAddrV 1 a2 (.int .i64 0)) fun v31 => bindO (ldV 1 false h2 v31) fun v32 => bindO (binV .sub a8 (.int .i64 1)) fun v35 => bindO (indexAddrV 1 a7 v35) fun v36 => bindO (ldV 1 false h2 v36) fun v37 => bindO (binV .mul v32 v37) fun v38 => bindO (indexAddrV 1 a2 (.int .i64 1)) fun v40 => bindO (ldV 1 false h2 v40) fun v41 => bindO (binV .sub a8 (.int .i64 2)) fun v44 => bindO (indexAddrV 1 a7 v44) fun v45 => bindO (ldV 1 false h2 v45) fun v46 => bindO (binV .mul v41 v46) fun v47 => bindO (binV .add v38 v47) fun v48 => bindO (indexAddrV 1 a2 (.int .i64 2)) fun v50 => bindO (ldV 1 false h2 v50) fun v51 => bindO (indexAddrV 1 v24 a8) fun v54 => bindO (ldV 1 false h2 v54) fun v55 => bindO (binV .mul v51 v55) fun v56 => bindO (binV .add v48 v56) fun v57 => bindO (indexAddrV 1 a2 (.int .i64 3)) fun v59 => bindO (ldV 1 false h2 v59) fun v60 => bindO (binV .sub a8 (.int .i64 1)) fun v63 => bindO (indexAddrV 1 v24 v63) fun v64 => bindO (ldV 1 false h2 v64) fun v65 => bindO (binV .mul v60 v65) fun v66 => bindO (binV .add v57 v66) fun v67 => bindO (indexAddrV 1 a2 (.int .i64 4)) fun v69 => bindO (ldV 1 false h2 v69) fun v70 => bindO (indexAddrV 1 v29 a8) fun v73 => bindO (ldV 1 false h2 v73) fun v74 => bindO (binV .mul v70 v74) fun v75 => bindO (binV .add v67 v75) fun v76 => bindO (binV .eql a8 (.int .i64 3)) fun v78 => condM v78 (bindO (binV .add v76 (.int .i64 1)) fun v80 => bindO (binV .rem v80 a0) fun v85 => bindO (indexAddrV 1 a7 a8) fun v86 => bindO (storeV 1 h2 v85 v86) fun h3 => bindO (binV .add a8 (.int .i64 1)) fun v19 => K [a0, a1, a2, a7, v19] h3) (bindO (binV .rem v76 a0) fun v85 => bindO (indexAddrV 1 a7 a8) fun v86 => bindO (storeV 1 h2 v85 v86) fun h3 => bindO (binV .add a8 (.int .i64 1)) fun v19 => K [a0, a1, a2, a7, v19] h3)) (K0 [a7] h)
theorem wl_spec_l08Series_0 {a0 a1 a2 a7 a8 : Value} {h : Hp} {K K0 : Kont} (H : q_spec_l08Series_0 a0 a1 a2 a7 a8 h K K0) : ∀ e : Env, [e 0, e 1, e 2, e 7, e 8] = [a0, a1, a2, a7, a8] → V FF l_spec_l08Series_0 (qsel [0, 1, 2, 7, 8] K [(.exit 0, [7], K0)]) ⟨e, h⟩ := by
  intro e he; cases he; exact Eq.mp (by kernel_rfl) H
def y_spec_l08Series : YC :=
  .seq (.region false [⟨some 6, .p (.move  (.c (.slice none 0 0))), none, false⟩])
  (.seq (.region false [⟨some 12, .p (.move  (.t 1)), none, false⟩,
     ⟨some 13, .p (.bin .add (.t 12) (.c (.int .i64 1))), none, false⟩,
     ⟨some 14, .make y_t_int64 1 8 [.int .i64 0] (.t 13), none, false⟩,
     ⟨some 7, .p (.move  (.t 14)), none, false⟩])
   (.seq (.seq (.region false [⟨some 8, .p (.move  (.c (.int .i64 3))), none, false⟩])
     (.block 0
      (.loop [0, 1, 2, 7, 8] [(.exit 0, [7])] l_spec_l08Series_0)))
    (.seq (.region false [⟨some 87, .p (.move  (.t 7)), none, false⟩,
       ⟨some 6, .p (.move  (.t 87)), none, false⟩])
     (.ret))))
theorem c_spec_l08Series : FF n_spec_l08Series = some ⟨88, y_spec_l08Series.er, [.tmp 6]⟩ := by kernel_rfl
def p_spec_l08Series (a0 a1 a2 : Value) (h : Hp) (R : Value → Hp → Prop) : Prop :=
  bindO (binV .add a1 (.int .i64 1)) fun v13 => bindO (makN v13) fun c14 => newB h ⟨reps c14 [.int .i64 0], y_t_int64, true⟩ fun b14 h1 => LP FF (YC.er l_spec_l08Series_0) [0, 1, 2, 7, 8] [(.exit 0, [7], fun vs h2 => ∀ e : Env, [e 7] = vs → R (e 7) h2)] [a0, a1, a2, (.slice (some ⟨b14, 0, none⟩) c14 1), (.int .i64 3)] h1
theorem w_spec_l08Series {a0 a1 a2 : Value} {h : Hp} {R : Value → Hp → Prop} (H : p_spec_l08Series a0 a1 a2 h R) : CallW FF n_spec_l08Series [a0, a1, a2] h R := callV_fin c_spec_l08Series (Eq.mp (by kernel_rfl) H)
def l_spec_l03Add_0 : YC :=
  .seq (.seq (.region false [⟨some 10, .p (.move  (.t 8)), none, false⟩,
     ⟨some 11, .p (.move  (.t 1)), none, false⟩,
     ⟨some 12, .p (.len  (.t 11)), none, false⟩,
     ⟨some 13, .p (.bin .lss (.t 10) (.t 12)), none, false⟩])
   (.cond (.t 13)
    (.skip)
    (.exit 0)))
  (.seq (.block 1
    (.region false [⟨some 16, .p (.move  (.t 7)), none, false⟩,
      ⟨some 17, .p (.move  (.t 0)), none, false⟩,
      ⟨some 18, .p (.move  (.t 1)), none, false⟩,
      ⟨some 19, .p (.move  (.t 8)), none, false⟩,
      ⟨some 20, .p (.indexAddr 1 (.t 18) (.t 19)), none, false⟩,
      ⟨some 21, .load 1 false (.t 20), none, false⟩,
      ⟨some 22, .p (.move  (.t 2)), none, false⟩,
      ⟨some 23, .p (.move  (.t 8)), none, false⟩,
      ⟨some 24, .p (.indexAddr 1 (.t 22) (.t 23)), none, false⟩,
      ⟨some 25, .load 1 false (.t 24), none, false⟩,
      ⟨some 26, .call (.c (.func (.func n_spec_l02Add) #[] #[])) [(.t 17), (.t 21), (.t 25)], none, false⟩,
      ⟨some 27, .mkrow y_t_Lint64 1 1 [.slice none 0 0] [(0, (.t 26))], none, false⟩,
      ⟨some 28, .append y_t_Lint64 1 24 (.t 16) (.t 27), none, false⟩,
      ⟨some 7, .p (.move  (.t 28)), none, false⟩]))
   (.region false [⟨some 14, .p (.move  (.t 8)), none, false⟩,
     ⟨some 15, .p (.bin .add (.t 14) (.c (.int .i64 1))), none, false⟩,
     ⟨some 8, .p (.move  (.t 15)), none, false⟩]))
def q_spec_l03Add_0 (a0 a1 a2 a7 a8 : Value) (h : Hp) (K K0 : Kont) : Prop :=
  bindO (lenV  a1) fun v12 => bindO (binV .lss a8 v12) fun v13 => condM v13 (bindO (indexAddrV 1 a1 a8) fun v20 => bindO (ldV 1 false h v20) fun v21 => bindO (indexAddrV 1 a2 a8) fun v24 => bindO (ldV 1 false h v24) fun v25 => CallW FF n_spec_l02Add [a0, v21, v25] h fun v26 h1 => bindO (rowV 1 1 [.slice none 0 0] [(0, v26)]) fun c27 => newB h1 ⟨c27, y_t_Lint64, true⟩ fun b27 h2 => bindVH (appendV y_t_Lint64 1 h2 a7 (.slice (some ⟨b27, 0, none⟩) 1 1)) fun v28 h3 => bindO (binV .add a8 (.int .i64 1)) fun v15 => K [a0, a1, a2, v28, v15] h3) (K0 [a7] h)
theorem wl_spec_l03Add_0 {a0 a1 a2 a7 a8 : Value} {h : Hp} {K K0 : Kont} (H : q_spec_l03Add_0 a0 a1 a2 a7 a8 h K K0) : ∀ e : Env, [e 0, e 1, e 2, e 7, e 8] = [a0, a1, a2, a7, a8] → V FF l_spec_l03Add_0 (qsel [0, 1, 2, 7, 8] K [(.exit 0, [7], K0)]) ⟨e, h⟩ := by
  intro e he; cases he; exact Eq.mp (by kernel_rfl) H
def y_spec_l03Add : YC :=
  .seq (.region false [⟨some 6, .p (.move  (.c (.slice none 0 0))), none, false⟩])
  (.seq (.region false [⟨some 9, .mkrow y_t_Lint64 1 0 [.slice none 0 0] [], none, false⟩,
     ⟨some 7, .p (.move  (.t 9)), none, false⟩])
   (.seq (.seq (.region false [⟨some 8, .p (.move  (.c (.int .i64 0))), none, false⟩])
     (.block 0
      (.loop [0, 1, 2, 7, 8] [(.exit 0, [7])] l_spec_l03Add_0)))
    (.seq (.region false [⟨some 29, .p (.move  (.t 7)), none, false⟩,
       ⟨some 6, .p (.move  (.t 29)), none, false⟩])
     (.ret))))
theorem c_spec_l03Add : FF n_spec_l03Add = some ⟨30, y_spec_l03Add.er, [.tmp 6]⟩ := by kernel_rfl
def p_spec_l03Add (a0 a1 a2 : Value) (h : Hp) (R : Value → Hp → Prop) : Prop :=
  bindO (rowV 1 0 [.slice none 0 0] []) fun c9 => newB h ⟨c9, y_t_Lint64, true⟩ fun b9 h1 => LP FF (YC.er l_spec_l03Add_0) [0, 1, 2, 7, 8] [(.exit 0, [7], fun vs h2 => ∀ e : Env, [e 7] = vs → R (e 7) h2)] [a0, a1, a2, (.slice (some ⟨b9, 0, none⟩) 0 1), (.int .i64 0)] h1
theorem w_spec_l03Add {a0 a1 a2 : Value} {h : Hp} {R : Value → Hp → Prop} (H : p_spec_l03Add a0 a1 a2 h R) : CallW FF n_spec_l03Add [a0, a1, a2] h R := callV_fin c_spec_l03Add (Eq.mp (by kernel_rfl) H)
def l_spec_l03Scale_0 : YC :=
  .seq (.seq (.region false [⟨some 10, .p (.move  (.t 8)), none, false⟩,
     ⟨some 11, .p (.move  (.t 2)), none, false⟩,
     ⟨some 12, .p (.len  (.t 11)), none, false⟩,
     ⟨some 13, .p (.bin .lss (.t 10) (.t 12)), none, false⟩])
   (.cond (.t 13)
    (.skip)
    (.exit 0)))
  (.seq (.block 1
    (.region false [⟨some 16, .p (.move  (.t 7)), none, false⟩,
      ⟨some 17, .p (.move  (.t 0)), none, false⟩,
      ⟨some 18, .p (.move  (.t 1)), none, false⟩,
      ⟨some 19, .p (.move  (.t 2)), none, false⟩,
      ⟨some 20, .p (.move  (.t 8)), none, false⟩,
      ⟨some 21, .p (.indexAddr 1 (.t 19) (.t 20)), none, false⟩,
      ⟨some 22, .load 1 false (.t 21), none, false⟩,
      ⟨some 23, .call (.c (.func (.func n_spec_l02Scale) #[] #[])) [(.t 17), (.t 18), (.t 22)], none, false⟩,
      ⟨some 24, .mkrow y_t_Lint64 1 1 [.slice none 0 0] [(0, (.t 23))], none, false⟩,
      ⟨some 25, .append y_t_Lint64 1 24 (.t 16) (.t 24), none, false⟩,
      ⟨some 7, .p (.move  (.t 25)), none, false⟩]))
   (.region false [⟨some 14, .p (.move  (.t 8)), none, false⟩,
     ⟨some 15, .p (.bin .add (.t 14) (.c (.int .i64 1))), none, false⟩,
     ⟨some 8, .p (.move  (.t 15)), none, false⟩]))
def q_spec_l03Scale_0 (a0 a1 a2 a7 a8 : Value) (h : Hp) (K K0 : Kont) : Prop :=
  bindO (lenV  a2) fun v12 => bindO (binV .lss a8 v12) fun v13 => condM v13 (bindO (indexAddrV 1 a2 a8) fun v21 => bindO (ldV 1 false h v21) fun v22 => CallW FF n_spec_l02Scale [a0, a1, v22] h fun v23 h1 => bindO (rowV 1 1 [.slice none 0 0] [(0, v23)]) fun c24 => newB h1 ⟨c24, y_t_Lint64, true⟩ fun b24 h2 => bindVH (appendV y_t_Lint64 1 h2 a7 (.slice (some ⟨b24, 0, none⟩) 1 1)) fun v25 h3 => bindO (binV .add a8 (.int .i64 1)) fun v15 => K [a0, a1, a2, v25, v15] h3) (K0 [a7] h)
theorem wl_spec_l03Scale_0 {a0 a1 a2 a7 a8 : Value} {h : Hp} {K K0 : Kont} (H : q_spec_l03Scale_0 a0 a1 a2 a7 a8 h K K0) : ∀ e : Env, [e 0, e 1, e 2, e 7, e 8] = [a0, a1, a2, a7, a8] → V FF l_spec_l03Scale_0 (qsel [0, 1, 2, 7, 8] K [(.exit 0, [7], K0)]) ⟨e, h⟩ := by
  intro e he; cases he; exact Eq.mp (by kernel_rfl) H
def y_spec_l03Scale : YC :=
  .seq (.region false [⟨some 6, .p (.move  (.c (.slice none 0 0))), none, false⟩])
  (.seq (.region false [⟨some 9, .mkrow y_t_Lint64 1 0 [.slice none 0 0] [], none, false⟩,
     ⟨some 7, .p (.move  (.t 9)), none, false⟩])
   (.seq (.seq (.region false [⟨some 8, .p (.move  (.c (.int .i64 0))), none, false⟩])
     (.block 0
      (.loop [0, 1, 2, 7, 8] [(.exit 0, [7])] l_spec_l03Scale_0)))
    (.seq (.region false [⟨some 26, .p (.move  (.t 7)), none, false⟩,
       ⟨some 6, .p (.move  (.t 26)), none, false⟩])
     (.ret))))
theorem c_spec_l03Scale : FF n_spec_l03Scale = some ⟨27, y_spec_l03Scale.er, [.tmp 6]⟩ := by kernel_rfl
def p_spec_l03Scale (a0 a1 a2 : Value) (h : Hp) (R : Value → Hp → Prop) : Prop :=
  bindO (rowV 1 0 [.slice none 0 0] []) fun c9 => newB h ⟨c9, y_t_Lint64, true⟩ fun b9 h1 => LP FF (YC.er l_spec_l03Scale_0) [0, 1, 2, 7, 8] [(.exit 0, [7], fun vs h2 => ∀ e : Env, [e 7] = vs → R (e 7) h2)] [a0, a1, a2, (.slice (some ⟨b9, 0, none⟩) 0 1), (.int .i64 0)] h1
theorem w_spec_l03Scale {a0 a1 a2 : Value} {h : Hp} {R : Value → Hp → Prop} (H : p_spec_l03Scale a0 a1 a2 h R) : CallW FF n_spec_l03Scale [a0, a1, a2] h R := callV_fin c_spec_l03Scale (Eq.mp (by kernel_rfl) H)
def l_spec_l03Turn_0 : YC :=
  .seq (.seq (.region false [⟨some 17, .p (.move  (.t 5)), none, false⟩,
     ⟨some 18, .p (.move  (.t 0)), none, false⟩,
     ⟨some 19, .p (.move  (.t 4)), none, false⟩,
     ⟨some 20, .p (.indexAddr 1 (.t 18) (.t 19)), none, false⟩,
     ⟨some 21, .load 1 false (.t 20), none, false⟩,
     ⟨some 22, .p (.len  (.t 21)), none, false⟩,
     ⟨some 23, .p (.bin .lss (.t 17) (.t 22)), none, false⟩])
   (.cond (.t 23)
    (.skip)
    (.exit 2)))
  (.seq (.block 3
    (.seq (.region false [⟨some 26, .p (.move  (.t 3)), none, false⟩,
       ⟨some 27, .p (.move  (.t 5)), none, false⟩,
       ⟨some 28, .p (.indexAddr 1 (.t 26) (.t 27)), none, false⟩,
       ⟨some 29, .load 1 false (.t 28), none, false⟩,
       ⟨some 6, .p (.move  (.t 29)), none, false⟩])
     (.region false [⟨some 30, .p (.move  (.t 6)), none, false⟩,
       ⟨some 31, .p (.move  (.t 4)), none, false⟩,
       ⟨some 32, .p (.move  (.t 0)), none, false⟩,
       ⟨some 33, .p (.move  (.t 4)), none, false⟩,
       ⟨some 34, .p (.indexAddr 1 (.t 32) (.t 33)), none, false⟩,
       ⟨some 35, .load 1 false (.t 34), none, false⟩,
       ⟨some 36, .p (.move  (.t 5)), none, false⟩,
       ⟨some 37, .p (.indexAddr 1 (.t 35) (.t 36)), none, false⟩,
       ⟨some 38, .load 1 false (.t 37), none, false⟩,
       ⟨some 39, .p (.indexAddr 1 (.t 30) (.t 31)), none, false⟩,
       ⟨none, .store 1 (.t 39) (.t 38), none, false⟩])))
   (.region false [⟨some 24, .p (.move  (.t 5)), none, false⟩,
     ⟨some 25, .p (.bin .add (.t 24) (.c (.int .i64 1))), none, false⟩,
     ⟨some 5, .p (.move  (.t 25)), none, false⟩]))
def q_spec_l03Turn_0 (a0 a3 a4 a5 : Value) (h : Hp) (K K0 : Kont) : Prop :=
  bindO (indexAddrV 1 a0 a4) fun v20 => bindO (ldV 1 false h v20) fun v21 => bindO (lenV  v21) fun v22 => bindO (binV .lss a5 v22) fun v23 => condM v23 (bindO (indexAddrV 1 a3 a5) fun v28 => bindO (ldV 1 false h v28) fun v29 => bindO (indexAddrV 1 a0 a4) fun v34 => bindO (ldV 1 false h v34) fun v35 => bindO (indexAddrV 1 v35 a5) fun v37 => bindO (ldV 1 false h v37) fun v38 => bindO (indexAddrV 1 v29 a4) fun v39 => bindO (storeV 1 h v38 v39) fun h1 => bindO (binV .add a5 (.int .i64 1)) fun v25 => K [a0, a3, a4, v25] h1) (K0 [a0, a3, a4] h)
theorem wl_spec_l03Turn_0 {a0 a3 a4 a5 : Value} {h : Hp} {K K0 : Kont} (H : q_spec_l03Turn_0 a0 a3 a4 a5 h K K0) : ∀ e : Env, [e 0, e 3, e 4, e 5] = [a0, a3, a4, a5] → V FF l_spec_l03Turn_0 (qsel [0, 3, 4, 5] K [(.exit 2, [0, 3, 4], K0)]) ⟨e, h⟩ := by
  intro e he; cases he; exact Eq.mp (by kernel_rfl) H
def l_spec_l03Turn_1 : YC :=
  .seq (.seq (.region false [⟨some 11, .p (.move  (.t 4)), none, false⟩,
     ⟨some 12, .p (.move  (.t 0)), none, false⟩,
     ⟨some 13, .p (.len  (.t 12)), none, false⟩,
     ⟨some 14, .p (.bin .lss (.t 11) (.t 13)), none, false⟩])
   (.cond (.t 14)
    (.skip)
    (.exit 0)))
  (.seq (.block 1
    (.seq (.region false [⟨some 5, .p (.move  (.c (.int .i64 0))), none, false⟩])
     (.block 2
      (.loop [0, 3, 4, 5] [(.exit 2, [0, 3, 4])] l_spec_l03Turn_0))))
   (.region false [⟨some 15, .p (.move  (.t 4)), none, false⟩,
     ⟨some 16, .p (.bin .add (.t 15) (.c (.int .i64 1))), none, false⟩,
     ⟨some 4, .p (.move  (.t 16)), none, false⟩]))
def q_spec_l03Turn_1 (a0 a3 a4 : Value) (h : Hp) (K K0 : Kont) : Prop :=
  bindO (lenV  a0) fun v13 => bindO (binV .lss a4 v13) fun v14 => condM v14 (LP FF (YC.er l_spec_l03Turn_0) [0, 3, 4, 5] [(.exit 2, [0, 3, 4], fun vs h1 => ∀ e : Env, [e 0, e 3, e 4] = vs → bindO (binV .add (e 4) (.int .i64 1)) fun v16 => K [(e 0), (e 3), v16] h1)] [a0, a3, a4, (.int .i64 0)] h) (K0 [a3] h)
theorem wl_spec_l03Turn_1 {a0 a3 a4 : Value} {h : Hp} {K K0 : Kont} (H : q_spec_l03Turn_1 a0 a3 a4 h K K0) : ∀ e : Env, [e 0, e 3, e 4] = [a0, a3, a4] → V FF l_spec_l03Turn_1 (qsel [0, 3, 4] K [(.exit 0, [3], K0)]) ⟨e, h⟩ := by
  intro e he; cases he; exact Eq.mp (by kernel_rfl) H
def y_spec_l03Turn : YC :=
  .seq (.region false [⟨some 2, .p (.move  (.c (.slice none 0 0))), none, false⟩])
  (.seq (.region false [⟨some 7, .p (.move  (.t 0)), none, false⟩,
     ⟨some 8, .p (.len  (.t 7)), none, false⟩,
     ⟨some 9, .p (.bin .sub (.t 8) (.c (.int .i64 1))), none, false⟩,
     ⟨some 10, .call (.c (.func (.func n_spec_l03Zero) #[] #[])) [(.t 9)], none, false⟩,
     ⟨some 3, .p (.move  (.t 10)), none, false⟩])
   (.seq (.seq (.region false [⟨some 4, .p (.move  (.c (.int .i64 0))), none, false⟩])
     (.block 0
      (.loop [0, 3, 4] [(.exit 0, [3])] l_spec_l03Turn_1)))
    (.seq (.region false [⟨some 40, .p (.move  (.t 3)), none, false⟩,
       ⟨some 2, .p (.move  (.t 40)), none, false⟩])
     (.ret))))
theorem c_spec_l03Turn : FF n_spec_l03Turn = some ⟨41, y_spec_l03Turn.er, [.tmp 2]⟩ := by kernel_rfl
def p_spec_l03Turn (a0 : Value) (h : Hp) (R : Value → Hp → Prop) : Prop :=
  bindO (lenV  a0) fun v8 => bindO (binV .sub v8 (.int .i64 1)) fun v9 => CallW FF n_spec_l03Zero [v9] h fun v10 h1 => LP FF (YC.er l_spec_l03Turn_1) [0, 3, 4] [(.exit 0, [3], fun vs h2 => ∀ e : Env, [e 3] = vs → R (e 3) h2)] [a0, v10, (.int .i64 0)] h1
theorem w_spec_l03Turn {a0 : Value} {h : Hp} {R : Value → Hp → Prop} (H : p_spec_l03Turn a0 h R) : CallW FF n_spec_l03Turn [a0] h R := callV_fin c_spec_l03Turn (Eq.mp (by kernel_rfl) H)
def l_spec_l02Inverse_0 : YC :=
  .seq (.seq (.region false [⟨some 24, .p (.move  (.t 11)), none, false⟩,
     ⟨some 25, .p (.move  (.t 9)), none, false⟩,
     ⟨some 26, .p (.bin .leq (.t 24) (.t 25)), none, false⟩,
     ⟨some 27, .p (.move  (.t 26)), none, false⟩,
     ⟨some 28, .p (.move  (.t 11)), some (27, true), false⟩,
     ⟨some 29, .p (.move  (.t 1)), some (27, true), false⟩,
     ⟨some 30, .p (.len  (.t 29)), some (27, true), false⟩,
     ⟨some 31, .p (.bin .lss (.t 28) (.t 30)), some (27, true), false⟩,
     ⟨some 32, .p (.pick  (.t 27) (.t 31) (.c (.bool false))), none, false⟩])
   (.cond (.t 32)
    (.skip)
    (.exit 2)))
  (.seq (.block 3
    (.region false [⟨some 35, .p (.move  (.t 10)), none, false⟩,
      ⟨some 36, .p (.move  (.t 1)), none, false⟩,
      ⟨some 37, .p (.move  (.t 11)), none, false⟩,
      ⟨some 38, .p (.indexAddr 1 (.t 36) (.t 37)), none, false⟩,
      ⟨some 39, .load 1 false (.t 38), none, false⟩,
      ⟨some 40, .p (.move  (.t 8)), none, false⟩,
      ⟨some 41, .p (.move  (.t 9)), none, false⟩,
      ⟨some 42, .p (.move  (.t 11)), none, false⟩,
      ⟨some 43, .p (.bin .sub (.t 41) (.t 42)), none, false⟩,
      ⟨some 44, .p (.indexAddr 1 (.t 40) (.t 43)), none, false⟩,
      ⟨some 45, .load 1 false (.t 44), none, false⟩,
      ⟨some 46, .p (.bin .mul (.t 39) (.t 45)), none, false⟩,
      ⟨some 47, .p (.bin .add (.t 35) (.t 46)), none, false⟩,
      ⟨some 48, .p (.move  (.t 0)), none, false⟩,
      ⟨some 49, .p (.bin .rem (.t 47) (.t 48)), none, false⟩,
      ⟨some 10, .p (.move  (.t 49)), none, false⟩]))
   (.region false [⟨some 33, .p (.move  (.t 11)), none, false⟩,
     ⟨some 34, .p (.bin .add (.t 33) (.c (.int .i64 1))), none, false⟩,
     ⟨some 11, .p (.move  (.t 34)), none, false⟩]))
def q_spec_l02Inverse_0 (a0 a1 a2 a7 a8 a9 a10 a11 : Value) (h : Hp) (K K0 : Kont) : Prop :=
  bindO (binV .leq a11 a9) fun v26 => condM v26 (bindO (lenV  a1) fun v30 => bindO (binV .lss a11 v30) fun v31 => condM v31 (bindO (indexAddrV 1 a1 a11) fun v38 => bindO (ldV 1 false h v38) fun v39 => bindO (binV .sub a9 a11) fun v43 => bindO (indexAddrV 1 a8 v43) fun v44 => bindO (ldV 1 false h v44) fun v45 => bindO (binV .mul v39 v45) fun v46 => bindO (binV .add a10 v46) fun v47 => bindO (binV .rem v47 a0) fun v49 => bindO (binV .add a11 (.int .i64 1)) fun v34 => K [a0, a1, a2, a7, a8, a9, v49, v34] h) (K0 [a0, a1, a2, a7, a8, a9, a10] h)) (K0 [a0, a1, a2, a7, a8, a9, a10] h)
theorem wl_spec_l02Inverse_0 {a0 a1 a2 a7 a8 a9 a10 a11 : Value} {h : Hp} {K K0 : Kont} (H : q_spec_l02Inverse_0 a0 a1 a2 a7 a8 a9 a10 a11 h K K0) : ∀ e : Env, [e 0, e 1, e 2, e 7, e 8, e 9, e 10, e 11] = [a0, a1, a2, a7, a8, a9, a10, a11] → V FF l_spec_l02Inverse_0 (qsel [0, 1, 2, 7, 8, 9, 10, 11] K [(.exit 2, [0, 1, 2, 7, 8, 9, 10], K0)]) ⟨e, h⟩ := by
  intro e he; cases he; exact Eq.mp (by kernel_rfl) H
def l_spec_l02Inverse_1 : YC :=
  .seq (.seq (.region false [⟨some 19, .p (.move  (.t 9)), none, false⟩,
     ⟨some 20, .p (.move  (.t 2)), none, false⟩,
     ⟨some 21, .p (.bin .leq (.t 19) (.t 20)), none, false⟩])
   (.cond (.t 21)
    (.skip)
    (.exit 0)))
  (.seq (.block 1
    (.seq (.region false [⟨some 10, .p (.move  (.c (.int .i64 0))), none, false⟩])
     (.seq (.seq (.region false [⟨some 11, .p (.move  (.c (.int .i64 1))), none, false⟩])
       (.block 2
        (.loop [0, 1, 2, 7, 8, 9, 10, 11] [(.exit 2, [0, 1, 2, 7, 8, 9, 10])] l_spec_l02Inverse_0)))
      (.region false [⟨some 50, .p (.move  (.t 8)), none, false⟩,
        ⟨some 51, .p (.move  (.t 0)), none, false⟩,
        ⟨some 52, .p (.move  (.t 10)), none, false⟩,
        ⟨some 53, .p (.bin .sub (.t 51) (.t 52)), none, false⟩,
        ⟨some 54, .p (.move  (.t 7)), none, false⟩,
        ⟨some 55, .p (.bin .mul (.t 53) (.t 54)), none, false⟩,
        ⟨some 56, .p (.move  (.t 0)), none, false⟩,
        ⟨some 57, .p (.bin .rem (.t 55) (.t 56)), none, false⟩,
        ⟨some 58, .mkrow y_t_int64 1 1 [.int .i64 0] [(0, (.t 57))], none, false⟩,
        ⟨some 59, .append y_t_int64 1 8 (.t 50) (.t 58), none, false⟩,
        ⟨some 8, .p (.move  (.t 59)), none, false⟩]))))
   (.region false [⟨some 22, .p (.move  (.t 9)), none, false⟩,
     ⟨some 23, .p (.bin .add (.t 22) (.c (.int .i64 1))), none, false⟩,
     ⟨some 9, .p (.move  (.t 23)), none, false⟩]))
def q_spec_l02Inverse_1 (a0 a1 a2 a7 a8 a9 : Value) (h : Hp) (K K0 : Kont) : Prop :=
  bindO (binV .leq a9 a2) fun v21 => condM v21 (LP FF (YC.er l_spec_l02Inverse_0) [0, 1, 2, 7, 8, 9, 10, 11] [(.exit 2, [0, 1, 2, 7, 8, 9, 10], fun vs h1 => ∀ e : Env, [e 0, e 1, e 2, e 7, e 8, e 9, e 10] = vs → bindO (binV .sub (e 0) (e 10)) fun v53 => bindO (binV .mul v53 (e 7)) fun v55 => bindO (binV .rem v55 (e 0)) fun v57 => bindO (rowV 1 1 [.int .i64 0] [(0, v57)]) fun c58 => newB h1 ⟨c58, y_t_int64, true⟩ fun b58 h2 => bindVH (appendV y_t_int64 1 h2 (e 8) (.slice (some ⟨b58, 0, none⟩) 1 1)) fun v59 h3 => bindO (binV .add (e 9) (.int .i64 1)) fun v23 => K [(e 0), (e 1), (e 2), (e 7), v59, v23] h3)] [a0, a1, a2, a7, a8, a9, (.int .i64 0), (.int .i64 1)] h) (K0 [a8] h)
theorem wl_spec_l02Inverse_1 {a0 a1 a2 a7 a8 a9 : Value} {h : Hp} {K K0 : Kont} (H : q_spec_l02Inverse_1 a0 a1 a2 a7 a8 a9 h K K0) : ∀ e : Env, [e 0, e 1, e 2, e 7, e 8, e 9] = [a0, a1, a2, a7, a8, a9] → V FF l_spec_l02Inverse_1 (qsel [0, 1, 2, 7, 8, 9] K [(.exit 0, [8], K0)]) ⟨e, h⟩ := by
  intro e he; cases he; exact Eq.mp (by kernel_rfl) H
def y_spec_l02Inverse : YC :=
  .seq (.region false [⟨some 6, .p (.move  (.c (.slice none 0 0))), none, false⟩])
  (.seq (.region false [⟨some 12, .p (.move  (.t 0)), none, false⟩,
     ⟨some 13, .p (.move  (.t 1)), none, false⟩,
     ⟨some 14, .p (.indexAddr 1 (.t 13) (.c (.int .i64 0))), none, false⟩,
     ⟨some 15, .load 1 false (.t 14), none, false⟩,
     ⟨some 16, .call (.c (.func (.func n_spec_l01Inv) #[] #[])) [(.t 12), (.t 15)], none, false⟩,
     ⟨some 7, .p (.move  (.t 16)), none, false⟩])
   (.seq (.region false [⟨some 17, .p (.move  (.t 7)), none, false⟩,
      ⟨some 18, .mkrow y_t_int64 1 1 [.int .i64 0] [(0, (.t 17))], none, false⟩,
      ⟨some 8, .p (.move  (.t 18)), none, false⟩])
    (.seq (.seq (.region false [⟨some 9, .p (.move  (.c (.int .i64 1))), none, false⟩])
      (.block 0
       (.loop [0, 1, 2, 7, 8, 9] [(.exit 0, [8])] l_spec_l02Inverse_1)))
     (.seq (.region false [⟨some 60, .p (.move  (.t 8)), none, false⟩,
        ⟨some 6, .p (.move  (.t 60)), none, false⟩])
      (.ret)))))
theorem c_spec_l02Inverse : FF n_spec_l02Inverse = some ⟨61, y_spec_l02Inverse.er, [.tmp 6]⟩ := by kernel_rfl
def p_spec_l02Inverse (a0 a1 a2 : Value) (h : Hp) (R : Value → Hp → Prop) : Prop :=
  bindO (indexAddrV 1 a1 (.int .i64 0)) fun v14 => bindO (ldV 1 false h v14) fun v15 => CallW FF n_spec_l01Inv [a0, v15] h fun v16 h1 => bindO (rowV 1 1 [.int .i64 0] [(0, v16)]) fun c18 => newB h1 ⟨c18, y_t_int64, true⟩ fun b18 h2 => LP FF (YC.er l_spec_l02Inverse_1) [0, 1, 2, 7, 8, 9] [(.exit 0, [8], fun vs h3 => ∀ e : Env, [e 8] = vs → R (e 8) h3)] [a0, a1, a2, v16, (.slice (some ⟨b18, 0, none⟩) 1 1), (.int .i64 1)] h2
theorem w_spec_l02Inverse {a0 a1 a2 : Value} {h : Hp} {R : Value → Hp → Prop} (H : p_spec_l02Inverse a0 a1 a2 h R) : CallW FF n_spec_l02Inverse [a0, a1, a2] h R := callV_fin c_spec_l02Inverse (Eq.mp (by kernel_rfl) H)
def l_spec_l01Inv_0 : YC :=
  .seq (.seq (.region false [⟨some 16, .p (.move  (.t 6)), none, false⟩,
     ⟨some 17, .p (.bin .gtr (.t 16) (.c (.int .i64 0))), none, false⟩])
   (.cond (.t 17)
    (.skip)
    (.exit 0)))
  (.block 1
   (.seq (.region false [⟨some 18, .p (.move  (.t 5)), none, false⟩,
      ⟨some 19, .p (.move  (.t 6)), none, false⟩,
      ⟨some 20, .p (.bin .quo (.t 18) (.t 19)), none, false⟩,
      ⟨some 9, .p (.move  (.t 20)), none, false⟩])
    (.seq (.region false [⟨some 21, .p (.move  (.t 5)), none, false⟩,
       ⟨some 22, .p (.move  (.t 9)), none, false⟩,
       ⟨some 23, .p (.move  (.t 6)), none, false⟩,
       ⟨some 24, .p (.bin .mul (.t 22) (.t 23)), none, false⟩,
       ⟨some 25, .p (.bin .sub (.t 21) (.t 24)), none, false⟩,
       ⟨some 26, .p (.move  (.t 7)), none, false⟩,
       ⟨some 27, .p (.move  (.t 9)), none, false⟩,
       ⟨some 28, .p (.move  (.t 8)), none, false⟩,
       ⟨some 29, .p (.bin .mul (.t 27) (.t 28)), none, false⟩,
       ⟨some 30, .p (.bin .sub (.t 26) (.t 29)), none, false⟩,
       ⟨some 10, .p (.move  (.t 25)), none, false⟩,
       ⟨some 11, .p (.move  (.t 30)), none, false⟩])
     (.seq (.region false [⟨some 31, .p (.move  (.t 6)), none, false⟩,
        ⟨some 5, .p (.move  (.t 31)), none, false⟩])
      (.seq (.region false [⟨some 32, .p (.move  (.t 10)), none, false⟩,
         ⟨some 6, .p (.move  (.t 32)), none, false⟩])
       (.seq (.region false [⟨some 33, .p (.move  (.t 8)), none, false⟩,
          ⟨some 7, .p (.move  (.t 33)), none, false⟩])
        (.region false [⟨some 34, .p (.move  (.t 11)), none, false⟩,
          ⟨some 8, .p (.move  (.t 34)), none, false⟩])))))))
def q_spec_l01Inv_0 (a0 a5 a6 a7 a8 : Value) (h : Hp) (K K0 : Kont) : Prop :=
  bindO (binV .gtr a6 (.int .i64 0)) fun v17 => condM v17 (bindO (binV .quo a5 a6) fun v20 => bindO (binV .mul v20 a6) fun v24 => bindO (binV .sub a5 v24) fun v25 => bindO (binV .mul v20 a8) fun v29 => bindO (binV .sub a7 v29) fun v30 => K [a0, a6, v25, a8, v30] h) (K0 [a0, a7] h)
theorem wl_spec_l01Inv_0 {a0 a5 a6 a7 a8 : Value} {h : Hp} {K K0 : Kont} (H : q_spec_l01Inv_0 a0 a5 a6 a7 a8 h K K0) : ∀ e : Env, [e 0, e 5, e 6, e 7, e 8] = [a0, a5, a6, a7, a8] → V FF l_spec_l01Inv_0 (qsel [0, 5, 6, 7, 8] K [(.exit 0, [0, 7], K0)]) ⟨e, h⟩ := by
  intro e he; cases he; exact Eq.mp (by kernel_rfl) H
def y_spec_l01Inv : YC :=
  .seq (.region false [⟨some 4, .p (.move  (.c (.int .i64 0))), none, false⟩])
  (.seq (.region false [⟨some 12, .p (.move  (.t 0)), none, false⟩,
     ⟨some 13, .p (.move  (.t 0)), none, false⟩,
     ⟨some 14, .p (.move  (.t 1)), none, false⟩,
     ⟨some 15, .call (.c (.func (.func n_spec_l01Mod) #[] #[])) [(.t 13), (.t 14)], none, false⟩,
     ⟨some 5, .p (.move  (.t 12)), none, false⟩,
     ⟨some 6, .p (.move  (.t 15)), none, false⟩,
     ⟨some 7, .p (.move  (.c (.int .i64 0))), none, false⟩,
     ⟨some 8, .p (.move  (.c (.int .i64 1))), none, false⟩])
   (.seq (.block 0
     (.loop [0, 5, 6, 7, 8] [(.exit 0, [0, 7])] l_spec_l01Inv_0))
    (.seq (.region false [⟨some 35, .p (.move  (.t 0)), none, false⟩,
       ⟨some 36, .p (.move  (.t 7)), none, false⟩,
       ⟨some 37, .call (.c (.func (.func n_spec_l01Mod) #[] #[])) [(.t 35), (.t 36)], none, false⟩,
       ⟨some 4, .p (.move  (.t 37)), none, false⟩])
     (.ret))))
theorem c_spec_l01Inv : FF n_spec_l01Inv = some ⟨38, y_spec_l01Inv.er, [.tmp 4]⟩ := by kernel_rfl
def p_spec_l01Inv (a0 a1 : Value) (h : Hp) (R : Value → Hp → Prop) : Prop :=
  CallW FF n_spec_l01Mod [a0, a1] h fun v15 h1 => LP FF (YC.er l_spec_l01Inv_0) [0, 5, 6, 7, 8] [(.exit 0, [0, 7], fun vs h2 => ∀ e : Env, [e 0, e 7] = vs → CallW FF n_spec_l01Mod [(e 0), (e 7)] h2 fun v37 h3 => R v37 h3)] [a0, a0, v15, (.int .i64 0), (.int .i64 1)] h1
theorem w_spec_l01Inv {a0 a1 : Value} {h : Hp} {R : Value → Hp → Prop} (H : p_spec_l01Inv a0 a1 h R) : CallW FF n_spec_l01Inv [a0, a1] h R := callV_fin c_spec_l01Inv (Eq.mp (by kernel_rfl) H)
def l_spec_l03Both_0 : YC :=
  .seq (.seq (.region false [⟨some 62, .p (.move  (.t 15)), none, false⟩,
     ⟨some 63, .p (.move  (.t 17)), none, false⟩,
     ⟨some 64, .p (.bin .add (.t 62) (.t 63)), none, false⟩,
     ⟨some 65, .p (.move  (.t 9)), none, false⟩,
     ⟨some 66, .p (.bin .lss (.t 64) (.t 65)), none, false⟩])
   (.cond (.t 66)
    (.skip)
    (.exit 6)))
  (.seq (.block 7
    (.region false [⟨some 69, .p (.move  (.t 16)), none, false⟩,
      ⟨some 70, .p (.move  (.t 17)), none, false⟩,
      ⟨some 71, .p (.move  (.t 16)), none, false⟩,
      ⟨some 72, .p (.move  (.t 17)), none, false⟩,
      ⟨some 73, .p (.indexAddr 1 (.t 71) (.t 72)), none, false⟩,
      ⟨some 74, .load 1 false (.t 73), none, false⟩,
      ⟨some 75, .p (.move  (.t 1)), none, false⟩,
      ⟨some 76, .p (.move  (.t 13)), none, false⟩,
      ⟨some 77, .p (.indexAddr 1 (.t 75) (.t 76)), none, false⟩,
      ⟨some 78, .load 1 false (.t 77), none, false⟩,
      ⟨some 79, .p (.move  (.t 14)), none, false⟩,
      ⟨some 80, .p (.indexAddr 1 (.t 78) (.t 79)), none, false⟩,
      ⟨some 81, .load 1 false (.t 80), none, false⟩,
      ⟨some 82, .p (.move  (.t 10)), none, false⟩,
      ⟨some 83, .p (.move  (.t 13)), none, false⟩,
      ⟨some 84, .p (.indexAddr 1 (.t 82) (.t 83)), none, false⟩,
      ⟨some 85, .load 1 false (.t 84), none, false⟩,
      ⟨some 86, .p (.move  (.t 15)), none, false⟩,
      ⟨some 87, .p (.indexAddr 1 (.t 85) (.t 86)), none, false⟩,
      ⟨some 88, .load 1 false (.t 87), none, false⟩,
      ⟨some 89, .p (.bin .mul (.t 81) (.t 88)), none, false⟩,
      ⟨some 90, .p (.move  (.t 0)), none, false⟩,
      ⟨some 91, .p (.bin .rem (.t 89) (.t 90)), none, false⟩,
      ⟨some 92, .p (.move  (.t 11)), none, false⟩,
      ⟨some 93, .p (.move  (.t 14)), none, false⟩,
      ⟨some 94, .p (.indexAddr 1 (.t 92) (.t 93)), none, false⟩,
      ⟨some 95, .load 1 false (.t 94), none, false⟩,
      ⟨some 96, .p (.move  (.t 17)), none, false⟩,
      ⟨some 97, .p (.indexAddr 1 (.t 95) (.t 96)), none, false⟩,
      ⟨some 98, .load 1 false (.t 97), none, false⟩,
      ⟨some 99, .p (.bin .mul (.t 91) (.t 98)), none, false⟩,
      ⟨some 100, .p (.bin .add (.t 74) (.t 99)), none, false⟩,
      ⟨some 101, .p (.move  (.t 0)), none, false⟩,
      ⟨some 102, .p (.bin .rem (.t 100) (.t 101)), none, false⟩,
      ⟨some 103, .p (.indexAddr 1 (.t 69) (.t 70)), none, false⟩,
      ⟨none, .store 1 (.t 103) (.t 102), none, false⟩]))
   (.region false [⟨some 67, .p (.move  (.t 17)), none, false⟩,
     ⟨some 68, .p (.bin .add (.t 67) (.c (.int .i64 1))), none, false⟩,
     ⟨some 17, .p (.move  (.t 68)), none, false⟩]))
def q_spec_l03Both_0 (a0 a1 a9 a10 a11 a12 a13 a14 a15 a16 a17 : Value) (h : Hp) (K K0 : Kont) : Prop :=
  bindO (binV .add a15 a17) fun v64 => bindO (binV .lss v64 a9) fun v66 => condM v66 (bindO (indexAddrV 1 a16 a17) fun v73 => bindO (ldV 1 false h v73) fun v74 => bindO (indexAddrV 1 a1 a13) fun v77 => bindO (ldV 1 false h v77) fun v78 => bindO (indexAddrV 1 v78 a14) fun v80 => bindO (ldV 1 false h v80) fun v81 => bindO (indexAddrV 1 a10 a13) fun v84 => bindO (ldV 1 false h v84) fun v85 => bindO (indexAddrV 1 v85 a15) fun v87 => bindO (ldV 1 false h v87) fun v88 => bindO (binV .mul v81 v88) fun v89 => bindO (binV .rem v89 a0) fun v91 => bindO (indexAddrV 1 a11 a14) fun v94 => bindO (ldV 1 false h v94) fun v95 => bindO (indexAddrV 1 v95 a17) fun v97 => bindO (ldV 1 false h v97) fun v98 => bindO (binV .mul v91 v98) fun v99 => bindO (binV .add v74 v99) fun v100 => bindO (binV .rem v100 a0) fun v102 => bindO (indexAddrV 1 a16 a17) fun v103 => bindO (storeV 1 h v102 v103) fun h1 => bindO (binV .add a17 (.int .i64 1)) fun v68 => K [a0, a1, a9, a10, a11, a12, a13, a14, a15, a16, v68] h1) (K0 [a0, a1, a9, a10, a11, a12, a13, a14, a15] h)
theorem wl_spec_l03Both_0 {a0 a1 a9 a10 a11 a12 a13 a14 a15 a16 a17 : Value} {h : Hp} {K K0 : Kont} (H : q_spec_l03Both_0 a0 a1 a9 a10 a11 a12 a13 a14 a15 a16 a17 h K K0) : ∀ e : Env, [e 0, e 1, e 9, e 10, e 11, e 12, e 13, e 14, e 15, e 16, e 17] = [a0, a1, a9, a10, a11, a12, a13, a14, a15, a16, a17] → V FF l_spec_l03Both_0 (qsel [0, 1, 9, 10, 11, 12, 13, 14, 15, 16, 17] K [(.exit 6, [0, 1, 9, 10, 11, 12, 13, 14, 15], K0)]) ⟨e, h⟩ := by
  intro e he; cases he; exact Eq.mp (by kernel_rfl) H
def l_spec_l03Both_1 : YC :=
  .seq (.seq (.region false [⟨some 42, .p (.move  (.t 15)), none, false⟩,
     ⟨some 43, .p (.move  (.t 9)), none, false⟩,
     ⟨some 44, .p (.bin .lss (.t 42) (.t 43)), none, false⟩,
     ⟨some 45, .p (.move  (.t 44)), none, false⟩,
     ⟨some 46, .p (.move  (.t 1)), some (45, true), false⟩,
     ⟨some 47, .p (.move  (.t 13)), some (45, true), false⟩,
     ⟨some 48, .p (.indexAddr 1 (.t 46) (.t 47)), some (45, true), false⟩,
     ⟨some 49, .load 1 false (.t 48), some (45, true), false⟩,
     ⟨some 50, .p (.move  (.t 14)), some (45, true), false⟩,
     ⟨some 51, .p (.indexAddr 1 (.t 49) (.t 50)), some (45, true), false⟩,
     ⟨some 52, .load 1 false (.t 51), some (45, true), false⟩,
     ⟨some 53, .p (.bin .neq (.t 52) (.c (.int .i64 0))), some (45, true), false⟩,
     ⟨some 54, .p (.pick  (.t 45) (.t 53) (.c (.bool false))), none, false⟩])
   (.cond (.t 54)
    (.skip)
    (.exit 4)))
  (.seq (.block 5
    (.seq (.region false [⟨some 57, .p (.move  (.t 12)), none, false⟩,
       ⟨some 58, .p (.move  (.t 15)), none, false⟩,
       ⟨some 59, .p (.indexAddr 1 (.t 57) (.t 58)), none, false⟩,
       ⟨some 60, .load 1 false (.t 59), none, false⟩,
       ⟨some 16, .p (.move  (.t 60)), none, false⟩])
     (.seq (.region false [⟨some 61, .p (.move  (.t 14)), none, false⟩,
        ⟨some 17, .p (.move  (.t 61)), none, false⟩])
      (.block 6
       (.loop [0, 1, 9, 10, 11, 12, 13, 14, 15, 16, 17] [(.exit 6, [0, 1, 9, 10, 11, 12, 13, 14, 15])] l_spec_l03Both_0)))))
   (.region false [⟨some 55, .p (.move  (.t 15)), none, false⟩,
     ⟨some 56, .p (.bin .add (.t 55) (.c (.int .i64 1))), none, false⟩,
     ⟨some 15, .p (.move  (.t 56)), none, false⟩]))
def q_spec_l03Both_1 (a0 a1 a9 a10 a11 a12 a13 a14 a15 : Value) (h : Hp) (K K0 : Kont) : Prop :=
  bindO (binV .lss a15 a9) fun v44 => condM v44 (bindO (indexAddrV 1 a1 a13) fun v48 => bindO (ldV 1 false h v48) fun v49 => bindO (indexAddrV 1 v49 a14) fun v51 => bindO (ldV 1 false h v51) fun v52 => bindO (binV .neq v52 (.int .i64 0)) fun v53 => condM v53 (bindO (indexAddrV 1 a12 a15) fun v59 => bindO (ldV 1 false h v59) fun v60 => LP FF (YC.er l_spec_l03Both_0) [0, 1, 9, 10, 11, 12, 13, 14, 15, 16, 17] [(.exit 6, [0, 1, 9, 10, 11, 12, 13, 14, 15], fun vs h1 => ∀ e : Env, [e 0, e 1, e 9, e 10, e 11, e 12, e 13, e 14, e 15] = vs → bindO (binV .add (e 15) (.int .i64 1)) fun v56 => K [(e 0), (e 1), (e 9), (e 10), (e 11), (e 12), (e 13), (e 14), v56] h1)] [a0, a1, a9, a10, a11, a12, a13, a14, a15, v60, a14] h) (K0 [a0, a1, a9, a10, a11, a12, a13, a14] h)) (K0 [a0, a1, a9, a10, a11, a12, a13, a14] h)
theorem wl_spec_l03Both_1 {a0 a1 a9 a10 a11 a12 a13 a14 a15 : Value} {h : Hp} {K K0 : Kont} (H : q_spec_l03Both_1 a0 a1 a9 a10 a11 a12 a13 a14 a15 h K K0) : ∀ e : Env, [e 0, e 1, e 9, e 10, e 11, e 12, e 13, e 14, e 15] = [a0, a1, a9, a10, a11, a12, a13, a14, a15] → V FF l_spec_l03Both_1 (qsel [0, 1, 9, 10, 11, 12, 13, 14, 15] K [(.exit 4, [0, 1, 9, 10, 11, 12, 13, 14], K0)]) ⟨e, h⟩ := by
  intro e he; cases he; exact Eq.mp (by kernel_rfl) H
def l_spec_l03Both_2 : YC :=
  .seq (.seq (.region false [⟨some 34, .p (.move  (.t 13)), none, false⟩,
     ⟨some 35, .p (.move  (.t 14)), none, false⟩,
     ⟨some 36, .p (.bin .add (.t 34) (.t 35)), none, false⟩,
     ⟨some 37, .p (.move  (.t 9)), none, false⟩,
     ⟨some 38, .p (.bin .lss (.t 36) (.t 37)), none, false⟩])
   (.cond (.t 38)
    (.skip)
    (.exit 2)))
  (.seq (.block 3
    (.seq (.region false [⟨some 41, .p (.move  (.t 13)), none, false⟩,
       ⟨some 15, .p (.move  (.t 41)), none, false⟩])
     (.block 4
      (.loop [0, 1, 9, 10, 11, 12, 13, 14, 15] [(.exit 4, [0, 1, 9, 10, 11, 12, 13, 14])] l_spec_l03Both_1))))
   (.region false [⟨some 39, .p (.move  (.t 14)), none, false⟩,
     ⟨some 40, .p (.bin .add (.t 39) (.c (.int .i64 1))), none, false⟩,
     ⟨some 14, .p (.move  (.t 40)), none, false⟩]))
def q_spec_l03Both_2 (a0 a1 a9 a10 a11 a12 a13 a14 : Value) (h : Hp) (K K0 : Kont) : Prop :=
  bindO (binV .add a13 a14) fun v36 => bindO (binV .lss v36 a9) fun v38 => condM v38 (LP FF (YC.er l_spec_l03Both_1) [0, 1, 9, 10, 11, 12, 13, 14, 15] [(.exit 4, [0, 1, 9, 10, 11, 12, 13, 14], fun vs h1 => ∀ e : Env, [e 0, e 1, e 9, e 10, e 11, e 12, e 13, e 14] = vs → bindO (binV .add (e 14) (.int .i64 1)) fun v40 => K [(e 0), (e 1), (e 9), (e 10), (e 11), (e 12), (e 13), v40] h1)] [a0, a1, a9, a10, a11, a12, a13, a14, a13] h) (K0 [a0, a1, a9, a10, a11, a12, a13] h)
theorem wl_spec_l03Both_2 {a0 a1 a9 a10 a11 a12 a13 a14 : Value} {h : Hp} {K K0 : Kont} (H : q_spec_l03Both_2 a0 a1 a9 a10 a11 a12 a13 a14 h K K0) : ∀ e : Env, [e 0, e 1, e 9, e 10, e 11, e 12, e 13, e 14] = [a0, a1, a9, a10, a11, a12, a13, a14] → V FF l_spec_l03Both_2 (qsel [0, 1, 9, 10, 11, 12, 13, 14] K [(.exit 2, [0, 1, 9, 10, 11, 12, 13], K0)]) ⟨e, h⟩ := by
  intro e he; cases he; exact Eq.mp (by kernel_rfl) H
def l_spec_l03Both_3 : YC :=
  .seq (.seq (.region false [⟨some 29, .p (.move  (.t 13)), none, false⟩,
     ⟨some 30, .p (.move  (.t 9)), none, false⟩,
     ⟨some 31, .p (.bin .lss (.t 29) (.t 30)), none, false⟩])
   (.cond (.t 31)
    (.skip)
    (.exit 0)))
  (.seq (.block 1
    (.seq (.region false [⟨some 14, .p (.move  (.c (.int .i64 0))), none, false⟩])
     (.block 2
      (.loop [0, 1, 9, 10, 11, 12, 13, 14] [(.exit 2, [0, 1, 9, 10, 11, 12, 13])] l_spec_l03Both_2))))
   (.region false [⟨some 32, .p (.move  (.t 13)), none, false⟩,
     ⟨some 33, .p (.bin .add (.t 32) (.c (.int .i64 1))), none, false⟩,
     ⟨some 13, .p (.move  (.t 33)), none, false⟩]))
def q_spec_l03Both_3 (a0 a1 a9 a10 a11 a12 a13 : Value) (h : Hp) (K K0 : Kont) : Prop :=
  bindO (binV .lss a13 a9) fun v31 => condM v31 (LP FF (YC.er l_spec_l03Both_2) [0, 1, 9, 10, 11, 12, 13, 14] [(.exit 2, [0, 1, 9, 10, 11, 12, 13], fun vs h1 => ∀ e : Env, [e 0, e 1, e 9, e 10, e 11, e 12, e 13] = vs → bindO (binV .add (e 13) (.int .i64 1)) fun v33 => K [(e 0), (e 1), (e 9), (e 10), (e 11), (e 12), v33] h1)] [a0, a1, a9, a10, a11, a12, a13, (.int .i64 0)] h) (K0 [a12] h)
theorem wl_spec_l03Both_3 {a0 a1 a9 a10 a11 a12 a13 : Value} {h : Hp} {K K0 : Kont} (H : q_spec_l03Both_3 a0 a1 a9 a10 a11 a12 a13 h K K0) : ∀ e : Env, [e 0, e 1, e 9, e 10, e 11, e 12, e 13] = [a0, a1, a9, a10, a11, a12, a13] → V FF l_spec_l03Both_3 (qsel [0, 1, 9, 10, 11, 12, 13] K [(.exit 0, [12], K0)]) ⟨e, h⟩ := by
  intro e he; cases he; exact Eq.mp (by kernel_rfl) H
def y_spec_l03Both : YC :=
  .seq (.region false [⟨some 8, .p (.move  (.c (.slice none 0 0))), none, false⟩])
  (.seq (.region false [⟨some 18, .p (.move  (.t 1)), none, false⟩,
     ⟨some 19, .p (.len  (.t 18)), none, false⟩,
     ⟨some 9, .p (.move  (.t 19)), none, false⟩])
   (.seq (.region false [⟨some 20, .p (.move  (.t 0)), none, false⟩,
      ⟨some 21, .p (.move  (.t 2)), none, false⟩,
      ⟨some 22, .call (.c (.func (.func n_spec_l03Powers) #[] #[])) [(.t 20), (.t 21)], none, false⟩,
      ⟨some 23, .p (.move  (.t 0)), none, false⟩,
      ⟨some 24, .p (.move  (.t 3)), none, false⟩,
      ⟨some 25, .call (.c (.func (.func n_spec_l03Powers) #[] #[])) [(.t 23), (.t 24)], none, false⟩,
      ⟨some 26, .p (.move  (.t 9)), none, false⟩,
      ⟨some 27, .p (.bin .sub (.t 26) (.c (.int .i64 1))), none, false⟩,
      ⟨some 28, .call (.c (.func (.func n_spec_l03Zero) #[] #[])) [(.t 27)], none, false⟩,
      ⟨some 10, .p (.move  (.t 22)), none, false⟩,
      ⟨some 11, .p (.move  (.t 25)), none, false⟩,
      ⟨some 12, .p (.move  (.t 28)), none, false⟩])
    (.seq (.seq (.region false [⟨some 13, .p (.move  (.c (.int .i64 0))), none, false⟩])
      (.block 0
       (.loop [0, 1, 9, 10, 11, 12, 13] [(.exit 0, [12])] l_spec_l03Both_3)))
     (.seq (.region false [⟨some 104, .p (.move  (.t 12)), none, false⟩,
        ⟨some 8, .p (.move  (.t 104)), none, false⟩])
      (.ret)))))
theorem c_spec_l03Both : FF n_spec_l03Both = some ⟨105, y_spec_l03Both.er, [.tmp 8]⟩ := by kernel_rfl
def p_spec_l03Both (a0 a1 a2 a3 : Value) (h : Hp) (R : Value → Hp → Prop) : Prop :=
  bindO (lenV  a1) fun v19 => CallW FF n_spec_l03Powers [a0, a2] h fun v22 h1 => CallW FF n_spec_l03Powers [a0, a3] h1 fun v25 h2 => bindO (binV .sub v19 (.int .i64 1)) fun v27 => CallW FF n_spec_l03Zero [v27] h2 fun v28 h3 => LP FF (YC.er l_spec_l03Both_3) [0, 1, 9, 10, 11, 12, 13] [(.exit 0, [12], fun vs h4 => ∀ e : Env, [e 12] = vs → R (e 12) h4)] [a0, a1, v19, v22, v25, v28, (.int .i64 0)] h3
theorem w_spec_l03Both {a0 a1 a2 a3 : Value} {h : Hp} {R : Value → Hp → Prop} (H : p_spec_l03Both a0 a1 a2 a3 h R) : CallW FF n_spec_l03Both [a0, a1, a2, a3] h R := callV_fin c_spec_l03Both (Eq.mp (by kernel_rfl) H)
def l_impl_emptyPlane_0 : YC :=
  .seq (.region false [⟨some 12, .p (.bin .lss (.t 11) (.t 10)), none, false⟩])
  (.seq (.cond (.t 12)
    (.skip)
    (.exit 0))
   (.seq (.block 1
     (.seq (.region false [⟨some 13, .p (.move  (.t 11)), none, false⟩,
        ⟨some 6, .p (.move  (.t 13)), none, false⟩])
      (.region false [⟨some 14, .p (.fieldAddr 1 (.t 5)), none, false⟩,
        ⟨some 15, .load 1 false (.t 14), none, false⟩,
        ⟨some 16, .p (.move  (.t 1)), none, false⟩,
        ⟨some 17, .p (.bin .add (.t 16) (.c (.int .i64 1))), none, false⟩,
        ⟨some 18, .p (.move  (.t 6)), none, false⟩,
        ⟨some 19, .p (.bin .sub (.t 17) (.t 18)), none, false⟩,
        ⟨some 20, .make y_t_int64 1 8 [.int .i64 0] (.t 19), none, false⟩,
        ⟨some 21, .mkrow y_t_Lint64 1 1 [.slice none 0 0] [(0, (.t 20))], none, false⟩,
        ⟨some 22, .append y_t_Lint64 1 24 (.t 15) (.t 21), none, false⟩,
        ⟨some 23, .p (.fieldAddr 1 (.t 5)), none, false⟩,
        ⟨none, .store 1 (.t 23) (.t 22), none, false⟩])))
    (.region false [⟨some 24, .p (.bin .add (.t 11) (.c (.int .i64 1))), none, false⟩,
      ⟨some 11, .p (.move  (.t 24)), none, false⟩])))
def q_impl_emptyPlane_0 (a1 a4 a5 a10 a11 : Value) (h : Hp) (K K0 : Kont) : Prop :=
  bindO (binV .lss a11 a10) fun v12 => condM v12 (bindO (fieldAddrV 1 a5) fun v14 => bindO (ldV 1 false h v14) fun v15 => bindO (binV .add a1 (.int .i64 1)) fun v17 => bindO (binV .sub v17 a11) fun v19 => bindO (makN v19) fun c20 => newB h ⟨reps c20 [.int .i64 0], y_t_int64, true⟩ fun b20 h1 => bindO (rowV 1 1 [.slice none 0 0] [(0, (.slice (some ⟨b20, 0, none⟩) c20 1))]) fun c21 => newB h1 ⟨c21, y_t_Lint64, true⟩ fun b21 h2 => bindVH (appendV y_t_Lint64 1 h2 v15 (.slice (some ⟨b21, 0, none⟩) 1 1)) fun v22 h3 => bindO (fieldAddrV 1 a5) fun v23 => bindO (storeV 1 h3 v22 v23) fun h4 => bindO (binV .add a11 (.int .i64 1)) fun v24 => K [a1, a4, a5, a10, v24] h4) (K0 [a4, a5] h)
theorem wl_impl_emptyPlane_0 {a1 a4 a5 a10 a11 : Value} {h : Hp} {K K0 : Kont} (H : q_impl_emptyPlane_0 a1 a4 a5 a10 a11 h K K0) : ∀ e : Env, [e 1, e 4, e 5, e 10, e 11] = [a1, a4, a5, a10, a11] → V FF l_impl_emptyPlane_0 (qsel [1, 4, 5, 10, 11] K [(.exit 0, [4, 5], K0)]) ⟨e, h⟩ := by
  intro e he; cases he; exact Eq.mp (by kernel_rfl) H
def y_impl_emptyPlane : YC :=
  .seq (.region false [⟨some 4, .box y_t_impl_Plane 2 (.c (.agg #[.int .i64 0, .slice none 0 0])), none, false⟩])
  (.seq (.region false [⟨some 7, .p (.move  (.t 0)), none, false⟩,
     ⟨some 8, .p (.build [.int .i64 0, .slice none 0 0] [(0, 1, (.t 7))]), none, false⟩,
     ⟨some 5, .box y_t_impl_Plane 2 (.c (.agg #[.int .i64 0, .slice none 0 0])), none, false⟩,
     ⟨none, .store 2 (.t 5) (.t 8), none, false⟩])
   (.seq (.seq (.region false [⟨some 9, .p (.move  (.t 1)), none, false⟩,
       ⟨some 10, .p (.bin .add (.t 9) (.c (.int .i64 1))), none, false⟩,
       ⟨some 11, .p (.move  (.c (.int .i64 0))), none, false⟩])
     (.block 0
      (.loop [1, 4, 5, 10, 11] [(.exit 0, [4, 5])] l_impl_emptyPlane_0)))
    (.seq (.region false [⟨some 25, .load 2 true (.t 5), none, false⟩,
       ⟨none, .store 2 (.t 4) (.t 25), none, false⟩])
     (.ret))))
theorem c_impl_emptyPlane : FF n_impl_emptyPlane = some ⟨26, y_impl_emptyPlane.er, [.cell 4 2 true]⟩ := by kernel_rfl
def p_impl_emptyPlane (a0 a1 : Value) (h : Hp) (R : Value → Hp → Prop) : Prop :=
  bindO (boxV 2 (.agg #[.int .i64 0, .slice none 0 0])) fun c4 => newB h ⟨c4, y_t_impl_Plane, true⟩ fun b4 h1 => bindO ((fillX [.int .i64 0, .slice none 0 0] [(0, 1, a0)]).map fun cs => Value.agg cs.toArray) fun v8 => bindO (boxV 2 (.agg #[.int .i64 0, .slice none 0 0])) fun c5 => newB h1 ⟨c5, y_t_impl_Plane, true⟩ fun b5 h2 => bindO (storeV 2 h2 v8 (.pointer (some ⟨b5, 0, none⟩))) fun h3 => bindO (binV .add a1 (.int .i64 1)) fun v10 => LP FF (YC.er l_impl_emptyPlane_0) [1, 4, 5, 10, 11] [(.exit 0, [4, 5], fun vs h4 => ∀ e : Env, [e 4, e 5] = vs → bindO (ldV 2 true h4 (e 5)) fun v25 => bindO (storeV 2 h4 v25 (e 4)) fun h5 => bindO (ldV 2 true h5 (e 4)) fun r4 => R r4 h5)] [a1, (.pointer (some ⟨b4, 0, none⟩)), (.pointer (some ⟨b5, 0, none⟩)), v10, (.int .i64 0)] h3
theorem w_impl_emptyPlane {a0 a1 : Value} {h : Hp} {R : Value → Hp → Prop} (H : p_impl_emptyPlane a0 a1 h R) : CallW FF n_impl_emptyPlane [a0, a1] h R := callV_fin c_impl_emptyPlane (Eq.mp (by kernel_rfl) H)
def y_math_bits_Len64 : YC :=
  .seq (.region false [⟨some 2, .p (.move  (.c (.int .i64 0))), none, false⟩])
  (.join [0, 2] (.seq (.region false [⟨some 3, .p (.move  (.t 0)), none, false⟩,
      ⟨some 4, .p (.bin .geq (.t 3) (.c (.int .u64 4294967296))), none, false⟩])
    (.cond (.t 4)
     (.seq (.region false [⟨some 5, .p (.move  (.t 0)), none, false⟩,
        ⟨some 6, .p (.bin .shr (.t 5) (.c (.int .u64 32))), none, false⟩,
        ⟨some 0, .p (.move  (.t 6)), none, false⟩])
      (.region false [⟨some 2, .p (.move  (.c (.int .i64 32))), none, false⟩]))
     (.skip)))
   (.join [0, 2] (.seq (.region false [⟨some 7, .p (.move  (.t 0)), none, false⟩,
       ⟨some 8, .p (.bin .geq (.t 7) (.c (.int .u64 65536))), none, false⟩])
     (.cond (.t 8)
      (.seq (.region false [⟨some 9, .p (.move  (.t 0)), none, false⟩,
         ⟨some 10, .p (.bin .shr (.t 9) (.c (.int .u64 16))), none, false⟩,
         ⟨some 0, .p (.move  (.t 10)), none, false⟩])
       (.region false [⟨some 11, .p (.move  (.t 2)), none, false⟩,
         ⟨some 12, .p (.bin .add (.t 11) (.c (.int .i64 16))), none, false⟩,
         ⟨some 2, .p (.move  (.t 12)), none, false⟩]))
      (.skip)))
    (.join [0, 2] (.seq (.region false [⟨some 13, .p (.move  (.t 0)), none, false⟩,
        ⟨some 14, .p (.bin .geq (.t 13) (.c (.int .u64 256))), none, false⟩])
      (.cond (.t 14)
       (.seq (.region false [⟨some 15, .p (.move  (.t 0)), none, false⟩,
          ⟨some 16, .p (.bin .shr (.t 15) (.c (.int .u64 8))), none, false⟩,
          ⟨some 0, .p (.move  (.t 16)), none, false⟩])
        (.region false [⟨some 17, .p (.move  (.t 2)), none, false⟩,
          ⟨some 18, .p (.bin .add (.t 17) (.c (.int .i64 8))), none, false⟩,
          ⟨some 2, .p (.move  (.t 18)), none, false⟩]))
       (.skip)))
     (.seq (.region false [⟨some 19, .p (.move  (.t 2)), none, false⟩,
        ⟨some 20, .p (.move  (.t 0)), none, false⟩,
        ⟨some 21, .p (.conv .u8 (.t 20)), none, false⟩,
        ⟨some 22, .p (.indexStr  (.c (.string ⟨#[0, 1, 2, 2, 3, 3, 3, 3, 4, 4, 4, 4, 4, 4, 4, 4, 5, 5, 5, 5, 5, 5, 5, 5, 5, 5, 5, 5, 5, 5, 5, 5, 6, 6, 6, 6, 6, 6, 6, 6, 6, 6, 6, 6, 6, 6, 6, 6, 6, 6, 6, 6, 6, 6, 6, 6, 6, 6, 6, 6, 6, 6, 6, 6, 7, 7, 7, 7, 7, 7, 7, 7, 7, 7, 7, 7, 7, 7, 7, 7, 7, 7, 7, 7, 7, 7, 7, 7, 7, 7, 7, 7, 7, 7, 7, 7, 7, 7, 7, 7, 7, 7, 7, 7, 7, 7, 7, 7, 7, 7, 7, 7, 7, 7, 7, 7, 7, 7, 7, 7, 7, 7, 7, 7, 7, 7, 7, 7, 8, 8, 8, 8, 8, 8, 8, 8, 8, 8, 8, 8, 8, 8, 8, 8, 8, 8, 8, 8, 8, 8, 8, 8, 8, 8, 8, 8, 8, 8, 8, 8, 8, 8, 8, 8, 8, 8, 8, 8, 8, 8, 8, 8, 8, 8, 8, 8, 8, 8, 8, 8, 8, 8, 8, 8, 8, 8, 8, 8, 8, 8, 8, 8, 8, 8, 8, 8, 8, 8, 8, 8, 8, 8, 8, 8, 8, 8, 8, 8, 8, 8, 8, 8, 8, 8, 8, 8, 8, 8, 8, 8, 8, 8, 8, 8, 8, 8, 8, 8, 8, 8, 8, 8, 8, 8, 8, 8, 8, 8, 8, 8, 8, 8, 8, 8, 8, 8, 8, 8, 8, 8, 8, 8, 8, 8, 8, 8]⟩)) (.t 21)), none, false⟩,
        ⟨some 23, .p (.conv .i64 (.t 22)), none, false⟩,
        ⟨some 24, .p (.bin .add (.t 19) (.t 23)), none, false⟩,
        ⟨some 2, .p (.move  (.t 24)), none, false⟩])
      (.ret)))))
theorem c_math_bits_Len64 : FF n_math_bits_Len64 = some ⟨25, y_math_bits_Len64.er, [.tmp 2]⟩ := by kernel_rfl
def p_math_bits_Len64 (a0 : Value) (h : Hp) (R : Value → Hp → Prop) : Prop :=
  JN (fun J => bindO (binV .geq a0 (.int .u64 4294967296)) fun v4 => condM v4 (bindO (binV .shr a0 (.int .u64 32)) fun v6 => J [v6, (.int .i64 32)] h) (J [a0, (.int .i64 0)] h)) fun vs h1 => ∀ e : Env, [e 0, e 2] = vs → JN (fun J => bindO (binV .geq (e 0) (.int .u64 65536)) fun v8 => condM v8 (bindO (binV .shr (e 0) (.int .u64 16)) fun v10 => bindO (binV .add (e 2) (.int .i64 16)) fun v12 => J [v10, v12] h1) (J [(e 0), (e 2)] h1)) fun vs_1 h2 => ∀ e_1 : Env, [e_1 0, e_1 2] = vs_1 → JN (fun J => bindO (binV .geq (e_1 0) (.int .u64 256)) fun v14 => condM v14 (bindO (binV .shr (e_1 0) (.int .u64 8)) fun v16 => bindO (binV .add (e_1 2) (.int .i64 8)) fun v18 => J [v16, v18] h2) (J [(e_1 0), (e_1 2)] h2)) fun vs_2 h3 => ∀ e_2 : Env, [e_2 0, e_2 2] = vs_2 → bindO (convV .u8 (e_2 0)) fun v21 => bindO (indexStrV  (.string ⟨#[0, 1, 2, 2, 3, 3, 3, 3, 4, 4, 4, 4, 4, 4, 4, 4, 5, 5, 5, 5, 5, 5, 5, 5, 5, 5, 5, 5, 5, 5, 5, 5, 6, 6, 6, 6, 6, 6, 6, 6, 6, 6, 6, 6, 6, 6, 6, 6, 6, 6, 6, 6, 6, 6, 6, 6, 6, 6, 6, 6, 6, 6, 6, 6, 7, 7, 7, 7, 7, 7, 7, 7, 7, 7, 7, 7, 7, 7, 7, 7, 7, 7, 7, 7, 7, 7, 7, 7, 7, 7, 7, 7, 7, 7, 7, 7, 7, 7, 7, 7, 7, 7, 7, 7, 7, 7, 7, 7, 7, 7, 7, 7, 7, 7, 7, 7, 7, 7, 7, 7, 7, 7, 7, 7, 7, 7, 7, 7, 8, 8, 8, 8, 8, 8, 8, 8, 8, 8, 8, 8, 8, 8, 8, 8, 8, 8, 8, 8, 8, 8, 8, 8, 8, 8, 8, 8, 8, 8, 8, 8, 8, 8, 8, 8, 8, 8, 8, 8, 8, 8, 8, 8, 8, 8, 8, 8, 8, 8, 8, 8, 8, 8, 8, 8, 8, 8, 8, 8, 8, 8, 8, 8, 8, 8, 8, 8, 8, 8, 8, 8, 8, 8, 8, 8, 8, 8, 8, 8, 8, 8, 8, 8, 8, 8, 8, 8, 8, 8, 8, 8, 8, 8, 8, 8, 8, 8, 8, 8, 8, 8, 8, 8, 8, 8, 8, 8, 8, 8, 8, 8, 8, 8, 8, 8, 8, 8, 8, 8, 8, 8, 8, 8, 8, 8, 8, 8]⟩) v21) fun v22 => bindO (convV .i64 v22) fun v23 => bindO (binV .add (e_2 2) v23) fun v24 => R v24 h3
theorem w_math_bits_Len64 {a0 : Value} {h : Hp} {R : Value → Hp → Prop} (H : p_math_bits_Len64 a0 h R) : CallW FF n_math_bits_Len64 [a0] h R := callV_fin c_math_bits_Len64 (Eq.mp (by kernel_rfl) H)
def y_spec_l01Mod : YC :=
  .seq (.region false [⟨some 4, .p (.move  (.c (.int .i64 0))), none, false⟩])
  (.seq (.region false [⟨some 5, .p (.move  (.t 1)), none, false⟩,
     ⟨some 6, .p (.move  (.t 0)), none, false⟩,
     ⟨some 7, .p (.bin .rem (.t 5) (.t 6)), none, false⟩,
     ⟨some 8, .p (.move  (.t 0)), none, false⟩,
     ⟨some 9, .p (.bin .add (.t 7) (.t 8)), none, false⟩,
     ⟨some 10, .p (.move  (.t 0)), none, false⟩,
     ⟨some 11, .p (.bin .rem (.t 9) (.t 10)), none, false⟩,
     ⟨some 4, .p (.move  (.t 11)), none, false⟩])
   (.ret))
theorem c_spec_l01Mod : FF n_spec_l01Mod = some ⟨12, y_spec_l01Mod.er, [.tmp 4]⟩ := by kernel_rfl
def p_spec_l01Mod (a0 a1 : Value) (h : Hp) (R : Value → Hp → Prop) : Prop :=
  bindO (binV .rem a1 a0) fun v7 => bindO (binV .add v7 a0) fun v9 => bindO (binV .rem v9 a0) fun v11 => R v11 h
theorem w_spec_l01Mod {a0 a1 : Value} {h : Hp} {R : Value → Hp → Prop} (H : p_spec_l01Mod a0 a1 h R) : CallW FF n_spec_l01Mod [a0, a1] h R := callV_fin c_spec_l01Mod (Eq.mp (by kernel_rfl) H)
end XM

/- Numbers modulo M: the functions of the first chapter that all others use. -/
namespace XM
open Go

abbrev i6 (n : Int) : Value := .int .i64 n

theorem s_spec_l01In {n lo hi : Int} {h : Hp} {R : Value → Hp → Prop} (hR : R (.bool (decide (lo ≤ n ∧ n ≤ hi))) h) : CallW FF n_spec_l01In [i6 n, i6 lo, i6 hi] h R := by
  refine w_spec_l01In ?_
  by_cases h1 : lo ≤ n <;> simp [p_spec_l01In, h1] at hR ⊢ <;> exact hR
theorem s_impl_in {n lo hi : Int} {h : Hp} {R : Value → Hp → Prop} (hR : R (.bool (decide (lo ≤ n ∧ n ≤ hi))) h) : CallW FF n_impl_in [i6 n, i6 lo, i6 hi] h R := by
  refine w_impl_in ?_
  by_cases h1 : lo ≤ n <;> simp [p_impl_in, h1] at hR ⊢ <;> exact hR
theorem s_spec_l01Modulus {n : Int} {h : Hp} {R : Value → Hp → Prop} (hR : R (.bool (decide (2 ≤ n ∧ n ≤ 10000))) h) : CallW FF n_spec_l01Modulus [i6 n] h R :=
  w_spec_l01Modulus (s_spec_l01In hR)
theorem s_impl_IsModulus {n : Int} {h : Hp} {R : Value → Hp → Prop} (hR : R (.bool (decide (2 ≤ n ∧ n ≤ 10000))) h) : CallW FF n_impl_IsModulus [i6 n] h R :=
  w_impl_IsModulus (s_impl_in hR)
theorem s_impl_isNumber {a m : Int} {h : Hp} {R : Value → Hp → Prop} (hm : -9000000000000000000 ≤ m) (hm2 : m ≤ 9000000000000000000) (hR : R (.bool (decide (0 ≤ a ∧ a < m))) h) : CallW FF n_impl_isNumber [i6 a, i6 m] h R := by
  refine w_impl_isNumber ?_
  have w1 : IntKind.i64.wrap (m - 1) = m - 1 := wrapI (by omega) (by omega)
  simp [p_impl_isNumber, w1]
  refine s_impl_in ?_
  have e : (decide (0 ≤ a ∧ a ≤ m - 1)) = decide (0 ≤ a ∧ a < m) := by congr 1; rw [eq_iff_iff]; omega
  rw [e]; exact hR

theorem tmod_mod {n m : Int} (hm : 0 < m) : (n.tmod m + m).tmod m = n % m := by
  have h1 : -m < n.tmod m := Int.lt_tmod_of_pos n hm
  rw [Int.tmod_eq_emod_of_nonneg (by omega), Int.add_emod_right]
  rcases Int.lt_or_le n 0 with h | h
  · have := Int.tmod_def n m
    rw [this, Int.sub_emod, Int.mul_emod_right]; simp
  · rw [Int.tmod_eq_emod_of_nonneg h, Int.emod_emod]

theorem s_impl_mod {n m : Int} {h : Hp} {R : Value → Hp → Prop} (hm : 0 < m) (hm2 : m ≤ 4000000000000000000) (hR : R (i6 (n % m)) h) : CallW FF n_impl_mod [i6 n, i6 m] h R := by
  refine w_impl_mod ?_
  have h1 : -m < n.tmod m := Int.lt_tmod_of_pos n hm
  have h2 : n.tmod m < m := Int.tmod_lt_of_pos n hm
  have w1 : IntKind.i64.wrap (n.tmod m + m) = n.tmod m + m := wrapI (by omega) (by omega)
  have m0 : ¬ m = 0 := by omega
  simpa [p_impl_mod, w1, m0, tmod_mod hm] using hR
theorem s_spec_l01Mod {n m : Int} {h : Hp} {R : Value → Hp → Prop} (hm : 0 < m) (hm2 : m ≤ 4000000000000000000) (hR : R (i6 (n % m)) h) : CallW FF n_spec_l01Mod [i6 m, i6 n] h R := by
  refine w_spec_l01Mod ?_
  have h1 : -m < n.tmod m := Int.lt_tmod_of_pos n hm
  have h2 : n.tmod m < m := Int.tmod_lt_of_pos n hm
  have w1 : IntKind.i64.wrap (n.tmod m + m) = n.tmod m + m := wrapI (by omega) (by omega)
  have m0 : ¬ m = 0 := by omega
  simpa [p_spec_l01Mod, w1, m0, tmod_mod hm] using hR
theorem s_impl_mul {a b m : Int} {h : Hp} {R : Value → Hp → Prop} (hm : 0 < m) (hm2 : m ≤ 3000000000) (ha : 0 ≤ a) (hb : 0 ≤ b) (hab : a * b ≤ 9000000000000000000) (hR : R (i6 (a * b % m)) h) : CallW FF n_impl_mul [i6 m, i6 a, i6 b] h R := by
  refine w_impl_mul ?_
  have h0 : 0 ≤ a * b := Int.mul_nonneg ha hb
  have w1 : IntKind.i64.wrap (a * b) = a * b := wrapI (by omega) (by omega)
  have m0 : ¬ m = 0 := by omega
  simpa [p_impl_mul, w1, m0, hm2, Int.tmod_eq_emod_of_nonneg h0] using hR

theorem s_spec_l01Numbers {m : Int} {A : Option Addr} {xs : List Int} {c : Nat} {h : Hp} {R : Value → Hp → Prop} (hr : RI h A xs) (hm : -9000000000000000000 ≤ m) (hm2 : m ≤ 9000000000000000000) (hl : xs.length ≤ sizeMax)
    (hR : R (.bool (decide (Nums m xs))) h) : CallW FF n_spec_l01Numbers [i6 m, .slice A xs.length c] h R := by
  refine w_spec_l01Numbers ?_
  unfold sizeMax at hl
  refine LP2 (fun d vs h' => ∃ i : Nat, d = xs.length - i ∧ i ≤ xs.length ∧ h' = h ∧ vs = [i6 m, .slice A xs.length c, i6 i] ∧ Nums m (xs.take i)) ?_ _ _ _ ⟨0, rfl, by omega, rfl, rfl, by simp [Nums]⟩
  rintro d vs h' ⟨i, rfl, hi, rfl, rfl, hN⟩ K K1 K2 hK hK1 hK2
  have w1 : IntKind.i64.wrap (m - 1) = m - 1 := wrapI (by omega) (by omega)
  refine wl_spec_l01Numbers_0 ?_
  by_cases hlt : i < xs.length
  · obtain ⟨r1, r2⟩ := hr.rd (e := i) (c := c) (k := .i64) rfl rfl hlt
    have r3 := r2 h' (HE.refl _)
    have w2 : IntKind.i64.wrap ((i : Int) + 1) = i + 1 := wrapI (by omega) (by omega)
    simp [q_spec_l01Numbers_0, hlt, r1, r3, w1]
    refine s_spec_l01In ?_
    by_cases hc : 0 ≤ XM.gt xs i ∧ XM.gt xs i ≤ m - 1
    · simp [hc, w2]
      exact hK _ _ _ (by omega) ⟨i + 1, rfl, by omega, rfl, rfl, (nums_take hlt).2 ⟨hN, by omega⟩⟩
    · simp [hc]
      refine hK2 _ _ fun e he => ?_
      have : ¬ Nums m xs := fun hn => hc (by have := hn.gt hlt; omega)
      simp at he; simpa [this, he] using hR
  · have : xs.take i = xs := List.take_of_length_le (by omega)
    rw [this] at hN
    simp [q_spec_l01Numbers_0, hlt]
    refine hK1 _ _ fun e he => ?_
    simpa [hN] using hR

end XM
