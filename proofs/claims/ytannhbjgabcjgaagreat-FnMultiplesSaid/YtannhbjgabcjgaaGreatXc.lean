/- What is proved at the end: for every input FnMultiples returns true and its argument reads as it did; without condition. Part 3 of 7. -/
import Derived.Test.YtannhbjgabcjgaaGreatXb

/- Functions of the translation in the code of the abstract machine. -/
namespace XM
open Go
def l_spec_l04Multiple_0 : YC :=
  .seq (.seq (.region false [⟨some 20, .p (.move  (.t 1)), none, false⟩,
     ⟨some 21, .p (.bin .gtr (.t 20) (.c (.int .i64 0))), none, false⟩])
   (.cond (.t 21)
    (.skip)
    (.exit 0)))
  (.seq (.block 1
    (.join [1, 2, 3, 7] (.seq (.region false [⟨some 24, .p (.move  (.t 1)), none, false⟩,
        ⟨some 25, .p (.bin .rem (.t 24) (.c (.int .i64 2))), none, false⟩,
        ⟨some 26, .p (.bin .eql (.t 25) (.c (.int .i64 1))), none, false⟩])
      (.cond (.t 26)
       (.region false [⟨some 27, .p (.fieldAddr 0 (.t 3)), none, false⟩,
         ⟨some 28, .load 1 false (.t 27), none, false⟩,
         ⟨some 29, .p (.fieldAddr 1 (.t 3)), none, false⟩,
         ⟨some 30, .load 1 false (.t 29), none, false⟩,
         ⟨some 31, .p (.move  (.t 7)), none, false⟩,
         ⟨some 32, .p (.move  (.t 2)), none, false⟩,
         ⟨some 33, .call (.c (.func (.func n_spec_l03Put) #[] #[])) [(.t 28), (.t 30), (.t 31), (.t 32)], none, false⟩,
         ⟨some 7, .p (.move  (.t 33)), none, false⟩])
       (.skip)))
     (.region false [⟨some 34, .p (.fieldAddr 0 (.t 3)), none, false⟩,
       ⟨some 35, .load 1 false (.t 34), none, false⟩,
       ⟨some 36, .p (.fieldAddr 1 (.t 3)), none, false⟩,
       ⟨some 37, .load 1 false (.t 36), none, false⟩,
       ⟨some 38, .p (.move  (.t 2)), none, false⟩,
       ⟨some 39, .p (.move  (.t 2)), none, false⟩,
       ⟨some 40, .call (.c (.func (.func n_spec_l03Put) #[] #[])) [(.t 35), (.t 37), (.t 38), (.t 39)], none, false⟩,
       ⟨some 2, .p (.move  (.t 40)), none, false⟩])))
   (.region false [⟨some 22, .p (.move  (.t 1)), none, false⟩,
     ⟨some 23, .p (.bin .quo (.t 22) (.c (.int .i64 2))), none, false⟩,
     ⟨some 1, .p (.move  (.t 23)), none, false⟩]))
def q_spec_l04Multiple_0 (a1 a2 a3 a7 : Value) (h : Hp) (K K0 : Kont) : Prop :=
  bindO (binV .gtr a1 (.int .i64 0)) fun v21 => condM v21 (JN (fun J => bindO (binV .rem a1 (.int .i64 2)) fun v25 => bindO (binV .eql v25 (.int .i64 1)) fun v26 => condM v26 (bindO (fieldAddrV 0 a3) fun v27 => bindO (ldV 1 false h v27) fun v28 => bindO (fieldAddrV 1 a3) fun v29 => bindO (ldV 1 false h v29) fun v30 => CallW FF n_spec_l03Put [v28, v30, a7, a2] h fun v33 h1 => J [a1, a2, a3, v33] h1) (J [a1, a2, a3, a7] h)) fun vs h1 => ∀ e : Env, [e 1, e 2, e 3, e 7] = vs → bindO (fieldAddrV 0 (e 3)) fun v34 => bindO (ldV 1 false h1 v34) fun v35 => bindO (fieldAddrV 1 (e 3)) fun v36 => bindO (ldV 1 false h1 v36) fun v37 => CallW FF n_spec_l03Put [v35, v37, (e 2), (e 2)] h1 fun v40 h2 => bindO (binV .quo (e 1) (.int .i64 2)) fun v23 => K [v23, v40, (e 3), (e 7)] h2) (K0 [a7] h)
theorem wl_spec_l04Multiple_0 {a1 a2 a3 a7 : Value} {h : Hp} {K K0 : Kont} (H : q_spec_l04Multiple_0 a1 a2 a3 a7 h K K0) : ∀ e : Env, [e 1, e 2, e 3, e 7] = [a1, a2, a3, a7] → V FF l_spec_l04Multiple_0 (qsel [1, 2, 3, 7] K [(.exit 0, [7], K0)]) ⟨e, h⟩ := by
  intro e he; cases he; exact Eq.mp (by kernel_rfl) H
def y_spec_l04Multiple : YC :=
  .seq (.region false [⟨some 3, .box y_t_impl_Plane 2 (.t 0), none, false⟩,
    ⟨some 6, .p (.move  (.c (.slice none 0 0))), none, false⟩])
  (.seq (.seq (.region false [⟨some 8, .p (.move  (.t 1)), none, false⟩,
      ⟨some 9, .p (.bin .lss (.t 8) (.c (.int .i64 0))), none, false⟩])
    (.cond (.t 9)
     (.seq (.region true [⟨some 10, .load 2 true (.t 3), none, true⟩,
        ⟨some 11, .load 2 true (.t 3), none, false⟩,
        ⟨some 12, .p (.move  (.t 1)), none, false⟩,
        ⟨some 13, .p (.un .neg (.t 12)), none, false⟩,
        ⟨some 14, .p (.move  (.t 2)), none, false⟩,
        ⟨some 15, .call (.c (.func (.func n_spec_l04Multiple) #[] #[])) [(.t 11), (.t 13), (.t 14)], none, true⟩,
        ⟨some 16, .call (.c (.func (.func n_spec_l04Opposite) #[] #[])) [(.t 10), (.t 15)], none, false⟩,
        ⟨some 6, .p (.move  (.t 16)), none, false⟩])
      (.ret))
     (.skip)))
   (.seq (.region false [⟨some 17, .p (.move  (.t 2)), none, false⟩,
      ⟨some 18, .p (.len  (.t 17)), none, false⟩,
      ⟨some 19, .make y_t_int64 1 8 [.int .i64 0] (.t 18), none, false⟩,
      ⟨some 7, .p (.move  (.t 19)), none, false⟩])
    (.seq (.block 0
      (.loop [1, 2, 3, 7] [(.exit 0, [7])] l_spec_l04Multiple_0))
     (.seq (.region false [⟨some 41, .p (.move  (.t 7)), none, false⟩,
        ⟨some 6, .p (.move  (.t 41)), none, false⟩])
      (.ret)))))
theorem c_spec_l04Multiple : FF n_spec_l04Multiple = some ⟨42, y_spec_l04Multiple.er, [.tmp 6]⟩ := by kernel_rfl
def p_spec_l04Multiple (a0 a1 a2 : Value) (h : Hp) (R : Value → Hp → Prop) : Prop :=
  bindO (boxV 2 a0) fun c3 => newB h ⟨c3, y_t_impl_Plane, true⟩ fun b3 h1 => bindO (binV .lss a1 (.int .i64 0)) fun v9 => condM v9 (inB h1.nx (.pointer (some ⟨b3, 0, none⟩)) ∧ (bindO (ldV 2 true h1 (.pointer (some ⟨b3, 0, none⟩))) fun v10 => bindO (ldV 2 true h1 (.pointer (some ⟨b3, 0, none⟩))) fun v11 => bindO (unV .neg a1) fun v13 => CallW FF n_spec_l04Multiple [v11, v13, a2] h1 fun v15 h2 => keepB h1.nx h1 h2 ∧ (CallW FF n_spec_l04Opposite [v10, v15] h2 fun v16 h3 => R v16 h3))) (bindO (lenV  a2) fun v18 => bindO (makN v18) fun c19 => newB h1 ⟨reps c19 [.int .i64 0], y_t_int64, true⟩ fun b19 h2 => LP FF (YC.er l_spec_l04Multiple_0) [1, 2, 3, 7] [(.exit 0, [7], fun vs h3 => ∀ e : Env, [e 7] = vs → R (e 7) h3)] [a1, a2, (.pointer (some ⟨b3, 0, none⟩)), (.slice (some ⟨b19, 0, none⟩) c19 1)] h2)
theorem w_spec_l04Multiple {a0 a1 a2 : Value} {h : Hp} {R : Value → Hp → Prop} (H : p_spec_l04Multiple a0 a1 a2 h R) : CallW FF n_spec_l04Multiple [a0, a1, a2] h R := callV_fin c_spec_l04Multiple (Eq.mp (by kernel_rfl) H)
def l_impl_Plane_inverse_0 : YC :=
  .seq (.seq (.region false [⟨some 16, .p (.move  (.t 5)), none, false⟩,
     ⟨some 17, .load 2 true (.t 1), none, false⟩,
     ⟨some 18, .call (.c (.func (.func n_impl_Plane_degree) #[] #[])) [(.t 17)], none, false⟩,
     ⟨some 19, .p (.bin .leq (.t 16) (.t 18)), none, false⟩])
   (.cond (.t 19)
    (.skip)
    (.exit 0)))
  (.seq (.block 1
    (.region true [⟨some 22, .p (.fieldAddr 1 (.t 4)), none, false⟩,
      ⟨some 23, .load 1 false (.t 22), none, true⟩,
      ⟨some 24, .p (.move  (.t 5)), none, false⟩,
      ⟨some 25, .load 2 true (.t 1), none, false⟩,
      ⟨some 26, .load 2 true (.t 3), none, false⟩,
      ⟨some 27, .load 2 true (.t 4), none, false⟩,
      ⟨some 28, .call (.c (.func (.func n_impl_Plane_curves) #[] #[])) [(.t 25), (.t 26), (.t 27)], none, true⟩,
      ⟨some 29, .p (.field 1 1 false (.t 28)), none, false⟩,
      ⟨some 30, .p (.move  (.t 5)), none, false⟩,
      ⟨some 31, .p (.indexAddr 1 (.t 29) (.t 30)), none, false⟩,
      ⟨some 32, .load 1 false (.t 31), none, false⟩,
      ⟨some 33, .p (.un .neg (.t 32)), none, false⟩,
      ⟨some 34, .p (.fieldAddr 0 (.t 1)), none, false⟩,
      ⟨some 35, .load 1 false (.t 34), none, true⟩,
      ⟨some 36, .call (.c (.func (.func n_impl_mod) #[] #[])) [(.t 33), (.t 35)], none, true⟩,
      ⟨some 37, .p (.indexAddr 1 (.t 23) (.t 24)), none, false⟩,
      ⟨none, .store 1 (.t 37) (.t 36), none, false⟩]))
   (.region false [⟨some 20, .p (.move  (.t 5)), none, false⟩,
     ⟨some 21, .p (.bin .add (.t 20) (.c (.int .i64 1))), none, false⟩,
     ⟨some 5, .p (.move  (.t 21)), none, false⟩]))
def q_impl_Plane_inverse_0 (a1 a2 a3 a4 a5 : Value) (h : Hp) (K K0 : Kont) : Prop :=
  bindO (ldV 2 true h a1) fun v17 => CallW FF n_impl_Plane_degree [v17] h fun v18 h1 => bindO (binV .leq a5 v18) fun v19 => condM v19 (bindO (fieldAddrV 1 a4) fun v22 => inB h1.nx v22 ∧ (bindO (ldV 1 false h1 v22) fun v23 => bindO (ldV 2 true h1 a1) fun v25 => bindO (ldV 2 true h1 a3) fun v26 => bindO (ldV 2 true h1 a4) fun v27 => CallW FF n_impl_Plane_curves [v25, v26, v27] h1 fun v28 h2 => keepB h1.nx h1 h2 ∧ (bindO (fieldV 1 1 false v28) fun v29 => bindO (indexAddrV 1 v29 a5) fun v31 => bindO (ldV 1 false h2 v31) fun v32 => bindO (unV .neg v32) fun v33 => bindO (fieldAddrV 0 a1) fun v34 => inB h1.nx v34 ∧ (bindO (ldV 1 false h2 v34) fun v35 => CallW FF n_impl_mod [v33, v35] h2 fun v36 h3 => keepB h1.nx h2 h3 ∧ (bindO (indexAddrV 1 v23 a5) fun v37 => bindO (storeV 1 h3 v36 v37) fun h4 => bindO (binV .add a5 (.int .i64 1)) fun v21 => K [a1, a2, a3, a4, v21] h4))))) (K0 [a2, a4] h1)
theorem wl_impl_Plane_inverse_0 {a1 a2 a3 a4 a5 : Value} {h : Hp} {K K0 : Kont} (H : q_impl_Plane_inverse_0 a1 a2 a3 a4 a5 h K K0) : ∀ e : Env, [e 1, e 2, e 3, e 4, e 5] = [a1, a2, a3, a4, a5] → V FF l_impl_Plane_inverse_0 (qsel [1, 2, 3, 4, 5] K [(.exit 0, [2, 4], K0)]) ⟨e, h⟩ := by
  intro e he; cases he; exact Eq.mp (by kernel_rfl) H
def y_impl_Plane_inverse : YC :=
  .seq (.region false [⟨some 1, .box y_t_impl_Plane 2 (.t 0), none, false⟩,
    ⟨some 2, .box y_t_impl_Series 2 (.c (.agg #[.int .i64 0, .slice none 0 0])), none, false⟩])
  (.seq (.region true [⟨some 6, .p (.fieldAddr 0 (.t 1)), none, false⟩,
     ⟨some 7, .load 1 false (.t 6), none, true⟩,
     ⟨some 8, .load 2 true (.t 1), none, false⟩,
     ⟨some 9, .call (.c (.func (.func n_impl_Plane_degree) #[] #[])) [(.t 8)], none, true⟩,
     ⟨some 10, .call (.c (.func (.func n_impl_variable) #[] #[])) [(.t 7), (.t 9)], none, false⟩,
     ⟨some 3, .box y_t_impl_Series 2 (.c (.agg #[.int .i64 0, .slice none 0 0])), none, false⟩,
     ⟨none, .store 2 (.t 3) (.t 10), none, false⟩])
   (.seq (.region true [⟨some 11, .p (.fieldAddr 0 (.t 1)), none, false⟩,
      ⟨some 12, .load 1 false (.t 11), none, true⟩,
      ⟨some 13, .load 2 true (.t 1), none, false⟩,
      ⟨some 14, .call (.c (.func (.func n_impl_Plane_degree) #[] #[])) [(.t 13)], none, true⟩,
      ⟨some 15, .call (.c (.func (.func n_impl_zero) #[] #[])) [(.t 12), (.t 14)], none, false⟩,
      ⟨some 4, .box y_t_impl_Series 2 (.c (.agg #[.int .i64 0, .slice none 0 0])), none, false⟩,
      ⟨none, .store 2 (.t 4) (.t 15), none, false⟩])
    (.seq (.seq (.region false [⟨some 5, .p (.move  (.c (.int .i64 1))), none, false⟩])
      (.block 0
       (.loop [1, 2, 3, 4, 5] [(.exit 0, [2, 4])] l_impl_Plane_inverse_0)))
     (.seq (.region false [⟨some 38, .load 2 true (.t 4), none, false⟩,
        ⟨none, .store 2 (.t 2) (.t 38), none, false⟩])
      (.ret)))))
theorem c_impl_Plane_inverse : FF n_impl_Plane_inverse = some ⟨39, y_impl_Plane_inverse.er, [.cell 2 2 true]⟩ := by kernel_rfl
def p_impl_Plane_inverse (a0 : Value) (h : Hp) (R : Value → Hp → Prop) : Prop :=
  bindO (boxV 2 a0) fun c1 => newB h ⟨c1, y_t_impl_Plane, true⟩ fun b1 h1 => bindO (boxV 2 (.agg #[.int .i64 0, .slice none 0 0])) fun c2 => newB h1 ⟨c2, y_t_impl_Series, true⟩ fun b2 h2 => bindO (fieldAddrV 0 (.pointer (some ⟨b1, 0, none⟩))) fun v6 => inB h2.nx v6 ∧ (bindO (ldV 1 false h2 v6) fun v7 => bindO (ldV 2 true h2 (.pointer (some ⟨b1, 0, none⟩))) fun v8 => CallW FF n_impl_Plane_degree [v8] h2 fun v9 h3 => keepB h2.nx h2 h3 ∧ (CallW FF n_impl_variable [v7, v9] h3 fun v10 h4 => bindO (boxV 2 (.agg #[.int .i64 0, .slice none 0 0])) fun c3 => newB h4 ⟨c3, y_t_impl_Series, true⟩ fun b3 h5 => bindO (storeV 2 h5 v10 (.pointer (some ⟨b3, 0, none⟩))) fun h6 => bindO (fieldAddrV 0 (.pointer (some ⟨b1, 0, none⟩))) fun v11 => inB h6.nx v11 ∧ (bindO (ldV 1 false h6 v11) fun v12 => bindO (ldV 2 true h6 (.pointer (some ⟨b1, 0, none⟩))) fun v13 => CallW FF n_impl_Plane_degree [v13] h6 fun v14 h7 => keepB h6.nx h6 h7 ∧ (CallW FF n_impl_zero [v12, v14] h7 fun v15 h8 => bindO (boxV 2 (.agg #[.int .i64 0, .slice none 0 0])) fun c4 => newB h8 ⟨c4, y_t_impl_Series, true⟩ fun b4 h9 => bindO (storeV 2 h9 v15 (.pointer (some ⟨b4, 0, none⟩))) fun h10 => LP FF (YC.er l_impl_Plane_inverse_0) [1, 2, 3, 4, 5] [(.exit 0, [2, 4], fun vs h11 => ∀ e : Env, [e 2, e 4] = vs → bindO (ldV 2 true h11 (e 4)) fun v38 => bindO (storeV 2 h11 v38 (e 2)) fun h12 => bindO (ldV 2 true h12 (e 2)) fun r2 => R r2 h12)] [(.pointer (some ⟨b1, 0, none⟩)), (.pointer (some ⟨b2, 0, none⟩)), (.pointer (some ⟨b3, 0, none⟩)), (.pointer (some ⟨b4, 0, none⟩)), (.int .i64 1)] h10))))
theorem w_impl_Plane_inverse {a0 : Value} {h : Hp} {R : Value → Hp → Prop} (H : p_impl_Plane_inverse a0 h R) : CallW FF n_impl_Plane_inverse [a0] h R := callV_fin c_impl_Plane_inverse (Eq.mp (by kernel_rfl) H)
def l_spec_l04Inverse_0 : YC :=
  .seq (.seq (.region false [⟨some 20, .p (.move  (.t 6)), none, false⟩,
     ⟨some 21, .p (.move  (.t 3)), none, false⟩,
     ⟨some 22, .p (.bin .leq (.t 20) (.t 21)), none, false⟩])
   (.cond (.t 22)
    (.skip)
    (.exit 0)))
  (.seq (.block 1
    (.seq (.region false [⟨some 25, .p (.fieldAddr 0 (.t 1)), none, false⟩,
       ⟨some 26, .load 1 false (.t 25), none, false⟩,
       ⟨some 27, .p (.fieldAddr 1 (.t 1)), none, false⟩,
       ⟨some 28, .load 1 false (.t 27), none, false⟩,
       ⟨some 29, .p (.move  (.t 5)), none, false⟩,
       ⟨some 30, .p (.move  (.t 4)), none, false⟩,
       ⟨some 31, .call (.c (.func (.func n_spec_l03Put) #[] #[])) [(.t 26), (.t 28), (.t 29), (.t 30)], none, false⟩,
       ⟨some 7, .p (.move  (.t 31)), none, false⟩])
     (.region false [⟨some 32, .p (.move  (.t 4)), none, false⟩,
       ⟨some 33, .p (.move  (.t 6)), none, false⟩,
       ⟨some 34, .p (.fieldAddr 0 (.t 1)), none, false⟩,
       ⟨some 35, .load 1 false (.t 34), none, false⟩,
       ⟨some 36, .p (.move  (.t 7)), none, false⟩,
       ⟨some 37, .p (.move  (.t 6)), none, false⟩,
       ⟨some 38, .p (.indexAddr 1 (.t 36) (.t 37)), none, false⟩,
       ⟨some 39, .load 1 false (.t 38), none, false⟩,
       ⟨some 40, .p (.bin .sub (.t 35) (.t 39)), none, false⟩,
       ⟨some 41, .p (.fieldAddr 0 (.t 1)), none, false⟩,
       ⟨some 42, .load 1 false (.t 41), none, false⟩,
       ⟨some 43, .p (.bin .rem (.t 40) (.t 42)), none, false⟩,
       ⟨some 44, .p (.indexAddr 1 (.t 32) (.t 33)), none, false⟩,
       ⟨none, .store 1 (.t 44) (.t 43), none, false⟩])))
   (.region false [⟨some 23, .p (.move  (.t 6)), none, false⟩,
     ⟨some 24, .p (.bin .add (.t 23) (.c (.int .i64 1))), none, false⟩,
     ⟨some 6, .p (.move  (.t 24)), none, false⟩]))
def q_spec_l04Inverse_0 (a1 a3 a4 a5 a6 : Value) (h : Hp) (K K0 : Kont) : Prop :=
  bindO (binV .leq a6 a3) fun v22 => condM v22 (bindO (fieldAddrV 0 a1) fun v25 => bindO (ldV 1 false h v25) fun v26 => bindO (fieldAddrV 1 a1) fun v27 => bindO (ldV 1 false h v27) fun v28 => CallW FF n_spec_l03Put [v26, v28, a5, a4] h fun v31 h1 => bindO (fieldAddrV 0 a1) fun v34 => bindO (ldV 1 false h1 v34) fun v35 => bindO (indexAddrV 1 v31 a6) fun v38 => bindO (ldV 1 false h1 v38) fun v39 => bindO (binV .sub v35 v39) fun v40 => bindO (fieldAddrV 0 a1) fun v41 => bindO (ldV 1 false h1 v41) fun v42 => bindO (binV .rem v40 v42) fun v43 => bindO (indexAddrV 1 a4 a6) fun v44 => bindO (storeV 1 h1 v43 v44) fun h2 => bindO (binV .add a6 (.int .i64 1)) fun v24 => K [a1, a3, a4, a5, v24] h2) (K0 [a4] h)
theorem wl_spec_l04Inverse_0 {a1 a3 a4 a5 a6 : Value} {h : Hp} {K K0 : Kont} (H : q_spec_l04Inverse_0 a1 a3 a4 a5 a6 h K K0) : ∀ e : Env, [e 1, e 3, e 4, e 5, e 6] = [a1, a3, a4, a5, a6] → V FF l_spec_l04Inverse_0 (qsel [1, 3, 4, 5, 6] K [(.exit 0, [4], K0)]) ⟨e, h⟩ := by
  intro e he; cases he; exact Eq.mp (by kernel_rfl) H
def y_spec_l04Inverse : YC :=
  .seq (.region false [⟨some 1, .box y_t_impl_Plane 2 (.t 0), none, false⟩,
    ⟨some 2, .p (.move  (.c (.slice none 0 0))), none, false⟩])
  (.seq (.region false [⟨some 8, .p (.fieldAddr 1 (.t 1)), none, false⟩,
     ⟨some 9, .load 1 false (.t 8), none, false⟩,
     ⟨some 10, .p (.len  (.t 9)), none, false⟩,
     ⟨some 11, .p (.bin .sub (.t 10) (.c (.int .i64 1))), none, false⟩,
     ⟨some 3, .p (.move  (.t 11)), none, false⟩])
   (.seq (.region false [⟨some 12, .p (.move  (.t 3)), none, false⟩,
      ⟨some 13, .p (.bin .add (.t 12) (.c (.int .i64 1))), none, false⟩,
      ⟨some 14, .make y_t_int64 1 8 [.int .i64 0] (.t 13), none, false⟩,
      ⟨some 15, .p (.move  (.t 3)), none, false⟩,
      ⟨some 16, .p (.bin .add (.t 15) (.c (.int .i64 1))), none, false⟩,
      ⟨some 17, .make y_t_int64 1 8 [.int .i64 0] (.t 16), none, false⟩,
      ⟨some 4, .p (.move  (.t 14)), none, false⟩,
      ⟨some 5, .p (.move  (.t 17)), none, false⟩])
    (.seq (.region false [⟨some 18, .p (.move  (.t 5)), none, false⟩,
       ⟨some 19, .p (.indexAddr 1 (.t 18) (.c (.int .i64 1))), none, false⟩,
       ⟨none, .store 1 (.t 19) (.c (.int .i64 1)), none, false⟩])
     (.seq (.seq (.region false [⟨some 6, .p (.move  (.c (.int .i64 1))), none, false⟩])
       (.block 0
        (.loop [1, 3, 4, 5, 6] [(.exit 0, [4])] l_spec_l04Inverse_0)))
      (.seq (.region false [⟨some 45, .p (.move  (.t 4)), none, false⟩,
         ⟨some 2, .p (.move  (.t 45)), none, false⟩])
       (.ret))))))
theorem c_spec_l04Inverse : FF n_spec_l04Inverse = some ⟨46, y_spec_l04Inverse.er, [.tmp 2]⟩ := by kernel_rfl
def p_spec_l04Inverse (a0 : Value) (h : Hp) (R : Value → Hp → Prop) : Prop :=
  bindO (boxV 2 a0) fun c1 => newB h ⟨c1, y_t_impl_Plane, true⟩ fun b1 h1 => bindO (fieldAddrV 1 (.pointer (some ⟨b1, 0, none⟩))) fun v8 => bindO (ldV 1 false h1 v8) fun v9 => bindO (lenV  v9) fun v10 => bindO (binV .sub v10 (.int .i64 1)) fun v11 => bindO (binV .add v11 (.int .i64 1)) fun v13 => bindO (makN v13) fun c14 => newB h1 ⟨reps c14 [.int .i64 0], y_t_int64, true⟩ fun b14 h2 => bindO (binV .add v11 (.int .i64 1)) fun v16 => bindO (makN v16) fun c17 => newB h2 ⟨reps c17 [.int .i64 0], y_t_int64, true⟩ fun b17 h3 => bindO (indexAddrV 1 (.slice (some ⟨b17, 0, none⟩) c17 1) (.int .i64 1)) fun v19 => bindO (storeV 1 h3 (.int .i64 1) v19) fun h4 => LP FF (YC.er l_spec_l04Inverse_0) [1, 3, 4, 5, 6] [(.exit 0, [4], fun vs h5 => ∀ e : Env, [e 4] = vs → R (e 4) h5)] [(.pointer (some ⟨b1, 0, none⟩)), v11, (.slice (some ⟨b14, 0, none⟩) c14 1), (.slice (some ⟨b17, 0, none⟩) c17 1), (.int .i64 1)] h4
theorem w_spec_l04Inverse {a0 : Value} {h : Hp} {R : Value → Hp → Prop} (H : p_spec_l04Inverse a0 h R) : CallW FF n_spec_l04Inverse [a0] h R := callV_fin c_spec_l04Inverse (Eq.mp (by kernel_rfl) H)
def y_impl_Plane_opposite : YC :=
  .seq (.region false [⟨some 2, .box y_t_impl_Plane 2 (.t 0), none, false⟩,
    ⟨some 3, .box y_t_impl_Series 2 (.t 1), none, false⟩,
    ⟨some 4, .box y_t_impl_Series 2 (.c (.agg #[.int .i64 0, .slice none 0 0])), none, false⟩])
  (.seq (.region true [⟨some 5, .load 2 true (.t 2), none, false⟩,
     ⟨some 6, .call (.c (.func (.func n_impl_Plane_inverse) #[] #[])) [(.t 5)], none, true⟩,
     ⟨some 7, .load 2 true (.t 3), none, true⟩,
     ⟨some 8, .call (.c (.func (.func n_impl_Series_compose) #[] #[])) [(.t 6), (.t 7)], none, false⟩,
     ⟨none, .store 2 (.t 4) (.t 8), none, false⟩])
   (.ret))
theorem c_impl_Plane_opposite : FF n_impl_Plane_opposite = some ⟨9, y_impl_Plane_opposite.er, [.cell 4 2 true]⟩ := by kernel_rfl
def p_impl_Plane_opposite (a0 a1 : Value) (h : Hp) (R : Value → Hp → Prop) : Prop :=
  bindO (boxV 2 a0) fun c2 => newB h ⟨c2, y_t_impl_Plane, true⟩ fun b2 h1 => bindO (boxV 2 a1) fun c3 => newB h1 ⟨c3, y_t_impl_Series, true⟩ fun b3 h2 => bindO (boxV 2 (.agg #[.int .i64 0, .slice none 0 0])) fun c4 => newB h2 ⟨c4, y_t_impl_Series, true⟩ fun b4 h3 => bindO (ldV 2 true h3 (.pointer (some ⟨b2, 0, none⟩))) fun v5 => CallW FF n_impl_Plane_inverse [v5] h3 fun v6 h4 => keepB h3.nx h3 h4 ∧ (inB h3.nx (.pointer (some ⟨b3, 0, none⟩)) ∧ (bindO (ldV 2 true h4 (.pointer (some ⟨b3, 0, none⟩))) fun v7 => CallW FF n_impl_Series_compose [v6, v7] h4 fun v8 h5 => bindO (storeV 2 h5 v8 (.pointer (some ⟨b4, 0, none⟩))) fun h6 => bindO (ldV 2 true h6 (.pointer (some ⟨b4, 0, none⟩))) fun r4 => R r4 h6))
theorem w_impl_Plane_opposite {a0 a1 : Value} {h : Hp} {R : Value → Hp → Prop} (H : p_impl_Plane_opposite a0 a1 h R) : CallW FF n_impl_Plane_opposite [a0, a1] h R := callV_fin c_impl_Plane_opposite (Eq.mp (by kernel_rfl) H)
def l_impl_Plane_curves_0 : YC :=
  .seq (.region false [⟨some 31, .p (.bin .lss (.t 30) (.t 29)), none, false⟩])
  (.seq (.cond (.t 31)
    (.skip)
    (.exit 2))
   (.seq (.block 3
     (.seq (.region false [⟨some 32, .p (.move  (.t 30)), none, false⟩,
        ⟨some 33, .p (.indexAddr 1 (.t 28) (.t 30)), none, false⟩,
        ⟨some 34, .load 1 false (.t 33), none, false⟩,
        ⟨some 12, .p (.move  (.t 32)), none, false⟩,
        ⟨some 13, .p (.move  (.t 34)), none, false⟩])
      (.seq (.region false [⟨some 35, .p (.move  (.t 13)), none, false⟩,
         ⟨some 36, .p (.bin .neq (.t 35) (.c (.int .i64 0))), none, false⟩])
       (.cond (.t 36)
        (.region true [⟨some 37, .load 2 true (.t 7), none, true⟩,
          ⟨some 38, .p (.move  (.t 8)), none, false⟩,
          ⟨some 39, .p (.move  (.t 10)), none, false⟩,
          ⟨some 40, .p (.indexAddr 2 (.t 38) (.t 39)), none, false⟩,
          ⟨some 41, .load 2 true (.t 40), none, false⟩,
          ⟨some 42, .p (.move  (.t 9)), none, false⟩,
          ⟨some 43, .p (.move  (.t 12)), none, false⟩,
          ⟨some 44, .p (.indexAddr 2 (.t 42) (.t 43)), none, false⟩,
          ⟨some 45, .load 2 true (.t 44), none, false⟩,
          ⟨some 46, .call (.c (.func (.func n_impl_Series_times) #[] #[])) [(.t 41), (.t 45)], none, true⟩,
          ⟨some 47, .p (.move  (.t 13)), none, false⟩,
          ⟨some 48, .call (.c (.func (.func n_impl_Series_scaled) #[] #[])) [(.t 46), (.t 47)], none, true⟩,
          ⟨some 49, .call (.c (.func (.func n_impl_Series_plus) #[] #[])) [(.t 37), (.t 48)], none, false⟩,
          ⟨none, .store 2 (.t 7) (.t 49), none, false⟩])
        (.skip)))))
    (.region false [⟨some 50, .p (.bin .add (.t 30) (.c (.int .i64 1))), none, false⟩,
      ⟨some 30, .p (.move  (.t 50)), none, false⟩])))
def q_impl_Plane_curves_0 (a6 a7 a8 a9 a10 a21 a22 a23 a28 a29 a30 : Value) (h : Hp) (K K0 : Kont) : Prop :=
  bindO (binV .lss a30 a29) fun v31 => condM v31 (bindO (indexAddrV 1 a28 a30) fun v33 => bindO (ldV 1 false h v33) fun v34 => bindO (binV .neq v34 (.int .i64 0)) fun v36 => condM v36 (inB h.nx a7 ∧ (bindO (ldV 2 true h a7) fun v37 => bindO (indexAddrV 2 a8 a10) fun v40 => bindO (ldV 2 true h v40) fun v41 => bindO (indexAddrV 2 a9 a30) fun v44 => bindO (ldV 2 true h v44) fun v45 => CallW FF n_impl_Series_times [v41, v45] h fun v46 h1 => keepB h.nx h h1 ∧ (CallW FF n_impl_Series_scaled [v46, v34] h1 fun v48 h2 => keepB h.nx h1 h2 ∧ (CallW FF n_impl_Series_plus [v37, v48] h2 fun v49 h3 => bindO (storeV 2 h3 v49 a7) fun h4 => bindO (binV .add a30 (.int .i64 1)) fun v50 => K [a6, a7, a8, a9, a10, a21, a22, a23, a28, a29, v50] h4)))) (bindO (binV .add a30 (.int .i64 1)) fun v50 => K [a6, a7, a8, a9, a10, a21, a22, a23, a28, a29, v50] h)) (K0 [a6, a7, a8, a9, a21, a22, a23] h)
theorem wl_impl_Plane_curves_0 {a6 a7 a8 a9 a10 a21 a22 a23 a28 a29 a30 : Value} {h : Hp} {K K0 : Kont} (H : q_impl_Plane_curves_0 a6 a7 a8 a9 a10 a21 a22 a23 a28 a29 a30 h K K0) : ∀ e : Env, [e 6, e 7, e 8, e 9, e 10, e 21, e 22, e 23, e 28, e 29, e 30] = [a6, a7, a8, a9, a10, a21, a22, a23, a28, a29, a30] → V FF l_impl_Plane_curves_0 (qsel [6, 7, 8, 9, 10, 21, 22, 23, 28, 29, 30] K [(.exit 2, [6, 7, 8, 9, 21, 22, 23], K0)]) ⟨e, h⟩ := by
  intro e he; cases he; exact Eq.mp (by kernel_rfl) H
def l_impl_Plane_curves_1 : YC :=
  .seq (.region false [⟨some 24, .p (.bin .lss (.t 23) (.t 22)), none, false⟩])
  (.seq (.cond (.t 24)
    (.skip)
    (.exit 0))
   (.seq (.block 1
     (.seq (.region false [⟨some 25, .p (.move  (.t 23)), none, false⟩,
        ⟨some 26, .p (.indexAddr 1 (.t 21) (.t 23)), none, false⟩,
        ⟨some 27, .load 1 false (.t 26), none, false⟩,
        ⟨some 10, .p (.move  (.t 25)), none, false⟩,
        ⟨some 11, .p (.move  (.t 27)), none, false⟩])
      (.seq (.region false [⟨some 28, .p (.move  (.t 11)), none, false⟩,
         ⟨some 29, .p (.len  (.t 28)), none, false⟩,
         ⟨some 30, .p (.move  (.c (.int .i64 0))), none, false⟩])
       (.block 2
        (.loop [6, 7, 8, 9, 10, 21, 22, 23, 28, 29, 30] [(.exit 2, [6, 7, 8, 9, 21, 22, 23])] l_impl_Plane_curves_0)))))
    (.region false [⟨some 51, .p (.bin .add (.t 23) (.c (.int .i64 1))), none, false⟩,
      ⟨some 23, .p (.move  (.t 51)), none, false⟩])))
def q_impl_Plane_curves_1 (a6 a7 a8 a9 a21 a22 a23 : Value) (h : Hp) (K K0 : Kont) : Prop :=
  bindO (binV .lss a23 a22) fun v24 => condM v24 (bindO (indexAddrV 1 a21 a23) fun v26 => bindO (ldV 1 false h v26) fun v27 => bindO (lenV  v27) fun v29 => LP FF (YC.er l_impl_Plane_curves_0) [6, 7, 8, 9, 10, 21, 22, 23, 28, 29, 30] [(.exit 2, [6, 7, 8, 9, 21, 22, 23], fun vs h1 => ∀ e : Env, [e 6, e 7, e 8, e 9, e 21, e 22, e 23] = vs → bindO (binV .add (e 23) (.int .i64 1)) fun v51 => K [(e 6), (e 7), (e 8), (e 9), (e 21), (e 22), v51] h1)] [a6, a7, a8, a9, a23, a21, a22, a23, v27, v29, (.int .i64 0)] h) (K0 [a6, a7] h)
theorem wl_impl_Plane_curves_1 {a6 a7 a8 a9 a21 a22 a23 : Value} {h : Hp} {K K0 : Kont} (H : q_impl_Plane_curves_1 a6 a7 a8 a9 a21 a22 a23 h K K0) : ∀ e : Env, [e 6, e 7, e 8, e 9, e 21, e 22, e 23] = [a6, a7, a8, a9, a21, a22, a23] → V FF l_impl_Plane_curves_1 (qsel [6, 7, 8, 9, 21, 22, 23] K [(.exit 0, [6, 7], K0)]) ⟨e, h⟩ := by
  intro e he; cases he; exact Eq.mp (by kernel_rfl) H
def y_impl_Plane_curves : YC :=
  .seq (.region false [⟨some 3, .box y_t_impl_Plane 2 (.t 0), none, false⟩,
    ⟨some 4, .box y_t_impl_Series 2 (.t 1), none, false⟩,
    ⟨some 5, .box y_t_impl_Series 2 (.t 2), none, false⟩,
    ⟨some 6, .box y_t_impl_Series 2 (.c (.agg #[.int .i64 0, .slice none 0 0])), none, false⟩])
  (.seq (.region true [⟨some 14, .load 2 true (.t 4), none, false⟩,
     ⟨some 15, .call (.c (.func (.func n_impl_Series_constant) #[] #[])) [(.t 14), (.c (.int .i64 0))], none, true⟩,
     ⟨some 16, .load 2 true (.t 4), none, true⟩,
     ⟨some 17, .call (.c (.func (.func n_impl_Series_powers) #[] #[])) [(.t 16)], none, true⟩,
     ⟨some 18, .load 2 true (.t 5), none, true⟩,
     ⟨some 19, .call (.c (.func (.func n_impl_Series_powers) #[] #[])) [(.t 18)], none, false⟩,
     ⟨some 7, .box y_t_impl_Series 2 (.c (.agg #[.int .i64 0, .slice none 0 0])), none, false⟩,
     ⟨none, .store 2 (.t 7) (.t 15), none, false⟩,
     ⟨some 8, .p (.move  (.t 17)), none, false⟩,
     ⟨some 9, .p (.move  (.t 19)), none, false⟩])
   (.seq (.seq (.region false [⟨some 20, .p (.fieldAddr 1 (.t 3)), none, false⟩,
       ⟨some 21, .load 1 false (.t 20), none, false⟩,
       ⟨some 22, .p (.len  (.t 21)), none, false⟩,
       ⟨some 23, .p (.move  (.c (.int .i64 0))), none, false⟩])
     (.block 0
      (.loop [6, 7, 8, 9, 21, 22, 23] [(.exit 0, [6, 7])] l_impl_Plane_curves_1)))
    (.seq (.region false [⟨some 52, .load 2 true (.t 7), none, false⟩,
       ⟨none, .store 2 (.t 6) (.t 52), none, false⟩])
     (.ret))))
theorem c_impl_Plane_curves : FF n_impl_Plane_curves = some ⟨53, y_impl_Plane_curves.er, [.cell 6 2 true]⟩ := by kernel_rfl
def p_impl_Plane_curves (a0 a1 a2 : Value) (h : Hp) (R : Value → Hp → Prop) : Prop :=
  bindO (boxV 2 a0) fun c3 => newB h ⟨c3, y_t_impl_Plane, true⟩ fun b3 h1 => bindO (boxV 2 a1) fun c4 => newB h1 ⟨c4, y_t_impl_Series, true⟩ fun b4 h2 => bindO (boxV 2 a2) fun c5 => newB h2 ⟨c5, y_t_impl_Series, true⟩ fun b5 h3 => bindO (boxV 2 (.agg #[.int .i64 0, .slice none 0 0])) fun c6 => newB h3 ⟨c6, y_t_impl_Series, true⟩ fun b6 h4 => bindO (ldV 2 true h4 (.pointer (some ⟨b4, 0, none⟩))) fun v14 => CallW FF n_impl_Series_constant [v14, (.int .i64 0)] h4 fun v15 h5 => keepB h4.nx h4 h5 ∧ (inB h4.nx (.pointer (some ⟨b4, 0, none⟩)) ∧ (bindO (ldV 2 true h5 (.pointer (some ⟨b4, 0, none⟩))) fun v16 => CallW FF n_impl_Series_powers [v16] h5 fun v17 h6 => keepB h4.nx h5 h6 ∧ (inB h4.nx (.pointer (some ⟨b5, 0, none⟩)) ∧ (bindO (ldV 2 true h6 (.pointer (some ⟨b5, 0, none⟩))) fun v18 => CallW FF n_impl_Series_powers [v18] h6 fun v19 h7 => bindO (boxV 2 (.agg #[.int .i64 0, .slice none 0 0])) fun c7 => newB h7 ⟨c7, y_t_impl_Series, true⟩ fun b7 h8 => bindO (storeV 2 h8 v15 (.pointer (some ⟨b7, 0, none⟩))) fun h9 => bindO (fieldAddrV 1 (.pointer (some ⟨b3, 0, none⟩))) fun v20 => bindO (ldV 1 false h9 v20) fun v21 => bindO (lenV  v21) fun v22 => LP FF (YC.er l_impl_Plane_curves_1) [6, 7, 8, 9, 21, 22, 23] [(.exit 0, [6, 7], fun vs h10 => ∀ e : Env, [e 6, e 7] = vs → bindO (ldV 2 true h10 (e 7)) fun v52 => bindO (storeV 2 h10 v52 (e 6)) fun h11 => bindO (ldV 2 true h11 (e 6)) fun r6 => R r6 h11)] [(.pointer (some ⟨b6, 0, none⟩)), (.pointer (some ⟨b7, 0, none⟩)), v17, v19, v21, v22, (.int .i64 0)] h9))))
theorem w_impl_Plane_curves {a0 a1 a2 : Value} {h : Hp} {R : Value → Hp → Prop} (H : p_impl_Plane_curves a0 a1 a2 h R) : CallW FF n_impl_Plane_curves [a0, a1, a2] h R := callV_fin c_impl_Plane_curves (Eq.mp (by kernel_rfl) H)
def y_spec_l04Draw : YC :=
  .seq (.region false [⟨some 2, .box y_t_impl_Plane 2 (.c (.agg #[.int .i64 0, .slice none 0 0])), none, false⟩])
  (.seq (.region false [⟨some 3, .p (.move  (.t 0)), none, false⟩,
     ⟨some 4, .p (.move  (.t 0)), none, false⟩,
     ⟨some 5, .call (.c (.func (.func n_spec_l04DrawModulus) #[] #[])) [(.t 4)], none, false⟩,
     ⟨some 6, .p (.move  (.t 0)), none, false⟩,
     ⟨some 7, .p (.move  (.t 0)), none, false⟩,
     ⟨some 8, .call (.c (.func (.func n_spec_l01Next) #[] #[])) [(.t 7), (.c (.int .i64 10))], none, false⟩,
     ⟨some 9, .mkrow y_t_int64 1 7 [.int .i64 0] [(0, (.c (.int .i64 1))), (1, (.c (.int .i64 2))), (2, (.c (.int .i64 3))), (3, (.c (.int .i64 4))), (4, (.c (.int .i64 6))), (5, (.c (.int .i64 9))), (6, (.t 8))], none, false⟩,
     ⟨some 10, .call (.c (.func (.func n_spec_l01Pick) #[] #[])) [(.t 6), (.t 9)], none, false⟩,
     ⟨some 11, .p (.bin .add (.c (.int .i64 1)) (.t 10)), none, false⟩,
     ⟨some 12, .call (.c (.func (.func n_spec_l04With) #[] #[])) [(.t 3), (.t 5), (.t 11)], none, false⟩,
     ⟨none, .store 2 (.t 2) (.t 12), none, false⟩])
   (.ret))
theorem c_spec_l04Draw : FF n_spec_l04Draw = some ⟨13, y_spec_l04Draw.er, [.cell 2 2 true]⟩ := by kernel_rfl
def p_spec_l04Draw (a0 : Value) (h : Hp) (R : Value → Hp → Prop) : Prop :=
  bindO (boxV 2 (.agg #[.int .i64 0, .slice none 0 0])) fun c2 => newB h ⟨c2, y_t_impl_Plane, true⟩ fun b2 h1 => CallW FF n_spec_l04DrawModulus [a0] h1 fun v5 h2 => CallW FF n_spec_l01Next [a0, (.int .i64 10)] h2 fun v8 h3 => bindO (rowV 1 7 [.int .i64 0] [(0, (.int .i64 1)), (1, (.int .i64 2)), (2, (.int .i64 3)), (3, (.int .i64 4)), (4, (.int .i64 6)), (5, (.int .i64 9)), (6, v8)]) fun c9 => newB h3 ⟨c9, y_t_int64, true⟩ fun b9 h4 => CallW FF n_spec_l01Pick [a0, (.slice (some ⟨b9, 0, none⟩) 7 1)] h4 fun v10 h5 => bindO (binV .add (.int .i64 1) v10) fun v11 => CallW FF n_spec_l04With [a0, v5, v11] h5 fun v12 h6 => bindO (storeV 2 h6 v12 (.pointer (some ⟨b2, 0, none⟩))) fun h7 => bindO (ldV 2 true h7 (.pointer (some ⟨b2, 0, none⟩))) fun r2 => R r2 h7
theorem w_spec_l04Draw {a0 : Value} {h : Hp} {R : Value → Hp → Prop} (H : p_spec_l04Draw a0 h R) : CallW FF n_spec_l04Draw [a0] h R := callV_fin c_spec_l04Draw (Eq.mp (by kernel_rfl) H)
def y_spec_l01Next : YC :=
  .seq (.region false [⟨some 4, .p (.move  (.c (.int .i64 0))), none, false⟩])
  (.seq (.seq (.region false [⟨some 6, .p (.move  (.t 1)), none, false⟩,
      ⟨some 7, .p (.bin .lss (.t 6) (.c (.int .i64 1))), none, false⟩])
    (.cond (.t 7)
     (.seq (.region false [⟨some 4, .p (.move  (.c (.int .i64 0))), none, false⟩])
      (.ret))
     (.skip)))
   (.seq (.region false [⟨some 8, .p (.move  (.t 0)), none, false⟩,
      ⟨some 9, .p (.move  (.t 0)), none, false⟩,
      ⟨some 10, .p (.nilCheck  (.t 9)), none, false⟩,
      ⟨some 11, .p (.fieldAddr 2 (.t 10)), none, false⟩,
      ⟨some 12, .load 1 false (.t 11), none, false⟩,
      ⟨some 13, .p (.bin .mul (.t 12) (.c (.int .u64 6364136223846793005))), none, false⟩,
      ⟨some 14, .p (.bin .add (.t 13) (.c (.int .u64 1442695040888963407))), none, false⟩,
      ⟨some 15, .p (.nilCheck  (.t 8)), none, false⟩,
      ⟨some 16, .p (.fieldAddr 2 (.t 15)), none, false⟩,
      ⟨none, .store 1 (.t 16) (.t 14), none, false⟩])
    (.seq (.region false [⟨some 17, .p (.move  (.t 0)), none, false⟩,
       ⟨some 18, .p (.nilCheck  (.t 17)), none, false⟩,
       ⟨some 19, .p (.fieldAddr 2 (.t 18)), none, false⟩,
       ⟨some 20, .load 1 false (.t 19), none, false⟩,
       ⟨some 21, .p (.bin .shr (.t 20) (.c (.int .u64 33))), none, false⟩,
       ⟨some 22, .p (.bin .and (.t 21) (.c (.int .u64 16777215))), none, false⟩,
       ⟨some 23, .p (.conv .i64 (.t 22)), none, false⟩,
       ⟨some 5, .p (.move  (.t 23)), none, false⟩])
     (.seq (.seq (.region false [⟨some 24, .p (.move  (.t 0)), none, false⟩,
         ⟨some 25, .p (.nilCheck  (.t 24)), none, false⟩,
         ⟨some 26, .p (.fieldAddr 1 (.t 25)), none, false⟩,
         ⟨some 27, .load 1 false (.t 26), none, false⟩,
         ⟨some 28, .p (.move  (.t 0)), none, false⟩,
         ⟨some 29, .p (.nilCheck  (.t 28)), none, false⟩,
         ⟨some 30, .p (.fieldAddr 0 (.t 29)), none, false⟩,
         ⟨some 31, .load 1 false (.t 30), none, false⟩,
         ⟨some 32, .p (.len  (.t 31)), none, false⟩,
         ⟨some 33, .p (.bin .lss (.t 27) (.t 32)), none, false⟩])
       (.cond (.t 33)
        (.seq (.region false [⟨some 34, .p (.move  (.t 5)), none, false⟩,
           ⟨some 35, .p (.move  (.t 0)), none, false⟩,
           ⟨some 36, .p (.nilCheck  (.t 35)), none, false⟩,
           ⟨some 37, .p (.fieldAddr 0 (.t 36)), none, false⟩,
           ⟨some 38, .load 1 false (.t 37), none, false⟩,
           ⟨some 39, .p (.move  (.t 0)), none, false⟩,
           ⟨some 40, .p (.nilCheck  (.t 39)), none, false⟩,
           ⟨some 41, .p (.fieldAddr 1 (.t 40)), none, false⟩,
           ⟨some 42, .load 1 false (.t 41), none, false⟩,
           ⟨some 43, .p (.indexAddr 1 (.t 38) (.t 42)), none, false⟩,
           ⟨some 44, .load 1 false (.t 43), none, false⟩,
           ⟨some 45, .p (.conv .i64 (.t 44)), none, false⟩,
           ⟨some 46, .p (.bin .add (.t 34) (.t 45)), none, false⟩,
           ⟨some 5, .p (.move  (.t 46)), none, false⟩])
         (.region false [⟨some 47, .p (.move  (.t 0)), none, false⟩,
           ⟨some 48, .p (.move  (.t 0)), none, false⟩,
           ⟨some 49, .p (.nilCheck  (.t 48)), none, false⟩,
           ⟨some 50, .p (.fieldAddr 1 (.t 49)), none, false⟩,
           ⟨some 51, .load 1 false (.t 50), none, false⟩,
           ⟨some 52, .p (.bin .add (.t 51) (.c (.int .i64 1))), none, false⟩,
           ⟨some 53, .p (.nilCheck  (.t 47)), none, false⟩,
           ⟨some 54, .p (.fieldAddr 1 (.t 53)), none, false⟩,
           ⟨none, .store 1 (.t 54) (.t 52), none, false⟩]))
        (.skip)))
      (.seq (.region false [⟨some 55, .p (.move  (.t 5)), none, false⟩,
         ⟨some 56, .p (.move  (.t 1)), none, false⟩,
         ⟨some 57, .p (.bin .rem (.t 55) (.t 56)), none, false⟩,
         ⟨some 4, .p (.move  (.t 57)), none, false⟩])
       (.ret))))))
theorem c_spec_l01Next : FF n_spec_l01Next = some ⟨58, y_spec_l01Next.er, [.tmp 4]⟩ := by kernel_rfl
def p_spec_l01Next (a0 a1 : Value) (h : Hp) (R : Value → Hp → Prop) : Prop :=
  bindO (binV .lss a1 (.int .i64 1)) fun v7 => condM v7 (R (.int .i64 0) h) (bindO (nilCheckV  a0) fun v10 => bindO (fieldAddrV 2 v10) fun v11 => bindO (ldV 1 false h v11) fun v12 => bindO (binV .mul v12 (.int .u64 6364136223846793005)) fun v13 => bindO (binV .add v13 (.int .u64 1442695040888963407)) fun v14 => bindO (nilCheckV  a0) fun v15 => bindO (fieldAddrV 2 v15) fun v16 => bindO (storeV 1 h v14 v16) fun h1 => bindO (nilCheckV  a0) fun v18 => bindO (fieldAddrV 2 v18) fun v19 => bindO (ldV 1 false h1 v19) fun v20 => bindO (binV .shr v20 (.int .u64 33)) fun v21 => bindO (binV .and v21 (.int .u64 16777215)) fun v22 => bindO (convV .i64 v22) fun v23 => bindO (nilCheckV  a0) fun v25 => bindO (fieldAddrV 1 v25) fun v26 => bindO (ldV 1 false h1 v26) fun v27 => bindO (nilCheckV  a0) fun v29 => bindO (fieldAddrV 0 v29) fun v30 => bindO (ldV 1 false h1 v30) fun v31 => bindO (lenV  v31) fun v32 => bindO (binV .lss v27 v32) fun v33 => condM v33 (bindO (nilCheckV  a0) fun v36 => bindO (fieldAddrV 0 v36) fun v37 => bindO (ldV 1 false h1 v37) fun v38 => bindO (nilCheckV  a0) fun v40 => bindO (fieldAddrV 1 v40) fun v41 => bindO (ldV 1 false h1 v41) fun v42 => bindO (indexAddrV 1 v38 v42) fun v43 => bindO (ldV 1 false h1 v43) fun v44 => bindO (convV .i64 v44) fun v45 => bindO (binV .add v23 v45) fun v46 => bindO (nilCheckV  a0) fun v49 => bindO (fieldAddrV 1 v49) fun v50 => bindO (ldV 1 false h1 v50) fun v51 => bindO (binV .add v51 (.int .i64 1)) fun v52 => bindO (nilCheckV  a0) fun v53 => bindO (fieldAddrV 1 v53) fun v54 => bindO (storeV 1 h1 v52 v54) fun h2 => bindO (binV .rem v46 a1) fun v57 => R v57 h2) (bindO (binV .rem v23 a1) fun v57 => R v57 h1))
theorem w_spec_l01Next {a0 a1 : Value} {h : Hp} {R : Value → Hp → Prop} (H : p_spec_l01Next a0 a1 h R) : CallW FF n_spec_l01Next [a0, a1] h R := callV_fin c_spec_l01Next (Eq.mp (by kernel_rfl) H)
def l_impl_IsPlane_0 : YC :=
  .seq (.region false [⟨some 19, .p (.bin .lss (.t 18) (.t 17)), none, false⟩])
  (.seq (.cond (.t 19)
    (.skip)
    (.exit 0))
   (.seq (.block 1
     (.seq (.region false [⟨some 20, .p (.move  (.t 18)), none, false⟩,
        ⟨some 21, .p (.indexAddr 1 (.t 16) (.t 18)), none, false⟩,
        ⟨some 22, .load 1 false (.t 21), none, false⟩,
        ⟨some 3, .p (.move  (.t 20)), none, false⟩,
        ⟨some 4, .p (.move  (.t 22)), none, false⟩])
      (.seq (.region false [⟨some 23, .p (.move  (.t 4)), none, false⟩,
         ⟨some 24, .p (.len  (.t 23)), none, false⟩,
         ⟨some 25, .p (.fieldAddr 1 (.t 1)), none, false⟩,
         ⟨some 26, .load 1 false (.t 25), none, false⟩,
         ⟨some 27, .p (.len  (.t 26)), none, false⟩,
         ⟨some 28, .p (.move  (.t 3)), none, false⟩,
         ⟨some 29, .p (.bin .sub (.t 27) (.t 28)), none, false⟩,
         ⟨some 30, .p (.bin .neq (.t 24) (.t 29)), none, false⟩,
         ⟨some 31, .p (.move  (.t 30)), none, false⟩,
         ⟨some 32, .p (.move  (.t 4)), some (31, false), false⟩,
         ⟨some 33, .p (.mkfunc n_impl_IsPlane_c1 [] [(.t 1)]), some (31, false), false⟩,
         ⟨some 34, .call (.c (.func (.func n_impl_all_int64) #[] #[])) [(.t 32), (.t 33)], some (31, false), false⟩,
         ⟨some 35, .p (.un .not (.t 34)), some (31, false), false⟩,
         ⟨some 36, .p (.pick  (.t 31) (.c (.bool true)) (.t 35)), none, false⟩])
       (.cond (.t 36)
        (.seq (.region false [⟨some 2, .p (.move  (.c (.bool false))), none, false⟩])
         (.ret))
        (.skip)))))
    (.region false [⟨some 37, .p (.bin .add (.t 18) (.c (.int .i64 1))), none, false⟩,
      ⟨some 18, .p (.move  (.t 37)), none, false⟩])))
def q_impl_IsPlane_0 (a1 a16 a17 a18 : Value) (h : Hp) (K K0 K1 : Kont) : Prop :=
  bindO (binV .lss a18 a17) fun v19 => condM v19 (bindO (indexAddrV 1 a16 a18) fun v21 => bindO (ldV 1 false h v21) fun v22 => bindO (lenV  v22) fun v24 => bindO (fieldAddrV 1 a1) fun v25 => bindO (ldV 1 false h v25) fun v26 => bindO (lenV  v26) fun v27 => bindO (binV .sub v27 a18) fun v29 => bindO (binV .neq v24 v29) fun v30 => condM v30 (K1 [(.bool false)] h) (CallW FF n_impl_all_int64 [v22, (.func (.func n_impl_IsPlane_c1) #[] #[a1])] h fun v34 h1 => bindO (unV .not v34) fun v35 => condM v35 (K1 [(.bool false)] h1) (bindO (binV .add a18 (.int .i64 1)) fun v37 => K [a1, a16, a17, v37] h1))) (K0 [] h)
theorem wl_impl_IsPlane_0 {a1 a16 a17 a18 : Value} {h : Hp} {K K0 K1 : Kont} (H : q_impl_IsPlane_0 a1 a16 a17 a18 h K K0 K1) : ∀ e : Env, [e 1, e 16, e 17, e 18] = [a1, a16, a17, a18] → V FF l_impl_IsPlane_0 (qsel [1, 16, 17, 18] K [(.exit 0, [], K0), (.ret, [2], K1)]) ⟨e, h⟩ := by
  intro e he; cases he; exact Eq.mp (by kernel_rfl) H
def y_impl_IsPlane : YC :=
  .seq (.region false [⟨some 1, .box y_t_impl_Plane 2 (.t 0), none, false⟩,
    ⟨some 2, .p (.move  (.c (.bool false))), none, false⟩])
  (.seq (.seq (.region false [⟨some 5, .p (.fieldAddr 0 (.t 1)), none, false⟩,
      ⟨some 6, .load 1 false (.t 5), none, false⟩,
      ⟨some 7, .call (.c (.func (.func n_impl_IsModulus) #[] #[])) [(.t 6)], none, false⟩,
      ⟨some 8, .p (.un .not (.t 7)), none, false⟩,
      ⟨some 9, .p (.move  (.t 8)), none, false⟩,
      ⟨some 10, .load 2 true (.t 1), some (9, false), false⟩,
      ⟨some 11, .call (.c (.func (.func n_impl_Plane_degree) #[] #[])) [(.t 10)], some (9, false), false⟩,
      ⟨some 12, .call (.c (.func (.func n_impl_in) #[] #[])) [(.t 11), (.c (.int .i64 1)), (.c (.int .i64 10))], some (9, false), false⟩,
      ⟨some 13, .p (.un .not (.t 12)), some (9, false), false⟩,
      ⟨some 14, .p (.pick  (.t 9) (.c (.bool true)) (.t 13)), none, false⟩])
    (.cond (.t 14)
     (.seq (.region false [⟨some 2, .p (.move  (.c (.bool false))), none, false⟩])
      (.ret))
     (.skip)))
   (.seq (.seq (.region false [⟨some 15, .p (.fieldAddr 1 (.t 1)), none, false⟩,
       ⟨some 16, .load 1 false (.t 15), none, false⟩,
       ⟨some 17, .p (.len  (.t 16)), none, false⟩,
       ⟨some 18, .p (.move  (.c (.int .i64 0))), none, false⟩])
     (.block 0
      (.loop [1, 16, 17, 18] [(.exit 0, []), (.ret, [2])] l_impl_IsPlane_0)))
    (.seq (.region false [⟨some 2, .p (.move  (.c (.bool true))), none, false⟩])
     (.ret))))
theorem c_impl_IsPlane : FF n_impl_IsPlane = some ⟨38, y_impl_IsPlane.er, [.tmp 2]⟩ := by kernel_rfl
def p_impl_IsPlane (a0 : Value) (h : Hp) (R : Value → Hp → Prop) : Prop :=
  bindO (boxV 2 a0) fun c1 => newB h ⟨c1, y_t_impl_Plane, true⟩ fun b1 h1 => bindO (fieldAddrV 0 (.pointer (some ⟨b1, 0, none⟩))) fun v5 => bindO (ldV 1 false h1 v5) fun v6 => CallW FF n_impl_IsModulus [v6] h1 fun v7 h2 => bindO (unV .not v7) fun v8 => condM v8 (R (.bool false) h2) (bindO (ldV 2 true h2 (.pointer (some ⟨b1, 0, none⟩))) fun v10 => CallW FF n_impl_Plane_degree [v10] h2 fun v11 h3 => CallW FF n_impl_in [v11, (.int .i64 1), (.int .i64 10)] h3 fun v12 h4 => bindO (unV .not v12) fun v13 => condM v13 (R (.bool false) h4) (bindO (fieldAddrV 1 (.pointer (some ⟨b1, 0, none⟩))) fun v15 => bindO (ldV 1 false h4 v15) fun v16 => bindO (lenV  v16) fun v17 => LP FF (YC.er l_impl_IsPlane_0) [1, 16, 17, 18] [(.exit 0, [], fun vs h5 => ∀ e : Env, [] = vs → R (.bool true) h5), (.ret, [2], fun vs h5 => ∀ e : Env, [e 2] = vs → R (e 2) h5)] [(.pointer (some ⟨b1, 0, none⟩)), v16, v17, (.int .i64 0)] h4))
theorem w_impl_IsPlane {a0 : Value} {h : Hp} {R : Value → Hp → Prop} (H : p_impl_IsPlane a0 h R) : CallW FF n_impl_IsPlane [a0] h R := callV_fin c_impl_IsPlane (Eq.mp (by kernel_rfl) H)
def l_impl_axioms_0 : YC :=
  .seq (.region false [⟨some 17, .p (.bin .lss (.t 16) (.t 15)), none, false⟩])
  (.seq (.cond (.t 17)
    (.skip)
    (.exit 0))
   (.seq (.block 1
     (.seq (.region false [⟨some 18, .p (.move  (.t 16)), none, false⟩,
        ⟨some 3, .p (.move  (.t 18)), none, false⟩])
      (.seq (.region false [⟨some 4, .p (.move  (.c (.int .i64 0))), none, false⟩])
       (.join [1, 3, 4, 15, 16] (.seq (.region false [⟨some 19, .p (.move  (.t 3)), none, false⟩,
           ⟨some 20, .p (.bin .eql (.t 19) (.c (.int .i64 1))), none, false⟩])
         (.cond (.t 20)
          (.region false [⟨some 4, .p (.move  (.c (.int .i64 1))), none, false⟩])
          (.skip)))
        (.seq (.region false [⟨some 21, .p (.fieldAddr 1 (.t 1)), none, false⟩,
           ⟨some 22, .load 1 false (.t 21), none, false⟩,
           ⟨some 23, .p (.move  (.t 3)), none, false⟩,
           ⟨some 24, .p (.indexAddr 1 (.t 22) (.t 23)), none, false⟩,
           ⟨some 25, .load 1 false (.t 24), none, false⟩,
           ⟨some 26, .p (.indexAddr 1 (.t 25) (.c (.int .i64 0))), none, false⟩,
           ⟨some 27, .load 1 false (.t 26), none, false⟩,
           ⟨some 28, .p (.move  (.t 4)), none, false⟩,
           ⟨some 29, .p (.bin .neq (.t 27) (.t 28)), none, false⟩])
         (.cond (.t 29)
          (.seq (.region false [⟨some 30, .p (.move  (.t 3)), none, false⟩,
             ⟨some 31, .mkrow y_t_int64 1 2 [.int .i64 0] [(0, (.c (.int .i64 0))), (1, (.t 30))], none, false⟩,
             ⟨some 2, .p (.move  (.t 31)), none, false⟩])
           (.ret))
          (.skip)))))))
    (.region false [⟨some 32, .p (.bin .add (.t 16) (.c (.int .i64 1))), none, false⟩,
      ⟨some 16, .p (.move  (.t 32)), none, false⟩])))
def q_impl_axioms_0 (a1 a15 a16 : Value) (h : Hp) (K K0 K1 : Kont) : Prop :=
  bindO (binV .lss a16 a15) fun v17 => condM v17 (JN (fun J => bindO (binV .eql a16 (.int .i64 1)) fun v20 => condM v20 (J [a1, a16, (.int .i64 1), a15, a16] h) (J [a1, a16, (.int .i64 0), a15, a16] h)) fun vs h1 => ∀ e : Env, [e 1, e 3, e 4, e 15, e 16] = vs → bindO (fieldAddrV 1 (e 1)) fun v21 => bindO (ldV 1 false h1 v21) fun v22 => bindO (indexAddrV 1 v22 (e 3)) fun v24 => bindO (ldV 1 false h1 v24) fun v25 => bindO (indexAddrV 1 v25 (.int .i64 0)) fun v26 => bindO (ldV 1 false h1 v26) fun v27 => bindO (binV .neq v27 (e 4)) fun v29 => condM v29 (bindO (rowV 1 2 [.int .i64 0] [(0, (.int .i64 0)), (1, (e 3))]) fun c31 => newB h1 ⟨c31, y_t_int64, true⟩ fun b31 h2 => K1 [(.slice (some ⟨b31, 0, none⟩) 2 1)] h2) (bindO (binV .add (e 16) (.int .i64 1)) fun v32 => K [(e 1), (e 15), v32] h1)) (K0 [a1] h)
theorem wl_impl_axioms_0 {a1 a15 a16 : Value} {h : Hp} {K K0 K1 : Kont} (H : q_impl_axioms_0 a1 a15 a16 h K K0 K1) : ∀ e : Env, [e 1, e 15, e 16] = [a1, a15, a16] → V FF l_impl_axioms_0 (qsel [1, 15, 16] K [(.exit 0, [1], K0), (.ret, [2], K1)]) ⟨e, h⟩ := by
  intro e he; cases he; exact Eq.mp (by kernel_rfl) H
def l_impl_axioms_1 : YC :=
  .seq (.seq (.region false [⟨some 43, .p (.move  (.t 7)), none, false⟩,
     ⟨some 44, .p (.move  (.t 6)), none, false⟩,
     ⟨some 45, .p (.len  (.t 44)), none, false⟩,
     ⟨some 46, .p (.bin .lss (.t 43) (.t 45)), none, false⟩])
   (.cond (.t 46)
    (.skip)
    (.exit 4)))
  (.seq (.block 5
    (.seq (.region false [⟨some 49, .p (.move  (.t 6)), none, false⟩,
       ⟨some 50, .p (.move  (.t 7)), none, false⟩,
       ⟨some 51, .p (.indexAddr 1 (.t 49) (.t 50)), none, false⟩,
       ⟨some 52, .load 1 false (.t 51), none, false⟩,
       ⟨some 53, .p (.fieldAddr 1 (.t 1)), none, false⟩,
       ⟨some 54, .load 1 false (.t 53), none, false⟩,
       ⟨some 55, .p (.move  (.t 7)), none, false⟩,
       ⟨some 56, .p (.indexAddr 1 (.t 54) (.t 55)), none, false⟩,
       ⟨some 57, .load 1 false (.t 56), none, false⟩,
       ⟨some 58, .p (.move  (.t 5)), none, false⟩,
       ⟨some 59, .p (.indexAddr 1 (.t 57) (.t 58)), none, false⟩,
       ⟨some 60, .load 1 false (.t 59), none, false⟩,
       ⟨some 61, .p (.bin .neq (.t 52) (.t 60)), none, false⟩])
     (.cond (.t 61)
      (.seq (.region false [⟨some 62, .p (.move  (.t 5)), none, false⟩,
         ⟨some 63, .p (.move  (.t 7)), none, false⟩,
         ⟨some 64, .mkrow y_t_int64 1 3 [.int .i64 0] [(0, (.c (.int .i64 1))), (1, (.t 62)), (2, (.t 63))], none, false⟩,
         ⟨some 2, .p (.move  (.t 64)), none, false⟩])
       (.ret))
      (.skip))))
   (.region false [⟨some 47, .p (.move  (.t 7)), none, false⟩,
     ⟨some 48, .p (.bin .add (.t 47) (.c (.int .i64 1))), none, false⟩,
     ⟨some 7, .p (.move  (.t 48)), none, false⟩]))
def q_impl_axioms_1 (a1 a5 a6 a7 a34 a35 a36 : Value) (h : Hp) (K K0 K1 : Kont) : Prop :=
  bindO (lenV  a6) fun v45 => bindO (binV .lss a7 v45) fun v46 => condM v46 (bindO (indexAddrV 1 a6 a7) fun v51 => bindO (ldV 1 false h v51) fun v52 => bindO (fieldAddrV 1 a1) fun v53 => bindO (ldV 1 false h v53) fun v54 => bindO (indexAddrV 1 v54 a7) fun v56 => bindO (ldV 1 false h v56) fun v57 => bindO (indexAddrV 1 v57 a5) fun v59 => bindO (ldV 1 false h v59) fun v60 => bindO (binV .neq v52 v60) fun v61 => condM v61 (bindO (rowV 1 3 [.int .i64 0] [(0, (.int .i64 1)), (1, a5), (2, a7)]) fun c64 => newB h ⟨c64, y_t_int64, true⟩ fun b64 h1 => K1 [(.slice (some ⟨b64, 0, none⟩) 3 1)] h1) (bindO (binV .add a7 (.int .i64 1)) fun v48 => K [a1, a5, a6, v48, a34, a35, a36] h)) (K0 [a1, a34, a35, a36] h)
theorem wl_impl_axioms_1 {a1 a5 a6 a7 a34 a35 a36 : Value} {h : Hp} {K K0 K1 : Kont} (H : q_impl_axioms_1 a1 a5 a6 a7 a34 a35 a36 h K K0 K1) : ∀ e : Env, [e 1, e 5, e 6, e 7, e 34, e 35, e 36] = [a1, a5, a6, a7, a34, a35, a36] → V FF l_impl_axioms_1 (qsel [1, 5, 6, 7, 34, 35, 36] K [(.exit 4, [1, 34, 35, 36], K0), (.ret, [2], K1)]) ⟨e, h⟩ := by
  intro e he; cases he; exact Eq.mp (by kernel_rfl) H
def l_impl_axioms_2 : YC :=
  .seq (.region false [⟨some 37, .p (.bin .lss (.t 36) (.t 35)), none, false⟩])
  (.seq (.cond (.t 37)
    (.skip)
    (.exit 2))
   (.seq (.block 3
     (.seq (.region false [⟨some 38, .p (.move  (.t 36)), none, false⟩,
        ⟨some 39, .p (.indexAddr 1 (.t 34) (.t 36)), none, false⟩,
        ⟨some 40, .load 1 false (.t 39), none, false⟩,
        ⟨some 5, .p (.move  (.t 38)), none, false⟩,
        ⟨some 6, .p (.move  (.t 40)), none, false⟩])
      (.seq (.region false [⟨some 41, .p (.move  (.t 5)), none, false⟩,
         ⟨some 42, .p (.bin .add (.t 41) (.c (.int .i64 1))), none, false⟩,
         ⟨some 7, .p (.move  (.t 42)), none, false⟩])
       (.block 4
        (.loop [1, 5, 6, 7, 34, 35, 36] [(.exit 4, [1, 34, 35, 36]), (.ret, [2])] l_impl_axioms_1)))))
    (.region false [⟨some 65, .p (.bin .add (.t 36) (.c (.int .i64 1))), none, false⟩,
      ⟨some 36, .p (.move  (.t 65)), none, false⟩])))
def q_impl_axioms_2 (a1 a34 a35 a36 : Value) (h : Hp) (K K0 K1 : Kont) : Prop :=
  bindO (binV .lss a36 a35) fun v37 => condM v37 (bindO (indexAddrV 1 a34 a36) fun v39 => bindO (ldV 1 false h v39) fun v40 => bindO (binV .add a36 (.int .i64 1)) fun v42 => LP FF (YC.er l_impl_axioms_1) [1, 5, 6, 7, 34, 35, 36] [(.exit 4, [1, 34, 35, 36], fun vs h1 => ∀ e : Env, [e 1, e 34, e 35, e 36] = vs → bindO (binV .add (e 36) (.int .i64 1)) fun v65 => K [(e 1), (e 34), (e 35), v65] h1), (.ret, [2], fun vs h1 => ∀ e : Env, [e 2] = vs → K1 [(e 2)] h1)] [a1, a36, v40, v42, a34, a35, a36] h) (K0 [a1] h)
theorem wl_impl_axioms_2 {a1 a34 a35 a36 : Value} {h : Hp} {K K0 K1 : Kont} (H : q_impl_axioms_2 a1 a34 a35 a36 h K K0 K1) : ∀ e : Env, [e 1, e 34, e 35, e 36] = [a1, a34, a35, a36] → V FF l_impl_axioms_2 (qsel [1, 34, 35, 36] K [(.exit 2, [1], K0), (.ret, [2], K1)]) ⟨e, h⟩ := by
  intro e he; cases he; exact Eq.mp (by kernel_rfl) H
def l_impl_axioms_3 : YC :=
  .seq (.seq (.region false [⟨some 82, .p (.move  (.t 10)), none, false⟩,
     ⟨some 83, .p (.move  (.t 11)), none, false⟩,
     ⟨some 84, .p (.bin .add (.t 82) (.t 83)), none, false⟩,
     ⟨some 85, .p (.move  (.t 12)), none, false⟩,
     ⟨some 86, .p (.bin .add (.t 84) (.t 85)), none, false⟩,
     ⟨some 87, .p (.move  (.t 9)), none, false⟩,
     ⟨some 88, .p (.bin .leq (.t 86) (.t 87)), none, false⟩])
   (.cond (.t 88)
    (.skip)
    (.exit 10)))
  (.seq (.block 11
    (.seq (.region false [⟨some 91, .p (.move  (.t 8)), none, false⟩,
       ⟨some 92, .p (.move  (.t 10)), none, false⟩,
       ⟨some 93, .p (.move  (.t 11)), none, false⟩,
       ⟨some 94, .p (.move  (.t 12)), none, false⟩,
       ⟨some 95, .call (.t 91) [(.t 92), (.t 93), (.t 94)], none, false⟩,
       ⟨some 96, .p (.bin .neq (.t 95) (.c (.int .i64 0))), none, false⟩])
     (.cond (.t 96)
      (.seq (.region false [⟨some 97, .p (.move  (.t 10)), none, false⟩,
         ⟨some 98, .p (.move  (.t 11)), none, false⟩,
         ⟨some 99, .p (.move  (.t 12)), none, false⟩,
         ⟨some 100, .mkrow y_t_int64 1 4 [.int .i64 0] [(0, (.c (.int .i64 2))), (1, (.t 97)), (2, (.t 98)), (3, (.t 99))], none, false⟩,
         ⟨some 2, .p (.move  (.t 100)), none, false⟩])
       (.ret))
      (.skip))))
   (.region false [⟨some 89, .p (.move  (.t 12)), none, false⟩,
     ⟨some 90, .p (.bin .add (.t 89) (.c (.int .i64 1))), none, false⟩,
     ⟨some 12, .p (.move  (.t 90)), none, false⟩]))
def q_impl_axioms_3 (a8 a9 a10 a11 a12 : Value) (h : Hp) (K K0 K1 : Kont) : Prop :=
  bindO (binV .add a10 a11) fun v84 => bindO (binV .add v84 a12) fun v86 => bindO (binV .leq v86 a9) fun v88 => condM v88 (CallV FF a8 [a10, a11, a12] h fun v95 h1 => bindO (binV .neq v95 (.int .i64 0)) fun v96 => condM v96 (bindO (rowV 1 4 [.int .i64 0] [(0, (.int .i64 2)), (1, a10), (2, a11), (3, a12)]) fun c100 => newB h1 ⟨c100, y_t_int64, true⟩ fun b100 h2 => K1 [(.slice (some ⟨b100, 0, none⟩) 4 1)] h2) (bindO (binV .add a12 (.int .i64 1)) fun v90 => K [a8, a9, a10, a11, v90] h1)) (K0 [a8, a9, a10, a11] h)
theorem wl_impl_axioms_3 {a8 a9 a10 a11 a12 : Value} {h : Hp} {K K0 K1 : Kont} (H : q_impl_axioms_3 a8 a9 a10 a11 a12 h K K0 K1) : ∀ e : Env, [e 8, e 9, e 10, e 11, e 12] = [a8, a9, a10, a11, a12] → V FF l_impl_axioms_3 (qsel [8, 9, 10, 11, 12] K [(.exit 10, [8, 9, 10, 11], K0), (.ret, [2], K1)]) ⟨e, h⟩ := by
  intro e he; cases he; exact Eq.mp (by kernel_rfl) H
def l_impl_axioms_4 : YC :=
  .seq (.seq (.region false [⟨some 75, .p (.move  (.t 10)), none, false⟩,
     ⟨some 76, .p (.move  (.t 11)), none, false⟩,
     ⟨some 77, .p (.bin .add (.t 75) (.t 76)), none, false⟩,
     ⟨some 78, .p (.move  (.t 9)), none, false⟩,
     ⟨some 79, .p (.bin .leq (.t 77) (.t 78)), none, false⟩])
   (.cond (.t 79)
    (.skip)
    (.exit 8)))
  (.seq (.block 9
    (.seq (.region false [⟨some 12, .p (.move  (.c (.int .i64 0))), none, false⟩])
     (.block 10
      (.loop [8, 9, 10, 11, 12] [(.exit 10, [8, 9, 10, 11]), (.ret, [2])] l_impl_axioms_3))))
   (.region false [⟨some 80, .p (.move  (.t 11)), none, false⟩,
     ⟨some 81, .p (.bin .add (.t 80) (.c (.int .i64 1))), none, false⟩,
     ⟨some 11, .p (.move  (.t 81)), none, false⟩]))
def q_impl_axioms_4 (a8 a9 a10 a11 : Value) (h : Hp) (K K0 K1 : Kont) : Prop :=
  bindO (binV .add a10 a11) fun v77 => bindO (binV .leq v77 a9) fun v79 => condM v79 (LP FF (YC.er l_impl_axioms_3) [8, 9, 10, 11, 12] [(.exit 10, [8, 9, 10, 11], fun vs h1 => ∀ e : Env, [e 8, e 9, e 10, e 11] = vs → bindO (binV .add (e 11) (.int .i64 1)) fun v81 => K [(e 8), (e 9), (e 10), v81] h1), (.ret, [2], fun vs h1 => ∀ e : Env, [e 2] = vs → K1 [(e 2)] h1)] [a8, a9, a10, a11, (.int .i64 0)] h) (K0 [a8, a9, a10] h)
theorem wl_impl_axioms_4 {a8 a9 a10 a11 : Value} {h : Hp} {K K0 K1 : Kont} (H : q_impl_axioms_4 a8 a9 a10 a11 h K K0 K1) : ∀ e : Env, [e 8, e 9, e 10, e 11] = [a8, a9, a10, a11] → V FF l_impl_axioms_4 (qsel [8, 9, 10, 11] K [(.exit 8, [8, 9, 10], K0), (.ret, [2], K1)]) ⟨e, h⟩ := by
  intro e he; cases he; exact Eq.mp (by kernel_rfl) H
def l_impl_axioms_5 : YC :=
  .seq (.seq (.region false [⟨some 70, .p (.move  (.t 10)), none, false⟩,
     ⟨some 71, .p (.move  (.t 9)), none, false⟩,
     ⟨some 72, .p (.bin .leq (.t 70) (.t 71)), none, false⟩])
   (.cond (.t 72)
    (.skip)
    (.exit 6)))
  (.seq (.block 7
    (.seq (.region false [⟨some 11, .p (.move  (.c (.int .i64 0))), none, false⟩])
     (.block 8
      (.loop [8, 9, 10, 11] [(.exit 8, [8, 9, 10]), (.ret, [2])] l_impl_axioms_4))))
   (.region false [⟨some 73, .p (.move  (.t 10)), none, false⟩,
     ⟨some 74, .p (.bin .add (.t 73) (.c (.int .i64 1))), none, false⟩,
     ⟨some 10, .p (.move  (.t 74)), none, false⟩]))
def q_impl_axioms_5 (a8 a9 a10 : Value) (h : Hp) (K K0 K1 : Kont) : Prop :=
  bindO (binV .leq a10 a9) fun v72 => condM v72 (LP FF (YC.er l_impl_axioms_4) [8, 9, 10, 11] [(.exit 8, [8, 9, 10], fun vs h1 => ∀ e : Env, [e 8, e 9, e 10] = vs → bindO (binV .add (e 10) (.int .i64 1)) fun v74 => K [(e 8), (e 9), v74] h1), (.ret, [2], fun vs h1 => ∀ e : Env, [e 2] = vs → K1 [(e 2)] h1)] [a8, a9, a10, (.int .i64 0)] h) (K0 [] h)
theorem wl_impl_axioms_5 {a8 a9 a10 : Value} {h : Hp} {K K0 K1 : Kont} (H : q_impl_axioms_5 a8 a9 a10 h K K0 K1) : ∀ e : Env, [e 8, e 9, e 10] = [a8, a9, a10] → V FF l_impl_axioms_5 (qsel [8, 9, 10] K [(.exit 6, [], K0), (.ret, [2], K1)]) ⟨e, h⟩ := by
  intro e he; cases he; exact Eq.mp (by kernel_rfl) H
def y_impl_axioms : YC :=
  .seq (.region false [⟨some 1, .box y_t_impl_Plane 2 (.t 0), none, false⟩,
    ⟨some 2, .p (.move  (.c (.slice none 0 0))), none, false⟩])
  (.seq (.seq (.region false [⟨some 13, .p (.fieldAddr 1 (.t 1)), none, false⟩,
      ⟨some 14, .load 1 false (.t 13), none, false⟩,
      ⟨some 15, .p (.len  (.t 14)), none, false⟩,
      ⟨some 16, .p (.move  (.c (.int .i64 0))), none, false⟩])
    (.block 0
     (.loop [1, 15, 16] [(.exit 0, [1]), (.ret, [2])] l_impl_axioms_0)))
   (.seq (.seq (.region false [⟨some 33, .p (.fieldAddr 1 (.t 1)), none, false⟩,
       ⟨some 34, .load 1 false (.t 33), none, false⟩,
       ⟨some 35, .p (.len  (.t 34)), none, false⟩,
       ⟨some 36, .p (.move  (.c (.int .i64 0))), none, false⟩])
     (.block 2
      (.loop [1, 34, 35, 36] [(.exit 2, [1]), (.ret, [2])] l_impl_axioms_2)))
    (.seq (.region false [⟨some 66, .load 2 true (.t 1), none, false⟩,
       ⟨some 67, .call (.c (.func (.func n_impl_defectsOf) #[] #[])) [(.t 66)], none, false⟩,
       ⟨some 8, .p (.move  (.t 67)), none, false⟩])
     (.seq (.region false [⟨some 68, .load 2 true (.t 1), none, false⟩,
        ⟨some 69, .call (.c (.func (.func n_impl_Plane_degree) #[] #[])) [(.t 68)], none, false⟩,
        ⟨some 9, .p (.move  (.t 69)), none, false⟩])
      (.seq (.seq (.region false [⟨some 10, .p (.move  (.c (.int .i64 0))), none, false⟩])
        (.block 6
         (.loop [8, 9, 10] [(.exit 6, []), (.ret, [2])] l_impl_axioms_5)))
       (.seq (.region false [⟨some 2, .p (.move  (.c (.slice none 0 0))), none, false⟩])
        (.ret)))))))
theorem c_impl_axioms : FF n_impl_axioms = some ⟨101, y_impl_axioms.er, [.tmp 2]⟩ := by kernel_rfl
def p_impl_axioms (a0 : Value) (h : Hp) (R : Value → Hp → Prop) : Prop :=
  bindO (boxV 2 a0) fun c1 => newB h ⟨c1, y_t_impl_Plane, true⟩ fun b1 h1 => bindO (fieldAddrV 1 (.pointer (some ⟨b1, 0, none⟩))) fun v13 => bindO (ldV 1 false h1 v13) fun v14 => bindO (lenV  v14) fun v15 => LP FF (YC.er l_impl_axioms_0) [1, 15, 16] [(.exit 0, [1], fun vs h2 => ∀ e : Env, [e 1] = vs → bindO (fieldAddrV 1 (e 1)) fun v33 => bindO (ldV 1 false h2 v33) fun v34 => bindO (lenV  v34) fun v35 => LP FF (YC.er l_impl_axioms_2) [1, 34, 35, 36] [(.exit 2, [1], fun vs_1 h3 => ∀ e_1 : Env, [e_1 1] = vs_1 → bindO (ldV 2 true h3 (e_1 1)) fun v66 => CallW FF n_impl_defectsOf [v66] h3 fun v67 h4 => bindO (ldV 2 true h4 (e_1 1)) fun v68 => CallW FF n_impl_Plane_degree [v68] h4 fun v69 h5 => LP FF (YC.er l_impl_axioms_5) [8, 9, 10] [(.exit 6, [], fun vs_2 h6 => ∀ e_2 : Env, [] = vs_2 → R (.slice none 0 0) h6), (.ret, [2], fun vs_2 h6 => ∀ e_2 : Env, [e_2 2] = vs_2 → R (e_2 2) h6)] [v67, v69, (.int .i64 0)] h5), (.ret, [2], fun vs_1 h3 => ∀ e_1 : Env, [e_1 2] = vs_1 → R (e_1 2) h3)] [(e 1), v34, v35, (.int .i64 0)] h2), (.ret, [2], fun vs h2 => ∀ e : Env, [e 2] = vs → R (e 2) h2)] [(.pointer (some ⟨b1, 0, none⟩)), v15, (.int .i64 0)] h1
theorem w_impl_axioms {a0 : Value} {h : Hp} {R : Value → Hp → Prop} (H : p_impl_axioms a0 h R) : CallW FF n_impl_axioms [a0] h R := callV_fin c_impl_axioms (Eq.mp (by kernel_rfl) H)
def y_impl_in : YC :=
  .seq (.region false [⟨some 6, .p (.move  (.c (.bool false))), none, false⟩])
  (.seq (.region false [⟨some 7, .p (.move  (.t 0)), none, false⟩,
     ⟨some 8, .p (.move  (.t 1)), none, false⟩,
     ⟨some 9, .p (.bin .geq (.t 7) (.t 8)), none, false⟩,
     ⟨some 10, .p (.move  (.t 9)), none, false⟩,
     ⟨some 11, .p (.move  (.t 0)), some (10, true), false⟩,
     ⟨some 12, .p (.move  (.t 2)), some (10, true), false⟩,
     ⟨some 13, .p (.bin .leq (.t 11) (.t 12)), some (10, true), false⟩,
     ⟨some 14, .p (.pick  (.t 10) (.t 13) (.c (.bool false))), none, false⟩,
     ⟨some 6, .p (.move  (.t 14)), none, false⟩])
   (.ret))
theorem c_impl_in : FF n_impl_in = some ⟨15, y_impl_in.er, [.tmp 6]⟩ := by kernel_rfl
def p_impl_in (a0 a1 a2 : Value) (h : Hp) (R : Value → Hp → Prop) : Prop :=
  bindO (binV .geq a0 a1) fun v9 => condM v9 (bindO (binV .leq a0 a2) fun v13 => R v13 h) (R (.bool false) h)
theorem w_impl_in {a0 a1 a2 : Value} {h : Hp} {R : Value → Hp → Prop} (H : p_impl_in a0 a1 a2 h R) : CallW FF n_impl_in [a0, a1, a2] h R := callV_fin c_impl_in (Eq.mp (by kernel_rfl) H)
def y_impl_zero : YC :=
  .seq (.region false [⟨some 4, .box y_t_impl_Series 2 (.c (.agg #[.int .i64 0, .slice none 0 0])), none, false⟩])
  (.seq (.region false [⟨some 5, .p (.move  (.t 0)), none, false⟩,
     ⟨some 6, .p (.move  (.t 1)), none, false⟩,
     ⟨some 7, .p (.bin .add (.t 6) (.c (.int .i64 1))), none, false⟩,
     ⟨some 8, .make y_t_int64 1 8 [.int .i64 0] (.t 7), none, false⟩,
     ⟨some 9, .p (.build [.int .i64 0, .slice none 0 0] [(0, 1, (.t 5)), (1, 1, (.t 8))]), none, false⟩,
     ⟨none, .store 2 (.t 4) (.t 9), none, false⟩])
   (.ret))
theorem c_impl_zero : FF n_impl_zero = some ⟨10, y_impl_zero.er, [.cell 4 2 true]⟩ := by kernel_rfl
def p_impl_zero (a0 a1 : Value) (h : Hp) (R : Value → Hp → Prop) : Prop :=
  bindO (boxV 2 (.agg #[.int .i64 0, .slice none 0 0])) fun c4 => newB h ⟨c4, y_t_impl_Series, true⟩ fun b4 h1 => bindO (binV .add a1 (.int .i64 1)) fun v7 => bindO (makN v7) fun c8 => newB h1 ⟨reps c8 [.int .i64 0], y_t_int64, true⟩ fun b8 h2 => bindO ((fillX [.int .i64 0, .slice none 0 0] [(0, 1, a0), (1, 1, (.slice (some ⟨b8, 0, none⟩) c8 1))]).map fun cs => Value.agg cs.toArray) fun v9 => bindO (storeV 2 h2 v9 (.pointer (some ⟨b4, 0, none⟩))) fun h3 => bindO (ldV 2 true h3 (.pointer (some ⟨b4, 0, none⟩))) fun r4 => R r4 h3
theorem w_impl_zero {a0 a1 : Value} {h : Hp} {R : Value → Hp → Prop} (H : p_impl_zero a0 a1 h R) : CallW FF n_impl_zero [a0, a1] h R := callV_fin c_impl_zero (Eq.mp (by kernel_rfl) H)
def l_spec_l03Is_0 : YC :=
  .seq (.seq (.region false [⟨some 20, .p (.move  (.t 4)), none, false⟩,
     ⟨some 21, .p (.move  (.t 3)), none, false⟩,
     ⟨some 22, .p (.bin .lss (.t 20) (.t 21)), none, false⟩])
   (.cond (.t 22)
    (.skip)
    (.exit 0)))
  (.seq (.block 1
    (.seq (.region false [⟨some 25, .p (.fieldAddr 1 (.t 1)), none, false⟩,
       ⟨some 26, .load 1 false (.t 25), none, false⟩,
       ⟨some 27, .p (.move  (.t 4)), none, false⟩,
       ⟨some 28, .p (.indexAddr 1 (.t 26) (.t 27)), none, false⟩,
       ⟨some 29, .load 1 false (.t 28), none, false⟩,
       ⟨some 30, .p (.len  (.t 29)), none, false⟩,
       ⟨some 31, .p (.move  (.t 3)), none, false⟩,
       ⟨some 32, .p (.move  (.t 4)), none, false⟩,
       ⟨some 33, .p (.bin .sub (.t 31) (.t 32)), none, false⟩,
       ⟨some 34, .p (.bin .neq (.t 30) (.t 33)), none, false⟩,
       ⟨some 35, .p (.move  (.t 34)), none, false⟩,
       ⟨some 36, .p (.fieldAddr 0 (.t 1)), some (35, false), false⟩,
       ⟨some 37, .load 1 false (.t 36), some (35, false), false⟩,
       ⟨some 38, .p (.fieldAddr 1 (.t 1)), some (35, false), false⟩,
       ⟨some 39, .load 1 false (.t 38), some (35, false), false⟩,
       ⟨some 40, .p (.move  (.t 4)), some (35, false), false⟩,
       ⟨some 41, .p (.indexAddr 1 (.t 39) (.t 40)), some (35, false), false⟩,
       ⟨some 42, .load 1 false (.t 41), some (35, false), false⟩,
       ⟨some 43, .call (.c (.func (.func n_spec_l01Numbers) #[] #[])) [(.t 37), (.t 42)], some (35, false), false⟩,
       ⟨some 44, .p (.un .not (.t 43)), some (35, false), false⟩,
       ⟨some 45, .p (.pick  (.t 35) (.c (.bool true)) (.t 44)), none, false⟩])
     (.cond (.t 45)
      (.seq (.region false [⟨some 2, .p (.move  (.c (.bool false))), none, false⟩])
       (.ret))
      (.skip))))
   (.region false [⟨some 23, .p (.move  (.t 4)), none, false⟩,
     ⟨some 24, .p (.bin .add (.t 23) (.c (.int .i64 1))), none, false⟩,
     ⟨some 4, .p (.move  (.t 24)), none, false⟩]))
def q_spec_l03Is_0 (a1 a3 a4 : Value) (h : Hp) (K K0 K1 : Kont) : Prop :=
  bindO (binV .lss a4 a3) fun v22 => condM v22 (bindO (fieldAddrV 1 a1) fun v25 => bindO (ldV 1 false h v25) fun v26 => bindO (indexAddrV 1 v26 a4) fun v28 => bindO (ldV 1 false h v28) fun v29 => bindO (lenV  v29) fun v30 => bindO (binV .sub a3 a4) fun v33 => bindO (binV .neq v30 v33) fun v34 => condM v34 (K1 [(.bool false)] h) (bindO (fieldAddrV 0 a1) fun v36 => bindO (ldV 1 false h v36) fun v37 => bindO (fieldAddrV 1 a1) fun v38 => bindO (ldV 1 false h v38) fun v39 => bindO (indexAddrV 1 v39 a4) fun v41 => bindO (ldV 1 false h v41) fun v42 => CallW FF n_spec_l01Numbers [v37, v42] h fun v43 h1 => bindO (unV .not v43) fun v44 => condM v44 (K1 [(.bool false)] h1) (bindO (binV .add a4 (.int .i64 1)) fun v24 => K [a1, a3, v24] h1))) (K0 [] h)
theorem wl_spec_l03Is_0 {a1 a3 a4 : Value} {h : Hp} {K K0 K1 : Kont} (H : q_spec_l03Is_0 a1 a3 a4 h K K0 K1) : ∀ e : Env, [e 1, e 3, e 4] = [a1, a3, a4] → V FF l_spec_l03Is_0 (qsel [1, 3, 4] K [(.exit 0, [], K0), (.ret, [2], K1)]) ⟨e, h⟩ := by
  intro e he; cases he; exact Eq.mp (by kernel_rfl) H
def y_spec_l03Is : YC :=
  .seq (.region false [⟨some 1, .box y_t_impl_Plane 2 (.t 0), none, false⟩,
    ⟨some 2, .p (.move  (.c (.bool false))), none, false⟩])
  (.seq (.region false [⟨some 5, .p (.fieldAddr 1 (.t 1)), none, false⟩,
     ⟨some 6, .load 1 false (.t 5), none, false⟩,
     ⟨some 7, .p (.len  (.t 6)), none, false⟩,
     ⟨some 3, .p (.move  (.t 7)), none, false⟩])
   (.seq (.seq (.region false [⟨some 8, .p (.fieldAddr 0 (.t 1)), none, false⟩,
       ⟨some 9, .load 1 false (.t 8), none, false⟩,
       ⟨some 10, .call (.c (.func (.func n_spec_l01Modulus) #[] #[])) [(.t 9)], none, false⟩,
       ⟨some 11, .p (.un .not (.t 10)), none, false⟩,
       ⟨some 12, .p (.move  (.t 11)), none, false⟩,
       ⟨some 13, .p (.move  (.t 3)), some (12, false), false⟩,
       ⟨some 14, .p (.bin .lss (.t 13) (.c (.int .i64 2))), some (12, false), false⟩,
       ⟨some 15, .p (.pick  (.t 12) (.c (.bool true)) (.t 14)), none, false⟩,
       ⟨some 16, .p (.move  (.t 15)), none, false⟩,
       ⟨some 17, .p (.move  (.t 3)), some (16, false), false⟩,
       ⟨some 18, .p (.bin .gtr (.t 17) (.c (.int .i64 11))), some (16, false), false⟩,
       ⟨some 19, .p (.pick  (.t 16) (.c (.bool true)) (.t 18)), none, false⟩])
     (.cond (.t 19)
      (.seq (.region false [⟨some 2, .p (.move  (.c (.bool false))), none, false⟩])
       (.ret))
      (.skip)))
    (.seq (.seq (.region false [⟨some 4, .p (.move  (.c (.int .i64 0))), none, false⟩])
      (.block 0
       (.loop [1, 3, 4] [(.exit 0, []), (.ret, [2])] l_spec_l03Is_0)))
     (.seq (.region false [⟨some 2, .p (.move  (.c (.bool true))), none, false⟩])
      (.ret)))))
theorem c_spec_l03Is : FF n_spec_l03Is = some ⟨46, y_spec_l03Is.er, [.tmp 2]⟩ := by kernel_rfl
def p_spec_l03Is (a0 : Value) (h : Hp) (R : Value → Hp → Prop) : Prop :=
  bindO (boxV 2 a0) fun c1 => newB h ⟨c1, y_t_impl_Plane, true⟩ fun b1 h1 => bindO (fieldAddrV 1 (.pointer (some ⟨b1, 0, none⟩))) fun v5 => bindO (ldV 1 false h1 v5) fun v6 => bindO (lenV  v6) fun v7 => bindO (fieldAddrV 0 (.pointer (some ⟨b1, 0, none⟩))) fun v8 => bindO (ldV 1 false h1 v8) fun v9 => CallW FF n_spec_l01Modulus [v9] h1 fun v10 h2 => bindO (unV .not v10) fun v11 => condM v11 (R (.bool false) h2) (bindO (binV .lss v7 (.int .i64 2)) fun v14 => condM v14 (R (.bool false) h2) (bindO (binV .gtr v7 (.int .i64 11)) fun v18 => condM v18 (R (.bool false) h2) (LP FF (YC.er l_spec_l03Is_0) [1, 3, 4] [(.exit 0, [], fun vs h3 => ∀ e : Env, [] = vs → R (.bool true) h3), (.ret, [2], fun vs h3 => ∀ e : Env, [e 2] = vs → R (e 2) h3)] [(.pointer (some ⟨b1, 0, none⟩)), v7, (.int .i64 0)] h2)))
theorem w_spec_l03Is {a0 : Value} {h : Hp} {R : Value → Hp → Prop} (H : p_spec_l03Is a0 h R) : CallW FF n_spec_l03Is [a0] h R := callV_fin c_spec_l03Is (Eq.mp (by kernel_rfl) H)
def l_spec_l04Fault_0 : YC :=
  .seq (.seq (.region false [⟨some 20, .p (.move  (.t 5)), none, false⟩,
     ⟨some 21, .p (.move  (.t 3)), none, false⟩,
     ⟨some 22, .p (.bin .lss (.t 20) (.t 21)), none, false⟩])
   (.cond (.t 22)
    (.skip)
    (.exit 0)))
  (.seq (.block 1
    (.seq (.region false [⟨some 6, .p (.move  (.c (.int .i64 0))), none, false⟩])
     (.join [1, 3, 4, 5, 6] (.seq (.region false [⟨some 25, .p (.move  (.t 5)), none, false⟩,
         ⟨some 26, .p (.bin .eql (.t 25) (.c (.int .i64 1))), none, false⟩])
       (.cond (.t 26)
        (.region false [⟨some 6, .p (.move  (.c (.int .i64 1))), none, false⟩])
        (.skip)))
      (.seq (.region false [⟨some 27, .p (.move  (.t 4)), none, false⟩,
         ⟨some 28, .p (.move  (.t 5)), none, false⟩,
         ⟨some 29, .p (.indexAddr 1 (.t 27) (.t 28)), none, false⟩,
         ⟨some 30, .load 1 false (.t 29), none, false⟩,
         ⟨some 31, .p (.indexAddr 1 (.t 30) (.c (.int .i64 0))), none, false⟩,
         ⟨some 32, .load 1 false (.t 31), none, false⟩,
         ⟨some 33, .p (.move  (.t 6)), none, false⟩,
         ⟨some 34, .p (.bin .neq (.t 32) (.t 33)), none, false⟩])
       (.cond (.t 34)
        (.seq (.region false [⟨some 35, .p (.move  (.t 5)), none, false⟩,
           ⟨some 36, .mkrow y_t_int64 1 2 [.int .i64 0] [(0, (.c (.int .i64 0))), (1, (.t 35))], none, false⟩,
           ⟨some 2, .p (.move  (.t 36)), none, false⟩])
         (.ret))
        (.skip))))))
   (.region false [⟨some 23, .p (.move  (.t 5)), none, false⟩,
     ⟨some 24, .p (.bin .add (.t 23) (.c (.int .i64 1))), none, false⟩,
     ⟨some 5, .p (.move  (.t 24)), none, false⟩]))
def q_spec_l04Fault_0 (a1 a3 a4 a5 : Value) (h : Hp) (K K0 K1 : Kont) : Prop :=
  bindO (binV .lss a5 a3) fun v22 => condM v22 (JN (fun J => bindO (binV .eql a5 (.int .i64 1)) fun v26 => condM v26 (J [a1, a3, a4, a5, (.int .i64 1)] h) (J [a1, a3, a4, a5, (.int .i64 0)] h)) fun vs h1 => ∀ e : Env, [e 1, e 3, e 4, e 5, e 6] = vs → bindO (indexAddrV 1 (e 4) (e 5)) fun v29 => bindO (ldV 1 false h1 v29) fun v30 => bindO (indexAddrV 1 v30 (.int .i64 0)) fun v31 => bindO (ldV 1 false h1 v31) fun v32 => bindO (binV .neq v32 (e 6)) fun v34 => condM v34 (bindO (rowV 1 2 [.int .i64 0] [(0, (.int .i64 0)), (1, (e 5))]) fun c36 => newB h1 ⟨c36, y_t_int64, true⟩ fun b36 h2 => K1 [(.slice (some ⟨b36, 0, none⟩) 2 1)] h2) (bindO (binV .add (e 5) (.int .i64 1)) fun v24 => K [(e 1), (e 3), (e 4), v24] h1)) (K0 [a1, a3, a4] h)
theorem wl_spec_l04Fault_0 {a1 a3 a4 a5 : Value} {h : Hp} {K K0 K1 : Kont} (H : q_spec_l04Fault_0 a1 a3 a4 a5 h K K0 K1) : ∀ e : Env, [e 1, e 3, e 4, e 5] = [a1, a3, a4, a5] → V FF l_spec_l04Fault_0 (qsel [1, 3, 4, 5] K [(.exit 0, [1, 3, 4], K0), (.ret, [2], K1)]) ⟨e, h⟩ := by
  intro e he; cases he; exact Eq.mp (by kernel_rfl) H
def l_spec_l04Fault_1 : YC :=
  .seq (.seq (.region false [⟨some 44, .p (.move  (.t 7)), none, false⟩,
     ⟨some 45, .p (.move  (.t 8)), none, false⟩,
     ⟨some 46, .p (.bin .add (.t 44) (.t 45)), none, false⟩,
     ⟨some 47, .p (.move  (.t 3)), none, false⟩,
     ⟨some 48, .p (.bin .lss (.t 46) (.t 47)), none, false⟩])
   (.cond (.t 48)
    (.skip)
    (.exit 4)))
  (.seq (.block 5
    (.seq (.region false [⟨some 51, .p (.move  (.t 4)), none, false⟩,
       ⟨some 52, .p (.move  (.t 7)), none, false⟩,
       ⟨some 53, .p (.indexAddr 1 (.t 51) (.t 52)), none, false⟩,
       ⟨some 54, .load 1 false (.t 53), none, false⟩,
       ⟨some 55, .p (.move  (.t 8)), none, false⟩,
       ⟨some 56, .p (.indexAddr 1 (.t 54) (.t 55)), none, false⟩,
       ⟨some 57, .load 1 false (.t 56), none, false⟩,
       ⟨some 58, .p (.move  (.t 4)), none, false⟩,
       ⟨some 59, .p (.move  (.t 8)), none, false⟩,
       ⟨some 60, .p (.indexAddr 1 (.t 58) (.t 59)), none, false⟩,
       ⟨some 61, .load 1 false (.t 60), none, false⟩,
       ⟨some 62, .p (.move  (.t 7)), none, false⟩,
       ⟨some 63, .p (.indexAddr 1 (.t 61) (.t 62)), none, false⟩,
       ⟨some 64, .load 1 false (.t 63), none, false⟩,
       ⟨some 65, .p (.bin .neq (.t 57) (.t 64)), none, false⟩])
     (.cond (.t 65)
      (.seq (.region false [⟨some 66, .p (.move  (.t 7)), none, false⟩,
         ⟨some 67, .p (.move  (.t 8)), none, false⟩,
         ⟨some 68, .mkrow y_t_int64 1 3 [.int .i64 0] [(0, (.c (.int .i64 1))), (1, (.t 66)), (2, (.t 67))], none, false⟩,
         ⟨some 2, .p (.move  (.t 68)), none, false⟩])
       (.ret))
      (.skip))))
   (.region false [⟨some 49, .p (.move  (.t 8)), none, false⟩,
     ⟨some 50, .p (.bin .add (.t 49) (.c (.int .i64 1))), none, false⟩,
     ⟨some 8, .p (.move  (.t 50)), none, false⟩]))
def q_spec_l04Fault_1 (a1 a3 a4 a7 a8 : Value) (h : Hp) (K K0 K1 : Kont) : Prop :=
  bindO (binV .add a7 a8) fun v46 => bindO (binV .lss v46 a3) fun v48 => condM v48 (bindO (indexAddrV 1 a4 a7) fun v53 => bindO (ldV 1 false h v53) fun v54 => bindO (indexAddrV 1 v54 a8) fun v56 => bindO (ldV 1 false h v56) fun v57 => bindO (indexAddrV 1 a4 a8) fun v60 => bindO (ldV 1 false h v60) fun v61 => bindO (indexAddrV 1 v61 a7) fun v63 => bindO (ldV 1 false h v63) fun v64 => bindO (binV .neq v57 v64) fun v65 => condM v65 (bindO (rowV 1 3 [.int .i64 0] [(0, (.int .i64 1)), (1, a7), (2, a8)]) fun c68 => newB h ⟨c68, y_t_int64, true⟩ fun b68 h1 => K1 [(.slice (some ⟨b68, 0, none⟩) 3 1)] h1) (bindO (binV .add a8 (.int .i64 1)) fun v50 => K [a1, a3, a4, a7, v50] h)) (K0 [a1, a3, a4, a7] h)
theorem wl_spec_l04Fault_1 {a1 a3 a4 a7 a8 : Value} {h : Hp} {K K0 K1 : Kont} (H : q_spec_l04Fault_1 a1 a3 a4 a7 a8 h K K0 K1) : ∀ e : Env, [e 1, e 3, e 4, e 7, e 8] = [a1, a3, a4, a7, a8] → V FF l_spec_l04Fault_1 (qsel [1, 3, 4, 7, 8] K [(.exit 4, [1, 3, 4, 7], K0), (.ret, [2], K1)]) ⟨e, h⟩ := by
  intro e he; cases he; exact Eq.mp (by kernel_rfl) H
def l_spec_l04Fault_2 : YC :=
  .seq (.seq (.region false [⟨some 37, .p (.move  (.t 7)), none, false⟩,
     ⟨some 38, .p (.move  (.t 3)), none, false⟩,
     ⟨some 39, .p (.bin .lss (.t 37) (.t 38)), none, false⟩])
   (.cond (.t 39)
    (.skip)
    (.exit 2)))
  (.seq (.block 3
    (.seq (.region false [⟨some 42, .p (.move  (.t 7)), none, false⟩,
       ⟨some 43, .p (.bin .add (.t 42) (.c (.int .i64 1))), none, false⟩,
       ⟨some 8, .p (.move  (.t 43)), none, false⟩])
     (.block 4
      (.loop [1, 3, 4, 7, 8] [(.exit 4, [1, 3, 4, 7]), (.ret, [2])] l_spec_l04Fault_1))))
   (.region false [⟨some 40, .p (.move  (.t 7)), none, false⟩,
     ⟨some 41, .p (.bin .add (.t 40) (.c (.int .i64 1))), none, false⟩,
     ⟨some 7, .p (.move  (.t 41)), none, false⟩]))
def q_spec_l04Fault_2 (a1 a3 a4 a7 : Value) (h : Hp) (K K0 K1 : Kont) : Prop :=
  bindO (binV .lss a7 a3) fun v39 => condM v39 (bindO (binV .add a7 (.int .i64 1)) fun v43 => LP FF (YC.er l_spec_l04Fault_1) [1, 3, 4, 7, 8] [(.exit 4, [1, 3, 4, 7], fun vs h1 => ∀ e : Env, [e 1, e 3, e 4, e 7] = vs → bindO (binV .add (e 7) (.int .i64 1)) fun v41 => K [(e 1), (e 3), (e 4), v41] h1), (.ret, [2], fun vs h1 => ∀ e : Env, [e 2] = vs → K1 [(e 2)] h1)] [a1, a3, a4, a7, v43] h) (K0 [a1, a3, a4] h)
theorem wl_spec_l04Fault_2 {a1 a3 a4 a7 : Value} {h : Hp} {K K0 K1 : Kont} (H : q_spec_l04Fault_2 a1 a3 a4 a7 h K K0 K1) : ∀ e : Env, [e 1, e 3, e 4, e 7] = [a1, a3, a4, a7] → V FF l_spec_l04Fault_2 (qsel [1, 3, 4, 7] K [(.exit 2, [1, 3, 4], K0), (.ret, [2], K1)]) ⟨e, h⟩ := by
  intro e he; cases he; exact Eq.mp (by kernel_rfl) H
def l_spec_l04Fault_3 : YC :=
  .seq (.seq (.region false [⟨some 71, .p (.move  (.t 11)), none, false⟩,
     ⟨some 72, .p (.move  (.t 3)), none, false⟩,
     ⟨some 73, .p (.bin .lss (.t 71) (.t 72)), none, false⟩])
   (.cond (.t 73)
    (.skip)
    (.exit 6)))
  (.seq (.block 7
    (.seq (.region true [⟨some 76, .p (.move  (.t 9)), none, false⟩,
       ⟨some 77, .p (.fieldAddr 0 (.t 1)), none, false⟩,
       ⟨some 78, .load 1 false (.t 77), none, true⟩,
       ⟨some 79, .p (.move  (.t 4)), none, false⟩,
       ⟨some 80, .p (.move  (.t 11)), none, false⟩,
       ⟨some 81, .call (.c (.func (.func n_spec_l04Column) #[] #[])) [(.t 79), (.t 80)], none, true⟩,
       ⟨some 82, .p (.move  (.t 4)), none, false⟩,
       ⟨some 83, .call (.c (.func (.func n_spec_l03After) #[] #[])) [(.t 78), (.t 81), (.t 82)], none, false⟩,
       ⟨some 84, .mkrow y_t_LLint64 1 1 [.slice none 0 0] [(0, (.t 83))], none, false⟩,
       ⟨some 85, .append y_t_LLint64 1 24 (.t 76) (.t 84), none, false⟩,
       ⟨some 9, .p (.move  (.t 85)), none, false⟩])
     (.region false [⟨some 86, .p (.move  (.t 10)), none, false⟩,
       ⟨some 87, .p (.fieldAddr 0 (.t 1)), none, false⟩,
       ⟨some 88, .load 1 false (.t 87), none, false⟩,
       ⟨some 89, .p (.move  (.t 4)), none, false⟩,
       ⟨some 90, .p (.move  (.t 11)), none, false⟩,
       ⟨some 91, .p (.indexAddr 1 (.t 89) (.t 90)), none, false⟩,
       ⟨some 92, .load 1 false (.t 91), none, false⟩,
       ⟨some 93, .p (.move  (.t 4)), none, false⟩,
       ⟨some 94, .call (.c (.func (.func n_spec_l03After) #[] #[])) [(.t 88), (.t 92), (.t 93)], none, false⟩,
       ⟨some 95, .mkrow y_t_LLint64 1 1 [.slice none 0 0] [(0, (.t 94))], none, false⟩,
       ⟨some 96, .append y_t_LLint64 1 24 (.t 86) (.t 95), none, false⟩,
       ⟨some 10, .p (.move  (.t 96)), none, false⟩])))
   (.region false [⟨some 74, .p (.move  (.t 11)), none, false⟩,
     ⟨some 75, .p (.bin .add (.t 74) (.c (.int .i64 1))), none, false⟩,
     ⟨some 11, .p (.move  (.t 75)), none, false⟩]))
def q_spec_l04Fault_3 (a1 a3 a4 a9 a10 a11 : Value) (h : Hp) (K K0 : Kont) : Prop :=
  bindO (binV .lss a11 a3) fun v73 => condM v73 (bindO (fieldAddrV 0 a1) fun v77 => inB h.nx v77 ∧ (bindO (ldV 1 false h v77) fun v78 => CallW FF n_spec_l04Column [a4, a11] h fun v81 h1 => keepB h.nx h h1 ∧ (CallW FF n_spec_l03After [v78, v81, a4] h1 fun v83 h2 => bindO (rowV 1 1 [.slice none 0 0] [(0, v83)]) fun c84 => newB h2 ⟨c84, y_t_LLint64, true⟩ fun b84 h3 => bindVH (appendV y_t_LLint64 1 h3 a9 (.slice (some ⟨b84, 0, none⟩) 1 1)) fun v85 h4 => bindO (fieldAddrV 0 a1) fun v87 => bindO (ldV 1 false h4 v87) fun v88 => bindO (indexAddrV 1 a4 a11) fun v91 => bindO (ldV 1 false h4 v91) fun v92 => CallW FF n_spec_l03After [v88, v92, a4] h4 fun v94 h5 => bindO (rowV 1 1 [.slice none 0 0] [(0, v94)]) fun c95 => newB h5 ⟨c95, y_t_LLint64, true⟩ fun b95 h6 => bindVH (appendV y_t_LLint64 1 h6 a10 (.slice (some ⟨b95, 0, none⟩) 1 1)) fun v96 h7 => bindO (binV .add a11 (.int .i64 1)) fun v75 => K [a1, a3, a4, v85, v96, v75] h7))) (K0 [a3, a9, a10] h)
theorem wl_spec_l04Fault_3 {a1 a3 a4 a9 a10 a11 : Value} {h : Hp} {K K0 : Kont} (H : q_spec_l04Fault_3 a1 a3 a4 a9 a10 a11 h K K0) : ∀ e : Env, [e 1, e 3, e 4, e 9, e 10, e 11] = [a1, a3, a4, a9, a10, a11] → V FF l_spec_l04Fault_3 (qsel [1, 3, 4, 9, 10, 11] K [(.exit 6, [3, 9, 10], K0)]) ⟨e, h⟩ := by
  intro e he; cases he; exact Eq.mp (by kernel_rfl) H
def l_spec_l04Fault_4 : YC :=
  .seq (.seq (.region false [⟨some 109, .p (.move  (.t 12)), none, false⟩,
     ⟨some 110, .p (.move  (.t 13)), none, false⟩,
     ⟨some 111, .p (.bin .add (.t 109) (.t 110)), none, false⟩,
     ⟨some 112, .p (.move  (.t 14)), none, false⟩,
     ⟨some 113, .p (.bin .add (.t 111) (.t 112)), none, false⟩,
     ⟨some 114, .p (.move  (.t 3)), none, false⟩,
     ⟨some 115, .p (.bin .lss (.t 113) (.t 114)), none, false⟩])
   (.cond (.t 115)
    (.skip)
    (.exit 12)))
  (.seq (.block 13
    (.seq (.region false [⟨some 118, .p (.move  (.t 9)), none, false⟩,
       ⟨some 119, .p (.move  (.t 14)), none, false⟩,
       ⟨some 120, .p (.indexAddr 1 (.t 118) (.t 119)), none, false⟩,
       ⟨some 121, .load 1 false (.t 120), none, false⟩,
       ⟨some 122, .p (.move  (.t 12)), none, false⟩,
       ⟨some 123, .p (.indexAddr 1 (.t 121) (.t 122)), none, false⟩,
       ⟨some 124, .load 1 false (.t 123), none, false⟩,
       ⟨some 125, .p (.move  (.t 13)), none, false⟩,
       ⟨some 126, .p (.indexAddr 1 (.t 124) (.t 125)), none, false⟩,
       ⟨some 127, .load 1 false (.t 126), none, false⟩,
       ⟨some 128, .p (.move  (.t 10)), none, false⟩,
       ⟨some 129, .p (.move  (.t 12)), none, false⟩,
       ⟨some 130, .p (.indexAddr 1 (.t 128) (.t 129)), none, false⟩,
       ⟨some 131, .load 1 false (.t 130), none, false⟩,
       ⟨some 132, .p (.move  (.t 13)), none, false⟩,
       ⟨some 133, .p (.indexAddr 1 (.t 131) (.t 132)), none, false⟩,
       ⟨some 134, .load 1 false (.t 133), none, false⟩,
       ⟨some 135, .p (.move  (.t 14)), none, false⟩,
       ⟨some 136, .p (.indexAddr 1 (.t 134) (.t 135)), none, false⟩,
       ⟨some 137, .load 1 false (.t 136), none, false⟩,
       ⟨some 138, .p (.bin .neq (.t 127) (.t 137)), none, false⟩])
     (.cond (.t 138)
      (.seq (.region false [⟨some 139, .p (.move  (.t 12)), none, false⟩,
         ⟨some 140, .p (.move  (.t 13)), none, false⟩,
         ⟨some 141, .p (.move  (.t 14)), none, false⟩,
         ⟨some 142, .mkrow y_t_int64 1 4 [.int .i64 0] [(0, (.c (.int .i64 2))), (1, (.t 139)), (2, (.t 140)), (3, (.t 141))], none, false⟩,
         ⟨some 2, .p (.move  (.t 142)), none, false⟩])
       (.ret))
      (.skip))))
   (.region false [⟨some 116, .p (.move  (.t 14)), none, false⟩,
     ⟨some 117, .p (.bin .add (.t 116) (.c (.int .i64 1))), none, false⟩,
     ⟨some 14, .p (.move  (.t 117)), none, false⟩]))
def q_spec_l04Fault_4 (a3 a9 a10 a12 a13 a14 : Value) (h : Hp) (K K0 K1 : Kont) : Prop :=
  bindO (binV .add a12 a13) fun v111 => bindO (binV .add v111 a14) fun v113 => bindO (binV .lss v113 a3) fun v115 => condM v115 (bindO (indexAddrV 1 a9 a14) fun v120 => bindO (ldV 1 false h v120) fun v121 => bindO (indexAddrV 1 v121 a12) fun v123 => bindO (ldV 1 false h v123) fun v124 => bindO (indexAddrV 1 v124 a13) fun v126 => bindO (ldV 1 false h v126) fun v127 => bindO (indexAddrV 1 a10 a12) fun v130 => bindO (ldV 1 false h v130) fun v131 => bindO (indexAddrV 1 v131 a13) fun v133 => bindO (ldV 1 false h v133) fun v134 => bindO (indexAddrV 1 v134 a14) fun v136 => bindO (ldV 1 false h v136) fun v137 => bindO (binV .neq v127 v137) fun v138 => condM v138 (bindO (rowV 1 4 [.int .i64 0] [(0, (.int .i64 2)), (1, a12), (2, a13), (3, a14)]) fun c142 => newB h ⟨c142, y_t_int64, true⟩ fun b142 h1 => K1 [(.slice (some ⟨b142, 0, none⟩) 4 1)] h1) (bindO (binV .add a14 (.int .i64 1)) fun v117 => K [a3, a9, a10, a12, a13, v117] h)) (K0 [a3, a9, a10, a12, a13] h)
theorem wl_spec_l04Fault_4 {a3 a9 a10 a12 a13 a14 : Value} {h : Hp} {K K0 K1 : Kont} (H : q_spec_l04Fault_4 a3 a9 a10 a12 a13 a14 h K K0 K1) : ∀ e : Env, [e 3, e 9, e 10, e 12, e 13, e 14] = [a3, a9, a10, a12, a13, a14] → V FF l_spec_l04Fault_4 (qsel [3, 9, 10, 12, 13, 14] K [(.exit 12, [3, 9, 10, 12, 13], K0), (.ret, [2], K1)]) ⟨e, h⟩ := by
  intro e he; cases he; exact Eq.mp (by kernel_rfl) H
def l_spec_l04Fault_5 : YC :=
  .seq (.seq (.region false [⟨some 102, .p (.move  (.t 12)), none, false⟩,
     ⟨some 103, .p (.move  (.t 13)), none, false⟩,
     ⟨some 104, .p (.bin .add (.t 102) (.t 103)), none, false⟩,
     ⟨some 105, .p (.move  (.t 3)), none, false⟩,
     ⟨some 106, .p (.bin .lss (.t 104) (.t 105)), none, false⟩])
   (.cond (.t 106)
    (.skip)
    (.exit 10)))
  (.seq (.block 11
    (.seq (.region false [⟨some 14, .p (.move  (.c (.int .i64 0))), none, false⟩])
     (.block 12
      (.loop [3, 9, 10, 12, 13, 14] [(.exit 12, [3, 9, 10, 12, 13]), (.ret, [2])] l_spec_l04Fault_4))))
   (.region false [⟨some 107, .p (.move  (.t 13)), none, false⟩,
     ⟨some 108, .p (.bin .add (.t 107) (.c (.int .i64 1))), none, false⟩,
     ⟨some 13, .p (.move  (.t 108)), none, false⟩]))
def q_spec_l04Fault_5 (a3 a9 a10 a12 a13 : Value) (h : Hp) (K K0 K1 : Kont) : Prop :=
  bindO (binV .add a12 a13) fun v104 => bindO (binV .lss v104 a3) fun v106 => condM v106 (LP FF (YC.er l_spec_l04Fault_4) [3, 9, 10, 12, 13, 14] [(.exit 12, [3, 9, 10, 12, 13], fun vs h1 => ∀ e : Env, [e 3, e 9, e 10, e 12, e 13] = vs → bindO (binV .add (e 13) (.int .i64 1)) fun v108 => K [(e 3), (e 9), (e 10), (e 12), v108] h1), (.ret, [2], fun vs h1 => ∀ e : Env, [e 2] = vs → K1 [(e 2)] h1)] [a3, a9, a10, a12, a13, (.int .i64 0)] h) (K0 [a3, a9, a10, a12] h)
theorem wl_spec_l04Fault_5 {a3 a9 a10 a12 a13 : Value} {h : Hp} {K K0 K1 : Kont} (H : q_spec_l04Fault_5 a3 a9 a10 a12 a13 h K K0 K1) : ∀ e : Env, [e 3, e 9, e 10, e 12, e 13] = [a3, a9, a10, a12, a13] → V FF l_spec_l04Fault_5 (qsel [3, 9, 10, 12, 13] K [(.exit 10, [3, 9, 10, 12], K0), (.ret, [2], K1)]) ⟨e, h⟩ := by
  intro e he; cases he; exact Eq.mp (by kernel_rfl) H
def l_spec_l04Fault_6 : YC :=
  .seq (.seq (.region false [⟨some 97, .p (.move  (.t 12)), none, false⟩,
     ⟨some 98, .p (.move  (.t 3)), none, false⟩,
     ⟨some 99, .p (.bin .lss (.t 97) (.t 98)), none, false⟩])
   (.cond (.t 99)
    (.skip)
    (.exit 8)))
  (.seq (.block 9
    (.seq (.region false [⟨some 13, .p (.move  (.c (.int .i64 0))), none, false⟩])
     (.block 10
      (.loop [3, 9, 10, 12, 13] [(.exit 10, [3, 9, 10, 12]), (.ret, [2])] l_spec_l04Fault_5))))
   (.region false [⟨some 100, .p (.move  (.t 12)), none, false⟩,
     ⟨some 101, .p (.bin .add (.t 100) (.c (.int .i64 1))), none, false⟩,
     ⟨some 12, .p (.move  (.t 101)), none, false⟩]))
def q_spec_l04Fault_6 (a3 a9 a10 a12 : Value) (h : Hp) (K K0 K1 : Kont) : Prop :=
  bindO (binV .lss a12 a3) fun v99 => condM v99 (LP FF (YC.er l_spec_l04Fault_5) [3, 9, 10, 12, 13] [(.exit 10, [3, 9, 10, 12], fun vs h1 => ∀ e : Env, [e 3, e 9, e 10, e 12] = vs → bindO (binV .add (e 12) (.int .i64 1)) fun v101 => K [(e 3), (e 9), (e 10), v101] h1), (.ret, [2], fun vs h1 => ∀ e : Env, [e 2] = vs → K1 [(e 2)] h1)] [a3, a9, a10, a12, (.int .i64 0)] h) (K0 [] h)
theorem wl_spec_l04Fault_6 {a3 a9 a10 a12 : Value} {h : Hp} {K K0 K1 : Kont} (H : q_spec_l04Fault_6 a3 a9 a10 a12 h K K0 K1) : ∀ e : Env, [e 3, e 9, e 10, e 12] = [a3, a9, a10, a12] → V FF l_spec_l04Fault_6 (qsel [3, 9, 10, 12] K [(.exit 8, [], K0), (.ret, [2], K1)]) ⟨e, h⟩ := by
  intro e he; cases he; exact Eq.mp (by kernel_rfl) H
def y_spec_l04Fault : YC :=
  .seq (.region false [⟨some 1, .box y_t_impl_Plane 2 (.t 0), none, false⟩,
    ⟨some 2, .p (.move  (.c (.slice none 0 0))), none, false⟩])
  (.seq (.region false [⟨some 15, .p (.fieldAddr 1 (.t 1)), none, false⟩,
     ⟨some 16, .load 1 false (.t 15), none, false⟩,
     ⟨some 17, .p (.len  (.t 16)), none, false⟩,
     ⟨some 18, .p (.fieldAddr 1 (.t 1)), none, false⟩,
     ⟨some 19, .load 1 false (.t 18), none, false⟩,
     ⟨some 3, .p (.move  (.t 17)), none, false⟩,
     ⟨some 4, .p (.move  (.t 19)), none, false⟩])
   (.seq (.seq (.region false [⟨some 5, .p (.move  (.c (.int .i64 0))), none, false⟩])
     (.block 0
      (.loop [1, 3, 4, 5] [(.exit 0, [1, 3, 4]), (.ret, [2])] l_spec_l04Fault_0)))
    (.seq (.seq (.region false [⟨some 7, .p (.move  (.c (.int .i64 0))), none, false⟩])
      (.block 2
       (.loop [1, 3, 4, 7] [(.exit 2, [1, 3, 4]), (.ret, [2])] l_spec_l04Fault_2)))
     (.seq (.region false [⟨some 69, .mkrow y_t_LLint64 1 0 [.slice none 0 0] [], none, false⟩,
        ⟨some 70, .mkrow y_t_LLint64 1 0 [.slice none 0 0] [], none, false⟩,
        ⟨some 9, .p (.move  (.t 69)), none, false⟩,
        ⟨some 10, .p (.move  (.t 70)), none, false⟩])
      (.seq (.seq (.region false [⟨some 11, .p (.move  (.c (.int .i64 0))), none, false⟩])
        (.block 6
         (.loop [1, 3, 4, 9, 10, 11] [(.exit 6, [3, 9, 10])] l_spec_l04Fault_3)))
       (.seq (.seq (.region false [⟨some 12, .p (.move  (.c (.int .i64 0))), none, false⟩])
         (.block 8
          (.loop [3, 9, 10, 12] [(.exit 8, []), (.ret, [2])] l_spec_l04Fault_6)))
        (.seq (.region false [⟨some 2, .p (.move  (.c (.slice none 0 0))), none, false⟩])
         (.ret))))))))
theorem c_spec_l04Fault : FF n_spec_l04Fault = some ⟨143, y_spec_l04Fault.er, [.tmp 2]⟩ := by kernel_rfl
def p_spec_l04Fault (a0 : Value) (h : Hp) (R : Value → Hp → Prop) : Prop :=
  bindO (boxV 2 a0) fun c1 => newB h ⟨c1, y_t_impl_Plane, true⟩ fun b1 h1 => bindO (fieldAddrV 1 (.pointer (some ⟨b1, 0, none⟩))) fun v15 => bindO (ldV 1 false h1 v15) fun v16 => bindO (lenV  v16) fun v17 => bindO (fieldAddrV 1 (.pointer (some ⟨b1, 0, none⟩))) fun v18 => bindO (ldV 1 false h1 v18) fun v19 => LP FF (YC.er l_spec_l04Fault_0) [1, 3, 4, 5] [(.exit 0, [1, 3, 4], fun vs h2 => ∀ e : Env, [e 1, e 3, e 4] = vs → LP FF (YC.er l_spec_l04Fault_2) [1, 3, 4, 7] [(.exit 2, [1, 3, 4], fun vs_1 h3 => ∀ e_1 : Env, [e_1 1, e_1 3, e_1 4] = vs_1 → bindO (rowV 1 0 [.slice none 0 0] []) fun c69 => newB h3 ⟨c69, y_t_LLint64, true⟩ fun b69 h4 => bindO (rowV 1 0 [.slice none 0 0] []) fun c70 => newB h4 ⟨c70, y_t_LLint64, true⟩ fun b70 h5 => LP FF (YC.er l_spec_l04Fault_3) [1, 3, 4, 9, 10, 11] [(.exit 6, [3, 9, 10], fun vs_2 h6 => ∀ e_2 : Env, [e_2 3, e_2 9, e_2 10] = vs_2 → LP FF (YC.er l_spec_l04Fault_6) [3, 9, 10, 12] [(.exit 8, [], fun vs_3 h7 => ∀ e_3 : Env, [] = vs_3 → R (.slice none 0 0) h7), (.ret, [2], fun vs_3 h7 => ∀ e_3 : Env, [e_3 2] = vs_3 → R (e_3 2) h7)] [(e_2 3), (e_2 9), (e_2 10), (.int .i64 0)] h6)] [(e_1 1), (e_1 3), (e_1 4), (.slice (some ⟨b69, 0, none⟩) 0 1), (.slice (some ⟨b70, 0, none⟩) 0 1), (.int .i64 0)] h5), (.ret, [2], fun vs_1 h3 => ∀ e_1 : Env, [e_1 2] = vs_1 → R (e_1 2) h3)] [(e 1), (e 3), (e 4), (.int .i64 0)] h2), (.ret, [2], fun vs h2 => ∀ e : Env, [e 2] = vs → R (e 2) h2)] [(.pointer (some ⟨b1, 0, none⟩)), v17, v19, (.int .i64 0)] h1
theorem w_spec_l04Fault {a0 : Value} {h : Hp} {R : Value → Hp → Prop} (H : p_spec_l04Fault a0 h R) : CallW FF n_spec_l04Fault [a0] h R := callV_fin c_spec_l04Fault (Eq.mp (by kernel_rfl) H)
def y_impl_all_impl_Series : YC :=
  .seq (.region false [⟨some 3, .box y_t_func_impl_Series_bool 1 (.t 1), none, false⟩,
    ⟨some 4, .p (.move  (.c (.bool false))), none, false⟩])
  (.seq (.region false [⟨some 5, .p (.move  (.t 0)), none, false⟩,
     ⟨some 6, .p (.mkfunc n_impl_all_impl_Series__c1 [] [(.t 3)]), none, false⟩,
     ⟨some 7, .call (.c (.func (.func n_slices_ContainsFunc_Limpl_Series_impl_Series) #[] #[])) [(.t 5), (.t 6)], none, false⟩,
     ⟨some 8, .p (.un .not (.t 7)), none, false⟩,
     ⟨some 4, .p (.move  (.t 8)), none, false⟩])
   (.ret))
theorem c_impl_all_impl_Series : FF n_impl_all_impl_Series = some ⟨9, y_impl_all_impl_Series.er, [.tmp 4]⟩ := by kernel_rfl
def p_impl_all_impl_Series (a0 a1 : Value) (h : Hp) (R : Value → Hp → Prop) : Prop :=
  bindO (boxV 1 a1) fun c3 => newB h ⟨c3, y_t_func_impl_Series_bool, true⟩ fun b3 h1 => CallW FF n_slices_ContainsFunc_Limpl_Series_impl_Series [a0, (.func (.func n_impl_all_impl_Series__c1) #[] #[(.pointer (some ⟨b3, 0, none⟩))])] h1 fun v7 h2 => bindO (unV .not v7) fun v8 => R v8 h2
theorem w_impl_all_impl_Series {a0 a1 : Value} {h : Hp} {R : Value → Hp → Prop} (H : p_impl_all_impl_Series a0 a1 h R) : CallW FF n_impl_all_impl_Series [a0, a1] h R := callV_fin c_impl_all_impl_Series (Eq.mp (by kernel_rfl) H)
def y_impl_IsSeries : YC :=
  .seq (.region false [⟨some 1, .box y_t_impl_Series 2 (.t 0), none, false⟩,
    ⟨some 2, .p (.move  (.c (.bool false))), none, false⟩])
  (.seq (.region false [⟨some 3, .p (.fieldAddr 0 (.t 1)), none, false⟩,
     ⟨some 4, .load 1 false (.t 3), none, false⟩,
     ⟨some 5, .call (.c (.func (.func n_impl_IsModulus) #[] #[])) [(.t 4)], none, false⟩,
     ⟨some 6, .p (.move  (.t 5)), none, false⟩,
     ⟨some 7, .load 2 true (.t 1), some (6, true), false⟩,
     ⟨some 8, .call (.c (.func (.func n_impl_Series_degree) #[] #[])) [(.t 7)], some (6, true), false⟩,
     ⟨some 9, .call (.c (.func (.func n_impl_in) #[] #[])) [(.t 8), (.c (.int .i64 1)), (.c (.int .i64 10))], some (6, true), false⟩,
     ⟨some 10, .p (.pick  (.t 6) (.t 9) (.c (.bool false))), none, false⟩,
     ⟨some 11, .p (.move  (.t 10)), none, false⟩,
     ⟨some 12, .p (.fieldAddr 1 (.t 1)), some (11, true), false⟩,
     ⟨some 13, .load 1 false (.t 12), some (11, true), false⟩,
     ⟨some 14, .p (.mkfunc n_impl_IsSeries_c1 [] [(.t 1)]), some (11, true), false⟩,
     ⟨some 15, .call (.c (.func (.func n_impl_all_int64) #[] #[])) [(.t 13), (.t 14)], some (11, true), false⟩,
     ⟨some 16, .p (.pick  (.t 11) (.t 15) (.c (.bool false))), none, false⟩,
     ⟨some 2, .p (.move  (.t 16)), none, false⟩])
   (.ret))
theorem c_impl_IsSeries : FF n_impl_IsSeries = some ⟨17, y_impl_IsSeries.er, [.tmp 2]⟩ := by kernel_rfl
def p_impl_IsSeries (a0 : Value) (h : Hp) (R : Value → Hp → Prop) : Prop :=
  bindO (boxV 2 a0) fun c1 => newB h ⟨c1, y_t_impl_Series, true⟩ fun b1 h1 => bindO (fieldAddrV 0 (.pointer (some ⟨b1, 0, none⟩))) fun v3 => bindO (ldV 1 false h1 v3) fun v4 => CallW FF n_impl_IsModulus [v4] h1 fun v5 h2 => condM v5 (bindO (ldV 2 true h2 (.pointer (some ⟨b1, 0, none⟩))) fun v7 => CallW FF n_impl_Series_degree [v7] h2 fun v8 h3 => CallW FF n_impl_in [v8, (.int .i64 1), (.int .i64 10)] h3 fun v9 h4 => condM v9 (bindO (fieldAddrV 1 (.pointer (some ⟨b1, 0, none⟩))) fun v12 => bindO (ldV 1 false h4 v12) fun v13 => CallW FF n_impl_all_int64 [v13, (.func (.func n_impl_IsSeries_c1) #[] #[(.pointer (some ⟨b1, 0, none⟩))])] h4 fun v15 h5 => R v15 h5) (R (.bool false) h4)) (R (.bool false) h2)
theorem w_impl_IsSeries {a0 : Value} {h : Hp} {R : Value → Hp → Prop} (H : p_impl_IsSeries a0 h R) : CallW FF n_impl_IsSeries [a0] h R := callV_fin c_impl_IsSeries (Eq.mp (by kernel_rfl) H)
def y_impl_Plane_isCurveOf : YC :=
  .seq (.region false [⟨some 2, .box y_t_impl_Plane 2 (.t 0), none, false⟩,
    ⟨some 3, .box y_t_impl_Series 2 (.t 1), none, false⟩,
    ⟨some 4, .p (.move  (.c (.bool false))), none, false⟩])
  (.seq (.region false [⟨some 5, .load 2 true (.t 2), none, false⟩,
     ⟨some 6, .load 2 true (.t 3), none, false⟩,
     ⟨some 7, .call (.c (.func (.func n_impl_Plane_fits) #[] #[])) [(.t 5), (.t 6)], none, false⟩,
     ⟨some 8, .p (.move  (.t 7)), none, false⟩,
     ⟨some 9, .p (.fieldAddr 1 (.t 3)), some (8, true), false⟩,
     ⟨some 10, .load 1 false (.t 9), some (8, true), false⟩,
     ⟨some 11, .p (.indexAddr 1 (.t 10) (.c (.int .i64 0))), some (8, true), false⟩,
     ⟨some 12, .load 1 false (.t 11), some (8, true), false⟩,
     ⟨some 13, .p (.bin .eql (.t 12) (.c (.int .i64 0))), some (8, true), false⟩,
     ⟨some 14, .p (.pick  (.t 8) (.t 13) (.c (.bool false))), none, false⟩,
     ⟨some 4, .p (.move  (.t 14)), none, false⟩])
   (.ret))
theorem c_impl_Plane_isCurveOf : FF n_impl_Plane_isCurveOf = some ⟨15, y_impl_Plane_isCurveOf.er, [.tmp 4]⟩ := by kernel_rfl
def p_impl_Plane_isCurveOf (a0 a1 : Value) (h : Hp) (R : Value → Hp → Prop) : Prop :=
  bindO (boxV 2 a0) fun c2 => newB h ⟨c2, y_t_impl_Plane, true⟩ fun b2 h1 => bindO (boxV 2 a1) fun c3 => newB h1 ⟨c3, y_t_impl_Series, true⟩ fun b3 h2 => bindO (ldV 2 true h2 (.pointer (some ⟨b2, 0, none⟩))) fun v5 => bindO (ldV 2 true h2 (.pointer (some ⟨b3, 0, none⟩))) fun v6 => CallW FF n_impl_Plane_fits [v5, v6] h2 fun v7 h3 => condM v7 (bindO (fieldAddrV 1 (.pointer (some ⟨b3, 0, none⟩))) fun v9 => bindO (ldV 1 false h3 v9) fun v10 => bindO (indexAddrV 1 v10 (.int .i64 0)) fun v11 => bindO (ldV 1 false h3 v11) fun v12 => bindO (binV .eql v12 (.int .i64 0)) fun v13 => R v13 h3) (R (.bool false) h3)
theorem w_impl_Plane_isCurveOf {a0 a1 : Value} {h : Hp} {R : Value → Hp → Prop} (H : p_impl_Plane_isCurveOf a0 a1 h R) : CallW FF n_impl_Plane_isCurveOf [a0, a1] h R := callV_fin c_impl_Plane_isCurveOf (Eq.mp (by kernel_rfl) H)
def y_spec_l02Is : YC :=
  .seq (.region false [⟨some 1, .box y_t_impl_Series 2 (.t 0), none, false⟩,
    ⟨some 2, .p (.move  (.c (.bool false))), none, false⟩])
  (.seq (.region false [⟨some 4, .p (.fieldAddr 1 (.t 1)), none, false⟩,
     ⟨some 5, .load 1 false (.t 4), none, false⟩,
     ⟨some 6, .p (.len  (.t 5)), none, false⟩,
     ⟨some 3, .p (.move  (.t 6)), none, false⟩])
   (.seq (.region false [⟨some 7, .p (.fieldAddr 0 (.t 1)), none, false⟩,
      ⟨some 8, .load 1 false (.t 7), none, false⟩,
      ⟨some 9, .call (.c (.func (.func n_spec_l01Modulus) #[] #[])) [(.t 8)], none, false⟩,
      ⟨some 10, .p (.move  (.t 9)), none, false⟩,
      ⟨some 11, .p (.move  (.t 3)), some (10, true), false⟩,
      ⟨some 12, .call (.c (.func (.func n_spec_l01In) #[] #[])) [(.t 11), (.c (.int .i64 2)), (.c (.int .i64 11))], some (10, true), false⟩,
      ⟨some 13, .p (.pick  (.t 10) (.t 12) (.c (.bool false))), none, false⟩,
      ⟨some 14, .p (.move  (.t 13)), none, false⟩,
      ⟨some 15, .p (.fieldAddr 0 (.t 1)), some (14, true), false⟩,
      ⟨some 16, .load 1 false (.t 15), some (14, true), false⟩,
      ⟨some 17, .p (.fieldAddr 1 (.t 1)), some (14, true), false⟩,
      ⟨some 18, .load 1 false (.t 17), some (14, true), false⟩,
      ⟨some 19, .call (.c (.func (.func n_spec_l01Numbers) #[] #[])) [(.t 16), (.t 18)], some (14, true), false⟩,
      ⟨some 20, .p (.pick  (.t 14) (.t 19) (.c (.bool false))), none, false⟩,
      ⟨some 2, .p (.move  (.t 20)), none, false⟩])
    (.ret)))
theorem c_spec_l02Is : FF n_spec_l02Is = some ⟨21, y_spec_l02Is.er, [.tmp 2]⟩ := by kernel_rfl
def p_spec_l02Is (a0 : Value) (h : Hp) (R : Value → Hp → Prop) : Prop :=
  bindO (boxV 2 a0) fun c1 => newB h ⟨c1, y_t_impl_Series, true⟩ fun b1 h1 => bindO (fieldAddrV 1 (.pointer (some ⟨b1, 0, none⟩))) fun v4 => bindO (ldV 1 false h1 v4) fun v5 => bindO (lenV  v5) fun v6 => bindO (fieldAddrV 0 (.pointer (some ⟨b1, 0, none⟩))) fun v7 => bindO (ldV 1 false h1 v7) fun v8 => CallW FF n_spec_l01Modulus [v8] h1 fun v9 h2 => condM v9 (CallW FF n_spec_l01In [v6, (.int .i64 2), (.int .i64 11)] h2 fun v12 h3 => condM v12 (bindO (fieldAddrV 0 (.pointer (some ⟨b1, 0, none⟩))) fun v15 => bindO (ldV 1 false h3 v15) fun v16 => bindO (fieldAddrV 1 (.pointer (some ⟨b1, 0, none⟩))) fun v17 => bindO (ldV 1 false h3 v17) fun v18 => CallW FF n_spec_l01Numbers [v16, v18] h3 fun v19 h4 => R v19 h4) (R (.bool false) h3)) (R (.bool false) h2)
theorem w_spec_l02Is {a0 : Value} {h : Hp} {R : Value → Hp → Prop} (H : p_spec_l02Is a0 h R) : CallW FF n_spec_l02Is [a0] h R := callV_fin c_spec_l02Is (Eq.mp (by kernel_rfl) H)
def y_spec_l02Curve : YC :=
  .seq (.region false [⟨some 1, .box y_t_impl_Series 2 (.t 0), none, false⟩,
    ⟨some 2, .p (.move  (.c (.bool false))), none, false⟩])
  (.seq (.region false [⟨some 3, .load 2 true (.t 1), none, false⟩,
     ⟨some 4, .call (.c (.func (.func n_spec_l02Is) #[] #[])) [(.t 3)], none, false⟩,
     ⟨some 5, .p (.move  (.t 4)), none, false⟩,
     ⟨some 6, .p (.fieldAddr 1 (.t 1)), some (5, true), false⟩,
     ⟨some 7, .load 1 false (.t 6), some (5, true), false⟩,
     ⟨some 8, .p (.indexAddr 1 (.t 7) (.c (.int .i64 0))), some (5, true), false⟩,
     ⟨some 9, .load 1 false (.t 8), some (5, true), false⟩,
     ⟨some 10, .p (.bin .eql (.t 9) (.c (.int .i64 0))), some (5, true), false⟩,
     ⟨some 11, .p (.pick  (.t 5) (.t 10) (.c (.bool false))), none, false⟩,
     ⟨some 2, .p (.move  (.t 11)), none, false⟩])
   (.ret))
theorem c_spec_l02Curve : FF n_spec_l02Curve = some ⟨12, y_spec_l02Curve.er, [.tmp 2]⟩ := by kernel_rfl
def p_spec_l02Curve (a0 : Value) (h : Hp) (R : Value → Hp → Prop) : Prop :=
  bindO (boxV 2 a0) fun c1 => newB h ⟨c1, y_t_impl_Series, true⟩ fun b1 h1 => bindO (ldV 2 true h1 (.pointer (some ⟨b1, 0, none⟩))) fun v3 => CallW FF n_spec_l02Is [v3] h1 fun v4 h2 => condM v4 (bindO (fieldAddrV 1 (.pointer (some ⟨b1, 0, none⟩))) fun v6 => bindO (ldV 1 false h2 v6) fun v7 => bindO (indexAddrV 1 v7 (.int .i64 0)) fun v8 => bindO (ldV 1 false h2 v8) fun v9 => bindO (binV .eql v9 (.int .i64 0)) fun v10 => R v10 h2) (R (.bool false) h2)
theorem w_spec_l02Curve {a0 : Value} {h : Hp} {R : Value → Hp → Prop} (H : p_spec_l02Curve a0 h R) : CallW FF n_spec_l02Curve [a0] h R := callV_fin c_spec_l02Curve (Eq.mp (by kernel_rfl) H)
def y_spec_l04Opposite : YC :=
  .seq (.region false [⟨some 2, .box y_t_impl_Plane 2 (.t 0), none, false⟩,
    ⟨some 4, .p (.move  (.c (.slice none 0 0))), none, false⟩])
  (.seq (.region true [⟨some 5, .p (.fieldAddr 0 (.t 2)), none, false⟩,
     ⟨some 6, .load 1 false (.t 5), none, true⟩,
     ⟨some 7, .load 2 true (.t 2), none, false⟩,
     ⟨some 8, .call (.c (.func (.func n_spec_l04Inverse) #[] #[])) [(.t 7)], none, true⟩,
     ⟨some 9, .p (.move  (.t 1)), none, false⟩,
     ⟨some 10, .p (.move  (.t 1)), none, false⟩,
     ⟨some 11, .p (.len  (.t 10)), none, false⟩,
     ⟨some 12, .p (.bin .sub (.t 11) (.c (.int .i64 1))), none, false⟩,
     ⟨some 13, .call (.c (.func (.func n_spec_l02Compose) #[] #[])) [(.t 6), (.t 8), (.t 9), (.t 12)], none, false⟩,
     ⟨some 4, .p (.move  (.t 13)), none, false⟩])
   (.ret))
theorem c_spec_l04Opposite : FF n_spec_l04Opposite = some ⟨14, y_spec_l04Opposite.er, [.tmp 4]⟩ := by kernel_rfl
def p_spec_l04Opposite (a0 a1 : Value) (h : Hp) (R : Value → Hp → Prop) : Prop :=
  bindO (boxV 2 a0) fun c2 => newB h ⟨c2, y_t_impl_Plane, true⟩ fun b2 h1 => bindO (fieldAddrV 0 (.pointer (some ⟨b2, 0, none⟩))) fun v5 => inB h1.nx v5 ∧ (bindO (ldV 1 false h1 v5) fun v6 => bindO (ldV 2 true h1 (.pointer (some ⟨b2, 0, none⟩))) fun v7 => CallW FF n_spec_l04Inverse [v7] h1 fun v8 h2 => keepB h1.nx h1 h2 ∧ (bindO (lenV  a1) fun v11 => bindO (binV .sub v11 (.int .i64 1)) fun v12 => CallW FF n_spec_l02Compose [v6, v8, a1, v12] h2 fun v13 h3 => R v13 h3))
theorem w_spec_l04Opposite {a0 a1 : Value} {h : Hp} {R : Value → Hp → Prop} (H : p_spec_l04Opposite a0 a1 h R) : CallW FF n_spec_l04Opposite [a0, a1] h R := callV_fin c_spec_l04Opposite (Eq.mp (by kernel_rfl) H)
def l_spec_l03Put_0 : YC :=
  .seq (.seq (.region false [⟨some 32, .p (.move  (.t 14)), none, false⟩,
     ⟨some 33, .p (.move  (.t 1)), none, false⟩,
     ⟨some 34, .p (.move  (.t 13)), none, false⟩,
     ⟨some 35, .p (.indexAddr 1 (.t 33) (.t 34)), none, false⟩,
     ⟨some 36, .load 1 false (.t 35), none, false⟩,
     ⟨some 37, .p (.len  (.t 36)), none, false⟩,
     ⟨some 38, .p (.bin .lss (.t 32) (.t 37)), none, false⟩])
   (.cond (.t 38)
    (.skip)
    (.exit 2)))
  (.seq (.block 3
    (.seq (.region false [⟨some 41, .p (.move  (.t 1)), none, false⟩,
       ⟨some 42, .p (.move  (.t 13)), none, false⟩,
       ⟨some 43, .p (.indexAddr 1 (.t 41) (.t 42)), none, false⟩,
       ⟨some 44, .load 1 false (.t 43), none, false⟩,
       ⟨some 45, .p (.move  (.t 14)), none, false⟩,
       ⟨some 46, .p (.indexAddr 1 (.t 44) (.t 45)), none, false⟩,
       ⟨some 47, .load 1 false (.t 46), none, false⟩,
       ⟨some 48, .p (.bin .neq (.t 47) (.c (.int .i64 0))), none, false⟩])
     (.cond (.t 48)
      (.region true [⟨some 49, .p (.move  (.t 0)), none, false⟩,
        ⟨some 50, .p (.move  (.t 12)), none, false⟩,
        ⟨some 51, .p (.move  (.t 0)), none, false⟩,
        ⟨some 52, .p (.move  (.t 1)), none, false⟩,
        ⟨some 53, .p (.move  (.t 13)), none, false⟩,
        ⟨some 54, .p (.indexAddr 1 (.t 52) (.t 53)), none, false⟩,
        ⟨some 55, .load 1 false (.t 54), none, true⟩,
        ⟨some 56, .p (.move  (.t 14)), none, false⟩,
        ⟨some 57, .p (.indexAddr 1 (.t 55) (.t 56)), none, false⟩,
        ⟨some 58, .load 1 false (.t 57), none, true⟩,
        ⟨some 59, .p (.move  (.t 0)), none, false⟩,
        ⟨some 60, .p (.move  (.t 10)), none, false⟩,
        ⟨some 61, .p (.move  (.t 13)), none, false⟩,
        ⟨some 62, .p (.indexAddr 1 (.t 60) (.t 61)), none, false⟩,
        ⟨some 63, .load 1 false (.t 62), none, false⟩,
        ⟨some 64, .p (.move  (.t 11)), none, false⟩,
        ⟨some 65, .p (.move  (.t 14)), none, false⟩,
        ⟨some 66, .p (.indexAddr 1 (.t 64) (.t 65)), none, false⟩,
        ⟨some 67, .load 1 false (.t 66), none, false⟩,
        ⟨some 68, .p (.move  (.t 9)), none, false⟩,
        ⟨some 69, .call (.c (.func (.func n_spec_l02Times) #[] #[])) [(.t 59), (.t 63), (.t 67), (.t 68)], none, true⟩,
        ⟨some 70, .call (.c (.func (.func n_spec_l02Scale) #[] #[])) [(.t 51), (.t 58), (.t 69)], none, false⟩,
        ⟨some 71, .call (.c (.func (.func n_spec_l02Add) #[] #[])) [(.t 49), (.t 50), (.t 70)], none, false⟩,
        ⟨some 12, .p (.move  (.t 71)), none, false⟩])
      (.skip))))
   (.region false [⟨some 39, .p (.move  (.t 14)), none, false⟩,
     ⟨some 40, .p (.bin .add (.t 39) (.c (.int .i64 1))), none, false⟩,
     ⟨some 14, .p (.move  (.t 40)), none, false⟩]))
def q_spec_l03Put_0 (a0 a1 a9 a10 a11 a12 a13 a14 : Value) (h : Hp) (K K0 : Kont) : Prop :=
  bindO (indexAddrV 1 a1 a13) fun v35 => bindO (ldV 1 false h v35) fun v36 => bindO (lenV  v36) fun v37 => bindO (binV .lss a14 v37) fun v38 => condM v38 (bindO (indexAddrV 1 a1 a13) fun v43 => bindO (ldV 1 false h v43) fun v44 => bindO (indexAddrV 1 v44 a14) fun v46 => bindO (ldV 1 false h v46) fun v47 => bindO (binV .neq v47 (.int .i64 0)) fun v48 => condM v48 (bindO (indexAddrV 1 a1 a13) fun v54 => inB h.nx v54 ∧ (bindO (ldV 1 false h v54) fun v55 => bindO (indexAddrV 1 v55 a14) fun v57 => inB h.nx v57 ∧ (bindO (ldV 1 false h v57) fun v58 => bindO (indexAddrV 1 a10 a13) fun v62 => bindO (ldV 1 false h v62) fun v63 => bindO (indexAddrV 1 a11 a14) fun v66 => bindO (ldV 1 false h v66) fun v67 => CallW FF n_spec_l02Times [a0, v63, v67, a9] h fun v69 h1 => keepB h.nx h h1 ∧ (CallW FF n_spec_l02Scale [a0, v58, v69] h1 fun v70 h2 => CallW FF n_spec_l02Add [a0, a12, v70] h2 fun v71 h3 => bindO (binV .add a14 (.int .i64 1)) fun v40 => K [a0, a1, a9, a10, a11, v71, a13, v40] h3)))) (bindO (binV .add a14 (.int .i64 1)) fun v40 => K [a0, a1, a9, a10, a11, a12, a13, v40] h)) (K0 [a0, a1, a9, a10, a11, a12, a13] h)
theorem wl_spec_l03Put_0 {a0 a1 a9 a10 a11 a12 a13 a14 : Value} {h : Hp} {K K0 : Kont} (H : q_spec_l03Put_0 a0 a1 a9 a10 a11 a12 a13 a14 h K K0) : ∀ e : Env, [e 0, e 1, e 9, e 10, e 11, e 12, e 13, e 14] = [a0, a1, a9, a10, a11, a12, a13, a14] → V FF l_spec_l03Put_0 (qsel [0, 1, 9, 10, 11, 12, 13, 14] K [(.exit 2, [0, 1, 9, 10, 11, 12, 13], K0)]) ⟨e, h⟩ := by
  intro e he; cases he; exact Eq.mp (by kernel_rfl) H
def l_spec_l03Put_1 : YC :=
  .seq (.seq (.region false [⟨some 27, .p (.move  (.t 13)), none, false⟩,
     ⟨some 28, .p (.move  (.t 9)), none, false⟩,
     ⟨some 29, .p (.bin .leq (.t 27) (.t 28)), none, false⟩])
   (.cond (.t 29)
    (.skip)
    (.exit 0)))
  (.seq (.block 1
    (.seq (.region false [⟨some 14, .p (.move  (.c (.int .i64 0))), none, false⟩])
     (.block 2
      (.loop [0, 1, 9, 10, 11, 12, 13, 14] [(.exit 2, [0, 1, 9, 10, 11, 12, 13])] l_spec_l03Put_0))))
   (.region false [⟨some 30, .p (.move  (.t 13)), none, false⟩,
     ⟨some 31, .p (.bin .add (.t 30) (.c (.int .i64 1))), none, false⟩,
     ⟨some 13, .p (.move  (.t 31)), none, false⟩]))
def q_spec_l03Put_1 (a0 a1 a9 a10 a11 a12 a13 : Value) (h : Hp) (K K0 : Kont) : Prop :=
  bindO (binV .leq a13 a9) fun v29 => condM v29 (LP FF (YC.er l_spec_l03Put_0) [0, 1, 9, 10, 11, 12, 13, 14] [(.exit 2, [0, 1, 9, 10, 11, 12, 13], fun vs h1 => ∀ e : Env, [e 0, e 1, e 9, e 10, e 11, e 12, e 13] = vs → bindO (binV .add (e 13) (.int .i64 1)) fun v31 => K [(e 0), (e 1), (e 9), (e 10), (e 11), (e 12), v31] h1)] [a0, a1, a9, a10, a11, a12, a13, (.int .i64 0)] h) (K0 [a12] h)
theorem wl_spec_l03Put_1 {a0 a1 a9 a10 a11 a12 a13 : Value} {h : Hp} {K K0 : Kont} (H : q_spec_l03Put_1 a0 a1 a9 a10 a11 a12 a13 h K K0) : ∀ e : Env, [e 0, e 1, e 9, e 10, e 11, e 12, e 13] = [a0, a1, a9, a10, a11, a12, a13] → V FF l_spec_l03Put_1 (qsel [0, 1, 9, 10, 11, 12, 13] K [(.exit 0, [12], K0)]) ⟨e, h⟩ := by
  intro e he; cases he; exact Eq.mp (by kernel_rfl) H
def y_spec_l03Put : YC :=
  .seq (.region false [⟨some 8, .p (.move  (.c (.slice none 0 0))), none, false⟩])
  (.seq (.region false [⟨some 15, .p (.move  (.t 1)), none, false⟩,
     ⟨some 16, .p (.len  (.t 15)), none, false⟩,
     ⟨some 17, .p (.bin .sub (.t 16) (.c (.int .i64 1))), none, false⟩,
     ⟨some 9, .p (.move  (.t 17)), none, false⟩])
   (.seq (.region false [⟨some 18, .p (.move  (.t 0)), none, false⟩,
      ⟨some 19, .p (.move  (.t 2)), none, false⟩,
      ⟨some 20, .call (.c (.func (.func n_spec_l03Powers) #[] #[])) [(.t 18), (.t 19)], none, false⟩,
      ⟨some 21, .p (.move  (.t 0)), none, false⟩,
      ⟨some 22, .p (.move  (.t 3)), none, false⟩,
      ⟨some 23, .call (.c (.func (.func n_spec_l03Powers) #[] #[])) [(.t 21), (.t 22)], none, false⟩,
      ⟨some 24, .p (.move  (.t 9)), none, false⟩,
      ⟨some 25, .p (.bin .add (.t 24) (.c (.int .i64 1))), none, false⟩,
      ⟨some 26, .make y_t_int64 1 8 [.int .i64 0] (.t 25), none, false⟩,
      ⟨some 10, .p (.move  (.t 20)), none, false⟩,
      ⟨some 11, .p (.move  (.t 23)), none, false⟩,
      ⟨some 12, .p (.move  (.t 26)), none, false⟩])
    (.seq (.seq (.region false [⟨some 13, .p (.move  (.c (.int .i64 0))), none, false⟩])
      (.block 0
       (.loop [0, 1, 9, 10, 11, 12, 13] [(.exit 0, [12])] l_spec_l03Put_1)))
     (.seq (.region false [⟨some 72, .p (.move  (.t 12)), none, false⟩,
        ⟨some 8, .p (.move  (.t 72)), none, false⟩])
      (.ret)))))
theorem c_spec_l03Put : FF n_spec_l03Put = some ⟨73, y_spec_l03Put.er, [.tmp 8]⟩ := by kernel_rfl
def p_spec_l03Put (a0 a1 a2 a3 : Value) (h : Hp) (R : Value → Hp → Prop) : Prop :=
  bindO (lenV  a1) fun v16 => bindO (binV .sub v16 (.int .i64 1)) fun v17 => CallW FF n_spec_l03Powers [a0, a2] h fun v20 h1 => CallW FF n_spec_l03Powers [a0, a3] h1 fun v23 h2 => bindO (binV .add v17 (.int .i64 1)) fun v25 => bindO (makN v25) fun c26 => newB h2 ⟨reps c26 [.int .i64 0], y_t_int64, true⟩ fun b26 h3 => LP FF (YC.er l_spec_l03Put_1) [0, 1, 9, 10, 11, 12, 13] [(.exit 0, [12], fun vs h4 => ∀ e : Env, [e 12] = vs → R (e 12) h4)] [a0, a1, v17, v20, v23, (.slice (some ⟨b26, 0, none⟩) c26 1), (.int .i64 0)] h3
theorem w_spec_l03Put {a0 a1 a2 a3 : Value} {h : Hp} {R : Value → Hp → Prop} (H : p_spec_l03Put a0 a1 a2 a3 h R) : CallW FF n_spec_l03Put [a0, a1, a2, a3] h R := callV_fin c_spec_l03Put (Eq.mp (by kernel_rfl) H)
def y_impl_mod : YC :=
  .seq (.region false [⟨some 4, .p (.move  (.c (.int .i64 0))), none, false⟩])
  (.seq (.region false [⟨some 5, .p (.move  (.t 0)), none, false⟩,
     ⟨some 6, .p (.move  (.t 1)), none, false⟩,
     ⟨some 7, .p (.bin .rem (.t 5) (.t 6)), none, false⟩,
     ⟨some 8, .p (.move  (.t 1)), none, false⟩,
     ⟨some 9, .p (.bin .add (.t 7) (.t 8)), none, false⟩,
     ⟨some 10, .p (.move  (.t 1)), none, false⟩,
     ⟨some 11, .p (.bin .rem (.t 9) (.t 10)), none, false⟩,
     ⟨some 4, .p (.move  (.t 11)), none, false⟩])
   (.ret))
theorem c_impl_mod : FF n_impl_mod = some ⟨12, y_impl_mod.er, [.tmp 4]⟩ := by kernel_rfl
def p_impl_mod (a0 a1 : Value) (h : Hp) (R : Value → Hp → Prop) : Prop :=
  bindO (binV .rem a0 a1) fun v7 => bindO (binV .add v7 a1) fun v9 => bindO (binV .rem v9 a1) fun v11 => R v11 h
theorem w_impl_mod {a0 a1 : Value} {h : Hp} {R : Value → Hp → Prop} (H : p_impl_mod a0 a1 h R) : CallW FF n_impl_mod [a0, a1] h R := callV_fin c_impl_mod (Eq.mp (by kernel_rfl) H)
def l_impl_Series_compose_0 : YC :=
  .seq (.seq (.region false [⟨some 11, .p (.move  (.t 6)), none, false⟩,
     ⟨some 12, .p (.bin .geq (.t 11) (.c (.int .i64 0))), none, false⟩])
   (.cond (.t 12)
    (.skip)
    (.exit 0)))
  (.seq (.block 1
    (.region true [⟨some 15, .load 2 true (.t 5), none, false⟩,
      ⟨some 16, .load 2 true (.t 3), none, false⟩,
      ⟨some 17, .call (.c (.func (.func n_impl_Series_times) #[] #[])) [(.t 15), (.t 16)], none, true⟩,
      ⟨some 18, .load 2 true (.t 2), none, true⟩,
      ⟨some 19, .p (.fieldAddr 1 (.t 2)), none, false⟩,
      ⟨some 20, .load 1 false (.t 19), none, true⟩,
      ⟨some 21, .p (.move  (.t 6)), none, false⟩,
      ⟨some 22, .p (.indexAddr 1 (.t 20) (.t 21)), none, false⟩,
      ⟨some 23, .load 1 false (.t 22), none, true⟩,
      ⟨some 24, .call (.c (.func (.func n_impl_Series_constant) #[] #[])) [(.t 18), (.t 23)], none, false⟩,
      ⟨some 25, .call (.c (.func (.func n_impl_Series_plus) #[] #[])) [(.t 17), (.t 24)], none, false⟩,
      ⟨none, .store 2 (.t 5) (.t 25), none, false⟩]))
   (.region false [⟨some 13, .p (.move  (.t 6)), none, false⟩,
     ⟨some 14, .p (.bin .sub (.t 13) (.c (.int .i64 1))), none, false⟩,
     ⟨some 6, .p (.move  (.t 14)), none, false⟩]))
def q_impl_Series_compose_0 (a2 a3 a4 a5 a6 : Value) (h : Hp) (K K0 : Kont) : Prop :=
  bindO (binV .geq a6 (.int .i64 0)) fun v12 => condM v12 (bindO (ldV 2 true h a5) fun v15 => bindO (ldV 2 true h a3) fun v16 => CallW FF n_impl_Series_times [v15, v16] h fun v17 h1 => keepB h.nx h h1 ∧ (inB h.nx a2 ∧ (bindO (ldV 2 true h1 a2) fun v18 => bindO (fieldAddrV 1 a2) fun v19 => inB h.nx v19 ∧ (bindO (ldV 1 false h1 v19) fun v20 => bindO (indexAddrV 1 v20 a6) fun v22 => inB h.nx v22 ∧ (bindO (ldV 1 false h1 v22) fun v23 => CallW FF n_impl_Series_constant [v18, v23] h1 fun v24 h2 => CallW FF n_impl_Series_plus [v17, v24] h2 fun v25 h3 => bindO (storeV 2 h3 v25 a5) fun h4 => bindO (binV .sub a6 (.int .i64 1)) fun v14 => K [a2, a3, a4, a5, v14] h4))))) (K0 [a4, a5] h)
theorem wl_impl_Series_compose_0 {a2 a3 a4 a5 a6 : Value} {h : Hp} {K K0 : Kont} (H : q_impl_Series_compose_0 a2 a3 a4 a5 a6 h K K0) : ∀ e : Env, [e 2, e 3, e 4, e 5, e 6] = [a2, a3, a4, a5, a6] → V FF l_impl_Series_compose_0 (qsel [2, 3, 4, 5, 6] K [(.exit 0, [4, 5], K0)]) ⟨e, h⟩ := by
  intro e he; cases he; exact Eq.mp (by kernel_rfl) H
def y_impl_Series_compose : YC :=
  .seq (.region false [⟨some 2, .box y_t_impl_Series 2 (.t 0), none, false⟩,
    ⟨some 3, .box y_t_impl_Series 2 (.t 1), none, false⟩,
    ⟨some 4, .box y_t_impl_Series 2 (.c (.agg #[.int .i64 0, .slice none 0 0])), none, false⟩])
  (.seq (.region false [⟨some 7, .load 2 true (.t 2), none, false⟩,
     ⟨some 8, .call (.c (.func (.func n_impl_Series_constant) #[] #[])) [(.t 7), (.c (.int .i64 0))], none, false⟩,
     ⟨some 5, .box y_t_impl_Series 2 (.c (.agg #[.int .i64 0, .slice none 0 0])), none, false⟩,
     ⟨none, .store 2 (.t 5) (.t 8), none, false⟩])
   (.seq (.seq (.region false [⟨some 9, .load 2 true (.t 2), none, false⟩,
       ⟨some 10, .call (.c (.func (.func n_impl_Series_degree) #[] #[])) [(.t 9)], none, false⟩,
       ⟨some 6, .p (.move  (.t 10)), none, false⟩])
     (.block 0
      (.loop [2, 3, 4, 5, 6] [(.exit 0, [4, 5])] l_impl_Series_compose_0)))
    (.seq (.region false [⟨some 26, .load 2 true (.t 5), none, false⟩,
       ⟨none, .store 2 (.t 4) (.t 26), none, false⟩])
     (.ret))))
theorem c_impl_Series_compose : FF n_impl_Series_compose = some ⟨27, y_impl_Series_compose.er, [.cell 4 2 true]⟩ := by kernel_rfl
def p_impl_Series_compose (a0 a1 : Value) (h : Hp) (R : Value → Hp → Prop) : Prop :=
  bindO (boxV 2 a0) fun c2 => newB h ⟨c2, y_t_impl_Series, true⟩ fun b2 h1 => bindO (boxV 2 a1) fun c3 => newB h1 ⟨c3, y_t_impl_Series, true⟩ fun b3 h2 => bindO (boxV 2 (.agg #[.int .i64 0, .slice none 0 0])) fun c4 => newB h2 ⟨c4, y_t_impl_Series, true⟩ fun b4 h3 => bindO (ldV 2 true h3 (.pointer (some ⟨b2, 0, none⟩))) fun v7 => CallW FF n_impl_Series_constant [v7, (.int .i64 0)] h3 fun v8 h4 => bindO (boxV 2 (.agg #[.int .i64 0, .slice none 0 0])) fun c5 => newB h4 ⟨c5, y_t_impl_Series, true⟩ fun b5 h5 => bindO (storeV 2 h5 v8 (.pointer (some ⟨b5, 0, none⟩))) fun h6 => bindO (ldV 2 true h6 (.pointer (some ⟨b2, 0, none⟩))) fun v9 => CallW FF n_impl_Series_degree [v9] h6 fun v10 h7 => LP FF (YC.er l_impl_Series_compose_0) [2, 3, 4, 5, 6] [(.exit 0, [4, 5], fun vs h8 => ∀ e : Env, [e 4, e 5] = vs → bindO (ldV 2 true h8 (e 5)) fun v26 => bindO (storeV 2 h8 v26 (e 4)) fun h9 => bindO (ldV 2 true h9 (e 4)) fun r4 => R r4 h9)] [(.pointer (some ⟨b2, 0, none⟩)), (.pointer (some ⟨b3, 0, none⟩)), (.pointer (some ⟨b4, 0, none⟩)), (.pointer (some ⟨b5, 0, none⟩)), v10] h7
theorem w_impl_Series_compose {a0 a1 : Value} {h : Hp} {R : Value → Hp → Prop} (H : p_impl_Series_compose a0 a1 h R) : CallW FF n_impl_Series_compose [a0, a1] h R := callV_fin c_impl_Series_compose (Eq.mp (by kernel_rfl) H)
def y_impl_Series_constant : YC :=
  .seq (.region false [⟨some 2, .box y_t_impl_Series 2 (.t 0), none, false⟩,
    ⟨some 4, .box y_t_impl_Series 2 (.c (.agg #[.int .i64 0, .slice none 0 0])), none, false⟩])
  (.seq (.region true [⟨some 6, .p (.fieldAddr 0 (.t 2)), none, false⟩,
     ⟨some 7, .load 1 false (.t 6), none, true⟩,
     ⟨some 8, .load 2 true (.t 2), none, false⟩,
     ⟨some 9, .call (.c (.func (.func n_impl_Series_degree) #[] #[])) [(.t 8)], none, true⟩,
     ⟨some 10, .call (.c (.func (.func n_impl_zero) #[] #[])) [(.t 7), (.t 9)], none, false⟩,
     ⟨some 5, .box y_t_impl_Series 2 (.c (.agg #[.int .i64 0, .slice none 0 0])), none, false⟩,
     ⟨none, .store 2 (.t 5) (.t 10), none, false⟩])
   (.seq (.region true [⟨some 11, .p (.fieldAddr 1 (.t 5)), none, false⟩,
      ⟨some 12, .load 1 false (.t 11), none, true⟩,
      ⟨some 13, .p (.move  (.t 1)), none, false⟩,
      ⟨some 14, .p (.fieldAddr 0 (.t 2)), none, false⟩,
      ⟨some 15, .load 1 false (.t 14), none, false⟩,
      ⟨some 16, .call (.c (.func (.func n_impl_mod) #[] #[])) [(.t 13), (.t 15)], none, true⟩,
      ⟨some 17, .p (.indexAddr 1 (.t 12) (.c (.int .i64 0))), none, false⟩,
      ⟨none, .store 1 (.t 17) (.t 16), none, false⟩])
    (.seq (.region false [⟨some 18, .load 2 true (.t 5), none, false⟩,
       ⟨none, .store 2 (.t 4) (.t 18), none, false⟩])
     (.ret))))
theorem c_impl_Series_constant : FF n_impl_Series_constant = some ⟨19, y_impl_Series_constant.er, [.cell 4 2 true]⟩ := by kernel_rfl
def p_impl_Series_constant (a0 a1 : Value) (h : Hp) (R : Value → Hp → Prop) : Prop :=
  bindO (boxV 2 a0) fun c2 => newB h ⟨c2, y_t_impl_Series, true⟩ fun b2 h1 => bindO (boxV 2 (.agg #[.int .i64 0, .slice none 0 0])) fun c4 => newB h1 ⟨c4, y_t_impl_Series, true⟩ fun b4 h2 => bindO (fieldAddrV 0 (.pointer (some ⟨b2, 0, none⟩))) fun v6 => inB h2.nx v6 ∧ (bindO (ldV 1 false h2 v6) fun v7 => bindO (ldV 2 true h2 (.pointer (some ⟨b2, 0, none⟩))) fun v8 => CallW FF n_impl_Series_degree [v8] h2 fun v9 h3 => keepB h2.nx h2 h3 ∧ (CallW FF n_impl_zero [v7, v9] h3 fun v10 h4 => bindO (boxV 2 (.agg #[.int .i64 0, .slice none 0 0])) fun c5 => newB h4 ⟨c5, y_t_impl_Series, true⟩ fun b5 h5 => bindO (storeV 2 h5 v10 (.pointer (some ⟨b5, 0, none⟩))) fun h6 => bindO (fieldAddrV 1 (.pointer (some ⟨b5, 0, none⟩))) fun v11 => inB h6.nx v11 ∧ (bindO (ldV 1 false h6 v11) fun v12 => bindO (fieldAddrV 0 (.pointer (some ⟨b2, 0, none⟩))) fun v14 => bindO (ldV 1 false h6 v14) fun v15 => CallW FF n_impl_mod [a1, v15] h6 fun v16 h7 => keepB h6.nx h6 h7 ∧ (bindO (indexAddrV 1 v12 (.int .i64 0)) fun v17 => bindO (storeV 1 h7 v16 v17) fun h8 => bindO (ldV 2 true h8 (.pointer (some ⟨b5, 0, none⟩))) fun v18 => bindO (storeV 2 h8 v18 (.pointer (some ⟨b4, 0, none⟩))) fun h9 => bindO (ldV 2 true h9 (.pointer (some ⟨b4, 0, none⟩))) fun r4 => R r4 h9))))
theorem w_impl_Series_constant {a0 a1 : Value} {h : Hp} {R : Value → Hp → Prop} (H : p_impl_Series_constant a0 a1 h R) : CallW FF n_impl_Series_constant [a0, a1] h R := callV_fin c_impl_Series_constant (Eq.mp (by kernel_rfl) H)
def l_impl_Series_powers_0 : YC :=
  .seq (.region false [⟨some 10, .p (.bin .lss (.t 9) (.t 8)), none, false⟩])
  (.seq (.cond (.t 10)
    (.skip)
    (.exit 0))
   (.seq (.block 1
     (.region false [⟨some 11, .p (.move  (.t 3)), none, false⟩,
       ⟨some 12, .p (.move  (.t 3)), none, false⟩,
       ⟨some 13, .p (.move  (.t 3)), none, false⟩,
       ⟨some 14, .p (.len  (.t 13)), none, false⟩,
       ⟨some 15, .p (.bin .sub (.t 14) (.c (.int .i64 1))), none, false⟩,
       ⟨some 16, .p (.indexAddr 2 (.t 12) (.t 15)), none, false⟩,
       ⟨some 17, .load 2 true (.t 16), none, false⟩,
       ⟨some 18, .load 2 true (.t 1), none, false⟩,
       ⟨some 19, .call (.c (.func (.func n_impl_Series_times) #[] #[])) [(.t 17), (.t 18)], none, false⟩,
       ⟨some 20, .mkrow y_t_impl_Series 2 1 [.int .i64 0, .slice none 0 0] [(0, (.t 19))], none, false⟩,
       ⟨some 21, .append y_t_impl_Series 2 32 (.t 11) (.t 20), none, false⟩,
       ⟨some 3, .p (.move  (.t 21)), none, false⟩]))
    (.region false [⟨some 22, .p (.bin .add (.t 9) (.c (.int .i64 1))), none, false⟩,
      ⟨some 9, .p (.move  (.t 22)), none, false⟩])))
def q_impl_Series_powers_0 (a1 a3 a8 a9 : Value) (h : Hp) (K K0 : Kont) : Prop :=
  bindO (binV .lss a9 a8) fun v10 => condM v10 (bindO (lenV  a3) fun v14 => bindO (binV .sub v14 (.int .i64 1)) fun v15 => bindO (indexAddrV 2 a3 v15) fun v16 => bindO (ldV 2 true h v16) fun v17 => bindO (ldV 2 true h a1) fun v18 => CallW FF n_impl_Series_times [v17, v18] h fun v19 h1 => bindO (rowV 2 1 [.int .i64 0, .slice none 0 0] [(0, v19)]) fun c20 => newB h1 ⟨c20, y_t_impl_Series, true⟩ fun b20 h2 => bindVH (appendV y_t_impl_Series 2 h2 a3 (.slice (some ⟨b20, 0, none⟩) 1 2)) fun v21 h3 => bindO (binV .add a9 (.int .i64 1)) fun v22 => K [a1, v21, a8, v22] h3) (K0 [a3] h)
theorem wl_impl_Series_powers_0 {a1 a3 a8 a9 : Value} {h : Hp} {K K0 : Kont} (H : q_impl_Series_powers_0 a1 a3 a8 a9 h K K0) : ∀ e : Env, [e 1, e 3, e 8, e 9] = [a1, a3, a8, a9] → V FF l_impl_Series_powers_0 (qsel [1, 3, 8, 9] K [(.exit 0, [3], K0)]) ⟨e, h⟩ := by
  intro e he; cases he; exact Eq.mp (by kernel_rfl) H
def y_impl_Series_powers : YC :=
  .seq (.region false [⟨some 1, .box y_t_impl_Series 2 (.t 0), none, false⟩,
    ⟨some 2, .p (.move  (.c (.slice none 0 0))), none, false⟩])
  (.seq (.region false [⟨some 4, .load 2 true (.t 1), none, false⟩,
     ⟨some 5, .call (.c (.func (.func n_impl_Series_constant) #[] #[])) [(.t 4), (.c (.int .i64 1))], none, false⟩,
     ⟨some 6, .mkrow y_t_impl_Series 2 1 [.int .i64 0, .slice none 0 0] [(0, (.t 5))], none, false⟩,
     ⟨some 3, .p (.move  (.t 6)), none, false⟩])
   (.seq (.seq (.region false [⟨some 7, .load 2 true (.t 1), none, false⟩,
       ⟨some 8, .call (.c (.func (.func n_impl_Series_degree) #[] #[])) [(.t 7)], none, false⟩,
       ⟨some 9, .p (.move  (.c (.int .i64 0))), none, false⟩])
     (.block 0
      (.loop [1, 3, 8, 9] [(.exit 0, [3])] l_impl_Series_powers_0)))
    (.seq (.region false [⟨some 23, .p (.move  (.t 3)), none, false⟩,
       ⟨some 2, .p (.move  (.t 23)), none, false⟩])
     (.ret))))
theorem c_impl_Series_powers : FF n_impl_Series_powers = some ⟨24, y_impl_Series_powers.er, [.tmp 2]⟩ := by kernel_rfl
def p_impl_Series_powers (a0 : Value) (h : Hp) (R : Value → Hp → Prop) : Prop :=
  bindO (boxV 2 a0) fun c1 => newB h ⟨c1, y_t_impl_Series, true⟩ fun b1 h1 => bindO (ldV 2 true h1 (.pointer (some ⟨b1, 0, none⟩))) fun v4 => CallW FF n_impl_Series_constant [v4, (.int .i64 1)] h1 fun v5 h2 => bindO (rowV 2 1 [.int .i64 0, .slice none 0 0] [(0, v5)]) fun c6 => newB h2 ⟨c6, y_t_impl_Series, true⟩ fun b6 h3 => bindO (ldV 2 true h3 (.pointer (some ⟨b1, 0, none⟩))) fun v7 => CallW FF n_impl_Series_degree [v7] h3 fun v8 h4 => LP FF (YC.er l_impl_Series_powers_0) [1, 3, 8, 9] [(.exit 0, [3], fun vs h5 => ∀ e : Env, [e 3] = vs → R (e 3) h5)] [(.pointer (some ⟨b1, 0, none⟩)), (.slice (some ⟨b6, 0, none⟩) 1 2), v8, (.int .i64 0)] h4
theorem w_impl_Series_powers {a0 : Value} {h : Hp} {R : Value → Hp → Prop} (H : p_impl_Series_powers a0 h R) : CallW FF n_impl_Series_powers [a0] h R := callV_fin c_impl_Series_powers (Eq.mp (by kernel_rfl) H)
def l_impl_Series_plus_0 : YC :=
  .seq (.region false [⟨some 16, .p (.bin .lss (.t 15) (.t 14)), none, false⟩])
  (.seq (.cond (.t 16)
    (.skip)
    (.exit 0))
   (.seq (.block 1
     (.seq (.region false [⟨some 17, .p (.move  (.t 15)), none, false⟩,
        ⟨some 6, .p (.move  (.t 17)), none, false⟩])
      (.region false [⟨some 18, .p (.fieldAddr 1 (.t 5)), none, false⟩,
        ⟨some 19, .load 1 false (.t 18), none, false⟩,
        ⟨some 20, .p (.move  (.t 6)), none, false⟩,
        ⟨some 21, .p (.fieldAddr 1 (.t 2)), none, false⟩,
        ⟨some 22, .load 1 false (.t 21), none, false⟩,
        ⟨some 23, .p (.move  (.t 6)), none, false⟩,
        ⟨some 24, .p (.indexAddr 1 (.t 22) (.t 23)), none, false⟩,
        ⟨some 25, .load 1 false (.t 24), none, false⟩,
        ⟨some 26, .p (.fieldAddr 1 (.t 3)), none, false⟩,
        ⟨some 27, .load 1 false (.t 26), none, false⟩,
        ⟨some 28, .p (.move  (.t 6)), none, false⟩,
        ⟨some 29, .p (.indexAddr 1 (.t 27) (.t 28)), none, false⟩,
        ⟨some 30, .load 1 false (.t 29), none, false⟩,
        ⟨some 31, .p (.bin .add (.t 25) (.t 30)), none, false⟩,
        ⟨some 32, .p (.fieldAddr 0 (.t 2)), none, false⟩,
        ⟨some 33, .load 1 false (.t 32), none, false⟩,
        ⟨some 34, .p (.bin .rem (.t 31) (.t 33)), none, false⟩,
        ⟨some 35, .p (.indexAddr 1 (.t 19) (.t 20)), none, false⟩,
        ⟨none, .store 1 (.t 35) (.t 34), none, false⟩])))
    (.region false [⟨some 36, .p (.bin .add (.t 15) (.c (.int .i64 1))), none, false⟩,
      ⟨some 15, .p (.move  (.t 36)), none, false⟩])))
def q_impl_Series_plus_0 (a2 a3 a4 a5 a14 a15 : Value) (h : Hp) (K K0 : Kont) : Prop :=
  bindO (binV .lss a15 a14) fun v16 => condM v16 (bindO (fieldAddrV 1 a5) fun v18 => bindO (ldV 1 false h v18) fun v19 => bindO (fieldAddrV 1 a2) fun v21 => bindO (ldV 1 false h v21) fun v22 => bindO (indexAddrV 1 v22 a15) fun v24 => bindO (ldV 1 false h v24) fun v25 => bindO (fieldAddrV 1 a3) fun v26 => bindO (ldV 1 false h v26) fun v27 => bindO (indexAddrV 1 v27 a15) fun v29 => bindO (ldV 1 false h v29) fun v30 => bindO (binV .add v25 v30) fun v31 => bindO (fieldAddrV 0 a2) fun v32 => bindO (ldV 1 false h v32) fun v33 => bindO (binV .rem v31 v33) fun v34 => bindO (indexAddrV 1 v19 a15) fun v35 => bindO (storeV 1 h v34 v35) fun h1 => bindO (binV .add a15 (.int .i64 1)) fun v36 => K [a2, a3, a4, a5, a14, v36] h1) (K0 [a4, a5] h)
theorem wl_impl_Series_plus_0 {a2 a3 a4 a5 a14 a15 : Value} {h : Hp} {K K0 : Kont} (H : q_impl_Series_plus_0 a2 a3 a4 a5 a14 a15 h K K0) : ∀ e : Env, [e 2, e 3, e 4, e 5, e 14, e 15] = [a2, a3, a4, a5, a14, a15] → V FF l_impl_Series_plus_0 (qsel [2, 3, 4, 5, 14, 15] K [(.exit 0, [4, 5], K0)]) ⟨e, h⟩ := by
  intro e he; cases he; exact Eq.mp (by kernel_rfl) H
def y_impl_Series_plus : YC :=
  .seq (.region false [⟨some 2, .box y_t_impl_Series 2 (.t 0), none, false⟩,
    ⟨some 3, .box y_t_impl_Series 2 (.t 1), none, false⟩,
    ⟨some 4, .box y_t_impl_Series 2 (.c (.agg #[.int .i64 0, .slice none 0 0])), none, false⟩])
  (.seq (.region true [⟨some 7, .p (.fieldAddr 0 (.t 2)), none, false⟩,
     ⟨some 8, .load 1 false (.t 7), none, true⟩,
     ⟨some 9, .load 2 true (.t 2), none, false⟩,
     ⟨some 10, .call (.c (.func (.func n_impl_Series_degree) #[] #[])) [(.t 9)], none, true⟩,
     ⟨some 11, .call (.c (.func (.func n_impl_zero) #[] #[])) [(.t 8), (.t 10)], none, false⟩,
     ⟨some 5, .box y_t_impl_Series 2 (.c (.agg #[.int .i64 0, .slice none 0 0])), none, false⟩,
     ⟨none, .store 2 (.t 5) (.t 11), none, false⟩])
   (.seq (.seq (.region false [⟨some 12, .p (.fieldAddr 1 (.t 5)), none, false⟩,
       ⟨some 13, .load 1 false (.t 12), none, false⟩,
       ⟨some 14, .p (.len  (.t 13)), none, false⟩,
       ⟨some 15, .p (.move  (.c (.int .i64 0))), none, false⟩])
     (.block 0
      (.loop [2, 3, 4, 5, 14, 15] [(.exit 0, [4, 5])] l_impl_Series_plus_0)))
    (.seq (.region false [⟨some 37, .load 2 true (.t 5), none, false⟩,
       ⟨none, .store 2 (.t 4) (.t 37), none, false⟩])
     (.ret))))
theorem c_impl_Series_plus : FF n_impl_Series_plus = some ⟨38, y_impl_Series_plus.er, [.cell 4 2 true]⟩ := by kernel_rfl
def p_impl_Series_plus (a0 a1 : Value) (h : Hp) (R : Value → Hp → Prop) : Prop :=
  bindO (boxV 2 a0) fun c2 => newB h ⟨c2, y_t_impl_Series, true⟩ fun b2 h1 => bindO (boxV 2 a1) fun c3 => newB h1 ⟨c3, y_t_impl_Series, true⟩ fun b3 h2 => bindO (boxV 2 (.agg #[.int .i64 0, .slice none 0 0])) fun c4 => newB h2 ⟨c4, y_t_impl_Series, true⟩ fun b4 h3 => bindO (fieldAddrV 0 (.pointer (some ⟨b2, 0, none⟩))) fun v7 => inB h3.nx v7 ∧ (bindO (ldV 1 false h3 v7) fun v8 => bindO (ldV 2 true h3 (.pointer (some ⟨b2, 0, none⟩))) fun v9 => CallW FF n_impl_Series_degree [v9] h3 fun v10 h4 => keepB h3.nx h3 h4 ∧ (CallW FF n_impl_zero [v8, v10] h4 fun v11 h5 => bindO (boxV 2 (.agg #[.int .i64 0, .slice none 0 0])) fun c5 => newB h5 ⟨c5, y_t_impl_Series, true⟩ fun b5 h6 => bindO (storeV 2 h6 v11 (.pointer (some ⟨b5, 0, none⟩))) fun h7 => bindO (fieldAddrV 1 (.pointer (some ⟨b5, 0, none⟩))) fun v12 => bindO (ldV 1 false h7 v12) fun v13 => bindO (lenV  v13) fun v14 => LP FF (YC.er l_impl_Series_plus_0) [2, 3, 4, 5, 14, 15] [(.exit 0, [4, 5], fun vs h8 => ∀ e : Env, [e 4, e 5] = vs → bindO (ldV 2 true h8 (e 5)) fun v37 => bindO (storeV 2 h8 v37 (e 4)) fun h9 => bindO (ldV 2 true h9 (e 4)) fun r4 => R r4 h9)] [(.pointer (some ⟨b2, 0, none⟩)), (.pointer (some ⟨b3, 0, none⟩)), (.pointer (some ⟨b4, 0, none⟩)), (.pointer (some ⟨b5, 0, none⟩)), v14, (.int .i64 0)] h7))
theorem w_impl_Series_plus {a0 a1 : Value} {h : Hp} {R : Value → Hp → Prop} (H : p_impl_Series_plus a0 a1 h R) : CallW FF n_impl_Series_plus [a0, a1] h R := callV_fin c_impl_Series_plus (Eq.mp (by kernel_rfl) H)
def l_impl_Series_times_0 : YC :=
  .seq (.region false [⟨some 33, .p (.bin .lss (.t 32) (.t 31)), none, false⟩])
  (.seq (.cond (.t 33)
    (.skip)
    (.exit 2))
   (.seq (.block 3
     (.seq (.region false [⟨some 34, .p (.move  (.t 32)), none, false⟩,
        ⟨some 35, .p (.indexAddr 1 (.t 30) (.t 32)), none, false⟩,
        ⟨some 36, .load 1 false (.t 35), none, false⟩,
        ⟨some 8, .p (.move  (.t 34)), none, false⟩,
        ⟨some 9, .p (.move  (.t 36)), none, false⟩])
      (.region true [⟨some 37, .p (.fieldAddr 1 (.t 5)), none, false⟩,
        ⟨some 38, .load 1 false (.t 37), none, true⟩,
        ⟨some 39, .p (.move  (.t 6)), none, false⟩,
        ⟨some 40, .p (.move  (.t 8)), none, false⟩,
        ⟨some 41, .p (.bin .add (.t 39) (.t 40)), none, false⟩,
        ⟨some 42, .p (.fieldAddr 1 (.t 5)), none, false⟩,
        ⟨some 43, .load 1 false (.t 42), none, true⟩,
        ⟨some 44, .p (.move  (.t 6)), none, false⟩,
        ⟨some 45, .p (.move  (.t 8)), none, false⟩,
        ⟨some 46, .p (.bin .add (.t 44) (.t 45)), none, false⟩,
        ⟨some 47, .p (.indexAddr 1 (.t 43) (.t 46)), none, false⟩,
        ⟨some 48, .load 1 false (.t 47), none, true⟩,
        ⟨some 49, .p (.fieldAddr 0 (.t 2)), none, false⟩,
        ⟨some 50, .load 1 false (.t 49), none, false⟩,
        ⟨some 51, .p (.move  (.t 7)), none, false⟩,
        ⟨some 52, .p (.move  (.t 9)), none, false⟩,
        ⟨some 53, .call (.c (.func (.func n_impl_mul) #[] #[])) [(.t 50), (.t 51), (.t 52)], none, true⟩,
        ⟨some 54, .p (.bin .add (.t 48) (.t 53)), none, false⟩,
        ⟨some 55, .p (.fieldAddr 0 (.t 2)), none, false⟩,
        ⟨some 56, .load 1 false (.t 55), none, true⟩,
        ⟨some 57, .p (.bin .rem (.t 54) (.t 56)), none, false⟩,
        ⟨some 58, .p (.indexAddr 1 (.t 38) (.t 41)), none, false⟩,
        ⟨none, .store 1 (.t 58) (.t 57), none, false⟩])))
    (.region false [⟨some 59, .p (.bin .add (.t 32) (.c (.int .i64 1))), none, false⟩,
      ⟨some 32, .p (.move  (.t 59)), none, false⟩])))
def q_impl_Series_times_0 (a2 a3 a4 a5 a6 a7 a16 a17 a18 a30 a31 a32 : Value) (h : Hp) (K K0 : Kont) : Prop :=
  bindO (binV .lss a32 a31) fun v33 => condM v33 (bindO (indexAddrV 1 a30 a32) fun v35 => bindO (ldV 1 false h v35) fun v36 => bindO (fieldAddrV 1 a5) fun v37 => inB h.nx v37 ∧ (bindO (ldV 1 false h v37) fun v38 => bindO (binV .add a6 a32) fun v41 => bindO (fieldAddrV 1 a5) fun v42 => inB h.nx v42 ∧ (bindO (ldV 1 false h v42) fun v43 => bindO (binV .add a6 a32) fun v46 => bindO (indexAddrV 1 v43 v46) fun v47 => inB h.nx v47 ∧ (bindO (ldV 1 false h v47) fun v48 => bindO (fieldAddrV 0 a2) fun v49 => bindO (ldV 1 false h v49) fun v50 => CallW FF n_impl_mul [v50, a7, v36] h fun v53 h1 => keepB h.nx h h1 ∧ (bindO (binV .add v48 v53) fun v54 => bindO (fieldAddrV 0 a2) fun v55 => inB h.nx v55 ∧ (bindO (ldV 1 false h1 v55) fun v56 => bindO (binV .rem v54 v56) fun v57 => bindO (indexAddrV 1 v38 v41) fun v58 => bindO (storeV 1 h1 v57 v58) fun h2 => bindO (binV .add a32 (.int .i64 1)) fun v59 => K [a2, a3, a4, a5, a6, a7, a16, a17, a18, a30, a31, v59] h2)))))) (K0 [a2, a3, a4, a5, a16, a17, a18] h)
theorem wl_impl_Series_times_0 {a2 a3 a4 a5 a6 a7 a16 a17 a18 a30 a31 a32 : Value} {h : Hp} {K K0 : Kont} (H : q_impl_Series_times_0 a2 a3 a4 a5 a6 a7 a16 a17 a18 a30 a31 a32 h K K0) : ∀ e : Env, [e 2, e 3, e 4, e 5, e 6, e 7, e 16, e 17, e 18, e 30, e 31, e 32] = [a2, a3, a4, a5, a6, a7, a16, a17, a18, a30, a31, a32] → V FF l_impl_Series_times_0 (qsel [2, 3, 4, 5, 6, 7, 16, 17, 18, 30, 31, 32] K [(.exit 2, [2, 3, 4, 5, 16, 17, 18], K0)]) ⟨e, h⟩ := by
  intro e he; cases he; exact Eq.mp (by kernel_rfl) H
def l_impl_Series_times_1 : YC :=
  .seq (.region false [⟨some 19, .p (.bin .lss (.t 18) (.t 17)), none, false⟩])
  (.seq (.cond (.t 19)
    (.skip)
    (.exit 0))
   (.seq (.block 1
     (.seq (.region false [⟨some 20, .p (.move  (.t 18)), none, false⟩,
        ⟨some 21, .p (.indexAddr 1 (.t 16) (.t 18)), none, false⟩,
        ⟨some 22, .load 1 false (.t 21), none, false⟩,
        ⟨some 6, .p (.move  (.t 20)), none, false⟩,
        ⟨some 7, .p (.move  (.t 22)), none, false⟩])
      (.seq (.region false [⟨some 23, .p (.fieldAddr 1 (.t 3)), none, false⟩,
         ⟨some 24, .load 1 false (.t 23), none, false⟩,
         ⟨some 25, .p (.fieldAddr 1 (.t 3)), none, false⟩,
         ⟨some 26, .load 1 false (.t 25), none, false⟩,
         ⟨some 27, .p (.len  (.t 26)), none, false⟩,
         ⟨some 28, .p (.move  (.t 6)), none, false⟩,
         ⟨some 29, .p (.bin .sub (.t 27) (.t 28)), none, false⟩,
         ⟨some 30, .p (.slice 1 (.t 24) none (some (.t 29))), none, false⟩,
         ⟨some 31, .p (.len  (.t 30)), none, false⟩,
         ⟨some 32, .p (.move  (.c (.int .i64 0))), none, false⟩])
       (.block 2
        (.loop [2, 3, 4, 5, 6, 7, 16, 17, 18, 30, 31, 32] [(.exit 2, [2, 3, 4, 5, 16, 17, 18])] l_impl_Series_times_0)))))
    (.region false [⟨some 60, .p (.bin .add (.t 18) (.c (.int .i64 1))), none, false⟩,
      ⟨some 18, .p (.move  (.t 60)), none, false⟩])))
def q_impl_Series_times_1 (a2 a3 a4 a5 a16 a17 a18 : Value) (h : Hp) (K K0 : Kont) : Prop :=
  bindO (binV .lss a18 a17) fun v19 => condM v19 (bindO (indexAddrV 1 a16 a18) fun v21 => bindO (ldV 1 false h v21) fun v22 => bindO (fieldAddrV 1 a3) fun v23 => bindO (ldV 1 false h v23) fun v24 => bindO (fieldAddrV 1 a3) fun v25 => bindO (ldV 1 false h v25) fun v26 => bindO (lenV  v26) fun v27 => bindO (binV .sub v27 a18) fun v29 => bindO (sliceV 1 none (some v29) v24) fun v30 => bindO (lenV  v30) fun v31 => LP FF (YC.er l_impl_Series_times_0) [2, 3, 4, 5, 6, 7, 16, 17, 18, 30, 31, 32] [(.exit 2, [2, 3, 4, 5, 16, 17, 18], fun vs h1 => ∀ e : Env, [e 2, e 3, e 4, e 5, e 16, e 17, e 18] = vs → bindO (binV .add (e 18) (.int .i64 1)) fun v60 => K [(e 2), (e 3), (e 4), (e 5), (e 16), (e 17), v60] h1)] [a2, a3, a4, a5, a18, v22, a16, a17, a18, v30, v31, (.int .i64 0)] h) (K0 [a4, a5] h)
theorem wl_impl_Series_times_1 {a2 a3 a4 a5 a16 a17 a18 : Value} {h : Hp} {K K0 : Kont} (H : q_impl_Series_times_1 a2 a3 a4 a5 a16 a17 a18 h K K0) : ∀ e : Env, [e 2, e 3, e 4, e 5, e 16, e 17, e 18] = [a2, a3, a4, a5, a16, a17, a18] → V FF l_impl_Series_times_1 (qsel [2, 3, 4, 5, 16, 17, 18] K [(.exit 0, [4, 5], K0)]) ⟨e, h⟩ := by
  intro e he; cases he; exact Eq.mp (by kernel_rfl) H
def y_impl_Series_times : YC :=
  .seq (.region false [⟨some 2, .box y_t_impl_Series 2 (.t 0), none, false⟩,
    ⟨some 3, .box y_t_impl_Series 2 (.t 1), none, false⟩,
    ⟨some 4, .box y_t_impl_Series 2 (.c (.agg #[.int .i64 0, .slice none 0 0])), none, false⟩])
  (.seq (.region true [⟨some 10, .p (.fieldAddr 0 (.t 2)), none, false⟩,
     ⟨some 11, .load 1 false (.t 10), none, true⟩,
     ⟨some 12, .load 2 true (.t 2), none, false⟩,
     ⟨some 13, .call (.c (.func (.func n_impl_Series_degree) #[] #[])) [(.t 12)], none, true⟩,
     ⟨some 14, .call (.c (.func (.func n_impl_zero) #[] #[])) [(.t 11), (.t 13)], none, false⟩,
     ⟨some 5, .box y_t_impl_Series 2 (.c (.agg #[.int .i64 0, .slice none 0 0])), none, false⟩,
     ⟨none, .store 2 (.t 5) (.t 14), none, false⟩])
   (.seq (.seq (.region false [⟨some 15, .p (.fieldAddr 1 (.t 2)), none, false⟩,
       ⟨some 16, .load 1 false (.t 15), none, false⟩,
       ⟨some 17, .p (.len  (.t 16)), none, false⟩,
       ⟨some 18, .p (.move  (.c (.int .i64 0))), none, false⟩])
     (.block 0
      (.loop [2, 3, 4, 5, 16, 17, 18] [(.exit 0, [4, 5])] l_impl_Series_times_1)))
    (.seq (.region false [⟨some 61, .load 2 true (.t 5), none, false⟩,
       ⟨none, .store 2 (.t 4) (.t 61), none, false⟩])
     (.ret))))
theorem c_impl_Series_times : FF n_impl_Series_times = some ⟨62, y_impl_Series_times.er, [.cell 4 2 true]⟩ := by kernel_rfl
def p_impl_Series_times (a0 a1 : Value) (h : Hp) (R : Value → Hp → Prop) : Prop :=
  bindO (boxV 2 a0) fun c2 => newB h ⟨c2, y_t_impl_Series, true⟩ fun b2 h1 => bindO (boxV 2 a1) fun c3 => newB h1 ⟨c3, y_t_impl_Series, true⟩ fun b3 h2 => bindO (boxV 2 (.agg #[.int .i64 0, .slice none 0 0])) fun c4 => newB h2 ⟨c4, y_t_impl_Series, true⟩ fun b4 h3 => bindO (fieldAddrV 0 (.pointer (some ⟨b2, 0, none⟩))) fun v10 => inB h3.nx v10 ∧ (bindO (ldV 1 false h3 v10) fun v11 => bindO (ldV 2 true h3 (.pointer (some ⟨b2, 0, none⟩))) fun v12 => CallW FF n_impl_Series_degree [v12] h3 fun v13 h4 => keepB h3.nx h3 h4 ∧ (CallW FF n_impl_zero [v11, v13] h4 fun v14 h5 => bindO (boxV 2 (.agg #[.int .i64 0, .slice none 0 0])) fun c5 => newB h5 ⟨c5, y_t_impl_Series, true⟩ fun b5 h6 => bindO (storeV 2 h6 v14 (.pointer (some ⟨b5, 0, none⟩))) fun h7 => bindO (fieldAddrV 1 (.pointer (some ⟨b2, 0, none⟩))) fun v15 => bindO (ldV 1 false h7 v15) fun v16 => bindO (lenV  v16) fun v17 => LP FF (YC.er l_impl_Series_times_1) [2, 3, 4, 5, 16, 17, 18] [(.exit 0, [4, 5], fun vs h8 => ∀ e : Env, [e 4, e 5] = vs → bindO (ldV 2 true h8 (e 5)) fun v61 => bindO (storeV 2 h8 v61 (e 4)) fun h9 => bindO (ldV 2 true h9 (e 4)) fun r4 => R r4 h9)] [(.pointer (some ⟨b2, 0, none⟩)), (.pointer (some ⟨b3, 0, none⟩)), (.pointer (some ⟨b4, 0, none⟩)), (.pointer (some ⟨b5, 0, none⟩)), v16, v17, (.int .i64 0)] h7))
theorem w_impl_Series_times {a0 a1 : Value} {h : Hp} {R : Value → Hp → Prop} (H : p_impl_Series_times a0 a1 h R) : CallW FF n_impl_Series_times [a0, a1] h R := callV_fin c_impl_Series_times (Eq.mp (by kernel_rfl) H)
def l_impl_Series_scaled_0 : YC :=
  .seq (.region false [⟨some 17, .p (.bin .lss (.t 16) (.t 15)), none, false⟩])
  (.seq (.cond (.t 17)
    (.skip)
    (.exit 0))
   (.seq (.block 1
     (.seq (.region false [⟨some 18, .p (.move  (.t 16)), none, false⟩,
        ⟨some 19, .p (.indexAddr 1 (.t 14) (.t 16)), none, false⟩,
        ⟨some 20, .load 1 false (.t 19), none, false⟩,
        ⟨some 6, .p (.move  (.t 18)), none, false⟩,
        ⟨some 7, .p (.move  (.t 20)), none, false⟩])
      (.region true [⟨some 21, .p (.fieldAddr 1 (.t 5)), none, false⟩,
        ⟨some 22, .load 1 false (.t 21), none, true⟩,
        ⟨some 23, .p (.move  (.t 6)), none, false⟩,
        ⟨some 24, .p (.fieldAddr 0 (.t 2)), none, false⟩,
        ⟨some 25, .load 1 false (.t 24), none, true⟩,
        ⟨some 26, .p (.move  (.t 1)), none, false⟩,
        ⟨some 27, .p (.fieldAddr 0 (.t 2)), none, false⟩,
        ⟨some 28, .load 1 false (.t 27), none, false⟩,
        ⟨some 29, .call (.c (.func (.func n_impl_mod) #[] #[])) [(.t 26), (.t 28)], none, true⟩,
        ⟨some 30, .p (.move  (.t 7)), none, false⟩,
        ⟨some 31, .call (.c (.func (.func n_impl_mul) #[] #[])) [(.t 25), (.t 29), (.t 30)], none, true⟩,
        ⟨some 32, .p (.indexAddr 1 (.t 22) (.t 23)), none, false⟩,
        ⟨none, .store 1 (.t 32) (.t 31), none, false⟩])))
    (.region false [⟨some 33, .p (.bin .add (.t 16) (.c (.int .i64 1))), none, false⟩,
      ⟨some 16, .p (.move  (.t 33)), none, false⟩])))
def q_impl_Series_scaled_0 (a1 a2 a4 a5 a14 a15 a16 : Value) (h : Hp) (K K0 : Kont) : Prop :=
  bindO (binV .lss a16 a15) fun v17 => condM v17 (bindO (indexAddrV 1 a14 a16) fun v19 => bindO (ldV 1 false h v19) fun v20 => bindO (fieldAddrV 1 a5) fun v21 => inB h.nx v21 ∧ (bindO (ldV 1 false h v21) fun v22 => bindO (fieldAddrV 0 a2) fun v24 => inB h.nx v24 ∧ (bindO (ldV 1 false h v24) fun v25 => bindO (fieldAddrV 0 a2) fun v27 => bindO (ldV 1 false h v27) fun v28 => CallW FF n_impl_mod [a1, v28] h fun v29 h1 => keepB h.nx h h1 ∧ (CallW FF n_impl_mul [v25, v29, v20] h1 fun v31 h2 => keepB h.nx h1 h2 ∧ (bindO (indexAddrV 1 v22 a16) fun v32 => bindO (storeV 1 h2 v31 v32) fun h3 => bindO (binV .add a16 (.int .i64 1)) fun v33 => K [a1, a2, a4, a5, a14, a15, v33] h3))))) (K0 [a4, a5] h)
theorem wl_impl_Series_scaled_0 {a1 a2 a4 a5 a14 a15 a16 : Value} {h : Hp} {K K0 : Kont} (H : q_impl_Series_scaled_0 a1 a2 a4 a5 a14 a15 a16 h K K0) : ∀ e : Env, [e 1, e 2, e 4, e 5, e 14, e 15, e 16] = [a1, a2, a4, a5, a14, a15, a16] → V FF l_impl_Series_scaled_0 (qsel [1, 2, 4, 5, 14, 15, 16] K [(.exit 0, [4, 5], K0)]) ⟨e, h⟩ := by
  intro e he; cases he; exact Eq.mp (by kernel_rfl) H
def y_impl_Series_scaled : YC :=
  .seq (.region false [⟨some 2, .box y_t_impl_Series 2 (.t 0), none, false⟩,
    ⟨some 4, .box y_t_impl_Series 2 (.c (.agg #[.int .i64 0, .slice none 0 0])), none, false⟩])
  (.seq (.region true [⟨some 8, .p (.fieldAddr 0 (.t 2)), none, false⟩,
     ⟨some 9, .load 1 false (.t 8), none, true⟩,
     ⟨some 10, .load 2 true (.t 2), none, false⟩,
     ⟨some 11, .call (.c (.func (.func n_impl_Series_degree) #[] #[])) [(.t 10)], none, true⟩,
     ⟨some 12, .call (.c (.func (.func n_impl_zero) #[] #[])) [(.t 9), (.t 11)], none, false⟩,
     ⟨some 5, .box y_t_impl_Series 2 (.c (.agg #[.int .i64 0, .slice none 0 0])), none, false⟩,
     ⟨none, .store 2 (.t 5) (.t 12), none, false⟩])
   (.seq (.seq (.region false [⟨some 13, .p (.fieldAddr 1 (.t 2)), none, false⟩,
       ⟨some 14, .load 1 false (.t 13), none, false⟩,
       ⟨some 15, .p (.len  (.t 14)), none, false⟩,
       ⟨some 16, .p (.move  (.c (.int .i64 0))), none, false⟩])
     (.block 0
      (.loop [1, 2, 4, 5, 14, 15, 16] [(.exit 0, [4, 5])] l_impl_Series_scaled_0)))
    (.seq (.region false [⟨some 34, .load 2 true (.t 5), none, false⟩,
       ⟨none, .store 2 (.t 4) (.t 34), none, false⟩])
     (.ret))))
theorem c_impl_Series_scaled : FF n_impl_Series_scaled = some ⟨35, y_impl_Series_scaled.er, [.cell 4 2 true]⟩ := by kernel_rfl
def p_impl_Series_scaled (a0 a1 : Value) (h : Hp) (R : Value → Hp → Prop) : Prop :=
  bindO (boxV 2 a0) fun c2 => newB h ⟨c2, y_t_impl_Series, true⟩ fun b2 h1 => bindO (boxV 2 (.agg #[.int .i64 0, .slice none 0 0])) fun c4 => newB h1 ⟨c4, y_t_impl_Series, true⟩ fun b4 h2 => bindO (fieldAddrV 0 (.pointer (some ⟨b2, 0, none⟩))) fun v8 => inB h2.nx v8 ∧ (bindO (ldV 1 false h2 v8) fun v9 => bindO (ldV 2 true h2 (.pointer (some ⟨b2, 0, none⟩))) fun v10 => CallW FF n_impl_Series_degree [v10] h2 fun v11 h3 => keepB h2.nx h2 h3 ∧ (CallW FF n_impl_zero [v9, v11] h3 fun v12 h4 => bindO (boxV 2 (.agg #[.int .i64 0, .slice none 0 0])) fun c5 => newB h4 ⟨c5, y_t_impl_Series, true⟩ fun b5 h5 => bindO (storeV 2 h5 v12 (.pointer (some ⟨b5, 0, none⟩))) fun h6 => bindO (fieldAddrV 1 (.pointer (some ⟨b2, 0, none⟩))) fun v13 => bindO (ldV 1 false h6 v13) fun v14 => bindO (lenV  v14) fun v15 => LP FF (YC.er l_impl_Series_scaled_0) [1, 2, 4, 5, 14, 15, 16] [(.exit 0, [4, 5], fun vs h7 => ∀ e : Env, [e 4, e 5] = vs → bindO (ldV 2 true h7 (e 5)) fun v34 => bindO (storeV 2 h7 v34 (e 4)) fun h8 => bindO (ldV 2 true h8 (e 4)) fun r4 => R r4 h8)] [a1, (.pointer (some ⟨b2, 0, none⟩)), (.pointer (some ⟨b4, 0, none⟩)), (.pointer (some ⟨b5, 0, none⟩)), v14, v15, (.int .i64 0)] h6))
theorem w_impl_Series_scaled {a0 a1 : Value} {h : Hp} {R : Value → Hp → Prop} (H : p_impl_Series_scaled a0 a1 h R) : CallW FF n_impl_Series_scaled [a0, a1] h R := callV_fin c_impl_Series_scaled (Eq.mp (by kernel_rfl) H)
def y_spec_l04With : YC :=
  .seq (.region false [⟨some 6, .box y_t_impl_Plane 2 (.c (.agg #[.int .i64 0, .slice none 0 0])), none, false⟩])
  (.seq (.region false [⟨some 8, .p (.move  (.t 0)), none, false⟩,
     ⟨some 9, .p (.move  (.t 1)), none, false⟩,
     ⟨some 10, .p (.move  (.t 2)), none, false⟩,
     ⟨some 11, .call (.c (.func (.func n_spec_l08Any) #[] #[])) [(.t 8), (.t 9), (.t 10)], none, false⟩,
     ⟨some 7, .p (.move  (.t 11)), none, false⟩])
   (.seq (.seq (.region false [⟨some 12, .p (.move  (.t 0)), none, false⟩,
       ⟨some 13, .call (.c (.func (.func n_spec_l01Next) #[] #[])) [(.t 12), (.c (.int .i64 3))], none, false⟩,
       ⟨some 14, .p (.bin .gtr (.t 13) (.c (.int .i64 0))), none, false⟩])
     (.cond (.t 14)
      (.region false [⟨some 15, .p (.move  (.t 1)), none, false⟩,
        ⟨some 16, .p (.move  (.t 7)), none, false⟩,
        ⟨some 17, .p (.move  (.t 0)), none, false⟩,
        ⟨some 18, .p (.move  (.t 1)), none, false⟩,
        ⟨some 19, .p (.move  (.t 2)), none, false⟩,
        ⟨some 20, .call (.c (.func (.func n_spec_l04DrawCurve) #[] #[])) [(.t 17), (.t 18), (.t 19)], none, false⟩,
        ⟨some 21, .call (.c (.func (.func n_spec_l06Conjugate) #[] #[])) [(.t 15), (.t 16), (.t 20)], none, false⟩,
        ⟨some 7, .p (.move  (.t 21)), none, false⟩])
      (.skip)))
    (.seq (.region false [⟨some 22, .p (.move  (.t 1)), none, false⟩,
       ⟨some 23, .p (.move  (.t 7)), none, false⟩,
       ⟨some 24, .call (.c (.func (.func n_spec_l03Make) #[] #[])) [(.t 22), (.t 23)], none, false⟩,
       ⟨none, .store 2 (.t 6) (.t 24), none, false⟩])
     (.ret))))
theorem c_spec_l04With : FF n_spec_l04With = some ⟨25, y_spec_l04With.er, [.cell 6 2 true]⟩ := by kernel_rfl
def p_spec_l04With (a0 a1 a2 : Value) (h : Hp) (R : Value → Hp → Prop) : Prop :=
  bindO (boxV 2 (.agg #[.int .i64 0, .slice none 0 0])) fun c6 => newB h ⟨c6, y_t_impl_Plane, true⟩ fun b6 h1 => CallW FF n_spec_l08Any [a0, a1, a2] h1 fun v11 h2 => CallW FF n_spec_l01Next [a0, (.int .i64 3)] h2 fun v13 h3 => bindO (binV .gtr v13 (.int .i64 0)) fun v14 => condM v14 (CallW FF n_spec_l04DrawCurve [a0, a1, a2] h3 fun v20 h4 => CallW FF n_spec_l06Conjugate [a1, v11, v20] h4 fun v21 h5 => CallW FF n_spec_l03Make [a1, v21] h5 fun v24 h6 => bindO (storeV 2 h6 v24 (.pointer (some ⟨b6, 0, none⟩))) fun h7 => bindO (ldV 2 true h7 (.pointer (some ⟨b6, 0, none⟩))) fun r6 => R r6 h7) (CallW FF n_spec_l03Make [a1, v11] h3 fun v24 h4 => bindO (storeV 2 h4 v24 (.pointer (some ⟨b6, 0, none⟩))) fun h5 => bindO (ldV 2 true h5 (.pointer (some ⟨b6, 0, none⟩))) fun r6 => R r6 h5)
theorem w_spec_l04With {a0 a1 a2 : Value} {h : Hp} {R : Value → Hp → Prop} (H : p_spec_l04With a0 a1 a2 h R) : CallW FF n_spec_l04With [a0, a1, a2] h R := callV_fin c_spec_l04With (Eq.mp (by kernel_rfl) H)
end XM
