/- What is proved at the end: for every input FnPointSums returns true and its argument reads as it did; without condition. Part 3 of 7. -/
import Derived.Test.YtiicfnongikeeaaGreatXb

set_option linter.unusedSimpArgs false
set_option linter.unusedVariables false
/- Functions of the translation in the code of the abstract machine. -/
namespace XM
open Go Z
def l_impl_Series_times_0 : YC :=
  .seq (.region false [p 33 (.bin .lss 32 31)])
 (.seq (.cond 33
 (.skip)
 (.exit 2))
 (.seq (.block 3
 (.seq (.region false [m 34 32,
  p 35 (.indexAddr 1 30 32),
  o 36 (.load 1 false 35),
  m 8 34,
  m 9 36])
 (.region true [p 37 (.fieldAddr 1 5),
  ⟨some 38, .load 1 false 37, none, true⟩,
  m 39 6,
  m 40 8,
  p 41 (.bin .add 39 40),
  p 42 (.fieldAddr 1 5),
  ⟨some 43, .load 1 false 42, none, true⟩,
  m 44 6,
  m 45 8,
  p 46 (.bin .add 44 45),
  p 47 (.indexAddr 1 43 46),
  ⟨some 48, .load 1 false 47, none, true⟩,
  p 49 (.fieldAddr 0 2),
  o 50 (.load 1 false 49),
  m 51 7,
  m 52 9,
  ⟨some 53, cl n_impl_mul [50, 51, 52], none, true⟩,
  p 54 (.bin .add 48 53),
  p 55 (.fieldAddr 0 2),
  ⟨some 56, .load 1 false 55, none, true⟩,
  p 57 (.bin .rem 54 56),
  p 58 (.indexAddr 1 38 41),
  e (.store 1 58 57)])))
 (.region false [p 59 (.bin .add 32 (k 1)),
  m 32 59])))
def q_impl_Series_times_0 (a2 a3 a4 a5 a6 a7 a16 a17 a18 a30 a31 a32 : Value) (h : Hp) (K K0 : Kont) : Prop :=
  bindO (binV .lss a32 a31) fun v33 => condM v33 (bindO (indexAddrV 1 a30 a32) fun v35 => bindO (ldV 1 false h v35) fun v36 => bindO (fieldAddrV 1 a5) fun v37 => inB h.nx v37 ∧ (bindO (ldV 1 false h v37) fun v38 => bindO (binV .add a6 a32) fun v41 => bindO (fieldAddrV 1 a5) fun v42 => inB h.nx v42 ∧ (bindO (ldV 1 false h v42) fun v43 => bindO (binV .add a6 a32) fun v46 => bindO (indexAddrV 1 v43 v46) fun v47 => inB h.nx v47 ∧ (bindO (ldV 1 false h v47) fun v48 => bindO (fieldAddrV 0 a2) fun v49 => bindO (ldV 1 false h v49) fun v50 => CallW FF n_impl_mul [v50, a7, v36] h fun v53 h1 => keepB h.nx h h1 ∧ (bindO (binV .add v48 v53) fun v54 => bindO (fieldAddrV 0 a2) fun v55 => inB h.nx v55 ∧ (bindO (ldV 1 false h1 v55) fun v56 => bindO (binV .rem v54 v56) fun v57 => bindO (indexAddrV 1 v38 v41) fun v58 => bindO (storeV 1 h1 v57 v58) fun h2 => bindO (binV .add a32 (.int .i64 1)) fun v59 => K [a2, a3, a4, a5, a6, a7, a16, a17, a18, a30, a31, v59] h2)))))) (K0 [a2, a3, a4, a5, a16, a17, a18] h)
theorem wl_impl_Series_times_0 {a2 a3 a4 a5 a6 a7 a16 a17 a18 a30 a31 a32 : Value} {h : Hp} {K K0 : Kont} (H : q_impl_Series_times_0 a2 a3 a4 a5 a6 a7 a16 a17 a18 a30 a31 a32 h K K0) : ∀ e : Env, [e 2, e 3, e 4, e 5, e 6, e 7, e 16, e 17, e 18, e 30, e 31, e 32] = [a2, a3, a4, a5, a6, a7, a16, a17, a18, a30, a31, a32] → V FF l_impl_Series_times_0 (qsel [2, 3, 4, 5, 6, 7, 16, 17, 18, 30, 31, 32] K [(.exit 2, [2, 3, 4, 5, 16, 17, 18], K0)]) ⟨e, h⟩ := by
  intro e he; cases he; exact Eq.mp (by kernel_rfl) H
def l_impl_Series_times_1 : YC :=
  .seq (.region false [p 19 (.bin .lss 18 17)])
 (.seq (.cond 19
 (.skip)
 (.exit 0))
 (.seq (.block 1
 (.seq (.region false [m 20 18,
  p 21 (.indexAddr 1 16 18),
  o 22 (.load 1 false 21),
  m 6 20,
  m 7 22])
 (.seq (.region false [p 23 (.fieldAddr 1 3),
  o 24 (.load 1 false 23),
  p 25 (.fieldAddr 1 3),
  o 26 (.load 1 false 25),
  p 27 (.len  26),
  m 28 6,
  p 29 (.bin .sub 27 28),
  p 30 (.slice 1 24 none (some 29)),
  p 31 (.len  30),
  mc 32 (k 0)])
 (.block 2
 (.loop [2, 3, 4, 5, 6, 7, 16, 17, 18, 30, 31, 32] [(.exit 2, [2, 3, 4, 5, 16, 17, 18])] l_impl_Series_times_0)))))
 (.region false [p 60 (.bin .add 18 (k 1)),
  m 18 60])))
def q_impl_Series_times_1 (a2 a3 a4 a5 a16 a17 a18 : Value) (h : Hp) (K K0 : Kont) : Prop :=
  bindO (binV .lss a18 a17) fun v19 => condM v19 (bindO (indexAddrV 1 a16 a18) fun v21 => bindO (ldV 1 false h v21) fun v22 => bindO (fieldAddrV 1 a3) fun v23 => bindO (ldV 1 false h v23) fun v24 => bindO (fieldAddrV 1 a3) fun v25 => bindO (ldV 1 false h v25) fun v26 => bindO (lenV  v26) fun v27 => bindO (binV .sub v27 a18) fun v29 => bindO (sliceV 1 none (some v29) v24) fun v30 => bindO (lenV  v30) fun v31 => LP FF (YC.er l_impl_Series_times_0) [2, 3, 4, 5, 6, 7, 16, 17, 18, 30, 31, 32] [(.exit 2, [2, 3, 4, 5, 16, 17, 18], fun vs h1 => ∀ e : Env, [e 2, e 3, e 4, e 5, e 16, e 17, e 18] = vs → bindO (binV .add (e 18) (.int .i64 1)) fun v60 => K [(e 2), (e 3), (e 4), (e 5), (e 16), (e 17), v60] h1)] [a2, a3, a4, a5, a18, v22, a16, a17, a18, v30, v31, (.int .i64 0)] h) (K0 [a4, a5] h)
theorem wl_impl_Series_times_1 {a2 a3 a4 a5 a16 a17 a18 : Value} {h : Hp} {K K0 : Kont} (H : q_impl_Series_times_1 a2 a3 a4 a5 a16 a17 a18 h K K0) : ∀ e : Env, [e 2, e 3, e 4, e 5, e 16, e 17, e 18] = [a2, a3, a4, a5, a16, a17, a18] → V FF l_impl_Series_times_1 (qsel [2, 3, 4, 5, 16, 17, 18] K [(.exit 0, [4, 5], K0)]) ⟨e, h⟩ := by
  intro e he; cases he; exact Eq.mp (by kernel_rfl) H
def y_impl_Series_times : YC :=
  .seq (.region false [o 2 (.box y_t_impl_Series 2 0),
  o 3 (.box y_t_impl_Series 2 1),
  o 4 (.box y_t_impl_Series 2 (.c (.agg #[.int .i64 0, .slice none 0 0])))])
 (.seq (.region true [p 10 (.fieldAddr 0 2),
  ⟨some 11, .load 1 false 10, none, true⟩,
  o 12 (.load 2 true 2),
  ⟨some 13, cl n_impl_Series_degree [12], none, true⟩,
  o 14 (cl n_impl_zero [11, 13]),
  o 5 (.box y_t_impl_Series 2 (.c (.agg #[.int .i64 0, .slice none 0 0]))),
  e (.store 2 5 14)])
 (.seq (.seq (.region false [p 15 (.fieldAddr 1 2),
  o 16 (.load 1 false 15),
  p 17 (.len  16),
  mc 18 (k 0)])
 (.block 0
 (.loop [2, 3, 4, 5, 16, 17, 18] [(.exit 0, [4, 5])] l_impl_Series_times_1)))
 (.seq (.region false [o 61 (.load 2 true 5),
  e (.store 2 4 61)])
 (.ret))))
theorem c_impl_Series_times : FF n_impl_Series_times = some ⟨62, y_impl_Series_times.er, [.cell 4 2 true]⟩ := by kernel_rfl
def p_impl_Series_times (a0 a1 : Value) (h : Hp) (R : Value → Hp → Prop) : Prop :=
  bindO (boxV 2 a0) fun c2 => newB h ⟨c2, y_t_impl_Series, true⟩ fun b2 h1 => bindO (boxV 2 a1) fun c3 => newB h1 ⟨c3, y_t_impl_Series, true⟩ fun b3 h2 => bindO (boxV 2 (.agg #[.int .i64 0, .slice none 0 0])) fun c4 => newB h2 ⟨c4, y_t_impl_Series, true⟩ fun b4 h3 => bindO (fieldAddrV 0 (.pointer (some ⟨b2, 0, none⟩))) fun v10 => inB h3.nx v10 ∧ (bindO (ldV 1 false h3 v10) fun v11 => bindO (ldV 2 true h3 (.pointer (some ⟨b2, 0, none⟩))) fun v12 => CallW FF n_impl_Series_degree [v12] h3 fun v13 h4 => keepB h3.nx h3 h4 ∧ (CallW FF n_impl_zero [v11, v13] h4 fun v14 h5 => bindO (boxV 2 (.agg #[.int .i64 0, .slice none 0 0])) fun c5 => newB h5 ⟨c5, y_t_impl_Series, true⟩ fun b5 h6 => bindO (storeV 2 h6 v14 (.pointer (some ⟨b5, 0, none⟩))) fun h7 => bindO (fieldAddrV 1 (.pointer (some ⟨b2, 0, none⟩))) fun v15 => bindO (ldV 1 false h7 v15) fun v16 => bindO (lenV  v16) fun v17 => LP FF (YC.er l_impl_Series_times_1) [2, 3, 4, 5, 16, 17, 18] [(.exit 0, [4, 5], fun vs h8 => ∀ e : Env, [e 4, e 5] = vs → bindO (ldV 2 true h8 (e 5)) fun v61 => bindO (storeV 2 h8 v61 (e 4)) fun h9 => bindO (ldV 2 true h9 (e 4)) fun r4 => R r4 h9)] [(.pointer (some ⟨b2, 0, none⟩)), (.pointer (some ⟨b3, 0, none⟩)), (.pointer (some ⟨b4, 0, none⟩)), (.pointer (some ⟨b5, 0, none⟩)), v16, v17, (.int .i64 0)] h7))
theorem w_impl_Series_times {a0 a1 : Value} {h : Hp} {R : Value → Hp → Prop} (H : p_impl_Series_times a0 a1 h R) : CallW FF n_impl_Series_times [a0, a1] h R := callV_fin c_impl_Series_times (Eq.mp (by kernel_rfl) H)
def y_spec_l04Spoil : YC :=
  .seq (.region false [o 2 (.box y_t_impl_Plane 2 (.c (.agg #[.int .i64 0, .slice none 0 0])))])
 (.seq (.region false [m 7 0,
  o 8 (cl n_spec_l04Draw [7]),
  o 3 (.box y_t_impl_Plane 2 (.c (.agg #[.int .i64 0, .slice none 0 0]))),
  e (.store 2 3 8)])
 (.seq (.region false [p 9 (.fieldAddr 1 3),
  o 10 (.load 1 false 9),
  p 11 (.len  10),
  m 4 11])
 (.seq (.region false [m 12 0,
  m 13 4,
  o 14 (cl n_spec_l01Next [12, 13]),
  m 5 14])
 (.seq (.region false [p 15 (.fieldAddr 1 3),
  o 16 (.load 1 false 15),
  m 17 5,
  p 18 (.indexAddr 1 16 17),
  o 19 (.load 1 false 18),
  m 6 19])
 (.seq (.seq (.region false [m 20 0,
  o 21 (cl n_spec_l01Next [20, (k 24)])])
 (.block 0
 (.seq (.region false [p 23 (.bin .eql 21 (k 0)),
  m 22 23])
 (.cond 22
 (.regionG [m 24 6,
  m 25 0,
  m 26 6,
  p 27 (.len  26),
  ⟨some 28, cl n_spec_l01Next [25, 27], none, true⟩,
  m 29 0,
  p 30 (.fieldAddr 0 3),
  ⟨some 31, .load 1 false 30, none, true⟩,
  p 32 (.bin .add 31 (k 1)),
  o 33 (cl n_spec_l01Next [29, 32]),
  p 34 (.indexAddr 1 24 28),
  e (.store 1 34 33)])
 (.seq (.region false [p 36 (.bin .eql 21 (k 1)),
  m 35 36])
 (.cond 35
 (.region false [m 37 0,
  o 38 (.mkrow y_t_int64 1 3 [.int .i64 0] [(0, (k 1)), (1, (k 10001)), (2, (k 2))]),
  o 39 (cl n_spec_l01Pick [37, 38]),
  p 40 (.fieldAddr 0 3),
  e (.store 1 40 39)])
 (.seq (.region false [p 42 (.bin .eql 21 (k 2)),
  m 41 42])
 (.cond 41
 (.region false [p 43 (.fieldAddr 1 3),
  o 44 (.load 1 false 43),
  p 45 (.slice 1 44 (some (k 1)) none),
  p 46 (.fieldAddr 1 3),
  e (.store 1 46 45)])
 (.seq (.region false [p 48 (.bin .eql 21 (k 3)),
  m 47 48])
 (.cond 47
 (.region false [p 49 (.fieldAddr 1 3),
  e (.store 1 49 (.c (.slice none 0 0)))])
 (.skip)))))))))))
 (.seq (.region false [o 50 (.load 2 true 3),
  e (.store 2 2 50)])
 (.ret)))))))
theorem c_spec_l04Spoil : FF n_spec_l04Spoil = some ⟨51, y_spec_l04Spoil.er, [.cell 2 2 true]⟩ := by kernel_rfl
def p_spec_l04Spoil (a0 : Value) (h : Hp) (R : Value → Hp → Prop) : Prop :=
  bindO (boxV 2 (.agg #[.int .i64 0, .slice none 0 0])) fun c2 => newB h ⟨c2, y_t_impl_Plane, true⟩ fun b2 h1 => CallW FF n_spec_l04Draw [a0] h1 fun v8 h2 => bindO (boxV 2 (.agg #[.int .i64 0, .slice none 0 0])) fun c3 => newB h2 ⟨c3, y_t_impl_Plane, true⟩ fun b3 h3 => bindO (storeV 2 h3 v8 (.pointer (some ⟨b3, 0, none⟩))) fun h4 => bindO (fieldAddrV 1 (.pointer (some ⟨b3, 0, none⟩))) fun v9 => bindO (ldV 1 false h4 v9) fun v10 => bindO (lenV  v10) fun v11 => CallW FF n_spec_l01Next [a0, v11] h4 fun v14 h5 => bindO (fieldAddrV 1 (.pointer (some ⟨b3, 0, none⟩))) fun v15 => bindO (ldV 1 false h5 v15) fun v16 => bindO (indexAddrV 1 v16 v14) fun v18 => bindO (ldV 1 false h5 v18) fun v19 => CallW FF n_spec_l01Next [a0, (.int .i64 24)] h5 fun v21 h6 => bindO (binV .eql v21 (.int .i64 0)) fun v23 => condM v23 (∃ P : Nat → Prop, (∀ b, P b → b < h6.nx) ∧ (bindO (lenV  v19) fun v27 => CallW FF n_spec_l01Next [a0, v27] h6 fun v28 h7 => keepP P h6 h7 ∧ (bindO (fieldAddrV 0 (.pointer (some ⟨b3, 0, none⟩))) fun v30 => inP P v30 ∧ (bindO (ldV 1 false h7 v30) fun v31 => bindO (binV .add v31 (.int .i64 1)) fun v32 => CallW FF n_spec_l01Next [a0, v32] h7 fun v33 h8 => bindO (indexAddrV 1 v19 v28) fun v34 => bindO (storeV 1 h8 v33 v34) fun h9 => bindO (ldV 2 true h9 (.pointer (some ⟨b3, 0, none⟩))) fun v50 => bindO (storeV 2 h9 v50 (.pointer (some ⟨b2, 0, none⟩))) fun h10 => bindO (ldV 2 true h10 (.pointer (some ⟨b2, 0, none⟩))) fun r2 => R r2 h10)))) (bindO (binV .eql v21 (.int .i64 1)) fun v36 => condM v36 (bindO (rowV 1 3 [.int .i64 0] [(0, (.int .i64 1)), (1, (.int .i64 10001)), (2, (.int .i64 2))]) fun c38 => newB h6 ⟨c38, y_t_int64, true⟩ fun b38 h7 => CallW FF n_spec_l01Pick [a0, (.slice (some ⟨b38, 0, none⟩) 3 1)] h7 fun v39 h8 => bindO (fieldAddrV 0 (.pointer (some ⟨b3, 0, none⟩))) fun v40 => bindO (storeV 1 h8 v39 v40) fun h9 => bindO (ldV 2 true h9 (.pointer (some ⟨b3, 0, none⟩))) fun v50 => bindO (storeV 2 h9 v50 (.pointer (some ⟨b2, 0, none⟩))) fun h10 => bindO (ldV 2 true h10 (.pointer (some ⟨b2, 0, none⟩))) fun r2 => R r2 h10) (bindO (binV .eql v21 (.int .i64 2)) fun v42 => condM v42 (bindO (fieldAddrV 1 (.pointer (some ⟨b3, 0, none⟩))) fun v43 => bindO (ldV 1 false h6 v43) fun v44 => bindO (sliceV 1 (some (.int .i64 1)) none v44) fun v45 => bindO (fieldAddrV 1 (.pointer (some ⟨b3, 0, none⟩))) fun v46 => bindO (storeV 1 h6 v45 v46) fun h7 => bindO (ldV 2 true h7 (.pointer (some ⟨b3, 0, none⟩))) fun v50 => bindO (storeV 2 h7 v50 (.pointer (some ⟨b2, 0, none⟩))) fun h8 => bindO (ldV 2 true h8 (.pointer (some ⟨b2, 0, none⟩))) fun r2 => R r2 h8) (bindO (binV .eql v21 (.int .i64 3)) fun v48 => condM v48 (bindO (fieldAddrV 1 (.pointer (some ⟨b3, 0, none⟩))) fun v49 => bindO (storeV 1 h6 (.slice none 0 0) v49) fun h7 => bindO (ldV 2 true h7 (.pointer (some ⟨b3, 0, none⟩))) fun v50 => bindO (storeV 2 h7 v50 (.pointer (some ⟨b2, 0, none⟩))) fun h8 => bindO (ldV 2 true h8 (.pointer (some ⟨b2, 0, none⟩))) fun r2 => R r2 h8) (bindO (ldV 2 true h6 (.pointer (some ⟨b3, 0, none⟩))) fun v50 => bindO (storeV 2 h6 v50 (.pointer (some ⟨b2, 0, none⟩))) fun h7 => bindO (ldV 2 true h7 (.pointer (some ⟨b2, 0, none⟩))) fun r2 => R r2 h7))))
theorem w_spec_l04Spoil {a0 : Value} {h : Hp} {R : Value → Hp → Prop} (H : p_spec_l04Spoil a0 h R) : CallW FF n_spec_l04Spoil [a0] h R := callV_fin c_spec_l04Spoil (Eq.mp (by kernel_rfl) H)
def y_spec_l01Next : YC :=
  .seq (.region false [mc 4 (k 0)])
 (.seq (.seq (.region false [m 6 1,
  p 7 (.bin .lss 6 (k 1))])
 (.cond 7
 (.seq (.region false [mc 4 (k 0)])
 (.ret))
 (.skip)))
 (.seq (.region false [m 8 0,
  m 9 0,
  p 10 (.nilCheck  9),
  p 11 (.fieldAddr 2 10),
  o 12 (.load 1 false 11),
  p 13 (.bin .mul 12 (.c (.int .u64 6364136223846793005))),
  p 14 (.bin .add 13 (.c (.int .u64 1442695040888963407))),
  p 15 (.nilCheck  8),
  p 16 (.fieldAddr 2 15),
  e (.store 1 16 14)])
 (.seq (.region false [m 17 0,
  p 18 (.nilCheck  17),
  p 19 (.fieldAddr 2 18),
  o 20 (.load 1 false 19),
  p 21 (.bin .shr 20 (.c (.int .u64 33))),
  p 22 (.bin .and 21 (.c (.int .u64 16777215))),
  p 23 (.conv .i64 22),
  m 5 23])
 (.seq (.seq (.region false [m 24 0,
  p 25 (.nilCheck  24),
  p 26 (.fieldAddr 1 25),
  o 27 (.load 1 false 26),
  m 28 0,
  p 29 (.nilCheck  28),
  p 30 (.fieldAddr 0 29),
  o 31 (.load 1 false 30),
  p 32 (.len  31),
  p 33 (.bin .lss 27 32)])
 (.cond 33
 (.seq (.region false [m 34 5,
  m 35 0,
  p 36 (.nilCheck  35),
  p 37 (.fieldAddr 0 36),
  o 38 (.load 1 false 37),
  m 39 0,
  p 40 (.nilCheck  39),
  p 41 (.fieldAddr 1 40),
  o 42 (.load 1 false 41),
  p 43 (.indexAddr 1 38 42),
  o 44 (.load 1 false 43),
  p 45 (.conv .i64 44),
  p 46 (.bin .add 34 45),
  m 5 46])
 (.region false [m 47 0,
  m 48 0,
  p 49 (.nilCheck  48),
  p 50 (.fieldAddr 1 49),
  o 51 (.load 1 false 50),
  p 52 (.bin .add 51 (k 1)),
  p 53 (.nilCheck  47),
  p 54 (.fieldAddr 1 53),
  e (.store 1 54 52)]))
 (.skip)))
 (.seq (.region false [m 55 5,
  m 56 1,
  p 57 (.bin .rem 55 56),
  m 4 57])
 (.ret))))))
theorem c_spec_l01Next : FF n_spec_l01Next = some ⟨58, y_spec_l01Next.er, [.tmp 4]⟩ := by kernel_rfl
def p_spec_l01Next (a0 a1 : Value) (h : Hp) (R : Value → Hp → Prop) : Prop :=
  bindO (binV .lss a1 (.int .i64 1)) fun v7 => condM v7 (R (.int .i64 0) h) (bindO (nilCheckV  a0) fun v10 => bindO (fieldAddrV 2 v10) fun v11 => bindO (ldV 1 false h v11) fun v12 => bindO (binV .mul v12 (.int .u64 6364136223846793005)) fun v13 => bindO (binV .add v13 (.int .u64 1442695040888963407)) fun v14 => bindO (nilCheckV  a0) fun v15 => bindO (fieldAddrV 2 v15) fun v16 => bindO (storeV 1 h v14 v16) fun h1 => bindO (nilCheckV  a0) fun v18 => bindO (fieldAddrV 2 v18) fun v19 => bindO (ldV 1 false h1 v19) fun v20 => bindO (binV .shr v20 (.int .u64 33)) fun v21 => bindO (binV .and v21 (.int .u64 16777215)) fun v22 => bindO (convV .i64 v22) fun v23 => bindO (nilCheckV  a0) fun v25 => bindO (fieldAddrV 1 v25) fun v26 => bindO (ldV 1 false h1 v26) fun v27 => bindO (nilCheckV  a0) fun v29 => bindO (fieldAddrV 0 v29) fun v30 => bindO (ldV 1 false h1 v30) fun v31 => bindO (lenV  v31) fun v32 => bindO (binV .lss v27 v32) fun v33 => condM v33 (bindO (nilCheckV  a0) fun v36 => bindO (fieldAddrV 0 v36) fun v37 => bindO (ldV 1 false h1 v37) fun v38 => bindO (nilCheckV  a0) fun v40 => bindO (fieldAddrV 1 v40) fun v41 => bindO (ldV 1 false h1 v41) fun v42 => bindO (indexAddrV 1 v38 v42) fun v43 => bindO (ldV 1 false h1 v43) fun v44 => bindO (convV .i64 v44) fun v45 => bindO (binV .add v23 v45) fun v46 => bindO (nilCheckV  a0) fun v49 => bindO (fieldAddrV 1 v49) fun v50 => bindO (ldV 1 false h1 v50) fun v51 => bindO (binV .add v51 (.int .i64 1)) fun v52 => bindO (nilCheckV  a0) fun v53 => bindO (fieldAddrV 1 v53) fun v54 => bindO (storeV 1 h1 v52 v54) fun h2 => bindO (binV .rem v46 a1) fun v57 => R v57 h2) (bindO (binV .rem v23 a1) fun v57 => R v57 h1))
theorem w_spec_l01Next {a0 a1 : Value} {h : Hp} {R : Value → Hp → Prop} (H : p_spec_l01Next a0 a1 h R) : CallW FF n_spec_l01Next [a0, a1] h R := callV_fin c_spec_l01Next (Eq.mp (by kernel_rfl) H)
def y_impl_IsLaw : YC :=
  .seq (.region false [o 1 (.box y_t_impl_Plane 2 0),
  mc 2 (.c (.bool false))])
 (.seq (.region false [o 3 (.load 2 true 1),
  o 4 (cl n_impl_IsPlane [3]),
  m 5 4,
  ⟨some 6, .load 2 true 1, some (5, true), false⟩,
  ⟨some 7, cl n_impl_axioms [6], some (5, true), false⟩,
  ⟨some 8, .p (.isNil false 7), some (5, true), false⟩,
  p 9 (.pick  5 8 (.c (.bool false))),
  m 2 9])
 (.ret))
theorem c_impl_IsLaw : FF n_impl_IsLaw = some ⟨10, y_impl_IsLaw.er, [.tmp 2]⟩ := by kernel_rfl
def p_impl_IsLaw (a0 : Value) (h : Hp) (R : Value → Hp → Prop) : Prop :=
  bindO (boxV 2 a0) fun c1 => newB h ⟨c1, y_t_impl_Plane, true⟩ fun b1 h1 => bindO (ldV 2 true h1 (.pointer (some ⟨b1, 0, none⟩))) fun v3 => CallW FF n_impl_IsPlane [v3] h1 fun v4 h2 => condM v4 (bindO (ldV 2 true h2 (.pointer (some ⟨b1, 0, none⟩))) fun v6 => CallW FF n_impl_axioms [v6] h2 fun v7 h3 => bindO (isNilV false v7) fun v8 => R v8 h3) (R (.bool false) h2)
theorem w_impl_IsLaw {a0 : Value} {h : Hp} {R : Value → Hp → Prop} (H : p_impl_IsLaw a0 h R) : CallW FF n_impl_IsLaw [a0] h R := callV_fin c_impl_IsLaw (Eq.mp (by kernel_rfl) H)
def y_impl_Plane_degree : YC :=
  .seq (.region false [o 1 (.box y_t_impl_Plane 2 0),
  mc 2 (k 0)])
 (.seq (.region false [p 3 (.fieldAddr 1 1),
  o 4 (.load 1 false 3),
  p 5 (.len  4),
  p 6 (.bin .sub 5 (k 1)),
  m 2 6])
 (.ret))
theorem c_impl_Plane_degree : FF n_impl_Plane_degree = some ⟨7, y_impl_Plane_degree.er, [.tmp 2]⟩ := by kernel_rfl
def p_impl_Plane_degree (a0 : Value) (h : Hp) (R : Value → Hp → Prop) : Prop :=
  bindO (boxV 2 a0) fun c1 => newB h ⟨c1, y_t_impl_Plane, true⟩ fun b1 h1 => bindO (fieldAddrV 1 (.pointer (some ⟨b1, 0, none⟩))) fun v3 => bindO (ldV 1 false h1 v3) fun v4 => bindO (lenV  v4) fun v5 => bindO (binV .sub v5 (.int .i64 1)) fun v6 => R v6 h1
theorem w_impl_Plane_degree {a0 : Value} {h : Hp} {R : Value → Hp → Prop} (H : p_impl_Plane_degree a0 h R) : CallW FF n_impl_Plane_degree [a0] h R := callV_fin c_impl_Plane_degree (Eq.mp (by kernel_rfl) H)
def y_impl_all_int64 : YC :=
  .seq (.region false [o 3 (.box y_t_func_int64_bool 1 1),
  mc 4 (.c (.bool false))])
 (.seq (.region false [m 5 0,
  p 6 (.mkfunc n_impl_all_int64__c1 [] [3]),
  o 7 (cl n_slices_ContainsFunc_Lint64_int64 [5, 6]),
  p 8 (.un .not 7),
  m 4 8])
 (.ret))
theorem c_impl_all_int64 : FF n_impl_all_int64 = some ⟨9, y_impl_all_int64.er, [.tmp 4]⟩ := by kernel_rfl
def p_impl_all_int64 (a0 a1 : Value) (h : Hp) (R : Value → Hp → Prop) : Prop :=
  bindO (boxV 1 a1) fun c3 => newB h ⟨c3, y_t_func_int64_bool, true⟩ fun b3 h1 => CallW FF n_slices_ContainsFunc_Lint64_int64 [a0, (.func (.func n_impl_all_int64__c1) #[] #[(.pointer (some ⟨b3, 0, none⟩))])] h1 fun v7 h2 => bindO (unV .not v7) fun v8 => R v8 h2
theorem w_impl_all_int64 {a0 a1 : Value} {h : Hp} {R : Value → Hp → Prop} (H : p_impl_all_int64 a0 a1 h R) : CallW FF n_impl_all_int64 [a0, a1] h R := callV_fin c_impl_all_int64 (Eq.mp (by kernel_rfl) H)
def y_impl_pointed_c1 : YC :=
  .seq (.region false [mc 3 (.c (.bool false))])
 (.seq (.region false [m 4 0,
  p 5 (.fieldAddr 0 1),
  o 6 (.load 1 false 5),
  o 7 (cl n_impl_isNumber [4, 6]),
  m 3 7])
 (.ret))
theorem c_impl_pointed_c1 : FF n_impl_pointed_c1 = some ⟨8, y_impl_pointed_c1.er, [.tmp 3]⟩ := by kernel_rfl
def p_impl_pointed_c1 (a0 a1 : Value) (h : Hp) (R : Value → Hp → Prop) : Prop :=
  bindO (fieldAddrV 0 a1) fun v5 => bindO (ldV 1 false h v5) fun v6 => CallW FF n_impl_isNumber [a0, v6] h fun v7 h1 => R v7 h1
theorem w_impl_pointed_c1 {a0 a1 : Value} {h : Hp} {R : Value → Hp → Prop} (H : p_impl_pointed_c1 a0 a1 h R) : CallW FF n_impl_pointed_c1 [a0, a1] h R := callV_fin c_impl_pointed_c1 (Eq.mp (by kernel_rfl) H)
def y_impl_isNumber : YC :=
  .seq (.region false [mc 4 (.c (.bool false))])
 (.seq (.region false [m 5 0,
  m 6 1,
  p 7 (.bin .sub 6 (k 1)),
  o 8 (cl n_impl_in [5, (k 0), 7]),
  m 4 8])
 (.ret))
theorem c_impl_isNumber : FF n_impl_isNumber = some ⟨9, y_impl_isNumber.er, [.tmp 4]⟩ := by kernel_rfl
def p_impl_isNumber (a0 a1 : Value) (h : Hp) (R : Value → Hp → Prop) : Prop :=
  bindO (binV .sub a1 (.int .i64 1)) fun v7 => CallW FF n_impl_in [a0, (.int .i64 0), v7] h fun v8 h1 => R v8 h1
theorem w_impl_isNumber {a0 a1 : Value} {h : Hp} {R : Value → Hp → Prop} (H : p_impl_isNumber a0 a1 h R) : CallW FF n_impl_isNumber [a0, a1] h R := callV_fin c_impl_isNumber (Eq.mp (by kernel_rfl) H)
def l_impl_emptyPlane_0 : YC :=
  .seq (.region false [p 12 (.bin .lss 11 10)])
 (.seq (.cond 12
 (.skip)
 (.exit 0))
 (.seq (.block 1
 (.seq (.region false [m 13 11,
  m 6 13])
 (.region false [p 14 (.fieldAddr 1 5),
  o 15 (.load 1 false 14),
  m 16 1,
  p 17 (.bin .add 16 (k 1)),
  m 18 6,
  p 19 (.bin .sub 17 18),
  o 20 (.make y_t_int64 1 8 [.int .i64 0] 19),
  o 21 (.mkrow y_t_Lint64 1 1 [.slice none 0 0] [(0, 20)]),
  o 22 (.append y_t_Lint64 1 24 15 21),
  p 23 (.fieldAddr 1 5),
  e (.store 1 23 22)])))
 (.region false [p 24 (.bin .add 11 (k 1)),
  m 11 24])))
def q_impl_emptyPlane_0 (a1 a4 a5 a10 a11 : Value) (h : Hp) (K K0 : Kont) : Prop :=
  bindO (binV .lss a11 a10) fun v12 => condM v12 (bindO (fieldAddrV 1 a5) fun v14 => bindO (ldV 1 false h v14) fun v15 => bindO (binV .add a1 (.int .i64 1)) fun v17 => bindO (binV .sub v17 a11) fun v19 => bindO (makN v19) fun c20 => newB h ⟨reps c20 [.int .i64 0], y_t_int64, true⟩ fun b20 h1 => bindO (rowV 1 1 [.slice none 0 0] [(0, (.slice (some ⟨b20, 0, none⟩) c20 1))]) fun c21 => newB h1 ⟨c21, y_t_Lint64, true⟩ fun b21 h2 => bindVH (appendV y_t_Lint64 1 h2 v15 (.slice (some ⟨b21, 0, none⟩) 1 1)) fun v22 h3 => bindO (fieldAddrV 1 a5) fun v23 => bindO (storeV 1 h3 v22 v23) fun h4 => bindO (binV .add a11 (.int .i64 1)) fun v24 => K [a1, a4, a5, a10, v24] h4) (K0 [a4, a5] h)
theorem wl_impl_emptyPlane_0 {a1 a4 a5 a10 a11 : Value} {h : Hp} {K K0 : Kont} (H : q_impl_emptyPlane_0 a1 a4 a5 a10 a11 h K K0) : ∀ e : Env, [e 1, e 4, e 5, e 10, e 11] = [a1, a4, a5, a10, a11] → V FF l_impl_emptyPlane_0 (qsel [1, 4, 5, 10, 11] K [(.exit 0, [4, 5], K0)]) ⟨e, h⟩ := by
  intro e he; cases he; exact Eq.mp (by kernel_rfl) H
def y_impl_emptyPlane : YC :=
  .seq (.region false [o 4 (.box y_t_impl_Plane 2 (.c (.agg #[.int .i64 0, .slice none 0 0])))])
 (.seq (.region false [m 7 0,
  p 8 (.build [.int .i64 0, .slice none 0 0] [(0, 1, 7)]),
  o 5 (.box y_t_impl_Plane 2 (.c (.agg #[.int .i64 0, .slice none 0 0]))),
  e (.store 2 5 8)])
 (.seq (.seq (.region false [m 9 1,
  p 10 (.bin .add 9 (k 1)),
  mc 11 (k 0)])
 (.block 0
 (.loop [1, 4, 5, 10, 11] [(.exit 0, [4, 5])] l_impl_emptyPlane_0)))
 (.seq (.region false [o 25 (.load 2 true 5),
  e (.store 2 4 25)])
 (.ret))))
theorem c_impl_emptyPlane : FF n_impl_emptyPlane = some ⟨26, y_impl_emptyPlane.er, [.cell 4 2 true]⟩ := by kernel_rfl
def p_impl_emptyPlane (a0 a1 : Value) (h : Hp) (R : Value → Hp → Prop) : Prop :=
  bindO (boxV 2 (.agg #[.int .i64 0, .slice none 0 0])) fun c4 => newB h ⟨c4, y_t_impl_Plane, true⟩ fun b4 h1 => bindO ((fillX [.int .i64 0, .slice none 0 0] [(0, 1, a0)]).map fun cs => Value.agg cs.toArray) fun v8 => bindO (boxV 2 (.agg #[.int .i64 0, .slice none 0 0])) fun c5 => newB h1 ⟨c5, y_t_impl_Plane, true⟩ fun b5 h2 => bindO (storeV 2 h2 v8 (.pointer (some ⟨b5, 0, none⟩))) fun h3 => bindO (binV .add a1 (.int .i64 1)) fun v10 => LP FF (YC.er l_impl_emptyPlane_0) [1, 4, 5, 10, 11] [(.exit 0, [4, 5], fun vs h4 => ∀ e : Env, [e 4, e 5] = vs → bindO (ldV 2 true h4 (e 5)) fun v25 => bindO (storeV 2 h4 v25 (e 4)) fun h5 => bindO (ldV 2 true h5 (e 4)) fun r4 => R r4 h5)] [a1, (.pointer (some ⟨b4, 0, none⟩)), (.pointer (some ⟨b5, 0, none⟩)), v10, (.int .i64 0)] h3
theorem w_impl_emptyPlane {a0 a1 : Value} {h : Hp} {R : Value → Hp → Prop} (H : p_impl_emptyPlane a0 a1 h R) : CallW FF n_impl_emptyPlane [a0, a1] h R := callV_fin c_impl_emptyPlane (Eq.mp (by kernel_rfl) H)
def y_impl_Series_constant : YC :=
  .seq (.region false [o 2 (.box y_t_impl_Series 2 0),
  o 4 (.box y_t_impl_Series 2 (.c (.agg #[.int .i64 0, .slice none 0 0])))])
 (.seq (.region true [p 6 (.fieldAddr 0 2),
  ⟨some 7, .load 1 false 6, none, true⟩,
  o 8 (.load 2 true 2),
  ⟨some 9, cl n_impl_Series_degree [8], none, true⟩,
  o 10 (cl n_impl_zero [7, 9]),
  o 5 (.box y_t_impl_Series 2 (.c (.agg #[.int .i64 0, .slice none 0 0]))),
  e (.store 2 5 10)])
 (.seq (.region true [p 11 (.fieldAddr 1 5),
  ⟨some 12, .load 1 false 11, none, true⟩,
  m 13 1,
  p 14 (.fieldAddr 0 2),
  o 15 (.load 1 false 14),
  ⟨some 16, cl n_impl_mod [13, 15], none, true⟩,
  p 17 (.indexAddr 1 12 (k 0)),
  e (.store 1 17 16)])
 (.seq (.region false [o 18 (.load 2 true 5),
  e (.store 2 4 18)])
 (.ret))))
theorem c_impl_Series_constant : FF n_impl_Series_constant = some ⟨19, y_impl_Series_constant.er, [.cell 4 2 true]⟩ := by kernel_rfl
def p_impl_Series_constant (a0 a1 : Value) (h : Hp) (R : Value → Hp → Prop) : Prop :=
  bindO (boxV 2 a0) fun c2 => newB h ⟨c2, y_t_impl_Series, true⟩ fun b2 h1 => bindO (boxV 2 (.agg #[.int .i64 0, .slice none 0 0])) fun c4 => newB h1 ⟨c4, y_t_impl_Series, true⟩ fun b4 h2 => bindO (fieldAddrV 0 (.pointer (some ⟨b2, 0, none⟩))) fun v6 => inB h2.nx v6 ∧ (bindO (ldV 1 false h2 v6) fun v7 => bindO (ldV 2 true h2 (.pointer (some ⟨b2, 0, none⟩))) fun v8 => CallW FF n_impl_Series_degree [v8] h2 fun v9 h3 => keepB h2.nx h2 h3 ∧ (CallW FF n_impl_zero [v7, v9] h3 fun v10 h4 => bindO (boxV 2 (.agg #[.int .i64 0, .slice none 0 0])) fun c5 => newB h4 ⟨c5, y_t_impl_Series, true⟩ fun b5 h5 => bindO (storeV 2 h5 v10 (.pointer (some ⟨b5, 0, none⟩))) fun h6 => bindO (fieldAddrV 1 (.pointer (some ⟨b5, 0, none⟩))) fun v11 => inB h6.nx v11 ∧ (bindO (ldV 1 false h6 v11) fun v12 => bindO (fieldAddrV 0 (.pointer (some ⟨b2, 0, none⟩))) fun v14 => bindO (ldV 1 false h6 v14) fun v15 => CallW FF n_impl_mod [a1, v15] h6 fun v16 h7 => keepB h6.nx h6 h7 ∧ (bindO (indexAddrV 1 v12 (.int .i64 0)) fun v17 => bindO (storeV 1 h7 v16 v17) fun h8 => bindO (ldV 2 true h8 (.pointer (some ⟨b5, 0, none⟩))) fun v18 => bindO (storeV 2 h8 v18 (.pointer (some ⟨b4, 0, none⟩))) fun h9 => bindO (ldV 2 true h9 (.pointer (some ⟨b4, 0, none⟩))) fun r4 => R r4 h9))))
theorem w_impl_Series_constant {a0 a1 : Value} {h : Hp} {R : Value → Hp → Prop} (H : p_impl_Series_constant a0 a1 h R) : CallW FF n_impl_Series_constant [a0, a1] h R := callV_fin c_impl_Series_constant (Eq.mp (by kernel_rfl) H)
def l_impl_Series_powers_0 : YC :=
  .seq (.region false [p 10 (.bin .lss 9 8)])
 (.seq (.cond 10
 (.skip)
 (.exit 0))
 (.seq (.block 1
 (.region false [m 11 3,
  m 12 3,
  m 13 3,
  p 14 (.len  13),
  p 15 (.bin .sub 14 (k 1)),
  p 16 (.indexAddr 2 12 15),
  o 17 (.load 2 true 16),
  o 18 (.load 2 true 1),
  o 19 (cl n_impl_Series_times [17, 18]),
  o 20 (.mkrow y_t_impl_Series 2 1 [.int .i64 0, .slice none 0 0] [(0, 19)]),
  o 21 (.append y_t_impl_Series 2 32 11 20),
  m 3 21]))
 (.region false [p 22 (.bin .add 9 (k 1)),
  m 9 22])))
def q_impl_Series_powers_0 (a1 a3 a8 a9 : Value) (h : Hp) (K K0 : Kont) : Prop :=
  bindO (binV .lss a9 a8) fun v10 => condM v10 (bindO (lenV  a3) fun v14 => bindO (binV .sub v14 (.int .i64 1)) fun v15 => bindO (indexAddrV 2 a3 v15) fun v16 => bindO (ldV 2 true h v16) fun v17 => bindO (ldV 2 true h a1) fun v18 => CallW FF n_impl_Series_times [v17, v18] h fun v19 h1 => bindO (rowV 2 1 [.int .i64 0, .slice none 0 0] [(0, v19)]) fun c20 => newB h1 ⟨c20, y_t_impl_Series, true⟩ fun b20 h2 => bindVH (appendV y_t_impl_Series 2 h2 a3 (.slice (some ⟨b20, 0, none⟩) 1 2)) fun v21 h3 => bindO (binV .add a9 (.int .i64 1)) fun v22 => K [a1, v21, a8, v22] h3) (K0 [a3] h)
theorem wl_impl_Series_powers_0 {a1 a3 a8 a9 : Value} {h : Hp} {K K0 : Kont} (H : q_impl_Series_powers_0 a1 a3 a8 a9 h K K0) : ∀ e : Env, [e 1, e 3, e 8, e 9] = [a1, a3, a8, a9] → V FF l_impl_Series_powers_0 (qsel [1, 3, 8, 9] K [(.exit 0, [3], K0)]) ⟨e, h⟩ := by
  intro e he; cases he; exact Eq.mp (by kernel_rfl) H
def y_impl_Series_powers : YC :=
  .seq (.region false [o 1 (.box y_t_impl_Series 2 0),
  mc 2 (.c (.slice none 0 0))])
 (.seq (.region false [o 4 (.load 2 true 1),
  o 5 (cl n_impl_Series_constant [4, (k 1)]),
  o 6 (.mkrow y_t_impl_Series 2 1 [.int .i64 0, .slice none 0 0] [(0, 5)]),
  m 3 6])
 (.seq (.seq (.region false [o 7 (.load 2 true 1),
  o 8 (cl n_impl_Series_degree [7]),
  mc 9 (k 0)])
 (.block 0
 (.loop [1, 3, 8, 9] [(.exit 0, [3])] l_impl_Series_powers_0)))
 (.seq (.region false [m 23 3,
  m 2 23])
 (.ret))))
theorem c_impl_Series_powers : FF n_impl_Series_powers = some ⟨24, y_impl_Series_powers.er, [.tmp 2]⟩ := by kernel_rfl
def p_impl_Series_powers (a0 : Value) (h : Hp) (R : Value → Hp → Prop) : Prop :=
  bindO (boxV 2 a0) fun c1 => newB h ⟨c1, y_t_impl_Series, true⟩ fun b1 h1 => bindO (ldV 2 true h1 (.pointer (some ⟨b1, 0, none⟩))) fun v4 => CallW FF n_impl_Series_constant [v4, (.int .i64 1)] h1 fun v5 h2 => bindO (rowV 2 1 [.int .i64 0, .slice none 0 0] [(0, v5)]) fun c6 => newB h2 ⟨c6, y_t_impl_Series, true⟩ fun b6 h3 => bindO (ldV 2 true h3 (.pointer (some ⟨b1, 0, none⟩))) fun v7 => CallW FF n_impl_Series_degree [v7] h3 fun v8 h4 => LP FF (YC.er l_impl_Series_powers_0) [1, 3, 8, 9] [(.exit 0, [3], fun vs h5 => ∀ e : Env, [e 3] = vs → R (e 3) h5)] [(.pointer (some ⟨b1, 0, none⟩)), (.slice (some ⟨b6, 0, none⟩) 1 2), v8, (.int .i64 0)] h4
theorem w_impl_Series_powers {a0 : Value} {h : Hp} {R : Value → Hp → Prop} (H : p_impl_Series_powers a0 h R) : CallW FF n_impl_Series_powers [a0] h R := callV_fin c_impl_Series_powers (Eq.mp (by kernel_rfl) H)
def l_impl_Series_plus_0 : YC :=
  .seq (.region false [p 16 (.bin .lss 15 14)])
 (.seq (.cond 16
 (.skip)
 (.exit 0))
 (.seq (.block 1
 (.seq (.region false [m 17 15,
  m 6 17])
 (.region false [p 18 (.fieldAddr 1 5),
  o 19 (.load 1 false 18),
  m 20 6,
  p 21 (.fieldAddr 1 2),
  o 22 (.load 1 false 21),
  m 23 6,
  p 24 (.indexAddr 1 22 23),
  o 25 (.load 1 false 24),
  p 26 (.fieldAddr 1 3),
  o 27 (.load 1 false 26),
  m 28 6,
  p 29 (.indexAddr 1 27 28),
  o 30 (.load 1 false 29),
  p 31 (.bin .add 25 30),
  p 32 (.fieldAddr 0 2),
  o 33 (.load 1 false 32),
  p 34 (.bin .rem 31 33),
  p 35 (.indexAddr 1 19 20),
  e (.store 1 35 34)])))
 (.region false [p 36 (.bin .add 15 (k 1)),
  m 15 36])))
def q_impl_Series_plus_0 (a2 a3 a4 a5 a14 a15 : Value) (h : Hp) (K K0 : Kont) : Prop :=
  bindO (binV .lss a15 a14) fun v16 => condM v16 (bindO (fieldAddrV 1 a5) fun v18 => bindO (ldV 1 false h v18) fun v19 => bindO (fieldAddrV 1 a2) fun v21 => bindO (ldV 1 false h v21) fun v22 => bindO (indexAddrV 1 v22 a15) fun v24 => bindO (ldV 1 false h v24) fun v25 => bindO (fieldAddrV 1 a3) fun v26 => bindO (ldV 1 false h v26) fun v27 => bindO (indexAddrV 1 v27 a15) fun v29 => bindO (ldV 1 false h v29) fun v30 => bindO (binV .add v25 v30) fun v31 => bindO (fieldAddrV 0 a2) fun v32 => bindO (ldV 1 false h v32) fun v33 => bindO (binV .rem v31 v33) fun v34 => bindO (indexAddrV 1 v19 a15) fun v35 => bindO (storeV 1 h v34 v35) fun h1 => bindO (binV .add a15 (.int .i64 1)) fun v36 => K [a2, a3, a4, a5, a14, v36] h1) (K0 [a4, a5] h)
theorem wl_impl_Series_plus_0 {a2 a3 a4 a5 a14 a15 : Value} {h : Hp} {K K0 : Kont} (H : q_impl_Series_plus_0 a2 a3 a4 a5 a14 a15 h K K0) : ∀ e : Env, [e 2, e 3, e 4, e 5, e 14, e 15] = [a2, a3, a4, a5, a14, a15] → V FF l_impl_Series_plus_0 (qsel [2, 3, 4, 5, 14, 15] K [(.exit 0, [4, 5], K0)]) ⟨e, h⟩ := by
  intro e he; cases he; exact Eq.mp (by kernel_rfl) H
def y_impl_Series_plus : YC :=
  .seq (.region false [o 2 (.box y_t_impl_Series 2 0),
  o 3 (.box y_t_impl_Series 2 1),
  o 4 (.box y_t_impl_Series 2 (.c (.agg #[.int .i64 0, .slice none 0 0])))])
 (.seq (.region true [p 7 (.fieldAddr 0 2),
  ⟨some 8, .load 1 false 7, none, true⟩,
  o 9 (.load 2 true 2),
  ⟨some 10, cl n_impl_Series_degree [9], none, true⟩,
  o 11 (cl n_impl_zero [8, 10]),
  o 5 (.box y_t_impl_Series 2 (.c (.agg #[.int .i64 0, .slice none 0 0]))),
  e (.store 2 5 11)])
 (.seq (.seq (.region false [p 12 (.fieldAddr 1 5),
  o 13 (.load 1 false 12),
  p 14 (.len  13),
  mc 15 (k 0)])
 (.block 0
 (.loop [2, 3, 4, 5, 14, 15] [(.exit 0, [4, 5])] l_impl_Series_plus_0)))
 (.seq (.region false [o 37 (.load 2 true 5),
  e (.store 2 4 37)])
 (.ret))))
theorem c_impl_Series_plus : FF n_impl_Series_plus = some ⟨38, y_impl_Series_plus.er, [.cell 4 2 true]⟩ := by kernel_rfl
def p_impl_Series_plus (a0 a1 : Value) (h : Hp) (R : Value → Hp → Prop) : Prop :=
  bindO (boxV 2 a0) fun c2 => newB h ⟨c2, y_t_impl_Series, true⟩ fun b2 h1 => bindO (boxV 2 a1) fun c3 => newB h1 ⟨c3, y_t_impl_Series, true⟩ fun b3 h2 => bindO (boxV 2 (.agg #[.int .i64 0, .slice none 0 0])) fun c4 => newB h2 ⟨c4, y_t_impl_Series, true⟩ fun b4 h3 => bindO (fieldAddrV 0 (.pointer (some ⟨b2, 0, none⟩))) fun v7 => inB h3.nx v7 ∧ (bindO (ldV 1 false h3 v7) fun v8 => bindO (ldV 2 true h3 (.pointer (some ⟨b2, 0, none⟩))) fun v9 => CallW FF n_impl_Series_degree [v9] h3 fun v10 h4 => keepB h3.nx h3 h4 ∧ (CallW FF n_impl_zero [v8, v10] h4 fun v11 h5 => bindO (boxV 2 (.agg #[.int .i64 0, .slice none 0 0])) fun c5 => newB h5 ⟨c5, y_t_impl_Series, true⟩ fun b5 h6 => bindO (storeV 2 h6 v11 (.pointer (some ⟨b5, 0, none⟩))) fun h7 => bindO (fieldAddrV 1 (.pointer (some ⟨b5, 0, none⟩))) fun v12 => bindO (ldV 1 false h7 v12) fun v13 => bindO (lenV  v13) fun v14 => LP FF (YC.er l_impl_Series_plus_0) [2, 3, 4, 5, 14, 15] [(.exit 0, [4, 5], fun vs h8 => ∀ e : Env, [e 4, e 5] = vs → bindO (ldV 2 true h8 (e 5)) fun v37 => bindO (storeV 2 h8 v37 (e 4)) fun h9 => bindO (ldV 2 true h9 (e 4)) fun r4 => R r4 h9)] [(.pointer (some ⟨b2, 0, none⟩)), (.pointer (some ⟨b3, 0, none⟩)), (.pointer (some ⟨b4, 0, none⟩)), (.pointer (some ⟨b5, 0, none⟩)), v14, (.int .i64 0)] h7))
theorem w_impl_Series_plus {a0 a1 : Value} {h : Hp} {R : Value → Hp → Prop} (H : p_impl_Series_plus a0 a1 h R) : CallW FF n_impl_Series_plus [a0, a1] h R := callV_fin c_impl_Series_plus (Eq.mp (by kernel_rfl) H)
def l_impl_Series_scaled_0 : YC :=
  .seq (.region false [p 17 (.bin .lss 16 15)])
 (.seq (.cond 17
 (.skip)
 (.exit 0))
 (.seq (.block 1
 (.seq (.region false [m 18 16,
  p 19 (.indexAddr 1 14 16),
  o 20 (.load 1 false 19),
  m 6 18,
  m 7 20])
 (.region true [p 21 (.fieldAddr 1 5),
  ⟨some 22, .load 1 false 21, none, true⟩,
  m 23 6,
  p 24 (.fieldAddr 0 2),
  ⟨some 25, .load 1 false 24, none, true⟩,
  m 26 1,
  p 27 (.fieldAddr 0 2),
  o 28 (.load 1 false 27),
  ⟨some 29, cl n_impl_mod [26, 28], none, true⟩,
  m 30 7,
  ⟨some 31, cl n_impl_mul [25, 29, 30], none, true⟩,
  p 32 (.indexAddr 1 22 23),
  e (.store 1 32 31)])))
 (.region false [p 33 (.bin .add 16 (k 1)),
  m 16 33])))
def q_impl_Series_scaled_0 (a1 a2 a4 a5 a14 a15 a16 : Value) (h : Hp) (K K0 : Kont) : Prop :=
  bindO (binV .lss a16 a15) fun v17 => condM v17 (bindO (indexAddrV 1 a14 a16) fun v19 => bindO (ldV 1 false h v19) fun v20 => bindO (fieldAddrV 1 a5) fun v21 => inB h.nx v21 ∧ (bindO (ldV 1 false h v21) fun v22 => bindO (fieldAddrV 0 a2) fun v24 => inB h.nx v24 ∧ (bindO (ldV 1 false h v24) fun v25 => bindO (fieldAddrV 0 a2) fun v27 => bindO (ldV 1 false h v27) fun v28 => CallW FF n_impl_mod [a1, v28] h fun v29 h1 => keepB h.nx h h1 ∧ (CallW FF n_impl_mul [v25, v29, v20] h1 fun v31 h2 => keepB h.nx h1 h2 ∧ (bindO (indexAddrV 1 v22 a16) fun v32 => bindO (storeV 1 h2 v31 v32) fun h3 => bindO (binV .add a16 (.int .i64 1)) fun v33 => K [a1, a2, a4, a5, a14, a15, v33] h3))))) (K0 [a4, a5] h)
theorem wl_impl_Series_scaled_0 {a1 a2 a4 a5 a14 a15 a16 : Value} {h : Hp} {K K0 : Kont} (H : q_impl_Series_scaled_0 a1 a2 a4 a5 a14 a15 a16 h K K0) : ∀ e : Env, [e 1, e 2, e 4, e 5, e 14, e 15, e 16] = [a1, a2, a4, a5, a14, a15, a16] → V FF l_impl_Series_scaled_0 (qsel [1, 2, 4, 5, 14, 15, 16] K [(.exit 0, [4, 5], K0)]) ⟨e, h⟩ := by
  intro e he; cases he; exact Eq.mp (by kernel_rfl) H
def y_impl_Series_scaled : YC :=
  .seq (.region false [o 2 (.box y_t_impl_Series 2 0),
  o 4 (.box y_t_impl_Series 2 (.c (.agg #[.int .i64 0, .slice none 0 0])))])
 (.seq (.region true [p 8 (.fieldAddr 0 2),
  ⟨some 9, .load 1 false 8, none, true⟩,
  o 10 (.load 2 true 2),
  ⟨some 11, cl n_impl_Series_degree [10], none, true⟩,
  o 12 (cl n_impl_zero [9, 11]),
  o 5 (.box y_t_impl_Series 2 (.c (.agg #[.int .i64 0, .slice none 0 0]))),
  e (.store 2 5 12)])
 (.seq (.seq (.region false [p 13 (.fieldAddr 1 2),
  o 14 (.load 1 false 13),
  p 15 (.len  14),
  mc 16 (k 0)])
 (.block 0
 (.loop [1, 2, 4, 5, 14, 15, 16] [(.exit 0, [4, 5])] l_impl_Series_scaled_0)))
 (.seq (.region false [o 34 (.load 2 true 5),
  e (.store 2 4 34)])
 (.ret))))
theorem c_impl_Series_scaled : FF n_impl_Series_scaled = some ⟨35, y_impl_Series_scaled.er, [.cell 4 2 true]⟩ := by kernel_rfl
def p_impl_Series_scaled (a0 a1 : Value) (h : Hp) (R : Value → Hp → Prop) : Prop :=
  bindO (boxV 2 a0) fun c2 => newB h ⟨c2, y_t_impl_Series, true⟩ fun b2 h1 => bindO (boxV 2 (.agg #[.int .i64 0, .slice none 0 0])) fun c4 => newB h1 ⟨c4, y_t_impl_Series, true⟩ fun b4 h2 => bindO (fieldAddrV 0 (.pointer (some ⟨b2, 0, none⟩))) fun v8 => inB h2.nx v8 ∧ (bindO (ldV 1 false h2 v8) fun v9 => bindO (ldV 2 true h2 (.pointer (some ⟨b2, 0, none⟩))) fun v10 => CallW FF n_impl_Series_degree [v10] h2 fun v11 h3 => keepB h2.nx h2 h3 ∧ (CallW FF n_impl_zero [v9, v11] h3 fun v12 h4 => bindO (boxV 2 (.agg #[.int .i64 0, .slice none 0 0])) fun c5 => newB h4 ⟨c5, y_t_impl_Series, true⟩ fun b5 h5 => bindO (storeV 2 h5 v12 (.pointer (some ⟨b5, 0, none⟩))) fun h6 => bindO (fieldAddrV 1 (.pointer (some ⟨b2, 0, none⟩))) fun v13 => bindO (ldV 1 false h6 v13) fun v14 => bindO (lenV  v14) fun v15 => LP FF (YC.er l_impl_Series_scaled_0) [1, 2, 4, 5, 14, 15, 16] [(.exit 0, [4, 5], fun vs h7 => ∀ e : Env, [e 4, e 5] = vs → bindO (ldV 2 true h7 (e 5)) fun v34 => bindO (storeV 2 h7 v34 (e 4)) fun h8 => bindO (ldV 2 true h8 (e 4)) fun r4 => R r4 h8)] [a1, (.pointer (some ⟨b2, 0, none⟩)), (.pointer (some ⟨b4, 0, none⟩)), (.pointer (some ⟨b5, 0, none⟩)), v14, v15, (.int .i64 0)] h6))
theorem w_impl_Series_scaled {a0 a1 : Value} {h : Hp} {R : Value → Hp → Prop} (H : p_impl_Series_scaled a0 a1 h R) : CallW FF n_impl_Series_scaled [a0, a1] h R := callV_fin c_impl_Series_scaled (Eq.mp (by kernel_rfl) H)
def y_spec_l04Is : YC :=
  .seq (.region false [o 1 (.box y_t_impl_Plane 2 0),
  mc 2 (.c (.bool false))])
 (.seq (.region false [o 3 (.load 2 true 1),
  o 4 (cl n_spec_l03Is [3]),
  m 5 4,
  ⟨some 6, .load 2 true 1, some (5, true), false⟩,
  ⟨some 7, cl n_spec_l04Fault [6], some (5, true), false⟩,
  ⟨some 8, .p (.len  7), some (5, true), false⟩,
  ⟨some 9, .p (.bin .eql 8 (k 0)), some (5, true), false⟩,
  p 10 (.pick  5 9 (.c (.bool false))),
  m 2 10])
 (.ret))
theorem c_spec_l04Is : FF n_spec_l04Is = some ⟨11, y_spec_l04Is.er, [.tmp 2]⟩ := by kernel_rfl
def p_spec_l04Is (a0 : Value) (h : Hp) (R : Value → Hp → Prop) : Prop :=
  bindO (boxV 2 a0) fun c1 => newB h ⟨c1, y_t_impl_Plane, true⟩ fun b1 h1 => bindO (ldV 2 true h1 (.pointer (some ⟨b1, 0, none⟩))) fun v3 => CallW FF n_spec_l03Is [v3] h1 fun v4 h2 => condM v4 (bindO (ldV 2 true h2 (.pointer (some ⟨b1, 0, none⟩))) fun v6 => CallW FF n_spec_l04Fault [v6] h2 fun v7 h3 => bindO (lenV  v7) fun v8 => bindO (binV .eql v8 (.int .i64 0)) fun v9 => R v9 h3) (R (.bool false) h2)
theorem w_spec_l04Is {a0 : Value} {h : Hp} {R : Value → Hp → Prop} (H : p_spec_l04Is a0 h R) : CallW FF n_spec_l04Is [a0] h R := callV_fin c_spec_l04Is (Eq.mp (by kernel_rfl) H)
def y_spec_l16Point : YC :=
  .seq (.region false [o 2 (.box y_t_impl_Plane 2 0),
  mc 4 (.c (.bool false))])
 (.seq (.region false [m 5 1,
  p 6 (.len  5),
  o 7 (.load 2 true 2),
  o 8 (cl n_spec_l03Degree [7]),
  o 9 (cl n_spec_l01In [6, (k 1), 8]),
  m 10 9,
  ⟨some 11, .p (.fieldAddr 0 2), some (10, true), false⟩,
  ⟨some 12, .load 1 false 11, some (10, true), false⟩,
  ⟨some 13, .p (.move  1), some (10, true), false⟩,
  ⟨some 14, cl n_spec_l01Numbers [12, 13], some (10, true), false⟩,
  p 15 (.pick  10 14 (.c (.bool false))),
  m 4 15])
 (.ret))
theorem c_spec_l16Point : FF n_spec_l16Point = some ⟨16, y_spec_l16Point.er, [.tmp 4]⟩ := by kernel_rfl
def p_spec_l16Point (a0 a1 : Value) (h : Hp) (R : Value → Hp → Prop) : Prop :=
  bindO (boxV 2 a0) fun c2 => newB h ⟨c2, y_t_impl_Plane, true⟩ fun b2 h1 => bindO (lenV  a1) fun v6 => bindO (ldV 2 true h1 (.pointer (some ⟨b2, 0, none⟩))) fun v7 => CallW FF n_spec_l03Degree [v7] h1 fun v8 h2 => CallW FF n_spec_l01In [v6, (.int .i64 1), v8] h2 fun v9 h3 => condM v9 (bindO (fieldAddrV 0 (.pointer (some ⟨b2, 0, none⟩))) fun v11 => bindO (ldV 1 false h3 v11) fun v12 => CallW FF n_spec_l01Numbers [v12, a1] h3 fun v14 h4 => R v14 h4) (R (.bool false) h3)
theorem w_spec_l16Point {a0 a1 : Value} {h : Hp} {R : Value → Hp → Prop} (H : p_spec_l16Point a0 a1 h R) : CallW FF n_spec_l16Point [a0, a1] h R := callV_fin c_spec_l16Point (Eq.mp (by kernel_rfl) H)
def l_spec_l03Put_0 : YC :=
  .seq (.seq (.region false [m 32 14,
  m 33 1,
  m 34 13,
  p 35 (.indexAddr 1 33 34),
  o 36 (.load 1 false 35),
  p 37 (.len  36),
  p 38 (.bin .lss 32 37)])
 (.cond 38
 (.skip)
 (.exit 2)))
 (.seq (.block 3
 (.seq (.region false [m 41 1,
  m 42 13,
  p 43 (.indexAddr 1 41 42),
  o 44 (.load 1 false 43),
  m 45 14,
  p 46 (.indexAddr 1 44 45),
  o 47 (.load 1 false 46),
  p 48 (.bin .neq 47 (k 0))])
 (.cond 48
 (.region true [m 49 0,
  m 50 12,
  m 51 0,
  m 52 1,
  m 53 13,
  p 54 (.indexAddr 1 52 53),
  ⟨some 55, .load 1 false 54, none, true⟩,
  m 56 14,
  p 57 (.indexAddr 1 55 56),
  ⟨some 58, .load 1 false 57, none, true⟩,
  m 59 0,
  m 60 10,
  m 61 13,
  p 62 (.indexAddr 1 60 61),
  o 63 (.load 1 false 62),
  m 64 11,
  m 65 14,
  p 66 (.indexAddr 1 64 65),
  o 67 (.load 1 false 66),
  m 68 9,
  ⟨some 69, cl n_spec_l02Times [59, 63, 67, 68], none, true⟩,
  o 70 (cl n_spec_l02Scale [51, 58, 69]),
  o 71 (cl n_spec_l02Add [49, 50, 70]),
  m 12 71])
 (.skip))))
 (.region false [m 39 14,
  p 40 (.bin .add 39 (k 1)),
  m 14 40]))
def q_spec_l03Put_0 (a0 a1 a9 a10 a11 a12 a13 a14 : Value) (h : Hp) (K K0 : Kont) : Prop :=
  bindO (indexAddrV 1 a1 a13) fun v35 => bindO (ldV 1 false h v35) fun v36 => bindO (lenV  v36) fun v37 => bindO (binV .lss a14 v37) fun v38 => condM v38 (bindO (indexAddrV 1 a1 a13) fun v43 => bindO (ldV 1 false h v43) fun v44 => bindO (indexAddrV 1 v44 a14) fun v46 => bindO (ldV 1 false h v46) fun v47 => bindO (binV .neq v47 (.int .i64 0)) fun v48 => condM v48 (bindO (indexAddrV 1 a1 a13) fun v54 => inB h.nx v54 ∧ (bindO (ldV 1 false h v54) fun v55 => bindO (indexAddrV 1 v55 a14) fun v57 => inB h.nx v57 ∧ (bindO (ldV 1 false h v57) fun v58 => bindO (indexAddrV 1 a10 a13) fun v62 => bindO (ldV 1 false h v62) fun v63 => bindO (indexAddrV 1 a11 a14) fun v66 => bindO (ldV 1 false h v66) fun v67 => CallW FF n_spec_l02Times [a0, v63, v67, a9] h fun v69 h1 => keepB h.nx h h1 ∧ (CallW FF n_spec_l02Scale [a0, v58, v69] h1 fun v70 h2 => CallW FF n_spec_l02Add [a0, a12, v70] h2 fun v71 h3 => bindO (binV .add a14 (.int .i64 1)) fun v40 => K [a0, a1, a9, a10, a11, v71, a13, v40] h3)))) (bindO (binV .add a14 (.int .i64 1)) fun v40 => K [a0, a1, a9, a10, a11, a12, a13, v40] h)) (K0 [a0, a1, a9, a10, a11, a12, a13] h)
theorem wl_spec_l03Put_0 {a0 a1 a9 a10 a11 a12 a13 a14 : Value} {h : Hp} {K K0 : Kont} (H : q_spec_l03Put_0 a0 a1 a9 a10 a11 a12 a13 a14 h K K0) : ∀ e : Env, [e 0, e 1, e 9, e 10, e 11, e 12, e 13, e 14] = [a0, a1, a9, a10, a11, a12, a13, a14] → V FF l_spec_l03Put_0 (qsel [0, 1, 9, 10, 11, 12, 13, 14] K [(.exit 2, [0, 1, 9, 10, 11, 12, 13], K0)]) ⟨e, h⟩ := by
  intro e he; cases he; exact Eq.mp (by kernel_rfl) H
def l_spec_l03Put_1 : YC :=
  .seq (.seq (.region false [m 27 13,
  m 28 9,
  p 29 (.bin .leq 27 28)])
 (.cond 29
 (.skip)
 (.exit 0)))
 (.seq (.block 1
 (.seq (.region false [mc 14 (k 0)])
 (.block 2
 (.loop [0, 1, 9, 10, 11, 12, 13, 14] [(.exit 2, [0, 1, 9, 10, 11, 12, 13])] l_spec_l03Put_0))))
 (.region false [m 30 13,
  p 31 (.bin .add 30 (k 1)),
  m 13 31]))
def q_spec_l03Put_1 (a0 a1 a9 a10 a11 a12 a13 : Value) (h : Hp) (K K0 : Kont) : Prop :=
  bindO (binV .leq a13 a9) fun v29 => condM v29 (LP FF (YC.er l_spec_l03Put_0) [0, 1, 9, 10, 11, 12, 13, 14] [(.exit 2, [0, 1, 9, 10, 11, 12, 13], fun vs h1 => ∀ e : Env, [e 0, e 1, e 9, e 10, e 11, e 12, e 13] = vs → bindO (binV .add (e 13) (.int .i64 1)) fun v31 => K [(e 0), (e 1), (e 9), (e 10), (e 11), (e 12), v31] h1)] [a0, a1, a9, a10, a11, a12, a13, (.int .i64 0)] h) (K0 [a12] h)
theorem wl_spec_l03Put_1 {a0 a1 a9 a10 a11 a12 a13 : Value} {h : Hp} {K K0 : Kont} (H : q_spec_l03Put_1 a0 a1 a9 a10 a11 a12 a13 h K K0) : ∀ e : Env, [e 0, e 1, e 9, e 10, e 11, e 12, e 13] = [a0, a1, a9, a10, a11, a12, a13] → V FF l_spec_l03Put_1 (qsel [0, 1, 9, 10, 11, 12, 13] K [(.exit 0, [12], K0)]) ⟨e, h⟩ := by
  intro e he; cases he; exact Eq.mp (by kernel_rfl) H
def y_spec_l03Put : YC :=
  .seq (.region false [mc 8 (.c (.slice none 0 0))])
 (.seq (.region false [m 15 1,
  p 16 (.len  15),
  p 17 (.bin .sub 16 (k 1)),
  m 9 17])
 (.seq (.region false [m 18 0,
  m 19 2,
  o 20 (cl n_spec_l03Powers [18, 19]),
  m 21 0,
  m 22 3,
  o 23 (cl n_spec_l03Powers [21, 22]),
  m 24 9,
  p 25 (.bin .add 24 (k 1)),
  o 26 (.make y_t_int64 1 8 [.int .i64 0] 25),
  m 10 20,
  m 11 23,
  m 12 26])
 (.seq (.seq (.region false [mc 13 (k 0)])
 (.block 0
 (.loop [0, 1, 9, 10, 11, 12, 13] [(.exit 0, [12])] l_spec_l03Put_1)))
 (.seq (.region false [m 72 12,
  m 8 72])
 (.ret)))))
theorem c_spec_l03Put : FF n_spec_l03Put = some ⟨73, y_spec_l03Put.er, [.tmp 8]⟩ := by kernel_rfl
def p_spec_l03Put (a0 a1 a2 a3 : Value) (h : Hp) (R : Value → Hp → Prop) : Prop :=
  bindO (lenV  a1) fun v16 => bindO (binV .sub v16 (.int .i64 1)) fun v17 => CallW FF n_spec_l03Powers [a0, a2] h fun v20 h1 => CallW FF n_spec_l03Powers [a0, a3] h1 fun v23 h2 => bindO (binV .add v17 (.int .i64 1)) fun v25 => bindO (makN v25) fun c26 => newB h2 ⟨reps c26 [.int .i64 0], y_t_int64, true⟩ fun b26 h3 => LP FF (YC.er l_spec_l03Put_1) [0, 1, 9, 10, 11, 12, 13] [(.exit 0, [12], fun vs h4 => ∀ e : Env, [e 12] = vs → R (e 12) h4)] [a0, a1, v17, v20, v23, (.slice (some ⟨b26, 0, none⟩) c26 1), (.int .i64 0)] h3
theorem w_spec_l03Put {a0 a1 a2 a3 : Value} {h : Hp} {R : Value → Hp → Prop} (H : p_spec_l03Put a0 a1 a2 a3 h R) : CallW FF n_spec_l03Put [a0, a1, a2, a3] h R := callV_fin c_spec_l03Put (Eq.mp (by kernel_rfl) H)
def y_spec_l03Make : YC :=
  .seq (.region false [o 4 (.box y_t_impl_Plane 2 (.c (.agg #[.int .i64 0, .slice none 0 0])))])
 (.seq (.region false [m 5 0,
  m 6 1,
  p 7 (.build [.int .i64 0, .slice none 0 0] [(0, 1, 5), (1, 1, 6)]),
  e (.store 2 4 7)])
 (.ret))
theorem c_spec_l03Make : FF n_spec_l03Make = some ⟨8, y_spec_l03Make.er, [.cell 4 2 true]⟩ := by kernel_rfl
def p_spec_l03Make (a0 a1 : Value) (h : Hp) (R : Value → Hp → Prop) : Prop :=
  bindO (boxV 2 (.agg #[.int .i64 0, .slice none 0 0])) fun c4 => newB h ⟨c4, y_t_impl_Plane, true⟩ fun b4 h1 => bindO ((fillX [.int .i64 0, .slice none 0 0] [(0, 1, a0), (1, 1, a1)]).map fun cs => Value.agg cs.toArray) fun v7 => bindO (storeV 2 h1 v7 (.pointer (some ⟨b4, 0, none⟩))) fun h2 => bindO (ldV 2 true h2 (.pointer (some ⟨b4, 0, none⟩))) fun r4 => R r4 h2
theorem w_spec_l03Make {a0 a1 : Value} {h : Hp} {R : Value → Hp → Prop} (H : p_spec_l03Make a0 a1 h R) : CallW FF n_spec_l03Make [a0, a1] h R := callV_fin c_spec_l03Make (Eq.mp (by kernel_rfl) H)
def l_spec_l03Cut_0 : YC :=
  .seq (.seq (.region false [m 8 6,
  m 9 1,
  p 10 (.bin .leq 8 9)])
 (.cond 10
 (.skip)
 (.exit 0)))
 (.seq (.block 1
 (.region false [m 13 5,
  m 14 0,
  m 15 6,
  p 16 (.indexAddr 1 14 15),
  o 17 (.load 1 false 16),
  m 18 1,
  m 19 6,
  p 20 (.bin .sub 18 19),
  p 21 (.bin .add 20 (k 1)),
  p 22 (.slice 1 17 none (some 21)),
  o 23 (cl n_spec_l01Own [22]),
  o 24 (.mkrow y_t_Lint64 1 1 [.slice none 0 0] [(0, 23)]),
  o 25 (.append y_t_Lint64 1 24 13 24),
  m 5 25]))
 (.region false [m 11 6,
  p 12 (.bin .add 11 (k 1)),
  m 6 12]))
def q_spec_l03Cut_0 (a0 a1 a5 a6 : Value) (h : Hp) (K K0 : Kont) : Prop :=
  bindO (binV .leq a6 a1) fun v10 => condM v10 (bindO (indexAddrV 1 a0 a6) fun v16 => bindO (ldV 1 false h v16) fun v17 => bindO (binV .sub a1 a6) fun v20 => bindO (binV .add v20 (.int .i64 1)) fun v21 => bindO (sliceV 1 none (some v21) v17) fun v22 => CallW FF n_spec_l01Own [v22] h fun v23 h1 => bindO (rowV 1 1 [.slice none 0 0] [(0, v23)]) fun c24 => newB h1 ⟨c24, y_t_Lint64, true⟩ fun b24 h2 => bindVH (appendV y_t_Lint64 1 h2 a5 (.slice (some ⟨b24, 0, none⟩) 1 1)) fun v25 h3 => bindO (binV .add a6 (.int .i64 1)) fun v12 => K [a0, a1, v25, v12] h3) (K0 [a5] h)
theorem wl_spec_l03Cut_0 {a0 a1 a5 a6 : Value} {h : Hp} {K K0 : Kont} (H : q_spec_l03Cut_0 a0 a1 a5 a6 h K K0) : ∀ e : Env, [e 0, e 1, e 5, e 6] = [a0, a1, a5, a6] → V FF l_spec_l03Cut_0 (qsel [0, 1, 5, 6] K [(.exit 0, [5], K0)]) ⟨e, h⟩ := by
  intro e he; cases he; exact Eq.mp (by kernel_rfl) H
def y_spec_l03Cut : YC :=
  .seq (.region false [mc 4 (.c (.slice none 0 0))])
 (.seq (.region false [o 7 (.mkrow y_t_Lint64 1 0 [.slice none 0 0] []),
  m 5 7])
 (.seq (.seq (.region false [mc 6 (k 0)])
 (.block 0
 (.loop [0, 1, 5, 6] [(.exit 0, [5])] l_spec_l03Cut_0)))
 (.seq (.region false [m 26 5,
  m 4 26])
 (.ret))))
theorem c_spec_l03Cut : FF n_spec_l03Cut = some ⟨27, y_spec_l03Cut.er, [.tmp 4]⟩ := by kernel_rfl
def p_spec_l03Cut (a0 a1 : Value) (h : Hp) (R : Value → Hp → Prop) : Prop :=
  bindO (rowV 1 0 [.slice none 0 0] []) fun c7 => newB h ⟨c7, y_t_Lint64, true⟩ fun b7 h1 => LP FF (YC.er l_spec_l03Cut_0) [0, 1, 5, 6] [(.exit 0, [5], fun vs h2 => ∀ e : Env, [e 5] = vs → R (e 5) h2)] [a0, a1, (.slice (some ⟨b7, 0, none⟩) 0 1), (.int .i64 0)] h1
theorem w_spec_l03Cut {a0 a1 : Value} {h : Hp} {R : Value → Hp → Prop} (H : p_spec_l03Cut a0 a1 h R) : CallW FF n_spec_l03Cut [a0, a1] h R := callV_fin c_spec_l03Cut (Eq.mp (by kernel_rfl) H)
def l_spec_l04Multiple_0 : YC :=
  .seq (.seq (.region false [m 20 1,
  p 21 (.bin .gtr 20 (k 0))])
 (.cond 21
 (.skip)
 (.exit 0)))
 (.seq (.block 1
 (.join [1, 2, 3, 7] (.seq (.region false [m 24 1,
  p 25 (.bin .rem 24 (k 2)),
  p 26 (.bin .eql 25 (k 1))])
 (.cond 26
 (.region false [p 27 (.fieldAddr 0 3),
  o 28 (.load 1 false 27),
  p 29 (.fieldAddr 1 3),
  o 30 (.load 1 false 29),
  m 31 7,
  m 32 2,
  o 33 (cl n_spec_l03Put [28, 30, 31, 32]),
  m 7 33])
 (.skip)))
 (.region false [p 34 (.fieldAddr 0 3),
  o 35 (.load 1 false 34),
  p 36 (.fieldAddr 1 3),
  o 37 (.load 1 false 36),
  m 38 2,
  m 39 2,
  o 40 (cl n_spec_l03Put [35, 37, 38, 39]),
  m 2 40])))
 (.region false [m 22 1,
  p 23 (.bin .quo 22 (k 2)),
  m 1 23]))
def q_spec_l04Multiple_0 (a1 a2 a3 a7 : Value) (h : Hp) (K K0 : Kont) : Prop :=
  bindO (binV .gtr a1 (.int .i64 0)) fun v21 => condM v21 (JN (fun J => bindO (binV .rem a1 (.int .i64 2)) fun v25 => bindO (binV .eql v25 (.int .i64 1)) fun v26 => condM v26 (bindO (fieldAddrV 0 a3) fun v27 => bindO (ldV 1 false h v27) fun v28 => bindO (fieldAddrV 1 a3) fun v29 => bindO (ldV 1 false h v29) fun v30 => CallW FF n_spec_l03Put [v28, v30, a7, a2] h fun v33 h1 => J [a1, a2, a3, v33] h1) (J [a1, a2, a3, a7] h)) fun vs h1 => ∀ e : Env, [e 1, e 2, e 3, e 7] = vs → bindO (fieldAddrV 0 (e 3)) fun v34 => bindO (ldV 1 false h1 v34) fun v35 => bindO (fieldAddrV 1 (e 3)) fun v36 => bindO (ldV 1 false h1 v36) fun v37 => CallW FF n_spec_l03Put [v35, v37, (e 2), (e 2)] h1 fun v40 h2 => bindO (binV .quo (e 1) (.int .i64 2)) fun v23 => K [v23, v40, (e 3), (e 7)] h2) (K0 [a7] h)
theorem wl_spec_l04Multiple_0 {a1 a2 a3 a7 : Value} {h : Hp} {K K0 : Kont} (H : q_spec_l04Multiple_0 a1 a2 a3 a7 h K K0) : ∀ e : Env, [e 1, e 2, e 3, e 7] = [a1, a2, a3, a7] → V FF l_spec_l04Multiple_0 (qsel [1, 2, 3, 7] K [(.exit 0, [7], K0)]) ⟨e, h⟩ := by
  intro e he; cases he; exact Eq.mp (by kernel_rfl) H
def y_spec_l04Multiple : YC :=
  .seq (.region false [o 3 (.box y_t_impl_Plane 2 0),
  mc 6 (.c (.slice none 0 0))])
 (.seq (.seq (.region false [m 8 1,
  p 9 (.bin .lss 8 (k 0))])
 (.cond 9
 (.seq (.region true [⟨some 10, .load 2 true 3, none, true⟩,
  o 11 (.load 2 true 3),
  m 12 1,
  p 13 (.un .neg 12),
  m 14 2,
  ⟨some 15, cl n_spec_l04Multiple [11, 13, 14], none, true⟩,
  o 16 (cl n_spec_l04Opposite [10, 15]),
  m 6 16])
 (.ret))
 (.skip)))
 (.seq (.region false [m 17 2,
  p 18 (.len  17),
  o 19 (.make y_t_int64 1 8 [.int .i64 0] 18),
  m 7 19])
 (.seq (.block 0
 (.loop [1, 2, 3, 7] [(.exit 0, [7])] l_spec_l04Multiple_0))
 (.seq (.region false [m 41 7,
  m 6 41])
 (.ret)))))
theorem c_spec_l04Multiple : FF n_spec_l04Multiple = some ⟨42, y_spec_l04Multiple.er, [.tmp 6]⟩ := by kernel_rfl
def p_spec_l04Multiple (a0 a1 a2 : Value) (h : Hp) (R : Value → Hp → Prop) : Prop :=
  bindO (boxV 2 a0) fun c3 => newB h ⟨c3, y_t_impl_Plane, true⟩ fun b3 h1 => bindO (binV .lss a1 (.int .i64 0)) fun v9 => condM v9 (inB h1.nx (.pointer (some ⟨b3, 0, none⟩)) ∧ (bindO (ldV 2 true h1 (.pointer (some ⟨b3, 0, none⟩))) fun v10 => bindO (ldV 2 true h1 (.pointer (some ⟨b3, 0, none⟩))) fun v11 => bindO (unV .neg a1) fun v13 => CallW FF n_spec_l04Multiple [v11, v13, a2] h1 fun v15 h2 => keepB h1.nx h1 h2 ∧ (CallW FF n_spec_l04Opposite [v10, v15] h2 fun v16 h3 => R v16 h3))) (bindO (lenV  a2) fun v18 => bindO (makN v18) fun c19 => newB h1 ⟨reps c19 [.int .i64 0], y_t_int64, true⟩ fun b19 h2 => LP FF (YC.er l_spec_l04Multiple_0) [1, 2, 3, 7] [(.exit 0, [7], fun vs h3 => ∀ e : Env, [e 7] = vs → R (e 7) h3)] [a1, a2, (.pointer (some ⟨b3, 0, none⟩)), (.slice (some ⟨b19, 0, none⟩) c19 1)] h2)
theorem w_spec_l04Multiple {a0 a1 a2 : Value} {h : Hp} {R : Value → Hp → Prop} (H : p_spec_l04Multiple a0 a1 a2 h R) : CallW FF n_spec_l04Multiple [a0, a1, a2] h R := callV_fin c_spec_l04Multiple (Eq.mp (by kernel_rfl) H)
def y_impl_Series_same : YC :=
  .seq (.region false [o 2 (.box y_t_impl_Series 2 0),
  o 3 (.box y_t_impl_Series 2 1),
  mc 4 (.c (.bool false))])
 (.seq (.region false [p 5 (.fieldAddr 0 2),
  o 6 (.load 1 false 5),
  p 7 (.fieldAddr 0 3),
  o 8 (.load 1 false 7),
  p 9 (.bin .eql 6 8),
  m 10 9,
  ⟨some 11, .p (.fieldAddr 1 2), some (10, true), false⟩,
  ⟨some 12, .load 1 false 11, some (10, true), false⟩,
  ⟨some 13, .p (.fieldAddr 1 3), some (10, true), false⟩,
  ⟨some 14, .load 1 false 13, some (10, true), false⟩,
  ⟨some 15, cl n_slices_Equal_Lint64_int64 [12, 14], some (10, true), false⟩,
  p 16 (.pick  10 15 (.c (.bool false))),
  m 4 16])
 (.ret))
theorem c_impl_Series_same : FF n_impl_Series_same = some ⟨17, y_impl_Series_same.er, [.tmp 4]⟩ := by kernel_rfl
def p_impl_Series_same (a0 a1 : Value) (h : Hp) (R : Value → Hp → Prop) : Prop :=
  bindO (boxV 2 a0) fun c2 => newB h ⟨c2, y_t_impl_Series, true⟩ fun b2 h1 => bindO (boxV 2 a1) fun c3 => newB h1 ⟨c3, y_t_impl_Series, true⟩ fun b3 h2 => bindO (fieldAddrV 0 (.pointer (some ⟨b2, 0, none⟩))) fun v5 => bindO (ldV 1 false h2 v5) fun v6 => bindO (fieldAddrV 0 (.pointer (some ⟨b3, 0, none⟩))) fun v7 => bindO (ldV 1 false h2 v7) fun v8 => bindO (binV .eql v6 v8) fun v9 => condM v9 (bindO (fieldAddrV 1 (.pointer (some ⟨b2, 0, none⟩))) fun v11 => bindO (ldV 1 false h2 v11) fun v12 => bindO (fieldAddrV 1 (.pointer (some ⟨b3, 0, none⟩))) fun v13 => bindO (ldV 1 false h2 v13) fun v14 => CallW FF n_slices_Equal_Lint64_int64 [v12, v14] h2 fun v15 h3 => R v15 h3) (R (.bool false) h2)
theorem w_impl_Series_same {a0 a1 : Value} {h : Hp} {R : Value → Hp → Prop} (H : p_impl_Series_same a0 a1 h R) : CallW FF n_impl_Series_same [a0, a1] h R := callV_fin c_impl_Series_same (Eq.mp (by kernel_rfl) H)
def y_impl_zero : YC :=
  .seq (.region false [o 4 (.box y_t_impl_Series 2 (.c (.agg #[.int .i64 0, .slice none 0 0])))])
 (.seq (.region false [m 5 0,
  m 6 1,
  p 7 (.bin .add 6 (k 1)),
  o 8 (.make y_t_int64 1 8 [.int .i64 0] 7),
  p 9 (.build [.int .i64 0, .slice none 0 0] [(0, 1, 5), (1, 1, 8)]),
  e (.store 2 4 9)])
 (.ret))
theorem c_impl_zero : FF n_impl_zero = some ⟨10, y_impl_zero.er, [.cell 4 2 true]⟩ := by kernel_rfl
def p_impl_zero (a0 a1 : Value) (h : Hp) (R : Value → Hp → Prop) : Prop :=
  bindO (boxV 2 (.agg #[.int .i64 0, .slice none 0 0])) fun c4 => newB h ⟨c4, y_t_impl_Series, true⟩ fun b4 h1 => bindO (binV .add a1 (.int .i64 1)) fun v7 => bindO (makN v7) fun c8 => newB h1 ⟨reps c8 [.int .i64 0], y_t_int64, true⟩ fun b8 h2 => bindO ((fillX [.int .i64 0, .slice none 0 0] [(0, 1, a0), (1, 1, (.slice (some ⟨b8, 0, none⟩) c8 1))]).map fun cs => Value.agg cs.toArray) fun v9 => bindO (storeV 2 h2 v9 (.pointer (some ⟨b4, 0, none⟩))) fun h3 => bindO (ldV 2 true h3 (.pointer (some ⟨b4, 0, none⟩))) fun r4 => R r4 h3
theorem w_impl_zero {a0 a1 : Value} {h : Hp} {R : Value → Hp → Prop} (H : p_impl_zero a0 a1 h R) : CallW FF n_impl_zero [a0, a1] h R := callV_fin c_impl_zero (Eq.mp (by kernel_rfl) H)
def y_impl_Plane_opposite : YC :=
  .seq (.region false [o 2 (.box y_t_impl_Plane 2 0),
  o 3 (.box y_t_impl_Series 2 1),
  o 4 (.box y_t_impl_Series 2 (.c (.agg #[.int .i64 0, .slice none 0 0])))])
 (.seq (.region true [o 5 (.load 2 true 2),
  ⟨some 6, cl n_impl_Plane_inverse [5], none, true⟩,
  ⟨some 7, .load 2 true 3, none, true⟩,
  o 8 (cl n_impl_Series_compose [6, 7]),
  e (.store 2 4 8)])
 (.ret))
theorem c_impl_Plane_opposite : FF n_impl_Plane_opposite = some ⟨9, y_impl_Plane_opposite.er, [.cell 4 2 true]⟩ := by kernel_rfl
def p_impl_Plane_opposite (a0 a1 : Value) (h : Hp) (R : Value → Hp → Prop) : Prop :=
  bindO (boxV 2 a0) fun c2 => newB h ⟨c2, y_t_impl_Plane, true⟩ fun b2 h1 => bindO (boxV 2 a1) fun c3 => newB h1 ⟨c3, y_t_impl_Series, true⟩ fun b3 h2 => bindO (boxV 2 (.agg #[.int .i64 0, .slice none 0 0])) fun c4 => newB h2 ⟨c4, y_t_impl_Series, true⟩ fun b4 h3 => bindO (ldV 2 true h3 (.pointer (some ⟨b2, 0, none⟩))) fun v5 => CallW FF n_impl_Plane_inverse [v5] h3 fun v6 h4 => keepB h3.nx h3 h4 ∧ (inB h3.nx (.pointer (some ⟨b3, 0, none⟩)) ∧ (bindO (ldV 2 true h4 (.pointer (some ⟨b3, 0, none⟩))) fun v7 => CallW FF n_impl_Series_compose [v6, v7] h4 fun v8 h5 => bindO (storeV 2 h5 v8 (.pointer (some ⟨b4, 0, none⟩))) fun h6 => bindO (ldV 2 true h6 (.pointer (some ⟨b4, 0, none⟩))) fun r4 => R r4 h6))
theorem w_impl_Plane_opposite {a0 a1 : Value} {h : Hp} {R : Value → Hp → Prop} (H : p_impl_Plane_opposite a0 a1 h R) : CallW FF n_impl_Plane_opposite [a0, a1] h R := callV_fin c_impl_Plane_opposite (Eq.mp (by kernel_rfl) H)
def y_impl_IsModulus : YC :=
  .seq (.region false [mc 2 (.c (.bool false))])
 (.seq (.region false [m 3 0,
  o 4 (cl n_impl_in [3, (k 2), (k 10000)]),
  m 2 4])
 (.ret))
theorem c_impl_IsModulus : FF n_impl_IsModulus = some ⟨5, y_impl_IsModulus.er, [.tmp 2]⟩ := by kernel_rfl
def p_impl_IsModulus (a0 : Value) (h : Hp) (R : Value → Hp → Prop) : Prop :=
  CallW FF n_impl_in [a0, (.int .i64 2), (.int .i64 10000)] h fun v4 h1 => R v4 h1
theorem w_impl_IsModulus {a0 : Value} {h : Hp} {R : Value → Hp → Prop} (H : p_impl_IsModulus a0 h R) : CallW FF n_impl_IsModulus [a0] h R := callV_fin c_impl_IsModulus (Eq.mp (by kernel_rfl) H)
def y_impl_standard_c1 : YC :=
  .seq (.region false [mc 3 (.c (.bool false))])
 (.seq (.region false [m 4 0,
  o 5 (.load 1 false 1),
  o 6 (cl n_impl_isNumber [4, 5]),
  m 3 6])
 (.ret))
theorem c_impl_standard_c1 : FF n_impl_standard_c1 = some ⟨7, y_impl_standard_c1.er, [.tmp 3]⟩ := by kernel_rfl
def p_impl_standard_c1 (a0 a1 : Value) (h : Hp) (R : Value → Hp → Prop) : Prop :=
  bindO (ldV 1 false h a1) fun v5 => CallW FF n_impl_isNumber [a0, v5] h fun v6 h1 => R v6 h1
theorem w_impl_standard_c1 {a0 a1 : Value} {h : Hp} {R : Value → Hp → Prop} (H : p_impl_standard_c1 a0 a1 h R) : CallW FF n_impl_standard_c1 [a0, a1] h R := callV_fin c_impl_standard_c1 (Eq.mp (by kernel_rfl) H)
def y_impl_variable : YC :=
  .seq (.region false [o 4 (.box y_t_impl_Series 2 (.c (.agg #[.int .i64 0, .slice none 0 0])))])
 (.seq (.region false [m 6 0,
  m 7 1,
  o 8 (cl n_impl_zero [6, 7]),
  o 5 (.box y_t_impl_Series 2 (.c (.agg #[.int .i64 0, .slice none 0 0]))),
  e (.store 2 5 8)])
 (.seq (.region false [p 9 (.fieldAddr 1 5),
  o 10 (.load 1 false 9),
  p 11 (.indexAddr 1 10 (k 1)),
  e (.store 1 11 (k 1))])
 (.seq (.region false [o 12 (.load 2 true 5),
  e (.store 2 4 12)])
 (.ret))))
theorem c_impl_variable : FF n_impl_variable = some ⟨13, y_impl_variable.er, [.cell 4 2 true]⟩ := by kernel_rfl
def p_impl_variable (a0 a1 : Value) (h : Hp) (R : Value → Hp → Prop) : Prop :=
  bindO (boxV 2 (.agg #[.int .i64 0, .slice none 0 0])) fun c4 => newB h ⟨c4, y_t_impl_Series, true⟩ fun b4 h1 => CallW FF n_impl_zero [a0, a1] h1 fun v8 h2 => bindO (boxV 2 (.agg #[.int .i64 0, .slice none 0 0])) fun c5 => newB h2 ⟨c5, y_t_impl_Series, true⟩ fun b5 h3 => bindO (storeV 2 h3 v8 (.pointer (some ⟨b5, 0, none⟩))) fun h4 => bindO (fieldAddrV 1 (.pointer (some ⟨b5, 0, none⟩))) fun v9 => bindO (ldV 1 false h4 v9) fun v10 => bindO (indexAddrV 1 v10 (.int .i64 1)) fun v11 => bindO (storeV 1 h4 (.int .i64 1) v11) fun h5 => bindO (ldV 2 true h5 (.pointer (some ⟨b5, 0, none⟩))) fun v12 => bindO (storeV 2 h5 v12 (.pointer (some ⟨b4, 0, none⟩))) fun h6 => bindO (ldV 2 true h6 (.pointer (some ⟨b4, 0, none⟩))) fun r4 => R r4 h6
theorem w_impl_variable {a0 a1 : Value} {h : Hp} {R : Value → Hp → Prop} (H : p_impl_variable a0 a1 h R) : CallW FF n_impl_variable [a0, a1] h R := callV_fin c_impl_variable (Eq.mp (by kernel_rfl) H)
def l_impl_onAxis_0 : YC :=
  .seq (.region false [p 17 (.bin .lss 16 15)])
 (.seq (.cond 17
 (.skip)
 (.exit 0))
 (.seq (.block 1
 (.seq (.region false [m 18 16,
  p 19 (.indexAddr 1 14 16),
  o 20 (.load 1 false 19),
  m 6 18,
  m 7 20])
 (.seq (.region false [m 21 1,
  p 22 (.bin .eql 21 (k 0))])
 (.cond 22
 (.region false [p 23 (.fieldAddr 1 5),
  o 24 (.load 1 false 23),
  m 25 6,
  p 26 (.indexAddr 1 24 25),
  o 27 (.load 1 false 26),
  m 28 7,
  p 29 (.indexAddr 1 27 (k 0)),
  e (.store 1 29 28)])
 (.region false [p 30 (.fieldAddr 1 5),
  o 31 (.load 1 false 30),
  p 32 (.indexAddr 1 31 (k 0)),
  o 33 (.load 1 false 32),
  m 34 6,
  m 35 7,
  p 36 (.indexAddr 1 33 34),
  e (.store 1 36 35)])))))
 (.region false [p 37 (.bin .add 16 (k 1)),
  m 16 37])))
def q_impl_onAxis_0 (a1 a4 a5 a14 a15 a16 : Value) (h : Hp) (K K0 : Kont) : Prop :=
  bindO (binV .lss a16 a15) fun v17 => condM v17 (bindO (indexAddrV 1 a14 a16) fun v19 => bindO (ldV 1 false h v19) fun v20 => bindO (binV .eql a1 (.int .i64 0)) fun v22 => condM v22 (bindO (fieldAddrV 1 a5) fun v23 => bindO (ldV 1 false h v23) fun v24 => bindO (indexAddrV 1 v24 a16) fun v26 => bindO (ldV 1 false h v26) fun v27 => bindO (indexAddrV 1 v27 (.int .i64 0)) fun v29 => bindO (storeV 1 h v20 v29) fun h1 => bindO (binV .add a16 (.int .i64 1)) fun v37 => K [a1, a4, a5, a14, a15, v37] h1) (bindO (fieldAddrV 1 a5) fun v30 => bindO (ldV 1 false h v30) fun v31 => bindO (indexAddrV 1 v31 (.int .i64 0)) fun v32 => bindO (ldV 1 false h v32) fun v33 => bindO (indexAddrV 1 v33 a16) fun v36 => bindO (storeV 1 h v20 v36) fun h1 => bindO (binV .add a16 (.int .i64 1)) fun v37 => K [a1, a4, a5, a14, a15, v37] h1)) (K0 [a4, a5] h)
theorem wl_impl_onAxis_0 {a1 a4 a5 a14 a15 a16 : Value} {h : Hp} {K K0 : Kont} (H : q_impl_onAxis_0 a1 a4 a5 a14 a15 a16 h K K0) : ∀ e : Env, [e 1, e 4, e 5, e 14, e 15, e 16] = [a1, a4, a5, a14, a15, a16] → V FF l_impl_onAxis_0 (qsel [1, 4, 5, 14, 15, 16] K [(.exit 0, [4, 5], K0)]) ⟨e, h⟩ := by
  intro e he; cases he; exact Eq.mp (by kernel_rfl) H
def y_impl_onAxis : YC :=
  .seq (.region false [o 2 (.box y_t_impl_Series 2 0),
  o 4 (.box y_t_impl_Plane 2 (.c (.agg #[.int .i64 0, .slice none 0 0])))])
 (.seq (.region true [p 8 (.fieldAddr 0 2),
  ⟨some 9, .load 1 false 8, none, true⟩,
  o 10 (.load 2 true 2),
  ⟨some 11, cl n_impl_Series_degree [10], none, true⟩,
  o 12 (cl n_impl_emptyPlane [9, 11]),
  o 5 (.box y_t_impl_Plane 2 (.c (.agg #[.int .i64 0, .slice none 0 0]))),
  e (.store 2 5 12)])
 (.seq (.seq (.region false [p 13 (.fieldAddr 1 2),
  o 14 (.load 1 false 13),
  p 15 (.len  14),
  mc 16 (k 0)])
 (.block 0
 (.loop [1, 4, 5, 14, 15, 16] [(.exit 0, [4, 5])] l_impl_onAxis_0)))
 (.seq (.region false [o 38 (.load 2 true 5),
  e (.store 2 4 38)])
 (.ret))))
theorem c_impl_onAxis : FF n_impl_onAxis = some ⟨39, y_impl_onAxis.er, [.cell 4 2 true]⟩ := by kernel_rfl
def p_impl_onAxis (a0 a1 : Value) (h : Hp) (R : Value → Hp → Prop) : Prop :=
  bindO (boxV 2 a0) fun c2 => newB h ⟨c2, y_t_impl_Series, true⟩ fun b2 h1 => bindO (boxV 2 (.agg #[.int .i64 0, .slice none 0 0])) fun c4 => newB h1 ⟨c4, y_t_impl_Plane, true⟩ fun b4 h2 => bindO (fieldAddrV 0 (.pointer (some ⟨b2, 0, none⟩))) fun v8 => inB h2.nx v8 ∧ (bindO (ldV 1 false h2 v8) fun v9 => bindO (ldV 2 true h2 (.pointer (some ⟨b2, 0, none⟩))) fun v10 => CallW FF n_impl_Series_degree [v10] h2 fun v11 h3 => keepB h2.nx h2 h3 ∧ (CallW FF n_impl_emptyPlane [v9, v11] h3 fun v12 h4 => bindO (boxV 2 (.agg #[.int .i64 0, .slice none 0 0])) fun c5 => newB h4 ⟨c5, y_t_impl_Plane, true⟩ fun b5 h5 => bindO (storeV 2 h5 v12 (.pointer (some ⟨b5, 0, none⟩))) fun h6 => bindO (fieldAddrV 1 (.pointer (some ⟨b2, 0, none⟩))) fun v13 => bindO (ldV 1 false h6 v13) fun v14 => bindO (lenV  v14) fun v15 => LP FF (YC.er l_impl_onAxis_0) [1, 4, 5, 14, 15, 16] [(.exit 0, [4, 5], fun vs h7 => ∀ e : Env, [e 4, e 5] = vs → bindO (ldV 2 true h7 (e 5)) fun v38 => bindO (storeV 2 h7 v38 (e 4)) fun h8 => bindO (ldV 2 true h8 (e 4)) fun r4 => R r4 h8)] [a1, (.pointer (some ⟨b4, 0, none⟩)), (.pointer (some ⟨b5, 0, none⟩)), v14, v15, (.int .i64 0)] h6))
theorem w_impl_onAxis {a0 a1 : Value} {h : Hp} {R : Value → Hp → Prop} (H : p_impl_onAxis a0 a1 h R) : CallW FF n_impl_onAxis [a0, a1] h R := callV_fin c_impl_onAxis (Eq.mp (by kernel_rfl) H)
def l_impl_Plane_mapped_0 : YC :=
  .seq (.region false [p 25 (.bin .lss 24 23)])
 (.seq (.cond 25
 (.skip)
 (.exit 2))
 (.seq (.block 3
 (.seq (.region false [m 26 24,
  m 8 26])
 (.region true [m 27 7,
  m 28 8,
  m 29 1,
  m 30 6,
  m 31 8,
  ⟨some 32, .call 29 [30, 31], none, true⟩,
  p 33 (.fieldAddr 0 2),
  ⟨some 34, .load 1 false 33, none, true⟩,
  o 35 (cl n_impl_mod [32, 34]),
  p 36 (.indexAddr 1 27 28),
  e (.store 1 36 35)])))
 (.region false [p 37 (.bin .add 24 (k 1)),
  m 24 37])))
def q_impl_Plane_mapped_0 (a1 a2 a4 a5 a6 a7 a15 a16 a17 a23 a24 : Value) (h : Hp) (K K0 : Kont) : Prop :=
  bindO (binV .lss a24 a23) fun v25 => condM v25 (CallV FF a1 [a6, a24] h fun v32 h1 => keepB h.nx h h1 ∧ (bindO (fieldAddrV 0 a2) fun v33 => inB h.nx v33 ∧ (bindO (ldV 1 false h1 v33) fun v34 => CallW FF n_impl_mod [v32, v34] h1 fun v35 h2 => bindO (indexAddrV 1 a7 a24) fun v36 => bindO (storeV 1 h2 v35 v36) fun h3 => bindO (binV .add a24 (.int .i64 1)) fun v37 => K [a1, a2, a4, a5, a6, a7, a15, a16, a17, a23, v37] h3))) (K0 [a1, a2, a4, a5, a15, a16, a17] h)
theorem wl_impl_Plane_mapped_0 {a1 a2 a4 a5 a6 a7 a15 a16 a17 a23 a24 : Value} {h : Hp} {K K0 : Kont} (H : q_impl_Plane_mapped_0 a1 a2 a4 a5 a6 a7 a15 a16 a17 a23 a24 h K K0) : ∀ e : Env, [e 1, e 2, e 4, e 5, e 6, e 7, e 15, e 16, e 17, e 23, e 24] = [a1, a2, a4, a5, a6, a7, a15, a16, a17, a23, a24] → V FF l_impl_Plane_mapped_0 (qsel [1, 2, 4, 5, 6, 7, 15, 16, 17, 23, 24] K [(.exit 2, [1, 2, 4, 5, 15, 16, 17], K0)]) ⟨e, h⟩ := by
  intro e he; cases he; exact Eq.mp (by kernel_rfl) H
def l_impl_Plane_mapped_1 : YC :=
  .seq (.region false [p 18 (.bin .lss 17 16)])
 (.seq (.cond 18
 (.skip)
 (.exit 0))
 (.seq (.block 1
 (.seq (.region false [m 19 17,
  p 20 (.indexAddr 1 15 17),
  o 21 (.load 1 false 20),
  m 6 19,
  m 7 21])
 (.seq (.region false [m 22 7,
  p 23 (.len  22),
  mc 24 (k 0)])
 (.block 2
 (.loop [1, 2, 4, 5, 6, 7, 15, 16, 17, 23, 24] [(.exit 2, [1, 2, 4, 5, 15, 16, 17])] l_impl_Plane_mapped_0)))))
 (.region false [p 38 (.bin .add 17 (k 1)),
  m 17 38])))
def q_impl_Plane_mapped_1 (a1 a2 a4 a5 a15 a16 a17 : Value) (h : Hp) (K K0 : Kont) : Prop :=
  bindO (binV .lss a17 a16) fun v18 => condM v18 (bindO (indexAddrV 1 a15 a17) fun v20 => bindO (ldV 1 false h v20) fun v21 => bindO (lenV  v21) fun v23 => LP FF (YC.er l_impl_Plane_mapped_0) [1, 2, 4, 5, 6, 7, 15, 16, 17, 23, 24] [(.exit 2, [1, 2, 4, 5, 15, 16, 17], fun vs h1 => ∀ e : Env, [e 1, e 2, e 4, e 5, e 15, e 16, e 17] = vs → bindO (binV .add (e 17) (.int .i64 1)) fun v38 => K [(e 1), (e 2), (e 4), (e 5), (e 15), (e 16), v38] h1)] [a1, a2, a4, a5, a17, v21, a15, a16, a17, v23, (.int .i64 0)] h) (K0 [a4, a5] h)
theorem wl_impl_Plane_mapped_1 {a1 a2 a4 a5 a15 a16 a17 : Value} {h : Hp} {K K0 : Kont} (H : q_impl_Plane_mapped_1 a1 a2 a4 a5 a15 a16 a17 h K K0) : ∀ e : Env, [e 1, e 2, e 4, e 5, e 15, e 16, e 17] = [a1, a2, a4, a5, a15, a16, a17] → V FF l_impl_Plane_mapped_1 (qsel [1, 2, 4, 5, 15, 16, 17] K [(.exit 0, [4, 5], K0)]) ⟨e, h⟩ := by
  intro e he; cases he; exact Eq.mp (by kernel_rfl) H
def y_impl_Plane_mapped : YC :=
  .seq (.region false [o 2 (.box y_t_impl_Plane 2 0),
  o 4 (.box y_t_impl_Plane 2 (.c (.agg #[.int .i64 0, .slice none 0 0])))])
 (.seq (.region true [p 9 (.fieldAddr 0 2),
  ⟨some 10, .load 1 false 9, none, true⟩,
  o 11 (.load 2 true 2),
  ⟨some 12, cl n_impl_Plane_degree [11], none, true⟩,
  o 13 (cl n_impl_emptyPlane [10, 12]),
  o 5 (.box y_t_impl_Plane 2 (.c (.agg #[.int .i64 0, .slice none 0 0]))),
  e (.store 2 5 13)])
 (.seq (.seq (.region false [p 14 (.fieldAddr 1 5),
  o 15 (.load 1 false 14),
  p 16 (.len  15),
  mc 17 (k 0)])
 (.block 0
 (.loop [1, 2, 4, 5, 15, 16, 17] [(.exit 0, [4, 5])] l_impl_Plane_mapped_1)))
 (.seq (.region false [o 39 (.load 2 true 5),
  e (.store 2 4 39)])
 (.ret))))
theorem c_impl_Plane_mapped : FF n_impl_Plane_mapped = some ⟨40, y_impl_Plane_mapped.er, [.cell 4 2 true]⟩ := by kernel_rfl
def p_impl_Plane_mapped (a0 a1 : Value) (h : Hp) (R : Value → Hp → Prop) : Prop :=
  bindO (boxV 2 a0) fun c2 => newB h ⟨c2, y_t_impl_Plane, true⟩ fun b2 h1 => bindO (boxV 2 (.agg #[.int .i64 0, .slice none 0 0])) fun c4 => newB h1 ⟨c4, y_t_impl_Plane, true⟩ fun b4 h2 => bindO (fieldAddrV 0 (.pointer (some ⟨b2, 0, none⟩))) fun v9 => inB h2.nx v9 ∧ (bindO (ldV 1 false h2 v9) fun v10 => bindO (ldV 2 true h2 (.pointer (some ⟨b2, 0, none⟩))) fun v11 => CallW FF n_impl_Plane_degree [v11] h2 fun v12 h3 => keepB h2.nx h2 h3 ∧ (CallW FF n_impl_emptyPlane [v10, v12] h3 fun v13 h4 => bindO (boxV 2 (.agg #[.int .i64 0, .slice none 0 0])) fun c5 => newB h4 ⟨c5, y_t_impl_Plane, true⟩ fun b5 h5 => bindO (storeV 2 h5 v13 (.pointer (some ⟨b5, 0, none⟩))) fun h6 => bindO (fieldAddrV 1 (.pointer (some ⟨b5, 0, none⟩))) fun v14 => bindO (ldV 1 false h6 v14) fun v15 => bindO (lenV  v15) fun v16 => LP FF (YC.er l_impl_Plane_mapped_1) [1, 2, 4, 5, 15, 16, 17] [(.exit 0, [4, 5], fun vs h7 => ∀ e : Env, [e 4, e 5] = vs → bindO (ldV 2 true h7 (e 5)) fun v39 => bindO (storeV 2 h7 v39 (e 4)) fun h8 => bindO (ldV 2 true h8 (e 4)) fun r4 => R r4 h8)] [a1, (.pointer (some ⟨b2, 0, none⟩)), (.pointer (some ⟨b4, 0, none⟩)), (.pointer (some ⟨b5, 0, none⟩)), v15, v16, (.int .i64 0)] h6))
theorem w_impl_Plane_mapped {a0 a1 : Value} {h : Hp} {R : Value → Hp → Prop} (H : p_impl_Plane_mapped a0 a1 h R) : CallW FF n_impl_Plane_mapped [a0, a1] h R := callV_fin c_impl_Plane_mapped (Eq.mp (by kernel_rfl) H)
def y_impl_Plane_plus_c1 : YC :=
  .seq (.region false [mc 6 (k 0)])
 (.seq (.region false [p 7 (.fieldAddr 1 2),
  o 8 (.load 1 false 7),
  m 9 0,
  p 10 (.indexAddr 1 8 9),
  o 11 (.load 1 false 10),
  m 12 1,
  p 13 (.indexAddr 1 11 12),
  o 14 (.load 1 false 13),
  p 15 (.fieldAddr 1 3),
  o 16 (.load 1 false 15),
  m 17 0,
  p 18 (.indexAddr 1 16 17),
  o 19 (.load 1 false 18),
  m 20 1,
  p 21 (.indexAddr 1 19 20),
  o 22 (.load 1 false 21),
  p 23 (.bin .add 14 22),
  m 6 23])
 (.ret))
theorem c_impl_Plane_plus_c1 : FF n_impl_Plane_plus_c1 = some ⟨24, y_impl_Plane_plus_c1.er, [.tmp 6]⟩ := by kernel_rfl
def p_impl_Plane_plus_c1 (a0 a1 a2 a3 : Value) (h : Hp) (R : Value → Hp → Prop) : Prop :=
  bindO (fieldAddrV 1 a2) fun v7 => bindO (ldV 1 false h v7) fun v8 => bindO (indexAddrV 1 v8 a0) fun v10 => bindO (ldV 1 false h v10) fun v11 => bindO (indexAddrV 1 v11 a1) fun v13 => bindO (ldV 1 false h v13) fun v14 => bindO (fieldAddrV 1 a3) fun v15 => bindO (ldV 1 false h v15) fun v16 => bindO (indexAddrV 1 v16 a0) fun v18 => bindO (ldV 1 false h v18) fun v19 => bindO (indexAddrV 1 v19 a1) fun v21 => bindO (ldV 1 false h v21) fun v22 => bindO (binV .add v14 v22) fun v23 => R v23 h
theorem w_impl_Plane_plus_c1 {a0 a1 a2 a3 : Value} {h : Hp} {R : Value → Hp → Prop} (H : p_impl_Plane_plus_c1 a0 a1 a2 a3 h R) : CallW FF n_impl_Plane_plus_c1 [a0, a1, a2, a3] h R := callV_fin c_impl_Plane_plus_c1 (Eq.mp (by kernel_rfl) H)
def y_impl_mul : YC :=
  .seq (.region false [mc 6 (k 0)])
 (.seq (.seq (.region false [m 11 0,
  p 12 (.bin .leq 11 (k 3000000000))])
 (.cond 12
 (.seq (.region false [m 13 1,
  m 14 2,
  p 15 (.bin .mul 13 14),
  m 16 0,
  p 17 (.bin .rem 15 16),
  m 6 17])
 (.ret))
 (.skip)))
 (.seq (.region false [m 19 1,
  p 20 (.conv .u64 19),
  m 21 2,
  p 22 (.conv .u64 21),
  o 23 (cl n_math_bits_Mul64 [20, 22]),
  m 18 23,
  p 24 (.extract 18 0),
  p 25 (.extract 18 1),
  m 7 24,
  m 8 25])
 (.seq (.region false [m 27 7,
  m 28 8,
  m 29 0,
  p 30 (.conv .u64 29),
  o 31 (cl n_math_bits_Div64 [27, 28, 30]),
  m 26 31,
  p 32 (.extract 26 0),
  p 33 (.extract 26 1),
  m 9 32,
  m 10 33])
 (.seq (.region false [m 34 10,
  p 35 (.conv .i64 34),
  m 6 35])
 (.ret)))))
theorem c_impl_mul : FF n_impl_mul = some ⟨36, y_impl_mul.er, [.tmp 6]⟩ := by kernel_rfl
def p_impl_mul (a0 a1 a2 : Value) (h : Hp) (R : Value → Hp → Prop) : Prop :=
  bindO (binV .leq a0 (.int .i64 3000000000)) fun v12 => condM v12 (bindO (binV .mul a1 a2) fun v15 => bindO (binV .rem v15 a0) fun v17 => R v17 h) (bindO (convV .u64 a1) fun v20 => bindO (convV .u64 a2) fun v22 => CallW FF n_math_bits_Mul64 [v20, v22] h fun v23 h1 => bindO (extractV 0 v23) fun v24 => bindO (extractV 1 v23) fun v25 => bindO (convV .u64 a0) fun v30 => CallW FF n_math_bits_Div64 [v24, v25, v30] h1 fun v31 h2 => bindO (extractV 0 v31) fun v32 => bindO (extractV 1 v31) fun v33 => bindO (convV .i64 v33) fun v35 => R v35 h2)
theorem w_impl_mul {a0 a1 a2 : Value} {h : Hp} {R : Value → Hp → Prop} (H : p_impl_mul a0 a1 a2 h R) : CallW FF n_impl_mul [a0, a1, a2] h R := callV_fin c_impl_mul (Eq.mp (by kernel_rfl) H)
def y_impl_Plane_scaled_c1 : YC :=
  .seq (.region false [mc 6 (k 0)])
 (.seq (.region true [p 7 (.fieldAddr 0 2),
  ⟨some 8, .load 1 false 7, none, true⟩,
  o 9 (.load 1 false 3),
  p 10 (.fieldAddr 0 2),
  o 11 (.load 1 false 10),
  ⟨some 12, cl n_impl_mod [9, 11], none, true⟩,
  p 13 (.fieldAddr 1 2),
  ⟨some 14, .load 1 false 13, none, true⟩,
  m 15 0,
  p 16 (.indexAddr 1 14 15),
  ⟨some 17, .load 1 false 16, none, true⟩,
  m 18 1,
  p 19 (.indexAddr 1 17 18),
  ⟨some 20, .load 1 false 19, none, true⟩,
  o 21 (cl n_impl_mul [8, 12, 20]),
  m 6 21])
 (.ret))
theorem c_impl_Plane_scaled_c1 : FF n_impl_Plane_scaled_c1 = some ⟨22, y_impl_Plane_scaled_c1.er, [.tmp 6]⟩ := by kernel_rfl
def p_impl_Plane_scaled_c1 (a0 a1 a2 a3 : Value) (h : Hp) (R : Value → Hp → Prop) : Prop :=
  bindO (fieldAddrV 0 a2) fun v7 => inB h.nx v7 ∧ (bindO (ldV 1 false h v7) fun v8 => bindO (ldV 1 false h a3) fun v9 => bindO (fieldAddrV 0 a2) fun v10 => bindO (ldV 1 false h v10) fun v11 => CallW FF n_impl_mod [v9, v11] h fun v12 h1 => keepB h.nx h h1 ∧ (bindO (fieldAddrV 1 a2) fun v13 => inB h.nx v13 ∧ (bindO (ldV 1 false h1 v13) fun v14 => bindO (indexAddrV 1 v14 a0) fun v16 => inB h.nx v16 ∧ (bindO (ldV 1 false h1 v16) fun v17 => bindO (indexAddrV 1 v17 a1) fun v19 => inB h.nx v19 ∧ (bindO (ldV 1 false h1 v19) fun v20 => CallW FF n_impl_mul [v8, v12, v20] h1 fun v21 h2 => R v21 h2)))))
theorem w_impl_Plane_scaled_c1 {a0 a1 a2 a3 : Value} {h : Hp} {R : Value → Hp → Prop} (H : p_impl_Plane_scaled_c1 a0 a1 a2 a3 h R) : CallW FF n_impl_Plane_scaled_c1 [a0, a1, a2, a3] h R := callV_fin c_impl_Plane_scaled_c1 (Eq.mp (by kernel_rfl) H)
def y_impl_mod : YC :=
  .seq (.region false [mc 4 (k 0)])
 (.seq (.region false [m 5 0,
  m 6 1,
  p 7 (.bin .rem 5 6),
  m 8 1,
  p 9 (.bin .add 7 8),
  m 10 1,
  p 11 (.bin .rem 9 10),
  m 4 11])
 (.ret))
theorem c_impl_mod : FF n_impl_mod = some ⟨12, y_impl_mod.er, [.tmp 4]⟩ := by kernel_rfl
def p_impl_mod (a0 a1 : Value) (h : Hp) (R : Value → Hp → Prop) : Prop :=
  bindO (binV .rem a0 a1) fun v7 => bindO (binV .add v7 a1) fun v9 => bindO (binV .rem v9 a1) fun v11 => R v11 h
theorem w_impl_mod {a0 a1 : Value} {h : Hp} {R : Value → Hp → Prop} (H : p_impl_mod a0 a1 h R) : CallW FF n_impl_mod [a0, a1] h R := callV_fin c_impl_mod (Eq.mp (by kernel_rfl) H)
def y_impl_IsSeries : YC :=
  .seq (.region false [o 1 (.box y_t_impl_Series 2 0),
  mc 2 (.c (.bool false))])
 (.seq (.region false [p 3 (.fieldAddr 0 1),
  o 4 (.load 1 false 3),
  o 5 (cl n_impl_IsModulus [4]),
  m 6 5,
  ⟨some 7, .load 2 true 1, some (6, true), false⟩,
  ⟨some 8, cl n_impl_Series_degree [7], some (6, true), false⟩,
  ⟨some 9, cl n_impl_in [8, (k 1), (k 10)], some (6, true), false⟩,
  p 10 (.pick  6 9 (.c (.bool false))),
  m 11 10,
  ⟨some 12, .p (.fieldAddr 1 1), some (11, true), false⟩,
  ⟨some 13, .load 1 false 12, some (11, true), false⟩,
  ⟨some 14, .p (.mkfunc n_impl_IsSeries_c1 [] [1]), some (11, true), false⟩,
  ⟨some 15, cl n_impl_all_int64 [13, 14], some (11, true), false⟩,
  p 16 (.pick  11 15 (.c (.bool false))),
  m 2 16])
 (.ret))
theorem c_impl_IsSeries : FF n_impl_IsSeries = some ⟨17, y_impl_IsSeries.er, [.tmp 2]⟩ := by kernel_rfl
def p_impl_IsSeries (a0 : Value) (h : Hp) (R : Value → Hp → Prop) : Prop :=
  bindO (boxV 2 a0) fun c1 => newB h ⟨c1, y_t_impl_Series, true⟩ fun b1 h1 => bindO (fieldAddrV 0 (.pointer (some ⟨b1, 0, none⟩))) fun v3 => bindO (ldV 1 false h1 v3) fun v4 => CallW FF n_impl_IsModulus [v4] h1 fun v5 h2 => condM v5 (bindO (ldV 2 true h2 (.pointer (some ⟨b1, 0, none⟩))) fun v7 => CallW FF n_impl_Series_degree [v7] h2 fun v8 h3 => CallW FF n_impl_in [v8, (.int .i64 1), (.int .i64 10)] h3 fun v9 h4 => condM v9 (bindO (fieldAddrV 1 (.pointer (some ⟨b1, 0, none⟩))) fun v12 => bindO (ldV 1 false h4 v12) fun v13 => CallW FF n_impl_all_int64 [v13, (.func (.func n_impl_IsSeries_c1) #[] #[(.pointer (some ⟨b1, 0, none⟩))])] h4 fun v15 h5 => R v15 h5) (R (.bool false) h4)) (R (.bool false) h2)
theorem w_impl_IsSeries {a0 : Value} {h : Hp} {R : Value → Hp → Prop} (H : p_impl_IsSeries a0 h R) : CallW FF n_impl_IsSeries [a0] h R := callV_fin c_impl_IsSeries (Eq.mp (by kernel_rfl) H)
def y_impl_Series_alike : YC :=
  .seq (.region false [o 2 (.box y_t_impl_Series 2 0),
  o 3 (.box y_t_impl_Series 2 1),
  mc 4 (.c (.bool false))])
 (.seq (.region true [p 5 (.fieldAddr 0 2),
  o 6 (.load 1 false 5),
  p 7 (.fieldAddr 0 3),
  o 8 (.load 1 false 7),
  p 9 (.bin .eql 6 8),
  m 10 9,
  ⟨some 11, .load 2 true 2, some (10, true), false⟩,
  ⟨some 12, cl n_impl_Series_degree [11], some (10, true), true⟩,
  ⟨some 13, .load 2 true 3, some (10, true), true⟩,
  ⟨some 14, cl n_impl_Series_degree [13], some (10, true), false⟩,
  ⟨some 15, .p (.bin .eql 12 14), some (10, true), false⟩,
  p 16 (.pick  10 15 (.c (.bool false))),
  m 4 16])
 (.ret))
theorem c_impl_Series_alike : FF n_impl_Series_alike = some ⟨17, y_impl_Series_alike.er, [.tmp 4]⟩ := by kernel_rfl
def p_impl_Series_alike (a0 a1 : Value) (h : Hp) (R : Value → Hp → Prop) : Prop :=
  bindO (boxV 2 a0) fun c2 => newB h ⟨c2, y_t_impl_Series, true⟩ fun b2 h1 => bindO (boxV 2 a1) fun c3 => newB h1 ⟨c3, y_t_impl_Series, true⟩ fun b3 h2 => bindO (fieldAddrV 0 (.pointer (some ⟨b2, 0, none⟩))) fun v5 => bindO (ldV 1 false h2 v5) fun v6 => bindO (fieldAddrV 0 (.pointer (some ⟨b3, 0, none⟩))) fun v7 => bindO (ldV 1 false h2 v7) fun v8 => bindO (binV .eql v6 v8) fun v9 => condM v9 (bindO (ldV 2 true h2 (.pointer (some ⟨b2, 0, none⟩))) fun v11 => CallW FF n_impl_Series_degree [v11] h2 fun v12 h3 => keepB h2.nx h2 h3 ∧ (inB h2.nx (.pointer (some ⟨b3, 0, none⟩)) ∧ (bindO (ldV 2 true h3 (.pointer (some ⟨b3, 0, none⟩))) fun v13 => CallW FF n_impl_Series_degree [v13] h3 fun v14 h4 => bindO (binV .eql v12 v14) fun v15 => R v15 h4))) (R (.bool false) h2)
theorem w_impl_Series_alike {a0 a1 : Value} {h : Hp} {R : Value → Hp → Prop} (H : p_impl_Series_alike a0 a1 h R) : CallW FF n_impl_Series_alike [a0, a1] h R := callV_fin c_impl_Series_alike (Eq.mp (by kernel_rfl) H)
def y_impl_Series_degree : YC :=
  .seq (.region false [o 1 (.box y_t_impl_Series 2 0),
  mc 2 (k 0)])
 (.seq (.region false [p 3 (.fieldAddr 1 1),
  o 4 (.load 1 false 3),
  p 5 (.len  4),
  p 6 (.bin .sub 5 (k 1)),
  m 2 6])
 (.ret))
theorem c_impl_Series_degree : FF n_impl_Series_degree = some ⟨7, y_impl_Series_degree.er, [.tmp 2]⟩ := by kernel_rfl
def p_impl_Series_degree (a0 : Value) (h : Hp) (R : Value → Hp → Prop) : Prop :=
  bindO (boxV 2 a0) fun c1 => newB h ⟨c1, y_t_impl_Series, true⟩ fun b1 h1 => bindO (fieldAddrV 1 (.pointer (some ⟨b1, 0, none⟩))) fun v3 => bindO (ldV 1 false h1 v3) fun v4 => bindO (lenV  v4) fun v5 => bindO (binV .sub v5 (.int .i64 1)) fun v6 => R v6 h1
theorem w_impl_Series_degree {a0 : Value} {h : Hp} {R : Value → Hp → Prop} (H : p_impl_Series_degree a0 h R) : CallW FF n_impl_Series_degree [a0] h R := callV_fin c_impl_Series_degree (Eq.mp (by kernel_rfl) H)
def y_spec_l04Draw : YC :=
  .seq (.region false [o 2 (.box y_t_impl_Plane 2 (.c (.agg #[.int .i64 0, .slice none 0 0])))])
 (.seq (.region false [m 3 0,
  m 4 0,
  o 5 (cl n_spec_l04DrawModulus [4]),
  m 6 0,
  m 7 0,
  o 8 (cl n_spec_l01Next [7, (k 10)]),
  o 9 (.mkrow y_t_int64 1 7 [.int .i64 0] [(0, (k 1)), (1, (k 2)), (2, (k 3)), (3, (k 4)), (4, (k 6)), (5, (k 9)), (6, 8)]),
  o 10 (cl n_spec_l01Pick [6, 9]),
  p 11 (.bin .add (k 1) 10),
  o 12 (cl n_spec_l04With [3, 5, 11]),
  e (.store 2 2 12)])
 (.ret))
theorem c_spec_l04Draw : FF n_spec_l04Draw = some ⟨13, y_spec_l04Draw.er, [.cell 2 2 true]⟩ := by kernel_rfl
def p_spec_l04Draw (a0 : Value) (h : Hp) (R : Value → Hp → Prop) : Prop :=
  bindO (boxV 2 (.agg #[.int .i64 0, .slice none 0 0])) fun c2 => newB h ⟨c2, y_t_impl_Plane, true⟩ fun b2 h1 => CallW FF n_spec_l04DrawModulus [a0] h1 fun v5 h2 => CallW FF n_spec_l01Next [a0, (.int .i64 10)] h2 fun v8 h3 => bindO (rowV 1 7 [.int .i64 0] [(0, (.int .i64 1)), (1, (.int .i64 2)), (2, (.int .i64 3)), (3, (.int .i64 4)), (4, (.int .i64 6)), (5, (.int .i64 9)), (6, v8)]) fun c9 => newB h3 ⟨c9, y_t_int64, true⟩ fun b9 h4 => CallW FF n_spec_l01Pick [a0, (.slice (some ⟨b9, 0, none⟩) 7 1)] h4 fun v10 h5 => bindO (binV .add (.int .i64 1) v10) fun v11 => CallW FF n_spec_l04With [a0, v5, v11] h5 fun v12 h6 => bindO (storeV 2 h6 v12 (.pointer (some ⟨b2, 0, none⟩))) fun h7 => bindO (ldV 2 true h7 (.pointer (some ⟨b2, 0, none⟩))) fun r2 => R r2 h7
theorem w_spec_l04Draw {a0 : Value} {h : Hp} {R : Value → Hp → Prop} (H : p_spec_l04Draw a0 h R) : CallW FF n_spec_l04Draw [a0] h R := callV_fin c_spec_l04Draw (Eq.mp (by kernel_rfl) H)
def l_impl_IsPlane_0 : YC :=
  .seq (.region false [p 19 (.bin .lss 18 17)])
 (.seq (.cond 19
 (.skip)
 (.exit 0))
 (.seq (.block 1
 (.seq (.region false [m 20 18,
  p 21 (.indexAddr 1 16 18),
  o 22 (.load 1 false 21),
  m 3 20,
  m 4 22])
 (.seq (.region false [m 23 4,
  p 24 (.len  23),
  p 25 (.fieldAddr 1 1),
  o 26 (.load 1 false 25),
  p 27 (.len  26),
  m 28 3,
  p 29 (.bin .sub 27 28),
  p 30 (.bin .neq 24 29),
  m 31 30,
  ⟨some 32, .p (.move  4), some (31, false), false⟩,
  ⟨some 33, .p (.mkfunc n_impl_IsPlane_c1 [] [1]), some (31, false), false⟩,
  ⟨some 34, cl n_impl_all_int64 [32, 33], some (31, false), false⟩,
  ⟨some 35, .p (.un .not 34), some (31, false), false⟩,
  p 36 (.pick  31 (.c (.bool true)) 35)])
 (.cond 36
 (.seq (.region false [mc 2 (.c (.bool false))])
 (.ret))
 (.skip)))))
 (.region false [p 37 (.bin .add 18 (k 1)),
  m 18 37])))
def q_impl_IsPlane_0 (a1 a16 a17 a18 : Value) (h : Hp) (K K0 K1 : Kont) : Prop :=
  bindO (binV .lss a18 a17) fun v19 => condM v19 (bindO (indexAddrV 1 a16 a18) fun v21 => bindO (ldV 1 false h v21) fun v22 => bindO (lenV  v22) fun v24 => bindO (fieldAddrV 1 a1) fun v25 => bindO (ldV 1 false h v25) fun v26 => bindO (lenV  v26) fun v27 => bindO (binV .sub v27 a18) fun v29 => bindO (binV .neq v24 v29) fun v30 => condM v30 (K1 [(.bool false)] h) (CallW FF n_impl_all_int64 [v22, (.func (.func n_impl_IsPlane_c1) #[] #[a1])] h fun v34 h1 => bindO (unV .not v34) fun v35 => condM v35 (K1 [(.bool false)] h1) (bindO (binV .add a18 (.int .i64 1)) fun v37 => K [a1, a16, a17, v37] h1))) (K0 [] h)
theorem wl_impl_IsPlane_0 {a1 a16 a17 a18 : Value} {h : Hp} {K K0 K1 : Kont} (H : q_impl_IsPlane_0 a1 a16 a17 a18 h K K0 K1) : ∀ e : Env, [e 1, e 16, e 17, e 18] = [a1, a16, a17, a18] → V FF l_impl_IsPlane_0 (qsel [1, 16, 17, 18] K [(.exit 0, [], K0), (.ret, [2], K1)]) ⟨e, h⟩ := by
  intro e he; cases he; exact Eq.mp (by kernel_rfl) H
def y_impl_IsPlane : YC :=
  .seq (.region false [o 1 (.box y_t_impl_Plane 2 0),
  mc 2 (.c (.bool false))])
 (.seq (.seq (.region false [p 5 (.fieldAddr 0 1),
  o 6 (.load 1 false 5),
  o 7 (cl n_impl_IsModulus [6]),
  p 8 (.un .not 7),
  m 9 8,
  ⟨some 10, .load 2 true 1, some (9, false), false⟩,
  ⟨some 11, cl n_impl_Plane_degree [10], some (9, false), false⟩,
  ⟨some 12, cl n_impl_in [11, (k 1), (k 10)], some (9, false), false⟩,
  ⟨some 13, .p (.un .not 12), some (9, false), false⟩,
  p 14 (.pick  9 (.c (.bool true)) 13)])
 (.cond 14
 (.seq (.region false [mc 2 (.c (.bool false))])
 (.ret))
 (.skip)))
 (.seq (.seq (.region false [p 15 (.fieldAddr 1 1),
  o 16 (.load 1 false 15),
  p 17 (.len  16),
  mc 18 (k 0)])
 (.block 0
 (.loop [1, 16, 17, 18] [(.exit 0, []), (.ret, [2])] l_impl_IsPlane_0)))
 (.seq (.region false [mc 2 (.c (.bool true))])
 (.ret))))
theorem c_impl_IsPlane : FF n_impl_IsPlane = some ⟨38, y_impl_IsPlane.er, [.tmp 2]⟩ := by kernel_rfl
def p_impl_IsPlane (a0 : Value) (h : Hp) (R : Value → Hp → Prop) : Prop :=
  bindO (boxV 2 a0) fun c1 => newB h ⟨c1, y_t_impl_Plane, true⟩ fun b1 h1 => bindO (fieldAddrV 0 (.pointer (some ⟨b1, 0, none⟩))) fun v5 => bindO (ldV 1 false h1 v5) fun v6 => CallW FF n_impl_IsModulus [v6] h1 fun v7 h2 => bindO (unV .not v7) fun v8 => condM v8 (R (.bool false) h2) (bindO (ldV 2 true h2 (.pointer (some ⟨b1, 0, none⟩))) fun v10 => CallW FF n_impl_Plane_degree [v10] h2 fun v11 h3 => CallW FF n_impl_in [v11, (.int .i64 1), (.int .i64 10)] h3 fun v12 h4 => bindO (unV .not v12) fun v13 => condM v13 (R (.bool false) h4) (bindO (fieldAddrV 1 (.pointer (some ⟨b1, 0, none⟩))) fun v15 => bindO (ldV 1 false h4 v15) fun v16 => bindO (lenV  v16) fun v17 => LP FF (YC.er l_impl_IsPlane_0) [1, 16, 17, 18] [(.exit 0, [], fun vs h5 => ∀ e : Env, [] = vs → R (.bool true) h5), (.ret, [2], fun vs h5 => ∀ e : Env, [e 2] = vs → R (e 2) h5)] [(.pointer (some ⟨b1, 0, none⟩)), v16, v17, (.int .i64 0)] h4))
theorem w_impl_IsPlane {a0 : Value} {h : Hp} {R : Value → Hp → Prop} (H : p_impl_IsPlane a0 h R) : CallW FF n_impl_IsPlane [a0] h R := callV_fin c_impl_IsPlane (Eq.mp (by kernel_rfl) H)
def l_impl_axioms_0 : YC :=
  .seq (.region false [p 17 (.bin .lss 16 15)])
 (.seq (.cond 17
 (.skip)
 (.exit 0))
 (.seq (.block 1
 (.seq (.region false [m 18 16,
  m 3 18])
 (.seq (.region false [mc 4 (k 0)])
 (.join [1, 3, 4, 15, 16] (.seq (.region false [m 19 3,
  p 20 (.bin .eql 19 (k 1))])
 (.cond 20
 (.region false [mc 4 (k 1)])
 (.skip)))
 (.seq (.region false [p 21 (.fieldAddr 1 1),
  o 22 (.load 1 false 21),
  m 23 3,
  p 24 (.indexAddr 1 22 23),
  o 25 (.load 1 false 24),
  p 26 (.indexAddr 1 25 (k 0)),
  o 27 (.load 1 false 26),
  m 28 4,
  p 29 (.bin .neq 27 28)])
 (.cond 29
 (.seq (.region false [m 30 3,
  o 31 (.mkrow y_t_int64 1 2 [.int .i64 0] [(0, (k 0)), (1, 30)]),
  m 2 31])
 (.ret))
 (.skip)))))))
 (.region false [p 32 (.bin .add 16 (k 1)),
  m 16 32])))
def q_impl_axioms_0 (a1 a15 a16 : Value) (h : Hp) (K K0 K1 : Kont) : Prop :=
  bindO (binV .lss a16 a15) fun v17 => condM v17 (JN (fun J => bindO (binV .eql a16 (.int .i64 1)) fun v20 => condM v20 (J [a1, a16, (.int .i64 1), a15, a16] h) (J [a1, a16, (.int .i64 0), a15, a16] h)) fun vs h1 => ∀ e : Env, [e 1, e 3, e 4, e 15, e 16] = vs → bindO (fieldAddrV 1 (e 1)) fun v21 => bindO (ldV 1 false h1 v21) fun v22 => bindO (indexAddrV 1 v22 (e 3)) fun v24 => bindO (ldV 1 false h1 v24) fun v25 => bindO (indexAddrV 1 v25 (.int .i64 0)) fun v26 => bindO (ldV 1 false h1 v26) fun v27 => bindO (binV .neq v27 (e 4)) fun v29 => condM v29 (bindO (rowV 1 2 [.int .i64 0] [(0, (.int .i64 0)), (1, (e 3))]) fun c31 => newB h1 ⟨c31, y_t_int64, true⟩ fun b31 h2 => K1 [(.slice (some ⟨b31, 0, none⟩) 2 1)] h2) (bindO (binV .add (e 16) (.int .i64 1)) fun v32 => K [(e 1), (e 15), v32] h1)) (K0 [a1] h)
theorem wl_impl_axioms_0 {a1 a15 a16 : Value} {h : Hp} {K K0 K1 : Kont} (H : q_impl_axioms_0 a1 a15 a16 h K K0 K1) : ∀ e : Env, [e 1, e 15, e 16] = [a1, a15, a16] → V FF l_impl_axioms_0 (qsel [1, 15, 16] K [(.exit 0, [1], K0), (.ret, [2], K1)]) ⟨e, h⟩ := by
  intro e he; cases he; exact Eq.mp (by kernel_rfl) H
def l_impl_axioms_1 : YC :=
  .seq (.seq (.region false [m 43 7,
  m 44 6,
  p 45 (.len  44),
  p 46 (.bin .lss 43 45)])
 (.cond 46
 (.skip)
 (.exit 4)))
 (.seq (.block 5
 (.seq (.region false [m 49 6,
  m 50 7,
  p 51 (.indexAddr 1 49 50),
  o 52 (.load 1 false 51),
  p 53 (.fieldAddr 1 1),
  o 54 (.load 1 false 53),
  m 55 7,
  p 56 (.indexAddr 1 54 55),
  o 57 (.load 1 false 56),
  m 58 5,
  p 59 (.indexAddr 1 57 58),
  o 60 (.load 1 false 59),
  p 61 (.bin .neq 52 60)])
 (.cond 61
 (.seq (.region false [m 62 5,
  m 63 7,
  o 64 (.mkrow y_t_int64 1 3 [.int .i64 0] [(0, (k 1)), (1, 62), (2, 63)]),
  m 2 64])
 (.ret))
 (.skip))))
 (.region false [m 47 7,
  p 48 (.bin .add 47 (k 1)),
  m 7 48]))
def q_impl_axioms_1 (a1 a5 a6 a7 a34 a35 a36 : Value) (h : Hp) (K K0 K1 : Kont) : Prop :=
  bindO (lenV  a6) fun v45 => bindO (binV .lss a7 v45) fun v46 => condM v46 (bindO (indexAddrV 1 a6 a7) fun v51 => bindO (ldV 1 false h v51) fun v52 => bindO (fieldAddrV 1 a1) fun v53 => bindO (ldV 1 false h v53) fun v54 => bindO (indexAddrV 1 v54 a7) fun v56 => bindO (ldV 1 false h v56) fun v57 => bindO (indexAddrV 1 v57 a5) fun v59 => bindO (ldV 1 false h v59) fun v60 => bindO (binV .neq v52 v60) fun v61 => condM v61 (bindO (rowV 1 3 [.int .i64 0] [(0, (.int .i64 1)), (1, a5), (2, a7)]) fun c64 => newB h ⟨c64, y_t_int64, true⟩ fun b64 h1 => K1 [(.slice (some ⟨b64, 0, none⟩) 3 1)] h1) (bindO (binV .add a7 (.int .i64 1)) fun v48 => K [a1, a5, a6, v48, a34, a35, a36] h)) (K0 [a1, a34, a35, a36] h)
theorem wl_impl_axioms_1 {a1 a5 a6 a7 a34 a35 a36 : Value} {h : Hp} {K K0 K1 : Kont} (H : q_impl_axioms_1 a1 a5 a6 a7 a34 a35 a36 h K K0 K1) : ∀ e : Env, [e 1, e 5, e 6, e 7, e 34, e 35, e 36] = [a1, a5, a6, a7, a34, a35, a36] → V FF l_impl_axioms_1 (qsel [1, 5, 6, 7, 34, 35, 36] K [(.exit 4, [1, 34, 35, 36], K0), (.ret, [2], K1)]) ⟨e, h⟩ := by
  intro e he; cases he; exact Eq.mp (by kernel_rfl) H
def l_impl_axioms_2 : YC :=
  .seq (.region false [p 37 (.bin .lss 36 35)])
 (.seq (.cond 37
 (.skip)
 (.exit 2))
 (.seq (.block 3
 (.seq (.region false [m 38 36,
  p 39 (.indexAddr 1 34 36),
  o 40 (.load 1 false 39),
  m 5 38,
  m 6 40])
 (.seq (.region false [m 41 5,
  p 42 (.bin .add 41 (k 1)),
  m 7 42])
 (.block 4
 (.loop [1, 5, 6, 7, 34, 35, 36] [(.exit 4, [1, 34, 35, 36]), (.ret, [2])] l_impl_axioms_1)))))
 (.region false [p 65 (.bin .add 36 (k 1)),
  m 36 65])))
def q_impl_axioms_2 (a1 a34 a35 a36 : Value) (h : Hp) (K K0 K1 : Kont) : Prop :=
  bindO (binV .lss a36 a35) fun v37 => condM v37 (bindO (indexAddrV 1 a34 a36) fun v39 => bindO (ldV 1 false h v39) fun v40 => bindO (binV .add a36 (.int .i64 1)) fun v42 => LP FF (YC.er l_impl_axioms_1) [1, 5, 6, 7, 34, 35, 36] [(.exit 4, [1, 34, 35, 36], fun vs h1 => ∀ e : Env, [e 1, e 34, e 35, e 36] = vs → bindO (binV .add (e 36) (.int .i64 1)) fun v65 => K [(e 1), (e 34), (e 35), v65] h1), (.ret, [2], fun vs h1 => ∀ e : Env, [e 2] = vs → K1 [(e 2)] h1)] [a1, a36, v40, v42, a34, a35, a36] h) (K0 [a1] h)
theorem wl_impl_axioms_2 {a1 a34 a35 a36 : Value} {h : Hp} {K K0 K1 : Kont} (H : q_impl_axioms_2 a1 a34 a35 a36 h K K0 K1) : ∀ e : Env, [e 1, e 34, e 35, e 36] = [a1, a34, a35, a36] → V FF l_impl_axioms_2 (qsel [1, 34, 35, 36] K [(.exit 2, [1], K0), (.ret, [2], K1)]) ⟨e, h⟩ := by
  intro e he; cases he; exact Eq.mp (by kernel_rfl) H
def l_impl_axioms_3 : YC :=
  .seq (.seq (.region false [m 82 10,
  m 83 11,
  p 84 (.bin .add 82 83),
  m 85 12,
  p 86 (.bin .add 84 85),
  m 87 9,
  p 88 (.bin .leq 86 87)])
 (.cond 88
 (.skip)
 (.exit 10)))
 (.seq (.block 11
 (.seq (.region false [m 91 8,
  m 92 10,
  m 93 11,
  m 94 12,
  o 95 (.call 91 [92, 93, 94]),
  p 96 (.bin .neq 95 (k 0))])
 (.cond 96
 (.seq (.region false [m 97 10,
  m 98 11,
  m 99 12,
  o 100 (.mkrow y_t_int64 1 4 [.int .i64 0] [(0, (k 2)), (1, 97), (2, 98), (3, 99)]),
  m 2 100])
 (.ret))
 (.skip))))
 (.region false [m 89 12,
  p 90 (.bin .add 89 (k 1)),
  m 12 90]))
def q_impl_axioms_3 (a8 a9 a10 a11 a12 : Value) (h : Hp) (K K0 K1 : Kont) : Prop :=
  bindO (binV .add a10 a11) fun v84 => bindO (binV .add v84 a12) fun v86 => bindO (binV .leq v86 a9) fun v88 => condM v88 (CallV FF a8 [a10, a11, a12] h fun v95 h1 => bindO (binV .neq v95 (.int .i64 0)) fun v96 => condM v96 (bindO (rowV 1 4 [.int .i64 0] [(0, (.int .i64 2)), (1, a10), (2, a11), (3, a12)]) fun c100 => newB h1 ⟨c100, y_t_int64, true⟩ fun b100 h2 => K1 [(.slice (some ⟨b100, 0, none⟩) 4 1)] h2) (bindO (binV .add a12 (.int .i64 1)) fun v90 => K [a8, a9, a10, a11, v90] h1)) (K0 [a8, a9, a10, a11] h)
theorem wl_impl_axioms_3 {a8 a9 a10 a11 a12 : Value} {h : Hp} {K K0 K1 : Kont} (H : q_impl_axioms_3 a8 a9 a10 a11 a12 h K K0 K1) : ∀ e : Env, [e 8, e 9, e 10, e 11, e 12] = [a8, a9, a10, a11, a12] → V FF l_impl_axioms_3 (qsel [8, 9, 10, 11, 12] K [(.exit 10, [8, 9, 10, 11], K0), (.ret, [2], K1)]) ⟨e, h⟩ := by
  intro e he; cases he; exact Eq.mp (by kernel_rfl) H
def l_impl_axioms_4 : YC :=
  .seq (.seq (.region false [m 75 10,
  m 76 11,
  p 77 (.bin .add 75 76),
  m 78 9,
  p 79 (.bin .leq 77 78)])
 (.cond 79
 (.skip)
 (.exit 8)))
 (.seq (.block 9
 (.seq (.region false [mc 12 (k 0)])
 (.block 10
 (.loop [8, 9, 10, 11, 12] [(.exit 10, [8, 9, 10, 11]), (.ret, [2])] l_impl_axioms_3))))
 (.region false [m 80 11,
  p 81 (.bin .add 80 (k 1)),
  m 11 81]))
def q_impl_axioms_4 (a8 a9 a10 a11 : Value) (h : Hp) (K K0 K1 : Kont) : Prop :=
  bindO (binV .add a10 a11) fun v77 => bindO (binV .leq v77 a9) fun v79 => condM v79 (LP FF (YC.er l_impl_axioms_3) [8, 9, 10, 11, 12] [(.exit 10, [8, 9, 10, 11], fun vs h1 => ∀ e : Env, [e 8, e 9, e 10, e 11] = vs → bindO (binV .add (e 11) (.int .i64 1)) fun v81 => K [(e 8), (e 9), (e 10), v81] h1), (.ret, [2], fun vs h1 => ∀ e : Env, [e 2] = vs → K1 [(e 2)] h1)] [a8, a9, a10, a11, (.int .i64 0)] h) (K0 [a8, a9, a10] h)
theorem wl_impl_axioms_4 {a8 a9 a10 a11 : Value} {h : Hp} {K K0 K1 : Kont} (H : q_impl_axioms_4 a8 a9 a10 a11 h K K0 K1) : ∀ e : Env, [e 8, e 9, e 10, e 11] = [a8, a9, a10, a11] → V FF l_impl_axioms_4 (qsel [8, 9, 10, 11] K [(.exit 8, [8, 9, 10], K0), (.ret, [2], K1)]) ⟨e, h⟩ := by
  intro e he; cases he; exact Eq.mp (by kernel_rfl) H
def l_impl_axioms_5 : YC :=
  .seq (.seq (.region false [m 70 10,
  m 71 9,
  p 72 (.bin .leq 70 71)])
 (.cond 72
 (.skip)
 (.exit 6)))
 (.seq (.block 7
 (.seq (.region false [mc 11 (k 0)])
 (.block 8
 (.loop [8, 9, 10, 11] [(.exit 8, [8, 9, 10]), (.ret, [2])] l_impl_axioms_4))))
 (.region false [m 73 10,
  p 74 (.bin .add 73 (k 1)),
  m 10 74]))
def q_impl_axioms_5 (a8 a9 a10 : Value) (h : Hp) (K K0 K1 : Kont) : Prop :=
  bindO (binV .leq a10 a9) fun v72 => condM v72 (LP FF (YC.er l_impl_axioms_4) [8, 9, 10, 11] [(.exit 8, [8, 9, 10], fun vs h1 => ∀ e : Env, [e 8, e 9, e 10] = vs → bindO (binV .add (e 10) (.int .i64 1)) fun v74 => K [(e 8), (e 9), v74] h1), (.ret, [2], fun vs h1 => ∀ e : Env, [e 2] = vs → K1 [(e 2)] h1)] [a8, a9, a10, (.int .i64 0)] h) (K0 [] h)
theorem wl_impl_axioms_5 {a8 a9 a10 : Value} {h : Hp} {K K0 K1 : Kont} (H : q_impl_axioms_5 a8 a9 a10 h K K0 K1) : ∀ e : Env, [e 8, e 9, e 10] = [a8, a9, a10] → V FF l_impl_axioms_5 (qsel [8, 9, 10] K [(.exit 6, [], K0), (.ret, [2], K1)]) ⟨e, h⟩ := by
  intro e he; cases he; exact Eq.mp (by kernel_rfl) H
def y_impl_axioms : YC :=
  .seq (.region false [o 1 (.box y_t_impl_Plane 2 0),
  mc 2 (.c (.slice none 0 0))])
 (.seq (.seq (.region false [p 13 (.fieldAddr 1 1),
  o 14 (.load 1 false 13),
  p 15 (.len  14),
  mc 16 (k 0)])
 (.block 0
 (.loop [1, 15, 16] [(.exit 0, [1]), (.ret, [2])] l_impl_axioms_0)))
 (.seq (.seq (.region false [p 33 (.fieldAddr 1 1),
  o 34 (.load 1 false 33),
  p 35 (.len  34),
  mc 36 (k 0)])
 (.block 2
 (.loop [1, 34, 35, 36] [(.exit 2, [1]), (.ret, [2])] l_impl_axioms_2)))
 (.seq (.region false [o 66 (.load 2 true 1),
  o 67 (cl n_impl_defectsOf [66]),
  m 8 67])
 (.seq (.region false [o 68 (.load 2 true 1),
  o 69 (cl n_impl_Plane_degree [68]),
  m 9 69])
 (.seq (.seq (.region false [mc 10 (k 0)])
 (.block 6
 (.loop [8, 9, 10] [(.exit 6, []), (.ret, [2])] l_impl_axioms_5)))
 (.seq (.region false [mc 2 (.c (.slice none 0 0))])
 (.ret)))))))
theorem c_impl_axioms : FF n_impl_axioms = some ⟨101, y_impl_axioms.er, [.tmp 2]⟩ := by kernel_rfl
def p_impl_axioms (a0 : Value) (h : Hp) (R : Value → Hp → Prop) : Prop :=
  bindO (boxV 2 a0) fun c1 => newB h ⟨c1, y_t_impl_Plane, true⟩ fun b1 h1 => bindO (fieldAddrV 1 (.pointer (some ⟨b1, 0, none⟩))) fun v13 => bindO (ldV 1 false h1 v13) fun v14 => bindO (lenV  v14) fun v15 => LP FF (YC.er l_impl_axioms_0) [1, 15, 16] [(.exit 0, [1], fun vs h2 => ∀ e : Env, [e 1] = vs → bindO (fieldAddrV 1 (e 1)) fun v33 => bindO (ldV 1 false h2 v33) fun v34 => bindO (lenV  v34) fun v35 => LP FF (YC.er l_impl_axioms_2) [1, 34, 35, 36] [(.exit 2, [1], fun vs_1 h3 => ∀ e_1 : Env, [e_1 1] = vs_1 → bindO (ldV 2 true h3 (e_1 1)) fun v66 => CallW FF n_impl_defectsOf [v66] h3 fun v67 h4 => bindO (ldV 2 true h4 (e_1 1)) fun v68 => CallW FF n_impl_Plane_degree [v68] h4 fun v69 h5 => LP FF (YC.er l_impl_axioms_5) [8, 9, 10] [(.exit 6, [], fun vs_2 h6 => ∀ e_2 : Env, [] = vs_2 → R (.slice none 0 0) h6), (.ret, [2], fun vs_2 h6 => ∀ e_2 : Env, [e_2 2] = vs_2 → R (e_2 2) h6)] [v67, v69, (.int .i64 0)] h5), (.ret, [2], fun vs_1 h3 => ∀ e_1 : Env, [e_1 2] = vs_1 → R (e_1 2) h3)] [(e 1), v34, v35, (.int .i64 0)] h2), (.ret, [2], fun vs h2 => ∀ e : Env, [e 2] = vs → R (e 2) h2)] [(.pointer (some ⟨b1, 0, none⟩)), v15, (.int .i64 0)] h1
theorem w_impl_axioms {a0 : Value} {h : Hp} {R : Value → Hp → Prop} (H : p_impl_axioms a0 h R) : CallW FF n_impl_axioms [a0] h R := callV_fin c_impl_axioms (Eq.mp (by kernel_rfl) H)
def y_slices_ContainsFunc_Lint64_int64 : YC :=
  .seq (.region false [mc 4 (.c (.bool false))])
 (.seq (.region false [m 5 0,
  m 6 1,
  o 7 (cl n_slices_IndexFunc_Lint64_int64 [5, 6]),
  p 8 (.bin .geq 7 (k 0)),
  m 4 8])
 (.ret))
theorem c_slices_ContainsFunc_Lint64_int64 : FF n_slices_ContainsFunc_Lint64_int64 = some ⟨9, y_slices_ContainsFunc_Lint64_int64.er, [.tmp 4]⟩ := by kernel_rfl
def p_slices_ContainsFunc_Lint64_int64 (a0 a1 : Value) (h : Hp) (R : Value → Hp → Prop) : Prop :=
  CallW FF n_slices_IndexFunc_Lint64_int64 [a0, a1] h fun v7 h1 => bindO (binV .geq v7 (.int .i64 0)) fun v8 => R v8 h1
theorem w_slices_ContainsFunc_Lint64_int64 {a0 a1 : Value} {h : Hp} {R : Value → Hp → Prop} (H : p_slices_ContainsFunc_Lint64_int64 a0 a1 h R) : CallW FF n_slices_ContainsFunc_Lint64_int64 [a0, a1] h R := callV_fin c_slices_ContainsFunc_Lint64_int64 (Eq.mp (by kernel_rfl) H)
def y_impl_all_int64__c1 : YC :=
  .seq (.region false [mc 3 (.c (.bool false))])
 (.seq (.region false [o 4 (.load 1 false 1),
  m 5 0,
  o 6 (.call 4 [5]),
  p 7 (.un .not 6),
  m 3 7])
 (.ret))
theorem c_impl_all_int64__c1 : FF n_impl_all_int64__c1 = some ⟨8, y_impl_all_int64__c1.er, [.tmp 3]⟩ := by kernel_rfl
def p_impl_all_int64__c1 (a0 a1 : Value) (h : Hp) (R : Value → Hp → Prop) : Prop :=
  bindO (ldV 1 false h a1) fun v4 => CallV FF v4 [a0] h fun v6 h1 => bindO (unV .not v6) fun v7 => R v7 h1
theorem w_impl_all_int64__c1 {a0 a1 : Value} {h : Hp} {R : Value → Hp → Prop} (H : p_impl_all_int64__c1 a0 a1 h R) : CallW FF n_impl_all_int64__c1 [a0, a1] h R := callV_fin c_impl_all_int64__c1 (Eq.mp (by kernel_rfl) H)
def l_spec_l03Is_0 : YC :=
  .seq (.seq (.region false [m 20 4,
  m 21 3,
  p 22 (.bin .lss 20 21)])
 (.cond 22
 (.skip)
 (.exit 0)))
 (.seq (.block 1
 (.seq (.region false [p 25 (.fieldAddr 1 1),
  o 26 (.load 1 false 25),
  m 27 4,
  p 28 (.indexAddr 1 26 27),
  o 29 (.load 1 false 28),
  p 30 (.len  29),
  m 31 3,
  m 32 4,
  p 33 (.bin .sub 31 32),
  p 34 (.bin .neq 30 33),
  m 35 34,
  ⟨some 36, .p (.fieldAddr 0 1), some (35, false), false⟩,
  ⟨some 37, .load 1 false 36, some (35, false), false⟩,
  ⟨some 38, .p (.fieldAddr 1 1), some (35, false), false⟩,
  ⟨some 39, .load 1 false 38, some (35, false), false⟩,
  ⟨some 40, .p (.move  4), some (35, false), false⟩,
  ⟨some 41, .p (.indexAddr 1 39 40), some (35, false), false⟩,
  ⟨some 42, .load 1 false 41, some (35, false), false⟩,
  ⟨some 43, cl n_spec_l01Numbers [37, 42], some (35, false), false⟩,
  ⟨some 44, .p (.un .not 43), some (35, false), false⟩,
  p 45 (.pick  35 (.c (.bool true)) 44)])
 (.cond 45
 (.seq (.region false [mc 2 (.c (.bool false))])
 (.ret))
 (.skip))))
 (.region false [m 23 4,
  p 24 (.bin .add 23 (k 1)),
  m 4 24]))
def q_spec_l03Is_0 (a1 a3 a4 : Value) (h : Hp) (K K0 K1 : Kont) : Prop :=
  bindO (binV .lss a4 a3) fun v22 => condM v22 (bindO (fieldAddrV 1 a1) fun v25 => bindO (ldV 1 false h v25) fun v26 => bindO (indexAddrV 1 v26 a4) fun v28 => bindO (ldV 1 false h v28) fun v29 => bindO (lenV  v29) fun v30 => bindO (binV .sub a3 a4) fun v33 => bindO (binV .neq v30 v33) fun v34 => condM v34 (K1 [(.bool false)] h) (bindO (fieldAddrV 0 a1) fun v36 => bindO (ldV 1 false h v36) fun v37 => bindO (fieldAddrV 1 a1) fun v38 => bindO (ldV 1 false h v38) fun v39 => bindO (indexAddrV 1 v39 a4) fun v41 => bindO (ldV 1 false h v41) fun v42 => CallW FF n_spec_l01Numbers [v37, v42] h fun v43 h1 => bindO (unV .not v43) fun v44 => condM v44 (K1 [(.bool false)] h1) (bindO (binV .add a4 (.int .i64 1)) fun v24 => K [a1, a3, v24] h1))) (K0 [] h)
theorem wl_spec_l03Is_0 {a1 a3 a4 : Value} {h : Hp} {K K0 K1 : Kont} (H : q_spec_l03Is_0 a1 a3 a4 h K K0 K1) : ∀ e : Env, [e 1, e 3, e 4] = [a1, a3, a4] → V FF l_spec_l03Is_0 (qsel [1, 3, 4] K [(.exit 0, [], K0), (.ret, [2], K1)]) ⟨e, h⟩ := by
  intro e he; cases he; exact Eq.mp (by kernel_rfl) H
def y_spec_l03Is : YC :=
  .seq (.region false [o 1 (.box y_t_impl_Plane 2 0),
  mc 2 (.c (.bool false))])
 (.seq (.region false [p 5 (.fieldAddr 1 1),
  o 6 (.load 1 false 5),
  p 7 (.len  6),
  m 3 7])
 (.seq (.seq (.region false [p 8 (.fieldAddr 0 1),
  o 9 (.load 1 false 8),
  o 10 (cl n_spec_l01Modulus [9]),
  p 11 (.un .not 10),
  m 12 11,
  ⟨some 13, .p (.move  3), some (12, false), false⟩,
  ⟨some 14, .p (.bin .lss 13 (k 2)), some (12, false), false⟩,
  p 15 (.pick  12 (.c (.bool true)) 14),
  m 16 15,
  ⟨some 17, .p (.move  3), some (16, false), false⟩,
  ⟨some 18, .p (.bin .gtr 17 (k 11)), some (16, false), false⟩,
  p 19 (.pick  16 (.c (.bool true)) 18)])
 (.cond 19
 (.seq (.region false [mc 2 (.c (.bool false))])
 (.ret))
 (.skip)))
 (.seq (.seq (.region false [mc 4 (k 0)])
 (.block 0
 (.loop [1, 3, 4] [(.exit 0, []), (.ret, [2])] l_spec_l03Is_0)))
 (.seq (.region false [mc 2 (.c (.bool true))])
 (.ret)))))
theorem c_spec_l03Is : FF n_spec_l03Is = some ⟨46, y_spec_l03Is.er, [.tmp 2]⟩ := by kernel_rfl
def p_spec_l03Is (a0 : Value) (h : Hp) (R : Value → Hp → Prop) : Prop :=
  bindO (boxV 2 a0) fun c1 => newB h ⟨c1, y_t_impl_Plane, true⟩ fun b1 h1 => bindO (fieldAddrV 1 (.pointer (some ⟨b1, 0, none⟩))) fun v5 => bindO (ldV 1 false h1 v5) fun v6 => bindO (lenV  v6) fun v7 => bindO (fieldAddrV 0 (.pointer (some ⟨b1, 0, none⟩))) fun v8 => bindO (ldV 1 false h1 v8) fun v9 => CallW FF n_spec_l01Modulus [v9] h1 fun v10 h2 => bindO (unV .not v10) fun v11 => condM v11 (R (.bool false) h2) (bindO (binV .lss v7 (.int .i64 2)) fun v14 => condM v14 (R (.bool false) h2) (bindO (binV .gtr v7 (.int .i64 11)) fun v18 => condM v18 (R (.bool false) h2) (LP FF (YC.er l_spec_l03Is_0) [1, 3, 4] [(.exit 0, [], fun vs h3 => ∀ e : Env, [] = vs → R (.bool true) h3), (.ret, [2], fun vs h3 => ∀ e : Env, [e 2] = vs → R (e 2) h3)] [(.pointer (some ⟨b1, 0, none⟩)), v7, (.int .i64 0)] h2)))
theorem w_spec_l03Is {a0 : Value} {h : Hp} {R : Value → Hp → Prop} (H : p_spec_l03Is a0 h R) : CallW FF n_spec_l03Is [a0] h R := callV_fin c_spec_l03Is (Eq.mp (by kernel_rfl) H)
def l_spec_l04Fault_0 : YC :=
  .seq (.seq (.region false [m 20 5,
  m 21 3,
  p 22 (.bin .lss 20 21)])
 (.cond 22
 (.skip)
 (.exit 0)))
 (.seq (.block 1
 (.seq (.region false [mc 6 (k 0)])
 (.join [1, 3, 4, 5, 6] (.seq (.region false [m 25 5,
  p 26 (.bin .eql 25 (k 1))])
 (.cond 26
 (.region false [mc 6 (k 1)])
 (.skip)))
 (.seq (.region false [m 27 4,
  m 28 5,
  p 29 (.indexAddr 1 27 28),
  o 30 (.load 1 false 29),
  p 31 (.indexAddr 1 30 (k 0)),
  o 32 (.load 1 false 31),
  m 33 6,
  p 34 (.bin .neq 32 33)])
 (.cond 34
 (.seq (.region false [m 35 5,
  o 36 (.mkrow y_t_int64 1 2 [.int .i64 0] [(0, (k 0)), (1, 35)]),
  m 2 36])
 (.ret))
 (.skip))))))
 (.region false [m 23 5,
  p 24 (.bin .add 23 (k 1)),
  m 5 24]))
def q_spec_l04Fault_0 (a1 a3 a4 a5 : Value) (h : Hp) (K K0 K1 : Kont) : Prop :=
  bindO (binV .lss a5 a3) fun v22 => condM v22 (JN (fun J => bindO (binV .eql a5 (.int .i64 1)) fun v26 => condM v26 (J [a1, a3, a4, a5, (.int .i64 1)] h) (J [a1, a3, a4, a5, (.int .i64 0)] h)) fun vs h1 => ∀ e : Env, [e 1, e 3, e 4, e 5, e 6] = vs → bindO (indexAddrV 1 (e 4) (e 5)) fun v29 => bindO (ldV 1 false h1 v29) fun v30 => bindO (indexAddrV 1 v30 (.int .i64 0)) fun v31 => bindO (ldV 1 false h1 v31) fun v32 => bindO (binV .neq v32 (e 6)) fun v34 => condM v34 (bindO (rowV 1 2 [.int .i64 0] [(0, (.int .i64 0)), (1, (e 5))]) fun c36 => newB h1 ⟨c36, y_t_int64, true⟩ fun b36 h2 => K1 [(.slice (some ⟨b36, 0, none⟩) 2 1)] h2) (bindO (binV .add (e 5) (.int .i64 1)) fun v24 => K [(e 1), (e 3), (e 4), v24] h1)) (K0 [a1, a3, a4] h)
theorem wl_spec_l04Fault_0 {a1 a3 a4 a5 : Value} {h : Hp} {K K0 K1 : Kont} (H : q_spec_l04Fault_0 a1 a3 a4 a5 h K K0 K1) : ∀ e : Env, [e 1, e 3, e 4, e 5] = [a1, a3, a4, a5] → V FF l_spec_l04Fault_0 (qsel [1, 3, 4, 5] K [(.exit 0, [1, 3, 4], K0), (.ret, [2], K1)]) ⟨e, h⟩ := by
  intro e he; cases he; exact Eq.mp (by kernel_rfl) H
def l_spec_l04Fault_1 : YC :=
  .seq (.seq (.region false [m 44 7,
  m 45 8,
  p 46 (.bin .add 44 45),
  m 47 3,
  p 48 (.bin .lss 46 47)])
 (.cond 48
 (.skip)
 (.exit 4)))
 (.seq (.block 5
 (.seq (.region false [m 51 4,
  m 52 7,
  p 53 (.indexAddr 1 51 52),
  o 54 (.load 1 false 53),
  m 55 8,
  p 56 (.indexAddr 1 54 55),
  o 57 (.load 1 false 56),
  m 58 4,
  m 59 8,
  p 60 (.indexAddr 1 58 59),
  o 61 (.load 1 false 60),
  m 62 7,
  p 63 (.indexAddr 1 61 62),
  o 64 (.load 1 false 63),
  p 65 (.bin .neq 57 64)])
 (.cond 65
 (.seq (.region false [m 66 7,
  m 67 8,
  o 68 (.mkrow y_t_int64 1 3 [.int .i64 0] [(0, (k 1)), (1, 66), (2, 67)]),
  m 2 68])
 (.ret))
 (.skip))))
 (.region false [m 49 8,
  p 50 (.bin .add 49 (k 1)),
  m 8 50]))
def q_spec_l04Fault_1 (a1 a3 a4 a7 a8 : Value) (h : Hp) (K K0 K1 : Kont) : Prop :=
  bindO (binV .add a7 a8) fun v46 => bindO (binV .lss v46 a3) fun v48 => condM v48 (bindO (indexAddrV 1 a4 a7) fun v53 => bindO (ldV 1 false h v53) fun v54 => bindO (indexAddrV 1 v54 a8) fun v56 => bindO (ldV 1 false h v56) fun v57 => bindO (indexAddrV 1 a4 a8) fun v60 => bindO (ldV 1 false h v60) fun v61 => bindO (indexAddrV 1 v61 a7) fun v63 => bindO (ldV 1 false h v63) fun v64 => bindO (binV .neq v57 v64) fun v65 => condM v65 (bindO (rowV 1 3 [.int .i64 0] [(0, (.int .i64 1)), (1, a7), (2, a8)]) fun c68 => newB h ⟨c68, y_t_int64, true⟩ fun b68 h1 => K1 [(.slice (some ⟨b68, 0, none⟩) 3 1)] h1) (bindO (binV .add a8 (.int .i64 1)) fun v50 => K [a1, a3, a4, a7, v50] h)) (K0 [a1, a3, a4, a7] h)
theorem wl_spec_l04Fault_1 {a1 a3 a4 a7 a8 : Value} {h : Hp} {K K0 K1 : Kont} (H : q_spec_l04Fault_1 a1 a3 a4 a7 a8 h K K0 K1) : ∀ e : Env, [e 1, e 3, e 4, e 7, e 8] = [a1, a3, a4, a7, a8] → V FF l_spec_l04Fault_1 (qsel [1, 3, 4, 7, 8] K [(.exit 4, [1, 3, 4, 7], K0), (.ret, [2], K1)]) ⟨e, h⟩ := by
  intro e he; cases he; exact Eq.mp (by kernel_rfl) H
def l_spec_l04Fault_2 : YC :=
  .seq (.seq (.region false [m 37 7,
  m 38 3,
  p 39 (.bin .lss 37 38)])
 (.cond 39
 (.skip)
 (.exit 2)))
 (.seq (.block 3
 (.seq (.region false [m 42 7,
  p 43 (.bin .add 42 (k 1)),
  m 8 43])
 (.block 4
 (.loop [1, 3, 4, 7, 8] [(.exit 4, [1, 3, 4, 7]), (.ret, [2])] l_spec_l04Fault_1))))
 (.region false [m 40 7,
  p 41 (.bin .add 40 (k 1)),
  m 7 41]))
def q_spec_l04Fault_2 (a1 a3 a4 a7 : Value) (h : Hp) (K K0 K1 : Kont) : Prop :=
  bindO (binV .lss a7 a3) fun v39 => condM v39 (bindO (binV .add a7 (.int .i64 1)) fun v43 => LP FF (YC.er l_spec_l04Fault_1) [1, 3, 4, 7, 8] [(.exit 4, [1, 3, 4, 7], fun vs h1 => ∀ e : Env, [e 1, e 3, e 4, e 7] = vs → bindO (binV .add (e 7) (.int .i64 1)) fun v41 => K [(e 1), (e 3), (e 4), v41] h1), (.ret, [2], fun vs h1 => ∀ e : Env, [e 2] = vs → K1 [(e 2)] h1)] [a1, a3, a4, a7, v43] h) (K0 [a1, a3, a4] h)
theorem wl_spec_l04Fault_2 {a1 a3 a4 a7 : Value} {h : Hp} {K K0 K1 : Kont} (H : q_spec_l04Fault_2 a1 a3 a4 a7 h K K0 K1) : ∀ e : Env, [e 1, e 3, e 4, e 7] = [a1, a3, a4, a7] → V FF l_spec_l04Fault_2 (qsel [1, 3, 4, 7] K [(.exit 2, [1, 3, 4], K0), (.ret, [2], K1)]) ⟨e, h⟩ := by
  intro e he; cases he; exact Eq.mp (by kernel_rfl) H
def l_spec_l04Fault_3 : YC :=
  .seq (.seq (.region false [m 71 11,
  m 72 3,
  p 73 (.bin .lss 71 72)])
 (.cond 73
 (.skip)
 (.exit 6)))
 (.seq (.block 7
 (.seq (.region true [m 76 9,
  p 77 (.fieldAddr 0 1),
  ⟨some 78, .load 1 false 77, none, true⟩,
  m 79 4,
  m 80 11,
  ⟨some 81, cl n_spec_l04Column [79, 80], none, true⟩,
  m 82 4,
  o 83 (cl n_spec_l03After [78, 81, 82]),
  o 84 (.mkrow y_t_LLint64 1 1 [.slice none 0 0] [(0, 83)]),
  o 85 (.append y_t_LLint64 1 24 76 84),
  m 9 85])
 (.region false [m 86 10,
  p 87 (.fieldAddr 0 1),
  o 88 (.load 1 false 87),
  m 89 4,
  m 90 11,
  p 91 (.indexAddr 1 89 90),
  o 92 (.load 1 false 91),
  m 93 4,
  o 94 (cl n_spec_l03After [88, 92, 93]),
  o 95 (.mkrow y_t_LLint64 1 1 [.slice none 0 0] [(0, 94)]),
  o 96 (.append y_t_LLint64 1 24 86 95),
  m 10 96])))
 (.region false [m 74 11,
  p 75 (.bin .add 74 (k 1)),
  m 11 75]))
def q_spec_l04Fault_3 (a1 a3 a4 a9 a10 a11 : Value) (h : Hp) (K K0 : Kont) : Prop :=
  bindO (binV .lss a11 a3) fun v73 => condM v73 (bindO (fieldAddrV 0 a1) fun v77 => inB h.nx v77 ∧ (bindO (ldV 1 false h v77) fun v78 => CallW FF n_spec_l04Column [a4, a11] h fun v81 h1 => keepB h.nx h h1 ∧ (CallW FF n_spec_l03After [v78, v81, a4] h1 fun v83 h2 => bindO (rowV 1 1 [.slice none 0 0] [(0, v83)]) fun c84 => newB h2 ⟨c84, y_t_LLint64, true⟩ fun b84 h3 => bindVH (appendV y_t_LLint64 1 h3 a9 (.slice (some ⟨b84, 0, none⟩) 1 1)) fun v85 h4 => bindO (fieldAddrV 0 a1) fun v87 => bindO (ldV 1 false h4 v87) fun v88 => bindO (indexAddrV 1 a4 a11) fun v91 => bindO (ldV 1 false h4 v91) fun v92 => CallW FF n_spec_l03After [v88, v92, a4] h4 fun v94 h5 => bindO (rowV 1 1 [.slice none 0 0] [(0, v94)]) fun c95 => newB h5 ⟨c95, y_t_LLint64, true⟩ fun b95 h6 => bindVH (appendV y_t_LLint64 1 h6 a10 (.slice (some ⟨b95, 0, none⟩) 1 1)) fun v96 h7 => bindO (binV .add a11 (.int .i64 1)) fun v75 => K [a1, a3, a4, v85, v96, v75] h7))) (K0 [a3, a9, a10] h)
theorem wl_spec_l04Fault_3 {a1 a3 a4 a9 a10 a11 : Value} {h : Hp} {K K0 : Kont} (H : q_spec_l04Fault_3 a1 a3 a4 a9 a10 a11 h K K0) : ∀ e : Env, [e 1, e 3, e 4, e 9, e 10, e 11] = [a1, a3, a4, a9, a10, a11] → V FF l_spec_l04Fault_3 (qsel [1, 3, 4, 9, 10, 11] K [(.exit 6, [3, 9, 10], K0)]) ⟨e, h⟩ := by
  intro e he; cases he; exact Eq.mp (by kernel_rfl) H
def l_spec_l04Fault_4 : YC :=
  .seq (.seq (.region false [m 109 12,
  m 110 13,
  p 111 (.bin .add 109 110),
  m 112 14,
  p 113 (.bin .add 111 112),
  m 114 3,
  p 115 (.bin .lss 113 114)])
 (.cond 115
 (.skip)
 (.exit 12)))
 (.seq (.block 13
 (.seq (.region false [m 118 9,
  m 119 14,
  p 120 (.indexAddr 1 118 119),
  o 121 (.load 1 false 120),
  m 122 12,
  p 123 (.indexAddr 1 121 122),
  o 124 (.load 1 false 123),
  m 125 13,
  p 126 (.indexAddr 1 124 125),
  o 127 (.load 1 false 126),
  m 128 10,
  m 129 12,
  p 130 (.indexAddr 1 128 129),
  o 131 (.load 1 false 130),
  m 132 13,
  p 133 (.indexAddr 1 131 132),
  o 134 (.load 1 false 133),
  m 135 14,
  p 136 (.indexAddr 1 134 135),
  o 137 (.load 1 false 136),
  p 138 (.bin .neq 127 137)])
 (.cond 138
 (.seq (.region false [m 139 12,
  m 140 13,
  m 141 14,
  o 142 (.mkrow y_t_int64 1 4 [.int .i64 0] [(0, (k 2)), (1, 139), (2, 140), (3, 141)]),
  m 2 142])
 (.ret))
 (.skip))))
 (.region false [m 116 14,
  p 117 (.bin .add 116 (k 1)),
  m 14 117]))
def q_spec_l04Fault_4 (a3 a9 a10 a12 a13 a14 : Value) (h : Hp) (K K0 K1 : Kont) : Prop :=
  bindO (binV .add a12 a13) fun v111 => bindO (binV .add v111 a14) fun v113 => bindO (binV .lss v113 a3) fun v115 => condM v115 (bindO (indexAddrV 1 a9 a14) fun v120 => bindO (ldV 1 false h v120) fun v121 => bindO (indexAddrV 1 v121 a12) fun v123 => bindO (ldV 1 false h v123) fun v124 => bindO (indexAddrV 1 v124 a13) fun v126 => bindO (ldV 1 false h v126) fun v127 => bindO (indexAddrV 1 a10 a12) fun v130 => bindO (ldV 1 false h v130) fun v131 => bindO (indexAddrV 1 v131 a13) fun v133 => bindO (ldV 1 false h v133) fun v134 => bindO (indexAddrV 1 v134 a14) fun v136 => bindO (ldV 1 false h v136) fun v137 => bindO (binV .neq v127 v137) fun v138 => condM v138 (bindO (rowV 1 4 [.int .i64 0] [(0, (.int .i64 2)), (1, a12), (2, a13), (3, a14)]) fun c142 => newB h ⟨c142, y_t_int64, true⟩ fun b142 h1 => K1 [(.slice (some ⟨b142, 0, none⟩) 4 1)] h1) (bindO (binV .add a14 (.int .i64 1)) fun v117 => K [a3, a9, a10, a12, a13, v117] h)) (K0 [a3, a9, a10, a12, a13] h)
theorem wl_spec_l04Fault_4 {a3 a9 a10 a12 a13 a14 : Value} {h : Hp} {K K0 K1 : Kont} (H : q_spec_l04Fault_4 a3 a9 a10 a12 a13 a14 h K K0 K1) : ∀ e : Env, [e 3, e 9, e 10, e 12, e 13, e 14] = [a3, a9, a10, a12, a13, a14] → V FF l_spec_l04Fault_4 (qsel [3, 9, 10, 12, 13, 14] K [(.exit 12, [3, 9, 10, 12, 13], K0), (.ret, [2], K1)]) ⟨e, h⟩ := by
  intro e he; cases he; exact Eq.mp (by kernel_rfl) H
def l_spec_l04Fault_5 : YC :=
  .seq (.seq (.region false [m 102 12,
  m 103 13,
  p 104 (.bin .add 102 103),
  m 105 3,
  p 106 (.bin .lss 104 105)])
 (.cond 106
 (.skip)
 (.exit 10)))
 (.seq (.block 11
 (.seq (.region false [mc 14 (k 0)])
 (.block 12
 (.loop [3, 9, 10, 12, 13, 14] [(.exit 12, [3, 9, 10, 12, 13]), (.ret, [2])] l_spec_l04Fault_4))))
 (.region false [m 107 13,
  p 108 (.bin .add 107 (k 1)),
  m 13 108]))
def q_spec_l04Fault_5 (a3 a9 a10 a12 a13 : Value) (h : Hp) (K K0 K1 : Kont) : Prop :=
  bindO (binV .add a12 a13) fun v104 => bindO (binV .lss v104 a3) fun v106 => condM v106 (LP FF (YC.er l_spec_l04Fault_4) [3, 9, 10, 12, 13, 14] [(.exit 12, [3, 9, 10, 12, 13], fun vs h1 => ∀ e : Env, [e 3, e 9, e 10, e 12, e 13] = vs → bindO (binV .add (e 13) (.int .i64 1)) fun v108 => K [(e 3), (e 9), (e 10), (e 12), v108] h1), (.ret, [2], fun vs h1 => ∀ e : Env, [e 2] = vs → K1 [(e 2)] h1)] [a3, a9, a10, a12, a13, (.int .i64 0)] h) (K0 [a3, a9, a10, a12] h)
theorem wl_spec_l04Fault_5 {a3 a9 a10 a12 a13 : Value} {h : Hp} {K K0 K1 : Kont} (H : q_spec_l04Fault_5 a3 a9 a10 a12 a13 h K K0 K1) : ∀ e : Env, [e 3, e 9, e 10, e 12, e 13] = [a3, a9, a10, a12, a13] → V FF l_spec_l04Fault_5 (qsel [3, 9, 10, 12, 13] K [(.exit 10, [3, 9, 10, 12], K0), (.ret, [2], K1)]) ⟨e, h⟩ := by
  intro e he; cases he; exact Eq.mp (by kernel_rfl) H
def l_spec_l04Fault_6 : YC :=
  .seq (.seq (.region false [m 97 12,
  m 98 3,
  p 99 (.bin .lss 97 98)])
 (.cond 99
 (.skip)
 (.exit 8)))
 (.seq (.block 9
 (.seq (.region false [mc 13 (k 0)])
 (.block 10
 (.loop [3, 9, 10, 12, 13] [(.exit 10, [3, 9, 10, 12]), (.ret, [2])] l_spec_l04Fault_5))))
 (.region false [m 100 12,
  p 101 (.bin .add 100 (k 1)),
  m 12 101]))
def q_spec_l04Fault_6 (a3 a9 a10 a12 : Value) (h : Hp) (K K0 K1 : Kont) : Prop :=
  bindO (binV .lss a12 a3) fun v99 => condM v99 (LP FF (YC.er l_spec_l04Fault_5) [3, 9, 10, 12, 13] [(.exit 10, [3, 9, 10, 12], fun vs h1 => ∀ e : Env, [e 3, e 9, e 10, e 12] = vs → bindO (binV .add (e 12) (.int .i64 1)) fun v101 => K [(e 3), (e 9), (e 10), v101] h1), (.ret, [2], fun vs h1 => ∀ e : Env, [e 2] = vs → K1 [(e 2)] h1)] [a3, a9, a10, a12, (.int .i64 0)] h) (K0 [] h)
theorem wl_spec_l04Fault_6 {a3 a9 a10 a12 : Value} {h : Hp} {K K0 K1 : Kont} (H : q_spec_l04Fault_6 a3 a9 a10 a12 h K K0 K1) : ∀ e : Env, [e 3, e 9, e 10, e 12] = [a3, a9, a10, a12] → V FF l_spec_l04Fault_6 (qsel [3, 9, 10, 12] K [(.exit 8, [], K0), (.ret, [2], K1)]) ⟨e, h⟩ := by
  intro e he; cases he; exact Eq.mp (by kernel_rfl) H
def y_spec_l04Fault : YC :=
  .seq (.region false [o 1 (.box y_t_impl_Plane 2 0),
  mc 2 (.c (.slice none 0 0))])
 (.seq (.region false [p 15 (.fieldAddr 1 1),
  o 16 (.load 1 false 15),
  p 17 (.len  16),
  p 18 (.fieldAddr 1 1),
  o 19 (.load 1 false 18),
  m 3 17,
  m 4 19])
 (.seq (.seq (.region false [mc 5 (k 0)])
 (.block 0
 (.loop [1, 3, 4, 5] [(.exit 0, [1, 3, 4]), (.ret, [2])] l_spec_l04Fault_0)))
 (.seq (.seq (.region false [mc 7 (k 0)])
 (.block 2
 (.loop [1, 3, 4, 7] [(.exit 2, [1, 3, 4]), (.ret, [2])] l_spec_l04Fault_2)))
 (.seq (.region false [o 69 (.mkrow y_t_LLint64 1 0 [.slice none 0 0] []),
  o 70 (.mkrow y_t_LLint64 1 0 [.slice none 0 0] []),
  m 9 69,
  m 10 70])
 (.seq (.seq (.region false [mc 11 (k 0)])
 (.block 6
 (.loop [1, 3, 4, 9, 10, 11] [(.exit 6, [3, 9, 10])] l_spec_l04Fault_3)))
 (.seq (.seq (.region false [mc 12 (k 0)])
 (.block 8
 (.loop [3, 9, 10, 12] [(.exit 8, []), (.ret, [2])] l_spec_l04Fault_6)))
 (.seq (.region false [mc 2 (.c (.slice none 0 0))])
 (.ret))))))))
theorem c_spec_l04Fault : FF n_spec_l04Fault = some ⟨143, y_spec_l04Fault.er, [.tmp 2]⟩ := by kernel_rfl
def p_spec_l04Fault (a0 : Value) (h : Hp) (R : Value → Hp → Prop) : Prop :=
  bindO (boxV 2 a0) fun c1 => newB h ⟨c1, y_t_impl_Plane, true⟩ fun b1 h1 => bindO (fieldAddrV 1 (.pointer (some ⟨b1, 0, none⟩))) fun v15 => bindO (ldV 1 false h1 v15) fun v16 => bindO (lenV  v16) fun v17 => bindO (fieldAddrV 1 (.pointer (some ⟨b1, 0, none⟩))) fun v18 => bindO (ldV 1 false h1 v18) fun v19 => LP FF (YC.er l_spec_l04Fault_0) [1, 3, 4, 5] [(.exit 0, [1, 3, 4], fun vs h2 => ∀ e : Env, [e 1, e 3, e 4] = vs → LP FF (YC.er l_spec_l04Fault_2) [1, 3, 4, 7] [(.exit 2, [1, 3, 4], fun vs_1 h3 => ∀ e_1 : Env, [e_1 1, e_1 3, e_1 4] = vs_1 → bindO (rowV 1 0 [.slice none 0 0] []) fun c69 => newB h3 ⟨c69, y_t_LLint64, true⟩ fun b69 h4 => bindO (rowV 1 0 [.slice none 0 0] []) fun c70 => newB h4 ⟨c70, y_t_LLint64, true⟩ fun b70 h5 => LP FF (YC.er l_spec_l04Fault_3) [1, 3, 4, 9, 10, 11] [(.exit 6, [3, 9, 10], fun vs_2 h6 => ∀ e_2 : Env, [e_2 3, e_2 9, e_2 10] = vs_2 → LP FF (YC.er l_spec_l04Fault_6) [3, 9, 10, 12] [(.exit 8, [], fun vs_3 h7 => ∀ e_3 : Env, [] = vs_3 → R (.slice none 0 0) h7), (.ret, [2], fun vs_3 h7 => ∀ e_3 : Env, [e_3 2] = vs_3 → R (e_3 2) h7)] [(e_2 3), (e_2 9), (e_2 10), (.int .i64 0)] h6)] [(e_1 1), (e_1 3), (e_1 4), (.slice (some ⟨b69, 0, none⟩) 0 1), (.slice (some ⟨b70, 0, none⟩) 0 1), (.int .i64 0)] h5), (.ret, [2], fun vs_1 h3 => ∀ e_1 : Env, [e_1 2] = vs_1 → R (e_1 2) h3)] [(e 1), (e 3), (e 4), (.int .i64 0)] h2), (.ret, [2], fun vs h2 => ∀ e : Env, [e 2] = vs → R (e 2) h2)] [(.pointer (some ⟨b1, 0, none⟩)), v17, v19, (.int .i64 0)] h1
theorem w_spec_l04Fault {a0 : Value} {h : Hp} {R : Value → Hp → Prop} (H : p_spec_l04Fault a0 h R) : CallW FF n_spec_l04Fault [a0] h R := callV_fin c_spec_l04Fault (Eq.mp (by kernel_rfl) H)
def y_spec_l03Degree : YC :=
  .seq (.region false [o 1 (.box y_t_impl_Plane 2 0),
  mc 2 (k 0)])
 (.seq (.region false [p 3 (.fieldAddr 1 1),
  o 4 (.load 1 false 3),
  p 5 (.len  4),
  p 6 (.bin .sub 5 (k 1)),
  m 2 6])
 (.ret))
theorem c_spec_l03Degree : FF n_spec_l03Degree = some ⟨7, y_spec_l03Degree.er, [.tmp 2]⟩ := by kernel_rfl
def p_spec_l03Degree (a0 : Value) (h : Hp) (R : Value → Hp → Prop) : Prop :=
  bindO (boxV 2 a0) fun c1 => newB h ⟨c1, y_t_impl_Plane, true⟩ fun b1 h1 => bindO (fieldAddrV 1 (.pointer (some ⟨b1, 0, none⟩))) fun v3 => bindO (ldV 1 false h1 v3) fun v4 => bindO (lenV  v4) fun v5 => bindO (binV .sub v5 (.int .i64 1)) fun v6 => R v6 h1
theorem w_spec_l03Degree {a0 : Value} {h : Hp} {R : Value → Hp → Prop} (H : p_spec_l03Degree a0 h R) : CallW FF n_spec_l03Degree [a0] h R := callV_fin c_spec_l03Degree (Eq.mp (by kernel_rfl) H)
def l_spec_l01Numbers_0 : YC :=
  .seq (.seq (.region false [m 6 5,
  m 7 1,
  p 8 (.len  7),
  p 9 (.bin .lss 6 8)])
 (.cond 9
 (.skip)
 (.exit 0)))
 (.seq (.block 1
 (.seq (.region false [m 12 1,
  m 13 5,
  p 14 (.indexAddr 1 12 13),
  o 15 (.load 1 false 14),
  m 16 0,
  p 17 (.bin .sub 16 (k 1)),
  o 18 (cl n_spec_l01In [15, (k 0), 17]),
  p 19 (.un .not 18)])
 (.cond 19
 (.seq (.region false [mc 4 (.c (.bool false))])
 (.ret))
 (.skip))))
 (.region false [m 10 5,
  p 11 (.bin .add 10 (k 1)),
  m 5 11]))
def q_spec_l01Numbers_0 (a0 a1 a5 : Value) (h : Hp) (K K0 K1 : Kont) : Prop :=
  bindO (lenV  a1) fun v8 => bindO (binV .lss a5 v8) fun v9 => condM v9 (bindO (indexAddrV 1 a1 a5) fun v14 => bindO (ldV 1 false h v14) fun v15 => bindO (binV .sub a0 (.int .i64 1)) fun v17 => CallW FF n_spec_l01In [v15, (.int .i64 0), v17] h fun v18 h1 => bindO (unV .not v18) fun v19 => condM v19 (K1 [(.bool false)] h1) (bindO (binV .add a5 (.int .i64 1)) fun v11 => K [a0, a1, v11] h1)) (K0 [] h)
theorem wl_spec_l01Numbers_0 {a0 a1 a5 : Value} {h : Hp} {K K0 K1 : Kont} (H : q_spec_l01Numbers_0 a0 a1 a5 h K K0 K1) : ∀ e : Env, [e 0, e 1, e 5] = [a0, a1, a5] → V FF l_spec_l01Numbers_0 (qsel [0, 1, 5] K [(.exit 0, [], K0), (.ret, [4], K1)]) ⟨e, h⟩ := by
  intro e he; cases he; exact Eq.mp (by kernel_rfl) H
def y_spec_l01Numbers : YC :=
  .seq (.region false [mc 4 (.c (.bool false))])
 (.seq (.seq (.region false [mc 5 (k 0)])
 (.block 0
 (.loop [0, 1, 5] [(.exit 0, []), (.ret, [4])] l_spec_l01Numbers_0)))
 (.seq (.region false [mc 4 (.c (.bool true))])
 (.ret)))
theorem c_spec_l01Numbers : FF n_spec_l01Numbers = some ⟨20, y_spec_l01Numbers.er, [.tmp 4]⟩ := by kernel_rfl
def p_spec_l01Numbers (a0 a1 : Value) (h : Hp) (R : Value → Hp → Prop) : Prop :=
  LP FF (YC.er l_spec_l01Numbers_0) [0, 1, 5] [(.exit 0, [], fun vs h1 => ∀ e : Env, [] = vs → R (.bool true) h1), (.ret, [4], fun vs h1 => ∀ e : Env, [e 4] = vs → R (e 4) h1)] [a0, a1, (.int .i64 0)] h
theorem w_spec_l01Numbers {a0 a1 : Value} {h : Hp} {R : Value → Hp → Prop} (H : p_spec_l01Numbers a0 a1 h R) : CallW FF n_spec_l01Numbers [a0, a1] h R := callV_fin c_spec_l01Numbers (Eq.mp (by kernel_rfl) H)
def l_spec_l03Powers_0 : YC :=
  .seq (.seq (.region false [m 19 8,
  m 20 5,
  p 21 (.bin .lss 19 20)])
 (.cond 21
 (.skip)
 (.exit 0)))
 (.seq (.block 1
 (.region false [m 24 7,
  m 25 0,
  m 26 7,
  m 27 8,
  p 28 (.indexAddr 1 26 27),
  o 29 (.load 1 false 28),
  m 30 1,
  m 31 5,
  o 32 (cl n_spec_l02Times [25, 29, 30, 31]),
  o 33 (.mkrow y_t_Lint64 1 1 [.slice none 0 0] [(0, 32)]),
  o 34 (.append y_t_Lint64 1 24 24 33),
  m 7 34]))
 (.region false [m 22 8,
  p 23 (.bin .add 22 (k 1)),
  m 8 23]))
def q_spec_l03Powers_0 (a0 a1 a5 a7 a8 : Value) (h : Hp) (K K0 : Kont) : Prop :=
  bindO (binV .lss a8 a5) fun v21 => condM v21 (bindO (indexAddrV 1 a7 a8) fun v28 => bindO (ldV 1 false h v28) fun v29 => CallW FF n_spec_l02Times [a0, v29, a1, a5] h fun v32 h1 => bindO (rowV 1 1 [.slice none 0 0] [(0, v32)]) fun c33 => newB h1 ⟨c33, y_t_Lint64, true⟩ fun b33 h2 => bindVH (appendV y_t_Lint64 1 h2 a7 (.slice (some ⟨b33, 0, none⟩) 1 1)) fun v34 h3 => bindO (binV .add a8 (.int .i64 1)) fun v23 => K [a0, a1, a5, v34, v23] h3) (K0 [a7] h)
theorem wl_spec_l03Powers_0 {a0 a1 a5 a7 a8 : Value} {h : Hp} {K K0 : Kont} (H : q_spec_l03Powers_0 a0 a1 a5 a7 a8 h K K0) : ∀ e : Env, [e 0, e 1, e 5, e 7, e 8] = [a0, a1, a5, a7, a8] → V FF l_spec_l03Powers_0 (qsel [0, 1, 5, 7, 8] K [(.exit 0, [7], K0)]) ⟨e, h⟩ := by
  intro e he; cases he; exact Eq.mp (by kernel_rfl) H
def y_spec_l03Powers : YC :=
  .seq (.region false [mc 4 (.c (.slice none 0 0))])
 (.seq (.region false [m 9 1,
  p 10 (.len  9),
  p 11 (.bin .sub 10 (k 1)),
  m 5 11])
 (.seq (.region false [m 12 1,
  p 13 (.len  12),
  o 14 (.make y_t_int64 1 8 [.int .i64 0] 13),
  m 6 14])
 (.seq (.region false [m 15 6,
  p 16 (.indexAddr 1 15 (k 0)),
  e (.store 1 16 (k 1))])
 (.seq (.region false [m 17 6,
  o 18 (.mkrow y_t_Lint64 1 1 [.slice none 0 0] [(0, 17)]),
  m 7 18])
 (.seq (.seq (.region false [mc 8 (k 0)])
 (.block 0
 (.loop [0, 1, 5, 7, 8] [(.exit 0, [7])] l_spec_l03Powers_0)))
 (.seq (.region false [m 35 7,
  m 4 35])
 (.ret)))))))
theorem c_spec_l03Powers : FF n_spec_l03Powers = some ⟨36, y_spec_l03Powers.er, [.tmp 4]⟩ := by kernel_rfl
def p_spec_l03Powers (a0 a1 : Value) (h : Hp) (R : Value → Hp → Prop) : Prop :=
  bindO (lenV  a1) fun v10 => bindO (binV .sub v10 (.int .i64 1)) fun v11 => bindO (lenV  a1) fun v13 => bindO (makN v13) fun c14 => newB h ⟨reps c14 [.int .i64 0], y_t_int64, true⟩ fun b14 h1 => bindO (indexAddrV 1 (.slice (some ⟨b14, 0, none⟩) c14 1) (.int .i64 0)) fun v16 => bindO (storeV 1 h1 (.int .i64 1) v16) fun h2 => bindO (rowV 1 1 [.slice none 0 0] [(0, (.slice (some ⟨b14, 0, none⟩) c14 1))]) fun c18 => newB h2 ⟨c18, y_t_Lint64, true⟩ fun b18 h3 => LP FF (YC.er l_spec_l03Powers_0) [0, 1, 5, 7, 8] [(.exit 0, [7], fun vs h4 => ∀ e : Env, [e 7] = vs → R (e 7) h4)] [a0, a1, v11, (.slice (some ⟨b18, 0, none⟩) 1 1), (.int .i64 0)] h3
theorem w_spec_l03Powers {a0 a1 : Value} {h : Hp} {R : Value → Hp → Prop} (H : p_spec_l03Powers a0 a1 h R) : CallW FF n_spec_l03Powers [a0, a1] h R := callV_fin c_spec_l03Powers (Eq.mp (by kernel_rfl) H)
def l_spec_l02Add_0 : YC :=
  .seq (.seq (.region false [m 10 8,
  m 11 1,
  p 12 (.len  11),
  p 13 (.bin .lss 10 12)])
 (.cond 13
 (.skip)
 (.exit 0)))
 (.seq (.block 1
 (.region false [m 16 7,
  m 17 1,
  m 18 8,
  p 19 (.indexAddr 1 17 18),
  o 20 (.load 1 false 19),
  m 21 2,
  m 22 8,
  p 23 (.indexAddr 1 21 22),
  o 24 (.load 1 false 23),
  p 25 (.bin .add 20 24),
  m 26 0,
  p 27 (.bin .rem 25 26),
  o 28 (.mkrow y_t_int64 1 1 [.int .i64 0] [(0, 27)]),
  o 29 (.append y_t_int64 1 8 16 28),
  m 7 29]))
 (.region false [m 14 8,
  p 15 (.bin .add 14 (k 1)),
  m 8 15]))
def q_spec_l02Add_0 (a0 a1 a2 a7 a8 : Value) (h : Hp) (K K0 : Kont) : Prop :=
  bindO (lenV  a1) fun v12 => bindO (binV .lss a8 v12) fun v13 => condM v13 (bindO (indexAddrV 1 a1 a8) fun v19 => bindO (ldV 1 false h v19) fun v20 => bindO (indexAddrV 1 a2 a8) fun v23 => bindO (ldV 1 false h v23) fun v24 => bindO (binV .add v20 v24) fun v25 => bindO (binV .rem v25 a0) fun v27 => bindO (rowV 1 1 [.int .i64 0] [(0, v27)]) fun c28 => newB h ⟨c28, y_t_int64, true⟩ fun b28 h1 => bindVH (appendV y_t_int64 1 h1 a7 (.slice (some ⟨b28, 0, none⟩) 1 1)) fun v29 h2 => bindO (binV .add a8 (.int .i64 1)) fun v15 => K [a0, a1, a2, v29, v15] h2) (K0 [a7] h)
theorem wl_spec_l02Add_0 {a0 a1 a2 a7 a8 : Value} {h : Hp} {K K0 : Kont} (H : q_spec_l02Add_0 a0 a1 a2 a7 a8 h K K0) : ∀ e : Env, [e 0, e 1, e 2, e 7, e 8] = [a0, a1, a2, a7, a8] → V FF l_spec_l02Add_0 (qsel [0, 1, 2, 7, 8] K [(.exit 0, [7], K0)]) ⟨e, h⟩ := by
  intro e he; cases he; exact Eq.mp (by kernel_rfl) H
def y_spec_l02Add : YC :=
  .seq (.region false [mc 6 (.c (.slice none 0 0))])
 (.seq (.region false [o 9 (.mkrow y_t_int64 1 0 [.int .i64 0] []),
  m 7 9])
 (.seq (.seq (.region false [mc 8 (k 0)])
 (.block 0
 (.loop [0, 1, 2, 7, 8] [(.exit 0, [7])] l_spec_l02Add_0)))
 (.seq (.region false [m 30 7,
  m 6 30])
 (.ret))))
theorem c_spec_l02Add : FF n_spec_l02Add = some ⟨31, y_spec_l02Add.er, [.tmp 6]⟩ := by kernel_rfl
def p_spec_l02Add (a0 a1 a2 : Value) (h : Hp) (R : Value → Hp → Prop) : Prop :=
  bindO (rowV 1 0 [.int .i64 0] []) fun c9 => newB h ⟨c9, y_t_int64, true⟩ fun b9 h1 => LP FF (YC.er l_spec_l02Add_0) [0, 1, 2, 7, 8] [(.exit 0, [7], fun vs h2 => ∀ e : Env, [e 7] = vs → R (e 7) h2)] [a0, a1, a2, (.slice (some ⟨b9, 0, none⟩) 0 1), (.int .i64 0)] h1
theorem w_spec_l02Add {a0 a1 a2 : Value} {h : Hp} {R : Value → Hp → Prop} (H : p_spec_l02Add a0 a1 a2 h R) : CallW FF n_spec_l02Add [a0, a1, a2] h R := callV_fin c_spec_l02Add (Eq.mp (by kernel_rfl) H)
def l_spec_l02Scale_0 : YC :=
  .seq (.seq (.region false [m 10 8,
  m 11 2,
  p 12 (.len  11),
  p 13 (.bin .lss 10 12)])
 (.cond 13
 (.skip)
 (.exit 0)))
 (.seq (.block 1
 (.region false [m 16 7,
  m 17 1,
  m 18 2,
  m 19 8,
  p 20 (.indexAddr 1 18 19),
  o 21 (.load 1 false 20),
  p 22 (.bin .mul 17 21),
  m 23 0,
  p 24 (.bin .rem 22 23),
  o 25 (.mkrow y_t_int64 1 1 [.int .i64 0] [(0, 24)]),
  o 26 (.append y_t_int64 1 8 16 25),
  m 7 26]))
 (.region false [m 14 8,
  p 15 (.bin .add 14 (k 1)),
  m 8 15]))
def q_spec_l02Scale_0 (a0 a1 a2 a7 a8 : Value) (h : Hp) (K K0 : Kont) : Prop :=
  bindO (lenV  a2) fun v12 => bindO (binV .lss a8 v12) fun v13 => condM v13 (bindO (indexAddrV 1 a2 a8) fun v20 => bindO (ldV 1 false h v20) fun v21 => bindO (binV .mul a1 v21) fun v22 => bindO (binV .rem v22 a0) fun v24 => bindO (rowV 1 1 [.int .i64 0] [(0, v24)]) fun c25 => newB h ⟨c25, y_t_int64, true⟩ fun b25 h1 => bindVH (appendV y_t_int64 1 h1 a7 (.slice (some ⟨b25, 0, none⟩) 1 1)) fun v26 h2 => bindO (binV .add a8 (.int .i64 1)) fun v15 => K [a0, a1, a2, v26, v15] h2) (K0 [a7] h)
theorem wl_spec_l02Scale_0 {a0 a1 a2 a7 a8 : Value} {h : Hp} {K K0 : Kont} (H : q_spec_l02Scale_0 a0 a1 a2 a7 a8 h K K0) : ∀ e : Env, [e 0, e 1, e 2, e 7, e 8] = [a0, a1, a2, a7, a8] → V FF l_spec_l02Scale_0 (qsel [0, 1, 2, 7, 8] K [(.exit 0, [7], K0)]) ⟨e, h⟩ := by
  intro e he; cases he; exact Eq.mp (by kernel_rfl) H
def y_spec_l02Scale : YC :=
  .seq (.region false [mc 6 (.c (.slice none 0 0))])
 (.seq (.region false [o 9 (.mkrow y_t_int64 1 0 [.int .i64 0] []),
  m 7 9])
 (.seq (.seq (.region false [mc 8 (k 0)])
 (.block 0
 (.loop [0, 1, 2, 7, 8] [(.exit 0, [7])] l_spec_l02Scale_0)))
 (.seq (.region false [m 27 7,
  m 6 27])
 (.ret))))
theorem c_spec_l02Scale : FF n_spec_l02Scale = some ⟨28, y_spec_l02Scale.er, [.tmp 6]⟩ := by kernel_rfl
def p_spec_l02Scale (a0 a1 a2 : Value) (h : Hp) (R : Value → Hp → Prop) : Prop :=
  bindO (rowV 1 0 [.int .i64 0] []) fun c9 => newB h ⟨c9, y_t_int64, true⟩ fun b9 h1 => LP FF (YC.er l_spec_l02Scale_0) [0, 1, 2, 7, 8] [(.exit 0, [7], fun vs h2 => ∀ e : Env, [e 7] = vs → R (e 7) h2)] [a0, a1, a2, (.slice (some ⟨b9, 0, none⟩) 0 1), (.int .i64 0)] h1
theorem w_spec_l02Scale {a0 a1 a2 : Value} {h : Hp} {R : Value → Hp → Prop} (H : p_spec_l02Scale a0 a1 a2 h R) : CallW FF n_spec_l02Scale [a0, a1, a2] h R := callV_fin c_spec_l02Scale (Eq.mp (by kernel_rfl) H)
def l_spec_l02Times_0 : YC :=
  .seq (.seq (.region false [m 26 11,
  m 27 2,
  p 28 (.len  27),
  p 29 (.bin .lss 26 28),
  m 30 29,
  ⟨some 31, .p (.move  10), some (30, true), false⟩,
  ⟨some 32, .p (.move  11), some (30, true), false⟩,
  ⟨some 33, .p (.bin .add 31 32), some (30, true), false⟩,
  ⟨some 34, .p (.move  3), some (30, true), false⟩,
  ⟨some 35, .p (.bin .leq 33 34), some (30, true), false⟩,
  p 36 (.pick  30 35 (.c (.bool false))),
  m 37 36,
  ⟨some 38, .p (.move  1), some (37, true), false⟩,
  ⟨some 39, .p (.move  10), some (37, true), false⟩,
  ⟨some 40, .p (.indexAddr 1 38 39), some (37, true), false⟩,
  ⟨some 41, .load 1 false 40, some (37, true), false⟩,
  ⟨some 42, .p (.bin .neq 41 (k 0)), some (37, true), false⟩,
  p 43 (.pick  37 42 (.c (.bool false)))])
 (.cond 43
 (.skip)
 (.exit 2)))
 (.seq (.block 3
 (.region false [m 46 9,
  m 47 10,
  m 48 11,
  p 49 (.bin .add 47 48),
  m 50 9,
  m 51 10,
  m 52 11,
  p 53 (.bin .add 51 52),
  p 54 (.indexAddr 1 50 53),
  o 55 (.load 1 false 54),
  m 56 1,
  m 57 10,
  p 58 (.indexAddr 1 56 57),
  o 59 (.load 1 false 58),
  m 60 2,
  m 61 11,
  p 62 (.indexAddr 1 60 61),
  o 63 (.load 1 false 62),
  p 64 (.bin .mul 59 63),
  p 65 (.bin .add 55 64),
  m 66 0,
  p 67 (.bin .rem 65 66),
  p 68 (.indexAddr 1 46 49),
  e (.store 1 68 67)]))
 (.region false [m 44 11,
  p 45 (.bin .add 44 (k 1)),
  m 11 45]))
def q_spec_l02Times_0 (a0 a1 a2 a3 a9 a10 a11 : Value) (h : Hp) (K K0 : Kont) : Prop :=
  bindO (lenV  a2) fun v28 => bindO (binV .lss a11 v28) fun v29 => condM v29 (bindO (binV .add a10 a11) fun v33 => bindO (binV .leq v33 a3) fun v35 => condM v35 (bindO (indexAddrV 1 a1 a10) fun v40 => bindO (ldV 1 false h v40) fun v41 => bindO (binV .neq v41 (.int .i64 0)) fun v42 => condM v42 (bindO (binV .add a10 a11) fun v49 => bindO (binV .add a10 a11) fun v53 => bindO (indexAddrV 1 a9 v53) fun v54 => bindO (ldV 1 false h v54) fun v55 => bindO (indexAddrV 1 a1 a10) fun v58 => bindO (ldV 1 false h v58) fun v59 => bindO (indexAddrV 1 a2 a11) fun v62 => bindO (ldV 1 false h v62) fun v63 => bindO (binV .mul v59 v63) fun v64 => bindO (binV .add v55 v64) fun v65 => bindO (binV .rem v65 a0) fun v67 => bindO (indexAddrV 1 a9 v49) fun v68 => bindO (storeV 1 h v67 v68) fun h1 => bindO (binV .add a11 (.int .i64 1)) fun v45 => K [a0, a1, a2, a3, a9, a10, v45] h1) (K0 [a0, a1, a2, a3, a9, a10] h)) (K0 [a0, a1, a2, a3, a9, a10] h)) (K0 [a0, a1, a2, a3, a9, a10] h)
theorem wl_spec_l02Times_0 {a0 a1 a2 a3 a9 a10 a11 : Value} {h : Hp} {K K0 : Kont} (H : q_spec_l02Times_0 a0 a1 a2 a3 a9 a10 a11 h K K0) : ∀ e : Env, [e 0, e 1, e 2, e 3, e 9, e 10, e 11] = [a0, a1, a2, a3, a9, a10, a11] → V FF l_spec_l02Times_0 (qsel [0, 1, 2, 3, 9, 10, 11] K [(.exit 2, [0, 1, 2, 3, 9, 10], K0)]) ⟨e, h⟩ := by
  intro e he; cases he; exact Eq.mp (by kernel_rfl) H
def l_spec_l02Times_1 : YC :=
  .seq (.seq (.region false [m 15 10,
  m 16 1,
  p 17 (.len  16),
  p 18 (.bin .lss 15 17),
  m 19 18,
  ⟨some 20, .p (.move  10), some (19, true), false⟩,
  ⟨some 21, .p (.move  3), some (19, true), false⟩,
  ⟨some 22, .p (.bin .leq 20 21), some (19, true), false⟩,
  p 23 (.pick  19 22 (.c (.bool false)))])
 (.cond 23
 (.skip)
 (.exit 0)))
 (.seq (.block 1
 (.seq (.region false [mc 11 (k 0)])
 (.block 2
 (.loop [0, 1, 2, 3, 9, 10, 11] [(.exit 2, [0, 1, 2, 3, 9, 10])] l_spec_l02Times_0))))
 (.region false [m 24 10,
  p 25 (.bin .add 24 (k 1)),
  m 10 25]))
def q_spec_l02Times_1 (a0 a1 a2 a3 a9 a10 : Value) (h : Hp) (K K0 : Kont) : Prop :=
  bindO (lenV  a1) fun v17 => bindO (binV .lss a10 v17) fun v18 => condM v18 (bindO (binV .leq a10 a3) fun v22 => condM v22 (LP FF (YC.er l_spec_l02Times_0) [0, 1, 2, 3, 9, 10, 11] [(.exit 2, [0, 1, 2, 3, 9, 10], fun vs h1 => ∀ e : Env, [e 0, e 1, e 2, e 3, e 9, e 10] = vs → bindO (binV .add (e 10) (.int .i64 1)) fun v25 => K [(e 0), (e 1), (e 2), (e 3), (e 9), v25] h1)] [a0, a1, a2, a3, a9, a10, (.int .i64 0)] h) (K0 [a9] h)) (K0 [a9] h)
theorem wl_spec_l02Times_1 {a0 a1 a2 a3 a9 a10 : Value} {h : Hp} {K K0 : Kont} (H : q_spec_l02Times_1 a0 a1 a2 a3 a9 a10 h K K0) : ∀ e : Env, [e 0, e 1, e 2, e 3, e 9, e 10] = [a0, a1, a2, a3, a9, a10] → V FF l_spec_l02Times_1 (qsel [0, 1, 2, 3, 9, 10] K [(.exit 0, [9], K0)]) ⟨e, h⟩ := by
  intro e he; cases he; exact Eq.mp (by kernel_rfl) H
def y_spec_l02Times : YC :=
  .seq (.region false [mc 8 (.c (.slice none 0 0))])
 (.seq (.region false [m 12 3,
  p 13 (.bin .add 12 (k 1)),
  o 14 (.make y_t_int64 1 8 [.int .i64 0] 13),
  m 9 14])
 (.seq (.seq (.region false [mc 10 (k 0)])
 (.block 0
 (.loop [0, 1, 2, 3, 9, 10] [(.exit 0, [9])] l_spec_l02Times_1)))
 (.seq (.region false [m 69 9,
  m 8 69])
 (.ret))))
theorem c_spec_l02Times : FF n_spec_l02Times = some ⟨70, y_spec_l02Times.er, [.tmp 8]⟩ := by kernel_rfl
def p_spec_l02Times (a0 a1 a2 a3 : Value) (h : Hp) (R : Value → Hp → Prop) : Prop :=
  bindO (binV .add a3 (.int .i64 1)) fun v13 => bindO (makN v13) fun c14 => newB h ⟨reps c14 [.int .i64 0], y_t_int64, true⟩ fun b14 h1 => LP FF (YC.er l_spec_l02Times_1) [0, 1, 2, 3, 9, 10] [(.exit 0, [9], fun vs h2 => ∀ e : Env, [e 9] = vs → R (e 9) h2)] [a0, a1, a2, a3, (.slice (some ⟨b14, 0, none⟩) c14 1), (.int .i64 0)] h1
theorem w_spec_l02Times {a0 a1 a2 a3 : Value} {h : Hp} {R : Value → Hp → Prop} (H : p_spec_l02Times a0 a1 a2 a3 h R) : CallW FF n_spec_l02Times [a0, a1, a2, a3] h R := callV_fin c_spec_l02Times (Eq.mp (by kernel_rfl) H)
def y_spec_l04Opposite : YC :=
  .seq (.region false [o 2 (.box y_t_impl_Plane 2 0),
  mc 4 (.c (.slice none 0 0))])
 (.seq (.region true [p 5 (.fieldAddr 0 2),
  ⟨some 6, .load 1 false 5, none, true⟩,
  o 7 (.load 2 true 2),
  ⟨some 8, cl n_spec_l04Inverse [7], none, true⟩,
  m 9 1,
  m 10 1,
  p 11 (.len  10),
  p 12 (.bin .sub 11 (k 1)),
  o 13 (cl n_spec_l02Compose [6, 8, 9, 12]),
  m 4 13])
 (.ret))
theorem c_spec_l04Opposite : FF n_spec_l04Opposite = some ⟨14, y_spec_l04Opposite.er, [.tmp 4]⟩ := by kernel_rfl
def p_spec_l04Opposite (a0 a1 : Value) (h : Hp) (R : Value → Hp → Prop) : Prop :=
  bindO (boxV 2 a0) fun c2 => newB h ⟨c2, y_t_impl_Plane, true⟩ fun b2 h1 => bindO (fieldAddrV 0 (.pointer (some ⟨b2, 0, none⟩))) fun v5 => inB h1.nx v5 ∧ (bindO (ldV 1 false h1 v5) fun v6 => bindO (ldV 2 true h1 (.pointer (some ⟨b2, 0, none⟩))) fun v7 => CallW FF n_spec_l04Inverse [v7] h1 fun v8 h2 => keepB h1.nx h1 h2 ∧ (bindO (lenV  a1) fun v11 => bindO (binV .sub v11 (.int .i64 1)) fun v12 => CallW FF n_spec_l02Compose [v6, v8, a1, v12] h2 fun v13 h3 => R v13 h3))
theorem w_spec_l04Opposite {a0 a1 : Value} {h : Hp} {R : Value → Hp → Prop} (H : p_spec_l04Opposite a0 a1 h R) : CallW FF n_spec_l04Opposite [a0, a1] h R := callV_fin c_spec_l04Opposite (Eq.mp (by kernel_rfl) H)
def l_slices_Equal_Lint64_int64_0 : YC :=
  .seq (.region false [p 14 (.bin .lss 13 12)])
 (.seq (.cond 14
 (.skip)
 (.exit 0))
 (.seq (.block 1
 (.seq (.region false [m 15 13,
  m 5 15])
 (.seq (.region false [m 16 0,
  m 17 5,
  p 18 (.indexAddr 1 16 17),
  o 19 (.load 1 false 18),
  m 20 1,
  m 21 5,
  p 22 (.indexAddr 1 20 21),
  o 23 (.load 1 false 22),
  p 24 (.bin .neq 19 23)])
 (.cond 24
 (.seq (.region false [mc 4 (.c (.bool false))])
 (.ret))
 (.skip)))))
 (.region false [p 25 (.bin .add 13 (k 1)),
  m 13 25])))
def q_slices_Equal_Lint64_int64_0 (a0 a1 a12 a13 : Value) (h : Hp) (K K0 K1 : Kont) : Prop :=
  bindO (binV .lss a13 a12) fun v14 => condM v14 (bindO (indexAddrV 1 a0 a13) fun v18 => bindO (ldV 1 false h v18) fun v19 => bindO (indexAddrV 1 a1 a13) fun v22 => bindO (ldV 1 false h v22) fun v23 => bindO (binV .neq v19 v23) fun v24 => condM v24 (K1 [(.bool false)] h) (bindO (binV .add a13 (.int .i64 1)) fun v25 => K [a0, a1, a12, v25] h)) (K0 [] h)
theorem wl_slices_Equal_Lint64_int64_0 {a0 a1 a12 a13 : Value} {h : Hp} {K K0 K1 : Kont} (H : q_slices_Equal_Lint64_int64_0 a0 a1 a12 a13 h K K0 K1) : ∀ e : Env, [e 0, e 1, e 12, e 13] = [a0, a1, a12, a13] → V FF l_slices_Equal_Lint64_int64_0 (qsel [0, 1, 12, 13] K [(.exit 0, [], K0), (.ret, [4], K1)]) ⟨e, h⟩ := by
  intro e he; cases he; exact Eq.mp (by kernel_rfl) H
def y_slices_Equal_Lint64_int64 : YC :=
  .seq (.region false [mc 4 (.c (.bool false))])
 (.seq (.seq (.region false [m 6 0,
  p 7 (.len  6),
  m 8 1,
  p 9 (.len  8),
  p 10 (.bin .neq 7 9)])
 (.cond 10
 (.seq (.region false [mc 4 (.c (.bool false))])
 (.ret))
 (.skip)))
 (.seq (.seq (.region false [m 11 0,
  p 12 (.len  11),
  mc 13 (k 0)])
 (.block 0
 (.loop [0, 1, 12, 13] [(.exit 0, []), (.ret, [4])] l_slices_Equal_Lint64_int64_0)))
 (.seq (.region false [mc 4 (.c (.bool true))])
 (.ret))))
theorem c_slices_Equal_Lint64_int64 : FF n_slices_Equal_Lint64_int64 = some ⟨26, y_slices_Equal_Lint64_int64.er, [.tmp 4]⟩ := by kernel_rfl
def p_slices_Equal_Lint64_int64 (a0 a1 : Value) (h : Hp) (R : Value → Hp → Prop) : Prop :=
  bindO (lenV  a0) fun v7 => bindO (lenV  a1) fun v9 => bindO (binV .neq v7 v9) fun v10 => condM v10 (R (.bool false) h) (bindO (lenV  a0) fun v12 => LP FF (YC.er l_slices_Equal_Lint64_int64_0) [0, 1, 12, 13] [(.exit 0, [], fun vs h1 => ∀ e : Env, [] = vs → R (.bool true) h1), (.ret, [4], fun vs h1 => ∀ e : Env, [e 4] = vs → R (e 4) h1)] [a0, a1, v12, (.int .i64 0)] h)
theorem w_slices_Equal_Lint64_int64 {a0 a1 : Value} {h : Hp} {R : Value → Hp → Prop} (H : p_slices_Equal_Lint64_int64 a0 a1 h R) : CallW FF n_slices_Equal_Lint64_int64 [a0, a1] h R := callV_fin c_slices_Equal_Lint64_int64 (Eq.mp (by kernel_rfl) H)
def l_impl_Plane_inverse_0 : YC :=
  .seq (.seq (.region false [m 16 5,
  o 17 (.load 2 true 1),
  o 18 (cl n_impl_Plane_degree [17]),
  p 19 (.bin .leq 16 18)])
 (.cond 19
 (.skip)
 (.exit 0)))
 (.seq (.block 1
 (.region true [p 22 (.fieldAddr 1 4),
  ⟨some 23, .load 1 false 22, none, true⟩,
  m 24 5,
  o 25 (.load 2 true 1),
  o 26 (.load 2 true 3),
  o 27 (.load 2 true 4),
  ⟨some 28, cl n_impl_Plane_curves [25, 26, 27], none, true⟩,
  p 29 (.field 1 1 false 28),
  m 30 5,
  p 31 (.indexAddr 1 29 30),
  o 32 (.load 1 false 31),
  p 33 (.un .neg 32),
  p 34 (.fieldAddr 0 1),
  ⟨some 35, .load 1 false 34, none, true⟩,
  ⟨some 36, cl n_impl_mod [33, 35], none, true⟩,
  p 37 (.indexAddr 1 23 24),
  e (.store 1 37 36)]))
 (.region false [m 20 5,
  p 21 (.bin .add 20 (k 1)),
  m 5 21]))
def q_impl_Plane_inverse_0 (a1 a2 a3 a4 a5 : Value) (h : Hp) (K K0 : Kont) : Prop :=
  bindO (ldV 2 true h a1) fun v17 => CallW FF n_impl_Plane_degree [v17] h fun v18 h1 => bindO (binV .leq a5 v18) fun v19 => condM v19 (bindO (fieldAddrV 1 a4) fun v22 => inB h1.nx v22 ∧ (bindO (ldV 1 false h1 v22) fun v23 => bindO (ldV 2 true h1 a1) fun v25 => bindO (ldV 2 true h1 a3) fun v26 => bindO (ldV 2 true h1 a4) fun v27 => CallW FF n_impl_Plane_curves [v25, v26, v27] h1 fun v28 h2 => keepB h1.nx h1 h2 ∧ (bindO (fieldV 1 1 false v28) fun v29 => bindO (indexAddrV 1 v29 a5) fun v31 => bindO (ldV 1 false h2 v31) fun v32 => bindO (unV .neg v32) fun v33 => bindO (fieldAddrV 0 a1) fun v34 => inB h1.nx v34 ∧ (bindO (ldV 1 false h2 v34) fun v35 => CallW FF n_impl_mod [v33, v35] h2 fun v36 h3 => keepB h1.nx h2 h3 ∧ (bindO (indexAddrV 1 v23 a5) fun v37 => bindO (storeV 1 h3 v36 v37) fun h4 => bindO (binV .add a5 (.int .i64 1)) fun v21 => K [a1, a2, a3, a4, v21] h4))))) (K0 [a2, a4] h1)
theorem wl_impl_Plane_inverse_0 {a1 a2 a3 a4 a5 : Value} {h : Hp} {K K0 : Kont} (H : q_impl_Plane_inverse_0 a1 a2 a3 a4 a5 h K K0) : ∀ e : Env, [e 1, e 2, e 3, e 4, e 5] = [a1, a2, a3, a4, a5] → V FF l_impl_Plane_inverse_0 (qsel [1, 2, 3, 4, 5] K [(.exit 0, [2, 4], K0)]) ⟨e, h⟩ := by
  intro e he; cases he; exact Eq.mp (by kernel_rfl) H
def y_impl_Plane_inverse : YC :=
  .seq (.region false [o 1 (.box y_t_impl_Plane 2 0),
  o 2 (.box y_t_impl_Series 2 (.c (.agg #[.int .i64 0, .slice none 0 0])))])
 (.seq (.region true [p 6 (.fieldAddr 0 1),
  ⟨some 7, .load 1 false 6, none, true⟩,
  o 8 (.load 2 true 1),
  ⟨some 9, cl n_impl_Plane_degree [8], none, true⟩,
  o 10 (cl n_impl_variable [7, 9]),
  o 3 (.box y_t_impl_Series 2 (.c (.agg #[.int .i64 0, .slice none 0 0]))),
  e (.store 2 3 10)])
 (.seq (.region true [p 11 (.fieldAddr 0 1),
  ⟨some 12, .load 1 false 11, none, true⟩,
  o 13 (.load 2 true 1),
  ⟨some 14, cl n_impl_Plane_degree [13], none, true⟩,
  o 15 (cl n_impl_zero [12, 14]),
  o 4 (.box y_t_impl_Series 2 (.c (.agg #[.int .i64 0, .slice none 0 0]))),
  e (.store 2 4 15)])
 (.seq (.seq (.region false [mc 5 (k 1)])
 (.block 0
 (.loop [1, 2, 3, 4, 5] [(.exit 0, [2, 4])] l_impl_Plane_inverse_0)))
 (.seq (.region false [o 38 (.load 2 true 4),
  e (.store 2 2 38)])
 (.ret)))))
theorem c_impl_Plane_inverse : FF n_impl_Plane_inverse = some ⟨39, y_impl_Plane_inverse.er, [.cell 2 2 true]⟩ := by kernel_rfl
def p_impl_Plane_inverse (a0 : Value) (h : Hp) (R : Value → Hp → Prop) : Prop :=
  bindO (boxV 2 a0) fun c1 => newB h ⟨c1, y_t_impl_Plane, true⟩ fun b1 h1 => bindO (boxV 2 (.agg #[.int .i64 0, .slice none 0 0])) fun c2 => newB h1 ⟨c2, y_t_impl_Series, true⟩ fun b2 h2 => bindO (fieldAddrV 0 (.pointer (some ⟨b1, 0, none⟩))) fun v6 => inB h2.nx v6 ∧ (bindO (ldV 1 false h2 v6) fun v7 => bindO (ldV 2 true h2 (.pointer (some ⟨b1, 0, none⟩))) fun v8 => CallW FF n_impl_Plane_degree [v8] h2 fun v9 h3 => keepB h2.nx h2 h3 ∧ (CallW FF n_impl_variable [v7, v9] h3 fun v10 h4 => bindO (boxV 2 (.agg #[.int .i64 0, .slice none 0 0])) fun c3 => newB h4 ⟨c3, y_t_impl_Series, true⟩ fun b3 h5 => bindO (storeV 2 h5 v10 (.pointer (some ⟨b3, 0, none⟩))) fun h6 => bindO (fieldAddrV 0 (.pointer (some ⟨b1, 0, none⟩))) fun v11 => inB h6.nx v11 ∧ (bindO (ldV 1 false h6 v11) fun v12 => bindO (ldV 2 true h6 (.pointer (some ⟨b1, 0, none⟩))) fun v13 => CallW FF n_impl_Plane_degree [v13] h6 fun v14 h7 => keepB h6.nx h6 h7 ∧ (CallW FF n_impl_zero [v12, v14] h7 fun v15 h8 => bindO (boxV 2 (.agg #[.int .i64 0, .slice none 0 0])) fun c4 => newB h8 ⟨c4, y_t_impl_Series, true⟩ fun b4 h9 => bindO (storeV 2 h9 v15 (.pointer (some ⟨b4, 0, none⟩))) fun h10 => LP FF (YC.er l_impl_Plane_inverse_0) [1, 2, 3, 4, 5] [(.exit 0, [2, 4], fun vs h11 => ∀ e : Env, [e 2, e 4] = vs → bindO (ldV 2 true h11 (e 4)) fun v38 => bindO (storeV 2 h11 v38 (e 2)) fun h12 => bindO (ldV 2 true h12 (e 2)) fun r2 => R r2 h12)] [(.pointer (some ⟨b1, 0, none⟩)), (.pointer (some ⟨b2, 0, none⟩)), (.pointer (some ⟨b3, 0, none⟩)), (.pointer (some ⟨b4, 0, none⟩)), (.int .i64 1)] h10))))
theorem w_impl_Plane_inverse {a0 : Value} {h : Hp} {R : Value → Hp → Prop} (H : p_impl_Plane_inverse a0 h R) : CallW FF n_impl_Plane_inverse [a0] h R := callV_fin c_impl_Plane_inverse (Eq.mp (by kernel_rfl) H)
end XM
