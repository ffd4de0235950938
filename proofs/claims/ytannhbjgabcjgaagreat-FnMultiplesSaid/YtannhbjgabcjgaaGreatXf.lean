/- What is proved at the end: for every input FnMultiples returns true and its argument reads as it did; without condition. Part 6 of 7. -/
import Derived.Test.YtannhbjgabcjgaaGreatXe

/- The program's laws: curved, inverse, opposite. -/
namespace XM
open Go

theorem codeC_1 {m : Int} {T : List (List Int)} {L : List (Int × List Int)} (h : ¬ (LawT m T ∧ ∀ e ∈ L, IsS e.1 e.2)) : codeC m T L = 1 := by
  unfold codeC
  split
  · rfl
  · rename_i h1
    rw [if_pos (fun h2 => h ⟨Classical.not_not.1 h1, h2⟩)]
theorem codeC_2 {m : Int} {T : List (List Int)} {L : List (Int × List Int)} (h1 : LawT m T) (h2 : ∀ e ∈ L, IsS e.1 e.2) (h3 : ¬ ∀ e ∈ L, IsC e.1 e.2 ∧ e.1 = m ∧ e.2.length = T.length) : codeC m T L = 2 := by
  unfold codeC
  rw [if_neg (not_not_intro h1), if_neg (not_not_intro h2), if_pos h3]
theorem codeC_0 {m : Int} {T : List (List Int)} {L : List (Int × List Int)} (h1 : LawT m T) (h3 : ∀ e ∈ L, IsC e.1 e.2 ∧ e.1 = m ∧ e.2.length = T.length) : codeC m T L = 0 := by
  unfold codeC
  rw [if_neg (not_not_intro h1), if_neg (not_not_intro fun e he => (h3 e he).1.1), if_neg (not_not_intro h3)]

theorem s_impl_curved {m : Int} {A B : Option Addr} {Rr : Nat → Option Addr} {T : List (List Int)} {L : List Ser} {n n2 c c2 : Nat} {h : Hp} {R : Value → Hp → Prop} (hT : RT h A Rr T) (hL : RS h B L) (hn : n = T.length) (hn2 : n2 = L.length) (hl : n ≤ 1000000) (hrl : ∀ i, i < T.length → (row T i).length ≤ 1000000)
    (hl2 : L.length ≤ 1000000) (hll : ∀ x ∈ L, x.xs.length ≤ 1000000)
    (hR : ∀ h', HE h h' → R (i6 (codeC m T (L.map fun e => (e.m, e.xs)))) h') : CallW FF n_impl_curved [sv m A n c, .slice B n2 c2] h R := by
  subst hn; subst hn2
  refine w_impl_curved ?_
  simp [p_impl_curved]
  refine newB_i fun b h1 eb en eh eB => ?_
  have bx := box2 eB
  simp [bx]
  have hel : ∀ x ∈ L, RI h x.A x.xs := fun x hx => by
    obtain ⟨i, hi, rfl⟩ := List.getElem_of_mem hx
    exact hL.el i _ (List.getElem?_eq_getElem hi)
  have c2' : (∀ e ∈ L.map fun e => (e.m, e.xs), IsS e.1 e.2) ↔ ∀ x ∈ L, IsS x.m x.xs := by simp
  have c3' : (∀ e ∈ L.map fun e => (e.m, e.xs), IsC e.1 e.2 ∧ e.1 = m ∧ e.2.length = T.length) ↔ ∀ x ∈ L, IsC x.m x.xs ∧ x.m = m ∧ x.xs.length = T.length := by simp
  refine ⟨fun vs h2 => ∃ t : Bool, HE h1 h2 ∧ vs = [.slice B L.length c2, .pointer (some ⟨b, 0, none⟩), .bool t] ∧ (t = true ↔ ¬ (LawT m T ∧ ∀ x ∈ L, IsS x.m x.xs)), ?_, ?_⟩
  · rintro vs h2 ⟨t, e2, rfl, ht⟩ e he
    simp at he
    cases t with
    | true =>
      simp [he]
      have h3 := hR _ (eh.trans e2)
      have hno := ht.1 rfl
      rw [codeC_1 (fun h => hno ⟨h.1, c2'.1 h.2⟩)] at h3; exact h3
    | false =>
      have hyes : LawT m T ∧ ∀ x ∈ L, IsS x.m x.xs := Classical.byContradiction fun h => by have := ht.2 h; cases this
      obtain ⟨q1, q2⟩ := hyes
      have bx2 := box2 (e2.to eB (by omega))
      simp [he, bx2]
      refine s_allS (p := fun x => decide ((m = x.m ∧ T.length = x.xs.length) ∧ gt x.xs 0 = 0)) (hL.mono (eh.trans e2)) rfl hl2 ?_ fun h3 e3 => ?_
      · intro x hx h3 R3 e3 hR3
        simp
        exact s_impl_Plane_isCurveOf ((hel x hx).mono ((eh.trans e2).trans e3)) rfl (by omega) (hll x hx) (by have := (q2 x hx).2.1; omega) hR3
      · have h4 := hR _ ((eh.trans e2).trans e3)
        have e5 : (L.all fun x => decide ((m = x.m ∧ T.length = x.xs.length) ∧ gt x.xs 0 = 0)) = true ↔ ∀ x ∈ L, IsC x.m x.xs ∧ x.m = m ∧ x.xs.length = T.length := by
          simp only [List.all_eq_true, decide_eq_true_eq]
          constructor
          · intro h x hx; obtain ⟨⟨h1, h2⟩, h3⟩ := h x hx; exact ⟨⟨q2 x hx, h3⟩, h1.symm, h2.symm⟩
          · intro h x hx; obtain ⟨h1, h2, h3⟩ := h x hx; exact ⟨⟨h2.symm, h3.symm⟩, h1.2⟩
        cases hb : (L.all fun x => decide ((m = x.m ∧ T.length = x.xs.length) ∧ gt x.xs 0 = 0)) with
        | true =>
          rw [codeC_0 q1 (c3'.2 (e5.1 hb))] at h4
          simpa using h4
        | false =>
          rw [codeC_2 q1 (c2'.2 q2) (fun h => by have := e5.2 (c3'.1 h); rw [hb] at this; cases this)] at h4
          simpa using h4
  · refine s_impl_IsLaw (hT.mono eh) rfl hl hrl fun h2 e2 => ?_
    by_cases q1 : LawT m T
    · simp [q1]
      refine s_allS (p := fun x => decide (IsS x.m x.xs)) (hL.mono (eh.trans e2)) rfl hl2 ?_ fun h3 e3 => ?_
      · intro x hx h3 R3 e3 hR3
        simp
        exact s_impl_IsSeries ((hel x hx).mono ((eh.trans e2).trans e3)) rfl (hll x hx) hR3
      · simp only [un_not, bindO_some]
        refine ⟨e2.trans e3, ?_⟩
        by_cases q2 : ∀ x ∈ L, IsS x.m x.xs
        · left; exact ⟨by simpa using q2, q2⟩
        · right; exact ⟨by simpa using q2, by simpa using q2⟩
    · simp [q1]
      exact e2

theorem s_impl_Plane_inverse {m : Int} {A : Option Addr} {Ra : Nat → Option Addr} {T : List (List Int)} {D n c : Nat} {h : Hp} {R : Value → Hp → Prop} (hT : RT h A Ra T) (hn : n = D + 1) (t : Tri m D T) (hm : 2 ≤ m) (hm2 : m ≤ 3000000000) (hD : D ≤ 100000) (hD1 : 1 ≤ D)
    (hR : ∀ v h', HE h h' → FS h h' v m (invL m D T) → R v h') : CallW FF n_impl_Plane_inverse [sv m A n c] h R := by
  subst hn
  refine w_impl_Plane_inverse ?_
  simp [p_impl_Plane_inverse]
  refine newB_i fun b h1 eb en eh eB => ?_
  refine newB_i fun b2 h2 eb2 en2 eh2 eB2 => ?_
  have E2 := eh.trans eh2
  simp [box2 (eh2.to eB (by omega)), show b < h2.nx by omega]
  refine s_impl_Plane_degree (by omega) fun h3 e3 => ⟨e3.keep, ?_⟩
  refine s_impl_variable (D := D) (by omega) (by omega) hD1 fun v h4 e4 f4 => ?_
  obtain ⟨o, rfl, f4, f5, f6⟩ := f4
  simp
  refine newB_i fun b5 h5 eb5 en5 eh5 eB5 => ?_
  refine storeBox2 eB5 rfl rfl rfl rfl fun h6 u6 => ?_
  have n3 := e3.nx; have n4 := e4.nx; have n6 := u6.nx
  have C26 := (e3.trans e4).trans eh5
  have B1 := u6.to ((eh2.trans C26).to eB (by omega)) (by omega)
  have B2 := u6.to (C26.to eB2 (by omega)) (by omega)
  have E6 : HE h h6 := u6.he (E2.trans C26) (by omega)
  have O6 := u6.to (eh5.to f6 (by omega)) (by omega)
  simp [box2 B1, show b < h6.nx by omega]
  refine s_impl_Plane_degree (by omega) fun h7 e7 => ⟨e7.keep, ?_⟩
  refine s_impl_zero (D := D) (by omega) (by omega) fun v h8 e8 f8 => ?_
  obtain ⟨p, rfl, g4, g5, g6⟩ := f8
  simp
  refine newB_i fun b9 h9 eb9 en9 eh9 eB9 => ?_
  refine storeBox2 eB9 rfl rfl rfl rfl fun h10 u10 => ?_
  have n7 := e7.nx; have n8 := e8.nx; have n10 := u10.nx
  have C610 := (e7.trans e8).trans eh9
  have B1 := u10.to (C610.to B1 (by omega)) (by omega)
  have B2 := u10.to (C610.to B2 (by omega)) (by omega)
  have B5 := u10.to (C610.to u6.bk (by omega)) (by omega)
  have O10 := u10.to (C610.to O6 (by omega)) (by omega)
  have P10 := u10.to (eh9.to g6 (by omega)) (by omega)
  have E10 : HE h h10 := u10.he (E6.trans C610) (by omega)
  have hm0 : 0 < m := by omega
  have w2 : ∀ k : Nat, k ≤ D → IntKind.i64.wrap ((k : Int) + 1) = k + 1 := fun k hk => wrapI (by omega) (by omega)
  refine LP1 (fun d vs h' => ∃ k : Nat, d = D - k ∧ k ≤ D ∧ vs = [.pointer (some ⟨b, 0, none⟩), .pointer (some ⟨b2, 0, none⟩), .pointer (some ⟨b5, 0, none⟩), .pointer (some ⟨b9, 0, none⟩), i6 ((k : Int) + 1)] ∧ HX p h10 h' ∧ h'.bk p = some ⟨mapI (invS m D T k), y_t_int64, true⟩) ?_ _ _ _
    ⟨0, rfl, by omega, by simp, HX.refl _ _, P10⟩
  rintro d vs h11 ⟨k, rfl, hk, rfl, X11, hp⟩ K K1 hK hK1
  refine wl_impl_Plane_inverse_0 ?_
  have n11 := X11.nx
  have HE11 := X11.out E10 (by omega)
  have C1 := X11.to B1 (by omega) (by omega)
  have C5 := X11.to B5 (by omega) (by omega)
  have C9 := X11.to u10.bk (by omega) (by omega)
  simp [q_impl_Plane_inverse_0, box2 C1]
  refine s_impl_Plane_degree (by omega) fun h12 e12 => ?_
  have n12 := e12.nx
  have hp12 := e12.to hp (by omega)
  have C2' := X11.to B2 (by omega) (by omega)
  have X12 := X11.he e12
  have HE12 := HE11.trans e12
  by_cases hlt : k < D
  case neg =>
    have : k = D := by omega
    subst this
    have g : ¬ ((k : Int) + 1 ≤ ((k + 1 : Nat) : Int) - 1) := by omega
    simp only [bin_leq, bindO_some, g, decide_false, condM_false]
    refine hK1 _ _ fun e he => ?_
    simp at he
    simp [he, box2 (e12.to C9 (by omega))]
    refine storeBox2 (e12.to C2' (by omega)) rfl rfl rfl rfl fun h13 u13 => ?_
    simp [box2 u13.bk]
    refine hR _ _ (u13.he HE12 (by omega)) ⟨p, by simp, by omega, by rw [u13.nx]; omega, ?_⟩
    rw [u13.ot _ (by omega), hp12, invL]
  have g : ((k : Int) + 1 ≤ ((D + 1 : Nat) : Int) - 1) := by omega
  simp only [bin_leq, bindO_some, g, decide_true, condM_true]
  have C9b := e12.to C9 (by omega)
  have O12 := X12.to O10 (by omega) (by omega)
  simp [box2 C9b, box2 (e12.to C1 (by omega)), box2 (e12.to C5 (by omega)), show b9 < h12.nx by omega, show b < h12.nx by omega]
  refine s_impl_Plane_curves (D := D) (hT.mono HE12) (RI.of_block (by omega) O12) (RI.of_block (by omega) hp12) rfl rfl rfl t.len (varL_len D) (invS_len m D T k) (fun i hi => by have := (t.rows i hi).1; omega) (fun i hi => (t.rows i hi).2) hm hm2 (nums_varL hm D) (nums_invS hm0 D T k) hD rfl rfl fun v h13 e13 f13 => ⟨e13.keep, ?_⟩
  obtain ⟨q, rfl, q1, q2, q3⟩ := f13
  have n13 := e13.nx
  have r := (RI.of_block q2 q3).at 1 (e := (k : Int) + 1) (i := k + 1) (n := D + 1) (by omega) (by simp) (by simp; omega)
  have hnum := (nums_putL hm0 D T (varL D) (invS m D T k)).gt (show k + 1 < _ by simp; omega)
  have wn : IntKind.i64.wrap (0 - gt (putL m D T (varL D) (invS m D T k)) (k + 1)) = - gt (putL m D T (varL D) (invS m D T k)) (k + 1) := by rw [wrapI (by omega) (by omega)]; omega
  have q5 : indexAddrV 1 (.slice (some ⟨p, 0, none⟩) (D + 1) 1) (.int .i64 ((k : Int) + 1)) = some (.pointer (some ⟨p, k + 1, none⟩)) := ixOwn (i := k + 1) (by omega) (by omega)
  have fv : ∀ (A : Option Addr) (n c : Nat), fieldV 1 1 false (sv m A n c) = some (.slice A n c) := fun A n c => by simp [fieldV, partV]
  simp only [putL_len, fv, bindO_some, r, un_neg, wn, fieldAddr_ptr, Nat.zero_add, Nat.add_zero, inB_ptr, box2 ((e12.trans e13).to C1 (by omega))]
  refine s_impl_mod hm0 (by omega) ⟨keepB_refl _ _, ?_⟩
  simp only [q5, bindO_some]
  refine storeI (i := k + 1) (e13.to hp12 (by omega)) (by simp; omega) fun h14 u14 => ?_
  simp [show IntKind.i64.wrap ((k : Int) + 1 + 1) = ((k + 1 : Nat) : Int) + 1 by rw [wrapI] <;> omega]
  exact hK _ _ _ (by omega) ⟨k + 1, rfl, by omega, by simp, (X12.he e13).upd u14, by rw [u14.bk]; rfl⟩

theorem s_impl_Plane_opposite {m m1 : Int} {A B : Option Addr} {Ra : Nat → Option Addr} {T : List (List Int)} {a : List Int} {D n n2 c : Nat} {h : Hp} {R : Value → Hp → Prop} (hT : RT h A Ra T) (ha : RI h B a) (hn : n = D + 1) (hn2 : n2 = D + 1) (t : Tri m D T) (hm : 2 ≤ m) (hm2 : m ≤ 3000000000)
    (hD : D ≤ 90000) (hD1 : 1 ≤ D) (hal : a.length = D + 1) (hx : Nums m a)
    (hR : ∀ v h', HE h h' → FS h h' v m (oppL m D T a) → R v h') : CallW FF n_impl_Plane_opposite [sv m A n c, sv m1 B n2 1] h R := by
  subst hn; subst hn2
  refine w_impl_Plane_opposite ?_
  simp [p_impl_Plane_opposite]
  refine newB_i fun b h1 eb en eh eB => ?_
  refine newB_i fun b2 h2 eb2 en2 eh2 eB2 => ?_
  refine newB_i fun b3 h3 eb3 en3 eh3 eB3 => ?_
  have E3 := (eh.trans eh2).trans eh3
  simp [box2 ((eh2.trans eh3).to eB (by omega))]
  refine s_impl_Plane_inverse (hT.mono E3) rfl t hm hm2 (by omega) hD1 fun v h4 e4 f4 => ⟨e4.keep, by omega, ?_⟩
  obtain ⟨q, rfl, q1, q2, q3⟩ := f4
  have n4 := e4.nx
  simp [box2 ((eh3.trans e4).to eB2 (by omega))]
  refine s_impl_Series_compose (D := D) (RI.of_block q2 q3) (ha.mono (E3.trans e4)) rfl rfl hm hm2 (nums_invS (by omega) D T D) hx (by omega) (by simp) hal fun v h5 e5 f5 => ?_
  obtain ⟨w, rfl, w1, w2, w3⟩ := f5
  have n5 := e5.nx
  simp
  refine storeBox2 ((e4.trans e5).to eB3 (by omega)) rfl rfl rfl rfl fun h6 u6 => ?_
  simp [box2 u6.bk]
  refine hR _ _ (u6.he ((E3.trans e4).trans e5) (by omega)) ⟨w, by simp [oppL], by omega, by rw [u6.nx]; omega, ?_⟩
  rw [u6.ot _ (by omega), w3]; rfl
end XM

/- The program's laws: multiples and the functions of the package. -/
namespace XM
open Go

theorem s_impl_Plane_multiple_pos {m m1 : Int} {A B : Option Addr} {Ra : Nat → Option Addr} {T : List (List Int)} {a : List Int} {D n n2 c N : Nat} {h : Hp} {R : Value → Hp → Prop} (hT : RT h A Ra T) (ha : RI h B a) (hn : n = D + 1) (hn2 : n2 = D + 1) (t : Tri m D T) (hm : 2 ≤ m) (hm2 : m ≤ 3000000000)
    (hD : D ≤ 90000) (hal : a.length = D + 1) (hx : Nums m a) (hN : N ≤ 1000000000) (e1 : m1 = m)
    (hR : ∀ v h', HE h h' → FS h h' v m (binL m D T N a (List.replicate (D + 1) 0)) → R v h') : CallW FF n_impl_Plane_multiple [sv m A n c, i6 N, sv m1 B n2 1] h R := by
  subst hn; subst hn2; subst e1
  refine w_impl_Plane_multiple ?_
  have g0 : ¬ (N : Int) < 0 := by omega
  simp [p_impl_Plane_multiple]
  refine newB_i fun b h1 eb en eh eB => ?_
  refine newB_i fun b2 h2 eb2 en2 eh2 eB2 => ?_
  refine newB_i fun b3 h3 eb3 en3 eh3 eB3 => ?_
  have E3 := (eh.trans eh2).trans eh3
  simp [g0, box2 ((eh2.trans eh3).to eB (by omega)), show b < h3.nx by omega]
  refine s_impl_Plane_degree (by omega) fun h4 e4 => ⟨e4.keep, ?_⟩
  refine s_impl_zero (D := D) (by omega) (by omega) fun v h5 e5 f5 => ?_
  obtain ⟨o, rfl, f5, f6, f7⟩ := f5
  simp
  refine newB_i fun b6 h6 eb6 en6 eh6 eB6 => ?_
  refine storeBox2 eB6 rfl rfl rfl rfl fun h7 u7 => ?_
  have n4 := e4.nx; have n5 := e5.nx; have n7 := u7.nx
  have C36 := (e4.trans e5).trans eh6
  have B1 := u7.to (((eh2.trans eh3).trans C36).to eB (by omega)) (by omega)
  have B2 := u7.to ((eh3.trans C36).to eB2 (by omega)) (by omega)
  have B3 := u7.to (C36.to eB3 (by omega)) (by omega)
  have O7 := u7.to (eh6.to f7 (by omega)) (by omega)
  have E7 : HE h h7 := u7.he (E3.trans C36) (by omega)
  have rT : ∀ i, i < T.length → (row T i).length ≤ D + 1 := fun i hi => by have := (t.rows i hi).1; omega
  refine LP1 (fun d vs h' => ∃ (k o : Nat) (A' : Option Addr) (y1 y2 : TypeId) (a' out : List Int), k = d ∧ k ≤ N ∧ vs = [i6 k, .pointer (some ⟨b, 0, none⟩), .pointer (some ⟨b2, 0, none⟩), .pointer (some ⟨b3, 0, none⟩), .pointer (some ⟨b6, 0, none⟩)] ∧ HE h h' ∧ h7.nx ≤ h'.nx ∧
     h'.bk b = some ⟨[i6 m1, .slice A (D + 1) c], y_t_impl_Plane, true⟩ ∧ h'.bk b2 = some ⟨[i6 m1, .slice A' (D + 1) 1], y1, true⟩ ∧ h'.bk b3 = h7.bk b3 ∧ h'.bk b6 = some ⟨[i6 m1, .slice (some ⟨o, 0, none⟩) (D + 1) 1], y2, true⟩ ∧
     RI (msk h' fun x => x = b2 ∨ x = b6 ∨ x = b3) A' a' ∧ a'.length = D + 1 ∧ Nums m1 a' ∧
     h.nx ≤ o ∧ o < h'.nx ∧ o ≠ b2 ∧ o ≠ b6 ∧ o ≠ b3 ∧ h'.bk o = some ⟨mapI out, y_t_int64, true⟩ ∧ out.length = D + 1 ∧ Nums m1 out ∧ binL m1 D T k a' out = binL m1 D T N a (List.replicate (D + 1) 0)) ?_ _ _ _
    ⟨N, o, B, _, _, a, List.replicate (D + 1) 0, rfl, by omega, rfl, E7, by omega, B1, B2, rfl, u7.bk, ?_, hal, hx, by omega, by omega, by omega, by omega, by omega, O7, by simp, nums_rep (by omega) _, rfl⟩
  case refine_2 => exact ha.mos ⟨E7.nx, fun q x hq hx => by rw [msk_bk (by omega)]; exact E7.to hx hq⟩
  rintro d vs h8 ⟨k, p, A', y1, y2, a', out, rfl, hk, rfl, HE8, n8, hb1, hb2, hb3, hb6, hA, hl, hn, hp1, hp2, hp3, hp4, hp5, hp6, hol, hon, hb⟩ K K1 hK hK1
  refine wl_impl_Plane_multiple_0 ?_
  by_cases hk0 : k = 0
  · subst hk0
    simp [q_impl_Plane_multiple_0]
    refine hK1 _ _ fun e he => ?_
    simp at he
    simp [he, box2 hb6]
    rw [binL, if_pos rfl] at hb
    refine storeBox2 (hb3.trans B3) rfl rfl rfl rfl fun h9 u9 => ?_
    simp [box2 u9.bk]
    exact hR _ _ (u9.he HE8 (by omega)) ⟨p, by simp [← hb, hol], hp1, by rw [u9.nx]; omega, by rw [u9.ot _ hp5, hp6, hb]⟩
  have hpos' : 0 < k := by omega
  have d1 : (k : Int).tmod 2 = ((k % 2 : Nat) : Int) := by rw [Int.tmod_eq_emod_of_nonneg (by omega)]; omega
  have d2 : (k : Int).tdiv 2 = (k : Int) / 2 := Int.tdiv_eq_ediv_of_nonneg (by omega)
  have d3 : IntKind.i64.wrap ((k : Int) / 2) = (k : Int) / 2 := wrapI (by omega) (by omega)
  rw [binL, if_neg hk0] at hb
  simp [q_impl_Plane_multiple_0, hpos']
  refine ⟨fun vs h' => ∃ (o : Nat) (out' : List Int) (y1 y2 : TypeId), vs = [i6 k, .pointer (some ⟨b, 0, none⟩), .pointer (some ⟨b2, 0, none⟩), .pointer (some ⟨b3, 0, none⟩), .pointer (some ⟨b6, 0, none⟩)] ∧ HE h h' ∧ h7.nx ≤ h'.nx ∧
     h'.bk b = some ⟨[i6 m1, .slice A (D + 1) c], y_t_impl_Plane, true⟩ ∧ h'.bk b2 = some ⟨[i6 m1, .slice A' (D + 1) 1], y1, true⟩ ∧ h'.bk b3 = h7.bk b3 ∧ h'.bk b6 = some ⟨[i6 m1, .slice (some ⟨o, 0, none⟩) (D + 1) 1], y2, true⟩ ∧
     RI (msk h' fun x => x = b2 ∨ x = b6 ∨ x = b3) A' a' ∧
     h.nx ≤ o ∧ o < h'.nx ∧ o ≠ b2 ∧ o ≠ b6 ∧ o ≠ b3 ∧ h'.bk o = some ⟨mapI out', y_t_int64, true⟩ ∧ out' = (if k % 2 = 1 then putL m1 D T out a' else out), ?_, ?_⟩
  · rintro vs h9 ⟨q, out', y1, y2, rfl, HE9, n9, hb1, hb2, hb3, hb6, hA, hp1, hp2, hp3, hp4, hp5, hp6, hout⟩ e he
    simp at he
    have hA9 := hA.mos (msk_hs _)
    simp [he, box2 hb1, box2 hb2]
    refine s_impl_Plane_curves (hT.mono HE9) hA9 hA9 rfl rfl rfl t.len hl hl rT (fun i hi => (t.rows i hi).2) hm hm2 hn hn (by omega) rfl rfl fun w h10 e10 f10 => ?_
    obtain ⟨w, rfl, w1, w2, w3⟩ := f10
    have n10 := e10.nx
    simp [d2, d3]
    refine storeBox2 (e10.to hb2 (by omega)) rfl rfl rfl rfl fun h11 u11 => ?_
    have n11 := u11.nx
    refine hK (k / 2) _ _ (by omega) ⟨k / 2, q, some ⟨w, 0, none⟩, y1, y2, putL m1 D T a' a', out', rfl, by omega, by simp, u11.he (HE9.trans e10) (by omega), by omega, u11.to (e10.to hb1 (by omega)) (by omega), by simpa using u11.bk, ?_, u11.to (e10.to hb6 (by omega)) (by omega), ?_, by simp, nums_putL (by omega) _ _ _ _, hp1, by omega, hp3, hp4, hp5, u11.to (e10.to hp6 (by omega)) (by omega), ?_, ?_, ?_⟩
    · rw [u11.ot _ (by omega), e10.bk _ (by omega)]; exact hb3
    · exact RI.of_block (by simp; omega) ((msk_bk (by omega)).trans (u11.to w3 (by omega)))
    · rw [hout]; split <;> simp [hol]
    · rw [hout]; split
      · exact nums_putL (by omega) _ _ _ _
      · exact hon
    · rw [hout]; exact hb
  · by_cases h2 : k % 2 = 1
    · have d1' : (k : Int).tmod 2 = 1 := by rw [d1, h2]; rfl
      have hA8 := hA.mos (msk_hs _)
      simp [d1', box2 hb1, box2 hb2, box2 hb6]
      refine s_impl_Plane_curves (hT.mono HE8) (RI.of_block hp2 hp6) hA8 rfl rfl rfl t.len hol hl rT (fun i hi => (t.rows i hi).2) hm hm2 hon hn (by omega) rfl rfl fun w h10 e10 f10 => ?_
      obtain ⟨w, rfl, w1, w2, w3⟩ := f10
      have n10 := e10.nx
      simp
      refine storeBox2 (e10.to hb6 (by omega)) rfl rfl rfl rfl fun h11 u11 => ?_
      have n11 := u11.nx
      have hb1' := u11.to (e10.to hb1 (by omega)) (by omega)
      have hb2' := u11.to (e10.to hb2 (by omega)) (by omega)
      have hp6' := u11.to w3 (by omega)
      refine ⟨u11.he (HE8.trans e10) (by omega), by omega, hb1', ⟨_, hb2'⟩, ?_, w, ⟨_, by simpa using u11.bk⟩, ?_, by omega, by omega, by omega, by omega, by omega, by rw [if_pos h2]; exact hp6'⟩
      · rw [u11.ot _ (by omega), e10.bk _ (by omega)]; exact hb3
      · exact hA.mos (msk_to (by omega) fun x hx hP => ⟨by rw [u11.ot _ (by omega), e10.bk _ hx], hP⟩)
    · have d1' : (k : Int).tmod 2 = 0 := by rw [d1, show k % 2 = 0 by omega]; rfl
      simp [d1']
      exact ⟨HE8, n8, hb1, ⟨_, hb2⟩, hb3, p, ⟨_, hb6⟩, hA, hp1, hp2, hp3, hp4, hp5, by rw [if_neg h2]; exact hp6⟩

theorem s_impl_Plane_multiple {m m1 : Int} {A B : Option Addr} {Ra : Nat → Option Addr} {T : List (List Int)} {a : List Int} {D n n2 c : Nat} {N : Int} {h : Hp} {R : Value → Hp → Prop} (hT : RT h A Ra T) (ha : RI h B a) (hn : n = D + 1) (hn2 : n2 = D + 1) (t : Tri m D T) (hm : 2 ≤ m) (hm2 : m ≤ 3000000000)
    (hD : D ≤ 90000) (hD1 : 1 ≤ D) (hal : a.length = D + 1) (hx : Nums m a) (hN : -1000000000 ≤ N) (hN2 : N ≤ 1000000000) (e1 : m1 = m)
    (hR : ∀ v h', HE h h' → FS h h' v m (mulN m D T N a) → R v h') : CallW FF n_impl_Plane_multiple [sv m A n c, i6 N, sv m1 B n2 1] h R := by
  by_cases h0 : N < 0
  case neg =>
    obtain ⟨k, rfl⟩ := Int.eq_ofNat_of_zero_le (show 0 ≤ N by omega)
    refine s_impl_Plane_multiple_pos hT ha hn hn2 t hm hm2 hD hal hx (by omega) e1 fun v h' e f => hR v h' e ?_
    rw [mulN, if_neg h0]; simpa using f
  subst hn; subst hn2; subst e1
  refine w_impl_Plane_multiple ?_
  have w1 : IntKind.i64.wrap (-N) = (((-N).toNat : Nat) : Int) := by rw [wrapI (by omega) (by omega)]; omega
  simp [p_impl_Plane_multiple]
  refine newB_i fun b h1 eb en eh eB => ?_
  refine newB_i fun b2 h2 eb2 en2 eh2 eB2 => ?_
  refine newB_i fun b3 h3 eb3 en3 eh3 eB3 => ?_
  have E3 := (eh.trans eh2).trans eh3
  simp only [bin_lss, h0, decide_true, condM_true, bindO_some, box2 ((eh2.trans eh3).to eB (by omega)), box2 (eh3.to eB2 (by omega)), un_neg, w1, inB_ptr]
  refine ⟨by omega, ?_⟩
  refine s_impl_Plane_multiple_pos (N := (-N).toNat) (hT.mono E3) (ha.mono E3) rfl rfl t hm hm2 hD hal hx (by omega) rfl fun v h4 e4 f4 => ⟨e4.keep, ?_⟩
  obtain ⟨q, rfl, q1, q2, q3⟩ := f4
  have n4 := e4.nx
  have hbl : (binL m1 D T (-N).toNat a (List.replicate (D + 1) 0)).length = D + 1 := binL_len (by simp)
  refine s_impl_Plane_opposite (D := D) (hT.mono (E3.trans e4)) (RI.of_block q2 q3) rfl hbl t hm hm2 hD hD1 hbl (nums_binL (by omega) (nums_rep (by omega) _)) fun v h5 e5 f5 => ?_
  obtain ⟨w, rfl, r1, r2, r3⟩ := f5
  have n5 := e5.nx
  refine storeBox2 ((e4.trans e5).to eB3 (by omega)) rfl rfl rfl rfl fun h6 u6 => ?_
  simp [box2 u6.bk]
  refine hR _ _ (u6.he ((E3.trans e4).trans e5) (by omega)) ⟨w, by simp [mulN, h0], by omega, by rw [u6.nx]; omega, ?_⟩
  rw [u6.ot _ (by omega), r3, mulN, if_pos h0]

theorem s_impl_isMultiple {n : Int} {h : Hp} {R : Value → Hp → Prop} (hR : R (.bool (decide (-1000000 ≤ n ∧ n ≤ 1000000))) h) : CallW FF n_impl_isMultiple [i6 n] h R :=
  w_impl_isMultiple (s_impl_in hR)

/-- A series as an answer, whose list can be sliced. -/
def SerQ (h : Hp) (v : Value) (m : Int) (xs : List Int) : Prop := ∃ A c, v = sv m A xs.length c ∧ RI h A xs ∧ (0 < xs.length → c = 1)
theorem SerQ.r {h : Hp} {v : Value} {m : Int} {xs : List Int} (s : SerQ h v m xs) : SerR h v m xs := by
  obtain ⟨A, c, h1, h2, _⟩ := s; exact ⟨A, c, h1, h2⟩
theorem SerQ.mono {h h' : Hp} {v : Value} {m : Int} {xs : List Int} (s : SerQ h v m xs) (e : HE h h') : SerQ h' v m xs := by
  obtain ⟨A, c, h1, h2, h3⟩ := s; exact ⟨A, c, h1, h2.mono e, h3⟩
theorem SerQ.zero (h : Hp) : SerQ h (.agg #[i6 0, .slice none 0 0]) 0 [] := ⟨none, 0, rfl, RI.nil _ _, fun h => by simp at h⟩
theorem FS.q {h h' : Hp} {v : Value} {m : Int} {xs : List Int} (f : FS h h' v m xs) : SerQ h' v m xs := by
  obtain ⟨b, h1, h2, h3, h4⟩ := f; exact ⟨_, 1, h1, RI.of_block h3 h4, fun _ => rfl⟩
theorem FS.upd {h h1 h2 : Hp} {v : Value} {m : Int} {xs : List Int} {o : Nat} {x : Option Blk} (f : FS h h1 v m xs) (u : Upd o x h1 h2) (ho : o < h.nx) : FS h h2 v m xs := by
  obtain ⟨b, q1, q2, q3, q4⟩ := f; exact ⟨b, q1, q2, by rw [u.nx]; exact q3, by rw [u.ot _ (by omega)]; exact q4⟩
theorem FS.one {h h1 : Hp} {v : Value} {m : Int} {xs : List Int} (f : FS h h1 v m xs) : ∃ A, v = sv m A xs.length 1 := by
  obtain ⟨b, q1, _⟩ := f; exact ⟨_, q1⟩

theorem s_impl_MultipleOf {m n : Int} {A : Option Addr} {Rr : Nat → Option Addr} {T : List (List Int)} {l c : Nat} {h : Hp} {R : Value → Hp → Prop} (hT : RT h A Rr T) (hn : l = T.length) (hl : l ≤ 1000000) (hrl : ∀ i, i < T.length → (row T i).length ≤ 1000000)
    (hR : ∀ v h', HE h h' → SerQ h' v (mulOfR m T n).1.1 (mulOfR m T n).1.2 → R (.tuple #[v, i6 (mulOfR m T n).2]) h') : CallW FF n_impl_MultipleOf [sv m A l c, i6 n] h R := by
  subst hn
  refine w_impl_MultipleOf ?_
  simp [p_impl_MultipleOf]
  refine newB_i fun b h1 eb en eh eB => ?_
  refine newB_i fun b2 h2 eb2 en2 eh2 eB2 => ?_
  have E2 := eh.trans eh2
  simp [box2 (eh2.to eB (by omega))]
  refine s_impl_IsLaw (hT.mono E2) rfl hl hrl fun h3 e3 => ?_
  have E3 := E2.trans e3
  have eB3 := e3.to eB2 (by omega)
  by_cases c1 : LawT m T
  case neg =>
    simp [c1]
    refine storeBox2 eB3 rfl rfl rfl rfl fun h4 u => ?_
    simp [(box2 u.bk).1]
    have := hR _ _ (u.he E3 (by omega)) (by simpa [mulOfR, c1] using SerQ.zero h4)
    simpa [mulOfR, c1] using this
  simp [c1]
  refine s_impl_isMultiple ?_
  by_cases c2 : -1000000 ≤ n ∧ n ≤ 1000000
  case neg =>
    simp [c2]
    refine storeBox2 eB3 rfl rfl rfl rfl fun h4 u => ?_
    simp [(box2 u.bk).1]
    have := hR _ _ (u.he E3 (by omega)) (by simpa [mulOfR, c1, c2] using SerQ.zero h4)
    simpa [mulOfR, c1, c2] using this
  have bx3 := box2 ((eh2.trans e3).to eB (by omega))
  obtain ⟨⟨q1, q2, q3⟩, _⟩ := id c1
  have n3 := e3.nx
  simp [c2, bx3, show b < h3.nx by omega]
  refine s_impl_Plane_degree (by omega) fun h4 e4 => ⟨e4.keep, ?_⟩
  refine s_impl_variable (D := T.length - 1) (by omega) (by omega) (by omega) fun v h5 e5 f5 => ⟨e5.keep' e4.nx, ?_⟩
  obtain ⟨w, rfl, f7, f8, f9⟩ := f5
  have n4 := e4.nx; have n5 := e5.nx
  refine s_impl_Plane_multiple (hT.mono (E3.trans (e4.trans e5))) (RI.of_block f8 f9) (D := T.length - 1) (by omega) (by simp) c1.tri (by omega) (by omega) (by omega) (by omega) (by simp) (nums_varL (by omega) _) (by omega) (by omega) rfl fun v h6 e6 f6 => ?_
  obtain ⟨A1, rfl⟩ := f6.one
  have n6 := e6.nx
  refine storeBox2 (((e4.trans e5).trans e6).to eB3 (by omega)) rfl rfl rfl rfl fun h7 u => ?_
  simp [(box2 u.bk).1]
  have := hR _ _ (u.he (E3.trans ((e4.trans e5).trans e6)) (by omega)) (by
    simp only [mulOfR, c1, c2, not_true_eq_false, if_false, and_self]
    exact (f6.upd u (by omega)).q)
  simpa [mulOfR, c1, c2] using this

theorem s_impl_InverseOfLaw {m : Int} {A : Option Addr} {Rr : Nat → Option Addr} {T : List (List Int)} {l c : Nat} {h : Hp} {R : Value → Hp → Prop} (hT : RT h A Rr T) (hn : l = T.length) (hl : l ≤ 1000000) (hrl : ∀ i, i < T.length → (row T i).length ≤ 1000000)
    (hR : ∀ v h', HE h h' → SerQ h' v (invR m T).1.1 (invR m T).1.2 → R (.tuple #[v, i6 (invR m T).2]) h') : CallW FF n_impl_InverseOfLaw [sv m A l c] h R := by
  subst hn
  refine w_impl_InverseOfLaw ?_
  simp [p_impl_InverseOfLaw]
  refine newB_i fun b h1 eb en eh eB => ?_
  refine newB_i fun b2 h2 eb2 en2 eh2 eB2 => ?_
  have E2 := eh.trans eh2
  simp [box2 (eh2.to eB (by omega))]
  refine s_impl_IsLaw (hT.mono E2) rfl hl hrl fun h3 e3 => ?_
  have E3 := E2.trans e3
  have eB3 := e3.to eB2 (by omega)
  by_cases c1 : LawT m T
  case neg =>
    simp [c1]
    refine storeBox2 eB3 rfl rfl rfl rfl fun h4 u => ?_
    simp [(box2 u.bk).1]
    have := hR _ _ (u.he E3 (by omega)) (by simpa [invR, c1] using SerQ.zero h4)
    simpa [invR, c1] using this
  have bx3 := box2 ((eh2.trans e3).to eB (by omega))
  obtain ⟨⟨q1, q2, q3⟩, _⟩ := id c1
  have n3 := e3.nx
  simp [c1, bx3]
  refine s_impl_Plane_inverse (hT.mono E3) (D := T.length - 1) (by omega) c1.tri (by omega) (by omega) (by omega) (by omega) fun v h6 e6 f6 => ?_
  obtain ⟨A1, rfl⟩ := f6.one
  have n6 := e6.nx
  refine storeBox2 (e6.to eB3 (by omega)) rfl rfl rfl rfl fun h7 u => ?_
  simp [(box2 u.bk).1]
  have := hR _ _ (u.he (E3.trans e6) (by omega)) (by
    simp only [invR, c1, not_true_eq_false, if_false]
    exact (f6.upd u (by omega)).q)
  simpa [invR, c1] using this

theorem s_impl_MultipleUnder {m m' n : Int} {A B : Option Addr} {Rr : Nat → Option Addr} {T : List (List Int)} {xs : List Int} {l c l2 c2 : Nat} {h : Hp} {R : Value → Hp → Prop} (hT : RT h A Rr T) (hx : RI h B xs) (hn : l = T.length) (hn2 : l2 = xs.length) (hc2 : 0 < xs.length → c2 = 1) (hl : l ≤ 1000000) (hrl : ∀ i, i < T.length → (row T i).length ≤ 1000000) (hxl : xs.length ≤ 1000000)
    (hR : ∀ v h', HE h h' → SerQ h' v (mulUR m T n m' xs).1.1 (mulUR m T n m' xs).1.2 → R (.tuple #[v, i6 (mulUR m T n m' xs).2]) h') : CallW FF n_impl_MultipleUnder [sv m A l c, i6 n, sv m' B l2 c2] h R := by
  subst hn; subst hn2
  refine w_impl_MultipleUnder ?_
  simp [p_impl_MultipleUnder]
  refine newB_i fun b h1 eb en eh eB => ?_
  refine newB_i fun b2 h2 eb2 en2 eh2 eB2 => ?_
  refine newB_i fun b3 h3 eb3 en3 eh3 eB3 => ?_
  have E3 := (eh.trans eh2).trans eh3
  simp [box2 ((eh2.trans eh3).to eB (by omega)), box2 (eh3.to eB2 (by omega)), rowV_ser]
  refine newB_i fun b4 h4 eb4 en4 eh4 eB4 => ?_
  have E4 := E3.trans eh4
  refine s_impl_curved (L := [⟨m', B, c2, xs⟩]) (hT.mono E4) (RS.one (h' := h4) (by omega) eB4 (hx.mono E4)) rfl rfl hl hrl (by simp) (by simpa using hxl) fun h5 e5 => ?_
  have E5 := E4.trans e5
  have B1 := (eh2.trans (eh3.trans (eh4.trans e5))).to eB (by omega)
  have B2 := (eh3.trans (eh4.trans e5)).to eB2 (by omega)
  have B3 := (eh4.trans e5).to eB3 (by omega)
  have n5 := e5.nx
  simp only [List.map_cons, List.map_nil, bin_neq, bindO_some]
  by_cases c1 : codeC m T [(m', xs)] = 0
  case neg =>
    simp [c1]
    refine storeBox2 B3 rfl rfl rfl rfl fun h9 u => ?_
    simp [(box2 u.bk).1]
    have := hR _ _ (u.he E5 (by omega)) (by simpa [mulUR, c1] using SerQ.zero h9)
    simpa [mulUR, c1] using this
  simp [c1]
  refine s_impl_isMultiple ?_
  by_cases c2' : -1000000 ≤ n ∧ n ≤ 1000000
  case neg =>
    simp [c2']
    refine storeBox2 B3 rfl rfl rfl rfl fun h4 u => ?_
    simp [(box2 u.bk).1]
    have := hR _ _ (u.he E5 (by omega)) (by simpa [mulUR, c1, c2'] using SerQ.zero h4)
    simpa [mulUR, c1, c2'] using this
  obtain ⟨d1, d2, d3, d4⟩ := codeC_zero c1
  obtain ⟨⟨q1, q2, q3⟩, _⟩ := id d1
  have hc : c2 = 1 := hc2 (by omega)
  subst hc
  simp [c2', box2 B1, box2 B2]
  refine s_impl_Plane_multiple (hT.mono E5) (hx.mono E5) (D := T.length - 1) (by omega) (by omega) d1.tri (by omega) (by omega) (by omega) (by omega) (by omega) (by rw [← d3]; exact d2.1.2.2) (by omega) (by omega) d3 fun v h6 e6 f6 => ?_
  obtain ⟨A1, rfl⟩ := f6.one
  have n6 := e6.nx
  refine storeBox2 (e6.to B3 (by omega)) rfl rfl rfl rfl fun h7 u => ?_
  simp [(box2 u.bk).1]
  have := hR _ _ (u.he (E5.trans e6) (by omega)) (by
    rw [mulUR, if_neg (by rw [c1]; simp), if_neg (by simp [c2'])]
    exact (f6.upd u (by omega)).q)
  simpa [mulUR, c1, c2'] using this

/-- The opposite of a curve, as the programs answer. -/
noncomputable def oppR (m : Int) (T : List (List Int)) (m' : Int) (xs : List Int) : (Int × List Int) × Int :=
  if codeC m T [(m', xs)] ≠ 0 then ((0, []), codeC m T [(m', xs)]) else ((m, oppL m (T.length - 1) T xs), 0)
/-- The sum of two curves, as the programs answer. -/
noncomputable def sumR (m : Int) (T : List (List Int)) (m' : Int) (xs : List Int) (m2 : Int) (ys : List Int) : (Int × List Int) × Int :=
  if codeC m T [(m', xs), (m2, ys)] ≠ 0 then ((0, []), codeC m T [(m', xs), (m2, ys)]) else ((m, putL m (T.length - 1) T xs ys), 0)

theorem s_impl_OppositeUnder {m m' : Int} {A B : Option Addr} {Rr : Nat → Option Addr} {T : List (List Int)} {xs : List Int} {l c l2 c2 : Nat} {h : Hp} {R : Value → Hp → Prop} (hT : RT h A Rr T) (hx : RI h B xs) (hn : l = T.length) (hn2 : l2 = xs.length) (hc2 : 0 < xs.length → c2 = 1) (hl : l ≤ 1000000) (hrl : ∀ i, i < T.length → (row T i).length ≤ 1000000) (hxl : xs.length ≤ 1000000)
    (hR : ∀ v h', HE h h' → SerQ h' v (oppR m T m' xs).1.1 (oppR m T m' xs).1.2 → R (.tuple #[v, i6 (oppR m T m' xs).2]) h') : CallW FF n_impl_OppositeUnder [sv m A l c, sv m' B l2 c2] h R := by
  subst hn; subst hn2
  refine w_impl_OppositeUnder ?_
  simp [p_impl_OppositeUnder]
  refine newB_i fun b h1 eb en eh eB => ?_
  refine newB_i fun b2 h2 eb2 en2 eh2 eB2 => ?_
  refine newB_i fun b3 h3 eb3 en3 eh3 eB3 => ?_
  have E3 := (eh.trans eh2).trans eh3
  simp [box2 ((eh2.trans eh3).to eB (by omega)), box2 (eh3.to eB2 (by omega)), rowV_ser]
  refine newB_i fun b4 h4 eb4 en4 eh4 eB4 => ?_
  have E4 := E3.trans eh4
  refine s_impl_curved (L := [⟨m', B, c2, xs⟩]) (hT.mono E4) (RS.one (h' := h4) (by omega) eB4 (hx.mono E4)) rfl rfl hl hrl (by simp) (by simpa using hxl) fun h5 e5 => ?_
  have E5 := E4.trans e5
  have B1 := (eh2.trans (eh3.trans (eh4.trans e5))).to eB (by omega)
  have B2 := (eh3.trans (eh4.trans e5)).to eB2 (by omega)
  have B3 := (eh4.trans e5).to eB3 (by omega)
  have n5 := e5.nx
  simp only [List.map_cons, List.map_nil, bin_neq, bindO_some]
  by_cases c1 : codeC m T [(m', xs)] = 0
  case neg =>
    simp [c1]
    refine storeBox2 B3 rfl rfl rfl rfl fun h9 u => ?_
    simp [(box2 u.bk).1]
    have := hR _ _ (u.he E5 (by omega)) (by simpa [oppR, c1] using SerQ.zero h9)
    simpa [oppR, c1] using this
  obtain ⟨d1, d2, d3, d4⟩ := codeC_zero c1
  obtain ⟨⟨q1, q2, q3⟩, _⟩ := id d1
  have hc : c2 = 1 := hc2 (by omega)
  subst hc
  simp [c1, box2 B1, box2 B2]
  refine s_impl_Plane_opposite (hT.mono E5) (hx.mono E5) (D := T.length - 1) (by omega) (by omega) d1.tri (by omega) (by omega) (by omega) (by omega) (by omega) (by rw [← d3]; exact d2.1.2.2) fun v h6 e6 f6 => ?_
  obtain ⟨A1, rfl⟩ := f6.one
  have n6 := e6.nx
  refine storeBox2 (e6.to B3 (by omega)) rfl rfl rfl rfl fun h7 u => ?_
  simp [(box2 u.bk).1]
  have := hR _ _ (u.he (E5.trans e6) (by omega)) (by
    rw [oppR, if_neg (by rw [c1]; simp)]
    exact (f6.upd u (by omega)).q)
  simpa [oppR, c1] using this

theorem s_impl_SumUnder {m m' m2 : Int} {A B C : Option Addr} {Rr : Nat → Option Addr} {T : List (List Int)} {xs ys : List Int} {l c l2 c2 l3 c3 : Nat} {h : Hp} {R : Value → Hp → Prop} (hT : RT h A Rr T) (hx : RI h B xs) (hy : RI h C ys) (hn : l = T.length) (hn2 : l2 = xs.length) (hn3 : l3 = ys.length) (hc2 : 0 < xs.length → c2 = 1) (hc3 : 0 < ys.length → c3 = 1) (hl : l ≤ 1000000) (hrl : ∀ i, i < T.length → (row T i).length ≤ 1000000) (hxl : xs.length ≤ 1000000) (hyl : ys.length ≤ 1000000)
    (hR : ∀ v h', HE h h' → SerQ h' v (sumR m T m' xs m2 ys).1.1 (sumR m T m' xs m2 ys).1.2 → R (.tuple #[v, i6 (sumR m T m' xs m2 ys).2]) h') : CallW FF n_impl_SumUnder [sv m A l c, sv m' B l2 c2, sv m2 C l3 c3] h R := by
  subst hn; subst hn2; subst hn3
  refine w_impl_SumUnder ?_
  simp [p_impl_SumUnder]
  refine newB_i fun b h1 eb en eh eB => ?_
  refine newB_i fun b2 h2 eb2 en2 eh2 eB2 => ?_
  refine newB_i fun b3 h3 eb3 en3 eh3 eB3 => ?_
  refine newB_i fun b4 h4 eb4 en4 eh4 eB4 => ?_
  have E4 := ((eh.trans eh2).trans eh3).trans eh4
  simp [box2 ((eh2.trans (eh3.trans eh4)).to eB (by omega)), box2 ((eh3.trans eh4).to eB2 (by omega)), box2 (eh4.to eB3 (by omega)), rowV_ser2]
  refine newB_i fun b5 h5 eb5 en5 eh5 eB5 => ?_
  have E5 := E4.trans eh5
  refine s_impl_curved (L := [⟨m', B, c2, xs⟩, ⟨m2, C, c3, ys⟩]) (hT.mono E5) (RS.two (h' := h5) (by omega) eB5 (hx.mono E5) (hy.mono E5)) rfl rfl hl hrl (by simp) (by simpa using ⟨hxl, hyl⟩) fun h6 e6 => ?_
  have E6 := E5.trans e6
  have B1 := (eh2.trans (eh3.trans (eh4.trans (eh5.trans e6)))).to eB (by omega)
  have B2 := (eh3.trans (eh4.trans (eh5.trans e6))).to eB2 (by omega)
  have B3 := (eh4.trans (eh5.trans e6)).to eB3 (by omega)
  have B4 := (eh5.trans e6).to eB4 (by omega)
  have n6 := e6.nx
  simp only [List.map_cons, List.map_nil, bin_neq, bindO_some]
  by_cases c1 : codeC m T [(m', xs), (m2, ys)] = 0
  case neg =>
    simp [c1]
    refine storeBox2 B4 rfl rfl rfl rfl fun h9 u => ?_
    simp [(box2 u.bk).1]
    have := hR _ _ (u.he E6 (by omega)) (by simpa [sumR, c1] using SerQ.zero h9)
    simpa [sumR, c1] using this
  obtain ⟨d1, d2⟩ := codeC_all c1
  obtain ⟨x1, x2, x3⟩ := d2 (m', xs) (by simp)
  obtain ⟨y1, y2, y3⟩ := d2 (m2, ys) (by simp)
  simp only at x1 x2 x3 y1 y2 y3
  obtain ⟨⟨q1, q2, q3⟩, _⟩ := id d1
  have hc : c2 = 1 := hc2 (by omega)
  subst hc
  have hc : c3 = 1 := hc3 (by omega)
  subst hc
  have t := d1.tri
  simp [c1, box2 B1, box2 B2, box2 B3]
  refine s_impl_Plane_curves (D := T.length - 1) (hT.mono E6) (hx.mono E6) (hy.mono E6) (by omega) (by omega) (by omega) t.len (by omega) (by omega) (fun i hi => by have := (t.rows i hi).1; omega) (fun i hi => (t.rows i hi).2) (by omega) (by omega) (by rw [← x2]; exact x1.1.2.2) (by rw [← y2]; exact y1.1.2.2) (by omega) x2 y2 fun v h7 e7 f7 => ?_
  obtain ⟨A1, rfl⟩ := f7.one
  have n7 := e7.nx
  refine storeBox2 (e7.to B4 (by omega)) rfl rfl rfl rfl fun h8 u => ?_
  simp [(box2 u.bk).1]
  have := hR _ _ (u.he (E6.trans e7) (by omega)) (by
    rw [sumR, if_neg (by rw [c1]; simp)]
    exact (f7.upd u (by omega)).q)
  simpa [sumR, c1] using this
end XM

/- Draws: the source, l01From, l01Next, l01Pick, l04DrawModulus, l04DrawCurve. -/
namespace XM
open Go

def Bytes (vs : List Value) : Prop := ∀ (i : Nat) (v : Value), vs[i]? = some v → ∃ b : Int, 0 ≤ b ∧ b < 256 ∧ v = .int .u8 b

/-- A source of numbers, in the block bs. -/
structure SrcD (h : Hp) (bs : Nat) (A : Option Addr) (n c : Nat) (a hs : Int) (vs : List Value) : Prop where
  lt : bs < h.nx
  bk : h.bk bs = some ⟨[.slice A n c, i6 a, .int .u64 hs], y_t_spec_l01Source_71, true⟩
  len : n = vs.length
  sm : n ≤ 1000000000000
  a0 : 0 ≤ a
  an : a ≤ n
  rv : RV (msk h fun x => bs ≤ x) A vs
  by_ : Bytes vs
def Src (h : Hp) (bs : Nat) : Prop := ∃ A n c a hs vs, SrcD h bs A n c a hs vs

theorem HX.hs {o : Nat} {h h' : Hp} (a : HX o h h') : HS (msk h fun x => x = o) (msk h' fun x => x = o) := msk_to a.nx fun b hb hne => ⟨a.bk b hb hne, hne⟩
theorem HX.trans {o : Nat} {h h' h'' : Hp} (a : HX o h h') (b : HX o h' h'') : HX o h h'' := ⟨Nat.le_trans a.nx b.nx, fun c hc hne => (b.bk c (Nat.lt_of_lt_of_le hc a.nx) hne).trans (a.bk c hc hne)⟩
theorem HE.hx {h h' : Hp} (e : HE h h') (o : Nat) : HX o h h' := ⟨e.nx, fun b hb _ => e.bk b hb⟩
theorem Src.keep {h h' : Hp} {bs : Nat} (s : Src h bs) (hn : h.nx ≤ h'.nx) (hk : ∀ c, c ≤ bs → h'.bk c = h.bk c) : Src h' bs := by
  obtain ⟨A, n, c, a, hs, vs, s⟩ := s
  exact ⟨A, n, c, a, hs, vs, Nat.lt_of_lt_of_le s.lt hn, (hk bs (Nat.le_refl _)).trans s.bk, s.len, s.sm, s.a0, s.an, s.rv.mos (msk_to hn fun b hb hne => ⟨hk b (by omega), hne⟩), s.by_⟩
theorem Src.he {h h' : Hp} {bs : Nat} (s : Src h bs) (e : HE h h') : Src h' bs := by
  have hl : bs < h.nx := by obtain ⟨A, n, c, a, hs, vs, s⟩ := s; exact s.lt
  exact s.keep e.nx fun c hc => e.bk c (by omega)
theorem HX.low {o : Nat} {h h' : Hp} (a : HX o h h') (ho : o < h.nx) : HS (msk h fun x => o ≤ x) (msk h' fun x => o ≤ x) := msk_to a.nx fun b hb hne => ⟨a.bk b hb (by omega), hne⟩
theorem Src.lt {h : Hp} {bs : Nat} (s : Src h bs) : bs < h.nx := by
  obtain ⟨A, n, c, a, hs, vs, s⟩ := s; exact s.lt
theorem Upd.hx {o : Nat} {x : Option Blk} {h h' : Hp} (u : Upd o x h h') : HX o h h' := ⟨by rw [u.nx]; omega, fun b _ hne => u.ot b hne⟩

theorem box3 {h : Hp} {b : Nat} {v0 v1 v2 : Value} {y : TypeId} (hb : h.bk b = some ⟨[v0, v1, v2], y, true⟩) :
    ldV 1 false h (.pointer (some ⟨b, 0, none⟩)) = some v0 ∧ ldV 1 false h (.pointer (some ⟨b, 1, none⟩)) = some v1 ∧ ldV 1 false h (.pointer (some ⟨b, 2, none⟩)) = some v2 := by
  refine ⟨?_, ?_, ?_⟩ <;> rw [ldV_ptr, hb] <;> simp

theorem and24 (x : Int) : ∃ r : Int, 0 ≤ r ∧ r ≤ 16777215 ∧ binV .and (.int .u64 x) (.int .u64 16777215) = some (.int .u64 r) := by
  refine ⟨IntKind.u64.wrap (BitVec.ofInt IntKind.u64.bits x &&& BitVec.ofInt IntKind.u64.bits 16777215).toNat, ?_, ?_, by simp [binV, isShift, binInt]⟩
  all_goals
    have h1 : (BitVec.ofInt IntKind.u64.bits x &&& BitVec.ofInt IntKind.u64.bits 16777215).toNat ≤ 16777215 := by
      rw [BitVec.toNat_and]
      exact Nat.le_trans Nat.and_le_right (by decide)
    generalize (BitVec.ofInt IntKind.u64.bits x &&& BitVec.ofInt IntKind.u64.bits 16777215).toNat = k at h1
    have h2 : IntKind.u64.wrap (k : Int) = (k : Int) % 18446744073709551616 := by simp [IntKind.wrap, IntKind.signed, IntKind.bits]
    rw [h2]; omega

theorem shr33 (x : Int) : binV .shr (.int .u64 x) (.int .u64 33) = some (.int .u64 (IntKind.u64.wrap (x.fdiv (2 ^ 33)))) ∨ ∃ y, binV .shr (.int .u64 x) (.int .u64 33) = some (.int .u64 y) := by
  right
  exact ⟨_, by simp [binV, isShift, binShift]; rfl⟩

theorem s_spec_l01Next {bs : Nat} {n : Int} {h : Hp} {R : Value → Hp → Prop} (s : Src h bs) (hn : n ≤ 9000000000000000000)
    (hR : ∀ r h', HX bs h h' → h'.nx = h.nx → Src h' bs → (n < 1 → r = 0) → (1 ≤ n → 0 ≤ r ∧ r < n) → R (i6 r) h') : CallW FF n_spec_l01Next [.pointer (some ⟨bs, 0, none⟩), i6 n] h R := by
  refine w_spec_l01Next ?_
  by_cases h1 : n < 1
  · simp [p_spec_l01Next, h1]
    exact hR 0 _ (HX.refl _ _) rfl s (fun _ => rfl) (fun h => by omega)
  obtain ⟨A, l, c, a, hs, vs, s⟩ := s
  have n0 : ¬ n = 0 := by omega
  simp [p_spec_l01Next, h1, box3 s.bk]
  refine store1 s.bk (by simp) rfl rfl rfl fun h2 u2 => ?_
  obtain ⟨y, hy⟩ : ∃ y, binV .shr (.int .u64 (IntKind.u64.wrap (IntKind.u64.wrap (hs * 6364136223846793005) + 1442695040888963407))) (.int .u64 33) = some (.int .u64 y) := ⟨_, by simp [binV, isShift, binShift]; rfl⟩
  obtain ⟨r, r0, r1, hr⟩ := and24 y
  have u2b : h2.bk bs = some ⟨[.slice A l c, i6 a, .int .u64 (IntKind.u64.wrap (IntKind.u64.wrap (hs * 6364136223846793005) + 1442695040888963407))], y_t_spec_l01Source_71, true⟩ := by simpa using u2.bk
  have wr : IntKind.i64.wrap r = r := wrapI (by omega) (by omega)
  have rv2 := s.rv.mos (u2.hx.low s.lt)
  have bx := box3 u2b
  have n2 := u2.nx
  have hlt := s.lt
  by_cases ha : a < l
  · obtain ⟨i, rfl⟩ := Int.eq_ofNat_of_zero_le s.a0
    have hi : i < vs.length := by have := s.len; omega
    have hv := List.getElem?_eq_getElem hi
    obtain ⟨b, b0, b1, hb⟩ := s.by_ i _ hv
    rw [hb] at hv
    have rd := (rv2.mos (msk_hs h2)).at c (e := i) rfl s.len hv
    have wb : IntKind.i64.wrap b = b := wrapI (by omega) (by omega)
    have wrb : IntKind.i64.wrap (r + b) = r + b := wrapI (by omega) (by omega)
    have wi : IntKind.i64.wrap ((i : Int) + 1) = i + 1 := wrapI (by omega) (by have := s.sm; omega)
    have hil : i < l := by have := s.len; omega
    simp [bx, hy, hr, wr, ha, hil, rd, wb, wrb, wi]
    refine store1 u2b (by simp) rfl rfl rfl fun h3 u3 => ?_
    have n3 := u3.nx
    have u3b : h3.bk bs = some ⟨[.slice A l c, i6 ((i : Int) + 1), .int .u64 (IntKind.u64.wrap (IntKind.u64.wrap (hs * 6364136223846793005) + 1442695040888963407))], y_t_spec_l01Source_71, true⟩ := by simpa using u3.bk
    simp [n0]
    have t0 := Int.tmod_nonneg n (show 0 ≤ r + b by omega)
    have t1 := Int.tmod_lt_of_pos (r + b) (show 0 < n by omega)
    exact hR _ _ (u2.hx.trans u3.hx) (by omega) ⟨A, l, c, _, _, vs, ⟨by omega, u3b, s.len, s.sm, by omega, by omega, rv2.mos (u3.hx.low (by omega)), s.by_⟩⟩ (fun h => by omega) (fun _ => ⟨t0, t1⟩)
  · have hil : ¬ a < l := ha
    simp [bx, hy, hr, wr, ha, n0]
    have t0 := Int.tmod_nonneg n (show 0 ≤ r by omega)
    have t1 := Int.tmod_lt_of_pos r (show 0 < n by omega)
    exact hR _ _ u2.hx (by omega) ⟨A, l, c, _, _, vs, ⟨by omega, u2b, s.len, s.sm, s.a0, s.an, rv2, s.by_⟩⟩ (fun h => by omega) (fun _ => ⟨t0, t1⟩)

theorem s_spec_l01Pick {bs : Nat} {A : Option Addr} {xs : List Int} {n c : Nat} {h : Hp} {R : Value → Hp → Prop} (s : Src h bs) (hr : RI (msk h fun x => x = bs) A xs) (hn : n = xs.length) (h1 : 1 ≤ n) (hn2 : n ≤ 1000000)
    (hR : ∀ r h', HX bs h h' → h'.nx = h.nx → Src h' bs → r ∈ xs → R (i6 r) h') : CallW FF n_spec_l01Pick [.pointer (some ⟨bs, 0, none⟩), .slice A n c] h R := by
  subst hn
  refine w_spec_l01Pick ?_
  simp [p_spec_l01Pick]
  refine s_spec_l01Next s (by omega) fun r h2 x2 n2 s2 _ hr2 => ?_
  obtain ⟨r0, r1⟩ := hr2 (by omega)
  obtain ⟨i, rfl⟩ := Int.eq_ofNat_of_zero_le r0
  have rd := ((hr.mos x2.hs).mos (msk_hs h2)).at c (e := i) rfl rfl (by omega)
  simp [rd]
  exact hR _ _ x2 n2 s2 (gt_mem (by omega))

/-- A list that is made at once is read. -/
theorem msk_new {h h' : Hp} {b bs : Nat} {xs : List Int} {y : TypeId} {w : Bool} (hb : b < h'.nx) (hne : b ≠ bs) (hx : h'.bk b = some ⟨mapI xs, y, w⟩) : RI (msk h' fun x => x = bs) (some ⟨b, 0, none⟩) xs :=
  RI.of_block hb ((msk_bk (P := fun x => x = bs) hne).trans hx)

theorem s_spec_l04DrawModulus {bs : Nat} {h : Hp} {R : Value → Hp → Prop} (s : Src h bs)
    (hR : ∀ r h', HX bs h h' → Src h' bs → 2 ≤ r → r ≤ 10000 → R (i6 r) h') : CallW FF n_spec_l04DrawModulus [.pointer (some ⟨bs, 0, none⟩)] h R := by
  refine w_spec_l04DrawModulus ?_
  simp only [p_spec_l04DrawModulus]
  refine s_spec_l01Next s (by omega) fun r h2 x2 n2 s2 _ hr2 => ?_
  obtain ⟨r0, r1⟩ := hr2 (by omega)
  have w1 : IntKind.i64.wrap (2 + r) = 2 + r := wrapI (by omega) (by omega)
  simp [w1, rowV, rowFill, reps]
  refine newB_i fun b h3 eb en eh eB => ?_
  have hlt := s2.lt
  refine s_spec_l01Pick (xs := [2, 3, 5, 7, 4, 9, 8, 6, 11, 101, 9973, 2 + r]) (s2.he eh) (msk_new (h := h3) (by omega) (by omega) (by rw [eB]; rfl)) rfl (by omega) (by omega) fun r4 h4 x4 n4 s4 hm => ?_
  refine hR _ _ (x2.trans ((eh.hx bs).trans x4)) s4 ?_ ?_ <;> simp at hm <;> omega

theorem s_spec_l04DrawCurve {bs D : Nat} {m : Int} {h : Hp} {R : Value → Hp → Prop} (s : Src h bs) (hm : 2 ≤ m) (hm2 : m ≤ 3000000000) (hD : 1 ≤ D) (hD2 : D ≤ 100000)
    (hR : ∀ v h' xs, HX bs h h' → Src h' bs → FI y_t_int64 h h' v xs → xs.length = D + 1 → Nums m xs → gt xs 0 = 0 → gt xs 1 = 1 → R v h') : CallW FF n_spec_l04DrawCurve [.pointer (some ⟨bs, 0, none⟩), i6 m, i6 D] h R := by
  refine w_spec_l04DrawCurve ?_
  have r2 : rowV 1 2 [.int .i64 0] [(0, .int .i64 0), (1, .int .i64 1)] = some (mapI [0, 1]) := by simp [rowV, rowFill, reps, mapI]
  simp only [p_spec_l04DrawCurve, r2, bindO_some]
  refine newB_i fun b h1 eb en eh eB => ?_
  have hlt := s.lt
  refine LP1 (fun d vs h' => ∃ (k b : Nat) (xs : List Int), d = D + 1 - k ∧ 2 ≤ k ∧ k ≤ D + 1 ∧ xs.length = k ∧ vs = [.pointer (some ⟨bs, 0, none⟩), i6 m, i6 D, .slice (some ⟨b, 0, none⟩) k 1, i6 k] ∧ HX bs h h' ∧ Src h' bs ∧ h.nx ≤ b ∧ b < h'.nx ∧ h'.bk b = some ⟨mapI xs, y_t_int64, true⟩ ∧ Nums m xs ∧ gt xs 0 = 0 ∧ gt xs 1 = 1) ?_ _ _ _
    ⟨2, b, [0, 1], rfl, by omega, by omega, rfl, rfl, eh.hx bs, s.he eh, by omega, by omega, eB, by intro x hx; simp at hx; omega, rfl, rfl⟩
  rintro d vs h2 ⟨k, b, xs, rfl, hk2, hk, hl, rfl, x2, s2, hb1, hb2, hbk, hn, g0, g1⟩ K K1 hK hK1
  refine wl_spec_l04DrawCurve_0 ?_
  by_cases hlt : k ≤ D
  case neg =>
    have : k = D + 1 := by omega
    subst this
    have g : ¬ (D : Int) + 1 ≤ D := by omega
    simp [q_spec_l04DrawCurve_0, g]
    refine hK1 _ _ fun e he => ?_
    simp at he; rw [he]
    exact hR _ _ xs x2 s2 ⟨b, by rw [hl], hb1, hb2, hbk⟩ hl hn g0 g1
  have g : (k : Int) ≤ D := by omega
  have w1 : IntKind.i64.wrap ((k : Int) + 1) = k + 1 := wrapI (by omega) (by omega)
  simp [q_spec_l04DrawCurve_0, hlt]
  refine s_spec_l01Next s2 (by omega) fun r h3 x3 n3 s3 _ hr3 => ?_
  refine s_spec_l01Next s3 (by omega) fun r4 h4 x4 n4 s4 _ hr4 => ?_
  have b3 := hr3 (by omega); have b4 := hr4 (by omega)
  have r5 : rowV 1 4 [.int .i64 0] [(0, .int .i64 0), (1, .int .i64 0), (2, i6 r), (3, i6 r4)] = some (mapI [0, 0, r, r4]) := by simp [rowV, rowFill, reps, mapI]
  simp only [r5, bindO_some]
  refine newB_i fun b5 h5 eb5 en5 eh5 eB5 => ?_
  have l4 := s4.lt
  have l2 := s2.lt
  refine s_spec_l01Pick (xs := [0, 0, r, r4]) (s4.he eh5) (msk_new (h := h5) (by omega) (by omega) eB5) rfl (by omega) (by omega) fun r6 h6 x6 n6 s6 hm6 => ?_
  have br : 0 ≤ r6 ∧ r6 < m := by simp at hm6; omega
  simp [w1]
  have X := x3.trans (x4.trans ((eh5.hx bs).trans x6))
  have l0 := s.lt
  refine pushI (xs := xs) (X.to hbk hb2 (by omega)) (by have := X.nx; omega) hl.symm (by unfold sizeMax; omega) fun b7 h7 u7 => ?_
  have n7 := u7.ge; have n7' := u7.lt; have nX := X.nx; have n2 := x2.nx
  have F : ∀ c, c < h6.nx → c ≠ b → h7.bk c = h6.bk c := u7.ot
  have x7 : HX bs h h7 := ⟨by omega, fun c hc hne => by rw [F c (by omega) (by omega), X.bk c (by omega) hne, x2.bk c hc hne]⟩
  have s7 : Src h7 bs := s6.keep (by omega) fun c hc => F c (by have := s6.lt; omega) (by omega)
  refine hK _ _ _ (by omega) ⟨k + 1, b7, xs ++ [r6], rfl, by omega, by omega, by simp [hl], by simp, x7, s7, by omega, u7.lt, by simpa using u7.bk, ?_, ?_, ?_⟩
  · intro x hx
    simp at hx
    rcases hx with hx | rfl
    · exact hn x hx
    · exact br
  · rw [gt_append, if_pos (by omega)]; exact g0
  · rw [gt_append, if_pos (by omega)]; exact g1
end XM

/- The reference: l01From, l01Inv, l03Add, l03Scale, l03Turn. -/
namespace XM
open Go

theorem s_spec_l01From {A : Option Addr} {n c : Nat} {vs : List Value} {h : Hp} {R : Value → Hp → Prop} (hr : RV h A vs) (hn : n = vs.length) (hl : n ≤ 1000000000000) (hb : Bytes vs)
    (hR : ∀ bs h', HE h h' → h.nx ≤ bs → Src h' bs → R (.pointer (some ⟨bs, 0, none⟩)) h') : CallW FF n_spec_l01From [.slice A n c] h R := by
  subst hn
  refine w_spec_l01From ?_
  have hf : ∀ (A : Option Addr) (n c : Nat) (x : Int), (fillX [.slice none 0 0, .int .i64 0, .int .u64 0] [(0, 1, .slice A n c), (2, 1, .int .u64 x)]).map (fun cs => Value.agg cs.toArray) = some (.agg #[.slice A n c, i6 0, .int .u64 x]) := fun A n c x => by simp [fillX]
  have hb3 : ∀ (A : Option Addr) (n c : Nat) (x : Int), boxV 3 (.agg #[.slice A n c, i6 0, .int .u64 x]) = some [.slice A n c, i6 0, .int .u64 x] := fun A n c x => by simp [boxV]
  simp only [p_spec_l01From, len_slice, bindO_some, conv_int, bin_add, hf, hb3]
  refine newB_i fun bs h1 eb en eh eB => ?_
  refine LP1 (fun d ws h' => ∃ (k : Nat) (x : Int), d = vs.length - k ∧ k ≤ vs.length ∧ ws = [.slice A vs.length c, .pointer (some ⟨bs, 0, none⟩), i6 k] ∧ HX bs h1 h' ∧ h'.bk bs = some ⟨[.slice A vs.length c, i6 0, .int .u64 x], y_t_spec_l01Source_71, true⟩) ?_ _ _ _
    ⟨0, _, rfl, by omega, rfl, HX.refl _ _, eB⟩
  rintro d ws h2 ⟨k, x, rfl, hk, rfl, x2, hbk⟩ K K1 hK hK1
  refine wl_spec_l01From_0 ?_
  have n2 := x2.nx
  have hE : HE h h2 := x2.out eh (by omega)
  have fin : K1 [.pointer (some ⟨bs, 0, none⟩)] h2 := by
    refine hK1 _ _ fun e he => ?_
    simp at he; rw [he]
    refine hR bs _ hE (by omega) ⟨A, vs.length, c, 0, x, vs, by omega, hbk, rfl, hl, by omega, by omega, ?_, hb⟩
    exact hr.mos ⟨hE.nx, fun b y hb hy => by rw [msk_bk (by omega)]; exact hE.to hy hb⟩
  by_cases hlt : k < vs.length
  · by_cases h4 : (k : Int) < 4096
    · have hv := List.getElem?_eq_getElem hlt
      obtain ⟨y, y0, y1, hy⟩ := hb k _ hv
      rw [hy] at hv
      have rd := (hr.mono hE).at c (e := k) rfl rfl hv
      have bx := box3 hbk
      simp [q_spec_l01From_0, hlt, h4, bx, rd]
      refine store1 hbk (by simp) rfl rfl rfl fun h3 u3 => ?_
      simp [wrapI (n := (k : Int) + 1) (by omega) (by omega)]
      exact hK _ _ _ (by omega) ⟨k + 1, _, rfl, by omega, by simp, x2.upd u3, by simpa using u3.bk⟩
    · simp [q_spec_l01From_0, hlt, h4]
      exact fin
  · simp [q_spec_l01From_0, hlt]
    exact fin

/-- The coefficient of Euclid's algorithm, as the program of the reference has it. -/
def euc (b c u v : Int) : Int := if h : 0 < c then euc c (b % c) v (IntKind.i64.wrap (u - IntKind.i64.wrap (b / c * v))) else u
termination_by c.toNat
decreasing_by have := Int.emod_lt_of_pos b h; have := Int.emod_nonneg b (show c ≠ 0 by omega); omega
def invM (m a : Int) : Int := euc m (a % m) 0 1 % m
theorem invM_bd {m : Int} (hm : 0 < m) (a : Int) : 0 ≤ invM m a ∧ invM m a < m := mod_bd hm _

theorem s_spec_l01Inv {m a : Int} {h : Hp} {R : Value → Hp → Prop} (hm : 0 < m) (hm2 : m ≤ 3000000000) (hR : R (i6 (invM m a)) h) : CallW FF n_spec_l01Inv [i6 m, i6 a] h R := by
  refine w_spec_l01Inv ?_
  simp only [p_spec_l01Inv]
  refine s_spec_l01Mod hm (by omega) ?_
  have hmb := mod_bd hm a
  refine LP1 (fun d vs h' => ∃ b c u v : Int, d = c.toNat ∧ 0 ≤ c ∧ c ≤ m ∧ 0 ≤ b ∧ b ≤ m ∧ h' = h ∧ vs = [i6 m, i6 b, i6 c, i6 u, i6 v] ∧ euc b c u v = euc m (a % m) 0 1) ?_ _ _ _ ⟨m, a % m, 0, 1, rfl, by omega, by omega, by omega, by omega, rfl, rfl, rfl⟩
  rintro d vs h1 ⟨b, c, u, v, rfl, hc, hc2, hb, hb2, rfl, rfl, he⟩ K K1 hK hK1
  refine wl_spec_l01Inv_0 ?_
  by_cases h0 : 0 < c
  · have c0 : ¬ c = 0 := by omega
    have q1 : b.tdiv c = b / c := Int.tdiv_eq_ediv_of_nonneg hb
    have hq0 : 0 ≤ b / c := Int.ediv_nonneg hb (by omega)
    have hq1 : b / c ≤ b := Int.ediv_le_self _ hb
    have hdm : b / c * c + b % c = b := by rw [Int.mul_comm]; exact Int.mul_ediv_add_emod b c
    have hm1 := Int.emod_lt_of_pos b h0; have hm0 := Int.emod_nonneg b c0
    have w1 : IntKind.i64.wrap (b / c) = b / c := wrapI (by omega) (by omega)
    have w2 : IntKind.i64.wrap (b / c * c) = b / c * c := wrapI (by omega) (by omega)
    have w3 : IntKind.i64.wrap (b - b / c * c) = b % c := by rw [wrapI (by omega) (by omega)]; omega
    rw [euc, dif_pos h0] at he
    simp [q_spec_l01Inv_0, h0, c0, q1, w1, w2, w3]
    exact hK _ _ _ (by omega) ⟨c, b % c, v, _, rfl, by omega, by omega, by omega, by omega, rfl, rfl, he⟩
  · rw [euc, dif_neg h0] at he
    simp [q_spec_l01Inv_0, h0]
    refine hK1 _ _ fun e he2 => ?_
    simp at he2
    simp [he2]
    refine s_spec_l01Mod hm (by omega) ?_
    rw [he]; exact hR

/-- Sums and multiples of tables. -/
def addT (m : Int) (a b : List (List Int)) : Nat → List (List Int)
  | 0 => []
  | i + 1 => addT m a b i ++ [addL m (row a i) (row b i)]
def scaleT (m c : Int) (a : List (List Int)) : Nat → List (List Int)
  | 0 => []
  | i + 1 => scaleT m c a i ++ [scaleL m c (row a i)]
@[simp] theorem addT_len (m : Int) (a b : List (List Int)) (n : Nat) : (addT m a b n).length = n := by
  induction n with
  | zero => rfl
  | succ n ih => simp [addT, ih]
@[simp] theorem scaleT_len (m c : Int) (a : List (List Int)) (n : Nat) : (scaleT m c a n).length = n := by
  induction n with
  | zero => rfl
  | succ n ih => simp [scaleT, ih]
theorem row_addT {m : Int} {a b : List (List Int)} {n i : Nat} (h : i < n) : row (addT m a b n) i = addL m (row a i) (row b i) := by
  induction n with
  | zero => omega
  | succ n ih =>
    rw [addT, row_app, addT_len]
    by_cases h2 : i < n
    · rw [if_pos h2, ih h2]
    · rw [if_neg h2, if_pos (by omega), show i = n by omega]
theorem row_scaleT {m c : Int} {a : List (List Int)} {n i : Nat} (h : i < n) : row (scaleT m c a n) i = scaleL m c (row a i) := by
  induction n with
  | zero => omega
  | succ n ih =>
    rw [scaleT, row_app, scaleT_len]
    by_cases h2 : i < n
    · rw [if_pos h2, ih h2]
    · rw [if_neg h2, if_pos (by omega), show i = n by omega]

theorem s_spec_l03Add {m : Int} {A B : Option Addr} {Ra Rb : Nat → Option Addr} {a b : List (List Int)} {N na nb ca cb : Nat} {h : Hp} {R : Value → Hp → Prop} (ha : RT h A Ra a) (hb : RT h B Rb b) (hna : na = N) (hnb : nb = N) (hla : a.length = N) (hlb : b.length = N)
    (hra : ∀ i, i < N → (row a i).length = N - i ∧ Nums m (row a i)) (hrb : ∀ i, i < N → (row b i).length = N - i ∧ Nums m (row b i)) (hm : 0 < m) (hm2 : m ≤ 3000000000) (hN2 : N ≤ 100000)
    (hR : ∀ v h', HE h h' → FT h h' v (addT m a b N) → R v h') : CallW FF n_spec_l03Add [i6 m, .slice A na ca, .slice B nb cb] h R := by
  subst hna; subst hnb
  refine w_spec_l03Add ?_
  simp [p_spec_l03Add]
  refine newB_i fun b0 h1 eb en eh eB => ?_
  refine LP1 (fun d vs h' => ∃ (k bo : Nat) (rb : Nat → Nat), d = nb - k ∧ k ≤ nb ∧ vs = [i6 m, .slice A nb ca, .slice B nb cb, .slice (some ⟨bo, 0, none⟩) k 1, i6 k] ∧ HE h h' ∧ OT h.nx h' bo rb (addT m a b k)) ?_ _ _ _
    ⟨0, b0, fun _ => 0, rfl, by omega, rfl, eh, OT.nil _ (by omega) (by omega) eB⟩
  rintro d vs h2 ⟨k, bo, rb, rfl, hk, rfl, hE, hO⟩ K K1 hK hK1
  refine wl_spec_l03Add_0 ?_
  by_cases hlt : k < nb
  case neg =>
    have : k = nb := by omega
    subst this
    simp [q_spec_l03Add_0]
    refine hK1 _ _ fun e he => ?_
    simp at he; rw [he]
    exact hR _ _ hE ⟨bo, rb, by simp, hO⟩
  have r := (ha.mono hE).at ca (e := k) (n := nb) rfl hla.symm (by omega)
  have t := (hb.mono hE).at cb (e := k) (n := nb) rfl hlb.symm (by omega)
  have ra := hra k hlt; have rb2 := hrb k hlt
  simp [q_spec_l03Add_0, hlt, r, t]
  refine s_spec_l02Add ((ha.mono hE).rows k (by omega)) ((hb.mono hE).rows k (by omega)) rfl rfl hm hm2 ra.2 rb2.2 (by omega) (by omega) fun v h3 e3 f3 => ?_
  obtain ⟨q, rfl, q1, q2, q3⟩ := f3
  have n3 := e3.nx
  simp [wrapI (n := (k : Int) + 1) (by omega) (by omega)]
  have hlo := hO.lob; have hlb2 := hO.ltb
  refine pushRow (lo := h.nx) (xs := addL m (row a k) (row b k)) (T := addT m a b k) (h := h2) (.inr ⟨bo, rb, by simp, hO⟩) e3 hE.nx q1 q2 (by simp) q3 (by simp; unfold sizeMax; omega) fun b' rb' h4 T4 ot hb' => ?_
  simp only [addT_len]
  refine hK _ _ _ (by omega) ⟨k + 1, b', rb', rfl, by omega, rfl, ?_, T4⟩
  have l4 := T4.ltb; have nE := hE.nx
  exact ⟨by omega, fun c hc => by rw [ot c (by omega) (by omega), e3.bk c (by omega), hE.bk c hc]⟩

theorem s_spec_l03Scale {m c : Int} {A : Option Addr} {Ra : Nat → Option Addr} {a : List (List Int)} {N na ca : Nat} {h : Hp} {R : Value → Hp → Prop} (ha : RT h A Ra a) (hna : na = N) (hla : a.length = N)
    (hra : ∀ i, i < N → (row a i).length = N - i ∧ Nums m (row a i)) (hm : 0 < m) (hm2 : m ≤ 3000000000) (hc : 0 ≤ c ∧ c < m) (hN2 : N ≤ 100000)
    (hR : ∀ v h', HE h h' → FT h h' v (scaleT m c a N) → R v h') : CallW FF n_spec_l03Scale [i6 m, i6 c, .slice A na ca] h R := by
  subst hna
  refine w_spec_l03Scale ?_
  simp [p_spec_l03Scale]
  refine newB_i fun b0 h1 eb en eh eB => ?_
  refine LP1 (fun d vs h' => ∃ (k bo : Nat) (rb : Nat → Nat), d = na - k ∧ k ≤ na ∧ vs = [i6 m, i6 c, .slice A na ca, .slice (some ⟨bo, 0, none⟩) k 1, i6 k] ∧ HE h h' ∧ OT h.nx h' bo rb (scaleT m c a k)) ?_ _ _ _
    ⟨0, b0, fun _ => 0, rfl, by omega, rfl, eh, OT.nil _ (by omega) (by omega) eB⟩
  rintro d vs h2 ⟨k, bo, rb, rfl, hk, rfl, hE, hO⟩ K K1 hK hK1
  refine wl_spec_l03Scale_0 ?_
  by_cases hlt : k < na
  case neg =>
    have : k = na := by omega
    subst this
    simp [q_spec_l03Scale_0]
    refine hK1 _ _ fun e he => ?_
    simp at he; rw [he]
    exact hR _ _ hE ⟨bo, rb, by simp, hO⟩
  have r := (ha.mono hE).at ca (e := k) (n := na) rfl hla.symm (by omega)
  have ra := hra k hlt
  simp [q_spec_l03Scale_0, hlt, r]
  refine s_spec_l02Scale ((ha.mono hE).rows k (by omega)) rfl hm hm2 hc ra.2 (by omega) fun v h3 e3 f3 => ?_
  obtain ⟨q, rfl, q1, q2, q3⟩ := f3
  have n3 := e3.nx
  simp [wrapI (n := (k : Int) + 1) (by omega) (by omega)]
  have hlo := hO.lob; have hlb2 := hO.ltb
  refine pushRow (lo := h.nx) (xs := scaleL m c (row a k)) (T := scaleT m c a k) (h := h2) (.inr ⟨bo, rb, by simp, hO⟩) e3 hE.nx q1 q2 (by simp) q3 (by simp; unfold sizeMax; omega) fun b' rb' h4 T4 ot hb' => ?_
  simp only [scaleT_len]
  refine hK _ _ _ (by omega) ⟨k + 1, b', rb', rfl, by omega, rfl, ?_, T4⟩
  have l4 := T4.ltb; have nE := hE.nx
  exact ⟨by omega, fun c hc => by rw [ot c (by omega) (by omega), e3.bk c (by omega), hE.bk c hc]⟩

/-- The table with both variables exchanged. -/
def turnT (N : Nat) (a : List (List Int)) : List (List Int) := (List.range N).map fun x => tab (N - x) fun y => gt2 a y x
@[simp] theorem turnT_len (N : Nat) (a : List (List Int)) : (turnT N a).length = N := by simp [turnT]
theorem row_turnT {N : Nat} {a : List (List Int)} {x : Nat} (h : x < N) : row (turnT N a) x = tab (N - x) fun y => gt2 a y x := by simp [row, turnT, h]
theorem TS.eqG {m : Int} {N : Nat} {Z : List (List Int)} {E : Nat → Nat → Int} (t : TS m N Z E) : Z = (List.range N).map fun x => tab (N - x) fun y => E x y % m := by
  refine table_ext (by simp [t.len]) fun i hi => ?_
  have hi' : i < N := by rw [← t.len]; exact hi
  have e : row ((List.range N).map fun x => tab (N - x) fun y => E x y % m) i = tab (N - i) fun y => E i y % m := by simp [row, hi']
  rw [e]
  exact eq_tab (t.rl i hi') fun y hy => t.en i y (by omega)

theorem TS.put {m : Int} {N x y : Nat} {Z : List (List Int)} {E : Nat → Nat → Int} {v : Int} (t : TS m N Z E) (hx : x + y < N) (E' : Nat → Nat → Int) (hv : v = E' x y % m) (hE : ∀ x' y', x' + y' < N → ¬ (x' = x ∧ y' = y) → E' x' y' = E x' y') :
    TS m N (Z.set x ((row Z x).set y v)) E' := by
  have hxl : x < Z.length := by rw [t.len]; omega
  refine ⟨by simp [t.len], fun i hi => ?_, fun i j hij => ?_⟩
  · rw [row_set]; split
    · rename_i hc; rw [List.length_set, ← hc.1]; exact t.rl x (by omega)
    · exact t.rl i hi
  · unfold gt2; rw [row_set]
    by_cases h1 : x = i
    · subst h1
      rw [if_pos ⟨rfl, hxl⟩, gt_set]
      by_cases h2 : y = j
      · subst h2; rw [if_pos ⟨rfl, by rw [t.rl x (by omega)]; omega⟩]; exact hv
      · rw [if_neg (fun h => h2 h.1), hE x j hij (fun h => h2 h.2.symm)]; exact t.en x j hij
    · rw [if_neg (fun h => h1 h.1), hE i j hij (fun h => h1 h.1.symm)]; exact t.en i j hij

theorem s_spec_l03Turn {m : Int} {A : Option Addr} {Ra : Nat → Option Addr} {a : List (List Int)} {N na ca : Nat} {h : Hp} {R : Value → Hp → Prop} (ha : RT h A Ra a) (hna : na = N) (hla : a.length = N)
    (hra : ∀ i, i < N → (row a i).length = N - i ∧ Nums m (row a i)) (hN : 1 ≤ N) (hN2 : N ≤ 100000)
    (hR : ∀ v h', HE h h' → FT h h' v (turnT N a) → R v h') : CallW FF n_spec_l03Turn [.slice A na ca] h R := by
  subst hna
  refine w_spec_l03Turn ?_
  have w1 : IntKind.i64.wrap ((na : Int) - 1) = ((na - 1 : Nat) : Int) := by rw [wrapI] <;> omega
  simp [p_spec_l03Turn, w1]
  refine s_spec_l03Zero (by omega) fun v h1 hE1 hF => ?_
  obtain ⟨bo, rb, rfl, hT⟩ := hF
  simp only [ztab_len, show na - 1 + 1 = na by omega] at hT ⊢
  refine LP1 (fun d vs h' => ∃ (i : Nat) (Z : List (List Int)), d = na - i ∧ i ≤ na ∧ vs = [.slice A na ca, .slice (some ⟨bo, 0, none⟩) na 1, i6 i] ∧ HE h h' ∧ OT h.nx h' bo rb Z ∧ TS m na Z (fun x y => if y < i then gt2 a y x else 0)) ?_ _ _ _
    ⟨0, ztab (na - 1) na, rfl, by omega, rfl, hE1, hT, by simp, fun x hx => by rw [row_ztab hx]; simp; omega, fun x y hxy => by rw [gt2_ztab]; simp⟩
  rintro d vs h2 ⟨i, Z, rfl, hi, rfl, hE, hO, hZ⟩ K K1 hK hK1
  refine wl_spec_l03Turn_1 ?_
  by_cases hlt : i < na
  case neg =>
    have : i = na := by omega
    subst this
    simp [q_spec_l03Turn_1]
    refine hK1 _ _ fun e he => ?_
    simp at he; rw [he]
    have hZ2 : Z = turnT i a := by
      refine table_ext (by simp [hZ.len]) fun x hx => ?_
      have hx' : x < i := by rw [← hZ.len]; exact hx
      rw [row_turnT hx']
      refine eq_tab (hZ.rl x hx') fun y hy => ?_
      have h3 := hZ.en x y (by omega)
      unfold gt2 at h3; rw [h3, if_pos (by omega)]
      have := (hra y (by omega)).2.gt (show x < (row a y).length by rw [(hra y (by omega)).1]; omega)
      exact Int.emod_eq_of_lt this.1 this.2
    rw [hZ2] at hO
    exact hR _ _ hE ⟨bo, rb, by simp, hO⟩
  have hr := hra i hlt
  simp [q_spec_l03Turn_1, hlt]
  refine LP1 (fun d vs h' => ∃ (j : Nat) (Z : List (List Int)), d = na - j ∧ i + j ≤ na ∧ vs = [.slice A na ca, .slice (some ⟨bo, 0, none⟩) na 1, i6 i, i6 j] ∧ HE h h' ∧ OT h.nx h' bo rb Z ∧ TS m na Z (fun x y => if y < i ∨ (y = i ∧ x < j) then gt2 a y x else 0)) ?_ _ _ _
    ⟨0, Z, rfl, by omega, rfl, hE, hO, hZ.congr fun x y _ => by simp⟩
  clear hZ hO hE Z h2
  rintro d vs h2 ⟨j, Z, rfl, hj, rfl, hE, hO, hZ⟩ K2 K3 hK2 hK3
  refine wl_spec_l03Turn_0 ?_
  have r := (ha.mono hE).at ca (e := i) (n := na) rfl hla.symm (by omega)
  by_cases hlt2 : j < (row a i).length
  case neg =>
    simp [q_spec_l03Turn_0, r, hlt2]
    refine hK3 _ _ fun e he => ?_
    simp at he; simp [he, wrapI (n := (i : Int) + 1) (by omega) (by omega)]
    refine hK _ _ _ (by omega) ⟨i + 1, Z, rfl, by omega, rfl, hE, hO, hZ.congr fun x y hxy => ?_⟩
    by_cases hy : y < i ∨ (y = i ∧ x < j)
    · rw [if_pos hy, if_pos (by omega)]
    · rw [if_neg hy, if_neg (by omega)]
  have t := (ha.mono hE).el 1 (e := j) (i := i) (n := (row a i).length) (by omega) rfl rfl hlt2
  have hjZ : j < Z.length := by rw [hZ.len]; omega
  have zk := hO.rt.at 1 (e := j) (i := j) (n := na) rfl hZ.len.symm hjZ
  have hrow := hO.rows j hjZ
  have hrl := hZ.rl j (by omega)
  have x1 : indexAddrV 1 (.slice (some ⟨rb j, 0, none⟩) (row Z j).length 1) (.int .i64 i) = some (.pointer (some ⟨rb j, i, none⟩)) := ixOwn rfl (by omega)
  simp [q_spec_l03Turn_0, r, hlt2, t, zk, x1, wrapI (n := (j : Int) + 1) (by omega) (by omega)]
  refine storeI (i := i) hrow (by omega) fun h3 u3 => ?_
  refine hK2 _ _ _ (by omega) ⟨j + 1, _, rfl, by omega, rfl, u3.he hE (hO.lor j hjZ), hO.set hjZ (by simp) u3, ?_⟩
  refine hZ.put (by omega) _ ?_ fun x y hxy hne => ?_
  · have := hr.2.gt hlt2
    rw [if_pos (by omega)]
    exact (Int.emod_eq_of_lt this.1 this.2).symm
  · by_cases hy : y < i ∨ (y = i ∧ x < j)
    · rw [if_pos hy, if_pos (by omega)]
    · rw [if_neg hy, if_neg (by omega)]
end XM

/- The reference: l03Both, l02Reverse, l06Conjugate, l02Inverse. -/
namespace XM
open Go

def bterm (m : Int) (T : List (List Int)) (P Q : Nat → List Int) (i j k l : Nat) : Int := if i ≤ k ∧ j ≤ l then gt2 T i j * gt (P i) k % m * gt (Q j) l else 0
def bE3 (m : Int) (N : Nat) (T : List (List Int)) (P Q : Nat → List Int) (i k l : Nat) : Int := sm i fun i' => sm (N - i') fun j' => bterm m T P Q i' j' k l
def bE2 (m : Int) (N : Nat) (T : List (List Int)) (P Q : Nat → List Int) (i j k l : Nat) : Int := bE3 m N T P Q i k l + sm j fun j' => bterm m T P Q i j' k l
/-- The table of T(f(x), g(y)). -/
def bothT (m : Int) (N : Nat) (T : List (List Int)) (f g : List Int) : List (List Int) := (List.range N).map fun x => tab (N - x) fun y => bE3 m N T (powL m (N - 1) f) (powL m (N - 1) g) N x y % m
@[simp] theorem bothT_len (m : Int) (N : Nat) (T : List (List Int)) (f g : List Int) : (bothT m N T f g).length = N := by simp [bothT]
theorem bothT_row {m : Int} (hm : 0 < m) {N : Nat} {T : List (List Int)} {f g : List Int} {i : Nat} (h : i < N) : (row (bothT m N T f g) i).length = N - i ∧ Nums m (row (bothT m N T f g) i) := by
  have e : row (bothT m N T f g) i = tab (N - i) fun y => bE3 m N T (powL m (N - 1) f) (powL m (N - 1) g) N i y % m := by simp [row, bothT, h]
  rw [e]; exact ⟨by simp, nums_tab hm⟩

set_option maxHeartbeats 1000000 in
theorem s_spec_l03Both {m : Int} {A B C : Option Addr} {Rr : Nat → Option Addr} {T : List (List Int)} {f g : List Int} {N ca cb cc n n2 n3 : Nat} {h : Hp} {R : Value → Hp → Prop} (hT : RT h A Rr T) (hf : RI h B f) (hg : RI h C g) (hn : n = N) (hn2 : n2 = N) (hn3 : n3 = N) (hTl : T.length = N)
    (hfl : f.length = N) (hgl : g.length = N) (hr : ∀ i, i < N → (row T i).length = N - i ∧ Nums m (row T i)) (hm : 2 ≤ m) (hm2 : m ≤ 2000000000) (hx : Nums m f) (hy : Nums m g) (hN : 1 ≤ N) (hN2 : N ≤ 100000)
    (hR : ∀ v h', HE h h' → FT h h' v (bothT m N T f g) → R v h') : CallW FF n_spec_l03Both [i6 m, .slice A n ca, .slice B n2 cb, .slice C n3 cc] h R := by
  obtain ⟨D, rfl⟩ : ∃ D, N = D + 1 := ⟨N - 1, by omega⟩
  subst hn; subst hn2; subst hn3
  refine w_spec_l03Both ?_
  have hm0 : 0 < m := by omega
  have m0 : ¬ m = 0 := by omega
  have w1 : IntKind.i64.wrap (D : Int) = D := wrapI (by omega) (by omega)
  simp [p_spec_l03Both]
  refine s_spec_l03Powers hf hfl hm (by omega) hx (by omega) fun v h1 e1 f1 => ?_
  obtain ⟨p, rp, rfl, P1⟩ := f1
  refine s_spec_l03Powers (hg.mono e1) hgl hm (by omega) hy (by omega) fun v h2 e2 f2 => ?_
  obtain ⟨q, rq, rfl, Q2⟩ := f2
  simp [w1]
  refine s_spec_l03Zero (by omega) fun v h3 e3 f3 => ?_
  obtain ⟨bo, rb, rfl, O3⟩ := f3
  have P2 := (P1.mono e2).rt
  have Q2' := Q2.rt
  have E2 := e1.trans e2
  have T2 := hT.mono E2
  simp only [powT_len, ztab_len] at P2 Q2' ⊢
  have hlo : h.nx ≤ h2.nx := E2.nx
  generalize hPe : powL m D f = P at *
  generalize hQe : powL m D g = Q at *
  have hPl : ∀ i, (P i).length = D + 1 := fun i => by rw [← hPe]; simp
  have hQl : ∀ i, (Q i).length = D + 1 := fun i => by rw [← hQe]; simp
  have hPn : ∀ i, Nums m (P i) := fun i => by rw [← hPe]; exact nums_powL hm D f i
  have hQn : ∀ i, Nums m (Q i) := fun i => by rw [← hQe]; exact nums_powL hm D g i
  have hPr : ∀ i, i < D + 1 → row (powT m D f (D + 1)) i = P i := fun i hi => by rw [row_powT hi, hPe]
  have hQr : ∀ i, i < D + 1 → row (powT m D g (D + 1)) i = Q i := fun i hi => by rw [row_powT hi, hQe]
  clear P1 Q2
  -- i
  refine LP1 (fun d vs h' => ∃ (i : Nat) (Z : List (List Int)), d = D + 1 - i ∧ i ≤ D + 1 ∧ vs = [i6 m, .slice A (D + 1) ca, i6 ((D : Int) + 1), .slice (some ⟨p, 0, none⟩) (D + 1) 1, .slice (some ⟨q, 0, none⟩) (D + 1) 1, .slice (some ⟨bo, 0, none⟩) (D + 1) 1, i6 i] ∧ HE h2 h' ∧ OT h2.nx h' bo rb Z ∧ TS m (D + 1) Z (bE3 m (D + 1) T P Q i)) ?_ _ _ _
    ⟨0, ztab D (D + 1), rfl, by omega, rfl, e3, O3, by simp, fun x hx => by rw [row_ztab hx]; simp; omega, fun x y hxy => by rw [gt2_ztab]; simp [bE3, sm]⟩
  clear O3 e3 h3
  rintro d vs h3 ⟨i, Z, rfl, hi, rfl, hE, hO, hZ⟩ K K1 hK hK1
  refine wl_spec_l03Both_3 ?_
  by_cases hlt : i < D + 1
  case neg =>
    have : i = D + 1 := by omega
    subst this
    simp [q_spec_l03Both_3]
    refine hK1 _ _ fun e he => ?_
    simp at he; rw [he]
    have hZ2 : Z = bothT m (D + 1) T f g := by
      rw [hZ.eqG]; unfold bothT
      rw [show D + 1 - 1 = D by omega, hPe, hQe]
    rw [hZ2] at hO
    exact hR _ _ (E2.trans hE) ⟨bo, rb, by simp, hO.lower hlo⟩
  have g1 : (i : Int) < (D : Int) + 1 := by omega
  have wi := wrapI (n := (i : Int) + 1) (by omega) (by omega)
  have hri := hr i hlt
  simp [q_spec_l03Both_3, g1]
  -- j
  refine LP1 (fun d vs h' => ∃ (j : Nat) (Z : List (List Int)), d = D + 1 - j ∧ i + j ≤ D + 1 ∧ vs = [i6 m, .slice A (D + 1) ca, i6 ((D : Int) + 1), .slice (some ⟨p, 0, none⟩) (D + 1) 1, .slice (some ⟨q, 0, none⟩) (D + 1) 1, .slice (some ⟨bo, 0, none⟩) (D + 1) 1, i6 i, i6 j] ∧ HE h2 h' ∧ OT h2.nx h' bo rb Z ∧ TS m (D + 1) Z (bE2 m (D + 1) T P Q i j)) ?_ _ _ _
    ⟨0, Z, rfl, by omega, rfl, hE, hO, hZ.congr fun x y _ => by simp [bE2, sm]⟩
  clear hE hO hZ Z h3
  rintro d vs h3 ⟨j, Z, rfl, hj, rfl, hE, hO, hZ⟩ K2 K3 hK2 hK3
  refine wl_spec_l03Both_2 ?_
  have wij := wrapI (n := (i : Int) + j) (by omega) (by omega)
  have wj := wrapI (n := (j : Int) + 1) (by omega) (by omega)
  by_cases hlt2 : i + j < D + 1
  case neg =>
    have g2 : ¬ (i : Int) + j < (D : Int) + 1 := by omega
    simp [q_spec_l03Both_2, wij, g2]
    refine hK3 _ _ fun e he => ?_
    simp at he; simp [he, wi]
    refine hK _ _ _ (by omega) ⟨i + 1, Z, rfl, by omega, rfl, hE, hO, hZ.congr fun x y _ => ?_⟩
    rw [bE2, bE3, bE3, sm_succ, show j = D + 1 - i by omega]
  have g2 : (i : Int) + j < (D : Int) + 1 := by omega
  simp [q_spec_l03Both_2, wij, g2]
  -- k
  refine LP1 (fun d vs h' => ∃ (k : Nat) (Z : List (List Int)), d = D + 1 - k ∧ i ≤ k ∧ k ≤ D + 1 ∧ vs = [i6 m, .slice A (D + 1) ca, i6 ((D : Int) + 1), .slice (some ⟨p, 0, none⟩) (D + 1) 1, .slice (some ⟨q, 0, none⟩) (D + 1) 1, .slice (some ⟨bo, 0, none⟩) (D + 1) 1, i6 i, i6 j, i6 k] ∧ HE h2 h' ∧ OT h2.nx h' bo rb Z ∧
     TS m (D + 1) Z (fun x y => bE2 m (D + 1) T P Q i j x y + if x < k then bterm m T P Q i j x y else 0)) ?_ _ _ _
    ⟨i, Z, rfl, by omega, by omega, rfl, hE, hO, hZ.congr fun x y _ => by
      by_cases hx : x < i
      · rw [if_pos hx]; unfold bterm; rw [if_neg (by omega)]; simp
      · rw [if_neg hx]; simp⟩
  clear hE hO hZ Z h3
  rintro d vs h3 ⟨k, Z, rfl, hik, hk, rfl, hE, hO, hZ⟩ K4 K5 hK4 hK5
  refine wl_spec_l03Both_1 ?_
  have wk := wrapI (n := (k : Int) + 1) (by omega) (by omega)
  have fin : ∀ Z h3, HE h2 h3 → OT h2.nx h3 bo rb Z → TS m (D + 1) Z (bE2 m (D + 1) T P Q i (j + 1)) → K5 [i6 m, .slice A (D + 1) ca, i6 ((D : Int) + 1), .slice (some ⟨p, 0, none⟩) (D + 1) 1, .slice (some ⟨q, 0, none⟩) (D + 1) 1, .slice (some ⟨bo, 0, none⟩) (D + 1) 1, i6 i, i6 j] h3 := fun Z h3 hE hO hZ => by
    refine hK5 _ _ fun e he => ?_
    simp at he; simp [he, wj]
    exact hK2 _ _ _ (by omega) ⟨j + 1, Z, rfl, by omega, rfl, hE, hO, hZ⟩
  by_cases hlt3 : k < D + 1
  case neg =>
    have g3 : ¬ (k : Int) < (D : Int) + 1 := by omega
    simp [q_spec_l03Both_1, g3]
    refine fin Z _ hE hO (hZ.congr fun x y hxy => ?_)
    rw [if_pos (by omega), bE2, bE2, sm_succ, Int.add_assoc]
  have g3 : (k : Int) < (D : Int) + 1 := by omega
  have r := (T2.mono hE).at ca (e := i) (n := D + 1) rfl hTl.symm (by omega)
  have t := (T2.mono hE).el 1 (e := j) (i := i) (n := (row T i).length) (by omega) rfl rfl (by omega)
  have bT := hri.2.gt (show j < (row T i).length by omega)
  by_cases h0 : gt (row T i) j = 0
  · simp [q_spec_l03Both_1, g3, r, t, h0]
    refine fin Z _ hE hO (hZ.congr fun x y hxy => ?_)
    have hb : bterm m T P Q i j x y = 0 := by
      unfold bterm gt2; rw [h0]; simp
    rw [bE2, bE2, sm_succ, hb]; simp
  have hkZ : k < Z.length := by rw [hZ.len]; omega
  have zk := hO.rt.at 1 (e := k) (i := k) (n := D + 1) rfl hZ.len.symm hkZ
  have hrlk := hZ.rl k (by omega)
  rw [hrlk] at zk
  simp [q_spec_l03Both_1, g3, r, t, h0, zk]
  clear zk hkZ hrlk
  -- l
  refine LP1 (fun d vs h' => ∃ (l : Nat) (Z : List (List Int)), d = D + 1 - l ∧ j ≤ l ∧ l ≤ D + 1 ∧ vs = [i6 m, .slice A (D + 1) ca, i6 ((D : Int) + 1), .slice (some ⟨p, 0, none⟩) (D + 1) 1, .slice (some ⟨q, 0, none⟩) (D + 1) 1, .slice (some ⟨bo, 0, none⟩) (D + 1) 1, i6 i, i6 j, i6 k, .slice (some ⟨rb k, 0, none⟩) (D + 1 - k) 1, i6 l] ∧ HE h2 h' ∧ OT h2.nx h' bo rb Z ∧
     TS m (D + 1) Z (fun x y => bE2 m (D + 1) T P Q i j x y + if x < k ∨ (x = k ∧ y < l) then bterm m T P Q i j x y else 0)) ?_ _ _ _
    ⟨j, Z, rfl, by omega, by omega, rfl, hE, hO, hZ.congr fun x y _ => by
      congr 1
      by_cases hx : x < k
      · rw [if_pos hx, if_pos (.inl hx)]
      · rw [if_neg hx]
        split
        · unfold bterm; rw [if_neg (by omega)]
        · rfl⟩
  clear hE hO hZ Z r t h3
  rintro d vs h3 ⟨l, Z, rfl, hjl, hl, rfl, hE, hO, hZ⟩ K6 K7 hK6 hK7
  refine wl_spec_l03Both_0 ?_
  have wkl := wrapI (n := (k : Int) + l) (by omega) (by omega)
  have wl := wrapI (n := (l : Int) + 1) (by omega) (by omega)
  by_cases hlt4 : k + l < D + 1
  case neg =>
    have g4 : ¬ (k : Int) + l < (D : Int) + 1 := by omega
    simp [q_spec_l03Both_0, wkl, g4]
    refine hK7 _ _ fun e he => ?_
    simp at he; simp [he, wk]
    refine hK4 _ _ _ (by omega) ⟨k + 1, Z, rfl, by omega, by omega, rfl, hE, hO, hZ.congr fun x y hxy => ?_⟩
    congr 1
    by_cases hx : x < k + 1
    · rw [if_pos hx, if_pos (by omega)]
    · rw [if_neg hx, if_neg (by omega)]
  have g4 : (k : Int) + l < (D : Int) + 1 := by omega
  have r := (T2.mono hE).at ca (e := i) (n := D + 1) rfl hTl.symm (by omega)
  have t := (T2.mono hE).el 1 (e := j) (i := i) (n := (row T i).length) (by omega) rfl rfl (by omega)
  have p1 := (P2.mono hE).at 1 (e := i) (i := i) (n := D + 1) rfl (by simp) (by simp; omega)
  rw [hPr i (by omega), hPl] at p1
  have p2 := (P2.mono hE).el 1 (e := k) (i := i) (j := k) (n := D + 1) (by simp; omega) rfl (by rw [hPr i (by omega), hPl]) (by rw [hPr i (by omega), hPl]; omega)
  rw [hPr i (by omega)] at p2
  have q1 := (Q2'.mono hE).at 1 (e := j) (i := j) (n := D + 1) rfl (by simp) (by simp; omega)
  rw [hQr j (by omega), hQl] at q1
  have q2 := (Q2'.mono hE).el 1 (e := l) (i := j) (j := l) (n := D + 1) (by simp; omega) rfl (by rw [hQr j (by omega), hQl]) (by rw [hQr j (by omega), hQl]; omega)
  rw [hQr j (by omega)] at q2
  have hkZ : k < Z.length := by rw [hZ.len]; omega
  have hrow := hO.rows k hkZ
  have hrlk := hZ.rl k (by omega)
  have x1 : indexAddrV 1 (.slice (some ⟨rb k, 0, none⟩) (D + 1 - k) 1) (.int .i64 l) = some (.pointer (some ⟨rb k, l, none⟩)) := ixOwn rfl (by omega)
  have x2 := ownRd (n := 0) (c := 0) hrow (show l < _ by omega)
  have hz := hZ.en k l (by omega)
  have bz : 0 ≤ gt (row Z k) l ∧ gt (row Z k) l < m := by
    have := mod_bd hm0 (bE2 m (D + 1) T P Q i j k l + if k < k ∨ (k = k ∧ l < l) then bterm m T P Q i j k l else 0); rw [← hz] at this; exact this
  have bP := (hPn i).gt (show k < (P i).length by rw [hPl]; omega)
  have bQ := (hQn j).gt (show l < (Q j).length by rw [hQl]; omega)
  have bm1 := mul_bd (by omega) bT bP
  have bm1' := mod_bd hm0 (gt (row T i) j * gt (P i) k)
  have bm2 := mul_bd (by omega) bm1' bQ
  have v1 : IntKind.i64.wrap (gt (row T i) j * gt (P i) k) = gt (row T i) j * gt (P i) k := wrapI (by omega) (by omega)
  have v2 : IntKind.i64.wrap (gt (row T i) j * gt (P i) k % m * gt (Q j) l) = gt (row T i) j * gt (P i) k % m * gt (Q j) l := wrapI (by omega) (by omega)
  have v3 : IntKind.i64.wrap (gt (row Z k) l + gt (row T i) j * gt (P i) k % m * gt (Q j) l) = gt (row Z k) l + gt (row T i) j * gt (P i) k % m * gt (Q j) l := wrapI (by omega) (by omega)
  simp [q_spec_l03Both_0, wkl, g4, x1, x2, r, t, p1, p2, q1, q2, m0, v1, v2, v3, wl, Int.tmod_eq_emod_of_nonneg bm1.1, Int.tmod_eq_emod_of_nonneg (show 0 ≤ gt (row Z k) l + gt (row T i) j * gt (P i) k % m * gt (Q j) l by omega)]
  refine storeI (i := l) hrow (by omega) fun h4 u4 => ?_
  refine hK6 _ _ _ (by omega) ⟨l + 1, _, rfl, by omega, by omega, rfl, u4.he hE (hO.lor k hkZ), hO.set hkZ (by simp) u4, hZ.put (by omega) _ ?_ fun x y hxy hne => ?_⟩
  · have hz' : gt (row Z k) l = (bE2 m (D + 1) T P Q i j k l) % m := by
      have := hz; unfold gt2 at this; rw [this, if_neg (by omega), Int.add_zero]
    rw [hz', if_pos (by omega), Int.emod_add_emod]
    unfold bterm; rw [if_pos (by omega)]; rfl
  · congr 1
    by_cases h3 : x < k ∨ (x = k ∧ y < l)
    · rw [if_pos h3, if_pos (by omega)]
    · rw [if_neg h3, if_neg (by omega)]

theorem s_spec_l03Both2 {m : Int} {A B : Option Addr} {Rr : Nat → Option Addr} {T : List (List Int)} {f : List Int} {N ca cb n n2 : Nat} {h : Hp} {R : Value → Hp → Prop} (hT : RT h A Rr T) (hf : RI h B f) (hn : n = N) (hn2 : n2 = N) (hTl : T.length = N)
    (hfl : f.length = N) (hr : ∀ i, i < N → (row T i).length = N - i ∧ Nums m (row T i)) (hm : 2 ≤ m) (hm2 : m ≤ 2000000000) (hx : Nums m f) (hN : 1 ≤ N) (hN2 : N ≤ 100000)
    (hR : ∀ v h', HE h h' → FT h h' v (bothT m N T f f) → R v h') : CallW FF n_spec_l03Both2 [i6 m, .slice A n ca, .slice B n2 cb] h R := by
  refine w_spec_l03Both2 ?_
  exact s_spec_l03Both hT hf hf hn hn2 hn2 hTl hfl hfl hr hm hm2 hx hx hN hN2 hR

/-- The composition up to a degree n. -/
def compD (m : Int) (n : Nat) (a f : List Int) : List Int := horn m n a f (min (a.length - 1) n) (min (a.length - 1) n + 1)
def revS (m : Int) (D : Nat) (f : List Int) (u : Int) : Nat → List Int
  | 0 => (List.replicate (D + 1) 0).set 1 u
  | k + 1 => (revS m D f u k).set (k + 2) ((m - gt (compD m (k + 2) f (revS m D f u k)) (k + 2)) * u % m)
/-- The reversion of a list of coefficients. -/
def revL (m : Int) (D : Nat) (f : List Int) : List Int := revS m D f (invM m (gt f 1)) (D - 1)
@[simp] theorem revS_len (m : Int) (D : Nat) (f : List Int) (u : Int) (k : Nat) : (revS m D f u k).length = D + 1 := by
  induction k with
  | zero => simp [revS]
  | succ k ih => simp [revS, ih]
theorem nums_revS {m : Int} (hm : 0 < m) (D : Nat) (f : List Int) {u : Int} (hu : 0 ≤ u ∧ u < m) (k : Nat) : Nums m (revS m D f u k) := by
  induction k with
  | zero => exact nums_set (nums_rep hm _) hu
  | succ k ih => exact nums_set ih (mod_bd hm _)
@[simp] theorem revL_len (m : Int) (D : Nat) (f : List Int) : (revL m D f).length = D + 1 := by simp [revL]
theorem nums_revL {m : Int} (hm : 0 < m) (D : Nat) (f : List Int) : Nums m (revL m D f) := nums_revS hm D f (invM_bd hm _) _

theorem s_spec_l02Reverse {m : Int} {A : Option Addr} {f : List Int} {D na ca : Nat} {h : Hp} {R : Value → Hp → Prop} (hf : RI h A f) (hna : na = f.length) (hfl : 2 ≤ f.length) (hfl2 : f.length ≤ 100000) (hm : 2 ≤ m) (hm2 : m ≤ 3000000000) (hx : Nums m f) (hD1 : 1 ≤ D) (hD : D ≤ 90000)
    (hR : ∀ v h', HE h h' → FI y_t_int64 h h' v (revL m D f) → R v h') : CallW FF n_spec_l02Reverse [i6 m, .slice A na ca, i6 D] h R := by
  subst hna
  refine w_spec_l02Reverse ?_
  have hm0 : 0 < m := by omega
  have m0 : ¬ m = 0 := by omega
  have w1 : IntKind.i64.wrap ((D : Int) + 1) = D + 1 := wrapI (by omega) (by omega)
  have mk : makN (.int .i64 ((D : Int) + 1)) = some (D + 1) := makN_nat (by omega) (by unfold sizeMax; omega)
  simp [p_spec_l02Reverse, w1, mk, mapI_rep]
  refine newB_i fun b h1 eb en eh eB => ?_
  have r := (hf.mono eh).at ca (e := 1) (i := 1) (n := f.length) rfl rfl (by omega)
  simp [r]
  refine s_spec_l01Inv hm0 hm2 ?_
  have q1 : indexAddrV 1 (.slice (some ⟨b, 0, none⟩) (D + 1) 1) (.int .i64 1) = some (.pointer (some ⟨b, 1, none⟩)) := ixOwn (i := 1) rfl (by omega)
  simp [q1]
  have hu := invM_bd hm0 (gt f 1)
  have hRl : revL m D f = revS m D f (invM m (gt f 1)) (D - 1) := rfl
  generalize invM m (gt f 1) = u at *
  refine storeI (i := 1) eB (by simp; omega) fun h2 u2 => ?_
  have n2 := u2.nx
  have E2 : HE h h2 := u2.he eh (by omega)
  refine LP1 (fun d vs h' => ∃ k : Nat, d = D - k ∧ k ≤ D - 1 ∧ vs = [i6 m, .slice A f.length ca, i6 D, .slice (some ⟨b, 0, none⟩) (D + 1) 1, i6 u, i6 ((k : Int) + 2)] ∧ HX b h2 h' ∧ h'.bk b = some ⟨mapI (revS m D f u k), y_t_int64, true⟩) ?_ _ _ _
    ⟨0, rfl, by omega, by simp, HX.refl _ _, u2.bk⟩
  rintro d vs h3 ⟨k, rfl, hk, rfl, x3, hbk⟩ K K1 hK hK1
  refine wl_spec_l02Reverse_0 ?_
  have n3 := x3.nx
  have HE3 := x3.out E2 (by omega)
  by_cases hlt : k + 2 ≤ D
  case neg =>
    have hkD : k = D - 1 := by omega
    have g : ¬ (k : Int) + 2 ≤ D := by omega
    simp [q_spec_l02Reverse_0, g]
    refine hK1 _ _ fun e he => ?_
    simp at he; rw [he]
    exact hR _ _ HE3 ⟨b, by simp, by omega, by omega, by rw [hbk, hRl, hkD]⟩
  have g : (k : Int) + 2 ≤ D := by omega
  simp [q_spec_l02Reverse_0, g]
  refine s_spec_l02Compose (D := k + 2) (hf.mono HE3) (RI.of_block (by omega) hbk) rfl (by simp) hm hm2 hx (nums_revS hm0 D f hu k) (by omega) (by omega) (by simp; omega) (by omega) fun v h4 e4 f4 => ?_
  obtain ⟨q, rfl, q2, q3, q4⟩ := f4
  have n4 := e4.nx
  have hcl : (compD m (k + 2) f (revS m D f u k)).length = k + 3 := by simp [compD]
  have rq := (RI.of_block q3 q4).at 1 (e := (k : Int) + 2) (i := k + 2) (n := k + 3) (by omega) (by simp) (by simp)
  have hcn : Nums m (compD m (k + 2) f (revS m D f u k)) := nums_horn hm0 _ _ _ _ _
  have bc := hcn.gt (show k + 2 < _ by rw [hcl]; omega)
  have hce : horn m (k + 2) f (revS m D f u k) (min (f.length - 1) (k + 2)) (min (f.length - 1) (k + 2) + 1) = compD m (k + 2) f (revS m D f u k) := rfl
  rw [hce] at rq
  have v1 : IntKind.i64.wrap (m - gt (compD m (k + 2) f (revS m D f u k)) (k + 2)) = m - gt (compD m (k + 2) f (revS m D f u k)) (k + 2) := wrapI (by omega) (by omega)
  have bq : 0 ≤ (m - gt (compD m (k + 2) f (revS m D f u k)) (k + 2)) * u ∧ (m - gt (compD m (k + 2) f (revS m D f u k)) (k + 2)) * u ≤ 9000000000000000000 := by
    refine ⟨Int.mul_nonneg (by omega) hu.1, ?_⟩
    have h1 : (m - gt (compD m (k + 2) f (revS m D f u k)) (k + 2)) * u ≤ m * u := Int.mul_le_mul_of_nonneg_right (by omega) hu.1
    have h2 : m * u ≤ m * 3000000000 := Int.mul_le_mul_of_nonneg_left (by omega) (by omega)
    omega
  have v2 : IntKind.i64.wrap ((m - gt (compD m (k + 2) f (revS m D f u k)) (k + 2)) * u) = (m - gt (compD m (k + 2) f (revS m D f u k)) (k + 2)) * u := wrapI (by omega) (by omega)
  have q5 : indexAddrV 1 (.slice (some ⟨b, 0, none⟩) (D + 1) 1) (.int .i64 ((k : Int) + 2)) = some (.pointer (some ⟨b, k + 2, none⟩)) := ixOwn (i := k + 2) (by omega) (by omega)
  have lq : ∀ (xs : List Int), xs.length = k + 3 → xs.length = k + 2 + 1 := fun _ h => h
  simp [hcl, rq, v1, v2, m0, q5, Int.tmod_eq_emod_of_nonneg bq.1]
  refine storeI (i := k + 2) (e4.to hbk (by omega)) (by simp; omega) fun h5 u5 => ?_
  refine hK _ _ _ (by omega) ⟨k + 1, rfl, by omega, by simp [show IntKind.i64.wrap ((k : Int) + 2 + 1) = k + 2 + 1 from wrapI (by omega) (by omega)]; omega, (x3.he e4).upd u5, by rw [u5.bk]; rfl⟩

/-- A law in a coordinate. -/
def conjT (m : Int) (N : Nat) (T : List (List Int)) (a : List Int) : List (List Int) := afterT m N a (bothT m N T (revL m (N - 1) a) (revL m (N - 1) a))
theorem s_spec_l06Conjugate {m : Int} {A B : Option Addr} {Rr : Nat → Option Addr} {T : List (List Int)} {f : List Int} {N ca cb n n2 : Nat} {h : Hp} {R : Value → Hp → Prop} (hT : RT h A Rr T) (hf : RI h B f) (hn : n = N) (hn2 : n2 = N) (hTl : T.length = N)
    (hfl : f.length = N) (hr : ∀ i, i < N → (row T i).length = N - i ∧ Nums m (row T i)) (hm : 2 ≤ m) (hm2 : m ≤ 2000000000) (hx : Nums m f) (hN : 2 ≤ N) (hN2 : N ≤ 80000)
    (hR : ∀ v h', HE h h' → FT h h' v (conjT m N T f) → R v h') : CallW FF n_spec_l06Conjugate [i6 m, .slice A n ca, .slice B n2 cb] h R := by
  subst hn; subst hn2
  refine w_spec_l06Conjugate ?_
  have hm0 : 0 < m := by omega
  have w1 : IntKind.i64.wrap ((n2 : Int) - 1) = ((n2 - 1 : Nat) : Int) := by rw [wrapI] <;> omega
  simp [p_spec_l06Conjugate, w1]
  refine s_spec_l02Reverse hf hfl.symm (by omega) (by omega) hm (by omega) hx (by omega) (by omega) fun v h1 e1 f1 => ?_
  obtain ⟨q, rfl, q1, q2, q3⟩ := f1
  refine s_spec_l03Both2 (N := n2) (hT.mono e1) (RI.of_block q2 q3) rfl (by simp; omega) hTl (by simp; omega) hr hm hm2 (nums_revL hm0 _ _) (by omega) (by omega) fun v h2 e2 f2 => ?_
  obtain ⟨p, rp, rfl, P2⟩ := f2
  refine s_spec_l03After (N := n2) (hf.mono (e1.trans e2)) P2.rt hfl.symm (by simp) (by simp) (fun i hi => bothT_row hm0 hi) hm0 (by omega) (by omega) (by omega) (by omega) hx fun v h3 e3 f3 => ?_
  obtain ⟨o, ro, rfl, O3⟩ := f3
  have n1 := e1.nx; have n2' := e2.nx
  exact hR _ _ ((e1.trans e2).trans e3) ⟨o, ro, by simp [conjT], O3.lower (by omega)⟩
end XM

/- Tables of which only the shape matters: l02Inverse, l08Multiplicative, l08Tangent, l08Root, l08Euler. -/
namespace XM
open Go

/-- A triangle of numbers. -/
def Sh (m : Int) (N : Nat) (Z : List (List Int)) : Prop := Z.length = N ∧ ∀ i, i < N → (row Z i).length = N - i ∧ Nums m (row Z i)
theorem Sh.set {m v : Int} {N x y : Nat} {Z : List (List Int)} (s : Sh m N Z) (hx : x < N) (hv : 0 ≤ v ∧ v < m) : Sh m N (Z.set x ((row Z x).set y v)) := by
  refine ⟨by simp [s.1], fun i hi => ?_⟩
  rw [row_set]; split
  · rename_i hc; rw [← hc.1, List.length_set]; exact ⟨(s.2 x hx).1, nums_set (s.2 x hx).2 hv⟩
  · exact s.2 i hi
theorem Sh.ztab {m : Int} (hm : 0 < m) {D : Nat} : Sh m (D + 1) (ztab D (D + 1)) := ⟨by simp, fun i hi => by rw [row_ztab hi]; exact ⟨by simp; omega, nums_rep hm _⟩⟩
theorem Sh.mulT {m : Int} (hm : 0 < m) {N : Nat} {a b : List (List Int)} : Sh m N (mulT m N a b) := ⟨by simp, fun i hi => by rw [row_mulT hi]; exact ⟨by simp, nums_tab hm⟩⟩
theorem Sh.addT {m : Int} (hm : 0 < m) {N : Nat} {a b : List (List Int)} (s : Sh m N a) : Sh m N (addT m a b N) := ⟨by simp, fun i hi => by rw [row_addT hi]; exact ⟨by simpa using (s.2 i hi).1, nums_addL hm _ _⟩⟩
theorem Sh.scaleT {m c : Int} (hm : 0 < m) {N : Nat} {a : List (List Int)} (s : Sh m N a) : Sh m N (scaleT m c a N) := ⟨by simp, fun i hi => by rw [row_scaleT hi]; exact ⟨by simpa using (s.2 i hi).1, nums_scaleL hm _ _⟩⟩
theorem Sh.turnT {m : Int} {N : Nat} {a : List (List Int)} (s : Sh m N a) : Sh m N (turnT N a) := ⟨by simp, fun i hi => by
  rw [row_turnT hi]
  refine ⟨by simp, nums_iff.2 fun j hj => ?_⟩
  simp at hj
  rw [gt_tab hj]
  exact (s.2 j (by omega)).2.gt (by rw [(s.2 j (by omega)).1]; omega)⟩
theorem Sh.afterT {m : Int} (hm : 0 < m) {N : Nat} {f : List Int} {T : List (List Int)} : Sh m N (afterT m N f T) := ⟨by simp, fun i hi => hornT_row hm i hi⟩
theorem Sh.tri {m : Int} {D : Nat} {Z : List (List Int)} (s : Sh m (D + 1) Z) : Tri m D Z := ⟨s.1, fun i hi => by have := s.2 i (by rw [← s.1]; exact hi); exact this⟩

/-- A triangle of the function's own, in the blocks from lo on, below hi. -/
def OB (m : Int) (N lo hi : Nat) (h : Hp) (b : Nat) (rb : Nat → Nat) : Prop := ∃ Z, OT lo h b rb Z ∧ Sh m N Z ∧ b < hi ∧ ∀ i, i < N → rb i < hi
/-- The answer of a function is such a triangle. -/
def FB (m : Int) (N : Nat) (h h' : Hp) (v : Value) : Prop := ∃ b rb, v = .slice (some ⟨b, 0, none⟩) N 1 ∧ OB m N h.nx h'.nx h' b rb
theorem FT.fb {m : Int} {N : Nat} {h h' : Hp} {v : Value} {T : List (List Int)} (f : FT h h' v T) (s : Sh m N T) : FB m N h h' v := by
  obtain ⟨b, rb, rfl, o⟩ := f
  exact ⟨b, rb, by rw [s.1], T, o, s, o.ltb, fun i hi => o.ltr i (by rw [s.1]; exact hi)⟩
theorem FB.ft {m : Int} {N : Nat} {h h' : Hp} {v : Value} (f : FB m N h h' v) : ∃ T, Sh m N T ∧ FT h h' v T := by
  obtain ⟨b, rb, rfl, Z, o, s, _, _⟩ := f
  exact ⟨Z, s, b, rb, by rw [s.1], o⟩
section
variable {m : Int} {N lo hi : Nat} {h h' : Hp} {b : Nat} {rb : Nat → Nat}
theorem OB.he (o : OB m N lo hi h b rb) (e : HE h h') : OB m N lo hi h' b rb := by
  obtain ⟨Z, o, s, h1, h2⟩ := o; exact ⟨Z, o.mono e, s, h1, h2⟩
theorem OB.keep {lo' hi' : Nat} (o : OB m N lo hi h b rb) (z : HZ lo' hi' h h') (hd : hi ≤ lo' ∨ hi' ≤ lo) : OB m N lo hi h' b rb := by
  obtain ⟨Z, o, s, h1, h2⟩ := o
  have hlor := o.lor; have hlob := o.lob
  have h2' : ∀ i, i < Z.length → rb i < hi := fun i hi => h2 i (by rw [← s.1]; exact hi)
  exact ⟨Z, ⟨o.lob, Nat.lt_of_lt_of_le o.ltb z.nx, z.to o.top o.ltb (by omega), o.lor, fun i hi => Nat.lt_of_lt_of_le (o.ltr i hi) z.nx, o.ne, fun i hi => z.to (o.rows i hi) (o.ltr i hi) (by have := h2' i hi; have := hlor i hi; omega), o.inj⟩, s, h1, h2⟩
theorem OB.at (o : OB m N lo hi h b rb) (c : Nat) {e : Int} {i n : Nat} (he : e = i) (hn : n = N) (hi : i < N) :
    indexAddrV 1 (.slice (some ⟨b, 0, none⟩) n c) (.int .i64 e) = some (elp (some ⟨b, 0, none⟩) 1 i) ∧ ldV 1 false h (elp (some ⟨b, 0, none⟩) 1 i) = some (.slice (some ⟨rb i, 0, none⟩) (N - i) 1) := by
  obtain ⟨Z, o, s, h1, h2⟩ := o
  have := o.rt.at c (e := e) (i := i) (n := n) he (by rw [s.1]; exact hn) (by rw [s.1]; exact hi)
  rw [(s.2 i hi).1] at this
  exact this
theorem OB.ix {i : Nat} (o : OB m N lo hi h b rb) {e : Int} {j n c : Nat} (hi : i < N) (he : e = j) (hn : n = N - i) (hj : j < N - i) :
    indexAddrV 1 (.slice (some ⟨rb i, 0, none⟩) n c) (.int .i64 e) = some (.pointer (some ⟨rb i, j, none⟩)) := by subst hn; exact ixOwn he hj
theorem OB.get {i j : Nat} (o : OB m N lo hi h b rb) (hi : i < N) (hj : j < N - i) : ∃ x : Int, 0 ≤ x ∧ x < m ∧ ldV 1 false h (.pointer (some ⟨rb i, j, none⟩)) = some (i6 x) := by
  obtain ⟨Z, o, s, h1, h2⟩ := o
  have hjl : j < (row Z i).length := by rw [(s.2 i hi).1]; exact hj
  have := (s.2 i hi).2.gt hjl
  exact ⟨_, this.1, this.2, ownRd (n := 0) (c := 0) (o.rows i (by rw [s.1]; exact hi)) hjl⟩
theorem OB.store {i j : Nat} {v : Int} {K : Hp → Prop} (o : OB m N lo hi h b rb) (hi' : i < N) (hj : j < N - i) (hv : 0 ≤ v ∧ v < m) (hk : ∀ h', HZ lo hi h h' → h'.nx = h.nx → OB m N lo hi h' b rb → K h') :
    bindO (storeV 1 h (.int .i64 v) (.pointer (some ⟨rb i, j, none⟩))) K := by
  obtain ⟨Z, o, s, h1, h2⟩ := o
  have hiZ : i < Z.length := by rw [s.1]; exact hi'
  refine storeI (i := j) (o.rows i hiZ) (by rw [(s.2 i hi').1]; exact hj) fun h3 u3 => ?_
  exact hk h3 ((HZ.refl _ _ _).upd u3 (o.lor i hiZ) (h2 i hi')) u3.nx ⟨_, o.set hiZ (by simp) u3, s.set hi' hv, h1, h2⟩
theorem OB.rt (o : OB m N lo hi h b rb) : ∃ Z, RT h (some ⟨b, 0, none⟩) (fun i => some ⟨rb i, 0, none⟩) Z ∧ Sh m N Z := by
  obtain ⟨Z, o, s, h1, h2⟩ := o; exact ⟨Z, o.rt, s⟩
theorem OB.fb {h0 : Hp} (o : OB m N lo hi h b rb) (hl : h0.nx ≤ lo) : FB m N h0 h (.slice (some ⟨b, 0, none⟩) N 1) := by
  obtain ⟨Z, o, s, h1, h2⟩ := o
  exact ⟨b, rb, rfl, Z, o.lower hl, s, o.ltb, fun i hi => o.ltr i (by rw [s.1]; exact hi)⟩
theorem OB.ltb (o : OB m N lo hi h b rb) : b < h.nx := by obtain ⟨Z, o, s, h1, h2⟩ := o; exact o.ltb
end

theorem s_spec_l03Zero_b {m : Int} {D : Nat} {h : Hp} {R : Value → Hp → Prop} (hm : 0 < m) (hD : D ≤ 1000000) (hR : ∀ b rb h', HE h h' → OB m (D + 1) h.nx h'.nx h' b rb → R (.slice (some ⟨b, 0, none⟩) (D + 1) 1) h') : CallW FF n_spec_l03Zero [i6 D] h R := by
  refine s_spec_l03Zero hD fun v h1 e1 f1 => ?_
  obtain ⟨b, rb, rfl, o⟩ := f1.fb (Sh.ztab hm)
  exact hR b rb h1 e1 o

theorem s_spec_l08Multiplicative {m c : Int} {D : Nat} {h : Hp} {R : Value → Hp → Prop} (hm : 2 ≤ m) (hc : 0 ≤ c ∧ c < m) (hD1 : 1 ≤ D) (hD : D ≤ 100000) (hR : ∀ v h', HE h h' → FB m (D + 1) h h' v → R v h') : CallW FF n_spec_l08Multiplicative [i6 m, i6 D, i6 c] h R := by
  refine w_spec_l08Multiplicative ?_
  simp only [p_spec_l08Multiplicative]
  refine s_spec_l03Zero_b (m := m) (by omega) (by omega) fun b rb h1 e1 o1 => ?_
  have r1 := o1.at 1 (e := 1) (i := 1) (n := D + 1) rfl rfl (by omega)
  have x1 := o1.ix (i := 1) (e := 0) (j := 0) (n := D + 1 - 1) (c := 1) (by omega) rfl rfl (by omega)
  simp only [r1, x1, bindO_some]
  refine o1.store (by omega) (by omega) (by omega) fun h2 z2 n2 o2 => ?_
  have r2 := o2.at 1 (e := 0) (i := 0) (n := D + 1) rfl rfl (by omega)
  have x2 := o2.ix (i := 0) (e := 1) (j := 1) (n := D + 1 - 0) (c := 1) (by omega) rfl rfl (by omega)
  simp only [r2, x2, bindO_some]
  refine o2.store (by omega) (by omega) (by omega) fun h3 z3 n3 o3 => ?_
  have z13 : HZ h.nx h1.nx h1 h3 := ⟨by omega, fun b hb hne => (z3.bk b (by omega) hne).trans (z2.bk b hb hne)⟩
  by_cases g : 1 < D
  · have r3 := o3.at 1 (e := 1) (i := 1) (n := D + 1) rfl rfl (by omega)
    have x3 := o3.ix (i := 1) (e := 1) (j := 1) (n := D + 1 - 1) (c := 1) (by omega) rfl rfl (by omega)
    have g' : (1 : Int) < D := by omega
    simp only [bin_gtr, bindO_some, g', decide_true, condM_true, r3, x3]
    refine o3.store (by omega) (by omega) hc fun h4 z4 n4 o4 => ?_
    exact hR _ _ ⟨by have := e1.nx; omega, fun b hb => by rw [z4.bk b (by have := e1.nx; omega) (by omega), z13.bk b (by have := e1.nx; omega) (by omega), e1.bk b hb]⟩ (o4.fb (by omega))
  · have g' : ¬ (1 : Int) < D := by omega
    simp only [bin_gtr, bindO_some, g', decide_false, condM_false]
    exact hR _ _ (z13.out e1 (by omega)) (o3.fb (by omega))

theorem s_spec_l08Tangent {m c : Int} {D : Nat} {h : Hp} {R : Value → Hp → Prop} (hm : 2 ≤ m) (hm2 : m ≤ 3000000000) (hc : 0 ≤ c ∧ c < m) (hD1 : 1 ≤ D) (hD : D ≤ 100000) (hR : ∀ v h', HE h h' → FB m (D + 1) h h' v → R v h') : CallW FF n_spec_l08Tangent [i6 m, i6 D, i6 c] h R := by
  refine w_spec_l08Tangent ?_
  have m0 : ¬ m = 0 := by omega
  have t1 : (1 : Int).tmod m = 1 := by rw [Int.tmod_eq_emod_of_nonneg (by omega), Int.emod_eq_of_lt (by omega) (by omega)]
  simp only [p_spec_l08Tangent]
  refine s_spec_l03Zero_b (m := m) (by omega) (by omega) fun b rb h1 e1 o1 => ?_
  simp [m0, t1]
  refine LP1 (fun d vs h' => ∃ (k : Nat) (p : Int), d = D + 1 - k ∧ k ≤ D ∧ 0 ≤ p ∧ p < m ∧ vs = [i6 m, i6 D, i6 c, .slice (some ⟨b, 0, none⟩) (D + 1) 1, i6 p, i6 k] ∧ HZ h.nx h1.nx h1 h' ∧ OB m (D + 1) h.nx h1.nx h' b rb) ?_ _ _ _
    ⟨0, 1, rfl, by omega, by omega, by omega, rfl, HZ.refl _ _ _, o1⟩
  rintro d vs h2 ⟨k, p, rfl, hk, p0, p1, rfl, z2, o2⟩ K K1 hK hK1
  refine wl_spec_l08Tangent_0 ?_
  have w1 : IntKind.i64.wrap (2 * (k : Int)) = 2 * k := wrapI (by omega) (by omega)
  have w2 : IntKind.i64.wrap (2 * (k : Int) + 1) = 2 * k + 1 := wrapI (by omega) (by omega)
  have w3 : IntKind.i64.wrap ((k : Int) + 1) = k + 1 := wrapI (by omega) (by omega)
  by_cases g : 2 * k + 1 ≤ D
  case neg =>
    have g' : ¬ 2 * (k : Int) + 1 ≤ D := by omega
    simp [q_spec_l08Tangent_0, w1, w2, g']
    refine hK1 _ _ fun e he => ?_
    simp at he; rw [he]
    exact hR _ _ (z2.out e1 (by omega)) (o2.fb (by omega))
  have g' : 2 * (k : Int) + 1 ≤ D := by omega
  have r2 := o2.at 1 (e := (k : Int) + 1) (i := k + 1) (n := D + 1) (by omega) rfl (by omega)
  have x2 := o2.ix (i := k + 1) (e := k) (j := k) (n := D + 1 - (k + 1)) (c := 1) (by omega) rfl rfl (by omega)
  simp only [q_spec_l08Tangent_0, bin_mul, bin_add, w1, w2, w3, bin_leq, bindO_some, g', decide_true, condM_true, r2, x2]
  refine o2.store (by omega) (by omega) ⟨p0, p1⟩ fun h3 z3 n3 o3 => ?_
  have r3 := o3.at 1 (e := (k : Int)) (i := k) (n := D + 1) rfl rfl (by omega)
  have x3 := o3.ix (i := k) (e := (k : Int) + 1) (j := k + 1) (n := D + 1 - k) (c := 1) (by omega) (by omega) rfl (by omega)
  simp only [r3, x3, bindO_some]
  refine o3.store (by omega) (by omega) ⟨p0, p1⟩ fun h4 z4 n4 o4 => ?_
  have w4 : IntKind.i64.wrap (m - c) = m - c := wrapI (by omega) (by omega)
  have bq : 0 ≤ p * (m - c) ∧ p * (m - c) ≤ 9000000000000000000 := by
    refine ⟨Int.mul_nonneg p0 (by omega), ?_⟩
    have h1 : p * (m - c) ≤ p * 3000000000 := Int.mul_le_mul_of_nonneg_left (by omega) p0
    omega
  have w5 : IntKind.i64.wrap (p * (m - c)) = p * (m - c) := wrapI (by omega) (by omega)
  have bm := mod_bd (show 0 < m by omega) (p * (m - c))
  simp [w4, w5, m0, Int.tmod_eq_emod_of_nonneg bq.1]
  refine hK _ _ _ (by omega) ⟨k + 1, _, rfl, by omega, bm.1, bm.2, rfl, ⟨by have := z2.nx; omega, fun b hb hne => ?_⟩, o4⟩
  have := z2.nx
  rw [z4.bk b (by omega) hne, z3.bk b (by omega) hne, z2.bk b hb hne]

theorem s_spec_l08Root {m a e : Int} {D : Nat} {h : Hp} {R : Value → Hp → Prop} (hm : 2 ≤ m) (hm2 : m ≤ 1000000000) (ha : 0 ≤ a ∧ a < m) (he : 0 ≤ e ∧ e < m) (hD1 : 1 ≤ D) (hD : D ≤ 100000)
    (hR : ∀ v h' xs, HE h h' → FI y_t_int64 h h' v xs → xs.length = D + 1 → Nums m xs → R v h') : CallW FF n_spec_l08Root [i6 m, i6 D, i6 a, i6 e] h R := by
  refine w_spec_l08Root ?_
  have m0 : ¬ m = 0 := by omega
  have hm0 : 0 < m := by omega
  have w1 : IntKind.i64.wrap ((D : Int) + 1) = D + 1 := wrapI (by omega) (by omega)
  have mk : makN (.int .i64 ((D : Int) + 1)) = some (D + 1) := makN_nat (by omega) (by unfold sizeMax; omega)
  simp only [p_spec_l08Root]
  refine s_spec_l01Inv hm0 (by omega) ?_
  have hu := invM_bd hm0 2
  generalize invM m 2 = u at *
  simp [w1, mk, mapI_rep]
  refine newB_i fun b h1 eb en eh eB => ?_
  have q1 : indexAddrV 1 (.slice (some ⟨b, 0, none⟩) (D + 1) 1) (.int .i64 0) = some (.pointer (some ⟨b, 0, none⟩)) := ixOwn (i := 0) rfl (by omega)
  simp [q1]
  refine storeI (i := 0) eB (by simp) fun h2 u2 => ?_
  have n2 := u2.nx
  have E2 : HE h h2 := u2.he eh (by omega)
  refine LP1 (fun d vs h' => ∃ (k : Nat) (xs : List Int), d = D + 1 - k ∧ 1 ≤ k ∧ k ≤ D + 1 ∧ vs = [i6 m, i6 D, i6 a, i6 e, i6 u, .slice (some ⟨b, 0, none⟩) (D + 1) 1, i6 k] ∧ HX b h2 h' ∧ h'.bk b = some ⟨mapI xs, y_t_int64, true⟩ ∧ xs.length = D + 1 ∧ Nums m xs) ?_ _ _ _
    ⟨1, _, rfl, by omega, by omega, rfl, HX.refl _ _, u2.bk, by simp, nums_set (nums_rep hm0 _) (by omega)⟩
  rintro d vs h3 ⟨k, xs, rfl, hk1, hk, rfl, x3, hbk, hl, hn⟩ K K1 hK hK1
  refine wl_spec_l08Root_1 ?_
  have n3 := x3.nx
  by_cases g : k ≤ D
  case neg =>
    have g' : ¬ (k : Int) ≤ D := by omega
    simp [q_spec_l08Root_1, g]
    refine hK1 _ _ fun e he => ?_
    simp at he; rw [he]
    exact hR _ _ xs (x3.out E2 (by omega)) ⟨b, by rw [hl], by omega, by omega, hbk⟩ hl hn
  have g' : (k : Int) ≤ D := by omega
  have w2 : IntKind.i64.wrap (2 * m) = 2 * m := wrapI (by omega) (by omega)
  have w3 : IntKind.i64.wrap (2 * a) = 2 * a := wrapI (by omega) (by omega)
  have w4 : IntKind.i64.wrap (2 * m - 2 * a) = 2 * m - 2 * a := wrapI (by omega) (by omega)
  have w5 : IntKind.i64.wrap ((k : Int) + 1) = k + 1 := wrapI (by omega) (by omega)
  simp only [q_spec_l08Root_1, bin_leq, bindO_some, g', decide_true, condM_true, bin_eql, bin_mul, w2, w3, bin_sub, w4, bin_rem, m0, if_false]
  refine ⟨fun vs h' => ∃ t : Int, h' = h3 ∧ 0 ≤ t ∧ t < m ∧ vs = [i6 m, i6 D, i6 a, i6 e, i6 u, .slice (some ⟨b, 0, none⟩) (D + 1) 1, i6 k, i6 t], ?_, ?_⟩
  · rintro vs h4 ⟨t, rfl, t0, t1, rfl⟩ ev he1
    simp at he1
    simp only [he1, bin_eql, bindO_some]
    refine ⟨fun vs h' => ∃ t : Int, h' = h4 ∧ 0 ≤ t ∧ t < m ∧ vs = [i6 m, i6 D, i6 a, i6 e, i6 u, .slice (some ⟨b, 0, none⟩) (D + 1) 1, i6 k, i6 t], ?_, ?_⟩
    · rintro vs h5 ⟨t, rfl, t0, t1, rfl⟩ ev2 he2
      simp at he2
      simp only [he2]
      refine LP1 (fun d vs h' => ∃ (i : Nat) (t : Int), d = k - i ∧ 1 ≤ i ∧ i ≤ k ∧ h' = h5 ∧ 0 ≤ t ∧ t < m ∧ vs = [i6 m, i6 D, i6 a, i6 e, i6 u, .slice (some ⟨b, 0, none⟩) (D + 1) 1, i6 k, i6 t, i6 i]) ?_ _ _ _ ⟨1, t, rfl, by omega, by omega, rfl, t0, t1, rfl⟩
      rintro d vs h6 ⟨i, t, rfl, hi1, hi, rfl, t0, t1, rfl⟩ K2 K3 hK2 hK3
      refine wl_spec_l08Root_0 ?_
      by_cases g6 : i < k
      case neg =>
        simp [q_spec_l08Root_0, g6]
        refine hK3 _ _ fun ev3 he3 => ?_
        simp at he3
        have bq := mul_bd (show m ≤ 3000000000 by omega) ⟨t0, t1⟩ hu
        have w6 : IntKind.i64.wrap (t * u) = t * u := wrapI (by omega) (by omega)
        have q5 : indexAddrV 1 (.slice (some ⟨b, 0, none⟩) (D + 1) 1) (.int .i64 k) = some (.pointer (some ⟨b, k, none⟩)) := ixOwn rfl (by omega)
        simp [he3, w6, m0, q5, w5, Int.tmod_eq_emod_of_nonneg bq.1]
        refine storeI hbk (by omega) fun h7 u7 => ?_
        exact hK _ _ _ (by omega) ⟨k + 1, _, rfl, by omega, by omega, rfl, x3.upd u7, u7.bk, by simp [hl], nums_set hn (mod_bd hm0 _)⟩
      have r1 := (RI.of_block (by omega) hbk).at 1 (e := i) (i := i) (n := D + 1) rfl hl.symm (by omega)
      have v1 : IntKind.i64.wrap ((k : Int) - i) = k - i := wrapI (by omega) (by omega)
      have r2 := (RI.of_block (by omega) hbk).at 1 (e := (k : Int) - i) (i := k - i) (n := D + 1) (by omega) hl.symm (by omega)
      have b1 := hn.gt (show i < xs.length by omega); have b2 := hn.gt (show k - i < xs.length by omega)
      have v2 : IntKind.i64.wrap (m - gt xs i) = m - gt xs i := wrapI (by omega) (by omega)
      have bq : 0 ≤ (m - gt xs i) * gt xs (k - i) ∧ (m - gt xs i) * gt xs (k - i) ≤ 1000000000000000000 := by
        refine ⟨Int.mul_nonneg (by omega) b2.1, ?_⟩
        have h1 : (m - gt xs i) * gt xs (k - i) ≤ (m - gt xs i) * 1000000000 := Int.mul_le_mul_of_nonneg_left (by omega) (by omega)
        omega
      have v3 : IntKind.i64.wrap ((m - gt xs i) * gt xs (k - i)) = (m - gt xs i) * gt xs (k - i) := wrapI (by omega) (by omega)
      have v4 : IntKind.i64.wrap (t + (m - gt xs i) * gt xs (k - i)) = t + (m - gt xs i) * gt xs (k - i) := wrapI (by omega) (by omega)
      have v5 : IntKind.i64.wrap ((i : Int) + 1) = i + 1 := wrapI (by omega) (by omega)
      have bm := mod_bd hm0 (t + (m - gt xs i) * gt xs (k - i))
      simp [q_spec_l08Root_0, g6, r1, r2, v1, v2, v3, v4, v5, m0, Int.tmod_eq_emod_of_nonneg (show 0 ≤ t + (m - gt xs i) * gt xs (k - i) by omega)]
      exact hK2 _ _ _ (by omega) ⟨i + 1, _, rfl, by omega, by omega, rfl, bm.1, bm.2, rfl⟩
    · by_cases g4 : (k : Int) = 4
      · simp only [g4, decide_true, condM_true]
        exact ⟨e, trivial, he.1, he.2, rfl⟩
      · simp only [g4, decide_false, condM_false]
        exact ⟨t, trivial, t0, t1, rfl⟩
  · by_cases g2 : (k : Int) = 2
    · simp only [g2, decide_true, condM_true]
      have := mod_bd hm0 (2 * m - 2 * a)
      exact ⟨_, trivial, this.1, this.2, by rw [Int.tmod_eq_emod_of_nonneg (by omega)]⟩
    · simp only [g2, decide_false, condM_false]
      exact ⟨0, trivial, by omega, hm0, rfl⟩
end XM

/- The laws that are drawn: l08Euler, l08Series, l02Inverse. -/
namespace XM
open Go

theorem mul_bd2 {m a b : Int} (hm2 : m ≤ 1000000000) (ha : 0 ≤ a ∧ a < m) (hb : 0 ≤ b ∧ b < m) : 0 ≤ a * b ∧ a * b ≤ 1000000000000000000 := by
  refine ⟨Int.mul_nonneg ha.1 hb.1, ?_⟩
  have h1 : a * b ≤ a * 1000000000 := Int.mul_le_mul_of_nonneg_left (by omega) ha.1
  omega

theorem s_spec_l08Euler {m a e : Int} {D : Nat} {h : Hp} {R : Value → Hp → Prop} (hm : 2 ≤ m) (hm2 : m ≤ 1000000000) (ha : 0 ≤ a ∧ a < m) (he : 0 ≤ e ∧ e < m) (hD1 : 1 ≤ D) (hD : D ≤ 90000)
    (hR : ∀ v h', HE h h' → FB m (D + 1) h h' v → R v h') : CallW FF n_spec_l08Euler [i6 m, i6 D, i6 a, i6 e] h R := by
  refine w_spec_l08Euler ?_
  have m0 : ¬ m = 0 := by omega
  have hm0 : 0 < m := by omega
  have t1 : (1 : Int).tmod m = 1 := by rw [Int.tmod_eq_emod_of_nonneg (by omega), Int.emod_eq_of_lt (by omega) (by omega)]
  simp only [p_spec_l08Euler]
  refine s_spec_l08Root hm hm2 ha he hD1 (by omega) fun v h1 xs e1 f1 hl hn => ?_
  obtain ⟨q, rfl, q1, q2, q3⟩ := f1
  have rx := RI.of_block q2 q3
  rw [hl]
  refine s_spec_l03Zero_b (m := m) hm0 (by omega) fun t rt h2 e2 o2 => ?_
  refine s_spec_l03Zero_b (m := m) hm0 (by omega) fun f rf h3 e3 o3 => ?_
  have n1 := e1.nx; have n2 := e2.nx; have n3 := e3.nx
  have E3 : HE h1 h3 := e2.trans e3
  have o2 := o2.he e3
  have keyHE : ∀ h', HZ h1.nx h2.nx h3 h' → HE h1 h' := fun h' z => z.out E3 (by omega)
  refine LP1 (fun d vs h' => ∃ k : Nat, d = D - k ∧ k ≤ D ∧ vs = [i6 m, i6 D, i6 e, .slice (some ⟨q, 0, none⟩) (D + 1) 1, .slice (some ⟨t, 0, none⟩) (D + 1) 1, .slice (some ⟨f, 0, none⟩) (D + 1) 1, i6 k] ∧ HZ h1.nx h2.nx h3 h' ∧ OB m (D + 1) h1.nx h2.nx h' t rt) ?_ _ _ _
    ⟨0, rfl, by omega, rfl, HZ.refl _ _ _, o2⟩
  rintro d vs h4 ⟨k, rfl, hk, rfl, z4, o4⟩ K K1 hK hK1
  refine wl_spec_l08Euler_0 ?_
  have E4 := keyHE h4 z4
  have n4 := z4.nx
  by_cases g : k < D
  case pos =>
    have r1 := o4.at 1 (e := 1) (i := 1) (n := D + 1) rfl rfl (by omega)
    have x1 := o4.ix (i := 1) (e := k) (j := k) (n := D + 1 - 1) (c := 1) (by omega) rfl rfl (by omega)
    have r2 := (rx.mono E4).at 1 (e := k) (i := k) (n := D + 1) rfl hl.symm (by omega)
    have bx := hn.gt (show k < xs.length by omega)
    have g' : (k : Int) < D := by omega
    simp only [q_spec_l08Euler_0, bin_lss, g', decide_true, condM_true, bindO_some, r1, r2, x1]
    refine o4.store (by omega) (by omega) bx fun h5 z5 n5 o5 => ?_
    simp [wrapI (n := (k : Int) + 1) (by omega) (by omega)]
    exact hK _ _ _ (by omega) ⟨k + 1, rfl, by omega, rfl, ⟨by omega, fun b hb hne => by rw [z5.bk b (by omega) hne, z4.bk b hb hne]⟩, o5⟩
  have g' : ¬ (k : Int) < D := by omega
  simp [q_spec_l08Euler_0, g]
  refine hK1 _ _ fun ev hev => ?_
  simp at hev
  simp [hev]
  clear hK hK1 K K1 g g' hk hev k
  refine LP1 (fun d vs h' => ∃ k : Nat, d = D - k ∧ k ≤ D ∧ vs = [i6 m, i6 D, i6 e, .slice (some ⟨q, 0, none⟩) (D + 1) 1, .slice (some ⟨t, 0, none⟩) (D + 1) 1, .slice (some ⟨f, 0, none⟩) (D + 1) 1, i6 k] ∧ HZ h1.nx h2.nx h3 h' ∧ OB m (D + 1) h1.nx h2.nx h' t rt) ?_ _ _ _
    ⟨0, rfl, by omega, rfl, z4, o4⟩
  clear z4 o4 E4 n4 h4
  rintro d vs h4 ⟨k, rfl, hk, rfl, z4, o4⟩ K K1 hK hK1
  refine wl_spec_l08Euler_1 ?_
  have E4 := keyHE h4 z4
  have n4 := z4.nx
  by_cases g : k < D
  case pos =>
    have r1 := o4.at 1 (e := k) (i := k) (n := D + 1) rfl rfl (by omega)
    have x1 := o4.ix (i := k) (e := 1) (j := 1) (n := D + 1 - k) (c := 1) (by omega) rfl rfl (by omega)
    obtain ⟨x, x0, xm, hx⟩ := o4.get (i := k) (j := 1) (by omega) (by omega)
    have r2 := (rx.mono E4).at 1 (e := k) (i := k) (n := D + 1) rfl hl.symm (by omega)
    have bx := hn.gt (show k < xs.length by omega)
    have g' : (k : Int) < D := by omega
    have wx : IntKind.i64.wrap (x + gt xs k) = x + gt xs k := wrapI (by omega) (by omega)
    simp only [q_spec_l08Euler_1, bin_lss, g', decide_true, condM_true, bindO_some, r1, r2, x1, hx, bin_add, wx, bin_rem, m0, if_false, Int.tmod_eq_emod_of_nonneg (show 0 ≤ x + gt xs k by omega)]
    refine o4.store (by omega) (by omega) (mod_bd hm0 _) fun h5 z5 n5 o5 => ?_
    simp [wrapI (n := (k : Int) + 1) (by omega) (by omega)]
    exact hK _ _ _ (by omega) ⟨k + 1, rfl, by omega, rfl, ⟨by omega, fun b hb hne => by rw [z5.bk b (by omega) hne, z4.bk b hb hne]⟩, o5⟩
  have g' : ¬ (k : Int) < D := by omega
  simp [q_spec_l08Euler_1, g]
  refine hK1 _ _ fun ev hev => ?_
  simp at hev
  simp [hev, m0, t1]
  clear hK hK1 K K1 g g' hk hev k
  have o3' := o3.keep z4 (.inr (by omega))
  refine LP1 (fun d vs h' => ∃ (k : Nat) (p : Int), d = D + 1 - k ∧ k ≤ D ∧ 0 ≤ p ∧ p < m ∧ vs = [i6 m, i6 D, i6 e, .slice (some ⟨t, 0, none⟩) (D + 1) 1, .slice (some ⟨f, 0, none⟩) (D + 1) 1, i6 p, i6 k] ∧ HZ h2.nx h3.nx h4 h' ∧ OB m (D + 1) h2.nx h3.nx h' f rf) ?_ _ _ _
    ⟨0, 1, rfl, by omega, by omega, by omega, rfl, HZ.refl _ _ _, o3'⟩
  rintro d vs h5 ⟨k, p, rfl, hk, p0, p1, rfl, z5, o5⟩ K K1 hK hK1
  refine wl_spec_l08Euler_2 ?_
  have n5 := z5.nx
  have w1 : IntKind.i64.wrap (4 * (k : Int)) = 4 * k := wrapI (by omega) (by omega)
  have w2 : IntKind.i64.wrap (2 * (k : Int)) = 2 * k := wrapI (by omega) (by omega)
  by_cases g : 4 * k ≤ D
  case neg =>
    have g' : ¬ 4 * (k : Int) ≤ D := by omega
    simp [q_spec_l08Euler_2, w1, g']
    refine hK1 _ _ fun ev hev => ?_
    simp at hev
    simp [hev]
    obtain ⟨Z, RZ, sZ⟩ := (o4.keep z5 (.inl (by omega))).rt
    obtain ⟨Y, RY, sY⟩ := o5.rt
    refine s_spec_l03Times (N := D + 1) RZ RY rfl rfl sZ.1 sY.1 sZ.2 sY.2 hm0 (by omega) (by omega) (by omega) fun v h6 e6 f6 => ?_
    have HE5 : HE h h5 := ⟨by omega, fun b hb => by rw [z5.bk b (by omega) (by omega), z4.bk b (by omega) (by omega), E3.bk b (by omega), e1.bk b hb]⟩
    obtain ⟨b, rb, rfl, o6⟩ := f6
    exact hR _ _ (HE5.trans e6) (FT.fb ⟨b, rb, rfl, o6.lower (by omega)⟩ (Sh.mulT hm0))
  have g' : 4 * (k : Int) ≤ D := by omega
  have r1 := o5.at 1 (e := 2 * (k : Int)) (i := 2 * k) (n := D + 1) (by omega) rfl (by omega)
  have x1 := o5.ix (i := 2 * k) (e := 2 * (k : Int)) (j := 2 * k) (n := D + 1 - 2 * k) (c := 1) (by omega) (by omega) rfl (by omega)
  simp only [q_spec_l08Euler_2, bin_mul, w1, w2, bin_leq, g', decide_true, condM_true, bindO_some, r1, x1]
  refine o5.store (by omega) (by omega) ⟨p0, p1⟩ fun h6 z6 n6 o6 => ?_
  have bq := mul_bd (show m ≤ 3000000000 by omega) ⟨p0, p1⟩ he
  have w3 : IntKind.i64.wrap (p * e) = p * e := wrapI (by omega) (by omega)
  have bm := mod_bd hm0 (p * e)
  simp [w3, m0, wrapI (n := (k : Int) + 1) (by omega) (by omega), Int.tmod_eq_emod_of_nonneg bq.1]
  exact hK _ _ _ (by omega) ⟨k + 1, _, rfl, by omega, bm.1, bm.2, rfl, ⟨by omega, fun b hb hne => by rw [z6.bk b (by omega) hne, z5.bk b hb hne]⟩, o6⟩

theorem s_spec_l08Series {m : Int} {A : Option Addr} {ls : List Int} {D nl cl : Nat} {h : Hp} {R : Value → Hp → Prop} (hls : RI h A ls) (hnl : nl = 5) (hll : ls.length = 5) (hln : Nums m ls) (hm : 2 ≤ m) (hm2 : m ≤ 1000000000) (hD : D ≤ 90000)
    (hR : ∀ v h' xs, HE h h' → FI y_t_int64 h h' v xs → xs.length = D + 1 → Nums m xs → R v h') : CallW FF n_spec_l08Series [i6 m, i6 D, .slice A nl cl] h R := by
  subst hnl
  refine w_spec_l08Series ?_
  have m0 : ¬ m = 0 := by omega
  have hm0 : 0 < m := by omega
  have w1 : IntKind.i64.wrap ((D : Int) + 1) = D + 1 := wrapI (by omega) (by omega)
  have mk : makN (.int .i64 ((D : Int) + 1)) = some (D + 1) := makN_nat (by omega) (by unfold sizeMax; omega)
  simp [p_spec_l08Series, w1, mk, mapI_rep]
  refine newB_i fun b h1 eb en eh eB => ?_
  refine LP1 (fun d vs h' => ∃ (k : Nat) (xs : List Int), d = D + 3 - k ∧ 3 ≤ k ∧ k ≤ D + 3 ∧ vs = [i6 m, i6 D, .slice A 5 cl, .slice (some ⟨b, 0, none⟩) (D + 1) 1, i6 k] ∧ HX b h1 h' ∧ h'.bk b = some ⟨mapI xs, y_t_int64, true⟩ ∧ xs.length = D + 1 ∧ Nums m xs) ?_ _ _ _
    ⟨3, _, rfl, by omega, by omega, rfl, HX.refl _ _, eB, by simp, nums_rep hm0 _⟩
  rintro d vs h2 ⟨k, xs, rfl, hk3, hk, rfl, x2, hbk, hl, hn⟩ K K1 hK hK1
  refine wl_spec_l08Series_0 ?_
  have n2 := x2.nx
  have HE2 := x2.out eh (by omega)
  by_cases g : k ≤ D
  case neg =>
    have g' : ¬ (k : Int) ≤ D := by omega
    simp [q_spec_l08Series_0, g]
    refine hK1 _ _ fun e he => ?_
    simp at he; rw [he]
    exact hR _ _ xs HE2 ⟨b, by rw [hl], by omega, by omega, hbk⟩ hl hn
  have g' : (k : Int) ≤ D := by omega
  have rX : RI h2 (some ⟨b, 0, none⟩) xs := RI.of_block (by omega) hbk
  simp only [q_spec_l08Series_0, bin_leq, g', decide_true, condM_true, bindO_some]
  refine s_spec_l02Times (D := k) rX rX hl.symm hl.symm hm0 (by omega) hn hn (by omega) (by omega) (by omega) fun v h3 e3 f3 => ?_
  obtain ⟨sq, rfl, s1, s2, s3⟩ := f3
  refine s_spec_l02Times (D := k) (RI.of_block s2 s3) (rX.mono e3) rfl hl.symm hm0 (by omega) (nums_mulL hm0 _ _ _) hn (by simp; omega) (by omega) (by omega) fun v h4 e4 f4 => ?_
  obtain ⟨cu, rfl, c1, c2, c3⟩ := f4
  have E4 := e3.trans e4
  have L4 := hls.mono (HE2.trans E4)
  have l0 := L4.at cl (e := 0) (i := 0) (n := 5) rfl hll.symm (by omega)
  have l1 := L4.at cl (e := 1) (i := 1) (n := 5) rfl hll.symm (by omega)
  have l2 := L4.at cl (e := 2) (i := 2) (n := 5) rfl hll.symm (by omega)
  have l3 := L4.at cl (e := 3) (i := 3) (n := 5) rfl hll.symm (by omega)
  have l4 := L4.at cl (e := 4) (i := 4) (n := 5) rfl hll.symm (by omega)
  have X4 := rX.mono E4
  have a1 := X4.at 1 (e := (k : Int) - 1) (i := k - 1) (n := D + 1) (by omega) hl.symm (by omega)
  have a2 := X4.at 1 (e := (k : Int) - 2) (i := k - 2) (n := D + 1) (by omega) hl.symm (by omega)
  have S4 := (RI.of_block s2 s3).mono e4
  have a3 := S4.at 1 (e := (k : Int)) (i := k) (n := k + 1) rfl (by simp) (by simp)
  have a4 := S4.at 1 (e := (k : Int) - 1) (i := k - 1) (n := k + 1) (by omega) (by simp) (by simp; omega)
  have a5 := (RI.of_block c2 c3).at 1 (e := (k : Int)) (i := k) (n := k + 1) rfl (by simp) (by simp)
  have u1 : IntKind.i64.wrap ((k : Int) - 1) = k - 1 := wrapI (by omega) (by omega)
  have u2 : IntKind.i64.wrap ((k : Int) - 2) = k - 2 := wrapI (by omega) (by omega)
  have p1 := mul_bd2 (show m ≤ 1000000000 by omega) (hln.gt (show 0 < ls.length by omega)) (hn.gt (show k - 1 < xs.length by omega))
  have p2 := mul_bd2 (show m ≤ 1000000000 by omega) (hln.gt (show 1 < ls.length by omega)) (hn.gt (show k - 2 < xs.length by omega))
  have p3 := mul_bd2 (show m ≤ 1000000000 by omega) (hln.gt (show 2 < ls.length by omega)) ((nums_mulL hm0 (k + 1) xs xs).gt (show k < _ by simp))
  have p4 := mul_bd2 (show m ≤ 1000000000 by omega) (hln.gt (show 3 < ls.length by omega)) ((nums_mulL hm0 (k + 1) xs xs).gt (show k - 1 < _ by simp; omega))
  have p5 := mul_bd2 (show m ≤ 1000000000 by omega) (hln.gt (show 4 < ls.length by omega)) ((nums_mulL hm0 (k + 1) (mulL m (k + 1) xs xs) xs).gt (show k < _ by simp))
  simp only [mulL_len, l0, l1, l2, l3, l4, a1, a2, a3, a4, a5, bindO_some, bin_sub, bin_mul, bin_add, u1, u2, bin_eql]
  generalize gt ls 0 * gt xs (k - 1) = y1 at *
  generalize gt ls 1 * gt xs (k - 2) = y2 at *
  generalize gt ls 2 * gt (mulL m (k + 1) xs xs) k = y3 at *
  generalize gt ls 3 * gt (mulL m (k + 1) xs xs) (k - 1) = y4 at *
  generalize gt ls 4 * gt (mulL m (k + 1) (mulL m (k + 1) xs xs) xs) k = y5 at *
  have v1 : IntKind.i64.wrap y1 = y1 := wrapI (by omega) (by omega)
  have v2 : IntKind.i64.wrap y2 = y2 := wrapI (by omega) (by omega)
  have v3 : IntKind.i64.wrap y3 = y3 := wrapI (by omega) (by omega)
  have v4 : IntKind.i64.wrap y4 = y4 := wrapI (by omega) (by omega)
  have v5 : IntKind.i64.wrap y5 = y5 := wrapI (by omega) (by omega)
  have v12 : IntKind.i64.wrap (y1 + y2) = y1 + y2 := wrapI (by omega) (by omega)
  have v123 : IntKind.i64.wrap (y1 + y2 + y3) = y1 + y2 + y3 := wrapI (by omega) (by omega)
  have v1234 : IntKind.i64.wrap (y1 + y2 + y3 + y4) = y1 + y2 + y3 + y4 := wrapI (by omega) (by omega)
  have v12345 : IntKind.i64.wrap (y1 + y2 + y3 + y4 + y5) = y1 + y2 + y3 + y4 + y5 := wrapI (by omega) (by omega)
  have vp : IntKind.i64.wrap (y1 + y2 + y3 + y4 + y5 + 1) = y1 + y2 + y3 + y4 + y5 + 1 := wrapI (by omega) (by omega)
  have q5 : indexAddrV 1 (.slice (some ⟨b, 0, none⟩) (D + 1) 1) (.int .i64 k) = some (.pointer (some ⟨b, k, none⟩)) := ixOwn rfl (by omega)
  have wk : IntKind.i64.wrap ((k : Int) + 1) = k + 1 := wrapI (by omega) (by omega)
  have n3 := e3.nx; have n4 := e4.nx
  have hbk4 := E4.to hbk (by omega)
  simp only [v1, v2, v3, v4, v5, v12, v123, v1234, v12345]
  have fin : ∀ t : Int, 0 ≤ t → bindO (storeV 1 h4 (.int .i64 (t % m)) (.pointer (some ⟨b, k, none⟩))) fun h3 => K [i6 m, i6 D, .slice A 5 cl, .slice (some ⟨b, 0, none⟩) (D + 1) 1, .int .i64 (IntKind.i64.wrap ((k : Int) + 1))] h3 := fun t ht => by
    refine storeI hbk4 (by omega) fun h5 u5 => ?_
    rw [wk]
    exact hK _ _ _ (by omega) ⟨k + 1, _, rfl, by omega, by omega, rfl, (x2.he E4).upd u5, u5.bk, by simp [hl], nums_set hn (mod_bd hm0 _)⟩
  by_cases h3' : (k : Int) = 3
  · simp only [h3', decide_true, condM_true, vp, bindO_some, bin_rem, m0, if_false, Int.tmod_eq_emod_of_nonneg (show 0 ≤ y1 + y2 + y3 + y4 + y5 + 1 by omega)]
    simp only [← h3', q5, bindO_some]
    exact fin _ (by omega)
  · simp only [h3', decide_false, condM_false, bindO_some, bin_rem, m0, if_false, q5, Int.tmod_eq_emod_of_nonneg (show 0 ≤ y1 + y2 + y3 + y4 + y5 by omega)]
    exact fin _ (by omega)

theorem s_spec_l02Inverse {m : Int} {A : Option Addr} {a : List Int} {D na ca : Nat} {h : Hp} {R : Value → Hp → Prop} (ha : RI h A a) (hna : na = a.length) (hal : 1 ≤ a.length) (hal2 : a.length ≤ 100000) (han : Nums m a) (hm : 2 ≤ m) (hm2 : m ≤ 1000000000) (hD : D ≤ 90000)
    (hR : ∀ v h' xs, HE h h' → FI y_t_int64 h h' v xs → xs.length = D + 1 → Nums m xs → R v h') : CallW FF n_spec_l02Inverse [i6 m, .slice A na ca, i6 D] h R := by
  subst hna
  refine w_spec_l02Inverse ?_
  have m0 : ¬ m = 0 := by omega
  have hm0 : 0 < m := by omega
  have r0 := ha.at ca (e := 0) (i := 0) (n := a.length) rfl rfl (by omega)
  simp only [p_spec_l02Inverse, r0, bindO_some]
  refine s_spec_l01Inv hm0 (by omega) ?_
  have hu := invM_bd hm0 (gt a 0)
  generalize invM m (gt a 0) = u at *
  have r1 : rowV 1 1 [.int .i64 0] [(0, i6 u)] = some (mapI [u]) := by simp [mapI]
  simp only [r1, bindO_some]
  refine newB_i fun b h1 eb en eh eB => ?_
  refine LP1 (fun d vs h' => ∃ (k b : Nat) (xs : List Int), d = D + 1 - k ∧ 1 ≤ k ∧ k ≤ D + 1 ∧ xs.length = k ∧ vs = [i6 m, .slice A a.length ca, i6 D, i6 u, .slice (some ⟨b, 0, none⟩) k 1, i6 k] ∧ HE h h' ∧ h.nx ≤ b ∧ b < h'.nx ∧ h'.bk b = some ⟨mapI xs, y_t_int64, true⟩ ∧ Nums m xs) ?_ _ _ _
    ⟨1, b, [u], rfl, by omega, by omega, rfl, rfl, eh, by omega, by omega, eB, by intro x hx; simp at hx; omega⟩
  rintro d vs h2 ⟨k, b, xs, rfl, hk1, hk, hl, rfl, hE, hb1, hb2, hbk, hn⟩ K K1 hK hK1
  refine wl_spec_l02Inverse_1 ?_
  by_cases hlt : k ≤ D
  case neg =>
    have : k = D + 1 := by omega
    have g : ¬ (k : Int) ≤ D := by omega
    simp [q_spec_l02Inverse_1, hlt]
    refine hK1 _ _ fun e he => ?_
    simp at he; rw [he]
    exact hR _ _ xs hE ⟨b, by rw [hl], hb1, hb2, hbk⟩ (by omega) hn
  have w1 : IntKind.i64.wrap ((k : Int) + 1) = k + 1 := wrapI (by omega) (by omega)
  simp [q_spec_l02Inverse_1, hlt]
  refine LP1 (fun d vs h' => ∃ (i : Nat) (t : Int), d = k + 1 - i ∧ 1 ≤ i ∧ i ≤ k + 1 ∧ i ≤ max 1 a.length ∧ h' = h2 ∧ 0 ≤ t ∧ t < m ∧ vs = [i6 m, .slice A a.length ca, i6 D, i6 u, .slice (some ⟨b, 0, none⟩) k 1, i6 k, i6 t, i6 i]) ?_ _ _ _
    ⟨1, 0, rfl, by omega, by omega, by omega, rfl, by omega, hm0, rfl⟩
  rintro d vs h3 ⟨i, t, rfl, hi1, hi, hi2, rfl, t0, t1, rfl⟩ K2 K3 hK2 hK3
  refine wl_spec_l02Inverse_0 ?_
  have fin : K3 [i6 m, .slice A a.length ca, i6 D, i6 u, .slice (some ⟨b, 0, none⟩) k 1, i6 k, i6 t] h3 := by
    refine hK3 _ _ fun e he => ?_
    simp at he
    have v1 : IntKind.i64.wrap (m - t) = m - t := wrapI (by omega) (by omega)
    have bq : 0 ≤ (m - t) * u ∧ (m - t) * u ≤ 1000000000000000000 := by
      refine ⟨Int.mul_nonneg (by omega) hu.1, ?_⟩
      have h1 : (m - t) * u ≤ (m - t) * 1000000000 := Int.mul_le_mul_of_nonneg_left (by omega) (by omega)
      omega
    have v2 : IntKind.i64.wrap ((m - t) * u) = (m - t) * u := wrapI (by omega) (by omega)
    simp [he, v1, v2, m0, w1, Int.tmod_eq_emod_of_nonneg bq.1]
    refine pushI (xs := xs) hbk hb2 hl.symm (by unfold sizeMax; omega) fun b' h' u' => ?_
    have := mod_bd hm0 ((m - t) * u)
    have hnx := hE.nx; have hge := u'.ge
    refine hK _ _ _ (by omega) ⟨k + 1, b', _, rfl, by omega, by omega, by simp [hl], by simp, u'.he hE hb1, by omega, u'.lt, u'.bk, fun x hx => ?_⟩
    simp at hx
    rcases hx with hx | rfl
    · exact hn x hx
    · exact this
  by_cases g1 : i ≤ k
  case neg => simp [q_spec_l02Inverse_0, g1]; exact fin
  by_cases g2 : i < a.length
  case neg => simp [q_spec_l02Inverse_0, g1, g2]; exact fin
  have a1 := (ha.mono hE).at ca (e := i) (i := i) rfl rfl g2
  have w2 : IntKind.i64.wrap ((k : Int) - i) = k - i := wrapI (by omega) (by omega)
  have a2 := (RI.of_block hb2 hbk).at 1 (e := (k : Int) - i) (i := k - i) (n := k) (by omega) hl.symm (by omega)
  have b1 := mul_bd2 (show m ≤ 1000000000 by omega) (han.gt g2) (hn.gt (show k - i < xs.length by omega))
  have v1 : IntKind.i64.wrap (gt a i * gt xs (k - i)) = gt a i * gt xs (k - i) := wrapI (by omega) (by omega)
  have v2 : IntKind.i64.wrap (t + gt a i * gt xs (k - i)) = t + gt a i * gt xs (k - i) := wrapI (by omega) (by omega)
  have v3 : IntKind.i64.wrap ((i : Int) + 1) = i + 1 := wrapI (by omega) (by omega)
  have bm := mod_bd hm0 (t + gt a i * gt xs (k - i))
  simp [q_spec_l02Inverse_0, g1, g2, a1, w2, a2, v1, v2, v3, m0, Int.tmod_eq_emod_of_nonneg (show 0 ≤ t + gt a i * gt xs (k - i) by omega)]
  exact hK2 _ _ _ (by omega) ⟨i + 1, _, rfl, by omega, by omega, by omega, rfl, bm.1, bm.2, rfl⟩
end XM

/- The laws that are drawn: l08Weierstrass. -/
namespace XM
open Go

/-- A triangle that is only read, as a value. -/
def RQ (m : Int) (N : Nat) (h : Hp) (v : Value) : Prop := ∃ A Rr T c, v = .slice A N c ∧ RT h A Rr T ∧ Sh m N T
theorem RQ.mono {m : Int} {N : Nat} {h h' : Hp} {v : Value} (r : RQ m N h v) (e : HE h h') : RQ m N h' v := by
  obtain ⟨A, Rr, T, c, h1, h2, h3⟩ := r; exact ⟨A, Rr, T, c, h1, h2.mono e, h3⟩
theorem FB.rq {m : Int} {N : Nat} {h h' : Hp} {v : Value} (f : FB m N h h' v) : RQ m N h' v := by
  obtain ⟨b, rb, rfl, o⟩ := f
  obtain ⟨Z, r, s⟩ := o.rt
  exact ⟨_, _, Z, 1, rfl, r, s⟩
theorem FB.older {m : Int} {N : Nat} {h0 h h' : Hp} {v : Value} (f : FB m N h h' v) (e : h0.nx ≤ h.nx) : FB m N h0 h' v := by
  obtain ⟨b, rb, rfl, Z, o, s, h1, h2⟩ := f
  exact ⟨b, rb, rfl, Z, o.lower e, s, h1, h2⟩
section
variable {m : Int} {N : Nat} {h : Hp} {u v : Value} {R : Value → Hp → Prop}
theorem wTimes (ru : RQ m N h u) (rv : RQ m N h v) (hm : 2 ≤ m) (hm2 : m ≤ 1000000000) (hN : 1 ≤ N) (hN2 : N ≤ 90000) (hR : ∀ w h', HE h h' → RQ m N h' w → R w h') : CallW FF n_spec_l03Times [i6 m, u, v] h R := by
  obtain ⟨A, Ra, a, ca, rfl, r1, s1⟩ := ru
  obtain ⟨B, Rb, b, cb, rfl, r2, s2⟩ := rv
  exact s_spec_l03Times r1 r2 rfl rfl s1.1 s2.1 s1.2 s2.2 (by omega) (by omega) hN (by omega) fun w h' e f => hR w h' e (f.fb (Sh.mulT (by omega))).rq
theorem wAdd (ru : RQ m N h u) (rv : RQ m N h v) (hm : 2 ≤ m) (hm2 : m ≤ 1000000000) (hN2 : N ≤ 90000) (hR : ∀ w h', HE h h' → RQ m N h' w → R w h') : CallW FF n_spec_l03Add [i6 m, u, v] h R := by
  obtain ⟨A, Ra, a, ca, rfl, r1, s1⟩ := ru
  obtain ⟨B, Rb, b, cb, rfl, r2, s2⟩ := rv
  exact s_spec_l03Add r1 r2 rfl rfl s1.1 s2.1 s1.2 s2.2 (by omega) (by omega) (by omega) fun w h' e f => hR w h' e (f.fb (Sh.addT (by omega) s1)).rq
theorem wScale {c : Int} (ru : RQ m N h u) (hc : 0 ≤ c ∧ c < m) (hm : 2 ≤ m) (hm2 : m ≤ 1000000000) (hN2 : N ≤ 90000) (hR : ∀ w h', HE h h' → RQ m N h' w → R w h') : CallW FF n_spec_l03Scale [i6 m, i6 c, u] h R := by
  obtain ⟨A, Ra, a, ca, rfl, r1, s1⟩ := ru
  exact s_spec_l03Scale r1 rfl s1.1 s1.2 (by omega) (by omega) hc (by omega) fun w h' e f => hR w h' e (f.fb (Sh.scaleT (by omega) s1)).rq
theorem wTurn (ru : RQ m N h u) (hN : 1 ≤ N) (hN2 : N ≤ 90000) (hR : ∀ w h', HE h h' → RQ m N h' w → R w h') : CallW FF n_spec_l03Turn [u] h R := by
  obtain ⟨A, Ra, a, ca, rfl, r1, s1⟩ := ru
  exact s_spec_l03Turn r1 rfl s1.1 s1.2 hN (by omega) fun w h' e f => hR w h' e (f.fb s1.turnT).rq
theorem wAfter {A : Option Addr} {n c : Nat} {f : List Int} (rf : RI h A f) (hn : n = f.length) (hfl : f.length ≤ 90000) (hfn : Nums m f) (rv : RQ m N h v) (hm : 2 ≤ m) (hm2 : m ≤ 1000000000) (hN : 1 ≤ N) (hN2 : N ≤ 90000) (hR : ∀ w h', HE h h' → FB m N h h' w → R w h') : CallW FF n_spec_l03After [i6 m, .slice A n c, v] h R := by
  obtain ⟨B, Rb, b, cb, rfl, r2, s2⟩ := rv
  exact s_spec_l03After rf r2 hn rfl s2.1 s2.2 (by omega) (by omega) hN (by omega) (by omega) hfn fun w h' e f => hR w h' e (f.fb (Sh.afterT (by omega)))
end

set_option maxHeartbeats 2000000 in
theorem s_spec_l08Weierstrass {m : Int} {A : Option Addr} {ls : List Int} {D nl cl : Nat} {h : Hp} {R : Value → Hp → Prop} (hls : RI h A ls) (hnl : nl = 5) (hll : ls.length = 5) (hln : Nums m ls) (hm : 2 ≤ m) (hm2 : m ≤ 1000000000) (hD1 : 1 ≤ D) (hD : D ≤ 80000)
    (hR : ∀ v h', HE h h' → FB m (D + 1) h h' v → R v h') : CallW FF n_spec_l08Weierstrass [i6 m, i6 D, .slice A nl cl] h R := by
  subst hnl
  refine w_spec_l08Weierstrass ?_
  have m0 : ¬ m = 0 := by omega
  have hm0 : 0 < m := by omega
  have w1 : IntKind.i64.wrap ((D : Int) + 1) = ((D + 1 : Nat) : Int) := by rw [wrapI] <;> omega
  simp only [p_spec_l08Weierstrass, bin_add, w1, bindO_some]
  refine s_spec_l08Series hls rfl hll hln hm hm2 (by omega) fun v h1 ws e1 f1 hwl hwn => ?_
  obtain ⟨w, rfl, q1, q2, q3⟩ := f1
  have rw1 := RI.of_block q2 q3
  rw [hwl]
  refine s_spec_l03Zero_b (m := m) hm0 (by omega) fun b rb h2 e2 o2 => ?_
  have n1 := e1.nx; have n2 := e2.nx
  -- line
  refine LP1 (fun d vs h' => ∃ n : Nat, d = D + 2 - n ∧ 1 ≤ n ∧ n ≤ D + 2 ∧ vs = [i6 m, i6 D, .slice A 5 cl, .slice (some ⟨w, 0, none⟩) (D + 1 + 1) 1, .slice (some ⟨b, 0, none⟩) (D + 1) 1, i6 n] ∧ HZ h1.nx h2.nx h2 h' ∧ OB m (D + 1) h1.nx h2.nx h' b rb) ?_ _ _ _
    ⟨1, rfl, by omega, by omega, rfl, HZ.refl _ _ _, o2⟩
  rintro d vs h3 ⟨n, rfl, hn1, hn, rfl, z3, o3⟩ K K1 hK hK1
  refine wl_spec_l08Weierstrass_1 ?_
  have n3 := z3.nx
  have E13 : HE h1 h3 := z3.out e2 (by omega)
  by_cases g : n ≤ D + 1
  case pos =>
    have g' : (n : Int) ≤ ((D + 1 : Nat) : Int) := by omega
    simp only [q_spec_l08Weierstrass_1, bin_add, w1, bindO_some, bin_leq, g', decide_true, condM_true]
    refine LP1 (fun d vs h' => ∃ i : Nat, d = n - i ∧ i ≤ n ∧ vs = [i6 m, i6 D, .slice A 5 cl, .slice (some ⟨w, 0, none⟩) (D + 1 + 1) 1, .slice (some ⟨b, 0, none⟩) (D + 1) 1, i6 n, i6 i] ∧ HZ h1.nx h2.nx h2 h' ∧ OB m (D + 1) h1.nx h2.nx h' b rb) ?_ _ _ _
      ⟨0, rfl, by omega, rfl, z3, o3⟩
    clear z3 o3 n3 E13 h3
    rintro d vs h3 ⟨i, rfl, hi, rfl, z3, o3⟩ K2 K3 hK2 hK3
    refine wl_spec_l08Weierstrass_0 ?_
    have n3 := z3.nx
    have E13 : HE h1 h3 := z3.out e2 (by omega)
    by_cases g2 : i < n
    case neg =>
      simp [q_spec_l08Weierstrass_0, g2]
      refine hK3 _ _ fun ev hev => ?_
      simp at hev
      simp [hev, wrapI (n := (n : Int) + 1) (by omega) (by omega)]
      exact hK _ _ _ (by omega) ⟨n + 1, rfl, by omega, by omega, rfl, z3, o3⟩
    have r1 := o3.at 1 (e := i) (i := i) (n := D + 1) rfl rfl (by omega)
    have v1 : IntKind.i64.wrap ((n : Int) - 1) = n - 1 := wrapI (by omega) (by omega)
    have v2 : IntKind.i64.wrap ((n : Int) - 1 - i) = n - 1 - i := wrapI (by omega) (by omega)
    have r2 := (rw1.mono E13).at 1 (e := n) (i := n) (n := D + 1 + 1) rfl hwl.symm (by omega)
    have x1 := o3.ix (i := i) (e := (n : Int) - 1 - i) (j := n - 1 - i) (n := D + 1 - i) (c := 1) (by omega) (by omega) rfl (by omega)
    have bx := hwn.gt (show n < ws.length by omega)
    have g2' : (i : Int) < n := by omega
    simp only [q_spec_l08Weierstrass_0, bin_lss, g2', decide_true, condM_true, bindO_some, r1, bin_sub, v1, v2, r2, x1]
    refine o3.store (by omega) (by omega) bx fun h4 z4 n4 o4 => ?_
    simp [wrapI (n := (i : Int) + 1) (by omega) (by omega)]
    exact hK2 _ _ _ (by omega) ⟨i + 1, rfl, by omega, rfl, ⟨by omega, fun c hc hne => by rw [z4.bk c (by omega) hne, z3.bk c hc hne]⟩, o4⟩
  have g' : ¬ (n : Int) ≤ ((D + 1 : Nat) : Int) := by omega
  simp only [q_spec_l08Weierstrass_1, bin_add, w1, bindO_some, bin_leq, g', decide_false, condM_false]
  refine hK1 _ _ fun ev hev => ?_
  simp at hev
  simp only [hev]
  clear hK hK1 K K1 g g' hn hn1 hev n z3
  -- x, first
  refine s_spec_l03Zero_b (m := m) hm0 (by omega) fun bx rx h4 e4 o4 => ?_
  refine s_spec_l03Zero_b (m := m) hm0 (by omega) fun bf rf h5 e5 o5 => ?_
  have n4 := e4.nx; have n5 := e5.nx
  have o4 := o4.he e5
  have r1 := o4.at 1 (e := 1) (i := 1) (n := D + 1) rfl rfl (by omega)
  have x1 := o4.ix (i := 1) (e := 0) (j := 0) (n := D + 1 - 1) (c := 1) (by omega) rfl rfl (by omega)
  simp only [r1, x1, bindO_some]
  refine o4.store (by omega) (by omega) (by omega) fun h6 z6 n6 o6 => ?_
  have o5 := o5.keep z6 (.inr (by omega))
  have E36 : HE h3 h6 := z6.out (e4.trans e5) (by omega)
  refine LP1 (fun d vs h' => ∃ n : Nat, d = D + 1 - n ∧ n ≤ D + 1 ∧ vs = [i6 m, i6 D, .slice A 5 cl, .slice (some ⟨w, 0, none⟩) (D + 1 + 1) 1, .slice (some ⟨b, 0, none⟩) (D + 1) 1, .slice (some ⟨bx, 0, none⟩) (D + 1) 1, .slice (some ⟨bf, 0, none⟩) (D + 1) 1, i6 n] ∧ HZ h4.nx h5.nx h6 h' ∧ OB m (D + 1) h4.nx h5.nx h' bf rf) ?_ _ _ _
    ⟨0, rfl, by omega, rfl, HZ.refl _ _ _, o5⟩
  rintro d vs h7 ⟨n, rfl, hn, rfl, z7, o7⟩ K K1 hK hK1
  refine wl_spec_l08Weierstrass_2 ?_
  have n7 := z7.nx
  have E37 : HE h3 h7 := z7.out E36 (by omega)
  by_cases g : n ≤ D
  case pos =>
    have g' : (n : Int) ≤ D := by omega
    have r1 := o7.at 1 (e := n) (i := n) (n := D + 1) rfl rfl (by omega)
    have r2 := (rw1.mono (E13.trans E37)).at 1 (e := n) (i := n) (n := D + 1 + 1) rfl hwl.symm (by omega)
    have x1 := o7.ix (i := n) (e := 0) (j := 0) (n := D + 1 - n) (c := 1) (by omega) rfl rfl (by omega)
    have bx := hwn.gt (show n < ws.length by omega)
    simp only [q_spec_l08Weierstrass_2, bin_leq, g', decide_true, condM_true, bindO_some, r1, r2, x1]
    refine o7.store (by omega) (by omega) bx fun h8 z8 n8 o8 => ?_
    simp [wrapI (n := (n : Int) + 1) (by omega) (by omega)]
    exact hK _ _ _ (by omega) ⟨n + 1, rfl, by omega, rfl, ⟨by omega, fun c hc hne => by rw [z8.bk c (by omega) hne, z7.bk c hc hne]⟩, o8⟩
  have g' : ¬ (n : Int) ≤ D := by omega
  simp only [q_spec_l08Weierstrass_2, bin_leq, g', decide_false, condM_false, bindO_some]
  refine hK1 _ _ fun ev hev => ?_
  simp at hev
  have v1 : IntKind.i64.wrap (m - 1) = m - 1 := wrapI (by omega) (by omega)
  simp only [hev, bin_sub, v1, bindO_some]
  clear hK hK1 K K1 g g' hn hev n
  -- facts
  have E07 : HE h h7 := e1.trans (E13.trans E37)
  have L7 := hls.mono E07
  have W7 := rw1.mono (E13.trans E37)
  have rqL : RQ m (D + 1) h7 (.slice (some ⟨b, 0, none⟩) (D + 1) 1) := ((o3.he E37).fb (h0 := h) (by omega)).rq
  have rqX : RQ m (D + 1) h7 (.slice (some ⟨bx, 0, none⟩) (D + 1) 1) := ((o6.keep z7 (.inl (by omega))).fb (h0 := h) (by omega)).rq
  have rqF : RQ m (D + 1) h7 (.slice (some ⟨bf, 0, none⟩) (D + 1) 1) := (o7.fb (h0 := h) (by omega)).rq
  generalize Value.slice (some ⟨b, 0, none⟩) (D + 1) 1 = vL at *
  generalize Value.slice (some ⟨bx, 0, none⟩) (D + 1) 1 = vX at *
  generalize Value.slice (some ⟨bf, 0, none⟩) (D + 1) 1 = vF at *
  have lsat : ∀ {h' : Hp}, HE h7 h' → ∀ (e : Int) (i : Nat), e = i → i < 5 → indexAddrV 1 (.slice A 5 cl) (.int .i64 e) = some (elp A 1 i) ∧ ldV 1 false h' (elp A 1 i) = some (.int .i64 (gt ls i)) := fun {h'} e e' i he hi => (L7.mono e).at cl he hll.symm (by omega)
  have lsin : ∀ {h' : Hp}, HE h7 h' → ∀ i : Nat, i < 5 → inB h'.nx (elp A 1 i) := fun {h'} e i hi => (L7.mono e).inb (HE.refl _) (by omega)
  have lsb : ∀ i : Nat, i < 5 → 0 ≤ gt ls i ∧ gt ls i < m := fun i hi => hln.gt (by omega)
  clear o2 o3 o4 o5 o6 o7 z6 z7 E36 E37 E13 r1 x1
  refine wTimes rqL rqX hm hm2 (by omega) (by omega) fun v87 h8 e8 r87 => ?_
  refine wScale r87 (by omega) hm hm2 (by omega) fun v88 h9 e9 r88 => ?_
  have E79 := e8.trans e9
  refine wAdd (rqF.mono E79) r88 hm hm2 (by omega) fun v89 h10 e10 r89 => ?_
  have E7a := E79.trans e10
  refine wTimes (rqL.mono E7a) (rqL.mono E7a) hm hm2 (by omega) (by omega) fun v93 h11 e11 r93 => ?_
  have E7b := E7a.trans e11
  have a0 := lsat E7b 0 0 rfl (by omega)
  simp only [a0, bindO_some]
  refine wScale (rqL.mono E7b) (lsb 0 (by omega)) hm hm2 (by omega) fun v100 h12 e12 r100 => ⟨e12.keep, ?_⟩
  have E7c := E7b.trans e12
  have a1 := lsat E7c 1 1 rfl (by omega)
  have a1i := lsin E7b 1 (by omega)
  simp only [a1, a1i, bindO_some, true_and]
  refine wScale (r89.mono (e11.trans e12)) (lsb 1 (by omega)) hm hm2 (by omega) fun v106 h13 e13 r106 => ?_
  refine wAdd (r100.mono e13) r106 hm hm2 (by omega) fun v107 h14 e14 r107 => ?_
  have E7d := E7c.trans (e13.trans e14)
  have a2 := lsat E7d 2 2 rfl (by omega)
  simp only [a2, bindO_some]
  refine wScale (r93.mono (e12.trans (e13.trans e14))) (lsb 2 (by omega)) hm hm2 (by omega) fun v115 h15 e15 r115 => ?_
  refine wAdd (r107.mono e15) r115 hm hm2 (by omega) fun v116 h16 e16 r116 => ?_
  have E7e := E7d.trans (e15.trans e16)
  have a3 := lsat E7e 3 3 rfl (by omega)
  have a3i := lsin E7e 3 (by omega)
  have b3 := lsb 3 (by omega); have b4 := lsb 4 (by omega)
  have v2 : IntKind.i64.wrap (2 * gt ls 3) = 2 * gt ls 3 := wrapI (by omega) (by omega)
  have v3 : IntKind.i64.wrap (3 * gt ls 4) = 3 * gt ls 4 := wrapI (by omega) (by omega)
  have m2 := mod_bd hm0 (2 * gt ls 3); have m3 := mod_bd hm0 (3 * gt ls 4)
  simp only [a3, a3i, bindO_some, true_and, bin_mul, v2, bin_rem, m0, if_false, Int.tmod_eq_emod_of_nonneg (show 0 ≤ 2 * gt ls 3 by omega)]
  have E116 := (e12.trans (e13.trans e14)).trans (e15.trans e16)
  refine wTimes (rqL.mono E7e) (r89.mono (e11.trans E116)) hm hm2 (by omega) (by omega) fun v129 h17 e17 r129 => ⟨e17.keep, ?_⟩
  refine wScale r129 m2 hm hm2 (by omega) fun v130 h18 e18 r130 => ?_
  refine wAdd (r116.mono (e17.trans e18)) r130 hm hm2 (by omega) fun v131 h19 e19 r131 => ?_
  have F19 := (e17.trans e18).trans e19
  have E7f := E7e.trans F19
  have a4 := lsat E7f 4 4 rfl (by omega)
  have a4i := lsin E7f 4 (by omega)
  simp only [a4, a4i, bindO_some, true_and, bin_mul, v3, bin_rem, m0, if_false, Int.tmod_eq_emod_of_nonneg (show 0 ≤ 3 * gt ls 4 by omega)]
  refine wTimes (r93.mono (E116.trans F19)) (r89.mono ((e11.trans E116).trans F19)) hm hm2 (by omega) (by omega) fun v144 h20 e20 r144 => ⟨e20.keep, ?_⟩
  refine wScale r144 m3 hm hm2 (by omega) fun v145 h21 e21 r145 => ?_
  refine wAdd (r131.mono (e20.trans e21)) r145 hm hm2 (by omega) fun v146 h22 e22 r146 => ?_
  have F22 := (e20.trans e21).trans e22
  have E7g := E7f.trans F22
  have a5 := lsat E7g 1 1 rfl (by omega)
  simp only [a5, bindO_some]
  refine wScale (rqL.mono E7g) (lsb 1 (by omega)) hm hm2 (by omega) fun v153 h23 e23 r153 => ⟨e23.keep, ?_⟩
  have E7h := E7g.trans e23
  have a6 := lsat E7h 3 3 rfl (by omega)
  have a6i := lsin E7g 3 (by omega)
  simp only [a6, a6i, bindO_some, true_and]
  have G23 := ((E116.trans F19).trans F22).trans e23
  refine wScale (r93.mono G23) b3 hm hm2 (by omega) fun v159 h24 e24 r159 => ?_
  refine wAdd (r153.mono e24) r159 hm hm2 (by omega) fun v160 h25 e25 r160 => ?_
  have E7i := E7h.trans (e24.trans e25)
  have a7 := lsat E7i 4 4 rfl (by omega)
  have a7i := lsin E7i 4 (by omega)
  simp only [a7, a7i, bindO_some, true_and]
  have G25 := G23.trans (e24.trans e25)
  refine wTimes (r93.mono G25) (rqL.mono E7i) hm hm2 (by omega) (by omega) fun v170 h26 e26 r170 => ⟨e26.keep, ?_⟩
  refine wScale r170 b4 hm hm2 (by omega) fun v171 h27 e27 r171 => ?_
  refine wAdd (r160.mono (e26.trans e27)) r171 hm hm2 (by omega) fun v172 h28 e28 r172 => ?_
  have F28 := (e26.trans e27).trans e28
  have E7j := E7i.trans F28
  have r146 := r146.mono ((e23.trans (e24.trans e25)).trans F28)
  clear r87 r88 r93 r100 r106 r107 r115 r116 r129 r130 r131 r144 r145 r153 r159 r160 r170 r171 a0 a1 a1i a2 a3 a3i a4 a4i a5 a6 a6i a7 a7i G25 G23 E116 F19 F22 F28 E7i E7h E7g E7f E7e E7d E7c E7b E7a E79 e8 e9 e10 e11 e12 e13 e14 e15 e16 e17 e18 e19 e20 e21 e22 e23 e24 e25 e26 e27 e28 r89 e4 e5 e2
  have rX28 := rqX.mono E7j
  have L28 := L7.mono E7j
  have W28 := W7.mono E7j
  have E028 := E07.trans E7j
  clear lsat lsin rqX rqF rqL L7 W7 E7j E07 rw1 hls
  simp only [rowV_nil, bindO_some]
  refine newB_i fun b29 h29 eb29 en29 eh29 eB29 => ?_
  -- signs
  refine LP1 (fun d vs h' => ∃ (k b : Nat) (xs : List Int), d = D + 1 - k ∧ k ≤ D + 1 ∧ xs.length = k ∧ vs = [i6 m, i6 D, .slice A 5 cl, .slice (some ⟨w, 0, none⟩) (D + 1 + 1) 1, vX, v146, v172, .slice (some ⟨b, 0, none⟩) k 1, i6 k] ∧ HE h28 h' ∧ h28.nx ≤ b ∧ b < h'.nx ∧ h'.bk b = some ⟨mapI xs, y_t_int64, true⟩ ∧ Nums m xs) ?_ _ _ _
    ⟨0, b29, [], rfl, by omega, rfl, by simp, eh29, by omega, by omega, eB29, by intro x hx; cases hx⟩
  clear eb29 en29 eh29 eB29 h29 b29
  rintro d vs h29 ⟨k, b, xs, rfl, hk, hl, rfl, hE, hb1, hb2, hbk, hn⟩ K K1 hK hK1
  refine wl_spec_l08Weierstrass_3 ?_
  by_cases g : k ≤ D
  case pos =>
    have g' : (k : Int) ≤ D := by omega
    have r5 : rowV 1 2 [.int .i64 0] [(0, .int .i64 1), (1, .int .i64 (m - 1))] = some (mapI [1, m - 1]) := by simp [rowV, rowFill, reps, mapI]
    have d1 : (k : Int).tmod 2 = ((k % 2 : Nat) : Int) := by rw [Int.tmod_eq_emod_of_nonneg (by omega)]; omega
    simp only [q_spec_l08Weierstrass_3, bin_leq, g', decide_true, condM_true, bindO_some, bin_sub, v1, r5, bin_rem, d1]
    refine newB_i fun b30 h30 eb30 en30 eh30 eB30 => ?_
    have rd := (RI.of_block (by omega) eB30).at 1 (e := ((k % 2 : Nat) : Int)) (i := k % 2) (n := 2) rfl rfl (by simp; omega)
    have bs : 0 ≤ gt [1, m - 1] (k % 2) ∧ gt [1, m - 1] (k % 2) < m := by
      rcases Nat.mod_two_eq_zero_or_one k with h0 | h0 <;> rw [h0] <;> simp [gt] <;> omega
    have two : ¬ (2 : Int) = 0 := by omega
    simp only [two, if_false, bindO_some, rd, rowV_int, bin_add, wrapI (n := (k : Int) + 1) (by omega) (by omega)]
    have nx29 := hE.nx
    refine pushI (xs := xs) (eh30.to hbk hb2) (by omega) hl.symm (by unfold sizeMax; omega) fun b' h' u' => ?_
    have := u'.ge
    refine hK _ _ _ (by omega) ⟨k + 1, b', _, rfl, by omega, by simp [hl], by simp, u'.he (hE.trans eh30) hb1, by omega, u'.lt, u'.bk, fun x hx => ?_⟩
    simp at hx
    rcases hx with hx | rfl
    · exact hn x hx
    · exact bs
  have g' : ¬ (k : Int) ≤ D := by omega
  simp only [q_spec_l08Weierstrass_3, bin_leq, g', decide_false, condM_false, bindO_some]
  refine hK1 _ _ fun ev hev => ?_
  simp at hev
  simp only [hev]
  clear hK hK1 K K1 g g' hev
  have nx29 := hE.nx
  refine wAfter (RI.of_block hb2 hbk) hl.symm (by omega) hn (r172.mono hE) hm hm2 (by omega) (by omega) fun v194 h31 e31 f194 => ?_
  have r194 := f194.rq
  refine wTimes (r146.mono (hE.trans e31)) r194 hm hm2 (by omega) (by omega) fun v195 h32 e32 r195 => ?_
  have E32 := hE.trans (e31.trans e32)
  refine wTurn (rX28.mono E32) (by omega) (by omega) fun v200 h33 e33 r200 => ?_
  refine wAdd (rX28.mono (E32.trans e33)) r200 hm hm2 (by omega) fun v201 h34 e34 r201 => ?_
  refine wAdd r201 (r195.mono (e33.trans e34)) hm hm2 (by omega) fun v203 h35 e35 r203 => ?_
  simp only [bin_sub, v1, bindO_some]
  refine wScale r203 (by omega) hm hm2 (by omega) fun v208 h36 e36 r208 => ?_
  have E36 := E32.trans ((e33.trans e34).trans (e35.trans e36))
  simp only [rowV_int, bindO_some]
  refine newB_i fun b37 h37 eb37 en37 eh37 eB37 => ?_
  have LL := L28.mono E36
  have WW := W28.mono E36
  have EE := E028.trans E36
  clear r194 f194 r195 r200 r201 r203 e31 e32 e33 e34 e35 e36 E32 hE hbk hb1 hb2 hn hl L28 W28 E028 E36 rX28 r146 r172 nx29 hk xs b k
  -- below
  have i0 : 0 ≤ gt ls 0 ∧ gt ls 0 < m := lsb 0 (by omega)
  have i2 : 0 ≤ gt ls 2 ∧ gt ls 2 < m := lsb 2 (by omega)
  refine LP1 (fun d vs h' => ∃ (k b : Nat) (xs : List Int), d = D + 1 - k ∧ 1 ≤ k ∧ k ≤ D + 1 ∧ xs.length = k ∧ vs = [i6 m, i6 D, .slice A 5 cl, .slice (some ⟨w, 0, none⟩) (D + 1 + 1) 1, v208, .slice (some ⟨b, 0, none⟩) k 1, i6 k] ∧ HE h36 h' ∧ h36.nx ≤ b ∧ b < h'.nx ∧ h'.bk b = some ⟨mapI xs, y_t_int64, true⟩ ∧ Nums m xs) ?_ _ _ _
    ⟨1, b37, [1], rfl, by omega, by omega, rfl, by simp, eh37, by omega, by omega, eB37, by intro x hx; simp at hx; omega⟩
  clear eb37 en37 eh37 eB37 h37 b37
  rintro d vs h37 ⟨k, b, xs, rfl, hk1, hk, hl, rfl, hE, hb1, hb2, hbk, hn⟩ K K1 hK hK1
  refine wl_spec_l08Weierstrass_4 ?_
  have nx37 := hE.nx
  by_cases g : k ≤ D
  case pos =>
    have g' : (k : Int) ≤ D := by omega
    have a0 := (LL.mono hE).at cl (e := 0) (i := 0) (n := 5) rfl hll.symm (by omega)
    have a2 := (LL.mono hE).at cl (e := 2) (i := 2) (n := 5) rfl hll.symm (by omega)
    have aw := (WW.mono hE).at 1 (e := k) (i := k) (n := D + 1 + 1) rfl hwl.symm (by omega)
    have bw := hwn.gt (show k < ws.length by omega)
    have p1 := mul_bd2 hm2 i2 bw
    have u1 : IntKind.i64.wrap (gt ls 2 * gt ws k) = gt ls 2 * gt ws k := wrapI (by omega) (by omega)
    have u2 : IntKind.i64.wrap (gt ls 2 * gt ws k + gt ls 0) = gt ls 2 * gt ws k + gt ls 0 := wrapI (by omega) (by omega)
    simp only [q_spec_l08Weierstrass_4, bin_leq, g', decide_true, condM_true, bindO_some, a2, aw, bin_mul, u1, bin_eql, a0, bin_add, u2]
    refine ⟨fun vs h' => ∃ t : Int, h' = h37 ∧ 0 ≤ t ∧ vs = [i6 m, i6 D, .slice A 5 cl, .slice (some ⟨w, 0, none⟩) (D + 1 + 1) 1, v208, .slice (some ⟨b, 0, none⟩) k 1, i6 k, i6 t], ?_, ?_⟩
    · rintro vs h38 ⟨t, rfl, t0, rfl⟩ ev hev
      simp at hev
      have tm : t.tmod m = t % m := Int.tmod_eq_emod_of_nonneg t0
      have bt := mod_bd hm0 t
      have u3 : IntKind.i64.wrap (m - t % m) = m - t % m := wrapI (by omega) (by omega)
      have tm2 : (m - t % m).tmod m = (m - t % m) % m := Int.tmod_eq_emod_of_nonneg (by omega)
      simp only [hev, bin_rem, m0, if_false, bindO_some, tm, bin_sub, u3, tm2, rowV_int, bin_add, wrapI (n := (k : Int) + 1) (by omega) (by omega)]
      refine pushI (xs := xs) hbk hb2 hl.symm (by unfold sizeMax; omega) fun b' h' u' => ?_
      have hge := u'.ge
      have bz := mod_bd hm0 (m - t % m)
      refine hK _ _ _ (by omega) ⟨k + 1, b', _, rfl, by omega, by omega, by simp [hl], by simp, u'.he hE hb1, by omega, u'.lt, u'.bk, fun x hx => ?_⟩
      rcases List.mem_append.1 hx with hx | hx
      · exact hn x hx
      · rw [List.mem_singleton.1 hx]; exact bz
    · by_cases gk : (k : Int) = 1
      · simp only [gk, decide_true, condM_true]
        exact ⟨_, trivial, by omega, rfl⟩
      · simp only [gk, decide_false, condM_false]
        exact ⟨_, trivial, p1.1, rfl⟩
  have g' : ¬ (k : Int) ≤ D := by omega
  simp only [q_spec_l08Weierstrass_4, bin_leq, g', decide_false, condM_false, bindO_some]
  refine hK1 _ _ fun ev hev => ?_
  simp at hev
  have mk : makN (.int .i64 ((D + 1 : Nat) : Int)) = some (D + 1) := makN_nat rfl (by unfold sizeMax; omega)
  simp only [hev, bin_add, w1, bindO_some, mk, mapI_rep]
  refine newB_i fun t h39 et ent eht eT => ?_
  have q1' : indexAddrV 1 (.slice (some ⟨t, 0, none⟩) (D + 1) 1) (.int .i64 1) = some (.pointer (some ⟨t, 1, none⟩)) := ixOwn (i := 1) rfl (by omega)
  simp only [bin_sub, v1, bindO_some, q1']
  refine storeI (i := 1) eT (by simp; omega) fun h40 u40 => ?_
  have n40 := u40.nx
  have E40 : HE h37 h40 := u40.he eht (by omega)
  refine s_spec_l02Inverse (D := D) ((RI.of_block hb2 hbk).mono E40) hl.symm (by omega) (by omega) hn hm hm2 (by omega) fun v h41 ys e41 f41 hyl hyn => ?_
  obtain ⟨y, rfl, y1, y2, y3⟩ := f41
  have n41 := e41.nx
  have hsn : Nums m ((List.replicate (D + 1) (0 : Int)).set 1 (m - 1)) := nums_set (nums_rep hm0 _) (by omega)
  refine s_spec_l02Times (D := D) ((RI.of_block (by omega) u40.bk).mono e41) (RI.of_block y2 y3) (by simp) rfl hm0 (by omega) hsn hyn (by simp; omega) (by omega) (by omega) fun v h42 e42 f42 => ?_
  obtain ⟨z, rfl, z1, z2, z3⟩ := f42
  have n42 := e42.nx
  simp only [mulL_len]
  refine wAfter (RI.of_block z2 z3) (by simp) (by simp; omega) (nums_mulL hm0 _ _ _) (r208.mono ((hE.trans E40).trans (e41.trans e42))) hm hm2 (by omega) (by omega) fun v257 h43 e43 f43 => ?_
  have EF := EE.trans ((hE.trans E40).trans (e41.trans e42))
  exact hR _ _ (EF.trans e43) (f43.older EF.nx)
end XM

/- The laws that are drawn: l08DrawList, l08Any, l04With, l04Draw, l04Spoil. -/
namespace XM
open Go

theorem HX.hz {o : Nat} {h h' : Hp} (a : HX o h h') : HZ o (o + 1) h h' := ⟨a.nx, fun b hb hne => a.bk b hb (by omega)⟩
theorem FB.hx {m : Int} {N : Nat} {h h' h'' : Hp} {v : Value} {o : Nat} (f : FB m N h h' v) (a : HX o h' h'') (ho : o < h.nx) : FB m N h h'' v := by
  obtain ⟨b, rb, rfl, w⟩ := f
  have := w.keep a.hz (.inr (by omega))
  obtain ⟨Z, o1, s, h1, h2⟩ := this
  exact ⟨b, rb, rfl, Z, o1, s, o1.ltb, fun i hi => o1.ltr i (by rw [s.1]; exact hi)⟩

theorem s_spec_l08DrawList {bs : Nat} {m : Int} {h : Hp} {R : Value → Hp → Prop} (s : Src h bs) (hm : 2 ≤ m) (hm2 : m ≤ 3000000000)
    (hR : ∀ v h' xs, HX bs h h' → Src h' bs → FI y_t_int64 h h' v xs → xs.length = 5 → Nums m xs → R v h') : CallW FF n_spec_l08DrawList [.pointer (some ⟨bs, 0, none⟩), i6 m] h R := by
  refine w_spec_l08DrawList ?_
  simp only [p_spec_l08DrawList, rowV_nil, bindO_some]
  refine newB_i fun b h1 eb en eh eB => ?_
  have hlt0 := s.lt
  refine LP1 (fun d vs h' => ∃ (k b : Nat) (xs : List Int), d = 5 - k ∧ k ≤ 5 ∧ xs.length = k ∧ vs = [.pointer (some ⟨bs, 0, none⟩), i6 m, .slice (some ⟨b, 0, none⟩) k 1, i6 k] ∧ HX bs h h' ∧ Src h' bs ∧ h.nx ≤ b ∧ b < h'.nx ∧ h'.bk b = some ⟨mapI xs, y_t_int64, true⟩ ∧ Nums m xs) ?_ _ _ _
    ⟨0, b, [], rfl, by omega, rfl, rfl, eh.hx bs, s.he eh, by omega, by omega, eB, by intro x hx; cases hx⟩
  rintro d vs h2 ⟨k, b, xs, rfl, hk, hl, rfl, x2, s2, hb1, hb2, hbk, hn⟩ K K1 hK hK1
  refine wl_spec_l08DrawList_0 ?_
  by_cases hlt : k < 5
  case neg =>
    have : k = 5 := by omega
    subst this
    simp [q_spec_l08DrawList_0]
    refine hK1 _ _ fun e he => ?_
    simp at he; rw [he]
    exact hR _ _ xs x2 s2 ⟨b, by rw [hl], hb1, hb2, hbk⟩ hl hn
  have g : (k : Int) < 5 := by omega
  have w1 : IntKind.i64.wrap ((k : Int) + 1) = k + 1 := wrapI (by omega) (by omega)
  simp only [q_spec_l08DrawList_0, bin_lss, bindO_some, g, decide_true, condM_true]
  refine s_spec_l01Next s2 (by omega) fun r h3 x3 n3 s3 _ hr3 => ?_
  have b3 := hr3 (by omega)
  have r5 : rowV 1 4 [.int .i64 0] [(0, .int .i64 0), (1, .int .i64 0), (2, .int .i64 1), (3, i6 r)] = some (mapI [0, 0, 1, r]) := by simp [rowV, rowFill, reps, mapI]
  simp only [r5, bindO_some]
  refine newB_i fun b5 h5 eb5 en5 eh5 eB5 => ?_
  have l2 := s2.lt
  refine s_spec_l01Pick (xs := [0, 0, 1, r]) (s3.he eh5) (msk_new (h := h5) (by omega) (by omega) eB5) rfl (by omega) (by omega) fun r6 h6 x6 n6 s6 hm6 => ?_
  have br : 0 ≤ r6 ∧ r6 < m := by simp at hm6; omega
  simp [w1]
  have X := x3.trans ((eh5.hx bs).trans x6)
  refine pushI (xs := xs) (X.to hbk hb2 (by omega)) (by have := X.nx; omega) hl.symm (by unfold sizeMax; omega) fun b7 h7 u7 => ?_
  have n7 := u7.ge; have n7' := u7.lt; have nX := X.nx; have n2 := x2.nx
  have x7 : HX bs h h7 := ⟨by omega, fun c hc hne => by rw [u7.ot c (by omega) (by omega), X.bk c (by omega) hne, x2.bk c hc hne]⟩
  have s7 : Src h7 bs := s6.keep (by omega) fun c hc => u7.ot c (by have := s6.lt; omega) (by omega)
  refine hK _ _ _ (by omega) ⟨k + 1, b7, xs ++ [r6], rfl, by omega, by simp [hl], by simp, x7, s7, by omega, u7.lt, by simpa using u7.bk, fun x hx => ?_⟩
  rcases List.mem_append.1 hx with hx | hx
  · exact hn x hx
  · rw [List.mem_singleton.1 hx]; exact br

theorem s_spec_l08Any {bs D : Nat} {m : Int} {h : Hp} {R : Value → Hp → Prop} (s : Src h bs) (hm : 2 ≤ m) (hm2 : m ≤ 1000000000) (hD1 : 1 ≤ D) (hD : D ≤ 80000)
    (hR : ∀ v h', HX bs h h' → Src h' bs → FB m (D + 1) h h' v → R v h') : CallW FF n_spec_l08Any [.pointer (some ⟨bs, 0, none⟩), i6 m, i6 D] h R := by
  refine w_spec_l08Any ?_
  have fin : ∀ h1, HX bs h h1 → Src h1 bs → ∀ v h', HE h1 h' → FB m (D + 1) h1 h' v → R v h' := fun h1 x1 s1 v h' e f => hR v h' (x1.trans (e.hx bs)) (s1.he e) (f.older x1.nx)
  simp only [p_spec_l08Any]
  refine s_spec_l01Next s (by omega) fun r h1 x1 n1 s1 _ hr1 => ?_
  obtain ⟨r0, r1⟩ := hr1 (by omega)
  by_cases c0 : r = 0
  · simp only [bin_eql, bindO_some, c0, decide_true, condM_true]
    exact s_spec_l08Multiplicative hm (by omega) hD1 (by omega) (fin h1 x1 s1)
  simp only [bin_eql, bindO_some, c0, decide_false, condM_false]
  refine ⟨fun vs h' => h' = h1 ∧ vs = [.pointer (some ⟨bs, 0, none⟩), i6 m, i6 D, i6 r, .bool (decide (r = 1) || decide (r = 2))], ?_, ?_⟩
  · rintro vs h2 ⟨rfl, rfl⟩ e he
    simp at he
    simp only [he]
    by_cases c12 : r = 1 ∨ r = 2
    · have ht : (decide (r = 1) || decide (r = 2)) = true := by simpa using c12
      simp only [ht, condM_true]
      refine s_spec_l01Next s1 (by omega) fun c h3 x3 n3 s3 _ hr3 => ?_
      exact s_spec_l08Multiplicative hm (hr3 (by omega)) hD1 (by omega) (fin h3 (x1.trans x3) s3)
    have wei : CallW FF n_spec_l08DrawList [.pointer (some ⟨bs, 0, none⟩), i6 m] h2 fun v49 h3 => CallW FF n_spec_l08Weierstrass [i6 m, i6 D, v49] h3 fun v50 h4 => R v50 h4 := by
      refine s_spec_l08DrawList s1 hm (by omega) fun v h3 xs x3 s3 f3 hl hn => ?_
      obtain ⟨q, rfl, q1, q2, q3⟩ := f3
      exact s_spec_l08Weierstrass (RI.of_block q2 q3) hl hl hn hm hm2 hD1 hD (fin h3 (x1.trans x3) s3)
    have ht : (decide (r = 1) || decide (r = 2)) = false := by simpa using c12
    simp only [ht, condM_false, bin_eql, bindO_some]
    by_cases c3 : r = 3
    · simp only [c3, decide_true, condM_true]
      refine s_spec_l01Next s1 (by omega) fun c h3 x3 n3 s3 _ hr3 => ?_
      exact s_spec_l08Tangent hm (by omega) (hr3 (by omega)) hD1 (by omega) (fin h3 (x1.trans x3) s3)
    simp only [c3, decide_false, condM_false]
    by_cases c4 : r = 4
    · have two : ¬ (2 : Int) = 0 := by omega
      simp only [c4, decide_true, condM_true, bin_rem, two, if_false, bindO_some, bin_eql]
      by_cases c5 : m.tmod 2 = 1
      · simp only [c5, decide_true, condM_true]
        refine s_spec_l01Next s1 (by omega) fun a h3 x3 n3 s3 _ hr3 => ?_
        refine s_spec_l01Next s3 (by omega) fun b h4 x4 n4 s4 _ hr4 => ?_
        exact s_spec_l08Euler hm hm2 (hr3 (by omega)) (hr4 (by omega)) hD1 (by omega) (fin h4 (x1.trans (x3.trans x4)) s4)
      · simp only [c5, decide_false, condM_false]
        exact wei
    · simp only [c4, decide_false, condM_false]
      exact wei
  · by_cases c1 : r = 1
    · subst c1
      simp
    · simp only [c1, decide_false, condM_false]
      by_cases c2 : r = 2
      · subst c2; simp
      · simp [c1, c2]

/-- A plane with a triangle of its own. -/
def PB (m : Int) (N : Nat) (h h' : Hp) (v : Value) : Prop := ∃ b rb, v = sv m (some ⟨b, 0, none⟩) N 1 ∧ OB m N h.nx h'.nx h' b rb

theorem s_spec_l04With {bs D : Nat} {m : Int} {h : Hp} {R : Value → Hp → Prop} (s : Src h bs) (hm : 2 ≤ m) (hm2 : m ≤ 1000000000) (hD1 : 1 ≤ D) (hD : D ≤ 70000)
    (hR : ∀ v h', HX bs h h' → Src h' bs → PB m (D + 1) h h' v → R v h') : CallW FF n_spec_l04With [.pointer (some ⟨bs, 0, none⟩), i6 m, i6 D] h R := by
  refine w_spec_l04With ?_
  simp [p_spec_l04With]
  refine newB_i fun b0 h1 eb en eh eB => ?_
  have l0 := s.lt
  refine s_spec_l08Any (s.he eh) hm hm2 hD1 (by omega) fun v h2 x2 s2 f2 => ?_
  refine s_spec_l01Next s2 (by omega) fun r h3 x3 n3 s3 _ hr3 => ?_
  have f3 := f2.hx x3 (by omega)
  have n2 := x2.nx
  have X13 := x2.trans x3
  have B3 := X13.to eB (by omega) (by omega)
  have fin : ∀ h4 v, HX bs h3 h4 → Src h4 bs → FB m (D + 1) h1 h4 v → CallW FF n_spec_l03Make [i6 m, v] h4 fun v24 h6 => bindO (storeV 2 h6 v24 (.pointer (some ⟨b0, 0, none⟩))) fun h7 => bindO (ldV 2 true h7 (.pointer (some ⟨b0, 0, none⟩))) fun r6 => R r6 h7 := fun h4 v x4 s4 f4 => by
    obtain ⟨b, rb, rfl, o⟩ := f4
    refine s_spec_l03Make fun h5 e5 => ?_
    have n4 := x4.nx; have n5 := e5.nx
    refine storeBox2 (e5.to (x4.to B3 (by omega) (by omega)) (by omega)) rfl rfl rfl rfl fun h6 u6 => ?_
    have n6 := u6.nx
    have z6 : HZ b0 (b0 + 1) h5 h6 := u6.hx.hz
    simp only [box2 u6.bk, bindO_some]
    have o6 := (o.he e5).keep z6 (.inr (by omega))
    obtain ⟨Z, o1, sZ, g1, g2⟩ := o6
    have hEx : HX bs h h6 := by
      refine ⟨by omega, fun c hc hne => ?_⟩
      rw [u6.ot c (by omega), e5.bk c (by omega), x4.bk c (by omega) hne, X13.bk c (by omega) hne, eh.bk c hc]
    refine hR _ _ hEx ((s4.he e5).keep (by omega) fun c hc => u6.ot c (by omega)) ⟨b, rb, rfl, Z, o1.lower (by omega), sZ, o1.ltb, fun i hi => o1.ltr i (by rw [sZ.1]; exact hi)⟩
  simp only [bin_gtr, bindO_some]
  by_cases c1 : 0 < r
  · simp only [c1, decide_true, condM_true]
    refine s_spec_l04DrawCurve s3 hm (by omega) hD1 (by omega) fun w h4 xs x4 s4 f4 hl hn g0 g1 => ?_
    obtain ⟨q, rfl, q1, q2, q3⟩ := f4
    have n4 := x4.nx
    obtain ⟨A, Rr, T, c, rfl, rT, sT⟩ := (f3.hx x4 (by omega)).rq
    refine s_spec_l06Conjugate (N := D + 1) rT (RI.of_block q2 q3) rfl hl sT.1 hl sT.2 hm (by omega) hn (by omega) (by omega) fun v h5 e5 f5 => ?_
    exact fin h5 v (x4.trans (e5.hx bs)) (s4.he e5) ((f5.fb (Sh.afterT (by omega))).older (by omega))
  · simp only [c1, decide_false, condM_false]
    exact fin h3 v (HX.refl _ _) s3 f3

theorem s_spec_l04Draw {bs : Nat} {h : Hp} {R : Value → Hp → Prop} (s : Src h bs)
    (hR : ∀ v h' m D, HX bs h h' → Src h' bs → PB m (D + 1) h h' v → 2 ≤ m → m ≤ 10000 → 1 ≤ D → D ≤ 10 → R v h') : CallW FF n_spec_l04Draw [.pointer (some ⟨bs, 0, none⟩)] h R := by
  refine w_spec_l04Draw ?_
  simp [p_spec_l04Draw]
  refine newB_i fun b0 h1 eb en eh eB => ?_
  have l0 := s.lt
  refine s_spec_l04DrawModulus (s.he eh) fun m h2 x2 s2 m0 m1 => ?_
  refine s_spec_l01Next s2 (by omega) fun r h3 x3 n3 s3 _ hr3 => ?_
  have b3 := hr3 (by omega)
  have r5 : rowV 1 7 [.int .i64 0] [(0, .int .i64 1), (1, .int .i64 2), (2, .int .i64 3), (3, .int .i64 4), (4, .int .i64 6), (5, .int .i64 9), (6, i6 r)] = some (mapI [1, 2, 3, 4, 6, 9, r]) := by simp [rowV, rowFill, reps, mapI]
  simp only [r5, bindO_some]
  refine newB_i fun b5 h5 eb5 en5 eh5 eB5 => ?_
  have n2 := x2.nx
  refine s_spec_l01Pick (xs := [1, 2, 3, 4, 6, 9, r]) (s3.he eh5) (msk_new (h := h5) (by omega) (by omega) eB5) rfl (by omega) (by omega) fun r6 h6 x6 n6 s6 hm6 => ?_
  have br : 0 ≤ r6 ∧ r6 ≤ 9 := by simp at hm6; omega
  obtain ⟨d, rfl⟩ := Int.eq_ofNat_of_zero_le br.1
  have w1 : IntKind.i64.wrap (1 + (d : Int)) = ((d + 1 : Nat) : Int) := by rw [wrapI] <;> omega
  simp only [bin_add, w1, bindO_some]
  refine s_spec_l04With s6 m0 (by omega) (by omega) (by omega) fun v h7 x7 s7 f7 => ?_
  obtain ⟨b, rb, rfl, o⟩ := f7
  have X17 := x2.trans (x3.trans ((eh5.hx bs).trans (x6.trans x7)))
  have n7 := x7.nx
  refine storeBox2 (X17.to eB (by omega) (by omega)) rfl rfl rfl rfl fun h8 u8 => ?_
  have n8 := u8.nx
  simp only [box2 u8.bk, bindO_some]
  have o8 := o.keep u8.hx.hz (.inr (by omega))
  obtain ⟨Z, o1, sZ, g1, g2⟩ := o8
  have hEx : HX bs h h8 := ⟨by omega, fun c hc hne => by rw [u8.ot c (by omega), X17.bk c (by omega) hne, eh.bk c hc]⟩
  refine hR _ _ m (d + 1) hEx (s7.keep (by omega) fun c hc => u8.ot c (by omega)) ⟨b, rb, rfl, Z, o1.lower (by omega), sZ, o1.ltb, fun i hi => o1.ltr i (by rw [sZ.1]; exact hi)⟩ m0 m1 (by omega) (by omega)
end XM

/- The laws that are drawn: l04Spoil, DrawMultipleOf. -/
namespace XM
open Go

/-- A plane, or something near it, that is drawn. -/
def PlQ (bs : Nat) (h : Hp) (v : Value) : Prop := ∃ (m : Int) (A : Option Addr) (c : Nat) (Rr : Nat → Option Addr) (T : List (List Int)), v = sv m A T.length c ∧ RT (msk h fun x => x ≤ bs) A Rr T ∧ T.length ≤ 11 ∧ (∀ i, i < T.length → (row T i).length ≤ 11) ∧ 1 ≤ m ∧ m ≤ 10001

theorem OB.wk {m m' : Int} {N lo hi : Nat} {h : Hp} {b : Nat} {rb : Nat → Nat} (o : OB m N lo hi h b rb) (hm : m ≤ m') : OB m' N lo hi h b rb := by
  obtain ⟨Z, o, s, h1, h2⟩ := o
  exact ⟨Z, o, ⟨s.1, fun i hi => ⟨(s.2 i hi).1, fun x hx => by have := (s.2 i hi).2 x hx; omega⟩⟩, h1, h2⟩
theorem OB.pl {m mm : Int} {N lo hi bs : Nat} {h : Hp} {b : Nat} {rb : Nat → Nat} (o : OB m N lo hi h b rb) (hbs : bs < lo) (hN : N ≤ 11) (h1 : 1 ≤ mm) (h2 : mm ≤ 10001) : PlQ bs h (sv mm (some ⟨b, 0, none⟩) N 1) := by
  obtain ⟨Z, o, s, _, _⟩ := o
  refine ⟨mm, _, 1, _, Z, by rw [s.1], o.rtm (P := fun x => x ≤ bs) (fun x hx => by omega), by rw [s.1]; exact hN, fun i hi => ?_, h1, h2⟩
  rw [(s.2 i (by rw [← s.1]; exact hi)).1]; omega

theorem RT.tail {h : Hp} {b o : Nat} {Rr : Nat → Option Addr} {T : List (List Int)} (r : RT h (some ⟨b, o, none⟩) Rr T) : RT h (some ⟨b, o + 1, none⟩) (fun i => Rr (i + 1)) T.tail := by
  refine ⟨?_, fun i hi => ?_⟩
  · intro hl
    have hl' : 0 < (rowsV Rr T).length := by simp at hl ⊢; omega
    obtain ⟨b', o', x, h1, h2, h3, h4⟩ := r.top hl'
    cases h1
    refine ⟨b, o + 1, x, rfl, h2, h3, fun i v hv => ?_⟩
    have hi : i < T.tail.length := by simpa using (List.getElem?_eq_some_iff.1 hv).1
    rw [rowsV_get hi] at hv
    have hi' : i + 1 < T.length := by simp at hi; omega
    have := h4 (i + 1) _ (rowsV_get hi')
    rw [show o + 1 + i = o + (i + 1) by omega, this, ← hv]
    simp [row, List.getD_eq_getElem?_getD]
  · have hi' : i + 1 < T.length := by simp at hi; omega
    have := r.rows (i + 1) hi'
    have e : row T.tail i = row T (i + 1) := by simp [row, List.getD_eq_getElem?_getD]
    rw [e]; exact this
theorem row_tail {T : List (List Int)} {i : Nat} : row T.tail i = row T (i + 1) := by simp [row, List.getD_eq_getElem?_getD]

theorem s_spec_l04Spoil {bs : Nat} {h : Hp} {R : Value → Hp → Prop} (s : Src h bs) (hR : ∀ v h', HX bs h h' → Src h' bs → PlQ bs h' v → R v h') : CallW FF n_spec_l04Spoil [.pointer (some ⟨bs, 0, none⟩)] h R := by
  refine w_spec_l04Spoil ?_
  simp [p_spec_l04Spoil]
  refine newB_i fun b2 h1 eb en eh eB => ?_
  have l0 := s.lt
  refine s_spec_l04Draw (s.he eh) fun v h2 m D x2 s2 f2 m0 m1 hD1 hD2 => ?_
  obtain ⟨bt, rb, rfl, o2⟩ := f2
  have n2 := x2.nx
  refine newB_i fun b3 h3 eb3 en3 eh3 eB3 => ?_
  refine storeBox2 eB3 rfl rfl rfl rfl fun h4 u4 => ?_
  have n4 := u4.nx
  have o4 := (o2.he eh3).keep u4.hx.hz (by omega)
  have s4 : Src h4 bs := (s2.he eh3).keep (by omega) fun c hc => u4.ot c (by omega)
  have B2 := u4.to (eh3.to (x2.to eB (by omega) (by omega)) (by omega)) (by omega)
  have X4 : HX bs h h4 := ⟨by omega, fun c hc hne => by rw [u4.ot c (by omega), eh3.bk c (by omega), x2.bk c (by omega) hne, eh.bk c hc]⟩
  simp [box2 u4.bk]
  refine s_spec_l01Next s4 (by omega) fun i h5 x5 n5 s5 _ hr5 => ?_
  obtain ⟨i0, i1⟩ := hr5 (by omega)
  obtain ⟨i, rfl⟩ := Int.eq_ofNat_of_zero_le i0
  have B3 := x5.to u4.bk (by omega) (by omega)
  have o5 := o4.keep x5.hz (by omega)
  have r5 := o5.at 1 (e := i) (i := i) (n := D + 1) rfl rfl (by omega)
  simp only [fieldAddr_ptr, bindO_some, Nat.zero_add, box2 B3, r5]
  refine s_spec_l01Next s5 (by omega) fun t h6 x6 n6 s6 _ hr6 => ?_
  have X46 := x5.trans x6
  have B3 := x6.to B3 (by omega) (by omega)
  have B2 := X46.to B2 (by omega) (by omega)
  have o6 := o5.keep x6.hz (by omega)
  have X6 := X4.trans X46
  have fin : ∀ (hx : Hp) (mm : Int) (tv : Value) (y : TypeId), h6.nx ≤ hx.nx → HX bs h hx → Src hx bs → one tv = true → hx.bk b3 = some ⟨[i6 mm, tv], y, true⟩ → hx.bk b2 = some ⟨[.int .i64 0, .slice none 0 0], y_t_impl_Plane, true⟩ →
      (∀ h', Upd b2 (some ⟨[i6 mm, tv], y_t_impl_Plane, true⟩) hx h' → PlQ bs h' (.agg #[i6 mm, tv])) →
      bindO (ldV 2 true hx (.pointer (some ⟨b3, 0, none⟩))) fun v50 => bindO (storeV 2 hx v50 (.pointer (some ⟨b2, 0, none⟩))) fun h10 => bindO (ldV 2 true h10 (.pointer (some ⟨b2, 0, none⟩))) fun r2 => R r2 h10 := fun hx mm tv y hnx hX hS hone hb3 hb2 hP => by
    simp only [box2 hb3, bindO_some]
    refine storeBox2 hb2 rfl rfl rfl hone fun h' u => ?_
    simp only [box2 u.bk, bindO_some]
    have nu := u.nx
    refine hR _ _ ⟨by have := hX.nx; omega, fun c hc hne => by rw [u.ot c (by omega), hX.bk c hc hne]⟩ (hS.keep (by omega) fun c hc => u.ot c (by omega)) (hP _ u)
  simp only [bin_eql, bindO_some]
  by_cases c0 : t = 0
  · simp only [c0, decide_true, condM_true, len_slice, bindO_some, fieldAddr_ptr, Nat.zero_add]
    refine ⟨fun b => b < h6.nx ∧ b ≠ bs, fun b hb => hb.1, ?_⟩
    refine s_spec_l01Next s6 (by omega) fun j h7 x7 n7 s7 _ hr7 => ⟨fun b hb => x7.bk b hb.1 hb.2, ?_⟩
    obtain ⟨j0, j1⟩ := hr7 (by omega)
    obtain ⟨j, rfl⟩ := Int.eq_ofNat_of_zero_le j0
    have B37 := x7.to B3 (by omega) (by omega)
    have w1 : IntKind.i64.wrap (m + 1) = m + 1 := wrapI (by omega) (by omega)
    simp only [inP_ptr, box2 B37, bindO_some, bin_add, w1]
    refine ⟨⟨by omega, by omega⟩, ?_⟩
    refine s_spec_l01Next s7 (by omega) fun q h8 x8 n8 s8 _ hr8 => ?_
    obtain ⟨q0, q1⟩ := hr8 (by omega)
    have o8 := ((o6.keep x7.hz (by omega)).keep x8.hz (by omega)).wk (show m ≤ m + 1 by omega)
    have ix := o8.ix (i := i) (e := j) (j := j) (n := D + 1 - i) (c := 1) (by omega) rfl rfl (by omega)
    simp only [ix, bindO_some]
    refine o8.store (by omega) (by omega) ⟨q0, by omega⟩ fun h9 z9 n9 o9 => ?_
    have X8 := X6.trans (x7.trans x8)
    have X9 : HX bs h h9 := ⟨by have := X8.nx; omega, fun c hc hne => by rw [z9.bk c (by have := X8.nx; omega) (by omega), X8.bk c hc hne]⟩
    refine fin h9 m _ _ (by omega) X9 (s8.keep (by omega) fun c hc => z9.bk c (by omega) (by omega)) rfl (z9.to (x8.to B37 (by omega) (by omega)) (by omega) (by omega)) (z9.to ((x7.trans x8).to B2 (by omega) (by omega)) (by omega) (by omega)) fun h' u => ?_
    exact (o9.keep u.hx.hz (by omega)).pl (by omega) (by omega) (by omega) (by omega)
  simp only [c0, decide_false, condM_false, bin_eql, bindO_some]
  by_cases c1 : t = 1
  · have r3 : rowV 1 3 [.int .i64 0] [(0, .int .i64 1), (1, .int .i64 10001), (2, .int .i64 2)] = some (mapI [1, 10001, 2]) := by simp [rowV, rowFill, reps, mapI]
    simp only [c1, decide_true, condM_true, r3, bindO_some]
    refine newB_i fun b7 h7 eb7 en7 eh7 eB7 => ?_
    refine s_spec_l01Pick (xs := [1, 10001, 2]) (s6.he eh7) (msk_new (h := h7) (by omega) (by omega) eB7) rfl (by omega) (by omega) fun q h8 x8 n8 s8 hq => ?_
    have bq : 1 ≤ q ∧ q ≤ 10001 := by simp at hq; omega
    have X68 : HX bs h6 h8 := (eh7.hx bs).trans x8
    refine store1 (o := 0) (X68.to B3 (by omega) (by omega)) (by simp) rfl rfl rfl fun h9 u9 => ?_
    have n9 := u9.nx
    have X8 := X6.trans X68
    refine fin h9 q _ _ (by omega) ⟨by have := X8.nx; omega, fun c hc hne => by rw [u9.ot c (by omega), X8.bk c hc hne]⟩ (s8.keep (by omega) fun c hc => u9.ot c (by omega)) rfl (by simpa using u9.bk) (u9.to (X68.to B2 (by omega) (by omega)) (by omega)) fun h' u => ?_
    exact (((o6.keep X68.hz (by omega)).keep u9.hx.hz (by omega)).keep u.hx.hz (by omega)).pl (by omega) (by omega) bq.1 bq.2
  simp only [c1, decide_false, condM_false, bin_eql, bindO_some]
  by_cases c2 : t = 2
  · simp only [c2, decide_true, condM_true, fieldAddr_ptr, bindO_some, Nat.zero_add, box2 B3]
    have hs : sliceV 1 (some (.int .i64 1)) none (.slice (some ⟨bt, 0, none⟩) (D + 1) 1) = some (.slice (some ⟨bt, 0 + 1, none⟩) D 1) := by
      have h1D : (1 : Int) ≤ (D : Int) + 1 := by omega
      simp [sliceV, bnd, addOff, h1D]
    simp only [hs, bindO_some]
    refine store1 (o := 1) B3 (by simp) rfl rfl rfl fun h7 u7 => ?_
    have n7 := u7.nx
    refine fin h7 m (.slice (some ⟨bt, 0 + 1, none⟩) D 1) _ (by omega) ⟨by have := X6.nx; omega, fun c hc hne => by rw [u7.ot c (by have := X6.nx; omega), X6.bk c hc hne]⟩ (s6.keep (by omega) fun c hc => u7.ot c (by omega)) rfl (by simpa using u7.bk) (u7.to B2 (by omega)) fun h' u => ?_
    obtain ⟨Z, oZ, sZ, _, _⟩ := (o6.keep u7.hx.hz (by omega)).keep u.hx.hz (by omega)
    have rt := (oZ.rtm (P := fun x => x ≤ bs) (fun x hx => by omega)).tail
    refine ⟨m, _, 1, _, Z.tail, by simp [sZ.1], rt, by simp [sZ.1]; omega, fun i hi => ?_, by omega, by omega⟩
    have hi' : i < Z.length - 1 := by simpa using hi
    rw [row_tail, (sZ.2 (i + 1) (by have := sZ.1; omega)).1]; omega
  simp only [c2, decide_false, condM_false, bin_eql, bindO_some]
  by_cases c3 : t = 3
  · simp only [c3, decide_true, condM_true, fieldAddr_ptr, bindO_some, Nat.zero_add]
    refine store1 (o := 1) B3 (by simp) rfl rfl rfl fun h7 u7 => ?_
    have n7 := u7.nx
    refine fin h7 m (.slice none 0 0) _ (by omega) ⟨by have := X6.nx; omega, fun c hc hne => by rw [u7.ot c (by have := X6.nx; omega), X6.bk c hc hne]⟩ (s6.keep (by omega) fun c hc => u7.ot c (by omega)) rfl (by simpa using u7.bk) (u7.to B2 (by omega)) fun h' u => ?_
    exact ⟨m, none, 0, fun _ => none, [], rfl, ⟨fun hl => by simp at hl, fun i hi => by simp at hi⟩, by simp, fun i hi => by simp at hi, by omega, by omega⟩
  · simp only [c3, decide_false, condM_false]
    refine fin h6 m _ _ (by omega) X6 s6 rfl B3 B2 fun h' u => ?_
    exact (o6.keep u.hx.hz (by omega)).pl (by omega) (by omega) (by omega) (by omega)

theorem PlQ.hx {bs : Nat} {h h' : Hp} {v : Value} (p : PlQ bs h v) (x : HX bs h h') : PlQ bs h' v := by
  obtain ⟨m, A, c, Rr, T, h1, h2, h3⟩ := p
  exact ⟨m, A, c, Rr, T, h1, h2.mos (msk_to x.nx fun b hb hne => ⟨x.bk b hb (by omega), hne⟩), h3⟩
/-- A plane that is drawn, to be read. -/
def PlR (h : Hp) (v : Value) : Prop := ∃ (m : Int) (A : Option Addr) (c : Nat) (Rr : Nat → Option Addr) (T : List (List Int)), v = sv m A T.length c ∧ RT h A Rr T ∧ T.length ≤ 11 ∧ (∀ i, i < T.length → (row T i).length ≤ 11) ∧ 1 ≤ m ∧ m ≤ 10001
theorem PlQ.r {bs : Nat} {h : Hp} {v : Value} (p : PlQ bs h v) : PlR h v := by
  obtain ⟨m, A, c, Rr, T, h1, h2, h3⟩ := p
  exact ⟨m, A, c, Rr, T, h1, h2.mos (msk_hs _), h3⟩
theorem PlR.mono {h h' : Hp} {v : Value} (p : PlR h v) (e : HE h h') : PlR h' v := by
  obtain ⟨m, A, c, Rr, T, h1, h2, h3⟩ := p
  exact ⟨m, A, c, Rr, T, h1, h2.mono e, h3⟩

theorem s_spec_DrawMultipleOf {A : Option Addr} {n c : Nat} {vs : List Value} {h : Hp} {R : Value → Hp → Prop} (hr : RV h A vs) (hn : n = vs.length) (hl : n ≤ 1000000000000) (hb : Bytes vs)
    (hR : ∀ v k h', HE h h' → PlR h' v → -1000001 ≤ k → k ≤ 1000001 → R (.tuple #[v, i6 k]) h') : CallW FF n_spec_DrawMultipleOf [.slice A n c] h R := by
  refine w_spec_DrawMultipleOf ?_
  simp [p_spec_DrawMultipleOf]
  refine newB_i fun b2 h1 eb en eh eB => ?_
  refine s_spec_l01From (hr.mono eh) hn hl hb fun bs h2 e2 hbs s2 => ?_
  refine s_spec_l04Spoil s2 fun v h3 x3 s3 p3 => ?_
  have r5 : rowV 1 11 [.int .i64 0] [(0, .int .i64 0), (1, .int .i64 1), (2, .int .i64 (-1)), (3, .int .i64 2), (4, .int .i64 3), (5, .int .i64 5), (6, .int .i64 7), (7, .int .i64 12), (8, .int .i64 (-7)), (9, .int .i64 1000000), (10, .int .i64 1000001)] = some (mapI [0, 1, -1, 2, 3, 5, 7, 12, -7, 1000000, 1000001]) := by simp [rowV, rowFill, reps, mapI]
  simp only [r5, bindO_some]
  refine newB_i fun b4 h4 eb4 en4 eh4 eB4 => ?_
  have n2 := e2.nx; have n3 := x3.nx; have l2 := s2.lt
  refine s_spec_l01Pick (xs := [0, 1, -1, 2, 3, 5, 7, 12, -7, 1000000, 1000001]) (s3.he eh4) (msk_new (h := h4) (by omega) (by omega) eB4) rfl (by omega) (by omega) fun q h5 x5 n5 s5 hq => ?_
  have bq : -1000001 ≤ q ∧ q ≤ 1000001 := by simp at hq; omega
  have p5 := (p3.hx ((eh4.hx bs).trans x5))
  have X25 := x3.trans ((eh4.hx bs).trans x5)
  have E5 : HE h h5 := X25.out (eh.trans e2) (by omega)
  have E15 : HE h1 h5 := X25.out e2 (by omega)
  obtain ⟨m, A1, c1, Rr, T, rfl, h1r, h3r⟩ := p5
  refine storeBox2 (E15.to eB (by omega)) rfl rfl rfl rfl fun h6 u6 => ?_
  simp only [box2 u6.bk, bindO_some]
  have n6 := u6.nx
  refine hR _ q h6 (u6.he E5 (by omega)) ⟨m, A1, c1, Rr, T, rfl, h1r.mos ⟨by simp; omega, fun b x hb hx => ?_⟩, h3r⟩ bq.1 bq.2
  obtain ⟨g1, g2⟩ := msk_some hx
  exact u6.to g2 (by omega)
end XM

/- The curves that are drawn: l04Curves, DrawMultipleUnder. -/
namespace XM
open Go

theorem OS.hx {lo : Nat} {h h' : Hp} {b o : Nat} {L : List Ser} (t : OS lo h b L) (x : HX o h h') (ho : o < lo) : OS lo h' b L :=
  ⟨t.lob, Nat.lt_of_lt_of_le t.ltb x.nx, x.to t.top t.ltb (by have := t.lob; omega), fun i e he => (t.el i e he).mos (msk_to x.nx fun c hc hne => ⟨x.bk c hc (by omega), hne⟩)⟩

/-- The series that are drawn. -/
def SerOk (L : List Ser) : Prop := ∀ e ∈ L, e.c = 1 ∧ e.xs.length ≤ 13 ∧ 0 < e.xs.length

set_option maxHeartbeats 1000000 in
theorem s_spec_l04Curves {A : Option Addr} {n c N : Nat} {vs : List Value} {h : Hp} {R : Value → Hp → Prop} (hr : RV h A vs) (hn : n = vs.length) (hl : n ≤ 1000000000000) (hb : Bytes vs) (hN : N ≤ 100)
    (hR : ∀ v b L h', HE h h' → PlR (msk h' fun x => x < h.nx) v → OS h.nx h' b L → L.length = N → SerOk L → R (.tuple #[v, .slice (some ⟨b, 0, none⟩) N 2]) h') : CallW FF n_spec_l04Curves [.slice A n c, i6 N] h R := by
  refine w_spec_l04Curves ?_
  simp [p_spec_l04Curves]
  refine newB_i fun b4 h1 eb en eh eB => ?_
  refine s_spec_l01From (hr.mono eh) hn hl hb fun bs h2 e2 hbs s2 => ?_
  refine s_spec_l04Spoil s2 fun v h3 x3 s3 p3 => ?_
  have n2 := e2.nx; have n3 := x3.nx; have l2 := s2.lt
  have E3 : HE h h3 := x3.out (eh.trans e2) (by omega)
  have B4 := x3.to (e2.to eB (by omega)) (by omega) (by omega)
  refine newB_i fun b15 h4 eb4 en4 eh4 eB4 => ?_
  refine newB_i fun b7 h5 eb5 en5 eh5 eB5 => ?_
  obtain ⟨m, AT, cT, Rr, T, rfl, rT, hT1, hT2, hm1, hm2⟩ := p3
  refine storeBox2 eB5 rfl rfl rfl rfl fun h6 u6 => ?_
  have n6 := u6.nx
  have E36 : HE h3 h6 := u6.he (eh4.trans eh5) (by omega)
  have s6 : Src h6 bs := s3.he E36
  have O6 : OS h3.nx h6 b15 [] := ⟨by omega, by omega, u6.to (eh5.to eB4 (by omega)) (by omega), fun i e he => by simp at he⟩
  have B46 := E36.to B4 (by omega)
  have wT : ∀ i : Nat, i ≤ 11 → IntKind.i64.wrap ((i : Int) + 1) = i + 1 := fun i hi => wrapI (by omega) (by omega)
  refine LP1 (fun d vs h' => ∃ (k b : Nat) (L : List Ser), k = d ∧ k ≤ N ∧ L.length = N - k ∧ SerOk L ∧ vs = [i6 k, .pointer (some ⟨b4, 0, none⟩), .pointer (some ⟨bs, 0, none⟩), .pointer (some ⟨b7, 0, none⟩), .slice (some ⟨b, 0, none⟩) (N - k) 2] ∧ HX bs h3 h' ∧ h6.nx ≤ h'.nx ∧ h'.bk b7 = h6.bk b7 ∧ Src h' bs ∧ OS h3.nx h' b L ∧ b7 ≠ b) ?_ _ _ _
    ⟨N, b15, [], rfl, by omega, by simp, fun e he => (by cases he), by simp, E36.hx bs, by omega, rfl, s6, O6, by omega⟩
  rintro d ws hI ⟨k, bL, L, rfl, hk, hL, hok, rfl, xI, n6I, b7I, sI, OI, hne⟩ K K1 hK hK1
  refine wl_spec_l04Curves_1 ?_
  have nI := xI.nx
  have B7 := b7I.trans u6.bk
  have B4I := xI.to B4 (by omega) (by omega)
  have E3I : HE h3 h6 := E36
  have obL := OI.lob; have otL := OI.ltb
  by_cases g : 0 < k
  case neg =>
    have : k = 0 := by omega
    subst this
    simp [q_spec_l04Curves_1]
    refine hK1 _ _ fun ev hev => ?_
    simp at hev
    simp only [hev, box2 B7, bindO_some]
    refine storeBox2 B4I rfl rfl rfl rfl fun hF uF => ?_
    simp only [box2 uF.bk, bindO_some]
    have nF := uF.nx
    have HF : HE h hF := uF.he ((x3.trans xI).out (eh.trans e2) (by omega)) (by omega)
    have OF := (OI.hx uF.hx (by omega))
    have OFh : OS h.nx hF bL L := ⟨by omega, OF.ltb, OF.top, fun i e he => (OF.el i e he).mos (msk_to (Nat.le_refl _) fun c hc hne => ⟨rfl, by omega⟩)⟩
    refine hR _ bL L hF HF ⟨m, AT, cT, Rr, T, rfl, rT.mos (msk_to (by omega) fun b hb hx => ?_), hT1, hT2, hm1, hm2⟩ OFh hL hok
    refine ⟨?_, by omega⟩
    rw [uF.ot b (by omega), xI.bk b hb (by omega)]
  have g' : (0 : Int) < k := by omega
  have hb3 : (fillX [.int .i64 0, .slice none 0 0] [(0, 1, i6 m), (1, 1, .slice none 0 0)]).map (fun cs => Value.agg cs.toArray) = some (sv m none 0 0) := by simp [fillX]
  simp only [q_spec_l04Curves_1, bin_gtr, g', decide_true, condM_true, bindO_some, fieldAddr_ptr, Nat.zero_add, box2 B7, rowV_int]
  refine newB_i fun ob h7 eb7 en7 eh7 eB7' => ?_
  simp only [fill_sv, bindO_some, boxV_is]
  refine newB_i fun b9 h8 eb8 en8 eh8 eB8 => ?_
  refine storeBox2 eB8 rfl rfl rfl rfl fun h9 u9 => ?_
  have n9 := u9.nx
  have lI := sI.lt
  have XI9 : HX bs hI h9 := ⟨by omega, fun c hc hne => by rw [u9.ot c (by omega), eh8.bk c (by omega), eh7.bk c hc]⟩
  have s9 : Src h9 bs := sI.keep (by omega) fun c hc => by rw [u9.ot c (by omega), eh8.bk c (by omega), eh7.bk c (by omega)]
  have O9 := u9.to (eh8.to eB7' (by omega)) (by omega)
  have bTl : IntKind.i64.wrap ((T.length : Int)) = T.length := wrapI (by omega) (by omega)
  refine LP1 (fun d vs h' => ∃ (i ob : Nat) (y : TypeId) (xs : List Int), d = 20 - i ∧ 1 ≤ i ∧ i ≤ max 1 T.length ∧ xs.length = i ∧ vs = [i6 k, .pointer (some ⟨b4, 0, none⟩), .pointer (some ⟨bs, 0, none⟩), .pointer (some ⟨b7, 0, none⟩), .slice (some ⟨bL, 0, none⟩) (N - k) 2, .pointer (some ⟨b9, 0, none⟩), i6 i] ∧
     HX bs hI h' ∧ h9.nx ≤ h'.nx ∧ Src h' bs ∧ h'.bk b9 = some ⟨[i6 m, .slice (some ⟨ob, 0, none⟩) i 1], y, true⟩ ∧ hI.nx ≤ ob ∧ ob < h'.nx ∧ ob ≠ b9 ∧ h'.bk ob = some ⟨mapI xs, y_t_int64, true⟩) ?_ _ _ _
    ⟨1, ob, _, [0], rfl, by omega, by omega, rfl, rfl, XI9, by omega, s9, u9.bk, by omega, by omega, by omega, O9⟩
  rintro d ws hJ ⟨i, oc, y, xs, rfl, hi1, hi2, hxl, rfl, xJ, nJ, sJ, hb9, ho1, ho2, ho3, hoc⟩ K2 K3 hK2 hK3
  refine wl_spec_l04Curves_0 ?_
  have B7J := xJ.to B7 (by omega) (by omega)
  by_cases gi : i < T.length
  case pos =>
    have gi' : (i : Int) < T.length := by omega
    have mx : mxV (.int .i64 1) (i6 m) = some (i6 m) := by
      rw [mx_int]; congr 2; split <;> omega
    simp only [q_spec_l04Curves_0, fieldAddr_ptr, Nat.zero_add, bindO_some, box2 B7J, len_slice, bin_lss, gi', decide_true, condM_true]
    refine ⟨fun b => b < hJ.nx ∧ b ≠ bs, fun b hb => hb.1, ⟨by simp; omega, ?_⟩⟩
    simp only [box2 hb9, bindO_some, mx]
    refine s_spec_l01Next sJ (by omega) fun r hQ xQ nQ sQ _ hrQ => ⟨fun b hb => xQ.bk b hb.1 hb.2, ?_⟩
    simp only [rowV_int, bindO_some]
    refine pushI (xs := xs) (xQ.to hoc ho2 (by omega)) (by omega) hxl.symm (by unfold sizeMax; omega) fun oc' hS uS => ?_
    have gS := uS.ge; have tS := uS.lt
    have hb9S : hS.bk b9 = some ⟨[i6 m, .slice (some ⟨oc, 0, none⟩) i 1], y, true⟩ := by rw [uS.ot b9 (by omega) (by omega), xQ.bk b9 (by omega) (by omega)]; exact hb9
    refine store1 (o := 1) hb9S (by simp) rfl rfl rfl fun hU uU => ?_
    have nU := uU.nx
    simp only [bin_add, wT i (by omega), bindO_some]
    have FU : ∀ c, c < hJ.nx → c ≠ bs → c ≠ oc → c ≠ b9 → hU.bk c = hJ.bk c := fun c h1 h2 h3 h4 => by rw [uU.ot c h4, uS.ot c (by omega) h3, xQ.bk c h1 h2]
    refine hK2 _ _ _ (by omega) ⟨i + 1, oc', y, xs ++ [r], rfl, by omega, by omega, by simp [hxl], by simp, ⟨by have := xJ.nx; omega, fun c hc hne => ?_⟩, by omega, ?_, by simpa using uU.bk, by omega, by omega, by omega, uU.to (by simpa using uS.bk) (by omega)⟩
    · rw [FU c (by have := xJ.nx; omega) hne (by omega) (by omega), xJ.bk c hc hne]
    · exact sQ.keep (by omega) fun c hc => by rw [uU.ot c (by omega), uS.ot c (by have := sQ.lt; omega) (by omega)]
  have gi' : ¬ (i : Int) < T.length := by omega
  simp only [q_spec_l04Curves_0, fieldAddr_ptr, Nat.zero_add, bindO_some, box2 B7J, len_slice, bin_lss, gi', decide_false, condM_false]
  refine hK3 _ _ fun ev hev => ?_
  simp at hev
  simp only [hev]
  clear hK2 hK3 K2 K3 gi gi' hev
  have njI := xJ.nx
  -- the end of a round
  have fin : ∀ (hx : Hp) (m' : Int) (oc : Nat) (y : TypeId) (xs : List Int) (l : Nat), HX bs hI hx → Src hx bs → hx.bk b9 = some ⟨[i6 m', .slice (some ⟨oc, 0, none⟩) l 1], y, true⟩ → l = xs.length → l ≤ 13 → 0 < l → hI.nx ≤ oc → oc < hx.nx → hx.bk oc = some ⟨mapI xs, y_t_int64, true⟩ →
      bindO (ldV 2 true hx (.pointer (some ⟨b9, 0, none⟩))) fun v62 => bindO (rowV 2 1 [.int .i64 0, .slice none 0 0] [(0, v62)]) fun c63 => newB hx ⟨c63, y_t_impl_Series, true⟩ fun b63 h7 => bindVH (appendV y_t_impl_Series 2 h7 (.slice (some ⟨bL, 0, none⟩) (N - k) 2) (.slice (some ⟨b63, 0, none⟩) 1 2)) fun v64 h8 => bindO (binV .sub (i6 k) (.int .i64 1)) fun v19 => K [v19, .pointer (some ⟨b4, 0, none⟩), .pointer (some ⟨bs, 0, none⟩), .pointer (some ⟨b7, 0, none⟩), v64] h8 := by
    intro hx m' oc y xs l xx sx hb9 hlx hl13 hl0 ho1 ho2 hoc
    have nx := xx.nx
    simp only [box2 hb9, bindO_some, rowV_ser]
    refine pushS (e := ⟨m', some ⟨oc, 0, none⟩, 1, xs⟩) (OI.hx xx (by omega)) hL.symm hlx (by unfold sizeMax; omega) (RI.of_block (by simpa using ho2) ((msk_bk (by omega)).trans hoc)) fun bN hN ON otN nN1 nN2 => ?_
    have wk : IntKind.i64.wrap ((k : Int) - 1) = ((k - 1 : Nat) : Int) := by rw [wrapI] <;> omega
    simp only [bin_sub, wk, bindO_some]
    refine hK _ _ _ (show k - 1 < k by omega) ⟨k - 1, bN, L ++ [⟨m', some ⟨oc, 0, none⟩, 1, xs⟩], rfl, by omega, by simp [hL]; omega, ?_, by rw [show N - k + 1 = N - (k - 1) by omega], ⟨by omega, fun c hc hne => ?_⟩, by omega, ?_, sx.keep (by omega) fun c hc => otN c (by omega) (by omega), ON, by omega⟩
    · intro e he
      rcases List.mem_append.1 he with he | he
      · exact hok e he
      · rw [List.mem_singleton.1 he]; exact ⟨rfl, (by show xs.length ≤ 13; omega), (by show 0 < xs.length; omega)⟩
    · rw [otN c (by omega) (by omega), xx.bk c (by omega) hne, xI.bk c hc hne]
    · rw [otN b7 (by omega) (by omega), xx.bk b7 (by omega) (by omega)]; exact b7I
  refine s_spec_l01Next sJ (by omega) fun r hQ xQ nQ sQ _ hrQ => ?_
  have xJQ := xJ.trans xQ
  have hb9Q := xQ.to hb9 (by omega) (by omega)
  have hocQ := xQ.to hoc ho2 (by omega)
  simp only [bin_eql, bindO_some]
  by_cases c0 : r = 0
  · have q0 : indexAddrV 1 (.slice (some ⟨oc, 0, none⟩) i 1) (.int .i64 0) = some (.pointer (some ⟨oc, 0, none⟩)) := ixOwn (i := 0) rfl (by omega)
    simp only [c0, decide_true, condM_true, fieldAddr_ptr, Nat.zero_add, bindO_some, box2 hb9Q, q0]
    refine storeI (i := 0) hocQ (by omega) fun hU uU => ?_
    have nU := uU.nx
    exact fin hU m oc y _ i ⟨by omega, fun c hc hne => by rw [uU.ot c (by omega), xJQ.bk c hc hne]⟩ (sQ.keep (by omega) fun c hc => uU.ot c (by omega)) (uU.to hb9Q (by omega)) (by simp [hxl]) (by omega) (by omega) ho1 (by omega) uU.bk
  simp only [c0, decide_false, condM_false, bin_eql, bindO_some]
  by_cases c1 : r = 1
  · simp only [c1, decide_true, condM_true, fieldAddr_ptr, Nat.zero_add, bindO_some, box2 hb9Q, bin_add, wrapI (n := m + 1) (by omega) (by omega)]
    refine store1 (o := 0) hb9Q (by simp) rfl rfl rfl fun hU uU => ?_
    have nU := uU.nx
    exact fin hU (m + 1) oc y _ i ⟨by omega, fun c hc hne => by rw [uU.ot c (by omega), xJQ.bk c hc hne]⟩ (sQ.keep (by omega) fun c hc => uU.ot c (by omega)) (by simpa using uU.bk) hxl.symm (by omega) (by omega) ho1 (by omega) (uU.to hocQ (by omega))
  simp only [c1, decide_false, condM_false, bin_eql, bindO_some]
  by_cases c2 : r = 2
  · simp only [c2, decide_true, condM_true, fieldAddr_ptr, Nat.zero_add, bindO_some, box2 hb9Q, rowV_int]
    refine pushI (xs := xs) hocQ (by omega) hxl.symm (by unfold sizeMax; omega) fun oc' hS uS => ?_
    have gS := uS.ge; have tS := uS.lt
    refine store1 (o := 1) (x := ⟨_, y, true⟩) (by rw [uS.ot b9 (by omega) (by omega)]; exact hb9Q) (by simp) rfl rfl rfl fun hU uU => ?_
    have nU := uU.nx
    refine fin hU m oc' y (xs ++ [0]) (i + 1) ⟨by omega, fun c hc hne => by rw [uU.ot c (by omega), uS.ot c (by omega) (by omega), xJQ.bk c hc hne]⟩ (sQ.keep (by omega) fun c hc => by rw [uU.ot c (by omega), uS.ot c (by have := sQ.lt; omega) (by omega)]) (by simpa using uU.bk) (by simp [hxl]) (by omega) (by omega) (by omega) (by omega) (uU.to (by simpa using uS.bk) (by omega))
  · simp only [c2, decide_false, condM_false]
    exact fin hQ m oc y xs i xJQ sQ hb9Q hxl.symm (by omega) (by omega) ho1 (by omega) hocQ

theorem s_spec_DrawMultipleUnder {A : Option Addr} {n c : Nat} {vs : List Value} {h : Hp} {R : Value → Hp → Prop} (hr : RV h A vs) (hn : n = vs.length) (hl : n ≤ 1000000000000) (hb : Bytes vs)
    (hR : ∀ v k m' B xs h', HE h h' → PlR h' v → -1000001 ≤ k → k ≤ 1000001 → RI h' B xs → xs.length ≤ 13 → R (.tuple #[v, i6 k, sv m' B xs.length 1]) h') : CallW FF n_spec_DrawMultipleUnder [.slice A n c] h R := by
  refine w_spec_DrawMultipleUnder ?_
  simp [p_spec_DrawMultipleUnder]
  refine newB_i fun b2 h1 eb en eh eB => ?_
  refine newB_i fun b4 h2 eb2 en2 eh2 eB2 => ?_
  have E2 := eh.trans eh2
  refine s_spec_l01From (hr.mono E2) hn hl hb fun bs h3 e3 hbs s3 => ?_
  have E3 := E2.trans e3
  refine s_spec_l04Curves (N := 1) (hr.mono E3) hn hl hb (by omega) fun v bL L h4 e4 p4 O4 hL hok => ?_
  obtain ⟨m, AT, cT, Rr, T, rfl, rT, hT1, hT2, hm1, hm2⟩ := p4
  have n3 := e3.nx; have n4 := e4.nx; have l3 := s3.lt
  have ex : extractV 0 (.tuple #[sv m AT T.length cT, .slice (some ⟨bL, 0, none⟩) 1 2]) = some (sv m AT T.length cT) ∧ extractV 1 (.tuple #[sv m AT T.length cT, .slice (some ⟨bL, 0, none⟩) 1 2]) = some (.slice (some ⟨bL, 0, none⟩) 1 2) := ⟨rfl, rfl⟩
  simp only [ex, bindO_some]
  refine newB_i fun b6 h5 eb5 en5 eh5 eB5 => ?_
  refine storeBox2 eB5 rfl rfl rfl rfl fun h6 u6 => ?_
  have n6 := u6.nx
  have obL := O4.lob; have otL := O4.ltb
  have s6 : Src h6 bs := ((s3.he e4).he eh5).keep (by omega) fun c hc => u6.ot c (by omega)
  have E46 : HE h4 h6 := u6.he eh5 (by omega)
  have O6 := O4.mono E46
  refine ⟨fun b => b = b6 ∨ b = bL, fun b hb => by omega, ⟨.inl rfl, ?_⟩⟩
  have r5 : rowV 1 10 [.int .i64 0] [(0, .int .i64 0), (1, .int .i64 1), (2, .int .i64 (-1)), (3, .int .i64 2), (4, .int .i64 3), (5, .int .i64 5), (6, .int .i64 12), (7, .int .i64 (-7)), (8, .int .i64 1000000), (9, .int .i64 (-1000001))] = some (mapI [0, 1, -1, 2, 3, 5, 12, -7, 1000000, -1000001]) := by simp [rowV, rowFill, reps, mapI]
  simp only [box2 u6.bk, bindO_some, r5]
  refine newB_i fun b7 h7 eb7 en7 eh7 eB7 => ?_
  refine s_spec_l01Pick (xs := [0, 1, -1, 2, 3, 5, 12, -7, 1000000, -1000001]) (s6.he eh7) (msk_new (h := h7) (by omega) (by omega) eB7) rfl (by omega) (by omega) fun q h8 x8 n8 s8 hq => ⟨fun b hb => x8.bk b (by omega) (by omega), ?_⟩
  have bq : -1000001 ≤ q ∧ q ≤ 1000001 := by simp at hq; omega
  have X68 : HX bs h6 h8 := (eh7.hx bs).trans x8
  have O8 := O6.hx X68 (by omega)
  obtain ⟨e, he⟩ : ∃ e, L[0]? = some e := ⟨_, List.getElem?_eq_getElem (by omega)⟩
  obtain ⟨ec, el13, _⟩ := hok e (List.mem_of_getElem? he)
  have rd := O8.rs.at 2 (e := 0) (i := 0) (n := 1) rfl hL.symm he
  rw [ec] at rd
  have inb : inP (fun b => b = b6 ∨ b = bL) (elp2 (some ⟨bL, 0, none⟩) 0 0) := .inr rfl
  have B2 := X68.to (E46.to (e4.to (e3.to (eh2.to eB (by omega)) (by omega)) (by omega)) (by omega)) (by omega) (by omega)
  have B4 := X68.to (E46.to (e4.to (e3.to eB2 (by omega)) (by omega)) (by omega)) (by omega) (by omega)
  simp only [rd, bindO_some, inb, true_and]
  refine storeBox2 B2 rfl rfl rfl rfl fun h9 u9 => ⟨fun b hb => u9.ot b (by omega), ?_⟩
  have n9 := u9.nx
  refine storeBox2 (u9.to B4 (by omega)) rfl rfl rfl rfl fun h10 u10 => ?_
  have n10 := u10.nx
  simp only [box2 u10.bk, box2 (u10.to u9.bk (by omega)), bindO_some]
  have hE : HE h h10 := u10.he (u9.he (X68.out (E3.trans (e4.trans E46)) (by omega)) (by omega)) (by omega)
  have F : ∀ c, h3.nx ≤ c → c < h4.nx → h10.bk c = h4.bk c := fun c h1 h2 => by rw [u10.ot c (by omega), u9.ot c (by omega), X68.bk c (by omega) (by omega), E46.bk c h2]
  refine hR _ q e.m e.A e.xs h10 hE ⟨m, AT, cT, Rr, T, rfl, rT.mos ⟨by simp; omega, fun b x hb hx => ?_⟩, hT1, hT2, hm1, hm2⟩ bq.1 bq.2 ((O4.el 0 e he).mos ⟨by simp; omega, fun b x hb hx => ?_⟩) el13
  · obtain ⟨g1, g2⟩ := msk_some hx
    exact (F b (by omega) (by simpa using hb)).trans g2
  · obtain ⟨g1, g2⟩ := msk_some hx
    exact (F b (by omega) (by simpa using hb)).trans g2
end XM

/- Series as functions: products, powers, substitution into a table. -/
namespace XM

theorem sm_ext {n : Nat} {f g : Nat → Int} (h : ∀ i, f i = g i) : sm n f = sm n g := sm_congr fun i _ => h i
theorem sm_rev (n : Nat) (F : Nat → Int) : sm (n + 1) F = sm (n + 1) fun i => F (n - i) := by
  induction n generalizing F with
  | zero => rfl
  | succ n ih =>
    rw [sm_first (n + 1) F, sm_succ (n + 1), ih fun i => F (i + 1)]
    have : (sm (n + 1) fun i => F (n - i + 1)) = sm (n + 1) fun i => F (n + 1 - i) := sm_congr fun i hi => by rw [show n - i + 1 = n + 1 - i by omega]
    rw [this, show n + 1 - (n + 1) = 0 by omega]; omega
/-- Both ways to go over a triangle. -/
theorem sm_tri (n : Nat) (F : Nat → Nat → Int) : (sm n fun i => sm (i + 1) fun j => F i j) = sm n fun j => sm (n - j) fun k => F (j + k) j := by
  induction n with
  | zero => rfl
  | succ n ih =>
    rw [sm_succ, ih, sm_succ n (fun j => sm (n + 1 - j) fun k => F (j + k) j)]
    have e : (sm n fun j => sm (n + 1 - j) fun k => F (j + k) j) = (sm n fun j => sm (n - j) fun k => F (j + k) j) + sm n fun j => F n j := by
      rw [← sm_add]
      refine sm_congr fun j hj => ?_
      rw [show n + 1 - j = (n - j) + 1 by omega, sm_succ, show j + (n - j) = n by omega]
    rw [e, show n + 1 - n = 1 by omega, sm_succ n (fun j => F n j)]
    simp [sm]; omega
theorem sm_shift {N i : Nat} (hi : i ≤ N) (F : Nat → Int) (h : ∀ x, x < i → F x = 0) : sm N F = sm (N - i) fun k => F (i + k) := by
  obtain ⟨d, rfl⟩ : ∃ d, N = i + d := ⟨N - i, by omega⟩
  rw [show i + d - i = d by omega]
  induction d with
  | zero => exact sm_zero h
  | succ d ih => rw [show i + (d + 1) = (i + d) + 1 by omega, sm_succ, sm_succ, ih (by omega)]
theorem tri_swap (N : Nat) (F : Nat → Nat → Int) : tri N F = tri N fun i j => F j i := by
  have e1 : ∀ G : Nat → Nat → Int, tri N G = sm N fun x => sm N fun y => if x + y < N then G x y else 0 := fun G => by
    unfold tri
    refine sm_congr fun x hx => ?_
    rw [sm_more (show N - x ≤ N by omega) fun y h1 h2 => by rw [if_neg (by omega)]]
    exact sm_congr fun y hy => by rw [if_pos (by omega)]
  rw [e1, e1, sm_swap]
  exact sm_congr fun x _ => sm_congr fun y _ => by rw [Nat.add_comm]
theorem tri_full {N : Nat} {G : Nat → Nat → Int} (h : ∀ x y, x < N → y < N → N ≤ x + y → G x y = 0) : tri N G = sm N fun x => sm N fun y => G x y := by
  unfold tri
  refine sm_congr fun x hx => ?_
  exact (sm_more (by omega) fun y h1 h2 => h x y hx h2 (by omega)).symm

/-- The product of series. -/
def mp (f g : Nat → Int) (n : Nat) : Int := sm (n + 1) fun i => f i * g (n - i)
def one0 (n : Nat) : Int := if n = 0 then 1 else 0
def pw (f : Nat → Int) : Nat → Nat → Int
  | 0 => one0
  | k + 1 => mp (pw f k) f
theorem mp_comm (f g : Nat → Int) : mp f g = mp g f := by
  funext n
  unfold mp
  rw [sm_rev]
  exact sm_congr fun i hi => by rw [show n - (n - i) = i by omega, Int.mul_comm]
theorem mp_assoc (f g h : Nat → Int) : mp (mp f g) h = mp f (mp g h) := by
  funext n
  unfold mp
  have e1 : (sm (n + 1) fun i => (sm (i + 1) fun j => f j * g (i - j)) * h (n - i)) = sm (n + 1) fun i => sm (i + 1) fun j => f j * g (i - j) * h (n - i) := sm_ext fun i => (sm_mul_r _ _ _).symm
  rw [e1, sm_tri]
  refine sm_congr fun j hj => ?_
  rw [← sm_mul, show n + 1 - j = n - j + 1 by omega]
  refine sm_congr fun k hk => ?_
  rw [show j + k - j = k by omega, show n - (j + k) = n - j - k by omega, Int.mul_assoc]
theorem mp_one (f : Nat → Int) : mp f one0 = f := by
  funext n
  unfold mp
  rw [sm_succ, sm_zero (fun i hi => by rw [one0, if_neg (by omega), Int.mul_zero])]
  simp [one0]
theorem one_mp (f : Nat → Int) : mp one0 f = f := by rw [mp_comm, mp_one]
theorem mp_sum (k : Nat) (c : Nat → Int) (F : Nat → Nat → Int) (g : Nat → Int) (n : Nat) : mp (fun n => sm k fun l => c l * F l n) g n = sm k fun l => c l * mp (F l) g n := by
  unfold mp
  have e1 : (sm (n + 1) fun i => (sm k fun l => c l * F l i) * g (n - i)) = sm (n + 1) fun i => sm k fun l => c l * (F l i * g (n - i)) := sm_ext fun i => by
    rw [← sm_mul_r]; exact sm_ext fun l => Int.mul_assoc _ _ _
  rw [e1, sm_swap]
  exact sm_ext fun l => sm_mul _ _ _
theorem mp_tri (N : Nat) (c : Nat → Nat → Int) (F : Nat → Nat → Nat → Int) (g : Nat → Int) (n : Nat) : mp (fun n => tri N fun i j => c i j * F i j n) g n = tri N fun i j => c i j * mp (F i j) g n := by
  unfold tri
  have := mp_sum N (fun _ => 1) (fun i n => sm (N - i) fun j => c i j * F i j n) g n
  simp only [Int.one_mul] at this
  rw [this]
  exact sm_ext fun i => mp_sum _ _ _ _ _
theorem mp_low {f g : Nat → Int} {i j n : Nat} (hf : ∀ k, k < i → f k = 0) (hg : ∀ k, k < j → g k = 0) (hn : n < i + j) : mp f g n = 0 := by
  unfold mp
  refine sm_zero fun k hk => ?_
  by_cases h : k < i
  · rw [hf k h, Int.zero_mul]
  · rw [hg (n - k) (by omega), Int.mul_zero]
theorem pw_low {f : Nat → Int} (h0 : f 0 = 0) : ∀ {k n : Nat}, n < k → pw f k n = 0 := by
  intro k
  induction k with
  | zero => intro n h; omega
  | succ k ih =>
    intro n h
    exact mp_low (i := k) (j := 1) (fun l hl => ih hl) (fun l hl => by rw [show l = 0 by omega]; exact h0) h
theorem pw_add (f : Nat → Int) (i j : Nat) : mp (pw f i) (pw f j) = pw f (i + j) := by
  induction j with
  | zero => exact mp_one _
  | succ j ih => show mp (pw f i) (mp (pw f j) f) = mp (pw f (i + j)) f; rw [← mp_assoc, ih]
theorem pw_1 (f : Nat → Int) : pw f 1 = f := one_mp f

/-- A monomial in two series. -/
def mon (f g : Nat → Int) (i j : Nat) : Nat → Int := mp (pw f i) (pw g j)
theorem mon_low {f g : Nat → Int} (hf : f 0 = 0) (hg : g 0 = 0) {i j n : Nat} (h : n < i + j) : mon f g i j n = 0 := mp_low (fun _ hk => pw_low hf hk) (fun _ hk => pw_low hg hk) h
theorem mon_mul (f g : Nat → Int) (i j k l : Nat) : mp (mon f g i j) (mon f g k l) = mon f g (i + k) (j + l) := by
  unfold mon
  rw [mp_assoc, ← mp_assoc (pw g j), mp_comm (pw g j), mp_assoc (pw f k), ← mp_assoc (pw f i), pw_add, pw_add]

/-- A table in which series are substituted. -/
def ev (N : Nat) (T : Nat → Nat → Int) (f g : Nat → Int) (n : Nat) : Int := tri N fun i j => T i j * mon f g i j n
def wf (T : Nat → Nat → Int) (i j x y : Nat) : Int := if i ≤ x ∧ j ≤ y then T (x - i) (y - j) else 0
theorem wf_neg {T : Nat → Nat → Int} {i j x y : Nat} (h : ¬ (i ≤ x ∧ j ≤ y)) : wf T i j x y = 0 := if_neg h
theorem wf_pos (T : Nat → Nat → Int) (i j k l : Nat) : wf T i j (i + k) (j + l) = T k l := by
  unfold wf; rw [if_pos (by omega), show i + k - i = k by omega, show j + l - j = l by omega]
/-- The product of tables. -/
def pT (N : Nat) (S T : Nat → Nat → Int) (x y : Nat) : Int := tri N fun i j => S i j * wf T i j x y
theorem gt2_mulT' {m : Int} {N x y : Nat} {a b : List (List Int)} (h : x + y < N) : gt2 (mulT m N a b) x y = pT N (gt2 a) (gt2 b) x y % m := by
  rw [gt2_mulT h, tE3_tri]; rfl

theorem tri_swap4 (N : Nat) (F : Nat → Nat → Nat → Nat → Int) : (tri N fun x y => tri N fun i j => F x y i j) = tri N fun i j => tri N fun x y => F x y i j := by
  unfold tri
  have h1 : (sm N fun x => sm (N - x) fun y => sm N fun i => sm (N - i) fun j => F x y i j) = sm N fun x => sm N fun i => sm (N - x) fun y => sm (N - i) fun j => F x y i j := sm_ext fun x => sm_swap _ _ _
  rw [h1, sm_swap]
  refine sm_ext fun i => ?_
  have h2 : (sm N fun x => sm (N - x) fun y => sm (N - i) fun j => F x y i j) = sm N fun x => sm (N - i) fun j => sm (N - x) fun y => F x y i j := sm_ext fun x => sm_swap _ _ _
  rw [h2, sm_swap]

theorem ev_shift {N : Nat} {T : Nat → Nat → Int} {f g : Nat → Int} (hf : f 0 = 0) (hg : g 0 = 0) {i j n : Nat} (hij : i + j < N) (hn : n < N) :
    (tri N fun x y => wf T i j x y * mon f g x y n) = tri N fun k l => T k l * mon f g (i + k) (j + l) n := by
  unfold tri
  rw [sm_shift (i := i) (by omega) _ fun x hx => sm_zero fun y _ => by dsimp only; rw [wf_neg (by omega), Int.zero_mul]]
  have e1 : (sm N fun k => sm (N - k) fun l => T k l * mon f g (i + k) (j + l) n) = sm (N - i) fun k => sm (N - k) fun l => T k l * mon f g (i + k) (j + l) n :=
    sm_more (by omega) fun k h1 h2 => sm_zero fun l _ => by rw [mon_low hf hg (by omega), Int.mul_zero]
  rw [e1]
  refine sm_congr fun k hk => ?_
  by_cases hj : j ≤ N - (i + k)
  · rw [sm_shift hj _ fun y hy => by dsimp only; rw [wf_neg (by omega), Int.zero_mul]]
    rw [sm_more (show N - (i + k) - j ≤ N - k by omega) fun l h1 h2 => by rw [mon_low hf hg (by omega), Int.mul_zero]]
    exact sm_congr fun l hl => by dsimp only; rw [wf_pos]
  · rw [sm_zero fun y hy => by dsimp only; rw [wf_neg (by omega), Int.zero_mul]]
    exact (sm_zero fun l hl => by rw [mon_low hf hg (by omega), Int.mul_zero]).symm

theorem ev_mul {N : Nat} {S T : Nat → Nat → Int} {f g : Nat → Int} (hf : f 0 = 0) (hg : g 0 = 0) {n : Nat} (hn : n < N) : ev N (pT N S T) f g n = mp (ev N S f g) (ev N T f g) n := by
  have e1 : ev N (pT N S T) f g n = tri N fun x y => tri N fun i j => S i j * (wf T i j x y * mon f g x y n) := by
    unfold ev pT
    refine tri_congr fun x y _ => ?_
    unfold tri
    rw [← sm_mul_r]
    refine sm_ext fun i => ?_
    rw [← sm_mul_r]
    exact sm_ext fun j => Int.mul_assoc _ _ _
  rw [e1, tri_swap4]
  have e2 : mp (ev N S f g) (ev N T f g) n = tri N fun i j => S i j * mp (mon f g i j) (ev N T f g) n := mp_tri N S (mon f g) (ev N T f g) n
  rw [e2]
  refine tri_congr fun i j hij => ?_
  rw [tri_mul, ev_shift hf hg hij hn]
  congr 1
  rw [mp_comm]
  have e3 : mp (ev N T f g) (mon f g i j) n = tri N fun k l => T k l * mp (mon f g k l) (mon f g i j) n := mp_tri N T (mon f g) (mon f g i j) n
  rw [e3]
  exact tri_congr fun k l _ => by rw [mon_mul, Nat.add_comm i, Nat.add_comm j]

/-- Equal up to a degree, modulo m. -/
def EqD (m : Int) (D : Nat) (f g : Nat → Int) : Prop := ∀ n, n ≤ D → f n % m = g n % m
section
variable {m : Int} {D : Nat}
theorem EqD.refl (f : Nat → Int) : EqD m D f f := fun _ _ => rfl
theorem EqD.symm {f g : Nat → Int} (h : EqD m D f g) : EqD m D g f := fun n hn => (h n hn).symm
theorem EqD.trans {f g k : Nat → Int} (h : EqD m D f g) (h2 : EqD m D g k) : EqD m D f k := fun n hn => (h n hn).trans (h2 n hn)
theorem EqD.mp {f f' g g' : Nat → Int} (h : EqD m D f f') (h2 : EqD m D g g') : EqD m D (mp f g) (mp f' g') := fun n hn => by
  unfold XM.mp
  exact sm_emod fun i hi => mul_emod_congr (h i (by omega)) (h2 (n - i) (by omega))
theorem EqD.pw {f f' : Nat → Int} (h : EqD m D f f') (k : Nat) : EqD m D (pw f k) (pw f' k) := by
  induction k with
  | zero => exact EqD.refl _
  | succ k ih => exact EqD.mp ih h
theorem EqD.mon {f f' g g' : Nat → Int} (h : EqD m D f f') (h2 : EqD m D g g') (i j : Nat) : EqD m D (mon f g i j) (mon f' g' i j) := EqD.mp (h.pw i) (h2.pw j)
theorem EqD.ev {N : Nat} {S T : Nat → Nat → Int} {f f' g g' : Nat → Int} (hT : ∀ i j, i + j < N → S i j % m = T i j % m) (h : EqD m D f f') (h2 : EqD m D g g') : EqD m D (ev N S f g) (ev N T f' g') := fun n hn =>
  tri_emod fun i j hij => mul_emod_congr (hT i j hij) (h.mon h2 i j n hn)
end

theorem ev_num {N : Nat} (hN : 1 ≤ N) {T : Nat → Nat → Int} (hT : ∀ i j, i + j < N → T i j = if i = 0 ∧ j = 0 then 1 else 0) (f g : Nat → Int) : ev N T f g = one0 := by
  funext n
  unfold ev
  have e : (tri N fun i j => T i j * mon f g i j n) = tri N fun i j => (if i = 0 ∧ j = 0 then 1 else 0) * mon f g i j n := tri_congr fun i j h => by rw [hT i j h]
  rw [e]
  unfold tri
  obtain ⟨K, rfl⟩ : ∃ K, N = K + 1 := ⟨N - 1, by omega⟩
  rw [sm_first, sm_zero (n := K) fun i _ => sm_zero fun j _ => by dsimp only; rw [if_neg (by omega), Int.zero_mul], Int.add_zero, show K + 1 - 0 = K + 1 by omega, sm_first, sm_zero (n := K) fun j _ => by dsimp only; rw [if_neg (by omega), Int.zero_mul]]
  simp [mon, pw, mp_one]

/-- Powers of a table are powers of what it comes to. -/
theorem ev_powP {m : Int} (hm : 2 ≤ m) {D : Nat} {T : List (List Int)} {f g : Nat → Int} (hf : f 0 = 0) (hg : g 0 = 0) (i : Nat) : EqD m D (ev (D + 1) (gt2 (powP m (D + 1) T i)) f g) (pw (ev (D + 1) (gt2 T) f g) i) := by
  induction i with
  | zero =>
    rw [ev_num (by omega) (fun i j h => ?_)]
    · exact EqD.refl _
    · rw [powP, gt2_numT (by omega), Int.emod_eq_of_lt (by omega) (by omega)]
  | succ i ih =>
    refine EqD.trans (g := ev (D + 1) (pT (D + 1) (gt2 (powP m (D + 1) T i)) (gt2 T)) f g) (EqD.ev (fun i j h => ?_) (EqD.refl _) (EqD.refl _)) ?_
    · rw [powP, gt2_mulT' h, Int.emod_emod]
    · refine EqD.trans (fun n hn => by rw [ev_mul hf hg (by omega)]) (EqD.mp ih (EqD.refl _))
end XM

/- A law is a commutative group of curves: in plain Lean. -/
namespace XM

/-- The terms of a product of three series. -/
def mon3 (a b c : Nat → Int) (x y z : Nat) : Nat → Int := mp (mon a b x y) (pw c z)
theorem mon3_r (a b c : Nat → Int) (x y z : Nat) : mp (pw a x) (mon b c y z) = mon3 a b c x y z := by unfold mon3 mon; rw [mp_assoc]
theorem mon3_low {a b c : Nat → Int} (ha : a 0 = 0) (hb : b 0 = 0) (hc : c 0 = 0) {x y z n : Nat} (h : n < x + y + z) : mon3 a b c x y z n = 0 :=
  mp_low (i := x + y) (j := z) (fun _ hk => mon_low ha hb hk) (fun _ hk => pw_low hc hk) h

section
variable {m : Int} {D : Nat} {T : List (List Int)}
theorem mp_tri' (N : Nat) (c : Nat → Nat → Int) (F : Nat → Nat → Nat → Int) (g : Nat → Int) (n : Nat) : mp g (fun n => tri N fun i j => c i j * F i j n) n = tri N fun i j => c i j * mp g (F i j) n := by
  rw [mp_comm, mp_tri]
  exact tri_congr fun i j _ => by rw [mp_comm]

theorem ev_zero {N : Nat} {S : Nat → Nat → Int} {f g : Nat → Int} (hf : f 0 = 0) (hg : g 0 = 0) (h00 : S 0 0 = 0) (hN : 1 ≤ N) : ev N S f g 0 = 0 := by
  unfold ev tri
  refine sm_zero fun i hi => sm_zero fun j hj => ?_
  dsimp only
  by_cases h : 0 < i + j
  · rw [mon_low hf hg h, Int.mul_zero]
  · rw [show i = 0 by omega, show j = 0 by omega, h00, Int.zero_mul]

/-- The sum over all triples with small sums. -/
def tri3 (N : Nat) (F : Nat → Nat → Nat → Int) : Int := sm N fun x => sm N fun y => sm N fun z => if x + y + z < N then F x y z else 0

theorem assocL {m : Int} {D : Nat} {T : List (List Int)} (hm : 2 ≤ m) {a b c : Nat → Int} (ha : a 0 = 0) (hb : b 0 = 0) (hc : c 0 = 0) (h00 : gt2 T 0 0 = 0) :
    EqD m D (ev (D + 1) (gt2 T) (ev (D + 1) (gt2 T) a b) c) fun n => tri3 (D + 1) fun x y z => (sm (D + 1 - z) fun i => gt2 T i z * gt2 (powP m (D + 1) T i) x y) * mon3 a b c x y z n := by
  have hA : ev (D + 1) (gt2 T) a b 0 = 0 := ev_zero ha hb h00 (by omega)
  intro n hn
  -- the powers of F(a, b)
  have e1 : ev (D + 1) (gt2 T) (ev (D + 1) (gt2 T) a b) c n % m = (tri (D + 1) fun i k => gt2 T i k * mp (ev (D + 1) (gt2 (powP m (D + 1) T i)) a b) (pw c k) n) % m :=
    tri_emod fun i k h => mul_emod_congr rfl (EqD.mp (ev_powP hm ha hb i).symm (EqD.refl _) n hn)
  rw [e1]
  have e2 : ∀ i k, mp (ev (D + 1) (gt2 (powP m (D + 1) T i)) a b) (pw c k) n = tri (D + 1) fun x y => gt2 (powP m (D + 1) T i) x y * mon3 a b c x y k n := fun i k => mp_tri (D + 1) (gt2 (powP m (D + 1) T i)) (mon a b) (pw c k) n
  have e3 : (tri (D + 1) fun i k => gt2 T i k * mp (ev (D + 1) (gt2 (powP m (D + 1) T i)) a b) (pw c k) n) = sm (D + 1) fun k => sm (D + 1 - k) fun i => gt2 T i k * tri (D + 1) fun x y => gt2 (powP m (D + 1) T i) x y * mon3 a b c x y k n :=
    (tri_swap _ _).trans (sm_ext fun k => sm_ext fun i => congrArg (gt2 T i k * ·) (e2 i k))
  rw [e3]
  congr 1
  -- sort by x y z
  unfold tri3
  dsimp only
  have e4 : (sm (D + 1) fun x => sm (D + 1) fun y => sm (D + 1) fun z => if x + y + z < D + 1 then (sm (D + 1 - z) fun i => gt2 T i z * gt2 (powP m (D + 1) T i) x y) * mon3 a b c x y z n else 0) =
      sm (D + 1) fun z => sm (D + 1) fun x => sm (D + 1) fun y => if x + y + z < D + 1 then (sm (D + 1 - z) fun i => gt2 T i z * gt2 (powP m (D + 1) T i) x y) * mon3 a b c x y z n else 0 := by
    have : ∀ x, (sm (D + 1) fun y => sm (D + 1) fun z => if x + y + z < D + 1 then (sm (D + 1 - z) fun i => gt2 T i z * gt2 (powP m (D + 1) T i) x y) * mon3 a b c x y z n else 0) = sm (D + 1) fun z => sm (D + 1) fun y => if x + y + z < D + 1 then (sm (D + 1 - z) fun i => gt2 T i z * gt2 (powP m (D + 1) T i) x y) * mon3 a b c x y z n else 0 := fun x => sm_swap _ _ _
    rw [sm_ext this, sm_swap]
  rw [e4]
  refine sm_congr fun k hk => ?_
  have e5 : ∀ i, gt2 T i k * (tri (D + 1) fun x y => gt2 (powP m (D + 1) T i) x y * mon3 a b c x y k n) = tri (D + 1) fun x y => gt2 T i k * gt2 (powP m (D + 1) T i) x y * mon3 a b c x y k n := fun i => by
    rw [← tri_mul]; exact tri_congr fun x y _ => (Int.mul_assoc _ _ _).symm
  rw [sm_ext e5, ← tri_sum]
  rw [tri_full fun x y hx hy hxy => sm_zero fun i _ => by rw [mon3_low ha hb hc (by omega), Int.mul_zero]]
  refine sm_congr fun x hx => sm_congr fun y hy => ?_
  by_cases h : x + y + k < D + 1
  · rw [if_pos h]; exact sm_mul_r _ _ _
  · rw [if_neg h]; exact sm_zero fun i _ => by rw [mon3_low ha hb hc (by omega), Int.mul_zero]

theorem assocR {m : Int} {D : Nat} {T : List (List Int)} (hm : 2 ≤ m) {a b c : Nat → Int} (ha : a 0 = 0) (hb : b 0 = 0) (hc : c 0 = 0) (h00 : gt2 T 0 0 = 0) :
    EqD m D (ev (D + 1) (gt2 T) a (ev (D + 1) (gt2 T) b c)) fun n => tri3 (D + 1) fun x y z => (sm (D + 1 - x) fun j => gt2 T x j * gt2 (powP m (D + 1) T j) y z) * mon3 a b c x y z n := by
  have hA : ev (D + 1) (gt2 T) b c 0 = 0 := ev_zero hb hc h00 (by omega)
  intro n hn
  have e1 : ev (D + 1) (gt2 T) a (ev (D + 1) (gt2 T) b c) n % m = (tri (D + 1) fun x j => gt2 T x j * mp (pw a x) (ev (D + 1) (gt2 (powP m (D + 1) T j)) b c) n) % m :=
    tri_emod fun x j h => mul_emod_congr rfl (EqD.mp (EqD.refl _) (ev_powP hm hb hc j).symm n hn)
  rw [e1]
  congr 1
  have e2 : ∀ x j, mp (pw a x) (ev (D + 1) (gt2 (powP m (D + 1) T j)) b c) n = tri (D + 1) fun y z => gt2 (powP m (D + 1) T j) y z * mon3 a b c x y z n := fun x j => by
    have := mp_tri' (D + 1) (gt2 (powP m (D + 1) T j)) (mon b c) (pw a x) n
    unfold ev
    rw [this]
    exact tri_congr fun y z _ => by rw [mon3_r]
  unfold tri3
  dsimp only
  have e3 : (tri (D + 1) fun x j => gt2 T x j * mp (pw a x) (ev (D + 1) (gt2 (powP m (D + 1) T j)) b c) n) = sm (D + 1) fun x => sm (D + 1 - x) fun j => gt2 T x j * tri (D + 1) fun y z => gt2 (powP m (D + 1) T j) y z * mon3 a b c x y z n :=
    sm_ext fun x => sm_ext fun j => congrArg (gt2 T x j * ·) (e2 x j)
  rw [e3]
  refine sm_congr fun x hx => ?_
  have e5 : ∀ j, gt2 T x j * (tri (D + 1) fun y z => gt2 (powP m (D + 1) T j) y z * mon3 a b c x y z n) = tri (D + 1) fun y z => gt2 T x j * gt2 (powP m (D + 1) T j) y z * mon3 a b c x y z n := fun j => by
    rw [← tri_mul]; exact tri_congr fun y z _ => (Int.mul_assoc _ _ _).symm
  rw [sm_ext e5, ← tri_sum]
  rw [tri_full fun y z hy hz hyz => sm_zero fun i _ => by rw [mon3_low ha hb hc (by omega), Int.mul_zero]]
  refine sm_congr fun y hy => sm_congr fun z hz => ?_
  by_cases h : x + y + z < D + 1
  · rw [if_pos h]; exact sm_mul_r _ _ _
  · rw [if_neg h]; exact sm_zero fun i _ => by rw [mon3_low ha hb hc (by omega), Int.mul_zero]
end

/-- What a law is, for the calculus. -/
structure Law (m : Int) (D : Nat) (T : List (List Int)) : Prop where
  m2 : 2 ≤ m
  D1 : 1 ≤ D
  len : T.length = D + 1
  rows : ∀ i, i < D + 1 → (row T i).length = D + 1 - i ∧ Nums m (row T i)
  ax : NoF m (D + 1) T
theorem LawT.law {m : Int} {T : List (List Int)} (l : LawT m T) : Law m (T.length - 1) T := by
  obtain ⟨⟨h1, h2, h3⟩, h4⟩ := l
  have e : T.length - 1 + 1 = T.length := by omega
  exact ⟨h1.1, by omega, e.symm, fun i hi => by rw [e]; exact h3 i (by omega), by rw [e]; exact h4⟩

section
variable {m : Int} {D : Nat} {T : List (List Int)}
theorem Law.col (l : Law m D T) {i : Nat} (h : i < D + 1) : gt2 T i 0 = if i = 1 then 1 else 0 := l.ax.1 i h
theorem Law.sym (l : Law m D T) {i j : Nat} (h : i + j < D + 1) : gt2 T i j = gt2 T j i := by
  rcases Nat.lt_trichotomy i j with h1 | h1 | h1
  · exact l.ax.2.1 i j h1 h
  · rw [h1]
  · exact (l.ax.2.1 j i h1 (by omega)).symm
theorem Law.row0 (l : Law m D T) {j : Nat} (h : j < D + 1) : gt2 T 0 j = if j = 1 then 1 else 0 := by rw [l.sym (by omega), l.col h]
theorem Law.h00 (l : Law m D T) : gt2 T 0 0 = 0 := by rw [l.col (by omega), if_neg (by omega)]

theorem Law.assoc (l : Law m D T) {a b c : Nat → Int} (ha : a 0 = 0) (hb : b 0 = 0) (hc : c 0 = 0) : EqD m D (ev (D + 1) (gt2 T) (ev (D + 1) (gt2 T) a b) c) (ev (D + 1) (gt2 T) a (ev (D + 1) (gt2 T) b c)) := by
  refine (assocL l.m2 ha hb hc l.h00).trans (EqD.trans ?_ (assocR l.m2 ha hb hc l.h00).symm)
  intro n hn
  unfold tri3
  dsimp only
  refine sm_emod fun x hx => sm_emod fun y hy => sm_emod fun z hz => ?_
  by_cases h : x + y + z < D + 1
  · rw [if_pos h, if_pos h]
    refine mul_emod_congr ?_ rfl
    have h1 := l.ax.2.2 x y z h
    rw [dL_eq l.m2 l.len h, dR_eq l.m2 (l.rows x (by omega)).1 h, dL, dR, sm_emod', sm_emod'] at h1
    exact h1
  · rw [if_neg h, if_neg h]

theorem Law.comm (l : Law m D T) (a b : Nat → Int) : ev (D + 1) (gt2 T) a b = ev (D + 1) (gt2 T) b a := by
  funext n
  unfold ev
  rw [tri_swap]
  exact tri_congr fun i j h => by rw [l.sym (by omega)]; unfold mon; rw [mp_comm]

theorem pw_zero (k : Nat) : pw (fun _ => 0) (k + 1) = fun _ => 0 := by
  funext n
  show mp (pw (fun _ => 0) k) (fun _ => 0) n = 0
  exact sm_zero fun i _ => Int.mul_zero _
theorem Law.zero (l : Law m D T) (a : Nat → Int) : ev (D + 1) (gt2 T) a (fun _ => 0) = a := by
  funext n
  unfold ev tri
  obtain ⟨K, hK⟩ : ∃ K, D = K + 1 := ⟨D - 1, by have := l.D1; omega⟩
  have e : ∀ i, i < D + 1 → (sm (D + 1 - i) fun j => gt2 T i j * mon a (fun _ => 0) i j n) = (if i = 1 then 1 else 0) * pw a i n := fun i hi => by
    rw [show D + 1 - i = (D - i) + 1 by omega, sm_first, sm_zero (n := D - i) fun j _ => by
      show gt2 T i (j + 1) * mp (pw a i) (pw (fun _ => 0) (j + 1)) n = 0
      rw [pw_zero]
      have : mp (pw a i) (fun _ => 0) n = 0 := sm_zero fun i _ => Int.mul_zero _
      rw [this, Int.mul_zero]]
    rw [l.col hi, Int.add_zero]
    show (if i = 1 then 1 else 0) * mp (pw a i) one0 n = _
    rw [mp_one]
  rw [sm_congr e, sm_first, if_neg (by omega), Int.zero_mul, Int.zero_add, hK, sm_first, sm_zero (n := K) fun i _ => by rw [if_neg (by omega), Int.zero_mul]]
  simp [pw_1]

theorem Law.at0 (l : Law m D T) {a b : Nat → Int} (ha : a 0 = 0) (hb : b 0 = 0) : ev (D + 1) (gt2 T) a b 0 = 0 := ev_zero ha hb l.h00 (by omega)
end
end XM

/- The programs' sums, compositions and inverses, as series. -/
namespace XM

/-- A curve of a degree. -/
structure Cv (m : Int) (D : Nat) (a : List Int) : Prop where
  len : a.length = D + 1
  nums : Nums m a
  z : gt a 0 = 0

theorem eq_of_EqD {m : Int} {D : Nat} {a b : List Int} (ha : a.length = D + 1) (hb : b.length = D + 1) (na : Nums m a) (nb : Nums m b) (h : EqD m D (gt a) (gt b)) : a = b := by
  refine gt_ext (by omega) fun i hi => ?_
  have h1 := h i (by omega)
  have h2 := na.gt hi; have h3 := nb.gt (show i < b.length by omega)
  rwa [Int.emod_eq_of_lt h2.1 h2.2, Int.emod_eq_of_lt h3.1 h3.2] at h1

section
variable {m : Int} {D : Nat}
theorem gt_mulL {a b : List Int} {n : Nat} (hn : n ≤ D) : gt (mulL m (D + 1) a b) n = mp (gt a) (gt b) n % m := gt_tab (by omega)
theorem powL_pw (f : List Int) (k : Nat) : EqD m D (gt (powL m D f k)) (pw (gt f) k) := by
  induction k with
  | zero =>
    intro n hn
    have : gt (oneL (D + 1)) n = one0 n := by
      rw [oneL, gt_set, gt_repl]; unfold one0
      by_cases h : n = 0
      · subst h; simp
      · rw [if_neg (fun h2 => h h2.1.symm), if_neg h]
    show gt (oneL (D + 1)) n % m = one0 n % m
    rw [this]
  | succ k ih =>
    intro n hn
    show gt (mulL m (D + 1) (powL m D f k) f) n % m = mp (pw (gt f) k) (gt f) n % m
    rw [gt_mulL hn, Int.emod_emod]
    exact EqD.mp ih (EqD.refl _) n hn

theorem putL_ev {T : List (List Int)} (hr : ∀ i, i < D + 1 → (row T i).length = D + 1 - i) (f g : List Int) : EqD m D (gt (putL m D T f g)) (ev (D + 1) (gt2 T) (gt f) (gt g)) := by
  intro n hn
  rw [putL, gt_tab (by omega), Int.emod_emod]
  unfold pt ptI ev tri
  refine sm_emod fun i hi => ?_
  rw [hr i hi]
  refine sm_emod fun j hj => mul_emod_congr rfl ?_
  exact EqD.mp (powL_pw f i) (powL_pw g j) n hn

/-- Composition. -/
def cmp (N : Nat) (f a : Nat → Int) (n : Nat) : Int := sm N fun i => f i * pw a i n

theorem gt_addC {xs : List Int} {c : Int} {n : Nat} (hl : xs.length = D + 1) : gt (addC m xs c) n = if n = 0 then (gt xs 0 + c) % m else gt xs n := by
  rw [addC, gt_set]
  by_cases h : n = 0
  · subst h; rw [if_pos ⟨rfl, by omega⟩, if_pos rfl]
  · rw [if_neg (fun h2 => h h2.1.symm), if_neg h]

theorem horn_cmp {a f : List Int} {s : Nat} : ∀ {k : Nat}, k ≤ s + 1 → EqD m D (gt (horn m D a f s k)) fun n => sm k fun i => gt a (s + 1 - k + i) * pw (gt f) i n := by
  intro k
  induction k with
  | zero => intro _ n _; rw [horn, gt_repl]; rfl
  | succ k ih =>
    intro hk n hn
    have e1 : EqD m D (gt (mulL m (D + 1) (horn m D a f s k) f)) fun n => sm k fun i => gt a (s + 1 - k + i) * pw (gt f) (i + 1) n := fun n hn => by
      rw [gt_mulL hn, Int.emod_emod, EqD.mp (ih (by omega)) (EqD.refl (gt f)) n hn]
      dsimp only
      rw [mp_sum]; rfl
    dsimp only
    rw [horn, gt_addC (D := D) (by simp), sm_first, show s + 1 - (k + 1) + 0 = s - k by omega]
    have e2 : (sm k fun i => gt a (s + 1 - (k + 1) + (i + 1)) * pw (gt f) (i + 1) n) = sm k fun i => gt a (s + 1 - k + i) * pw (gt f) (i + 1) n := sm_congr fun i _ => by rw [show s + 1 - (k + 1) + (i + 1) = s + 1 - k + i by omega]
    rw [e2]
    have e3 : pw (gt f) 0 n = if n = 0 then 1 else 0 := rfl
    rw [e3]
    by_cases h : n = 0
    · subst h
      rw [if_pos rfl, if_pos rfl, Int.emod_emod, Int.mul_one, Int.add_comm]
      exact add_emod_congr rfl (e1 0 hn)
    · rw [if_neg h, if_neg h, Int.mul_zero, Int.zero_add]
      exact e1 n hn
theorem compL_cmp {a f : List Int} (ha : a.length = D + 1) : EqD m D (gt (compL m D a f)) (cmp (D + 1) (gt a) (gt f)) := by
  unfold compL
  rw [ha, show min (D + 1 - 1) D = D by omega]
  refine (horn_cmp (by omega)).trans fun n hn => ?_
  unfold cmp
  congr 1
  exact sm_congr fun i _ => by rw [show D + 1 - (D + 1) + i = i by omega]

theorem cmp_mp {N : Nat} {f g a : Nat → Int} (ha : a 0 = 0) {n : Nat} (hn : n < N) : cmp N (mp f g) a n = mp (cmp N f a) (cmp N g a) n := by
  have e1 : mp (cmp N f a) (cmp N g a) n = sm N fun i => f i * mp (pw a i) (cmp N g a) n := mp_sum N f (pw a) (cmp N g a) n
  have e2 : ∀ i, mp (pw a i) (cmp N g a) n = sm N fun j => g j * pw a (i + j) n := fun i => by
    rw [mp_comm]
    have : mp (cmp N g a) (pw a i) n = sm N fun j => g j * mp (pw a j) (pw a i) n := mp_sum N g (pw a) (pw a i) n
    rw [this]
    exact sm_ext fun j => by rw [pw_add, Nat.add_comm]
  rw [e1]
  unfold cmp
  have e3 : (sm N fun k => mp f g k * pw a k n) = sm N fun k => sm (k + 1) fun i => f i * g (k - i) * pw a k n := sm_ext fun k => by unfold mp; exact (sm_mul_r _ _ _).symm
  rw [e3, sm_tri]
  refine sm_congr fun i hi => ?_
  have e2' := e2 i
  unfold cmp at e2'
  rw [e2', ← sm_mul, sm_more (show N - i ≤ N by omega) fun j h1 h2 => by rw [pw_low ha (by omega)]; simp]
  exact sm_congr fun j hj => by rw [show i + j - i = j by omega, Int.mul_assoc]
theorem cmp_one {N : Nat} (hN : 1 ≤ N) (a : Nat → Int) : cmp N one0 a = one0 := by
  funext n
  unfold cmp
  obtain ⟨K, rfl⟩ : ∃ K, N = K + 1 := ⟨N - 1, by omega⟩
  rw [sm_first, sm_zero (n := K) fun i _ => by rw [one0, if_neg (by omega), Int.zero_mul]]
  simp [one0, pw]
theorem EqD.cmp {f f' : Nat → Int} (h : EqD m D f f') (a : Nat → Int) : EqD m D (cmp (D + 1) f a) (cmp (D + 1) f' a) := fun n hn => sm_emod fun i hi => mul_emod_congr (h i (by omega)) rfl
theorem EqD.cmp_r {a a' : Nat → Int} (h : EqD m D a a') (f : Nat → Int) : EqD m D (XM.cmp (D + 1) f a) (XM.cmp (D + 1) f a') := fun n hn => sm_emod fun i hi => mul_emod_congr rfl (h.pw i n hn)
theorem cmp_pw {f a : Nat → Int} (ha : a 0 = 0) (k : Nat) : EqD m D (cmp (D + 1) (pw f k) a) (pw (cmp (D + 1) f a) k) := by
  induction k with
  | zero => show EqD m D (cmp (D + 1) one0 a) one0; rw [cmp_one (by omega)]; exact EqD.refl _
  | succ k ih => exact EqD.trans (fun n hn => by show cmp (D + 1) (mp (pw f k) f) a n % m = _; rw [cmp_mp ha (by omega)]) (EqD.mp ih (EqD.refl _))
theorem cmp_ev {S : Nat → Nat → Int} {f g a : Nat → Int} (ha : a 0 = 0) : EqD m D (cmp (D + 1) (ev (D + 1) S f g) a) (ev (D + 1) S (cmp (D + 1) f a) (cmp (D + 1) g a)) := by
  intro n hn
  have e1 : cmp (D + 1) (ev (D + 1) S f g) a n = tri (D + 1) fun i j => S i j * cmp (D + 1) (mon f g i j) a n := by
    unfold cmp ev
    have h1 : (sm (D + 1) fun k => (tri (D + 1) fun i j => S i j * mon f g i j k) * pw a k n) = sm (D + 1) fun k => tri (D + 1) fun i j => S i j * (mon f g i j k * pw a k n) := sm_ext fun k => by
      rw [Int.mul_comm, ← tri_mul]
      exact tri_congr fun i j _ => by rw [Int.mul_comm, Int.mul_assoc]
    rw [h1, ← tri_sum]
    exact tri_congr fun i j _ => sm_mul _ _ _
  rw [e1]
  refine tri_emod fun i j _ => mul_emod_congr rfl ?_
  have e2 : cmp (D + 1) (mon f g i j) a n = mp (cmp (D + 1) (pw f i) a) (cmp (D + 1) (pw g j) a) n := cmp_mp ha (by omega)
  rw [e2]
  exact EqD.mp (cmp_pw ha i) (cmp_pw ha j) n hn

/-! a change of one coefficient -/
theorem mp_local {f g g' : Nat → Int} {K n : Nat} (hg : ∀ k, k < K → g k = g' k) (hn : n < K) : mp f g n = mp f g' n := sm_congr fun i hi => by rw [hg (n - i) (by omega)]
theorem mp_local2 {f f' g g' : Nat → Int} {K n : Nat} (hf : ∀ k, k < K → f k = f' k) (hg : ∀ k, k < K → g k = g' k) (hn : n < K) : mp f g n = mp f' g' n := sm_congr fun i hi => by rw [hf i (by omega), hg (n - i) (by omega)]
theorem pw_local {g g' : Nat → Int} {K : Nat} (hg : ∀ k, k < K → g k = g' k) (j : Nat) : ∀ k, k < K → pw g j k = pw g' j k := by
  induction j with
  | zero => intro k _; rfl
  | succ j ih => intro k hk; exact mp_local2 ih hg hk
theorem mp_top {f f' g g' : Nat → Int} {K : Nat} (hf : ∀ k, k < K → f k = f' k) (hg : ∀ k, k < K → g k = g' k) (f0 : f 0 = 0) (f0' : f' 0 = 0) (g0 : g 0 = 0) (g0' : g' 0 = 0) : mp f g K = mp f' g' K := by
  refine sm_congr fun i hi => ?_
  by_cases h1 : i = 0
  · subst h1; rw [f0, f0', Int.zero_mul, Int.zero_mul]
  · by_cases h2 : i = K
    · subst h2; rw [show i - i = 0 by omega, g0, g0', Int.mul_zero, Int.mul_zero]
    · rw [hf i (by omega), hg (K - i) (by omega)]
theorem ev_bump {S : Nat → Nat → Int} {f g g' : Nat → Int} {K : Nat} (hK1 : 1 ≤ K) (hKD : K ≤ D) (hg : ∀ k, k < K → g k = g' k) (f0 : f 0 = 0) (g0 : g 0 = 0) (h01 : S 0 1 = 1) :
    (∀ k, k < K → ev (D + 1) S f g k = ev (D + 1) S f g' k) ∧ ev (D + 1) S f g' K = ev (D + 1) S f g K + (g' K - g K) := by
  have g0' : g' 0 = 0 := by rw [← hg 0 (by omega)]; exact g0
  refine ⟨fun k hk => tri_congr fun i j _ => ?_, ?_⟩
  · rw [show mon f g i j k = mon f g' i j k from mp_local (pw_local hg j) hk]
  · have hmon : ∀ i j, ¬ (i = 0 ∧ j = 1) → mon f g i j K = mon f g' i j K := fun i j hij => by
      by_cases hi : i = 0
      · subst hi
        show mp one0 (pw g j) K = mp one0 (pw g' j) K
        rw [one_mp, one_mp]
        match j with
        | 0 => rfl
        | 1 => exact (hij ⟨rfl, rfl⟩).elim
        | j + 2 => exact mp_top (pw_local hg (j + 1)) hg (pw_low g0 (by omega)) (pw_low g0' (by omega)) g0 g0'
      · refine sm_congr fun l hl => ?_
        by_cases h : l = 0
        · subst h; rw [pw_low f0 (by omega), Int.zero_mul, Int.zero_mul]
        · rw [pw_local hg j (K - l) (by omega)]
    have h1 : mon f g 0 1 K = g K := by show mp one0 (pw g 1) K = g K; rw [one_mp, pw_1]
    have h2 : mon f g' 0 1 K = g' K := by show mp one0 (pw g' 1) K = g' K; rw [one_mp, pw_1]
    obtain ⟨E, rfl⟩ : ∃ E, D = E + 1 := ⟨D - 1, by omega⟩
    unfold ev tri
    rw [sm_first, sm_first (E + 1) fun i => sm (E + 1 + 1 - i) fun j => S i j * mon f g i j K]
    rw [show E + 1 + 1 - 0 = (E + 1) + 1 by omega, sm_first (E + 1), sm_first (E + 1) fun j => S 0 j * mon f g 0 j K, sm_first E, sm_first E fun i => S 0 (i + 1) * mon f g 0 (i + 1) K]
    have e1 : (sm (E + 1) fun i => sm (E + 1 + 1 - (i + 1)) fun j => S (i + 1) j * mon f g (i + 1) j K) = sm (E + 1) fun i => sm (E + 1 + 1 - (i + 1)) fun j => S (i + 1) j * mon f g' (i + 1) j K := sm_ext fun i => sm_ext fun j => by rw [hmon (i + 1) j (by omega)]
    have e2 : (sm E fun i => S 0 (i + 1 + 1) * mon f g 0 (i + 1 + 1) K) = sm E fun i => S 0 (i + 1 + 1) * mon f g' 0 (i + 1 + 1) K := sm_ext fun i => by rw [hmon 0 (i + 1 + 1) (by omega)]
    dsimp only
    rw [e1, e2, hmon 0 0 (by omega), show (0 : Nat) + 1 = 1 from rfl, h01, h1, h2]
    omega
end

section
variable {m : Int} {D : Nat} {T : List (List Int)}
theorem Law.rl (l : Law m D T) : ∀ i, i < D + 1 → (row T i).length = D + 1 - i := fun i hi => (l.rows i hi).1
theorem Law.S01 (l : Law m D T) : gt2 T 0 1 = 1 := by rw [l.row0 (by have := l.D1; omega), if_pos rfl]
theorem gt_varL {n : Nat} (hD : 1 ≤ D) : gt (varL D) n = if n = 1 then 1 else 0 := by
  rw [varL, gt_set, gt_repl]
  by_cases h : n = 1
  · subst h; rw [if_pos ⟨rfl, by simp; omega⟩, if_pos rfl]
  · rw [if_neg (fun h2 => h h2.1.symm), if_neg h]
theorem cv_varL (hm : 2 ≤ m) (hD : 1 ≤ D) : Cv m D (varL D) := ⟨by simp, nums_varL hm D, by rw [gt_varL hD, if_neg (by omega)]⟩

theorem Law.inv (l : Law m D T) : ∀ n, n ≤ D → (∀ k, k ≤ n → ev (D + 1) (gt2 T) (gt (varL D)) (gt (invS m D T n)) k % m = 0) ∧ (∀ k, n < k → gt (invS m D T n) k = 0) ∧ gt (invS m D T n) 0 = 0 := by
  have hm0 : 0 < m := by have := l.m2; omega
  have v0 := (cv_varL l.m2 l.D1).z
  intro n
  induction n with
  | zero =>
    intro _
    refine ⟨fun k hk => ?_, fun k _ => gt_repl _ _, gt_repl _ _⟩
    rw [show k = 0 by omega, l.at0 (b := gt (invS m D T 0)) v0 (gt_repl _ _)]; simp
  | succ n ih =>
    intro hn
    obtain ⟨h1, h2, h3⟩ := ih (by omega)
    have hv : ∀ k, gt (invS m D T (n + 1)) k = if k = n + 1 then -gt (putL m D T (varL D) (invS m D T n)) (n + 1) % m else gt (invS m D T n) k := fun k => by
      rw [invS, gt_set]
      by_cases h : k = n + 1
      · subst h; rw [if_pos ⟨rfl, by simp; omega⟩, if_pos rfl]
      · rw [if_neg (fun h4 => h h4.1.symm), if_neg h]
    obtain ⟨b1, b2⟩ := ev_bump (S := gt2 T) (D := D) (f := gt (varL D)) (g := gt (invS m D T n)) (g' := gt (invS m D T (n + 1))) (K := n + 1) (by omega) hn (fun k hk => by rw [hv, if_neg (by omega)]) v0 h3 l.S01
    refine ⟨fun k hk => ?_, fun k hk => by rw [hv, if_neg (by omega)]; exact h2 k (by omega), by rw [hv, if_neg (by omega)]; exact h3⟩
    by_cases h : k = n + 1
    · subst h
      rw [b2, hv, if_pos rfl, h2 (n + 1) (by omega), Int.sub_zero, Int.add_emod_emod]
      have e := putL_ev (m := m) l.rl (varL D) (invS m D T n) (n + 1) hn
      rw [Int.add_emod, ← e, ← Int.add_emod, Int.add_right_neg]; simp
    · rw [← b1 k (by omega)]; exact h1 k (by omega)
end
end XM

/- The curves of a law are a commutative group; multiples. -/
namespace XM

section
variable {m : Int} {D : Nat} {T : List (List Int)}
theorem Law.m0 (l : Law m D T) : 0 < m := by have := l.m2; omega
def zL (D : Nat) : List Int := List.replicate (D + 1) 0
theorem gt_zL (n : Nat) : gt (zL D) n = 0 := gt_repl _ _
theorem gt_zL' : gt (zL D) = fun _ => 0 := funext gt_zL
theorem cv_z (hm : 0 < m) : Cv m D (zL D) := ⟨by simp [zL], nums_rep hm _, gt_zL 0⟩

theorem Law.cput (l : Law m D T) {a b : List Int} (ha : Cv m D a) (hb : Cv m D b) : Cv m D (putL m D T a b) := by
  refine ⟨by simp, nums_putL l.m0 _ _ _ _, ?_⟩
  have h1 := putL_ev (m := m) l.rl a b 0 (by omega)
  rw [l.at0 ha.z hb.z] at h1
  have h2 := (nums_putL l.m0 D T a b).gt (show 0 < _ by simp)
  rw [Int.emod_eq_of_lt h2.1 h2.2] at h1
  simpa using h1
theorem Law.eqc (l : Law m D T) {a b : List Int} (ha : Cv m D a) (hb : Cv m D b) (h : EqD m D (gt a) (gt b)) : a = b := eq_of_EqD ha.len hb.len ha.nums hb.nums h

theorem Law.pcomm (l : Law m D T) {a b : List Int} (ha : Cv m D a) (hb : Cv m D b) : putL m D T a b = putL m D T b a := by
  refine l.eqc (l.cput ha hb) (l.cput hb ha) ?_
  refine (putL_ev l.rl a b).trans ?_
  rw [l.comm]; exact (putL_ev l.rl b a).symm
theorem Law.passoc (l : Law m D T) {a b c : List Int} (ha : Cv m D a) (hb : Cv m D b) (hc : Cv m D c) : putL m D T (putL m D T a b) c = putL m D T a (putL m D T b c) := by
  refine l.eqc (l.cput (l.cput ha hb) hc) (l.cput ha (l.cput hb hc)) ?_
  refine (putL_ev l.rl _ _).trans (EqD.trans (EqD.ev (fun _ _ _ => rfl) (putL_ev l.rl a b) (EqD.refl _)) ?_)
  refine (l.assoc ha.z hb.z hc.z).trans (EqD.symm ?_)
  exact (putL_ev l.rl _ _).trans (EqD.ev (fun _ _ _ => rfl) (EqD.refl _) (putL_ev l.rl b c))
theorem Law.pzero (l : Law m D T) {a : List Int} (ha : Cv m D a) : putL m D T a (zL D) = a := by
  refine l.eqc (l.cput ha (cv_z l.m0)) ha ?_
  refine (putL_ev l.rl _ _).trans ?_
  rw [gt_zL', l.zero]; exact EqD.refl _

theorem Law.cinv (l : Law m D T) : Cv m D (invL m D T) := ⟨by simp, nums_invS l.m0 _ _ _, (l.inv D (Nat.le_refl _)).2.2⟩
theorem Law.copp (l : Law m D T) {a : List Int} (ha : Cv m D a) : Cv m D (oppL m D T a) := by
  refine ⟨by simp [oppL], nums_compL l.m0 _ _ _, ?_⟩
  have h1 := compL_cmp (m := m) (D := D) (a := invL m D T) (f := a) (by simp) 0 (by omega)
  have h0 : cmp (D + 1) (gt (invL m D T)) (gt a) 0 = 0 := by
    unfold cmp
    refine sm_zero fun i _ => ?_
    by_cases h : 0 < i
    · rw [pw_low ha.z h, Int.mul_zero]
    · rw [show i = 0 by omega, l.cinv.z, Int.zero_mul]
  rw [h0] at h1
  have h2 := (nums_compL l.m0 D (invL m D T) a).gt (show 0 < _ by simp)
  rw [Int.emod_eq_of_lt h2.1 h2.2] at h1
  show gt (compL m D (invL m D T) a) 0 = 0
  simpa using h1
theorem Law.pinv (l : Law m D T) {a : List Int} (ha : Cv m D a) : putL m D T a (oppL m D T a) = zL D := by
  refine l.eqc (l.cput ha (l.copp ha)) (cv_z l.m0) ?_
  refine (putL_ev l.rl _ _).trans ?_
  have hv := cv_varL l.m2 l.D1
  have e1 : cmp (D + 1) (gt (varL D)) (gt a) = gt a := by
    funext n
    unfold cmp
    obtain ⟨E, rfl⟩ : ∃ E, D = E + 1 := ⟨D - 1, by have := l.D1; omega⟩
    rw [sm_first, sm_first, sm_zero (n := E) fun i _ => by rw [gt_varL l.D1, if_neg (by omega), Int.zero_mul]]
    rw [gt_varL l.D1, gt_varL l.D1, if_neg (by omega), if_pos rfl, pw_1]; simp
  have e2 : EqD m D (ev (D + 1) (gt2 T) (gt a) (gt (oppL m D T a))) (ev (D + 1) (gt2 T) (cmp (D + 1) (gt (varL D)) (gt a)) (cmp (D + 1) (gt (invL m D T)) (gt a))) := by
    rw [e1]
    exact EqD.ev (fun _ _ _ => rfl) (EqD.refl _) (compL_cmp (by simp))
  refine e2.trans ((cmp_ev ha.z).symm.trans ?_)
  have e3 : EqD m D (ev (D + 1) (gt2 T) (gt (varL D)) (gt (invL m D T))) fun _ => 0 := fun n hn => by
    have := (l.inv D (Nat.le_refl _)).1 n hn
    show ev (D + 1) (gt2 T) (gt (varL D)) (gt (invS m D T D)) n % m = 0 % m
    rw [this]; simp
  refine (e3.cmp (gt a)).trans ?_
  rw [gt_zL']
  exact fun n _ => by
    have : cmp (D + 1) (fun _ => 0) (gt a) n = 0 := sm_zero fun i _ => Int.zero_mul _
    rw [this]
theorem Law.put1 (l : Law m D T) {a b : List Int} (ha : Cv m D a) (hb : Cv m D b) : gt (putL m D T a b) 1 = (gt a 1 + gt b 1) % m := by
  have hD := l.D1
  have h1 := putL_ev (m := m) l.rl a b 1 hD
  have h2 := (nums_putL l.m0 D T a b).gt (show 1 < _ by simp; omega)
  rw [Int.emod_eq_of_lt h2.1 h2.2] at h1
  rw [h1]
  obtain ⟨_, b2⟩ := ev_bump (S := gt2 T) (D := D) (f := gt a) (g := fun _ => 0) (g' := gt b) (K := 1) (by omega) hD (fun k hk => by rw [show k = 0 by omega, hb.z]) ha.z rfl l.S01
  rw [b2, l.zero]; simp

/-- Cancelling. -/
theorem Law.pinv' (l : Law m D T) {a : List Int} (ha : Cv m D a) : putL m D T (oppL m D T a) a = zL D := by rw [l.pcomm (l.copp ha) ha, l.pinv ha]
theorem Law.zerop (l : Law m D T) {a : List Int} (ha : Cv m D a) : putL m D T (zL D) a = a := by rw [l.pcomm (cv_z l.m0) ha, l.pzero ha]
theorem Law.cancel (l : Law m D T) {u v a : List Int} (hu : Cv m D u) (hv : Cv m D v) (ha : Cv m D a) (h : putL m D T u a = putL m D T v a) : u = v := by
  have h1 : putL m D T (putL m D T u a) (oppL m D T a) = putL m D T (putL m D T v a) (oppL m D T a) := by rw [h]
  rwa [l.passoc hu ha (l.copp ha), l.passoc hv ha (l.copp ha), l.pinv ha, l.pzero hu, l.pzero hv] at h1

/-- The n-fold sum. -/
def nP (m : Int) (D : Nat) (T : List (List Int)) (a : List Int) : Nat → List Int
  | 0 => zL D
  | n + 1 => putL m D T (nP m D T a n) a
theorem Law.cnP (l : Law m D T) {a : List Int} (ha : Cv m D a) (n : Nat) : Cv m D (nP m D T a n) := by
  induction n with
  | zero => exact cv_z l.m0
  | succ n ih => exact l.cput ih ha
theorem Law.nP_two (l : Law m D T) {a : List Int} (ha : Cv m D a) (n : Nat) : nP m D T (putL m D T a a) n = nP m D T a (2 * n) := by
  induction n with
  | zero => rfl
  | succ n ih =>
    show putL m D T (nP m D T (putL m D T a a) n) (putL m D T a a) = putL m D T (putL m D T (nP m D T a (2 * n)) a) a
    rw [ih, l.passoc (l.cnP ha _) ha ha]
theorem Law.bin (l : Law m D T) : ∀ (n : Nat) {a out : List Int}, Cv m D a → Cv m D out → binL m D T n a out = putL m D T out (nP m D T a n) := by
  intro n
  induction n using Nat.strongRecOn with
  | _ n ih =>
    intro a out ha ho
    rw [binL]
    by_cases h0 : n = 0
    · subst h0; rw [if_pos rfl]; exact (l.pzero ho).symm
    rw [if_neg h0]
    by_cases h2 : n % 2 = 1
    · rw [if_pos h2, ih (n / 2) (by omega) (l.cput ha ha) (l.cput ho ha), l.nP_two ha, l.passoc ho ha (l.cnP ha _), l.pcomm ha (l.cnP ha _)]
      congr 1
      show nP m D T a (2 * (n / 2) + 1) = _
      rw [show 2 * (n / 2) + 1 = n by omega]
    · rw [if_neg h2, ih (n / 2) (by omega) (l.cput ha ha) ho, l.nP_two ha, show 2 * (n / 2) = n by omega]
theorem Law.mulN_nn (l : Law m D T) {a : List Int} (ha : Cv m D a) {n : Int} (h : 0 ≤ n) : mulN m D T n a = nP m D T a n.toNat := by
  rw [mulN, if_neg (by omega)]
  show binL m D T n.toNat a (zL D) = _
  rw [l.bin _ ha (cv_z l.m0), l.zerop (l.cnP ha _)]
theorem Law.mulN_neg (l : Law m D T) {a : List Int} (ha : Cv m D a) {n : Int} (h : n < 0) : mulN m D T n a = oppL m D T (nP m D T a (-n).toNat) := by
  rw [mulN, if_pos h]
  show oppL m D T (binL m D T (-n).toNat a (zL D)) = _
  rw [l.bin _ ha (cv_z l.m0), l.zerop (l.cnP ha _)]
theorem Law.cmulN (l : Law m D T) {a : List Int} (ha : Cv m D a) (n : Int) : Cv m D (mulN m D T n a) := by
  by_cases h : 0 ≤ n
  · rw [l.mulN_nn ha h]; exact l.cnP ha _
  · rw [l.mulN_neg ha (by omega)]; exact l.copp (l.cnP ha _)
theorem Law.mulN_zero (l : Law m D T) {a : List Int} (ha : Cv m D a) : mulN m D T 0 a = zL D := l.mulN_nn ha (by omega)

theorem Law.mulN_succ (l : Law m D T) {a : List Int} (ha : Cv m D a) (n : Int) : mulN m D T (n + 1) a = putL m D T (mulN m D T n a) a := by
  by_cases h : 0 ≤ n
  · rw [l.mulN_nn ha h, l.mulN_nn ha (by omega), show (n + 1).toNat = n.toNat + 1 by omega]; rfl
  · obtain ⟨k, hk⟩ : ∃ k : Nat, n = -((k : Int) + 1) := ⟨(-n - 1).toNat, by omega⟩
    subst hk
    have en := l.mulN_neg ha (show -((k : Int) + 1) < 0 by omega)
    rw [show (-(-((k : Int) + 1))).toNat = k + 1 by omega] at en
    rw [en]
    have hk1 := l.cnP ha (k + 1); have hk0 := l.cnP ha k
    have e1 : putL m D T (oppL m D T (nP m D T a (k + 1))) a = oppL m D T (nP m D T a k) := by
      refine l.cancel (l.cput (l.copp hk1) ha) (l.copp hk0) hk0 ?_
      rw [l.pinv' hk0, l.passoc (l.copp hk1) ha hk0, l.pcomm ha hk0]
      exact l.pinv' hk1
    rw [e1]
    by_cases h0 : k = 0
    · subst h0
      rw [show -(((0 : Nat) : Int) + 1) + 1 = 0 by omega, l.mulN_zero ha]
      show zL D = oppL m D T (zL D)
      have := l.pinv (cv_z (D := D) l.m0)
      rw [l.zerop (l.copp (cv_z l.m0))] at this
      exact this.symm
    · rw [l.mulN_neg ha (by omega), show (-(-((k : Int) + 1) + 1)).toNat = k by omega]

theorem int_ind {P : Int → Prop} (h0 : P 0) (hs : ∀ n, P n → P (n + 1)) (hp : ∀ n, P (n + 1) → P n) : ∀ n, P n := by
  have hn : ∀ k : Nat, P k := by
    intro k
    induction k with
    | zero => exact h0
    | succ k ih => exact hs _ ih
  have hm : ∀ k : Nat, P (-(k : Int)) := by
    intro k
    induction k with
    | zero => simpa using h0
    | succ k ih => refine hp _ ?_; rw [show -((k + 1 : Nat) : Int) + 1 = -(k : Int) by omega]; exact ih
  intro n
  by_cases h : 0 ≤ n
  · rw [show n = ((n.toNat : Nat) : Int) by omega]; exact hn _
  · rw [show n = -(((-n).toNat : Nat) : Int) by omega]; exact hm _

theorem Law.mulN_add (l : Law m D T) {a : List Int} (ha : Cv m D a) (x y : Int) : mulN m D T (x + y) a = putL m D T (mulN m D T x a) (mulN m D T y a) := by
  have cx := l.cmulN ha x
  refine int_ind (P := fun y => mulN m D T (x + y) a = putL m D T (mulN m D T x a) (mulN m D T y a)) ?_ ?_ ?_ y
  · rw [Int.add_zero, l.mulN_zero ha, l.pzero cx]
  · intro n ih
    rw [show x + (n + 1) = x + n + 1 by omega, l.mulN_succ ha, ih, l.mulN_succ ha n, l.passoc cx (l.cmulN ha n) ha]
  · intro n ih
    refine l.cancel (l.cmulN ha _) (l.cput cx (l.cmulN ha n)) ha ?_
    rw [← l.mulN_succ ha, show x + n + 1 = x + (n + 1) by omega, ih, l.passoc cx (l.cmulN ha n) ha, ← l.mulN_succ ha]
theorem Law.mulN_mul (l : Law m D T) {a : List Int} (ha : Cv m D a) (x y : Int) : mulN m D T (x * y) a = mulN m D T x (mulN m D T y a) := by
  have cy := l.cmulN ha y
  refine int_ind (P := fun x => mulN m D T (x * y) a = mulN m D T x (mulN m D T y a)) ?_ ?_ ?_ x
  · rw [Int.zero_mul, l.mulN_zero ha, l.mulN_zero cy]
  · intro n ih
    rw [show (n + 1) * y = n * y + y by rw [Int.add_mul, Int.one_mul], l.mulN_add ha, ih, l.mulN_succ cy]
  · intro n ih
    refine l.cancel (l.cmulN ha _) (l.cmulN cy n) cy ?_
    rw [← l.mulN_succ cy, ← ih, show (n + 1) * y = n * y + y by rw [Int.add_mul, Int.one_mul], l.mulN_add ha]
theorem Law.mulN_1 (l : Law m D T) {a : List Int} (ha : Cv m D a) (n : Int) : gt (mulN m D T n a) 1 = n * gt a 1 % m := by
  have hD := l.D1
  have cn := fun k => l.cmulN ha k
  refine int_ind (P := fun n => gt (mulN m D T n a) 1 = n * gt a 1 % m) ?_ ?_ ?_ n
  · rw [l.mulN_zero ha, gt_zL]; simp
  · intro n ih
    rw [l.mulN_succ ha, l.put1 (cn n) ha, ih, Int.emod_add_emod, Int.add_mul, Int.one_mul]
  · intro n ih
    rw [l.mulN_succ ha, l.put1 (cn n) ha, Int.add_mul, Int.one_mul] at ih
    have h2 := (cn n).nums.gt (show 1 < _ by rw [(cn n).len]; omega)
    have h3 : (gt (mulN m D T n a) 1) % m = n * gt a 1 % m := Int.add_emod_eq_add_emod_right (-gt a 1) ih |> fun h => by simpa [Int.add_assoc, Int.add_right_neg] using h
    rwa [Int.emod_eq_of_lt h2.1 h2.2] at h3
theorem Law.mulN_t1 (l : Law m D T) (n : Int) : gt (mulN m D T n (varL D)) 1 = n % m := by
  rw [l.mulN_1 (cv_varL l.m2 l.D1), gt_varL l.D1, if_pos rfl, Int.mul_one]
end
end XM

/- The statement's own functions: big, roll, below, likeInts, series9. -/
namespace XM
open Go

theorem s_laws_big {A : Option Addr} {n c : Nat} {h : Hp} {R : Value → Hp → Prop} (hR : R (.bool (decide (4096 < n))) h) : CallW FF n_laws_big [.slice A n c] h R := by
  refine w_laws_big ?_
  have : (decide ((4096 : Int) < n)) = decide (4096 < n) := by congr 1; rw [eq_iff_iff]; omega
  simp only [p_laws_big, len_slice, bindO_some, bin_gtr, this]; exact hR

theorem s_laws_likeInts {A B : Option Addr} {xs ys : List Int} {n n2 c c2 : Nat} {h : Hp} {R : Value → Hp → Prop} (hx : RI h A xs) (hy : RI h B ys) (hn : n = xs.length) (hn2 : n2 = ys.length) (hl : n ≤ 1000000)
    (hR : R (.bool (decide (xs = ys))) h) : CallW FF n_laws_likeInts [.slice A n c, .slice B n2 c2] h R := by
  subst hn; subst hn2
  refine w_laws_likeInts ?_
  by_cases c1 : (xs.length : Int) = ys.length
  case neg =>
    have : ¬ xs = ys := fun h => c1 (by rw [h])
    simp [p_laws_likeInts, c1]
    simpa [this] using hR
  have cl : xs.length = ys.length := by omega
  simp [p_laws_likeInts, cl]
  refine LP2 (fun d vs h' => ∃ i : Nat, d = xs.length - i ∧ i ≤ xs.length ∧ h' = h ∧ vs = [.slice A ys.length c, .slice B ys.length c2, i6 i] ∧ ∀ j, j < i → gt xs j = gt ys j) ?_ _ _ _ ⟨0, rfl, by omega, rfl, rfl, by omega⟩
  rintro d vs h1 ⟨i, rfl, hi, rfl, rfl, hF⟩ K K1 K2 hK hK1 hK2
  refine wl_laws_likeInts_0 ?_
  by_cases hlt : i < ys.length
  · have r := hx.at c (e := i) (n := ys.length) rfl cl.symm (by omega)
    have s := hy.at c2 (e := i) rfl rfl hlt
    by_cases hc : gt xs i = gt ys i
    · simp [q_laws_likeInts_0, hlt, r, s, hc, wrapI (n := (i : Int) + 1) (by omega) (by omega)]
      refine hK _ _ _ (by omega) ⟨i + 1, rfl, by omega, rfl, rfl, fun j hj => ?_⟩
      by_cases h : j = i
      · subst h; exact hc
      · exact hF j (by omega)
    · simp [q_laws_likeInts_0, hlt, r, s, hc]
      refine hK2 _ _ fun e he => ?_
      simp at he; rw [he]
      have : ¬ xs = ys := fun h => hc (by rw [h])
      simpa [this] using hR
  · simp [q_laws_likeInts_0, hlt]
    refine hK1 _ _ fun _ => ?_
    have : xs = ys := gt_ext cl fun j hj => hF j (by omega)
    rw [decide_eq_true this] at hR
    exact hR

theorem s_laws_series9 {m m' : Int} {A B : Option Addr} {xs ys : List Int} {n n2 c c2 : Nat} {h : Hp} {R : Value → Hp → Prop} (hx : RI h A xs) (hy : RI h B ys) (hn : n = xs.length) (hn2 : n2 = ys.length) (hl : n ≤ 1000000)
    (hR : ∀ h', HE h h' → R (.bool (decide (m = m' ∧ xs = ys))) h') : CallW FF n_laws_series9 [sv m A n c, sv m' B n2 c2] h R := by
  refine w_laws_series9 ?_
  simp [p_laws_series9]
  refine newB_i fun b h1 eb en eh eB => ?_
  refine newB_i fun b2 h2 eb2 en2 eh2 eB2 => ?_
  have bx := box2 (eh2.to eB (by omega)); have bx2 := box2 eB2
  have E2 := eh.trans eh2
  by_cases c1 : m = m'
  · simp [bx, bx2, c1]
    refine s_laws_likeInts (hx.mono E2) (hy.mono E2) hn hn2 hl ?_
    simpa [c1] using hR _ E2
  · simp [bx, bx2, c1]
    simpa [c1] using hR _ E2

/-- The dice, in the block bs. -/
structure DicD (h : Hp) (bs : Nat) (A : Option Addr) (n c : Nat) (a hs : Int) (vs : List Value) : Prop where
  lt : bs < h.nx
  bk : h.bk bs = some ⟨[.slice A n c, i6 a, .int .u64 hs], y_t_laws_dice_68, true⟩
  len : n = vs.length
  sm : n ≤ 1000000000000
  a0 : 0 ≤ a
  an : a ≤ n
  rv : RV (msk h fun x => bs ≤ x) A vs
  by_ : Bytes vs
def Dic (h : Hp) (bs : Nat) : Prop := ∃ A n c a hs vs, DicD h bs A n c a hs vs
theorem Dic.lt {h : Hp} {bs : Nat} (s : Dic h bs) : bs < h.nx := by
  obtain ⟨A, n, c, a, hs, vs, s⟩ := s; exact s.lt
theorem Dic.keep {h h' : Hp} {bs : Nat} (s : Dic h bs) (hn : h.nx ≤ h'.nx) (hk : ∀ c, c ≤ bs → h'.bk c = h.bk c) : Dic h' bs := by
  obtain ⟨A, n, c, a, hs, vs, s⟩ := s
  exact ⟨A, n, c, a, hs, vs, Nat.lt_of_lt_of_le s.lt hn, (hk bs (Nat.le_refl _)).trans s.bk, s.len, s.sm, s.a0, s.an, s.rv.mos (msk_to hn fun b hb hne => ⟨hk b (by omega), hne⟩), s.by_⟩

theorem s_laws_below {bs : Nat} {n : Int} {h : Hp} {R : Value → Hp → Prop} (s : Dic h bs) (hn : n ≤ 9000000000000000000)
    (hR : ∀ r h', HX bs h h' → h'.nx = h.nx → Dic h' bs → (n < 1 → r = 0) → (1 ≤ n → 0 ≤ r ∧ r < n) → R (i6 r) h') : CallW FF n_laws_dice_below [.pointer (some ⟨bs, 0, none⟩), i6 n] h R := by
  refine w_laws_dice_below ?_
  by_cases h1 : n < 1
  · simp [p_laws_dice_below, h1]
    exact hR 0 _ (HX.refl _ _) rfl s (fun _ => rfl) (fun h => by omega)
  obtain ⟨A, l, c, a, hs, vs, s⟩ := s
  have n0 : ¬ n = 0 := by omega
  simp [p_laws_dice_below, h1, box3 s.bk]
  refine store1 s.bk (by simp) rfl rfl rfl fun h2 u2 => ?_
  obtain ⟨y, hy⟩ : ∃ y, binV .shr (.int .u64 (IntKind.u64.wrap (IntKind.u64.wrap (hs * 6364136223846793005) + 1442695040888963407))) (.int .u64 33) = some (.int .u64 y) := ⟨_, by simp [binV, isShift, binShift]; rfl⟩
  obtain ⟨r, r0, r1, hr⟩ := and24 y
  have u2b : h2.bk bs = some ⟨[.slice A l c, i6 a, .int .u64 (IntKind.u64.wrap (IntKind.u64.wrap (hs * 6364136223846793005) + 1442695040888963407))], y_t_laws_dice_68, true⟩ := by simpa using u2.bk
  have wr : IntKind.i64.wrap r = r := wrapI (by omega) (by omega)
  have rv2 := s.rv.mos (u2.hx.low s.lt)
  have bx := box3 u2b
  have n2 := u2.nx
  have hlt := s.lt
  by_cases ha : a < l
  · obtain ⟨i, rfl⟩ := Int.eq_ofNat_of_zero_le s.a0
    have hi : i < vs.length := by have := s.len; omega
    have hv := List.getElem?_eq_getElem hi
    obtain ⟨b, b0, b1, hb⟩ := s.by_ i _ hv
    rw [hb] at hv
    have rd := (rv2.mos (msk_hs h2)).at c (e := i) rfl s.len hv
    have wb : IntKind.i64.wrap b = b := wrapI (by omega) (by omega)
    have wrb : IntKind.i64.wrap (r + b) = r + b := wrapI (by omega) (by omega)
    have wi : IntKind.i64.wrap ((i : Int) + 1) = i + 1 := wrapI (by omega) (by have := s.sm; omega)
    have hil : i < l := by have := s.len; omega
    simp [bx, hy, hr, wr, ha, hil, rd, wb, wrb, wi]
    refine store1 u2b (by simp) rfl rfl rfl fun h3 u3 => ?_
    have n3 := u3.nx
    have u3b : h3.bk bs = some ⟨[.slice A l c, i6 ((i : Int) + 1), .int .u64 (IntKind.u64.wrap (IntKind.u64.wrap (hs * 6364136223846793005) + 1442695040888963407))], y_t_laws_dice_68, true⟩ := by simpa using u3.bk
    simp [n0]
    have t0 := Int.tmod_nonneg n (show 0 ≤ r + b by omega)
    have t1 := Int.tmod_lt_of_pos (r + b) (show 0 < n by omega)
    exact hR _ _ (u2.hx.trans u3.hx) (by omega) ⟨A, l, c, _, _, vs, ⟨by omega, u3b, s.len, s.sm, by omega, by omega, rv2.mos (u3.hx.low (by omega)), s.by_⟩⟩ (fun h => by omega) (fun _ => ⟨t0, t1⟩)
  · have hil : ¬ a < l := ha
    simp [bx, hy, hr, wr, ha, n0]
    have t0 := Int.tmod_nonneg n (show 0 ≤ r by omega)
    have t1 := Int.tmod_lt_of_pos r (show 0 < n by omega)
    exact hR _ _ u2.hx (by omega) ⟨A, l, c, _, _, vs, ⟨by omega, u2b, s.len, s.sm, s.a0, s.an, rv2, s.by_⟩⟩ (fun h => by omega) (fun _ => ⟨t0, t1⟩)

theorem s_laws_roll {A : Option Addr} {n c : Nat} {seed : Int} {vs : List Value} {h : Hp} {R : Value → Hp → Prop} (hr : RV h A vs) (hn : n = vs.length) (hl : n ≤ 1000000000000) (hb : Bytes vs)
    (hR : ∀ bs h', HE h h' → h.nx ≤ bs → Dic h' bs → R (.pointer (some ⟨bs, 0, none⟩)) h') : CallW FF n_laws_roll [.slice A n c, .int .u64 seed] h R := by
  subst hn
  refine w_laws_roll ?_
  have hf : ∀ (A : Option Addr) (n c : Nat) (x : Int), (fillX [.slice none 0 0, .int .i64 0, .int .u64 0] [(0, 1, .slice A n c), (2, 1, .int .u64 x)]).map (fun cs => Value.agg cs.toArray) = some (.agg #[.slice A n c, i6 0, .int .u64 x]) := fun A n c x => by simp [fillX]
  have hb3 : ∀ (A : Option Addr) (n c : Nat) (x : Int), boxV 3 (.agg #[.slice A n c, i6 0, .int .u64 x]) = some [.slice A n c, i6 0, .int .u64 x] := fun A n c x => by simp [boxV]
  simp only [p_laws_roll, len_slice, bindO_some, conv_int, bin_mul, bin_add, hf, hb3]
  refine newB_i fun bs h1 eb en eh eB => ?_
  refine LP1 (fun d ws h' => ∃ (k : Nat) (x : Int), d = vs.length - k ∧ k ≤ vs.length ∧ ws = [.slice A vs.length c, .pointer (some ⟨bs, 0, none⟩), i6 k] ∧ HX bs h1 h' ∧ h'.bk bs = some ⟨[.slice A vs.length c, i6 0, .int .u64 x], y_t_laws_dice_68, true⟩) ?_ _ _ _
    ⟨0, _, rfl, by omega, rfl, HX.refl _ _, eB⟩
  rintro d ws h2 ⟨k, x, rfl, hk, rfl, x2, hbk⟩ K K1 hK hK1
  refine wl_laws_roll_0 ?_
  have n2 := x2.nx
  have hE : HE h h2 := x2.out eh (by omega)
  by_cases hlt : k < vs.length
  · have hv := List.getElem?_eq_getElem hlt
    obtain ⟨y, y0, y1, hy⟩ := hb k _ hv
    rw [hy] at hv
    have rd := (hr.mono hE).at c (e := k) rfl rfl hv
    have bx := box3 hbk
    simp [q_laws_roll_0, hlt, bx, rd]
    refine store1 hbk (by simp) rfl rfl rfl fun h3 u3 => ?_
    simp [wrapI (n := (k : Int) + 1) (by omega) (by omega)]
    exact hK _ _ _ (by omega) ⟨k + 1, _, rfl, by omega, by simp, x2.upd u3, by simpa using u3.bk⟩
  · simp [q_laws_roll_0, hlt]
    refine hK1 _ _ fun e he => ?_
    simp at he; rw [he]
    refine hR bs _ hE (by omega) ⟨A, vs.length, c, 0, x, vs, by omega, hbk, rfl, hl, by omega, by omega, ?_, hb⟩
    exact hr.mos ⟨hE.nx, fun b y hb hy => by rw [msk_bk (by omega)]; exact hE.to hy hb⟩

/-- A value is laid into a new box. -/
theorem boxS {h : Hp} {y : TypeId} {m : Int} {A : Option Addr} {n c : Nat} {K : Nat → Hp → Prop} (hk : ∀ b h', h.nx ≤ b → b < h'.nx → HE h h' → h'.bk b = some ⟨[i6 m, .slice A n c], y, true⟩ → K b h') :
    newB h ⟨[.int .i64 0, .slice none 0 0], y, true⟩ fun b h1 => bindO (storeV 2 h1 (sv m A n c) (.pointer (some ⟨b, 0, none⟩))) fun h2 => K b h2 := by
  refine newB_i fun b h1 eb en eh eB => ?_
  refine storeBox2 eB rfl rfl rfl rfl fun h2 u => ?_
  exact hk b h2 (by omega) (by rw [u.nx]; omega) (u.he eh (by omega)) u.bk
theorem ex0 (a b : Value) : extractV 0 (.tuple #[a, b]) = some a := rfl
theorem ex1 (a b : Value) : extractV 1 (.tuple #[a, b]) = some b := rfl
theorem ex30 (a b c : Value) : extractV 0 (.tuple #[a, b, c]) = some a := rfl
theorem ex31 (a b c : Value) : extractV 1 (.tuple #[a, b, c]) = some b := rfl
theorem ex32 (a b c : Value) : extractV 2 (.tuple #[a, b, c]) = some c := rfl
end XM

/- FnMultiples: a call of it comes to true. -/
namespace XM
open Go

theorem mulOfR_nil {m : Int} {T : List (List Int)} {n : Int} (h : (mulOfR m T n).2 ≠ 0) : (mulOfR m T n).1.2 = [] := by
  unfold mulOfR at h ⊢
  split
  · rfl
  · rename_i h1
    rw [if_neg h1] at h
    split
    · rfl
    · rename_i h2
      rw [if_neg h2] at h; simp at h
theorem mulOfR_ok {m : Int} {T : List (List Int)} {n : Int} (l : LawT m T) (h : -1000000 ≤ n ∧ n ≤ 1000000) : mulOfR m T n = ((m, mulN m (T.length - 1) T n (varL (T.length - 1))), 0) := by
  unfold mulOfR
  rw [if_neg (not_not_intro l), if_neg (not_not_intro h)]
theorem mulOfR_zero {m : Int} {T : List (List Int)} {n : Int} (h : (mulOfR m T n).2 = 0) : LawT m T ∧ (-1000000 ≤ n ∧ n ≤ 1000000) := by
  unfold mulOfR at h
  split at h
  · simp at h
  · rename_i h1
    split at h
    · simp at h
    · rename_i h2
      exact ⟨Classical.not_not.1 h1, Classical.not_not.1 h2⟩
theorem mulUR_code {m : Int} {T : List (List Int)} {n m' : Int} {xs : List Int} (h : (mulUR m T n m' xs).2 = 0) : codeC m T [(m', xs)] = 0 := by
  unfold mulUR at h
  split at h
  · exact h
  · rename_i h1
    exact Classical.not_not.1 h1
theorem mulUR_ok {m : Int} {T : List (List Int)} {n m' : Int} {xs : List Int} (h : codeC m T [(m', xs)] = 0) (hn : -1000000 ≤ n ∧ n ≤ 1000000) : mulUR m T n m' xs = ((m, mulN m (T.length - 1) T n xs), 0) := by
  unfold mulUR
  rw [if_neg (not_not_intro h), if_neg (not_not_intro hn)]
theorem LawT.cv {m : Int} {T : List (List Int)} {xs : List Int} (l : LawT m T) (c : IsC m xs) (h : xs.length = T.length) : Cv m (T.length - 1) xs :=
  ⟨by have := l.1.2.1; omega, c.1.2.2, c.2⟩
theorem Cv.fit {m : Int} {T : List (List Int)} {xs : List Int} (l : LawT m T) (c : Cv m (T.length - 1) xs) : IsC m xs ∧ m = m ∧ xs.length = T.length := by
  have h1 := l.1.1; have h2 := l.1.2.1; have h3 := c.len
  exact ⟨⟨⟨h1, by omega, c.nums⟩, c.z⟩, rfl, by omega⟩

/-- The last part: sums, products. -/
theorem mult_tail {m k : Int} {A CA : Option Addr} {Rr : Nat → Option Addr} {T : List (List Int)} {cT n c b3 : Nat} {y3 : TypeId} {vs : List Value} {h : Hp} {R : Value → Hp → Prop}
    (hr : RV h CA vs) (hn : n = vs.length) (hl : n ≤ 1000000000000) (hb : Bytes vs) (rT : RT h A Rr T) (hT1 : T.length ≤ 11) (hT2 : ∀ i, i < T.length → (row T i).length ≤ 11)
    (hb3 : h.bk b3 = some ⟨[i6 m, .slice A T.length cT], y3, true⟩) (l3 : b3 < h.nx) (hc : (mulOfR m T k).2 = 0) (hR : ∀ h', HE h h' → R (.bool true) h') :
    CallW FF n_laws_roll [.slice CA n c, .int .u64 7002] h fun v179 h32 => CallW FF n_laws_dice_below [v179, .int .i64 60] h32 fun v181 h33 => bindO (binV .sub v181 (.int .i64 20)) fun v182 => CallW FF n_laws_dice_below [v179, .int .i64 60] h33 fun v184 h34 => bindO (binV .sub v184 (.int .i64 20)) fun v185 => bindO (ldV 2 true h34 (.pointer (some ⟨b3, 0, none⟩))) fun v187 => CallW FF n_impl_MultipleOf [v187, v182] h34 fun v189 h35 => bindO (extractV 0 v189) fun v190 => bindO (extractV 1 v189) fun v191 => bindO (boxV 2 (.agg #[.int .i64 0, .slice none 0 0])) fun c28 => newB h35 ⟨c28, y_t_impl_Series, true⟩ fun b28 h36 => bindO (storeV 2 h36 v190 (.pointer (some ⟨b28, 0, none⟩))) fun h37 => bindO (ldV 2 true h37 (.pointer (some ⟨b3, 0, none⟩))) fun v193 => CallW FF n_impl_MultipleOf [v193, v185] h37 fun v195 h38 => bindO (extractV 0 v195) fun v196 => bindO (extractV 1 v195) fun v197 => bindO (boxV 2 (.agg #[.int .i64 0, .slice none 0 0])) fun c30 => newB h38 ⟨c30, y_t_impl_Series, true⟩ fun b30 h39 => bindO (storeV 2 h39 v196 (.pointer (some ⟨b30, 0, none⟩))) fun h40 => bindO (ldV 2 true h40 (.pointer (some ⟨b3, 0, none⟩))) fun v199 => bindO (binV .add v182 v185) fun v202 => CallW FF n_impl_MultipleOf [v199, v202] h40 fun v203 h41 => bindO (extractV 0 v203) fun v204 => bindO (extractV 1 v203) fun v205 => bindO (boxV 2 (.agg #[.int .i64 0, .slice none 0 0])) fun c32 => newB h41 ⟨c32, y_t_impl_Series, true⟩ fun b32 h42 => bindO (storeV 2 h42 v204 (.pointer (some ⟨b32, 0, none⟩))) fun h43 => bindO (ldV 2 true h43 (.pointer (some ⟨b3, 0, none⟩))) fun v207 => bindO (ldV 2 true h43 (.pointer (some ⟨b28, 0, none⟩))) fun v208 => bindO (ldV 2 true h43 (.pointer (some ⟨b30, 0, none⟩))) fun v209 => CallW FF n_impl_SumUnder [v207, v208, v209] h43 fun v210 h44 => bindO (extractV 0 v210) fun v211 => bindO (extractV 1 v210) fun v212 => bindO (boxV 2 (.agg #[.int .i64 0, .slice none 0 0])) fun c34 => newB h44 ⟨c34, y_t_impl_Series, true⟩ fun b34 h45 => bindO (storeV 2 h45 v211 (.pointer (some ⟨b34, 0, none⟩))) fun h46 => bindO (ldV 2 true h46 (.pointer (some ⟨b3, 0, none⟩))) fun v214 => bindO (binV .mul v182 v185) fun v217 => CallW FF n_impl_MultipleOf [v214, v217] h46 fun v218 h47 => bindO (extractV 0 v218) fun v219 => bindO (extractV 1 v218) fun v220 => bindO (boxV 2 (.agg #[.int .i64 0, .slice none 0 0])) fun c36 => newB h47 ⟨c36, y_t_impl_Series, true⟩ fun b36 h48 => bindO (storeV 2 h48 v219 (.pointer (some ⟨b36, 0, none⟩))) fun h49 => bindO (ldV 2 true h49 (.pointer (some ⟨b3, 0, none⟩))) fun v222 => bindO (ldV 2 true h49 (.pointer (some ⟨b30, 0, none⟩))) fun v224 => CallW FF n_impl_MultipleUnder [v222, v182, v224] h49 fun v225 h50 => bindO (extractV 0 v225) fun v226 => bindO (extractV 1 v225) fun v227 => bindO (boxV 2 (.agg #[.int .i64 0, .slice none 0 0])) fun c38 => newB h50 ⟨c38, y_t_impl_Series, true⟩ fun b38 h51 => bindO (storeV 2 h51 v226 (.pointer (some ⟨b38, 0, none⟩))) fun h52 => bindO (binV .eql v191 (.int .i64 0)) fun v229 => condM v229 (bindO (binV .eql v197 (.int .i64 0)) fun v232 => condM v232 (bindO (binV .eql v205 (.int .i64 0)) fun v236 => condM v236 (bindO (binV .eql v212 (.int .i64 0)) fun v240 => condM v240 (bindO (binV .eql v220 (.int .i64 0)) fun v244 => condM v244 (bindO (binV .eql v227 (.int .i64 0)) fun v248 => condM v248 (bindO (ldV 2 true h52 (.pointer (some ⟨b32, 0, none⟩))) fun v251 => bindO (ldV 2 true h52 (.pointer (some ⟨b34, 0, none⟩))) fun v252 => CallW FF n_laws_series9 [v251, v252] h52 fun v253 h53 => condM v253 (bindO (ldV 2 true h53 (.pointer (some ⟨b36, 0, none⟩))) fun v256 => bindO (ldV 2 true h53 (.pointer (some ⟨b38, 0, none⟩))) fun v257 => CallW FF n_laws_series9 [v256, v257] h53 fun v258 h54 => R v258 h54) (R (.bool false) h53)) (R (.bool false) h52)) (R (.bool false) h52)) (R (.bool false) h52)) (R (.bool false) h52)) (R (.bool false) h52)) (R (.bool false) h52) := by
  obtain ⟨law, _⟩ := mulOfR_zero hc
  have l := law.law
  have hT3 := law.1.2.1
  have hTl : T.length = (T.length - 1) + 1 := by omega
  have rl : ∀ i, i < T.length → (row T i).length ≤ 1000000 := fun i hi => by have := hT2 i hi; omega
  have cvt := cv_varL (m := m) (D := T.length - 1) l.m2 l.D1
  refine s_laws_roll hr hn hl hb fun bs h32 e32 hbs d32 => ?_
  refine s_laws_below d32 (by omega) fun x h33 x33 n33 d33 _ hx => ?_
  obtain ⟨x0, x1⟩ := hx (by omega)
  simp only [bin_sub, bindO_some, wrapI (n := x - 20) (by omega) (by omega)]
  refine s_laws_below d33 (by omega) fun y h34 x34 n34 d34 _ hy => ?_
  obtain ⟨y0, y1⟩ := hy (by omega)
  have n32 := e32.nx
  have E34 : HE h h34 := (x33.trans x34).out e32 (by omega)
  have bb : -20 ≤ x - 20 ∧ x - 20 ≤ 39 := by omega
  have bc : -20 ≤ y - 20 ∧ y - 20 ≤ 39 := by omega
  simp only [bindO_some, wrapI (n := y - 20) (by omega) (by omega), bin_sub, bin_add, bin_mul]
  generalize x - 20 = X at *
  generalize y - 20 = Y at *
  have wa : IntKind.i64.wrap (X + Y) = X + Y := wrapI (by omega) (by omega)
  have bXY : -800 ≤ X * Y ∧ X * Y ≤ 1521 := by
    have h1 : (X + 20) * (Y + 20) = X * Y + 20 * X + 20 * Y + 400 := by rw [Int.add_mul, Int.mul_add, Int.mul_add]; omega
    have h2 : (39 - X) * (Y + 20) = 39 * Y + 780 - (X * Y + 20 * X) := by rw [Int.sub_mul, Int.mul_add, Int.mul_add]; omega
    have h3 : (X + 20) * (39 - Y) = 39 * X + 780 - (X * Y + 20 * Y) := by rw [Int.add_mul, Int.mul_sub, Int.mul_sub]; omega
    have h4 : (39 - X) * (39 - Y) = 1521 - 39 * Y - 39 * X + X * Y := by rw [Int.sub_mul, Int.mul_sub, Int.mul_sub]; omega
    have p1 : 0 ≤ (X + 20) * (Y + 20) := Int.mul_nonneg (by omega) (by omega)
    have p2 : 0 ≤ (39 - X) * (Y + 20) := Int.mul_nonneg (by omega) (by omega)
    have p3 : 0 ≤ (X + 20) * (39 - Y) := Int.mul_nonneg (by omega) (by omega)
    have p4 : 0 ≤ (39 - X) * (39 - Y) := Int.mul_nonneg (by omega) (by omega)
    omega
  have wm : IntKind.i64.wrap (X * Y) = X * Y := wrapI (by omega) (by omega)
  have rX := mulOfR_ok law (show -1000000 ≤ X ∧ X ≤ 1000000 by omega)
  have rY := mulOfR_ok law (show -1000000 ≤ Y ∧ Y ≤ 1000000 by omega)
  have rXY := mulOfR_ok law (show -1000000 ≤ X + Y ∧ X + Y ≤ 1000000 by omega)
  have rP := mulOfR_ok law (show -1000000 ≤ X * Y ∧ X * Y ≤ 1000000 by omega)
  have cX := l.cmulN cvt X; have cY := l.cmulN cvt Y
  have B34 := E34.to hb3 l3
  -- p
  simp only [box2 B34, bindO_some]
  refine s_impl_MultipleOf (rT.mono E34) rfl (by omega) rl fun v h35 e35 f35 => ?_
  rw [rX] at f35 ⊢
  dsimp only at f35
  obtain ⟨A1, c1, rfl, r1, k1⟩ := f35
  simp only [ex0, ex1, bindO_some, boxV_is]
  refine boxS fun b28 h37 hb28 lb28 e37 B28 => ?_
  have E37 := (E34.trans e35).trans e37
  simp only [box2 (E37.to hb3 l3), bindO_some]
  -- q
  refine s_impl_MultipleOf (rT.mono E37) rfl (by omega) rl fun v h38 e38 f38 => ?_
  rw [rY] at f38 ⊢
  dsimp only at f38
  obtain ⟨A2, c2, rfl, r2, k2⟩ := f38
  simp only [ex0, ex1, bindO_some, boxV_is]
  refine boxS fun b30 h40 hb30 lb30 e40 B30 => ?_
  have E40 := (E37.trans e38).trans e40
  simp only [box2 (E40.to hb3 l3), bindO_some, wa]
  -- both
  refine s_impl_MultipleOf (rT.mono E40) rfl (by omega) rl fun v h41 e41 f41 => ?_
  rw [rXY] at f41 ⊢
  dsimp only at f41
  obtain ⟨A3, c3, rfl, r3, k3⟩ := f41
  simp only [ex0, ex1, bindO_some, boxV_is]
  refine boxS fun b32 h43 hb32 lb32 e43 B32 => ?_
  have E43 := (E40.trans e41).trans e43
  have G3743 := (e38.trans e40).trans (e41.trans e43)
  have G4043 := e41.trans e43
  simp only [box2 (E43.to hb3 l3), box2 (G3743.to B28 lb28), box2 (G4043.to B30 lb30), bindO_some]
  -- sum
  have code0 : codeC m T [(m, mulN m (T.length - 1) T X (varL (T.length - 1))), (m, mulN m (T.length - 1) T Y (varL (T.length - 1)))] = 0 := by
    refine codeC_0 law fun e he => ?_
    simp at he
    rcases he with rfl | rfl
    · exact cX.fit law
    · exact cY.fit law
  have rS : sumR m T m (mulN m (T.length - 1) T X (varL (T.length - 1))) m (mulN m (T.length - 1) T Y (varL (T.length - 1))) = ((m, putL m (T.length - 1) T (mulN m (T.length - 1) T X (varL (T.length - 1))) (mulN m (T.length - 1) T Y (varL (T.length - 1)))), 0) := by
    unfold sumR; rw [if_neg (not_not_intro code0)]
  refine s_impl_SumUnder (rT.mono E43) (r1.mono (e37.trans G3743)) (r2.mono (e40.trans G4043)) rfl rfl rfl k1 k2 (by omega) rl (by have := cX.len; omega) (by have := cY.len; omega) fun v h44 e44 f44 => ?_
  rw [rS] at f44 ⊢
  dsimp only at f44
  obtain ⟨A4, c4, rfl, r4, k4⟩ := f44
  simp only [ex0, ex1, bindO_some, boxV_is]
  refine boxS fun b34 h46 hb34 lb34 e46 B34' => ?_
  have E46 := (E43.trans e44).trans e46
  simp only [box2 (E46.to hb3 l3), bindO_some, wm]
  -- product
  refine s_impl_MultipleOf (rT.mono E46) rfl (by omega) rl fun v h47 e47 f47 => ?_
  rw [rP] at f47 ⊢
  dsimp only at f47
  obtain ⟨A5', c5', rfl, r5, k5⟩ := f47
  simp only [ex0, ex1, bindO_some, boxV_is]
  refine boxS fun b36 h49 hb36 lb36 e49 B36 => ?_
  have E49 := (E46.trans e47).trans e49
  have G4349 := (e44.trans e46).trans (e47.trans e49)
  have G4649 := e47.trans e49
  simp only [box2 (E49.to hb3 l3), box2 ((G4043.trans G4349).to B30 lb30), bindO_some]
  -- again
  have rU := mulUR_ok (m := m) (T := T) (n := X) (m' := m) (xs := mulN m (T.length - 1) T Y (varL (T.length - 1))) (codeC_0 law fun e he => by simp at he; subst he; exact cY.fit law) (show -1000000 ≤ X ∧ X ≤ 1000000 by omega)
  refine s_impl_MultipleUnder (rT.mono E49) (r2.mono (e40.trans (G4043.trans G4349))) rfl rfl k2 (by omega) rl (by have := cY.len; omega) fun v h50 e50 f50 => ?_
  rw [rU] at f50 ⊢
  dsimp only at f50
  obtain ⟨A6, c6, rfl, r6, k6⟩ := f50
  simp only [ex0, ex1, bindO_some, boxV_is]
  refine boxS fun b38 h52 hb38 lb38 e52 B38 => ?_
  have G4352 := G4349.trans (e50.trans e52)
  have G4652 := G4649.trans (e50.trans e52)
  have G4952 := e50.trans e52
  simp only [bin_eql, decide_true, bindO_some, condM_true, box2 (G4352.to B32 lb32), box2 (G4652.to B34' lb34)]
  refine s_laws_series9 (r3.mono (e43.trans G4352)) (r4.mono (e46.trans G4652)) rfl rfl (by have := (l.cmulN cvt (X + Y)).len; omega) fun h53 e53 => ?_
  have eq1 : m = m ∧ mulN m (T.length - 1) T (X + Y) (varL (T.length - 1)) = putL m (T.length - 1) T (mulN m (T.length - 1) T X (varL (T.length - 1))) (mulN m (T.length - 1) T Y (varL (T.length - 1))) := ⟨rfl, l.mulN_add cvt X Y⟩
  rw [decide_eq_true eq1]
  simp only [condM_true, box2 ((G4952.trans e53).to B36 lb36), box2 (e53.to B38 lb38), bindO_some]
  refine s_laws_series9 (r5.mono (e49.trans (G4952.trans e53))) (r6.mono (e52.trans e53)) rfl rfl (by have := (l.cmulN cvt (X * Y)).len; omega) fun h54 e54 => ?_
  have eq2 : m = m ∧ mulN m (T.length - 1) T (X * Y) (varL (T.length - 1)) = mulN m (T.length - 1) T X (mulN m (T.length - 1) T Y (varL (T.length - 1))) := ⟨rfl, l.mulN_mul cvt X Y⟩
  rw [decide_eq_true eq2]
  exact hR _ (E49.trans (G4952.trans (e53.trans e54)))
set_option maxRecDepth 100000 in
set_option maxHeartbeats 2000000 in
theorem s_laws_FnMultiples {CA : Option Addr} {n c : Nat} {vs : List Value} {h : Hp} {R : Value → Hp → Prop} (hr : RV h CA vs) (hn : n = vs.length) (hb : Bytes vs) (hR : ∀ h', HE h h' → R (.bool true) h') : CallW FF n_laws_FnMultiples [.slice CA n c] h R := by
  refine w_laws_FnMultiples ?_
  unfold p_laws_FnMultiples
  refine s_laws_big ?_
  by_cases hbig : 4096 < n
  · rw [decide_eq_true hbig, condM_true]; exact hR _ (HE.refl _)
  rw [decide_eq_false hbig, condM_false]
  have hl : n ≤ 1000000000000 := by omega
  refine s_spec_DrawMultipleOf hr hn hl hb fun v k h2 e2 p2 k1 k2 => ?_
  obtain ⟨m, A, cT, Rr, T, rfl, rT, hT1, hT2, hm1, hm2⟩ := p2
  have rl : ∀ i, i < T.length → (row T i).length ≤ 1000000 := fun i hi => by have := hT2 i hi; omega
  simp only [ex0, ex1, bindO_some, boxV_is]
  refine boxS fun b3 h4 hb3 lb3 e4 B3 => ?_
  simp only [box2 B3, bindO_some]
  have rT4 := rT.mono e4
  -- multiples of the law
  refine s_impl_MultipleOf rT4 rfl (by omega) rl fun v h5 e5 f5 => ?_
  obtain ⟨A1, c1, rfl, r1, q1⟩ := f5
  simp only [ex0, ex1, bindO_some, boxV_is]
  refine boxS fun b5 h7 hb5 lb5 e7 B5 => ?_
  have E47 := e5.trans e7
  simp only [box2 (E47.to B3 lb3), bindO_some]
  refine s_spec_MultipleOf (rT4.mono E47) rfl (by omega) rl fun v h8 e8 f8 => ?_
  obtain ⟨A2, c2, rfl, r2⟩ := f8
  simp only [ex0, ex1, bindO_some, boxV_is]
  refine boxS fun b7 h10 hb7 lb7 e10 B7 => ?_
  have E710 := e8.trans e10
  have xlen : (mulOfR m T k).1.2.length ≤ 1000000 := by
    by_cases hc : (mulOfR m T k).2 = 0
    · obtain ⟨law, hk⟩ := mulOfR_zero hc
      rw [mulOfR_ok law hk]
      have := (law.law.cmulN (cv_varL law.law.m2 law.law.D1) k).len
      dsimp only; omega
    · rw [mulOfR_nil hc]; simp
  simp only [bin_neq, decide_true, Bool.not_true, bindO_some, condM_false, box2 (E710.to B5 lb5), box2 B7]
  refine s_laws_series9 (r1.mono (e7.trans E710)) (r2.mono e10) rfl rfl xlen fun h11 e11 => ?_
  simp only [and_self, decide_true, un_not, bindO_some, Bool.not_true, condM_false]
  have E411 := (E47.trans E710).trans e11
  have E711 := E710.trans e11
  have E11 : HE h h11 := (e2.trans e4).trans E411
  -- multiples of a curve
  refine s_spec_DrawMultipleUnder (hr.mono E11) hn hl hb fun v k' m' XA xs h12 e12 p12 k1' k2' rX hX13 => ?_
  obtain ⟨m0, A0, cT0, Rr0, T0, rfl, rT0, hT10, hT20, hm10, hm20⟩ := p12
  have rl0 : ∀ i, i < T0.length → (row T0 i).length ≤ 1000000 := fun i hi => by have := hT20 i hi; omega
  simp only [ex30, ex31, ex32, bindO_some, boxV_is]
  refine newB_i fun b9 h13 eb9 en13 e13 eB9 => ?_
  refine newB_i fun b11 h14 eb11 en14 e14 eB11 => ?_
  refine storeBox2 (e14.to eB9 (by omega)) rfl rfl rfl rfl fun h15 u15 => ?_
  refine storeBox2 (u15.to eB11 (by omega)) rfl rfl rfl rfl fun h16 u16 => ?_
  have n15 := u15.nx; have n16 := u16.nx
  have E1216 : HE h12 h16 := u16.he (u15.he (e13.trans e14) (by omega)) (by omega)
  have B9 := u16.to u15.bk (by omega)
  have B11 := u16.bk
  have l9 : b9 < h16.nx := by omega
  have l11 : b11 < h16.nx := by omega
  simp only [box2 B9, box2 B11, bindO_some]
  have rT16 := rT0.mono E1216; have rX16 := rX.mono E1216
  refine s_impl_MultipleUnder rT16 rX16 rfl rfl (fun _ => rfl) (by omega) rl0 (by omega) fun v h17 e17 f17 => ?_
  obtain ⟨A3, c3, rfl, r3, q3⟩ := f17
  simp only [ex0, ex1, bindO_some, boxV_is]
  refine boxS fun b12 h19 hb12 lb12 e19 B12 => ?_
  have E1619 := e17.trans e19
  simp only [box2 (E1619.to B9 l9), box2 (E1619.to B11 l11), bindO_some]
  refine s_spec_MultipleUnder (rT16.mono E1619) (rX16.mono E1619) rfl rfl (by omega) rl0 (by omega) fun v h20 e20 f20 => ?_
  obtain ⟨A4, c4, rfl, r4⟩ := f20
  simp only [ex0, ex1, bindO_some, boxV_is]
  refine boxS fun b14 h22 hb14 lb14 e22 B14 => ?_
  have E1922 := e20.trans e22
  have ylen : (mulUR m0 T0 k' m' xs).1.2.length ≤ 1000000 := by
    unfold mulUR
    split
    · simp
    · rename_i hc
      split
      · simp
      · obtain ⟨d1, d2, d3, d4⟩ := codeC_zero (Classical.not_not.1 hc)
        subst d3
        have := (d1.law.cmulN (d1.cv d2 d4) k').len
        have := d1.1.2.1
        dsimp only; omega
  simp only [bin_neq, decide_true, Bool.not_true, bindO_some, condM_false, box2 (E1922.to B12 lb12), box2 B14]
  refine s_laws_series9 (r3.mono (e19.trans E1922)) (r4.mono e22) rfl rfl ylen fun h23 e23 => ?_
  simp only [and_self, decide_true, un_not, bindO_some, Bool.not_true, condM_false]
  have E1623 := (E1619.trans E1922).trans e23
  have E1123 := (e12.trans E1216).trans E1623
  -- the inverse
  have E423 := E411.trans E1123
  simp only [box2 (E423.to B3 lb3), bindO_some]
  refine s_impl_InverseOfLaw (rT4.mono E423) rfl (by omega) rl fun v h24 e24 f24 => ?_
  obtain ⟨A5, c5, rfl, r5, q5⟩ := f24
  simp only [ex0, ex1, bindO_some, boxV_is]
  refine boxS fun b16 h26 hb16 lb16 e26 B16 => ?_
  have E2326 := e24.trans e26
  simp only [box2 ((E423.trans E2326).to B3 lb3), bindO_some]
  refine s_spec_InverseOfLaw (rT4.mono (E423.trans E2326)) rfl (by omega) rl fun v h27 e27 f27 => ?_
  obtain ⟨A6, c6, rfl, r6⟩ := f27
  simp only [ex0, ex1, bindO_some, boxV_is]
  refine boxS fun b18 h29 hb18 lb18 e29 B18 => ?_
  have E2629 := e27.trans e29
  have zlen : (invR m T).1.2.length ≤ 1000000 := by
    unfold invR
    split
    · simp
    · simp; omega
  simp only [bin_neq, decide_true, Bool.not_true, bindO_some, condM_false, box2 (E2629.to B16 lb16), box2 B18]
  refine s_laws_series9 (r5.mono (e26.trans E2629)) (r6.mono e29) rfl rfl zlen fun h30 e30 => ?_
  simp only [and_self, decide_true, un_not, bindO_some, Bool.not_true, condM_false]
  have E2330 := (E2326.trans E2629).trans e30
  have E430 := E423.trans E2330
  have E30 : HE h h30 := (e2.trans e4).trans E430
  have E730 : HE h7 h30 := E711.trans (E1123.trans E2330)
  have E1630 := E1623.trans E2330
  have B9' := E1630.to B9 l9
  have B11' := E1630.to B11 l11
  refine ⟨fun vs' h' => HE h30 h' ∧ vs' = [.slice CA n c, .pointer (some ⟨b3, 0, none⟩), i6 k, .pointer (some ⟨b5, 0, none⟩), i6 (mulOfR m T k).2], ?_, ?_⟩
  · -- behind the join
    rintro vs' h31 ⟨e31, rfl⟩ ev hev
    simp at hev
    have B3' := (E430.trans e31).to B3 lb3
    have B5' := (E730.trans e31).to B5 lb5
    have r31 := r1.mono (e7.trans (E730.trans e31))
    simp only [hev, bin_neq, bindO_some, fieldAddr_ptr, Nat.zero_add]
    by_cases hc : (mulOfR m T k).2 = 0
    case neg =>
      simp only [hc, decide_false, Bool.not_false, condM_true, box2 B5', bindO_some, len_slice, mulOfR_nil hc]
      simp
      exact hR _ (E30.trans e31)
    obtain ⟨law, hk⟩ := mulOfR_zero hc
    have l := law.law
    have cvt := cv_varL (m := m) (D := T.length - 1) l.m2 l.D1
    have ck := l.cmulN cvt k
    have em := mulOfR_ok law hk
    rw [em] at r31
    dsimp only at r31
    have hlen : (mulOfR m T k).1.2.length = (mulN m (T.length - 1) T k (varL (T.length - 1))).length := by rw [em]
    have hT3 := law.1.2.1
    have cl := ck.len
    have a0 := r31.at c1 (e := 0) (i := 0) (n := (mulOfR m T k).1.2.length) rfl hlen (by omega)
    have a1 := r31.at c1 (e := 1) (i := 1) (n := (mulOfR m T k).1.2.length) rfl hlen (by omega)
    rw [ck.z] at a0
    rw [l.mulN_t1] at a1
    have mz : ¬ m = 0 := by omega
    have h1 : -m < k.tmod m := Int.lt_tmod_of_pos k (by omega)
    have h2' : k.tmod m < m := Int.tmod_lt_of_pos k (by omega)
    have w1 : IntKind.i64.wrap (k.tmod m + m) = k.tmod m + m := wrapI (by omega) (by omega)
    have tm := tmod_mod (n := k) (m := m) (by omega)
    simp only [hc, decide_true, Bool.not_true, condM_false, box2 B5', box2 B3', bindO_some, a0, a1, bin_neq, bin_rem, mz, if_false, bin_add, w1, tm]
    exact mult_tail (hr.mono (E30.trans e31)) hn hl hb (rT4.mono (E430.trans e31)) hT1 hT2 B3' (by have := (E430.trans e31).nx; omega) hc fun h' e' => hR h' ((E30.trans e31).trans e')
  · simp only [bin_eql, bindO_some]
    by_cases hc : (mulUR m0 T0 k' m' xs).2 = 0
    case neg =>
      simp only [hc, decide_false, condM_false]
      exact ⟨HE.refl _, trivial⟩
    have cc := mulUR_code hc
    obtain ⟨d1, d2, d3, d4⟩ := codeC_zero cc
    subst d3
    have l0 := d1.law
    have cx := d1.cv d2 d4
    have co := l0.copp cx
    have hT30 := d1.1.2.1
    have rO : oppR m' T0 m' xs = ((m', oppL m' (T0.length - 1) T0 xs), 0) := by unfold oppR; rw [if_neg (not_not_intro cc)]
    simp only [hc, decide_true, condM_true, box2 B9', box2 B11', bindO_some]
    refine s_impl_OppositeUnder (rT16.mono E1630) (rX16.mono E1630) rfl rfl (fun _ => rfl) (by omega) rl0 (by omega) fun v h31 e31 f31 => ?_
    rw [rO] at f31 ⊢
    dsimp only at f31
    obtain ⟨A7, c7, rfl, r7, q7⟩ := f31
    simp only [ex0, ex1, bindO_some, boxV_is]
    refine boxS fun b20 h33 hb20 lb20 e33 B20 => ?_
    have E3033 := e31.trans e33
    simp only [box2 (E3033.to B9' (by have := E1630.nx; omega)), box2 (E3033.to B11' (by have := E1630.nx; omega)), box2 B20, bindO_some]
    have code0 : codeC m' T0 [(m', xs), (m', oppL m' (T0.length - 1) T0 xs)] = 0 := by
      refine codeC_0 d1 fun e he => ?_
      simp at he
      rcases he with rfl | rfl
      · exact cx.fit d1
      · exact co.fit d1
    have rS : sumR m' T0 m' xs m' (oppL m' (T0.length - 1) T0 xs) = ((m', putL m' (T0.length - 1) T0 xs (oppL m' (T0.length - 1) T0 xs)), 0) := by unfold sumR; rw [if_neg (not_not_intro code0)]
    refine s_impl_SumUnder (rT16.mono (E1630.trans E3033)) (rX16.mono (E1630.trans E3033)) (r7.mono e33) rfl rfl rfl (fun _ => rfl) q7 (by omega) rl0 (by omega) (by have := co.len; omega) fun v h34 e34 f34 => ?_
    rw [rS, l0.pinv cx] at f34
    rw [rS]
    dsimp only at f34
    obtain ⟨A8, c8, rfl, r8, q8⟩ := f34
    simp only [ex0, ex1, bindO_some, boxV_is]
    refine boxS fun b22 h36 hb22 lb22 e36 B22 => ?_
    have E3036 := (E3033.trans e34).trans e36
    simp only [bin_neq, decide_true, Bool.not_true, bindO_some, condM_false]
    have r36 := r8.mono e36
    have zl : (zL (T0.length - 1)).length = T0.length := by simp [zL]; omega
    refine LP2 (fun d ws h' => ∃ i : Nat, d = T0.length - i ∧ i ≤ T0.length ∧ h' = h36 ∧ ws = [.slice CA n c, .pointer (some ⟨b3, 0, none⟩), i6 k, .pointer (some ⟨b5, 0, none⟩), i6 (mulOfR m T k).2, .pointer (some ⟨b22, 0, none⟩), i6 i]) ?_ _ _ _ ⟨0, rfl, by omega, rfl, rfl⟩
    rintro d ws h37 ⟨i, rfl, hi, rfl, rfl⟩ K K1 K2 hK hK1 hK2
    refine wl_laws_FnMultiples_0 ?_
    by_cases hlt : i < T0.length
    · have g : (i : Int) < ((zL (T0.length - 1)).length : Int) := by omega
      have a := r36.at c8 (e := i) (i := i) (n := (zL (T0.length - 1)).length) rfl rfl (by omega)
      rw [gt_zL] at a
      simp only [q_laws_FnMultiples_0, fieldAddr_ptr, Nat.zero_add, bindO_some, box2 B22, len_slice, bin_lss, g, decide_true, condM_true, a, bin_neq, Bool.not_true, condM_false, bin_add, wrapI (n := (i : Int) + 1) (by omega) (by omega)]
      exact hK _ _ _ (by omega) ⟨i + 1, rfl, by omega, rfl, rfl⟩
    · have g : ¬ (i : Int) < ((zL (T0.length - 1)).length : Int) := by omega
      simp only [q_laws_FnMultiples_0, fieldAddr_ptr, Nat.zero_add, bindO_some, box2 B22, len_slice, bin_lss, g, decide_false, condM_false]
      refine hK1 _ _ fun ev hev => ?_
      simp at hev
      simp only [hev]
      exact ⟨E3036, trivial⟩
end XM
