/- What is proved at the end: for every input FnPointSums returns true and its argument reads as it did; without condition. Part 6 of 7. -/
import Derived.Test.YtiicfnongikeeaaGreatXe
import Derived.Below

set_option linter.unusedSimpArgs false
set_option linter.unusedVariables false
/- Points of the program: curveOf, cut, copies, codes, kills. -/
namespace XM
open Go

theorem s_impl_copyOf_int64 {A : Option Addr} {xs : List Int} {n c : Nat} {h : Hp} {R : Value → Hp → Prop} (r : RI h A xs) (hn : n = xs.length) (h1 : 1 ≤ n) (h2 : n ≤ 1000000)
    (hR : ∀ v h', HE h h' → FI y_t_int64 h h' v xs → R v h') : CallW FF n_impl_copyOf_int64 [.slice A n c] h R := by
  refine w_impl_copyOf_int64 ?_
  unfold p_impl_copyOf_int64
  simp only [rowV_nil, bindO_some]
  refine newApp (ys := []) r rfl hn rfl h1 (by unfold sizeMax; omega) fun b h' e q1 q2 q3 => ?_
  rw [Nat.zero_add, hn]
  exact hR _ _ e ⟨b, rfl, q1, q2, by simpa using q3⟩

theorem s_impl_curveOf {m : Int} {A : Option Addr} {x : List Int} {n : Nat} {h : Hp} {R : Value → Hp → Prop} (r : RI h A x) (hn : n = x.length) (h1 : 1 ≤ n) (h2 : n ≤ 1000000)
    (hR : ∀ v h', HE h h' → FS h h' v m (0 :: x) → R v h') : CallW FF n_impl_curveOf [i6 m, .slice A n 1] h R := by
  refine w_impl_curveOf ?_
  unfold p_impl_curveOf
  simp only [boxV_is, bindO_some]
  refine newB_i fun b h1 eb en eh eB => ?_
  simp only [rowV_int, bindO_some]
  refine newApp (xs := x) (ys := [0]) (cs := [.int .i64 0]) (l := 1) (r.mono eh) rfl hn rfl (by omega) (by unfold sizeMax; omega) fun p h3 e3 p1 p2 p3 => ?_
  have hf : ∀ (B : Option Addr) (k d : Nat), (fillX [i6 0, .slice none 0 0] [(0, 1, i6 m), (1, 1, .slice B k d)]).map (fun cs => Value.agg cs.toArray) = some (.agg #[i6 m, .slice B k d]) := fun B k d => by simp [fillX]
  simp only [hf, bindO_some]
  refine storeBox2 (e3.to eB (by omega)) rfl rfl rfl rfl fun h4 u4 => ?_
  simp only [box2 u4.bk, bindO_some]
  have n4 := u4.nx
  refine hR _ _ (u4.he (eh.trans e3) (by omega)) ⟨p, ?_, by omega, by omega, by rw [u4.ot _ (by omega)]; exact p3⟩
  rw [hn, Nat.add_comm]; rfl

/-- The first numbers of a list are copied into a list of the function's own. -/
theorem copyI {h : Hp} {A : Option Addr} {xs zs : List Int} {r n k : Nat} {K : Value → Hp → Prop} (hz : h.bk r = some ⟨mapI zs, y_t_int64, true⟩) (hn : n = zs.length) (hx : RI h A xs) (hk : k = xs.length) (hnk : n ≤ k) (h1 : 1 ≤ n)
    (hK : ∀ v h', Upd r (some ⟨mapI (xs.take n), y_t_int64, true⟩) h h' → K v h') : bindVH (copyV y_t_int64 1 h (.slice (some ⟨r, 0, none⟩) n 1) (.slice A k 1)) K := by
  have hmin : min k n = n := by omega
  have hc : h.cellsOf 1 (.slice A n 1) = some (mapI (xs.take n)) := by
    have r' : RI h A (xs.take n) := fun hl => by
      obtain ⟨b, o, x, q1, q2, q3, q4⟩ := hx (by simp at hl ⊢; omega)
      refine ⟨b, o, x, q1, q2, q3, fun i v hv => q4 i v ?_⟩
      simp only [mapI, List.map_take, List.getElem?_take] at hv
      split at hv
      · exact hv
      · cases hv
    exact RV.cells r' (HE.refl _) (by simp; omega) fun _ => .inr trivial
  have e : copyV y_t_int64 1 h (.slice (some ⟨r, 0, none⟩) n 1) (.slice A k 1) = some (.int .i64 n, h.set r (some ⟨mapI (xs.take n), y_t_int64, true⟩)) := by
    have hsp : splice (mapI zs) 0 (mapI (xs.take n)) = mapI (xs.take n) := by
      unfold splice
      rw [List.drop_eq_nil_of_le (by simp; omega)]; simp
    simp only [copyV, XK.eff, XO.ev, if_true, if_neg (show ¬ (1 : Nat) = 0 by omega), hmin, if_neg (show ¬ n = 0 by omega), hc, hz, Option.bind_some]
    rw [if_pos ⟨by simp; omega, trivial, trivial⟩, hsp]
  rw [e, bindVH_some]
  exact hK _ _ ⟨rfl, by simp, fun c hc => by rw [set_bk, if_neg hc]⟩

theorem s_slices_Equal_Lint64 {A B : Option Addr} {xs ys : List Int} {n n2 c c2 : Nat} {h : Hp} {R : Value → Hp → Prop} (hx : RI h A xs) (hy : RI h B ys) (hn : n = xs.length) (hn2 : n2 = ys.length) (hl : n ≤ 1000000) (hl2 : n2 ≤ 1000000)
    (hR : R (.bool (decide (xs = ys))) h) : CallW FF n_slices_Equal_Lint64_int64 [.slice A n c, .slice B n2 c2] h R := by
  subst hn; subst hn2
  refine w_slices_Equal_Lint64_int64 ?_
  unfold p_slices_Equal_Lint64_int64
  simp only [len_slice, bindO_some, bin_neq]
  by_cases hlen : xs.length = ys.length
  case neg =>
    have g : ¬ ((xs.length : Int) = (ys.length : Int)) := by omega
    simp only [g, decide_false, Bool.not_false, condM_true]
    have : ¬ xs = ys := fun h => hlen (by rw [h])
    rwa [decide_eq_false this] at hR
  have g : ((xs.length : Int) = (ys.length : Int)) := by omega
  simp only [g, decide_true, Bool.not_true, condM_false]
  refine LP2 (fun d vs h' => ∃ i : Nat, d = xs.length - i ∧ i ≤ xs.length ∧ h' = h ∧ vs = [.slice A xs.length c, .slice B ys.length c2, i6 (ys.length : Int), i6 i] ∧ ∀ j, j < i → gt xs j = gt ys j) ?_ _ _ _ ⟨0, rfl, by omega, rfl, rfl, by omega⟩
  rintro d vs h3 ⟨i, rfl, hi, rfl, rfl, hI⟩ K K1 K2 hK hK1 hK2
  refine wl_slices_Equal_Lint64_int64_0 ?_
  by_cases hlt : i < xs.length
  · have g : (i : Int) < (ys.length : Int) := by omega
    obtain ⟨q1, q2⟩ := hx.at c (e := i) (i := i) (n := xs.length) rfl rfl hlt
    obtain ⟨z1, z2⟩ := hy.at c2 (e := i) (i := i) (n := ys.length) rfl rfl (by omega)
    simp only [q_slices_Equal_Lint64_int64_0, bin_lss, g, decide_true, bindO_some, condM_true, q1, q2, z1, z2, bin_neq]
    by_cases he : gt xs i = gt ys i
    · simp only [he, decide_true, Bool.not_true, condM_false, bin_add, bindO_some, wrapI (n := (i : Int) + 1) (by omega) (by omega)]
      refine hK _ _ _ (by omega) ⟨i + 1, rfl, by omega, rfl, rfl, fun j hj => ?_⟩
      by_cases hji : j = i
      · subst hji; exact he
      · exact hI j (by omega)
    · simp only [he, decide_false, Bool.not_false, condM_true]
      refine hK2 _ _ fun ev hev => ?_
      simp at hev; rw [hev]
      have : ¬ xs = ys := fun h => he (by rw [h])
      rwa [decide_eq_false this] at hR
  · have g : ¬ (i : Int) < (ys.length : Int) := by omega
    simp only [q_slices_Equal_Lint64_int64_0, bin_lss, g, decide_false, bindO_some, condM_false]
    refine hK1 _ _ fun _ _ => ?_
    have : xs = ys := gt_ext hlen fun j hj => hI j (by omega)
    rwa [decide_eq_true this] at hR

theorem s_impl_Series_same {m : Int} {A B : Option Addr} {xs ys : List Int} {n n2 c c2 : Nat} {h : Hp} {R : Value → Hp → Prop} (hx : RI h A xs) (hy : RI h B ys) (hn : n = xs.length) (hn2 : n2 = ys.length) (hl : n ≤ 1000000) (hl2 : n2 ≤ 1000000)
    (hR : ∀ h', HE h h' → R (.bool (decide (xs = ys))) h') : CallW FF n_impl_Series_same [sv m A n c, sv m B n2 c2] h R := by
  refine w_impl_Series_same ?_
  unfold p_impl_Series_same
  simp only [boxV_is, bindO_some]
  refine newB_i fun b h1 eb en eh eB => ?_
  refine newB_i fun b2 h2 eb2 en2 eh2 eB2 => ?_
  simp only [fieldAddr_ptr, Nat.zero_add, box2 (eh2.to eB (by omega)), box2 eB2, bindO_some, bin_eql, decide_true, condM_true]
  have E := eh.trans eh2
  exact s_slices_Equal_Lint64 (hx.mono E) (hy.mono E) hn hn2 hl hl2 (hR _ E)

theorem s_impl_Plane_kills {m m1 N : Int} {A B : Option Addr} {Ra : Nat → Option Addr} {T : List (List Int)} {a : List Int} {D n n2 c : Nat} {h : Hp} {R : Value → Hp → Prop} (hT : RT h A Ra T) (ha : RI h B a) (hn : n = D + 1) (hn2 : n2 = D + 1) (t : Tri m D T) (hm : 2 ≤ m) (hm2 : m ≤ 3000000000)
    (hD : D ≤ 90000) (hD1 : 1 ≤ D) (hal : a.length = D + 1) (hx : Nums m a) (hN : -4000000000000 ≤ N ∧ N ≤ 4000000000000) (e1 : m1 = m)
    (hR : ∀ h', HE h h' → R (.bool (decide (mulN m D T N a = zL D))) h') : CallW FF n_impl_Plane_kills [sv m A n c, i6 N, sv m1 B n2 1] h R := by
  rw [hn, hn2, e1]
  refine w_impl_Plane_kills ?_
  unfold p_impl_Plane_kills
  simp only [boxV_is, bindO_some]
  refine newB_i fun b h1 eb en eh eB => ?_
  refine newB_i fun b2 h2 eb2 en2 eh2 eB2 => ?_
  have B2 := eh2.to eB (by omega)
  have E := eh.trans eh2
  simp only [fieldAddr_ptr, Nat.zero_add, box2 B2, box2 eB2, bindO_some, inB_ptr]
  refine s_impl_Plane_multiple (D := D) (hT.mono E) (ha.mono E) rfl rfl t hm hm2 hD hD1 hal hx hN.1 hN.2 rfl fun v h3 e3 f3 => ⟨e3.keep, by omega, ?_⟩
  obtain ⟨q, rfl, q1, q2, q3⟩ := f3
  have n3 := e3.nx
  simp only [box2 (e3.to B2 (by omega)), bindO_some]
  refine ⟨by omega, ?_⟩
  refine s_impl_Plane_degree (by omega) fun h4 e4 => ⟨e4.keep' e3.nx, ?_⟩
  refine s_impl_zero (D := D) (by omega) (by omega) fun v h5 e5 f5 => ?_
  obtain ⟨z, rfl, z1, z2, z3⟩ := f5
  have e45 := e4.trans e5
  exact s_impl_Series_same (RI.of_block (Nat.lt_of_lt_of_le q2 e45.nx) (e45.to q3 q2)) (RI.of_block z2 z3) rfl rfl (by rw [mulN_len]; omega) (by simp; omega) fun h6 e6 => hR _ (((E.trans e3).trans e45).trans e6)
end XM

/- Points of the program: cut, codes, sizes, factors. -/
namespace XM
open Go

theorem rows_ext {Z W : List (List Int)} (hl : Z.length = W.length) (h : ∀ i, i < Z.length → row Z i = row W i) : Z = W := by
  refine List.ext_getElem hl fun i h1 h2 => ?_
  have := h i h1
  simpa [row, List.getD_eq_getElem?_getD, h1, h2] using this

theorem s_impl_Plane_cut {m : Int} {A : Option Addr} {Rr : Nat → Option Addr} {T : List (List Int)} {n c k : Nat} {h : Hp} {R : Value → Hp → Prop} (hT : RT h A Rr T) (hn : n = T.length) (hk : k + 1 ≤ T.length) (hl : n ≤ 1000000) (hrl : ∀ i, i < T.length → (row T i).length = T.length - i)
    (hR : ∀ v h', HE h h' → FP h h' v m (cutT k T) → R v h') : CallW FF n_impl_Plane_cut [sv m A n c, i6 k] h R := by
  subst hn
  refine w_impl_Plane_cut ?_
  unfold p_impl_Plane_cut
  simp only [boxV_is, bindO_some]
  refine newB_i fun b h1 eb en eh eB => ?_
  refine newB_i fun b4 h2 eb4 en4 eh4 eB4 => ?_
  have E2 := eh.trans eh4
  have B2 := eh4.to eB (by omega)
  simp only [fieldAddr_ptr, Nat.zero_add, box2 B2, bindO_some]
  refine s_impl_emptyPlane (D := k) rfl (by omega) fun v h3 e3 f3 => ?_
  obtain ⟨bt, rb, rfl, o3⟩ := f3
  have n3 := e3.nx
  refine newB_i fun b5 h4 eb5 en5 eh5 eB5 => ?_
  refine storeBox2 eB5 rfl rfl rfl rfl fun h5 u5 => ?_
  have n5 := u5.nx
  have e35 : HE h3 h5 := u5.he eh5 (by omega)
  have o5 := o3.mono e35
  have E5 := (E2.trans e3).trans e35
  simp only [fieldAddr_ptr, Nat.zero_add, box2 u5.bk, bindO_some, len_slice, ztab_len]
  have hub : ∀ i, i < k + 1 → rb i < h3.nx := fun i hi => o3.ltr i (by simpa using hi)
  have hlb : ∀ i, i < k + 1 → h2.nx ≤ rb i := fun i hi => o3.lor i (by simpa using hi)
  refine LP1 (fun d vs h' => ∃ (i : Nat) (Z : List (List Int)), d = k + 1 - i ∧ i ≤ k + 1 ∧ HZ h2.nx h3.nx h5 h' ∧ OT h2.nx h' bt rb Z ∧ Z.length = k + 1 ∧ (∀ j, j < i → row Z j = tab (k + 1 - j) fun l => gt2 T j l) ∧ (∀ j, j < k + 1 → (row Z j).length = k + 1 - j) ∧
      vs = [.pointer (some ⟨b, 0, none⟩), .pointer (some ⟨b4, 0, none⟩), .pointer (some ⟨b5, 0, none⟩), .slice (some ⟨bt, 0, none⟩) (k + 1) 1, i6 ((k + 1 : Nat) : Int), i6 (i : Int)]) ?_ _ _ _
    ⟨0, ztab k (k + 1), rfl, by omega, HZ.refl _ _ _, o5, by simp, by omega, fun j hj => by rw [row_ztab hj]; simp; omega, rfl⟩
  rintro d vs h6 ⟨i, Z, rfl, hi, hz, oz, zl, zr, zn, rfl⟩ K K1 hK hK1
  refine wl_impl_Plane_cut_0 ?_
  have E6 := hz.out E5 (by omega)
  by_cases hlt : i < k + 1
  · have g : (i : Int) < ((k + 1 : Nat) : Int) := by omega
    obtain ⟨q1, q2⟩ := oz.rt.at 1 (e := i) (i := i) (n := k + 1) rfl zl.symm (by omega)
    obtain ⟨p1, p2⟩ := (hT.mono E6).at c (e := i) (i := i) (n := T.length) rfl rfl (by omega)
    have hb6 := box2 (hz.to (e35.to (e3.to B2 (by omega)) (by omega)) (by omega) (by omega))
    simp only [q_impl_Plane_cut_0, bin_lss, g, decide_true, bindO_some, condM_true, q1, q2, fieldAddr_ptr, Nat.zero_add, hb6, p1, p2]
    have hzi := oz.rows i (by omega)
    refine copyI (xs := row T i) hzi rfl ((hT.mono E6).rows i (by omega)) rfl (by rw [zn i hlt, hrl i (by omega)]; omega) (by rw [zn i hlt]; omega) fun v h7 u7 => ?_
    rw [zn i hlt] at u7
    simp only [bin_add, bindO_some, wrapI (n := (i : Int) + 1) (by omega) (by omega)]
    have hri := hrl i (by omega)
    have lt : ((row T i).take (k + 1 - i)).length = k + 1 - i := by simp; omega
    have oz7 := oz.set (i := i) (xs := (row T i).take (k + 1 - i)) (by omega) (by rw [lt, zn i hlt]) u7
    refine hK _ _ _ (by omega) ⟨i + 1, _, rfl, by omega, hz.upd u7 (hlb i hlt) (hub i hlt), oz7, by simp [zl], fun j hj => ?_, fun j hj => ?_, rfl⟩
    · rw [row_set]
      by_cases hji : i = j
      · subst hji; rw [if_pos ⟨rfl, by omega⟩, take_row (by omega)]
      · rw [if_neg (fun h => hji h.1)]; exact zr j (by omega)
    · rw [row_set]
      by_cases hji : i = j
      · subst hji; rw [if_pos ⟨rfl, by omega⟩, lt]
      · rw [if_neg (fun h => hji h.1)]; exact zn j hj
  · have g : ¬ (i : Int) < ((k + 1 : Nat) : Int) := by omega
    simp only [q_impl_Plane_cut_0, bin_lss, g, decide_false, bindO_some, condM_false]
    refine hK1 _ _ fun ev hev => ?_
    simp only [List.cons.injEq, and_true] at hev
    obtain ⟨g4, g5⟩ := hev
    have hb5 := box2 (hz.to u5.bk (by omega) (by omega))
    simp only [g4, g5, hb5, bindO_some]
    refine storeBox2 (hz.to (e35.to (e3.to eB4 (by omega)) (by omega)) (by omega) (by omega)) rfl rfl rfl rfl fun h7 u7 => ?_
    simp only [box2 u7.bk, bindO_some]
    have hZ : Z = cutT k T := rows_ext (by rw [zl]; simp) fun j hj => by rw [zr j (by omega), row_cutT (by omega)]
    rw [hZ] at oz
    exact hR _ _ (u7.he E6 (by omega)) ⟨bt, rb, by simp, (oz.upd u7 (by omega)).lower (by omega)⟩

theorem s_impl_pointed {m : Int} {A B : Option Addr} {Rr Rp : Nat → Option Addr} {T P : List (List Int)} {n n2 c k : Nat} {h : Hp} {R : Value → Hp → Prop} (hT : RT h A Rr T) (hP : RT h B Rp P) (hn : n = T.length) (hn2 : n2 = P.length) (hl : n ≤ 1000000) (hrl : ∀ i, i < T.length → (row T i).length ≤ 1000000)
    (hp0 : 0 < P.length) (hk : k = (row P 0).length) (hp1 : n2 ≤ 1000000) (hpl : ∀ i, i < P.length → (row P i).length ≤ 1000000) (hm : 0 ≤ m ∧ m ≤ 1000000) (hR : ∀ h', HE h h' → R (i6 (codeP m T P)) h') : CallW FF n_impl_pointed [sv m A n c, i6 (k : Int), .slice B n2 1] h R := by
  subst hn; subst hn2
  refine w_impl_pointed ?_
  unfold p_impl_pointed
  simp only [boxV_is, bindO_some]
  refine newB_i fun b h1 eb en eh eB => ?_
  simp only [box2 eB, bindO_some]
  refine s_impl_IsLaw (hT.mono eh) rfl hl hrl fun h2 e2 => ?_
  have E2 := eh.trans e2
  by_cases hlaw : LawT m T
  case neg =>
    have hc : codeP m T P = 1 := by unfold codeP; rw [if_pos hlaw]
    have h3 := hR _ E2
    rw [hc] at h3
    simpa [hlaw] using h3
  simp only [hlaw, decide_true, un_not, Bool.not_true, bindO_some, condM_false, box2 (e2.to eB (by omega))]
  refine s_impl_Plane_degree (by omega) fun h3 e3 => s_impl_in ?_
  have E3 := E2.trans e3
  have bad : ∀ i, i < P.length → ¬ PtOk m T.length (row P 0).length (row P i) → codeP m T P = 2 := fun i hi hb => by
    unfold codeP; rw [if_neg (not_not_intro hlaw), if_neg fun hall => hb (hall i hi)]
  by_cases hin : (1 : Int) ≤ (k : Int) ∧ (k : Int) ≤ (T.length : Int) - 1
  case neg =>
    simp only [hin, decide_false, un_not, Bool.not_false, bindO_some, condM_true]
    have h4 := hR _ E3
    rwa [bad 0 hp0 fun h => hin (by have := h.1; omega)] at h4
  simp only [hin, and_self, decide_true, un_not, Bool.not_true, bindO_some, condM_false, len_slice]
  refine LP2 (fun d vs h' => ∃ i : Nat, d = P.length - i ∧ i ≤ P.length ∧ HE h3 h' ∧ vs = [i6 (k : Int), .pointer (some ⟨b, 0, none⟩), .slice B P.length 1, i6 (P.length : Int), i6 i] ∧ ∀ j, j < i → PtOk m T.length (row P 0).length (row P j)) ?_ _ _ _ ⟨0, rfl, by omega, HE.refl _, rfl, by omega⟩
  rintro d vs h4 ⟨i, rfl, hi, e4, rfl, hI⟩ K K1 K2 hK hK1 hK2
  refine wl_impl_pointed_0 ?_
  have B4 := (e2.trans (e3.trans e4)).to eB (by omega)
  have E4 := E3.trans e4
  by_cases hlt : i < P.length
  · have g : (i : Int) < (P.length : Int) := by omega
    obtain ⟨q1, q2⟩ := (hP.mono E4).at 1 (e := i) (i := i) (n := P.length) rfl rfl hlt
    simp only [q_impl_pointed_0, bin_lss, g, decide_true, bindO_some, condM_true, q1, q2, len_slice, bin_neq]
    by_cases hlen : (row P i).length = k
    case neg =>
      have g : ¬ (((row P i).length : Int) = (k : Int)) := by omega
      simp only [g, decide_false, Bool.not_false, condM_true]
      refine hK2 _ _ fun ev hev => ?_
      simp at hev; rw [hev]
      have := hR _ E4
      rwa [bad i hlt fun h => hlen (by rw [hk]; exact h.2.1)] at this
    have g : (((row P i).length : Int) = (k : Int)) := by omega
    simp only [g, decide_true, Bool.not_true, condM_false]
    refine s_allI (p := fun x => decide (0 ≤ x ∧ x < m)) ((hP.mono E4).rows i hlt) rfl (hpl i hlt) ?_ fun h5 e5 => ?_
    · intro x hx h5 R5 e5 hR5
      show CallW FF n_impl_pointed_c1 _ _ _
      refine w_impl_pointed_c1 ?_
      simp [p_impl_pointed_c1, box2 (e5.to B4 (by have := e4.nx; have := e3.nx; have := e2.nx; omega))]
      have := hR5 _ (HE.refl _)
      exact s_impl_isNumber (by omega) (by omega) (by simpa using this)
    · rw [nums_all]
      have E5 := E4.trans e5
      by_cases hnum : Nums m (row P i)
      · simp only [hnum, decide_true, un_not, Bool.not_true, bindO_some, condM_false, bin_add, wrapI (n := (i : Int) + 1) (by omega) (by omega)]
        refine hK _ _ _ (by omega) ⟨i + 1, rfl, by omega, e4.trans e5, rfl, fun j hj => ?_⟩
        by_cases hji : j = i
        · subst hji; exact ⟨by omega, by omega, hnum⟩
        · exact hI j (by omega)
      · simp only [hnum, decide_false, un_not, Bool.not_false, bindO_some, condM_true]
        refine hK2 _ _ fun ev hev => ?_
        simp at hev; rw [hev]
        have := hR _ E5
        rwa [bad i hlt fun h => hnum h.2.2] at this
  · have g : ¬ (i : Int) < (P.length : Int) := by omega
    simp only [q_impl_pointed_0, bin_lss, g, decide_false, bindO_some, condM_false]
    refine hK1 _ _ fun _ _ => ?_
    have := hR _ E4
    have hc : codeP m T P = 0 := by unfold codeP; rw [if_neg (not_not_intro hlaw), if_pos fun j hj => hI j (by omega)]
    rwa [hc] at this

theorem s_impl_countAtMost {m k : Nat} {h : Hp} {R : Value → Hp → Prop} (hm : 2 ≤ m) (hm2 : m ≤ 1000000) (hk : k ≤ 1000000) (hR : R (i6 (sizeR m k 1000000000000 : Nat)) h) : CallW FF n_impl_countAtMost [i6 (m : Int), i6 (k : Int), i6 1000000000000] h R := by
  refine w_impl_countAtMost ?_
  refine LP2 (fun d vs h' => ∃ j : Nat, d = k - j ∧ j ≤ k ∧ h' = h ∧ m ^ j ≤ 1000000000000 ∧ vs = [i6 m, i6 1000000000000, i6 (m ^ j : Nat), i6 (k : Int), i6 (j : Int)]) ?_ _ _ _ ⟨0, rfl, by omega, rfl, by simp, rfl⟩
  rintro d vs h3 ⟨j, rfl, hij, rfl, hj, rfl⟩ K K1 K2 hK hK1 hK2
  refine wl_impl_countAtMost_0 ?_
  by_cases h0 : j < k
  · have g : (j : Int) < (k : Int) := by omega
    have q : binV .quo (i6 1000000000000) (i6 (m : Int)) = some (i6 ((1000000000000 / m : Nat) : Int)) := quoN (n := 1000000000000) hm (by omega)
    simp only [q_impl_countAtMost_0, bin_lss, g, decide_true, bindO_some, condM_true, q, bin_gtr]
    have hdiv : 1000000000000 / m < m ^ j ↔ 1000000000000 < m ^ (j + 1) := by
      rw [Nat.pow_succ, Nat.div_lt_iff_lt_mul (by omega)]
    by_cases hs : 1000000000000 / m < m ^ j
    · have g2 : ((1000000000000 / m : Nat) : Int) < ((m ^ j : Nat) : Int) := by exact_mod_cast hs
      simp only [g2, decide_true, condM_true, bin_add, bindO_some, wrapI (n := (1000000000000 : Int) + 1) (by omega) (by omega)]
      refine hK2 _ _ fun ev hev => ?_
      simp at hev; rw [hev]
      rw [sizeR_stop (by omega) (show j + 1 ≤ k by omega) (hdiv.1 hs)] at hR
      exact hR
    · have g2 : ¬ ((1000000000000 / m : Nat) : Int) < ((m ^ j : Nat) : Int) := by exact_mod_cast hs
      have hb : m ^ (j + 1) ≤ 1000000000000 := by
        rcases Nat.lt_or_ge 1000000000000 (m ^ (j + 1)) with h1 | h1
        · exact absurd (hdiv.2 h1) hs
        · exact h1
      have e1 : ((m ^ j : Nat) : Int) * (m : Int) = ((m ^ (j + 1) : Nat) : Int) := by rw [Nat.pow_succ, Int.natCast_mul]
      simp only [g2, decide_false, condM_false, bin_mul, e1, bin_add, bindO_some, wrapI (n := ((m ^ (j + 1) : Nat) : Int)) (by omega) (by omega), wrapI (n := (j : Int) + 1) (by omega) (by omega)]
      exact hK _ _ _ (by omega) ⟨j + 1, rfl, by omega, rfl, hb, rfl⟩
  · have g : ¬ (j : Int) < (k : Int) := by omega
    simp only [q_impl_countAtMost_0, bin_lss, g, decide_false, bindO_some, condM_false]
    refine hK1 _ _ fun ev hev => ?_
    simp at hev; rw [hev]
    have : sizeR m k 1000000000000 = m ^ j := by unfold sizeR; rw [show k = j by omega, if_pos hj]
    rwa [this] at hR
end XM

/- Points of the program: factors and the functions of the package. -/
namespace XM
open Go

theorem rowV_2i (z : Value) (k : IntKind) (a b : Int) : rowV 1 2 [z] [(0, .int k a), (1, .int k b)] = some [.int k a, .int k b] := by simp [rowV, rowFill, reps]

/-- Prime factors with exponents: the primes are those of L. -/
def FacT (L : List Nat) (F : List (List Int)) : Prop := F.length = L.length ∧ ∀ i (hi : i < L.length), (row F i).length = 2 ∧ gt (row F i) 0 = (L[i] : Nat)

theorem FacT.push {L : List Nat} {F : List (List Int)} (f : FacT L F) (q : Nat) (e : Int) : FacT (L ++ [q]) (F ++ [[(q : Int), e]]) := by
  refine ⟨by simp [f.1], fun i hi => ?_⟩
  rw [row_app]
  by_cases h : i < L.length
  · rw [if_pos (by rw [f.1]; exact h), List.getElem_append_left h]; exact f.2 i h
  · have : i = L.length := by simp at hi; omega
    subst this
    rw [if_neg (by rw [f.1]; omega), if_pos f.1.symm]
    simp [gt]

theorem s_impl_factors {m : Nat} {h : Hp} {R : Value → Hp → Prop} (hm : 1 ≤ m) (hm2 : m ≤ 1000000) (hR : ∀ v h' L F, HE h h' → PL m L → L.length ≤ 1000002 → FacT L F → FT h h' v F → R v h') : CallW FF n_impl_factors [i6 (m : Int)] h R := by
  refine w_impl_factors ?_
  unfold p_impl_factors
  simp only [rowV_nil, bindO_some]
  refine newB_i fun b0 h1 eb en eh eB => ?_
  refine LP1 (fun d vs h' => ∃ (n q b : Nat) (rb : Nat → Nat) (L : List Nat) (F : List (List Int)), d = n + 1 - q ∧ 2 ≤ q ∧ q ≤ m + 2 ∧ n ≤ m ∧ PI m q n L ∧ L.length + 2 ≤ q ∧ FacT L F ∧ vs = [i6 (n : Int), .slice (some ⟨b, 0, none⟩) F.length 1, i6 (q : Int)] ∧ HE h h' ∧ OT h.nx h' b rb F)
    ?_ _ _ _ ⟨m, 2, b0, fun _ => 0, [], [], rfl, by omega, by omega, by omega, PI.init hm, by simp, ⟨rfl, by simp⟩, rfl, eh, OT.nil _ (by omega) (by omega) eB⟩
  rintro d vs h2 ⟨n, q, b, rb, L, F, rfl, hq, hq2, hn, I, hL, hF, rfl, e2, o2⟩ K K1 hK hK1
  refine wl_impl_factors_1 ?_
  have n1 := I.n1
  by_cases h1 : 1 < n
  · have g : (1 : Int) < (n : Int) := by omega
    have hqn := I.le h1
    simp only [q_impl_factors_1, bin_gtr, g, decide_true, bindO_some, condM_true]
    refine ⟨fun vs h' => ∃ q' : Nat, h' = h2 ∧ q ≤ q' ∧ q' ≤ n ∧ PI m q' n L ∧ vs = [i6 (n : Int), .slice (some ⟨b, 0, none⟩) F.length 1, i6 (q' : Int)], ?_, ?_⟩
    · rintro vs h3 ⟨q', rfl, c1, c2, I', rfl⟩ e he
      simp only [List.cons.injEq, and_true] at he
      obtain ⟨g0, g3, g4⟩ := he
      rw [g0, g3, g4]
      have hq' : 2 ≤ q' := by omega
      refine LP1 (fun d vs h' => ∃ k : Nat, h' = h3 ∧ 0 < d ∧ d ≤ n ∧ k + d ≤ n ∧ strip q' d = strip q' n ∧ (k = 0 → d = n) ∧ (0 < k → n % q' = 0) ∧ vs = [i6 (d : Int), .slice (some ⟨b, 0, none⟩) F.length 1, i6 (q' : Int), i6 (k : Int)]) ?_ n _ _ ⟨0, rfl, by omega, by omega, by omega, rfl, fun _ => rfl, by omega, rfl⟩
      rintro d vs h4 ⟨k, rfl, d0, dn, kn, hs, hk0, hk1, rfl⟩ K' K1' hK' hK1'
      refine wl_impl_factors_0 ?_
      simp only [q_impl_factors_0, remN hq', bindO_some, bin_eql]
      by_cases hd : d % q' = 0
      · have g : ((d % q' : Nat) : Int) = 0 := by omega
        have hlt : d / q' < d := Nat.div_lt_self d0 hq'
        simp only [g, decide_true, condM_true, quoN hq' (show d ≤ 4000000000000 by omega), bin_add, bindO_some, wrapI (n := (k : Int) + 1) (by omega) (by omega)]
        have hdn : n % q' = 0 := by
          rcases Nat.eq_zero_or_pos k with h0 | h0
          · rw [← hk0 h0]; exact hd
          · exact hk1 h0
        exact hK' (d / q') _ _ hlt ⟨k + 1, rfl, div_pos_of d0 hd, by omega, by omega, by rw [← hs, strip_yes hq' d0 hd], by omega, fun _ => hdn, rfl⟩
      · have g : ¬ ((d % q' : Nat) : Int) = 0 := by omega
        simp only [g, decide_false, condM_false]
        refine hK1' _ _ fun ev hev => ?_
        simp only [List.cons.injEq, and_true] at hev
        obtain ⟨g0, g3, g4, g5⟩ := hev
        simp only [g0, g3, g4, g5, bin_gtr, bindO_some]
        have hsd : strip q' n = d := by rw [← hs, strip_no hd]
        have w1 : IntKind.i64.wrap ((q' : Int) + 1) = q' + 1 := wrapI (by omega) (by omega)
        by_cases hk : 0 < k
        · have g : (0 : Int) < (k : Int) := by omega
          have I2 := I'.yes hq' (hk1 hk)
          rw [hsd] at I2
          simp only [g, decide_true, condM_true, rowV_2i, bindO_some]
          refine newB_i fun r h5 er en5 eh5 eR => ?_
          simp only [rowV_slice, bindO_some]
          have hFl := hF.1
          refine push1 (o2.mono eh5).top (o2.mono eh5).ltb (by simp) (by unfold sizeMax; omega) fun b' h6 u => ?_
          simp only [bin_add, bindO_some, w1]
          have op := o2.push (xs := [(q' : Int), (k : Int)]) eh5 (by have := e2.nx; omega) (by omega) (by omega) rfl eR u
          exact hK _ _ _ (by omega) ⟨d, q' + 1, b', _, L ++ [q'], F ++ [[(q' : Int), (k : Int)]], rfl, by omega, by omega, by omega, I2, by simp; omega, hF.push _ _, by simp, u.he (e2.trans eh5) o2.lob, op⟩
        · have g : ¬ (0 : Int) < (k : Int) := by omega
          have hdn : d = n := hk0 (by omega)
          have I2 := I'.no (by rw [← hdn]; exact hd)
          simp only [g, decide_false, condM_false, bin_add, bindO_some, w1]
          exact hK _ _ _ (by omega) ⟨d, q' + 1, b, rb, L, F, rfl, by omega, by omega, by omega, by rw [hdn]; exact I2, by omega, hF, rfl, e2, o2⟩
    · have hqq : q * q ≤ 1000002 * 1000002 := Nat.mul_le_mul (by omega) (by omega)
      have e1 : (q : Int) * (q : Int) = ((q * q : Nat) : Int) := by rw [Int.natCast_mul]
      simp only [bin_mul, e1, bindO_some, wrapI (n := ((q * q : Nat) : Int)) (by omega) (by omega), bin_gtr]
      by_cases hj : n < q * q
      · have g : (n : Int) < ((q * q : Nat) : Int) := by omega
        simp only [g, decide_true, condM_true]
        exact ⟨n, by simp, hqn, by omega, I.jump hq hj h1, by simp⟩
      · have g : ¬ (n : Int) < ((q * q : Nat) : Int) := by omega
        simp only [g, decide_false, condM_false]
        exact ⟨q, by simp, by omega, hqn, I, by simp⟩
  · have g : ¬ (1 : Int) < (n : Int) := by omega
    simp only [q_impl_factors_1, bin_gtr, g, decide_false, bindO_some, condM_false]
    refine hK1 _ _ fun ev hev => ?_
    simp only [List.cons.injEq, and_true] at hev
    rw [hev]
    have : n = 1 := by omega
    subst this
    exact hR _ _ L F e2 I.fin (by omega) hF ⟨b, rb, rfl, o2⟩

theorem s_impl_SumOfPoints {m : Int} {A B C : Option Addr} {Rr : Nat → Option Addr} {T : List (List Int)} {x y : List Int} {n n2 n3 c : Nat} {h : Hp} {R : Value → Hp → Prop} (hT : RT h A Rr T) (hx : RI h B x) (hy : RI h C y) (hn : n = T.length) (hn2 : n2 = x.length) (hn3 : n3 = y.length)
    (hl : n ≤ 1000000) (hrl : ∀ i, i < T.length → (row T i).length ≤ 1000000) (hm : 0 ≤ m ∧ m ≤ 1000000) (hxl : x.length ≤ 1000000) (hyl : y.length ≤ 1000000)
    (hR : ∀ v h', HE h h' → LiR h' v (sumPR m T x y).1 → R (.tuple #[v, i6 (sumPR m T x y).2]) h') : CallW FF n_impl_SumOfPoints [sv m A n c, .slice B n2 1, .slice C n3 1] h R := by
  subst hn; subst hn2; subst hn3
  refine w_impl_SumOfPoints ?_
  unfold p_impl_SumOfPoints
  simp only [boxV_is, bindO_some]
  refine newB_i fun b h1 eb en eh eB => ?_
  simp only [box2 eB, bindO_some, rowV_2, len_slice]
  refine newB_i fun b2 h2 eb2 en2 eh2 eB2 => ?_
  have E2 := eh.trans eh2
  refine s_impl_pointed (P := [x, y]) (k := x.length) (hT.mono E2) (rt2 (hx.mono E2) (hy.mono E2) (by omega) eB2) rfl rfl hl hrl (by simp) rfl (by simp) (fun i hi => by
    simp at hi
    rcases Nat.eq_zero_or_pos i with h0 | h0
    · subst h0; exact hxl
    · rw [show i = 1 by omega]; exact hyl) hm fun h3 e3 => ?_
  have E3 := E2.trans e3
  simp only [bin_neq, bindO_some]
  by_cases hc : codeP m T [x, y] = 0
  case neg =>
    simp only [hc, decide_false, Bool.not_false, condM_true]
    have := hR (.slice none 0 0) _ E3
    unfold sumPR at this
    rw [if_pos hc] at this
    exact this (LiR.zero _)
  obtain ⟨law, k1, k2, nx, m1, hTl, hr, lc⟩ := pt_facts hc
  obtain ⟨hyx, ny⟩ := pt_facts2 hc
  have B3 := (eh2.trans e3).to eB (by omega)
  have n3 := (eh2.trans e3).nx
  simp only [hc, decide_true, Bool.not_true, condM_false, box2 B3, bindO_some]
  refine s_impl_Plane_cut (k := x.length) (hT.mono E3) rfl k2 hl hr fun v h4 e4 f4 => ?_
  obtain ⟨q, rb, rfl, o4⟩ := f4
  have E4 := E3.trans e4
  have n4 := e4.nx
  refine newB_i fun b9 h5 eb5 en5 eh5 eB5 => ?_
  refine storeBox2 eB5 rfl rfl rfl rfl fun h6 u6 => ?_
  have e46 : HE h4 h6 := u6.he eh5 (by omega)
  have n6 := e46.nx
  have E6 := E4.trans e46
  have B6 := e46.to (e4.to B3 (by omega)) (by omega)
  simp only [box2 u6.bk, fieldAddr_ptr, Nat.zero_add, box2 B6, bindO_some, inB_ptr]
  refine ⟨by have := u6.nx; omega, ?_⟩
  refine s_impl_curveOf (hx.mono E6) rfl k1 hxl fun v h7 e7 f7 => ⟨e7.keep, by omega, ?_⟩
  obtain ⟨w, rfl, w1, w2, w3⟩ := f7
  have n7 := e7.nx
  simp only [box2 (e7.to B6 (by omega)), bindO_some]
  refine s_impl_curveOf (hy.mono (E6.trans e7)) rfl (by omega) hyl fun v h8 e8 f8 => ⟨e8.keep' e7.nx, ?_⟩
  obtain ⟨z, rfl, z1, z2, z3⟩ := f8
  have cx := cv_cons (m := m) (D := x.length) (by omega) rfl nx
  have cy := cv_cons (m := m) (D := x.length) (by omega) hyx ny
  have t := lc.tri
  refine s_impl_Plane_curves (D := x.length) ((o4.mono e46).mono (e7.trans e8)).rt (RI.of_block (Nat.lt_of_lt_of_le w2 e8.nx) (e8.to w3 w2)) (RI.of_block z2 z3) (by simp) (by simp) (by simp [hyx]) t.len cx.len cy.len (fun i hi => by have := (t.rows i hi).1; omega) (fun i hi => (t.rows i hi).2) m1.1 (by omega) cx.nums cy.nums (by omega) rfl rfl fun v h9 e9 f9 => ?_
  obtain ⟨r, rfl, r1, r2, r3⟩ := f9
  obtain ⟨s1, s2⟩ := RI.tail (k := x.length) r2 r3 (by simp)
  have hfv : fieldV 1 1 false (sv m (some ⟨r, 0, none⟩) (putL m x.length (cutT x.length T) (0 :: x) (0 :: y)).length 1) = some (.slice (some ⟨r, 0, none⟩) (putL m x.length (cutT x.length T) (0 :: x) (0 :: y)).length 1) := rfl
  simp only [hfv, bindO_some, s1]
  have lt : (putL m x.length (cutT x.length T) (0 :: x) (0 :: y)).tail.length = x.length := by simp
  have := hR (.slice (some ⟨r, 1, none⟩) x.length 1) _ (((E6.trans e7).trans e8).trans e9)
  unfold sumPR at this
  rw [if_neg (not_not_intro hc)] at this
  exact this ⟨_, 1, by rw [lt], s2, fun _ => rfl⟩

theorem s_impl_MultipleOfPoint {m N : Int} {A B : Option Addr} {Rr : Nat → Option Addr} {T : List (List Int)} {x : List Int} {n n2 c : Nat} {h : Hp} {R : Value → Hp → Prop} (hT : RT h A Rr T) (hx : RI h B x) (hn : n = T.length) (hn2 : n2 = x.length)
    (hl : n ≤ 1000000) (hrl : ∀ i, i < T.length → (row T i).length ≤ 1000000) (hm : 0 ≤ m ∧ m ≤ 1000000) (hxl : x.length ≤ 1000000)
    (hR : ∀ v h', HE h h' → LiR h' v (mulPR m T N x).1 → R (.tuple #[v, i6 (mulPR m T N x).2]) h') : CallW FF n_impl_MultipleOfPoint [sv m A n c, i6 N, .slice B n2 1] h R := by
  subst hn; subst hn2
  refine w_impl_MultipleOfPoint ?_
  unfold p_impl_MultipleOfPoint
  simp only [boxV_is, bindO_some]
  refine newB_i fun b h1 eb en eh eB => ?_
  simp only [box2 eB, bindO_some, rowV_slice, len_slice]
  refine newB_i fun b2 h2 eb2 en2 eh2 eB2 => ?_
  have E2 := eh.trans eh2
  refine s_impl_pointed (P := [x]) (k := x.length) (hT.mono E2) (rt1 (hx.mono E2) (by omega) eB2) rfl rfl hl hrl (by simp) rfl (by simp) (fun i hi => by simp at hi; subst hi; exact hxl) hm fun h3 e3 => ?_
  have E3 := E2.trans e3
  simp only [bin_neq, bindO_some]
  by_cases hc : codeP m T [x] = 0
  case neg =>
    simp only [hc, decide_false, Bool.not_false, condM_true]
    have := hR (.slice none 0 0) _ E3
    unfold mulPR at this
    rw [if_pos hc] at this
    exact this (LiR.zero _)
  obtain ⟨law, k1, k2, nx, m1, hTl, hr, lc⟩ := pt_facts hc
  have B3 := (eh2.trans e3).to eB (by omega)
  have n3 := (eh2.trans e3).nx
  simp only [hc, decide_true, Bool.not_true, condM_false]
  refine s_impl_in ?_
  by_cases hN : -1000000000000 ≤ N ∧ N ≤ 1000000000000
  case neg =>
    simp only [hN, decide_false, un_not, Bool.not_false, bindO_some, condM_true]
    have := hR (.slice none 0 0) _ E3
    unfold mulPR at this
    rw [if_neg (not_not_intro hc), if_pos hN] at this
    exact this (LiR.zero _)
  simp only [hN, and_self, decide_true, un_not, Bool.not_true, bindO_some, condM_false, fieldAddr_ptr, Nat.zero_add, box2 B3, inB_ptr]
  refine s_impl_Plane_cut (k := x.length) (hT.mono E3) rfl k2 hl hr fun v h4 e4 f4 => ⟨e4.keep, by omega, ?_⟩
  obtain ⟨q, rb, rfl, o4⟩ := f4
  have E4 := E3.trans e4
  have n4 := e4.nx
  simp only [box2 (e4.to B3 (by omega)), bindO_some]
  refine s_impl_curveOf (hx.mono E4) rfl k1 hxl fun v h5 e5 f5 => ?_
  obtain ⟨w, rfl, w1, w2, w3⟩ := f5
  have cx := cv_cons (m := m) (D := x.length) (by omega) rfl nx
  refine s_impl_Plane_multiple (D := x.length) (o4.mono e5).rt (RI.of_block w2 w3) (by simp) (by simp) lc.tri m1.1 (by omega) (by omega) k1 cx.len cx.nums (by omega) (by omega) rfl fun v h6 e6 f6 => ?_
  obtain ⟨r, rfl, r1, r2, r3⟩ := f6
  obtain ⟨s1, s2⟩ := RI.tail (k := x.length) r2 r3 mulN_len
  have hfv : fieldV 1 1 false (sv m (some ⟨r, 0, none⟩) (mulN m x.length (cutT x.length T) N (0 :: x)).length 1) = some (.slice (some ⟨r, 0, none⟩) (mulN m x.length (cutT x.length T) N (0 :: x)).length 1) := rfl
  simp only [hfv, bindO_some, s1]
  have lt : (mulN m x.length (cutT x.length T) N (0 :: x)).tail.length = x.length := by rw [List.length_tail, mulN_len]; rfl
  refine s_impl_copyOf_int64 s2 lt.symm k1 hxl fun v h7 e7 f7 => ?_
  have := hR v _ (((E4.trans e5).trans e6).trans e7)
  unfold mulPR at this
  rw [if_neg (not_not_intro hc), if_neg (not_not_intro hN)] at this
  exact this f7.li

theorem s_impl_OppositePoint {m : Int} {A B : Option Addr} {Rr : Nat → Option Addr} {T : List (List Int)} {x : List Int} {n n2 c : Nat} {h : Hp} {R : Value → Hp → Prop} (hT : RT h A Rr T) (hx : RI h B x) (hn : n = T.length) (hn2 : n2 = x.length)
    (hl : n ≤ 1000000) (hrl : ∀ i, i < T.length → (row T i).length ≤ 1000000) (hm : 0 ≤ m ∧ m ≤ 1000000) (hxl : x.length ≤ 1000000)
    (hR : ∀ v h', HE h h' → LiR h' v (mulPR m T (-1) x).1 → R (.tuple #[v, i6 (mulPR m T (-1) x).2]) h') : CallW FF n_impl_OppositePoint [sv m A n c, .slice B n2 1] h R := by
  refine w_impl_OppositePoint ?_
  unfold p_impl_OppositePoint
  simp only [boxV_is, bindO_some]
  refine newB_i fun b h1 eb en eh eB => ?_
  simp only [box2 eB, bindO_some]
  refine s_impl_MultipleOfPoint (hT.mono eh) (hx.mono eh) hn hn2 hl hrl hm hxl fun v h2 e2 l2 => ?_
  have ex : ∀ (a b : Value), extractV 0 (.tuple #[a, b]) = some a ∧ extractV 1 (.tuple #[a, b]) = some b := fun _ _ => ⟨rfl, rfl⟩
  simp only [ex, bindO_some]
  exact hR _ _ (eh.trans e2) l2
end XM

/- Points of the program: orders. -/
namespace XM
open Go

theorem s_impl_OrderOfPointUnder {m : Int} {A B : Option Addr} {Rr : Nat → Option Addr} {T : List (List Int)} {x : List Int} {n n2 c : Nat} {h : Hp} {R : Value → Hp → Prop} (hT : RT h A Rr T) (hx : RI h B x) (hn : n = T.length) (hn2 : n2 = x.length)
    (hl : n ≤ 1000000) (hrl : ∀ i, i < T.length → (row T i).length ≤ 1000000) (hm : 0 ≤ m ∧ m ≤ 1000000) (hxl : x.length ≤ 1000000)
    (hR : ∀ h', HE h h' → R (.tuple #[i6 (ordPR m T x).1, i6 (ordPR m T x).2]) h') : CallW FF n_impl_OrderOfPointUnder [sv m A n c, .slice B n2 1] h R := by
  subst hn; subst hn2
  refine w_impl_OrderOfPointUnder ?_
  unfold p_impl_OrderOfPointUnder
  simp only [boxV_is, bindO_some]
  refine newB_i fun b h1 eb en eh eB => ?_
  simp only [box2 eB, bindO_some, rowV_slice, len_slice]
  refine newB_i fun b2 h2 eb2 en2 eh2 eB2 => ?_
  have E2 := eh.trans eh2
  refine s_impl_pointed (P := [x]) (k := x.length) (hT.mono E2) (rt1 (hx.mono E2) (by omega) eB2) rfl rfl hl hrl (by simp) rfl (by simp) (fun i hi => by simp at hi; subst hi; exact hxl) hm fun h3 e3 => ?_
  have E3 := E2.trans e3
  simp only [bin_neq, bindO_some]
  by_cases hc : codeP m T [x] = 0
  case neg =>
    simp only [hc, decide_false, Bool.not_false, condM_true]
    have := hR _ E3
    unfold ordPR at this
    rw [if_pos hc] at this
    exact this
  obtain ⟨law, k1, k2, nx, m1, hTl, hr, lc⟩ := pt_facts hc
  obtain ⟨M, rfl⟩ := Int.eq_ofNat_of_zero_le hm.1
  have B3 := (eh2.trans e3).to eB (by omega)
  have n3 := (eh2.trans e3).nx
  simp only [hc, decide_true, Bool.not_true, condM_false, fieldAddr_ptr, Nat.zero_add, box2 B3, bindO_some]
  refine s_impl_countAtMost (by omega) (by omega) (by omega) ?_
  simp only [bin_gtr, bindO_some]
  by_cases hs : 1000000000000 < sizeR M x.length 1000000000000
  · have g : (1000000000000 : Int) < (sizeR M x.length 1000000000000 : Nat) := by omega
    simp only [g, decide_true, condM_true]
    have := hR _ E3
    unfold ordPR at this
    rw [if_neg (not_not_intro hc), if_pos (by simpa using hs)] at this
    exact this
  have g : ¬ (1000000000000 : Int) < (sizeR M x.length 1000000000000 : Nat) := by omega
  have hsz : sizeR M x.length 1000000000000 = M ^ x.length ∧ M ^ x.length ≤ 1000000000000 := by
    unfold sizeR at hs ⊢
    split at hs
    · rename_i h4; rw [if_pos h4]; exact ⟨rfl, h4⟩
    · omega
  simp only [g, decide_false, condM_false, inB_ptr, box2 B3, bindO_some]
  refine s_impl_Plane_cut (k := x.length) (hT.mono E3) rfl k2 hl hr fun v h4 e4 f4 => ⟨e4.keep, by omega, ?_⟩
  obtain ⟨q, rb, rfl, o4⟩ := f4
  have E4 := E3.trans e4
  have n4 := e4.nx
  simp only [box2 (e4.to B3 (by omega)), bindO_some]
  refine s_impl_curveOf (hx.mono E4) rfl k1 hxl fun v h5 e5 f5 => ?_
  obtain ⟨w, rfl, w1, w2, w3⟩ := f5
  have n5 := e5.nx
  refine newB_i fun b8 h6 eb6 en6 eh6 eB6 => ?_
  refine newB_i fun b9 h7 eb7 en7 eh7 eB7 => ?_
  refine storeBox2 (eh7.to eB6 (by omega)) rfl rfl rfl rfl fun h8 u8 => ?_
  refine storeBox2 (u8.to eB7 (by omega)) rfl rfl rfl rfl fun h9 u9 => ?_
  have n8 := u8.nx; have n9 := u9.nx
  have e59 : HE h5 h9 := u9.he (u8.he (eh6.trans eh7) (by omega)) (by omega)
  have B8 := u9.to u8.bk (by omega)
  have B9 := u9.bk
  have E9 := (E4.trans e5).trans e59
  simp only [box2 ((e5.trans e59).to (e4.to B3 (by omega)) (by omega)), bindO_some]
  refine s_impl_factors (by omega) (by omega) fun v h10 L F e10 pl hLl fac f10 => ?_
  obtain ⟨p, rp, rfl, o10⟩ := f10
  have n10 := e10.nx
  have hprL := prL_eq pl
  have q2 : ∀ i (hi : i < L.length), 2 ≤ L[i] := fun i hi => ((pl.2 L[i]).1 (List.getElem_mem hi)).1.1
  have fin := hR
  unfold ordPR at fin
  rw [if_neg (not_not_intro hc), if_neg (by simpa using hs)] at fin
  simp only [Int.toNat_natCast, hprL] at fin
  rw [hsz.1]
  have pos : 0 < M ^ x.length := Nat.pow_pos (by omega)
  have hsm := hsz.2
  have E10 := E9.trans e10
  have B8 := e10.to B8 (by omega)
  have B9 := e10.to B9 (by omega)
  have oC := (o4.mono (e5.trans e59)).mono e10
  have rW : RI h10 (some ⟨w, 0, none⟩) (0 :: x) := RI.of_block (by have := e59.nx; omega) ((e59.trans e10).to w3 w2)
  have cx := cv_cons (m := (M : Int)) (D := x.length) (by omega) rfl nx
  have hFl := fac.1
  simp only [len_slice, bindO_some]
  refine LP1 (fun d vs h' => ∃ i o : Nat, d = L.length - i ∧ i ≤ L.length ∧ 0 < o ∧ o ≤ 1000000000000 ∧ ordF (KillP M T x) (L.drop i) o = ordF (KillP M T x) L (M ^ x.length) ∧ HE h10 h' ∧
      vs = [i6 (o : Int), .pointer (some ⟨b8, 0, none⟩), .pointer (some ⟨b9, 0, none⟩), .slice (some ⟨p, 0, none⟩) F.length 1, i6 (F.length : Int), i6 (i : Int)]) ?_ _ _ _ ⟨0, M ^ x.length, rfl, by omega, pos, hsm, rfl, HE.refl _, rfl⟩
  rintro d vs h11 ⟨i, o, rfl, hi, ho, ho2, hord, e11, rfl⟩ K K1 hK hK1
  refine wl_impl_OrderOfPointUnder_1 ?_
  by_cases hlt : i < L.length
  · have g : (i : Int) < (F.length : Int) := by omega
    obtain ⟨z1, z2⟩ := (o10.mono e11).rt.at 1 (e := i) (i := i) (n := F.length) rfl rfl (by omega)
    simp only [q_impl_OrderOfPointUnder_1, bin_lss, g, decide_true, bindO_some, condM_true, z1, z2]
    have hq := q2 i hlt
    obtain ⟨hf2, hf0⟩ := fac.2 i hlt
    have hdrop : L.drop i = L[i] :: L.drop (i + 1) := List.drop_eq_getElem_cons hlt
    rw [hdrop] at hord
    have hord : ordF (KillP M T x) (L.drop (i + 1)) (red (KillP M T x) L[i] o) = ordF (KillP M T x) L (M ^ x.length) := hord
    refine LP1 (fun d vs h' => 0 < d ∧ d ≤ 1000000000000 ∧ red (KillP M T x) L[i] d = red (KillP M T x) L[i] o ∧ HE h10 h' ∧
      vs = [i6 (d : Int), .pointer (some ⟨b8, 0, none⟩), .pointer (some ⟨b9, 0, none⟩), .slice (some ⟨rp i, 0, none⟩) (row F i).length 1, .slice (some ⟨p, 0, none⟩) F.length 1, i6 (F.length : Int), i6 (i : Int)]) ?_ o _ _ ⟨ho, ho2, rfl, e11, rfl⟩
    rintro d vs h12 ⟨d0, d1, hred, e12, rfl⟩ K' K1' hK' hK1'
    refine wl_impl_OrderOfPointUnder_0 ?_
    have leave : ∀ h13, HE h10 h13 → red (KillP M T x) L[i] d = d → K1' [i6 (d : Int), .pointer (some ⟨b8, 0, none⟩), .pointer (some ⟨b9, 0, none⟩), .slice (some ⟨p, 0, none⟩) F.length 1, i6 (F.length : Int), i6 (i : Int)] h13 := by
      intro h13 e13 hd
      refine hK1' _ _ fun ev hev => ?_
      simp only [List.cons.injEq, and_true] at hev
      obtain ⟨g1, g7, g8, g9, g10, g11⟩ := hev
      simp only [g1, g7, g8, g9, g10, g11, bin_add, bindO_some, wrapI (n := (i : Int) + 1) (by omega) (by omega)]
      refine hK _ _ _ (by omega) ⟨i + 1, d, rfl, by omega, d0, d1, ?_, e13, rfl⟩
      rw [← hord, ← hred, hd]
    obtain ⟨z1, z2⟩ := (o10.mono e12).rt.el 1 (e := 0) (i := i) (j := 0) (n := (row F i).length) (by omega) rfl rfl (by omega)
    rw [hf0] at z2
    simp only [q_impl_OrderOfPointUnder_0, z1, z2, bindO_some, remN hq, bin_eql]
    by_cases hd : d % L[i] = 0
    · have g : ((d % L[i] : Nat) : Int) = 0 := by omega
      have hdl : d / L[i] ≤ d := Nat.div_le_self _ _
      simp only [g, decide_true, condM_true, box2 (e12.to B8 (by omega)), box2 (e12.to B9 (by omega)), quoN hq (show d ≤ 4000000000000 by omega), bindO_some]
      refine s_impl_Plane_kills (D := x.length) (oC.mono e12).rt (rW.mono e12) (by simp) (by simp) lc.tri (by omega) (by omega) (by omega) k1 cx.len cx.nums (by generalize d / L[i] = z at hdl ⊢; omega) rfl fun h13 e13 => ?_
      obtain ⟨z1, z2⟩ := (o10.mono (e12.trans e13)).rt.el 1 (e := 0) (i := i) (j := 0) (n := (row F i).length) (by omega) rfl rfl (by omega)
      rw [hf0] at z2
      by_cases hk : KillP M T x (d / L[i])
      · have hk2 : mulN (M : Int) x.length (cutT x.length T) ((d / L[i] : Nat) : Int) (0 :: x) = zL x.length := hk
        rw [decide_eq_true hk2]
        simp only [condM_true, z1, z2, bindO_some, quoN hq (show d ≤ 4000000000000 by omega)]
        exact hK' (d / L[i]) _ _ (Nat.div_lt_self d0 hq) ⟨div_pos_of d0 hd, by omega, by rw [← hred, red_yes hq d0 hd hk], e12.trans e13, rfl⟩
      · have hk2 : ¬ mulN (M : Int) x.length (cutT x.length T) ((d / L[i] : Nat) : Int) (0 :: x) = zL x.length := hk
        rw [decide_eq_false hk2]
        simp only [condM_false]
        exact leave _ (e12.trans e13) (red_no fun hh => hk hh.2)
    · have g : ¬ ((d % L[i] : Nat) : Int) = 0 := by omega
      simp only [g, decide_false, condM_false]
      exact leave _ e12 (red_no fun hh => hd hh.1)
  · have g : ¬ (i : Int) < (F.length : Int) := by omega
    simp only [q_impl_OrderOfPointUnder_1, bin_lss, g, decide_false, bindO_some, condM_false]
    refine hK1 _ _ fun ev hev => ?_
    simp only [List.cons.injEq, and_true] at hev
    rw [hev]
    rw [List.drop_eq_nil_of_le (by omega)] at hord
    have hord : o = ordF (KillP M T x) L (M ^ x.length) := hord
    rw [hord]
    exact fin _ (E10.trans e11)
end XM

/- Products of series and the multiplicative law of the program. -/
namespace XM
open Go

theorem s_impl_Series_alike {m m2 : Int} {A B : Option Addr} {n n2 c c2 : Nat} {h : Hp} {R : Value → Hp → Prop} (hl : n ≤ 1000000) (hl2 : n2 ≤ 1000000)
    (hR : ∀ h', HE h h' → R (.bool (decide (m = m2 ∧ n = n2))) h') : CallW FF n_impl_Series_alike [sv m A n c, sv m2 B n2 c2] h R := by
  refine w_impl_Series_alike ?_
  unfold p_impl_Series_alike
  simp only [boxV_is, bindO_some]
  refine newB_i fun b h1 eb en eh eB => ?_
  refine newB_i fun b2 h2 eb2 en2 eh2 eB2 => ?_
  have E := eh.trans eh2
  have B1 := eh2.to eB (by omega)
  simp only [fieldAddr_ptr, Nat.zero_add, box2 B1, box2 eB2, bindO_some, bin_eql]
  by_cases hm : m = m2
  · simp only [hm, decide_true, condM_true, inB_ptr]
    refine s_impl_Series_degree (by omega) fun h3 e3 => ⟨e3.keep, by omega, ?_⟩
    simp only [box2 (e3.to eB2 (by omega)), bindO_some]
    refine s_impl_Series_degree (by omega) fun h4 e4 => ?_
    have := hR _ ((E.trans e3).trans e4)
    by_cases hn : n = n2
    · subst hn; simpa [hm] using this
    · have g : ¬ ((n : Int) - 1 = (n2 : Int) - 1) := by omega
      simpa [hm, hn, g] using this
  · simp only [hm, decide_false, condM_false]
    have := hR _ E
    simpa [hm] using this

/-- The code of two series. -/
def codeS (m m2 : Int) (xs ys : List Int) : Int := if ¬ (IsS m xs ∧ IsS m2 ys) then 1 else if ¬ (m = m2 ∧ xs.length = ys.length) then 2 else 0
theorem s_impl_bothSeries {m m2 : Int} {A B : Option Addr} {xs ys : List Int} {n n2 c c2 : Nat} {h : Hp} {R : Value → Hp → Prop} (hx : RI h A xs) (hy : RI h B ys) (hn : n = xs.length) (hn2 : n2 = ys.length) (hl : n ≤ 1000000) (hl2 : n2 ≤ 1000000)
    (hR : ∀ h', HE h h' → R (i6 (codeS m m2 xs ys)) h') : CallW FF n_impl_bothSeries [sv m A n c, sv m2 B n2 c2] h R := by
  refine w_impl_bothSeries ?_
  unfold p_impl_bothSeries
  simp only [boxV_is, bindO_some]
  refine newB_i fun b h1 eb en eh eB => ?_
  refine newB_i fun b2 h2 eb2 en2 eh2 eB2 => ?_
  have E := eh.trans eh2
  have B1 := eh2.to eB (by omega)
  refine ⟨fun vs h' => HE h2 h' ∧ vs = [.pointer (some ⟨b, 0, none⟩), .pointer (some ⟨b2, 0, none⟩), .bool (!decide (IsS m xs ∧ IsS m2 ys))], ?_, ?_⟩
  · rintro vs h3 ⟨e3, rfl⟩ e he
    simp only [List.cons.injEq, and_true] at he
    obtain ⟨g2, g3, g5⟩ := he
    have E3 := E.trans e3
    simp only [g2, g3, g5]
    by_cases hs : IsS m xs ∧ IsS m2 ys
    case neg =>
      have := hR _ E3
      unfold codeS at this
      rw [if_pos hs] at this
      simpa [hs] using this
    simp only [hs, and_self, decide_true, Bool.not_true, condM_false, box2 (e3.to B1 (by omega)), box2 (e3.to eB2 (by omega)), bindO_some]
    refine s_impl_Series_alike hl hl2 fun h4 e4 => ?_
    have := hR _ (E3.trans e4)
    unfold codeS at this
    rw [if_neg (not_not_intro hs), ← hn, ← hn2] at this
    by_cases ha : m = m2 ∧ n = n2
    · rw [if_neg (not_not_intro ha)] at this
      simp only [ha, and_self, decide_true, un_not, Bool.not_true, bindO_some, condM_false]
      exact this
    · rw [if_pos ha] at this
      simp only [ha, decide_false, un_not, Bool.not_false, bindO_some, condM_true]
      exact this
  · simp only [box2 B1, bindO_some]
    refine s_impl_IsSeries (hx.mono E) hn hl fun h3 e3 => ?_
    by_cases h1 : IsS m xs
    · simp only [h1, decide_true, un_not, Bool.not_true, bindO_some, condM_false, box2 (e3.to eB2 (by omega))]
      refine s_impl_IsSeries (hy.mono (E.trans e3)) hn2 hl2 fun h4 e4 => ?_
      simp only [un_not, bindO_some]
      exact ⟨e3.trans e4, by simp [h1]⟩
    · simp only [h1, decide_false, un_not, Bool.not_false, bindO_some, condM_true]
      exact ⟨e3, by simp [h1]⟩

theorem s_impl_MultiplySeries {m : Int} {A B : Option Addr} {xs ys : List Int} {N n n2 c : Nat} {h : Hp} {R : Value → Hp → Prop} (hx : RI h A xs) (hy : RI h B ys) (hn : n = N) (hn2 : n2 = N) (hxl : xs.length = N) (hyl : ys.length = N) (sx : IsS m xs) (sy : IsS m ys)
    (hR : ∀ v h', HE h h' → FS h h' v m (mulL m N xs ys) → R (.tuple #[v, i6 0]) h') : CallW FF n_impl_MultiplySeries [sv m A n c, sv m B n2 1] h R := by
  have hN : 2 ≤ N ∧ N ≤ 11 := by have := sx.2.1; omega
  have hm := sx.1
  have hcode : codeS m m xs ys = 0 := by
    unfold codeS; rw [if_neg (not_not_intro ⟨sx, sy⟩), if_neg (not_not_intro ⟨rfl, by omega⟩)]
  refine w_impl_MultiplySeries ?_
  unfold p_impl_MultiplySeries
  simp only [boxV_is, bindO_some]
  refine newB_i fun b h1 eb en eh eB => ?_
  refine newB_i fun b2 h2 eb2 en2 eh2 eB2 => ?_
  refine newB_i fun b4 h3 eb3 en3 eh3 eB3 => ?_
  have E := (eh.trans eh2).trans eh3
  have B1 := (eh2.trans eh3).to eB (by omega)
  have B2 := eh3.to eB2 (by omega)
  simp only [box2 B1, box2 B2, bindO_some]
  refine s_impl_bothSeries (hx.mono E) (hy.mono E) (by omega) (by omega) (by omega) (by omega) fun h4 e4 => ?_
  simp only [hcode, bin_neq, decide_true, Bool.not_true, bindO_some, condM_false, box2 (e4.to B1 (by omega)), box2 (e4.to B2 (by omega))]
  refine s_impl_Series_times (N := N) (hx.mono (E.trans e4)) (hy.mono (E.trans e4)) hn hn2 (by omega) (by omega) sx.2.2 sy.2.2 (by omega) (by omega) hxl hyl fun v h5 e5 f5 => ?_
  obtain ⟨q, rfl, q1, q2, q3⟩ := f5
  have n4 := e4.nx; have n5 := e5.nx
  refine storeBox2 ((e4.trans e5).to eB3 (by omega)) rfl rfl rfl rfl fun h6 u6 => ?_
  have n6 := u6.nx
  simp only [box2 u6.bk, bindO_some]
  exact hR _ _ (u6.he ((E.trans e4).trans e5) (by omega)) ⟨q, rfl, by omega, by omega, by rw [u6.ot _ (by omega)]; exact q3⟩

/-! ### tables of functions -/
def mapT (m : Int) (D : Nat) (E : Nat → Nat → Int) : List (List Int) := (List.range (D + 1)).map fun i => tab (D + 1 - i) fun j => E i j % m
@[simp] theorem mapT_len (m : Int) (D : Nat) (E : Nat → Nat → Int) : (mapT m D E).length = D + 1 := by simp [mapT]
theorem row_mapT {m : Int} {D : Nat} {E : Nat → Nat → Int} {i : Nat} (h : i < D + 1) : row (mapT m D E) i = tab (D + 1 - i) fun j => E i j % m := by simp [row, mapT, h]
theorem gt2_mapT {m : Int} {D : Nat} {E : Nat → Nat → Int} {i j : Nat} (h : i + j < D + 1) : gt2 (mapT m D E) i j = E i j % m := by
  unfold gt2; rw [row_mapT (by omega), gt_tab (by omega)]
theorem mapT_row {m : Int} (hm : 0 < m) {D : Nat} {E : Nat → Nat → Int} {i : Nat} (h : i < D + 1) : (row (mapT m D E) i).length = D + 1 - i ∧ Nums m (row (mapT m D E) i) := by
  rw [row_mapT h]; exact ⟨by simp, nums_tab hm⟩
theorem eq_of_gt2 {Z W : List (List Int)} {D : Nat} (hz : Z.length = D + 1) (hw : W.length = D + 1) (rz : ∀ i, i < D + 1 → (row Z i).length = D + 1 - i) (rw_ : ∀ i, i < D + 1 → (row W i).length = D + 1 - i)
    (h : ∀ i j, i + j < D + 1 → gt2 Z i j = gt2 W i j) : Z = W :=
  rows_ext (by omega) fun i hi => gt_ext (by rw [rz i (by omega), rw_ i (by omega)]) fun j hj => h i j (by rw [rz i (by omega)] at hj; omega)

/-- A function of two places. -/
def FnE (h0 : Hp) (fv : Value) (N : Nat) (E : Nat → Nat → Int) : Prop := ∀ (i j : Nat) (h' : Hp) (R : Value → Hp → Prop), i + j < N → HE h0 h' → (∀ h'', HE h' h'' → R (i6 (E i j)) h'') → CallV FF fv [i6 (i : Int), i6 (j : Int)] h' R

theorem s_impl_Plane_mapped {m : Int} {A : Option Addr} {n c D : Nat} {g : FuncId} {fs cs : Array Value} {E : Nat → Nat → Int} {h : Hp} {R : Value → Hp → Prop} (hn : n = D + 1) (hD : D ≤ 100000) (hm : 0 < m) (hm2 : m ≤ 3000000000) (hf : FnE h (.func (.func g) fs cs) (D + 1) E)
    (hR : ∀ v h', HE h h' → FP h h' v m (mapT m D E) → R v h') : CallW FF n_impl_Plane_mapped [sv m A n c, .func (.func g) fs cs] h R := by
  subst hn
  refine w_impl_Plane_mapped ?_
  unfold p_impl_Plane_mapped
  simp only [boxV_is, bindO_some]
  refine newB_i fun b h1 eb en eh eB => ?_
  refine newB_i fun b4 h2 eb4 en4 eh4 eB4 => ?_
  have E2 := eh.trans eh4
  have B2 := eh4.to eB (by omega)
  simp only [fieldAddr_ptr, Nat.zero_add, box2 B2, bindO_some, inB_ptr]
  refine ⟨by omega, ?_⟩
  refine s_impl_Plane_degree (by omega) fun h3' e3' => ⟨e3'.keep, ?_⟩
  refine s_impl_emptyPlane (D := D) (by omega) (by omega) fun v h3 e3 f3 => ?_
  obtain ⟨bt, rb, rfl, o3⟩ := f3
  have n3' := e3'.nx
  have n3 := e3.nx
  refine newB_i fun b5 h4 eb5 en5 eh5 eB5 => ?_
  refine storeBox2 eB5 rfl rfl rfl rfl fun h5 u5 => ?_
  have n5 := u5.nx
  have e35 : HE h3 h5 := u5.he eh5 (by omega)
  have o5 := o3.mono e35
  have E5 := ((E2.trans e3').trans e3).trans e35
  simp only [box2 u5.bk, bindO_some, len_slice, ztab_len]
  have hub : ∀ i, i < D + 1 → rb i < h3.nx := fun i hi => o3.ltr i (by simpa using hi)
  have hlb : ∀ i, i < D + 1 → h3'.nx ≤ rb i := fun i hi => o3.lor i (by simpa using hi)
  have B5 := e35.to ((e3'.trans e3).to B2 (by omega)) (by omega)
  refine LP1 (fun d vs h' => ∃ (i : Nat) (Z : List (List Int)), d = D + 1 - i ∧ i ≤ D + 1 ∧ HZ h3'.nx h3.nx h5 h' ∧ OT h3'.nx h' bt rb Z ∧ Z.length = D + 1 ∧ (∀ x y, x < i → x + y < D + 1 → gt2 Z x y = E x y % m) ∧ (∀ j, j < D + 1 → (row Z j).length = D + 1 - j) ∧
      vs = [.func (.func g) fs cs, .pointer (some ⟨b, 0, none⟩), .pointer (some ⟨b4, 0, none⟩), .pointer (some ⟨b5, 0, none⟩), .slice (some ⟨bt, 0, none⟩) (D + 1) 1, i6 ((D + 1 : Nat) : Int), i6 (i : Int)]) ?_ _ _ _
    ⟨0, ztab D (D + 1), rfl, by omega, HZ.refl _ _ _, o5, by simp, by omega, fun j hj => by rw [row_ztab hj]; simp; omega, rfl⟩
  rintro d vs h6 ⟨i, Z, rfl, hi, hz, oz, zl, zr, zn, rfl⟩ K K1 hK hK1
  refine wl_impl_Plane_mapped_1 ?_
  by_cases hlt : i < D + 1
  · have g1 : (i : Int) < ((D + 1 : Nat) : Int) := by omega
    obtain ⟨q1, q2⟩ := oz.rt.at 1 (e := i) (i := i) (n := D + 1) rfl zl.symm (by omega)
    simp only [q_impl_Plane_mapped_1, bin_lss, g1, decide_true, bindO_some, condM_true, q1, q2, len_slice]
    refine LP1 (fun d vs h' => ∃ (j : Nat) (Z' : List (List Int)), d = D + 1 - i - j ∧ i + j ≤ D + 1 ∧ HZ h3'.nx h3.nx h5 h' ∧ OT h3'.nx h' bt rb Z' ∧ Z'.length = D + 1 ∧ (∀ x y, (x < i ∨ (x = i ∧ y < j)) → x + y < D + 1 → gt2 Z' x y = E x y % m) ∧ (∀ j, j < D + 1 → (row Z' j).length = D + 1 - j) ∧
      vs = [.func (.func g) fs cs, .pointer (some ⟨b, 0, none⟩), .pointer (some ⟨b4, 0, none⟩), .pointer (some ⟨b5, 0, none⟩), i6 (i : Int), .slice (some ⟨rb i, 0, none⟩) (row Z i).length 1, .slice (some ⟨bt, 0, none⟩) (D + 1) 1, i6 ((D + 1 : Nat) : Int), i6 (i : Int), i6 ((row Z i).length : Int), i6 (j : Int)]) ?_ _ _ _
      ⟨0, Z, rfl, by omega, hz, oz, zl, fun x y h => zr x y (by omega), zn, rfl⟩
    rintro d vs h7 ⟨j, Z', rfl, hj, hz7, oz7, zl7, zr7, zn7, rfl⟩ K' K1' hK' hK1'
    refine wl_impl_Plane_mapped_0 ?_
    have hzl := zn i hlt
    have n7 := hz7.nx
    by_cases hjt : i + j < D + 1
    · have g2 : (j : Int) < ((row Z i).length : Int) := by omega
      simp only [q_impl_Plane_mapped_0, bin_lss, g2, decide_true, bindO_some, condM_true]
      refine hf i j h7 _ hjt (hz7.out E5 (by omega)) fun h8 e8 => ?_
      have n8 := e8.nx
      have B7 := hz7.to B5 (by omega) (by omega)
      simp only [fieldAddr_ptr, Nat.zero_add, bindO_some, inB_ptr, box2 (e8.to B7 (by omega))]
      refine ⟨e8.keep, by omega, ?_⟩
      refine s_impl_mod hm (by omega) ?_
      have ix : indexAddrV 1 (.slice (some ⟨rb i, 0, none⟩) (row Z i).length 1) (.int .i64 (j : Int)) = some (.pointer (some ⟨rb i, j, none⟩)) := ixOwn rfl (by omega)
      simp only [ix, bindO_some]
      have r8 := (oz7.mono e8).rows i (by omega)
      refine storeI r8 (by rw [zn7 i hlt]; omega) fun h9 u9 => ?_
      simp only [bin_add, bindO_some, wrapI (n := (j : Int) + 1) (by omega) (by omega)]
      have oz9 := (oz7.mono e8).set (i := i) (xs := (row Z' i).set j (E i j % m)) (by omega) (by simp) u9
      refine hK' _ _ _ (by omega) ⟨j + 1, _, rfl, by omega, (hz7.he e8).upd u9 (hlb i hlt) (hub i hlt), oz9, by simp [zl7], fun x y hxy hs => ?_, fun x hx => ?_, rfl⟩
      · unfold gt2
        rw [row_set]
        by_cases hxi : i = x
        · subst hxi
          rw [if_pos ⟨rfl, by omega⟩, gt_set]
          by_cases hyj : j = y
          · subst hyj; rw [if_pos ⟨rfl, by rw [zn7 i hlt]; omega⟩]
          · rw [if_neg (fun h => hyj h.1)]; exact zr7 i y (by omega) hs
        · rw [if_neg (fun h => hxi h.1)]; exact zr7 x y (by omega) hs
      · rw [row_set]; split
        · rename_i h; rw [List.length_set, ← h.1]; exact zn7 i hlt
        · exact zn7 x hx
    · have g2 : ¬ (j : Int) < ((row Z i).length : Int) := by omega
      simp only [q_impl_Plane_mapped_0, bin_lss, g2, decide_false, bindO_some, condM_false]
      refine hK1' _ _ fun ev hev => ?_
      simp only [List.cons.injEq, and_true] at hev
      obtain ⟨g1, g2, g4, g5, g15, g16, g17⟩ := hev
      simp only [g1, g2, g4, g5, g15, g16, g17, bin_add, bindO_some, wrapI (n := (i : Int) + 1) (by omega) (by omega)]
      exact hK _ _ _ (by omega) ⟨i + 1, Z', rfl, by omega, hz7, oz7, zl7, fun x y hx hs => zr7 x y (by omega) hs, zn7, rfl⟩
  · have g1 : ¬ (i : Int) < ((D + 1 : Nat) : Int) := by omega
    simp only [q_impl_Plane_mapped_1, bin_lss, g1, decide_false, bindO_some, condM_false]
    refine hK1 _ _ fun ev hev => ?_
    simp only [List.cons.injEq, and_true] at hev
    obtain ⟨g4, g5⟩ := hev
    have hb5 := box2 (hz.to u5.bk (by omega) (by omega))
    simp only [g4, g5, hb5, bindO_some]
    refine storeBox2 (hz.to (e35.to ((e3'.trans e3).to eB4 (by omega)) (by omega)) (by omega) (by omega)) rfl rfl rfl rfl fun h7 u7 => ?_
    simp only [box2 u7.bk, bindO_some]
    have hZ : Z = mapT m D E := eq_of_gt2 zl (by simp) zn (fun i hi => (mapT_row hm hi).1) fun x y hxy => by rw [zr x y (by omega) hxy, gt2_mapT hxy]
    rw [hZ] at oz
    exact hR _ _ (u7.he (hz.out E5 (by omega)) (by omega)) ⟨bt, rb, by simp, (oz.upd u7 (by omega)).lower (by omega)⟩
end XM

/- The multiplicative law of the program. -/
namespace XM
open Go

/-- A plane whose rows have their lengths and numbers. -/
def PlnD (m : Int) (D : Nat) (T : List (List Int)) : Prop := T.length = D + 1 ∧ ∀ i, i < D + 1 → (row T i).length = D + 1 - i ∧ Nums m (row T i)
theorem PlnD.map {m : Int} {D : Nat} {E : Nat → Nat → Int} (hm : 0 < m) : PlnD m D (mapT m D E) := ⟨by simp, fun _ hi => mapT_row hm hi⟩

theorem FP.upd {h h1 h2 : Hp} {v : Value} {m : Int} {T : List (List Int)} {o : Nat} {x : Option Blk} (f : FP h h1 v m T) (u : Upd o x h1 h2) (ho : o < h.nx) : FP h h2 v m T := by
  obtain ⟨b, rb, h1, h2⟩ := f; exact ⟨b, rb, h1, h2.upd u ho⟩
theorem FP.lower {h0 h h' : Hp} {v : Value} {m : Int} {T : List (List Int)} (f : FP h h' v m T) (e : h0.nx ≤ h.nx) : FP h0 h' v m T := by
  obtain ⟨b, rb, h1, h2⟩ := f; exact ⟨b, rb, h1, h2.lower e⟩

theorem s_impl_Plane_plus {m : Int} {A B : Option Addr} {Ra Rb : Nat → Option Addr} {a b : List (List Int)} {D n n2 c c2 : Nat} {h : Hp} {R : Value → Hp → Prop} (ha : RT h A Ra a) (hb : RT h B Rb b) (hn : n = D + 1) (hn2 : n2 = D + 1) (pa : PlnD m D a) (pb : PlnD m D b) (hD : D ≤ 100000) (hm : 0 < m) (hm2 : m ≤ 3000000000)
    (hR : ∀ v h', HE h h' → FP h h' v m (mapT m D fun i j => gt2 a i j + gt2 b i j) → R v h') : CallW FF n_impl_Plane_plus [sv m A n c, sv m B n2 c2] h R := by
  subst hn; subst hn2
  refine w_impl_Plane_plus ?_
  unfold p_impl_Plane_plus
  simp only [boxV_is, bindO_some]
  refine newB_i fun b2 h1 eb en eh eB => ?_
  refine newB_i fun b3 h2 eb2 en2 eh2 eB2 => ?_
  refine newB_i fun b4 h3 eb3 en3 eh3 eB3 => ?_
  have E := (eh.trans eh2).trans eh3
  have B1 := (eh2.trans eh3).to eB (by omega)
  have B2 := eh3.to eB2 (by omega)
  simp only [box2 B1, bindO_some]
  refine s_impl_Plane_mapped (D := D) (E := fun i j => gt2 a i j + gt2 b i j) rfl hD hm hm2 ?_ fun v h4 e4 f4 => ?_
  · intro i j h' R' hij e' hR'
    show CallW FF n_impl_Plane_plus_c1 _ _ _
    refine w_impl_Plane_plus_c1 ?_
    unfold p_impl_Plane_plus_c1
    obtain ⟨la, ra⟩ := pa; obtain ⟨lb, rb⟩ := pb
    have bx1 := box2 (e'.to B1 (by omega)); have bx2 := box2 (e'.to B2 (by omega))
    have a1 := (ha.mono (E.trans e')).at c (e := i) (i := i) (n := D + 1) rfl la.symm (by omega)
    have a2 := (ha.mono (E.trans e')).el 1 (e := j) (i := i) (j := j) (n := (row a i).length) (by omega) rfl rfl (by rw [(ra i (by omega)).1]; omega)
    have b1 := (hb.mono (E.trans e')).at c2 (e := i) (i := i) (n := D + 1) rfl lb.symm (by omega)
    have b2 := (hb.mono (E.trans e')).el 1 (e := j) (i := i) (j := j) (n := (row b i).length) (by omega) rfl rfl (by rw [(rb i (by omega)).1]; omega)
    have ga := (ra i (by omega)).2.gt (i := j) (by rw [(ra i (by omega)).1]; omega)
    have gb := (rb i (by omega)).2.gt (i := j) (by rw [(rb i (by omega)).1]; omega)
    simp only [fieldAddr_ptr, Nat.zero_add, bx1, bx2, a1, a2, b1, b2, bindO_some, bin_add, wrapI (n := gt (row a i) j + gt (row b i) j) (by omega) (by omega)]
    exact hR' _ (HE.refl _)
  · have n4 := e4.nx
    obtain ⟨q, rq, rfl, o4⟩ := f4
    refine storeBox2 (e4.to eB3 (by omega)) rfl rfl rfl rfl fun h5 u5 => ?_
    simp only [box2 u5.bk, bindO_some]
    exact hR _ _ (u5.he (E.trans e4) (by omega)) ⟨q, rq, rfl, (o4.upd u5 (by omega)).lower (by omega)⟩

theorem s_impl_Plane_scaled {m k : Int} {A : Option Addr} {Ra : Nat → Option Addr} {a : List (List Int)} {D n c : Nat} {h : Hp} {R : Value → Hp → Prop} (ha : RT h A Ra a) (hn : n = D + 1) (pa : PlnD m D a) (hD : D ≤ 100000) (hm : 0 < m) (hm2 : m ≤ 1000000)
    (hR : ∀ v h', HE h h' → FP h h' v m (mapT m D fun i j => k % m * gt2 a i j % m) → R v h') : CallW FF n_impl_Plane_scaled [sv m A n c, i6 k] h R := by
  subst hn
  refine w_impl_Plane_scaled ?_
  unfold p_impl_Plane_scaled
  have bx : boxV 1 (.int .i64 k) = some [.int .i64 k] := by simp [boxV]
  simp only [boxV_is, bx, bindO_some]
  refine newB_i fun b2 h1 eb en eh eB => ?_
  refine newB_i fun b3 h2 eb2 en2 eh2 eB2 => ?_
  refine newB_i fun b4 h3 eb3 en3 eh3 eB3 => ?_
  have E := (eh.trans eh2).trans eh3
  have B1 := (eh2.trans eh3).to eB (by omega)
  have B2 := eh3.to eB2 (by omega)
  simp only [box2 B1, bindO_some]
  refine s_impl_Plane_mapped (D := D) (E := fun i j => k % m * gt2 a i j % m) rfl hD hm (by omega) ?_ fun v h4 e4 f4 => ?_
  · intro i j h' R' hij e' hR'
    show CallW FF n_impl_Plane_scaled_c1 _ _ _
    refine w_impl_Plane_scaled_c1 ?_
    unfold p_impl_Plane_scaled_c1
    obtain ⟨la, ra⟩ := pa
    have n' := e'.nx
    have B1' := e'.to B1 (by omega)
    have k3 : ldV 1 false h' (.pointer (some ⟨b3, 0, none⟩)) = some (.int .i64 k) := by rw [ldV_ptr, e'.to B2 (by omega)]; simp
    simp only [fieldAddr_ptr, Nat.zero_add, box2 B1', k3, bindO_some, inB_ptr]
    refine ⟨by omega, ?_⟩
    refine s_impl_mod hm (by omega) ?_
    have E' := E.trans e'
    have a1 := (ha.mono E').at c (e := i) (i := i) (n := D + 1) rfl la.symm (by omega)
    have a2 := (ha.mono E').el 1 (e := j) (i := i) (j := j) (n := (row a i).length) (by omega) rfl rfl (by rw [(ra i (by omega)).1]; omega)
    have i1 := (ha.top).inb E' (i := i) (by simp; omega)
    have i2 := (ha.rows i (by omega)).inb E' (i := j) (by rw [(ra i (by omega)).1]; omega)
    have ga := (ra i (by omega)).2.gt (i := j) (by rw [(ra i (by omega)).1]; omega)
    have gm := Int.emod_lt_of_pos k hm
    have gm0 := Int.emod_nonneg k (show m ≠ 0 by omega)
    simp only [box2 B1', a1, a2, bindO_some]
    refine ⟨keepB_refl _ _, by omega, i1, i2, ?_⟩
    have hp : k % m * gt (row a i) j ≤ 1000000 * 1000000 := Int.mul_le_mul (by omega) (by omega) ga.1 (by omega)
    exact s_impl_mul hm (by omega) gm0 ga.1 (by omega) (hR' _ (HE.refl _))
  · have n4 := e4.nx
    obtain ⟨q, rq, rfl, o4⟩ := f4
    refine storeBox2 (e4.to eB3 (by omega)) rfl rfl rfl rfl fun h5 u5 => ?_
    simp only [box2 u5.bk, bindO_some]
    exact hR _ _ (u5.he (E.trans e4) (by omega)) ⟨q, rq, rfl, (o4.upd u5 (by omega)).lower (by omega)⟩

/-! ### axes -/
def axT (D k : Nat) (a : List Int) : List (List Int) := (List.range (D + 1)).map fun x => tab (D + 1 - x) fun y => if k = 0 then (if y = 0 then gt a x else 0) else (if x = 0 then gt a y else 0)
@[simp] theorem axT_len (D k : Nat) (a : List Int) : (axT D k a).length = D + 1 := by simp [axT]
theorem row_axT {D k : Nat} {a : List Int} {i : Nat} (h : i < D + 1) : row (axT D k a) i = tab (D + 1 - i) fun y => if k = 0 then (if y = 0 then gt a i else 0) else (if i = 0 then gt a y else 0) := by simp [row, axT, h]
theorem gt2_axT {D k : Nat} {a : List Int} {i j : Nat} (h : i + j < D + 1) : gt2 (axT D k a) i j = if k = 0 then (if j = 0 then gt a i else 0) else (if i = 0 then gt a j else 0) := by
  unfold gt2; rw [row_axT (by omega), gt_tab (by omega)]
theorem PlnD.ax {m : Int} {D k : Nat} {a : List Int} (hm : 0 < m) (ha : Nums m a) : PlnD m D (axT D k a) := ⟨by simp, fun i hi => by
  rw [row_axT hi]
  refine ⟨by simp, nums_iff.2 fun j hj => ?_⟩
  simp only [tab_len] at hj
  rw [gt_tab hj]
  have g1 := ha.gt0 hm i; have g2 := ha.gt0 hm j
  split <;> split <;> omega⟩

theorem s_impl_onAxis {m : Int} {A : Option Addr} {a : List Int} {D n c k : Nat} {h : Hp} {R : Value → Hp → Prop} (ha : RI h A a) (hn : n = D + 1) (hal : a.length = D + 1) (hk : k = 0 ∨ k = 1) (hD : D ≤ 100000)
    (hR : ∀ v h', HE h h' → FP h h' v m (axT D k a) → R v h') : CallW FF n_impl_onAxis [sv m A n c, i6 (k : Int)] h R := by
  subst hn
  refine w_impl_onAxis ?_
  unfold p_impl_onAxis
  simp only [boxV_is, bindO_some]
  refine newB_i fun b h1 eb en eh eB => ?_
  refine newB_i fun b4 h2 eb4 en4 eh4 eB4 => ?_
  have E2 := eh.trans eh4
  have B2 := eh4.to eB (by omega)
  simp only [fieldAddr_ptr, Nat.zero_add, box2 B2, bindO_some, inB_ptr]
  refine ⟨by omega, ?_⟩
  refine s_impl_Series_degree (by omega) fun h3' e3' => ⟨e3'.keep, ?_⟩
  refine s_impl_emptyPlane (D := D) (by omega) (by omega) fun v h3 e3 f3 => ?_
  obtain ⟨bt, rb, rfl, o3⟩ := f3
  have n3' := e3'.nx
  have n3 := e3.nx
  refine newB_i fun b5 h4 eb5 en5 eh5 eB5 => ?_
  refine storeBox2 eB5 rfl rfl rfl rfl fun h5 u5 => ?_
  have n5 := u5.nx
  have e35 : HE h3 h5 := u5.he eh5 (by omega)
  have o5 := o3.mono e35
  have E5 := ((E2.trans e3').trans e3).trans e35
  have B5 := e35.to ((e3'.trans e3).to B2 (by omega)) (by omega)
  simp only [box2 B5, bindO_some, len_slice]
  have hub : ∀ i, i < D + 1 → rb i < h3.nx := fun i hi => o3.ltr i (by simpa using hi)
  have hlb : ∀ i, i < D + 1 → h3'.nx ≤ rb i := fun i hi => o3.lor i (by simpa using hi)
  refine LP1 (fun d vs h' => ∃ (i : Nat) (Z : List (List Int)), d = D + 1 - i ∧ i ≤ D + 1 ∧ HZ h3'.nx h3.nx h5 h' ∧ OT h3'.nx h' bt rb Z ∧ Z.length = D + 1 ∧ (∀ x y, x + y < D + 1 → gt2 Z x y = if k = 0 then (if y = 0 ∧ x < i then gt a x else 0) else (if x = 0 ∧ y < i then gt a y else 0)) ∧ (∀ j, j < D + 1 → (row Z j).length = D + 1 - j) ∧
      vs = [i6 (k : Int), .pointer (some ⟨b4, 0, none⟩), .pointer (some ⟨b5, 0, none⟩), .slice A (D + 1) c, i6 ((D + 1 : Nat) : Int), i6 (i : Int)]) ?_ _ _ _
    ⟨0, ztab D (D + 1), rfl, by omega, HZ.refl _ _ _, o5, by simp, fun x y h => by rw [gt2_ztab]; simp, fun j hj => by rw [row_ztab hj]; simp; omega, rfl⟩
  rintro d vs h6 ⟨i, Z, rfl, hi, hz, oz, zl, zr, zn, rfl⟩ K K1 hK hK1
  refine wl_impl_onAxis_0 ?_
  have E6 := hz.out E5 (by omega)
  have n6 := hz.nx
  by_cases hlt : i < D + 1
  · have g1 : (i : Int) < ((D + 1 : Nat) : Int) := by omega
    have r6 := (ha.mono E6).at c (e := i) (i := i) (n := D + 1) rfl hal.symm (by omega)
    have b6 := box2 (hz.to u5.bk (by omega) (by omega))
    have step : ∀ (p q : Nat) (h7 : Hp), p + q < D + 1 → (k = 0 → p = i ∧ q = 0) → (k = 1 → p = 0 ∧ q = i) → Upd (rb p) (some ⟨mapI ((row Z p).set q (gt a i)), y_t_int64, true⟩) h6 h7 →
        K [i6 (k : Int), .pointer (some ⟨b4, 0, none⟩), .pointer (some ⟨b5, 0, none⟩), .slice A (D + 1) c, i6 ((D + 1 : Nat) : Int), i6 ((i : Int) + 1)] h7 := by
      intro p q h7 hpq k0 k1 u7
      have oz7 := oz.set (i := p) (xs := (row Z p).set q (gt a i)) (by omega) (by simp) u7
      refine hK (D + 1 - (i + 1)) _ _ (by omega) ⟨i + 1, _, rfl, by omega, hz.upd u7 (hlb p (by omega)) (hub p (by omega)), oz7, by simp [zl], fun x y hs => ?_, fun x hx => ?_, rfl⟩
      · unfold gt2
        rw [row_set]
        have old := zr x y hs
        unfold gt2 at old
        by_cases hxp : p = x
        · subst hxp
          rw [if_pos ⟨rfl, by omega⟩, gt_set]
          by_cases hyq : q = y
          · subst hyq
            rw [if_pos ⟨rfl, by rw [zn p (by omega)]; omega⟩]
            rcases hk with rfl | rfl
            · obtain ⟨rfl, rfl⟩ := k0 rfl; simp
            · obtain ⟨rfl, rfl⟩ := k1 rfl; simp
          · rw [if_neg (fun h => hyq h.1), old]
            rcases hk with rfl | rfl
            · obtain ⟨rfl, rfl⟩ := k0 rfl
              have c1 : ¬ (y = 0 ∧ p < p) := by omega
              have c2 : ¬ (y = 0 ∧ p < p + 1) := by omega
              simp only [↓reduceIte, c1, c2]
            · obtain ⟨rfl, rfl⟩ := k1 rfl
              simp only [Nat.one_ne_zero, ↓reduceIte, true_and]
              have : y < q ↔ y < q + 1 := by omega
              by_cases h : y < q
              · rw [if_pos h, if_pos (this.1 h)]
              · rw [if_neg h, if_neg fun hh => h (this.2 hh)]
        · rw [if_neg (fun h => hxp h.1), old]
          rcases hk with rfl | rfl
          · obtain ⟨rfl, rfl⟩ := k0 rfl
            simp only [↓reduceIte]
            have : (y = 0 ∧ x < p) ↔ (y = 0 ∧ x < p + 1) := by omega
            by_cases h : y = 0 ∧ x < p
            · rw [if_pos h, if_pos (this.1 h)]
            · rw [if_neg h, if_neg fun hh => h (this.2 hh)]
          · obtain ⟨rfl, rfl⟩ := k1 rfl
            have c1 : ¬ (x = 0 ∧ y < q) := by omega
            have c2 : ¬ (x = 0 ∧ y < q + 1) := by omega
            simp only [Nat.one_ne_zero, ↓reduceIte, c1, c2]
      · rw [row_set]; split
        · rename_i h; rw [List.length_set, ← h.1]; exact zn p (by omega)
        · exact zn x hx
    rcases hk with rfl | rfl
    · have g2 : (((0 : Nat) : Int) = 0) := rfl
      obtain ⟨q1, q2⟩ := oz.rt.at 1 (e := i) (i := i) (n := D + 1) rfl zl.symm (by omega)
      have ix : indexAddrV 1 (.slice (some ⟨rb i, 0, none⟩) (row Z i).length 1) (.int .i64 0) = some (.pointer (some ⟨rb i, 0, none⟩)) := ixOwn (i := 0) rfl (by rw [zn i hlt]; omega)
      simp only [q_impl_onAxis_0, bin_lss, g1, decide_true, bindO_some, condM_true, r6, bin_eql, g2, fieldAddr_ptr, Nat.zero_add, b6, ztab_len, q1, q2, ix]
      refine storeI (oz.rows i (by omega)) (by rw [zn i hlt]; omega) fun h7 u7 => ?_
      simp only [bin_add, bindO_some, wrapI (n := (i : Int) + 1) (by omega) (by omega)]
      exact step i 0 h7 (by omega) (fun _ => ⟨rfl, rfl⟩) (fun h => by omega) u7
    · have g2 : ¬ (((1 : Nat) : Int) = 0) := by omega
      obtain ⟨q1, q2⟩ := oz.rt.at 1 (e := 0) (i := 0) (n := D + 1) rfl zl.symm (by omega)
      have ix : indexAddrV 1 (.slice (some ⟨rb 0, 0, none⟩) (row Z 0).length 1) (.int .i64 (i : Int)) = some (.pointer (some ⟨rb 0, i, none⟩)) := ixOwn rfl (by rw [zn 0 (by omega)]; omega)
      simp only [q_impl_onAxis_0, bin_lss, g1, decide_true, bindO_some, condM_true, r6, bin_eql, g2, decide_false, condM_false, fieldAddr_ptr, Nat.zero_add, b6, ztab_len, q1, q2, ix]
      refine storeI (oz.rows 0 (by omega)) (by rw [zn 0 (by omega)]; omega) fun h7 u7 => ?_
      simp only [bin_add, bindO_some, wrapI (n := (i : Int) + 1) (by omega) (by omega)]
      exact step 0 i h7 (by omega) (fun h => by omega) (fun _ => ⟨rfl, rfl⟩) u7
  · have g1 : ¬ (i : Int) < ((D + 1 : Nat) : Int) := by omega
    simp only [q_impl_onAxis_0, bin_lss, g1, decide_false, bindO_some, condM_false]
    refine hK1 _ _ fun ev hev => ?_
    simp only [List.cons.injEq, and_true] at hev
    obtain ⟨g4, g5⟩ := hev
    have hb5 := box2 (hz.to u5.bk (by omega) (by omega))
    simp only [g4, g5, hb5, bindO_some]
    refine storeBox2 (hz.to (e35.to ((e3'.trans e3).to eB4 (by omega)) (by omega)) (by omega) (by omega)) rfl rfl rfl rfl fun h7 u7 => ?_
    simp only [box2 u7.bk, bindO_some]
    have hZ : Z = axT D k a := eq_of_gt2 zl (by simp) zn (fun i hi => by rw [row_axT hi]; simp) fun x y hxy => by
      rw [zr x y hxy, gt2_axT hxy]
      rcases hk with rfl | rfl
      · rw [if_pos rfl, if_pos rfl]
        by_cases h : y = 0
        · rw [if_pos ⟨h, by omega⟩, if_pos h]
        · rw [if_neg (fun hh => h hh.1), if_neg h]
      · simp only [Nat.one_ne_zero, ↓reduceIte]
        by_cases h : x = 0
        · rw [if_pos ⟨h, by omega⟩, if_pos h]
        · rw [if_neg (fun hh => h hh.1), if_neg h]
    rw [hZ] at oz
    exact hR _ _ (u7.he E6 (by omega)) ⟨bt, rb, by simp, (oz.upd u7 (by omega)).lower (by omega)⟩

theorem s_impl_variables {m : Int} {D : Nat} {h : Hp} {R : Value → Hp → Prop} (hD : D ≤ 100000) (hD1 : 1 ≤ D) (hR : ∀ v w h', HE h h' → FP h h' v m (axT D 0 (varL D)) → FP h h' w m (axT D 1 (varL D)) → R (.tuple #[v, w]) h') : CallW FF n_impl_variables [i6 m, i6 (D : Int)] h R := by
  refine w_impl_variables ?_
  unfold p_impl_variables
  simp only [boxV_is, bindO_some]
  refine newB_i fun b4 h1 eb en eh eB => ?_
  refine newB_i fun b5 h2 eb2 en2 eh2 eB2 => ?_
  refine s_impl_variable (D := D) rfl (by omega) hD1 fun v h3 e3 f3 => ?_
  obtain ⟨q, rfl, q1, q2, q3⟩ := f3
  have n3 := e3.nx
  refine newB_i fun b6 h4 eb4 en4 eh4 eB4 => ?_
  refine storeBox2 eB4 rfl rfl rfl rfl fun h5 u5 => ?_
  have e35 : HE h3 h5 := u5.he eh4 (by omega)
  have n5 := u5.nx
  have rq : RI h5 (some ⟨q, 0, none⟩) (varL D) := RI.of_block (by omega) (e35.to q3 q2)
  simp only [box2 u5.bk, bindO_some, inB_ptr]
  refine s_impl_onAxis (k := 0) (D := D) rq (by simp) (by simp) (.inl rfl) hD fun v h6 e6 f6 => ⟨e6.keep, by omega, ?_⟩
  have n6 := e6.nx
  simp only [box2 (e6.to u5.bk (by omega)), bindO_some]
  refine s_impl_onAxis (k := 1) (D := D) (rq.mono e6) (by simp) (by simp) (.inr rfl) hD fun w h7 e7 f7 => ?_
  have n7 := e7.nx
  obtain ⟨p, rp, rfl, o6⟩ := f6
  obtain ⟨r, rr, rfl, o7⟩ := f7
  have e17 := ((eh2.trans e3).trans e35).trans (e6.trans e7)
  refine storeBox2 (e17.to eB (by omega)) rfl rfl rfl rfl fun h8 u8 => ?_
  refine storeBox2 (u8.to (((e3.trans e35).trans (e6.trans e7)).to eB2 (by omega)) (by omega)) rfl rfl rfl rfl fun h9 u9 => ?_
  have n8 := u8.nx; have n9 := u9.nx
  simp only [box2 (u9.to u8.bk (by omega)), box2 u9.bk, bindO_some]
  refine hR _ _ _ (u9.he (u8.he (eh.trans e17) (by omega)) (by omega)) ⟨p, rp, rfl, ?_⟩ ⟨r, rr, rfl, ?_⟩
  · exact (((o6.mono e7).upd u8 (by omega)).upd u9 (by omega)).lower (by omega)
  · exact ((o7.upd u8 (by omega)).upd u9 (by omega)).lower (by omega)

/-- One term of a sum. -/
theorem sm_one {n p : Nat} {f : Nat → Int} (hp : p < n) (h : ∀ i, i < n → i ≠ p → f i = 0) : sm n f = f p := by
  rw [sm_more (n := p + 1) (by omega) fun i h1 h2 => h i h2 (by omega), sm_succ, sm_zero fun i hi => h i (by omega) (by omega)]; simp
theorem tri_one {N p q : Nat} {f : Nat → Nat → Int} (hp : p + q < N) (h : ∀ i j, i + j < N → ¬ (i = p ∧ j = q) → f i j = 0) : tri N f = f p q := by
  unfold tri
  rw [sm_one (p := p) (by omega) fun i hi hne => sm_zero fun j hj => h i j (by omega) (by omega)]
  exact sm_one (by omega) fun j hj hne => h p j (by omega) (by omega)

theorem ax_mul {m : Int} {D : Nat} (hm : 2 ≤ m) (hD : 1 ≤ D) {x y : Nat} (h : x + y < D + 1) : gt2 (mulT m (D + 1) (axT D 0 (varL D)) (axT D 1 (varL D))) x y = if x = 1 ∧ y = 1 then 1 else 0 := by
  rw [gt2_mulT h, tE3_tri]
  rw [tri_one (p := 1) (q := 0) (by omega) fun i j hij hne => by
    rw [gt2_axT hij]
    simp only [↓reduceIte]
    by_cases hj : j = 0
    · rw [if_pos hj, gt_varL hD, if_neg (by omega), Int.zero_mul]
    · rw [if_neg hj, Int.zero_mul]]
  rw [gt2_axT (by omega)]
  simp only [↓reduceIte]
  rw [gt_varL hD]
  simp only [↓reduceIte, Int.one_mul]
  unfold wt
  by_cases hx : 1 ≤ x ∧ 0 ≤ y
  · rw [if_pos hx, gt2_axT (by omega)]
    simp only [Nat.one_ne_zero, ↓reduceIte, Nat.sub_zero]
    by_cases h1 : x - 1 = 0
    · rw [if_pos h1, gt_varL hD]
      by_cases hy : y = 1
      · rw [if_pos hy, if_pos ⟨by omega, hy⟩]; exact Int.emod_eq_of_lt (by omega) (by omega)
      · rw [if_neg hy, if_neg (fun hh => hy hh.2)]; simp
    · rw [if_neg h1, if_neg (by omega)]; simp
  · rw [if_neg hx, if_neg (by omega)]; simp

theorem ml_table {m : Int} {D : Nat} (hm : 2 ≤ m) (hD : 1 ≤ D) : (mapT m D fun i j => gt2 (mapT m D fun i j => gt2 (axT D 0 (varL D)) i j + gt2 (axT D 1 (varL D)) i j) i j +
    gt2 (mapT m D fun i j => 1 % m * gt2 (mulT m (D + 1) (axT D 0 (varL D)) (axT D 1 (varL D))) i j % m) i j) = mlT D 1 := by
  have e1 : (1 : Int) % m = 1 := Int.emod_eq_of_lt (by omega) (by omega)
  refine eq_of_gt2 (D := D) (by simp) (by simp) (fun i hi => (mapT_row (by omega) hi).1) (fun i hi => by rw [row_mlT hi]; simp) fun x y h => ?_
  rw [gt2_mapT h, gt2_mapT h, gt2_mapT h, gt2_axT h, gt2_axT h, ax_mul hm hD h, gt2_mlT h]
  simp only [Nat.one_ne_zero, ↓reduceIte, gt_varL hD, e1]
  by_cases x0 : x = 0 <;> by_cases x1 : x = 1 <;> by_cases y0 : y = 0 <;> by_cases y1 : y = 1 <;> first | (exfalso; omega) | simp [x0, x1, y0, y1, e1]

theorem s_impl_standard_c1 {a m : Int} {b : Nat} {h : Hp} {R : Value → Hp → Prop} (hb : ldV 1 false h (.pointer (some ⟨b, 0, none⟩)) = some (i6 m)) (hm : 0 ≤ m ∧ m ≤ 1000000) (hR : R (.bool (decide (0 ≤ a ∧ a < m))) h) : CallW FF n_impl_standard_c1 [i6 a, .pointer (some ⟨b, 0, none⟩)] h R := by
  refine w_impl_standard_c1 ?_
  unfold p_impl_standard_c1
  rw [hb, bindO_some]
  exact s_impl_isNumber (by omega) (by omega) hR

/-- The multiplicative law of 1, where it is one. -/
theorem s_impl_MultiplicativeLaw {m : Int} {D : Nat} {h : Hp} {R : Value → Hp → Prop} (hD : D ≤ 10) (hD1 : 1 ≤ D) (hm : 2 ≤ m) (hm2 : m ≤ 10000) (hR : ∀ v h', HE h h' → FP h h' v m (mlT D 1) → R (.tuple #[v, i6 0]) h') : CallW FF n_impl_MultiplicativeLaw [i6 m, i6 (D : Int), i6 1] h R := by
  refine w_impl_MultiplicativeLaw ?_
  unfold p_impl_MultiplicativeLaw
  simp only [boxV_is, bindO_some, rowV_int]
  refine newB_i fun b6 h1 eb en eh eB => ?_
  refine newB_i fun b14 h2 eb2 en2 eh2 eB2 => ?_
  have E2 := eh.trans eh2
  refine w_impl_standard ?_
  unfold p_impl_standard
  have bx : boxV 1 (i6 m) = some [i6 m] := by simp [boxV]
  simp only [bx, bindO_some]
  refine newB_i fun b3 h3 eb3 en3 eh3 eB3 => ?_
  have k3 : ldV 1 false h3 (.pointer (some ⟨b3, 0, none⟩)) = some (i6 m) := by rw [ldV_ptr, eB3]; simp
  simp only [k3, bindO_some]
  refine s_impl_IsModulus ?_
  have g1 : 2 ≤ m ∧ m ≤ 10000 := ⟨hm, hm2⟩
  simp only [g1, and_self, decide_true, un_not, Bool.not_true, bindO_some, condM_false]
  refine s_impl_in ?_
  have g2 : (1 : Int) ≤ (D : Int) ∧ (D : Int) ≤ 10 := by omega
  simp only [g2, and_self, decide_true, un_not, Bool.not_true, bindO_some, condM_false]
  have r2 : RI h3 (some ⟨b14, 0, none⟩) [1] := RI.of_block (by omega) (eh3.to eB2 (by omega))
  refine s_allI (p := fun x => decide (0 ≤ x ∧ x < m)) r2 rfl (by omega) ?_ fun h4 e4 => ?_
  · intro x hx h5 R5 e5 hR5
    show CallW FF n_impl_standard_c1 _ _ _
    refine s_impl_standard_c1 (m := m) ?_ (by omega) (hR5 _ (HE.refl _))
    rw [ldV_ptr, e5.to eB3 (by omega)]; simp
  have hall : [(1 : Int)].all (fun x => decide (0 ≤ x ∧ x < m)) = true := by simp; omega
  have n4 := e4.nx
  have E4 := (E2.trans eh3).trans e4
  simp only [hall, un_not, Bool.not_true, bindO_some, condM_false, bin_neq, decide_true]
  refine s_impl_variables (D := D) (by omega) hD1 fun v w h5 e5 f5 g5 => ?_
  obtain ⟨p, rp, rfl, o5⟩ := f5
  obtain ⟨r, rr, rfl, p5⟩ := g5
  have n5 := e5.nx
  have ex : ∀ (a b : Value), extractV 0 (.tuple #[a, b]) = some a ∧ extractV 1 (.tuple #[a, b]) = some b := fun _ _ => ⟨rfl, rfl⟩
  simp only [ex, bindO_some]
  refine newB_i fun b9 h6 eb6 en6 eh6 eB6 => ?_
  refine newB_i fun b10 h7 eb7 en7 eh7 eB7 => ?_
  refine storeBox2 (eh7.to eB6 (by omega)) rfl rfl rfl rfl fun h8 u8 => ?_
  refine storeBox2 (u8.to eB7 (by omega)) rfl rfl rfl rfl fun h9 u9 => ?_
  have n8 := u8.nx; have n9 := u9.nx
  have e59 : HE h5 h9 := u9.he (u8.he (eh6.trans eh7) (by omega)) (by omega)
  have B8 := u9.to u8.bk (by omega)
  have B9 := u9.bk
  have oX := (o5.mono e59); have oY := (p5.mono e59)
  have nv : Nums m (varL D) := nums_varL hm D
  have pX : PlnD m D (axT D 0 (varL D)) := .ax (by omega) nv
  have pY : PlnD m D (axT D 1 (varL D)) := .ax (by omega) nv
  simp only [box2 B8, box2 B9, bindO_some, inB_ptr]
  refine s_impl_Plane_plus (D := D) oX.rt oY.rt (by simp) (by simp) pX pY (by omega) (by omega) (by omega) fun v h10 e10 f10 => ⟨e10.keep, by omega, ?_⟩
  obtain ⟨s, rs, rfl, o10⟩ := f10
  have n10 := e10.nx
  simp only [box2 (e10.to B8 (by omega)), box2 (e10.to B9 (by omega)), bindO_some]
  refine ⟨by omega, ?_⟩
  refine s_impl_Plane_times (N := D + 1) (oX.mono e10).rt (oY.mono e10).rt (by simp) (by simp) (by simp) (by simp) pX.2 pY.2 (by omega) (by omega) (by omega) (by omega) fun v h11 e11 f11 => ?_
  obtain ⟨t, rt, rfl, o11⟩ := f11
  have pM : PlnD m D (mulT m (D + 1) (axT D 0 (varL D)) (axT D 1 (varL D))) := ⟨by simp [mulT], fun i hi => by rw [row_mulT hi]; exact ⟨by simp, nums_tab (by omega)⟩⟩
  refine s_impl_Plane_scaled (D := D) o11.rt (by rw [pM.1]) pM (by omega) (by omega) (by omega) fun v h12 e12 f12 => ?_
  obtain ⟨z, rz, rfl, o12⟩ := f12
  refine s_impl_Plane_plus (D := D) (o10.mono (e11.trans e12)).rt o12.rt (by simp) (by simp) (.map (by omega)) (.map (by omega)) (by omega) (by omega) (by omega) fun v h13 e13 f13 => ?_
  obtain ⟨q, rq, rfl, o13⟩ := f13
  rw [ml_table hm hD1] at o13 ⊢
  have e2' := (((((eh2.trans eh3).trans e4).trans e5).trans e59).trans e10).trans ((e11.trans e12).trans e13)
  have n11 := e11.nx; have n12 := e12.nx; have n13 := e13.nx
  refine storeBox2 (e2'.to eB (by omega)) rfl rfl rfl rfl fun h14 u14 => ?_
  simp only [box2 u14.bk, bindO_some]
  exact hR _ _ (u14.he (eh.trans e2') (by omega)) ⟨q, rq, rfl, (o13.upd u14 (by omega)).lower (by omega)⟩
end XM

/- Draws: the source, l01From, l01Next, l01Pick, l04DrawModulus, l04DrawCurve. -/
namespace XM
open Go

def Bytes (vs : List Value) : Prop := ∀ (i : Nat) (v : Value), vs[i]? = some v → ∃ b : Int, 0 ≤ b ∧ b < 256 ∧ v = .int .u8 b

/-- A source of numbers, in the block bs. -/
structure SrcD (h : Hp) (bs : Nat) (A : Option Addr) (n c : Nat) (a hs : Int) (vs : List Value) : Prop where
  lt : bs < h.nx
  bk : h.bk bs = some ⟨[.slice A n c, i6 a, .int .u64 hs], y_t_spec_l01Source, true⟩
  len : n = vs.length
  sm : n ≤ 1000000000000
  a0 : 0 ≤ a
  an : a ≤ n
  rv : RV (msk h fun x => bs ≤ x) A vs
  by_ : Bytes vs
def Src (h : Hp) (bs : Nat) : Prop := ∃ A n c a hs vs, SrcD h bs A n c a hs vs

theorem HX.hs {o : Nat} {h h' : Hp} (a : HX o h h') : HS (msk h fun x => x = o) (msk h' fun x => x = o) := msk_to a.nx fun b hb hne => ⟨a.bk b hb hne, hne⟩
theorem HX.trans {o : Nat} {h h' h'' : Hp} (a : HX o h h') (b : HX o h' h'') : HX o h h'' := ⟨Nat.le_trans a.nx b.nx, fun c hc hne => (b.bk c (Nat.lt_of_lt_of_le hc a.nx) hne).trans (a.bk c hc hne)⟩
theorem HE.hx {h h' : Hp} (e : HE h h') (o : Nat) : HX o h h' := ⟨e.nx, fun b hb _ => e.bk b hb⟩
theorem Src.keep {h h' : Hp} {bs : Nat} (s : Src h bs) (hn : h.nx ≤ h'.nx) (hk : ∀ c, c ≤ bs → h'.bk c = h.bk c) : Src h' bs := by
  obtain ⟨A, n, c, a, hs, vs, s⟩ := s
  exact ⟨A, n, c, a, hs, vs, Nat.lt_of_lt_of_le s.lt hn, (hk bs (Nat.le_refl _)).trans s.bk, s.len, s.sm, s.a0, s.an, s.rv.mos (msk_to hn fun b hb hne => ⟨hk b (by omega), hne⟩), s.by_⟩
theorem Src.he {h h' : Hp} {bs : Nat} (s : Src h bs) (e : HE h h') : Src h' bs := by
  have hl : bs < h.nx := by obtain ⟨A, n, c, a, hs, vs, s⟩ := s; exact s.lt
  exact s.keep e.nx fun c hc => e.bk c (by omega)
theorem HX.low {o : Nat} {h h' : Hp} (a : HX o h h') (ho : o < h.nx) : HS (msk h fun x => o ≤ x) (msk h' fun x => o ≤ x) := msk_to a.nx fun b hb hne => ⟨a.bk b hb (by omega), hne⟩
theorem Src.lt {h : Hp} {bs : Nat} (s : Src h bs) : bs < h.nx := by
  obtain ⟨A, n, c, a, hs, vs, s⟩ := s; exact s.lt
theorem Upd.hx {o : Nat} {x : Option Blk} {h h' : Hp} (u : Upd o x h h') : HX o h h' := ⟨by rw [u.nx]; omega, fun b _ hne => u.ot b hne⟩

theorem box3 {h : Hp} {b : Nat} {v0 v1 v2 : Value} {y : TypeId} (hb : h.bk b = some ⟨[v0, v1, v2], y, true⟩) :
    ldV 1 false h (.pointer (some ⟨b, 0, none⟩)) = some v0 ∧ ldV 1 false h (.pointer (some ⟨b, 1, none⟩)) = some v1 ∧ ldV 1 false h (.pointer (some ⟨b, 2, none⟩)) = some v2 := by
  refine ⟨?_, ?_, ?_⟩ <;> rw [ldV_ptr, hb] <;> simp

theorem and24 (x : Int) : ∃ r : Int, 0 ≤ r ∧ r ≤ 16777215 ∧ binV .and (.int .u64 x) (.int .u64 16777215) = some (.int .u64 r) := by
  refine ⟨IntKind.u64.wrap (BitVec.ofInt IntKind.u64.bits x &&& BitVec.ofInt IntKind.u64.bits 16777215).toNat, ?_, ?_, by simp [binV, isShift, binInt]⟩
  all_goals
    have h1 : (BitVec.ofInt IntKind.u64.bits x &&& BitVec.ofInt IntKind.u64.bits 16777215).toNat ≤ 16777215 := by
      rw [BitVec.toNat_and]
      exact Nat.le_trans Nat.and_le_right (by decide)
    generalize (BitVec.ofInt IntKind.u64.bits x &&& BitVec.ofInt IntKind.u64.bits 16777215).toNat = k at h1
    have h2 : IntKind.u64.wrap (k : Int) = (k : Int) % 18446744073709551616 := by simp [IntKind.wrap, IntKind.signed, IntKind.bits]
    rw [h2]; omega

theorem shr33 (x : Int) : binV .shr (.int .u64 x) (.int .u64 33) = some (.int .u64 (IntKind.u64.wrap (x.fdiv (2 ^ 33)))) ∨ ∃ y, binV .shr (.int .u64 x) (.int .u64 33) = some (.int .u64 y) := by
  right
  exact ⟨_, by simp [binV, isShift, binShift]; rfl⟩

theorem s_spec_l01Next {bs : Nat} {n : Int} {h : Hp} {R : Value → Hp → Prop} (s : Src h bs) (hn : n ≤ 9000000000000000000)
    (hR : ∀ r h', HX bs h h' → h'.nx = h.nx → Src h' bs → (n < 1 → r = 0) → (1 ≤ n → 0 ≤ r ∧ r < n) → R (i6 r) h') : CallW FF n_spec_l01Next [.pointer (some ⟨bs, 0, none⟩), i6 n] h R := by
  refine w_spec_l01Next ?_
  by_cases h1 : n < 1
  · simp [p_spec_l01Next, h1]
    exact hR 0 _ (HX.refl _ _) rfl s (fun _ => rfl) (fun h => by omega)
  obtain ⟨A, l, c, a, hs, vs, s⟩ := s
  have n0 : ¬ n = 0 := by omega
  simp [p_spec_l01Next, h1, box3 s.bk]
  refine store1 s.bk (by simp) rfl rfl rfl fun h2 u2 => ?_
  obtain ⟨y, hy⟩ : ∃ y, binV .shr (.int .u64 (IntKind.u64.wrap (IntKind.u64.wrap (hs * 6364136223846793005) + 1442695040888963407))) (.int .u64 33) = some (.int .u64 y) := ⟨_, by simp [binV, isShift, binShift]; rfl⟩
  obtain ⟨r, r0, r1, hr⟩ := and24 y
  have u2b : h2.bk bs = some ⟨[.slice A l c, i6 a, .int .u64 (IntKind.u64.wrap (IntKind.u64.wrap (hs * 6364136223846793005) + 1442695040888963407))], y_t_spec_l01Source, true⟩ := by simpa using u2.bk
  have wr : IntKind.i64.wrap r = r := wrapI (by omega) (by omega)
  have rv2 := s.rv.mos (u2.hx.low s.lt)
  have bx := box3 u2b
  have n2 := u2.nx
  have hlt := s.lt
  by_cases ha : a < l
  · obtain ⟨i, rfl⟩ := Int.eq_ofNat_of_zero_le s.a0
    have hi : i < vs.length := by have := s.len; omega
    have hv := List.getElem?_eq_getElem hi
    obtain ⟨b, b0, b1, hb⟩ := s.by_ i _ hv
    rw [hb] at hv
    have rd := (rv2.mos (msk_hs h2)).at c (e := i) rfl s.len hv
    have wb : IntKind.i64.wrap b = b := wrapI (by omega) (by omega)
    have wrb : IntKind.i64.wrap (r + b) = r + b := wrapI (by omega) (by omega)
    have wi : IntKind.i64.wrap ((i : Int) + 1) = i + 1 := wrapI (by omega) (by have := s.sm; omega)
    have hil : i < l := by have := s.len; omega
    simp [bx, hy, hr, wr, ha, hil, rd, wb, wrb, wi]
    refine store1 u2b (by simp) rfl rfl rfl fun h3 u3 => ?_
    have n3 := u3.nx
    have u3b : h3.bk bs = some ⟨[.slice A l c, i6 ((i : Int) + 1), .int .u64 (IntKind.u64.wrap (IntKind.u64.wrap (hs * 6364136223846793005) + 1442695040888963407))], y_t_spec_l01Source, true⟩ := by simpa using u3.bk
    simp [n0]
    have t0 := Int.tmod_nonneg n (show 0 ≤ r + b by omega)
    have t1 := Int.tmod_lt_of_pos (r + b) (show 0 < n by omega)
    exact hR _ _ (u2.hx.trans u3.hx) (by omega) ⟨A, l, c, _, _, vs, ⟨by omega, u3b, s.len, s.sm, by omega, by omega, rv2.mos (u3.hx.low (by omega)), s.by_⟩⟩ (fun h => by omega) (fun _ => ⟨t0, t1⟩)
  · have hil : ¬ a < l := ha
    simp [bx, hy, hr, wr, ha, n0]
    have t0 := Int.tmod_nonneg n (show 0 ≤ r by omega)
    have t1 := Int.tmod_lt_of_pos r (show 0 < n by omega)
    exact hR _ _ u2.hx (by omega) ⟨A, l, c, _, _, vs, ⟨by omega, u2b, s.len, s.sm, s.a0, s.an, rv2, s.by_⟩⟩ (fun h => by omega) (fun _ => ⟨t0, t1⟩)

theorem s_spec_l01Pick {bs : Nat} {A : Option Addr} {xs : List Int} {n c : Nat} {h : Hp} {R : Value → Hp → Prop} (s : Src h bs) (hr : RI (msk h fun x => x = bs) A xs) (hn : n = xs.length) (h1 : 1 ≤ n) (hn2 : n ≤ 1000000)
    (hR : ∀ r h', HX bs h h' → h'.nx = h.nx → Src h' bs → r ∈ xs → R (i6 r) h') : CallW FF n_spec_l01Pick [.pointer (some ⟨bs, 0, none⟩), .slice A n c] h R := by
  subst hn
  refine w_spec_l01Pick ?_
  simp [p_spec_l01Pick]
  refine s_spec_l01Next s (by omega) fun r h2 x2 n2 s2 _ hr2 => ?_
  obtain ⟨r0, r1⟩ := hr2 (by omega)
  obtain ⟨i, rfl⟩ := Int.eq_ofNat_of_zero_le r0
  have rd := ((hr.mos x2.hs).mos (msk_hs h2)).at c (e := i) rfl rfl (by omega)
  simp [rd]
  exact hR _ _ x2 n2 s2 (gt_mem (by omega))

/-- A list that is made at once is read. -/
theorem msk_new {h h' : Hp} {b bs : Nat} {xs : List Int} {y : TypeId} {w : Bool} (hb : b < h'.nx) (hne : b ≠ bs) (hx : h'.bk b = some ⟨mapI xs, y, w⟩) : RI (msk h' fun x => x = bs) (some ⟨b, 0, none⟩) xs :=
  RI.of_block hb ((msk_bk (P := fun x => x = bs) hne).trans hx)

theorem s_spec_l04DrawModulus {bs : Nat} {h : Hp} {R : Value → Hp → Prop} (s : Src h bs)
    (hR : ∀ r h', HX bs h h' → Src h' bs → 2 ≤ r → r ≤ 10000 → R (i6 r) h') : CallW FF n_spec_l04DrawModulus [.pointer (some ⟨bs, 0, none⟩)] h R := by
  refine w_spec_l04DrawModulus ?_
  simp only [p_spec_l04DrawModulus]
  refine s_spec_l01Next s (by omega) fun r h2 x2 n2 s2 _ hr2 => ?_
  obtain ⟨r0, r1⟩ := hr2 (by omega)
  have w1 : IntKind.i64.wrap (2 + r) = 2 + r := wrapI (by omega) (by omega)
  simp [w1, rowV, rowFill, reps]
  refine newB_i fun b h3 eb en eh eB => ?_
  have hlt := s2.lt
  refine s_spec_l01Pick (xs := [2, 3, 5, 7, 4, 9, 8, 6, 11, 101, 9973, 2 + r]) (s2.he eh) (msk_new (h := h3) (by omega) (by omega) (by rw [eB]; rfl)) rfl (by omega) (by omega) fun r4 h4 x4 n4 s4 hm => ?_
  refine hR _ _ (x2.trans ((eh.hx bs).trans x4)) s4 ?_ ?_ <;> simp at hm <;> omega

theorem s_spec_l04DrawCurve {bs D : Nat} {m : Int} {h : Hp} {R : Value → Hp → Prop} (s : Src h bs) (hm : 2 ≤ m) (hm2 : m ≤ 3000000000) (hD : 1 ≤ D) (hD2 : D ≤ 100000)
    (hR : ∀ v h' xs, HX bs h h' → Src h' bs → FI y_t_int64 h h' v xs → xs.length = D + 1 → Nums m xs → gt xs 0 = 0 → gt xs 1 = 1 → R v h') : CallW FF n_spec_l04DrawCurve [.pointer (some ⟨bs, 0, none⟩), i6 m, i6 D] h R := by
  refine w_spec_l04DrawCurve ?_
  have r2 : rowV 1 2 [.int .i64 0] [(0, .int .i64 0), (1, .int .i64 1)] = some (mapI [0, 1]) := by simp [rowV, rowFill, reps, mapI]
  simp only [p_spec_l04DrawCurve, r2, bindO_some]
  refine newB_i fun b h1 eb en eh eB => ?_
  have hlt := s.lt
  refine LP1 (fun d vs h' => ∃ (k b : Nat) (xs : List Int), d = D + 1 - k ∧ 2 ≤ k ∧ k ≤ D + 1 ∧ xs.length = k ∧ vs = [.pointer (some ⟨bs, 0, none⟩), i6 m, i6 D, .slice (some ⟨b, 0, none⟩) k 1, i6 k] ∧ HX bs h h' ∧ Src h' bs ∧ h.nx ≤ b ∧ b < h'.nx ∧ h'.bk b = some ⟨mapI xs, y_t_int64, true⟩ ∧ Nums m xs ∧ gt xs 0 = 0 ∧ gt xs 1 = 1) ?_ _ _ _
    ⟨2, b, [0, 1], rfl, by omega, by omega, rfl, rfl, eh.hx bs, s.he eh, by omega, by omega, eB, by intro x hx; simp at hx; omega, rfl, rfl⟩
  rintro d vs h2 ⟨k, b, xs, rfl, hk2, hk, hl, rfl, x2, s2, hb1, hb2, hbk, hn, g0, g1⟩ K K1 hK hK1
  refine wl_spec_l04DrawCurve_0 ?_
  by_cases hlt : k ≤ D
  case neg =>
    have : k = D + 1 := by omega
    subst this
    have g : ¬ (D : Int) + 1 ≤ D := by omega
    simp [q_spec_l04DrawCurve_0, g]
    refine hK1 _ _ fun e he => ?_
    simp at he; rw [he]
    exact hR _ _ xs x2 s2 ⟨b, by rw [hl], hb1, hb2, hbk⟩ hl hn g0 g1
  have g : (k : Int) ≤ D := by omega
  have w1 : IntKind.i64.wrap ((k : Int) + 1) = k + 1 := wrapI (by omega) (by omega)
  simp [q_spec_l04DrawCurve_0, hlt]
  refine s_spec_l01Next s2 (by omega) fun r h3 x3 n3 s3 _ hr3 => ?_
  refine s_spec_l01Next s3 (by omega) fun r4 h4 x4 n4 s4 _ hr4 => ?_
  have b3 := hr3 (by omega); have b4 := hr4 (by omega)
  have r5 : rowV 1 4 [.int .i64 0] [(0, .int .i64 0), (1, .int .i64 0), (2, i6 r), (3, i6 r4)] = some (mapI [0, 0, r, r4]) := by simp [rowV, rowFill, reps, mapI]
  simp only [r5, bindO_some]
  refine newB_i fun b5 h5 eb5 en5 eh5 eB5 => ?_
  have l4 := s4.lt
  have l2 := s2.lt
  refine s_spec_l01Pick (xs := [0, 0, r, r4]) (s4.he eh5) (msk_new (h := h5) (by omega) (by omega) eB5) rfl (by omega) (by omega) fun r6 h6 x6 n6 s6 hm6 => ?_
  have br : 0 ≤ r6 ∧ r6 < m := by simp at hm6; omega
  simp [w1]
  have X := x3.trans (x4.trans ((eh5.hx bs).trans x6))
  have l0 := s.lt
  refine pushI (xs := xs) (X.to hbk hb2 (by omega)) (by have := X.nx; omega) hl.symm (by unfold sizeMax; omega) fun b7 h7 u7 => ?_
  have n7 := u7.ge; have n7' := u7.lt; have nX := X.nx; have n2 := x2.nx
  have F : ∀ c, c < h6.nx → c ≠ b → h7.bk c = h6.bk c := u7.ot
  have x7 : HX bs h h7 := ⟨by omega, fun c hc hne => by rw [F c (by omega) (by omega), X.bk c (by omega) hne, x2.bk c hc hne]⟩
  have s7 : Src h7 bs := s6.keep (by omega) fun c hc => F c (by have := s6.lt; omega) (by omega)
  refine hK _ _ _ (by omega) ⟨k + 1, b7, xs ++ [r6], rfl, by omega, by omega, by simp [hl], by simp, x7, s7, by omega, u7.lt, by simpa using u7.bk, ?_, ?_, ?_⟩
  · intro x hx
    simp at hx
    rcases hx with hx | rfl
    · exact hn x hx
    · exact br
  · rw [gt_append, if_pos (by omega)]; exact g0
  · rw [gt_append, if_pos (by omega)]; exact g1
end XM

/- The reference: l01From, l01Inv, l03Add, l03Scale, l03Turn. -/
namespace XM
open Go

theorem s_spec_l01From {A : Option Addr} {n c : Nat} {vs : List Value} {h : Hp} {R : Value → Hp → Prop} (hr : RV h A vs) (hn : n = vs.length) (hl : n ≤ 1000000000000) (hb : Bytes vs)
    (hR : ∀ bs h', HE h h' → h.nx ≤ bs → Src h' bs → R (.pointer (some ⟨bs, 0, none⟩)) h') : CallW FF n_spec_l01From [.slice A n c] h R := by
  subst hn
  refine w_spec_l01From ?_
  have hf : ∀ (A : Option Addr) (n c : Nat) (x : Int), (fillX [.slice none 0 0, .int .i64 0, .int .u64 0] [(0, 1, .slice A n c), (2, 1, .int .u64 x)]).map (fun cs => Value.agg cs.toArray) = some (.agg #[.slice A n c, i6 0, .int .u64 x]) := fun A n c x => by simp [fillX]
  have hb3 : ∀ (A : Option Addr) (n c : Nat) (x : Int), boxV 3 (.agg #[.slice A n c, i6 0, .int .u64 x]) = some [.slice A n c, i6 0, .int .u64 x] := fun A n c x => by simp [boxV]
  simp only [p_spec_l01From, len_slice, bindO_some, conv_int, bin_add, hf, hb3]
  refine newB_i fun bs h1 eb en eh eB => ?_
  refine LP1 (fun d ws h' => ∃ (k : Nat) (x : Int), d = vs.length - k ∧ k ≤ vs.length ∧ ws = [.slice A vs.length c, .pointer (some ⟨bs, 0, none⟩), i6 k] ∧ HX bs h1 h' ∧ h'.bk bs = some ⟨[.slice A vs.length c, i6 0, .int .u64 x], y_t_spec_l01Source, true⟩) ?_ _ _ _
    ⟨0, _, rfl, by omega, rfl, HX.refl _ _, eB⟩
  rintro d ws h2 ⟨k, x, rfl, hk, rfl, x2, hbk⟩ K K1 hK hK1
  refine wl_spec_l01From_0 ?_
  have n2 := x2.nx
  have hE : HE h h2 := x2.out eh (by omega)
  have fin : K1 [.pointer (some ⟨bs, 0, none⟩)] h2 := by
    refine hK1 _ _ fun e he => ?_
    simp at he; rw [he]
    refine hR bs _ hE (by omega) ⟨A, vs.length, c, 0, x, vs, by omega, hbk, rfl, hl, by omega, by omega, ?_, hb⟩
    exact hr.mos ⟨hE.nx, fun b y hb hy => by rw [msk_bk (by omega)]; exact hE.to hy hb⟩
  by_cases hlt : k < vs.length
  · by_cases h4 : (k : Int) < 4096
    · have hv := List.getElem?_eq_getElem hlt
      obtain ⟨y, y0, y1, hy⟩ := hb k _ hv
      rw [hy] at hv
      have rd := (hr.mono hE).at c (e := k) rfl rfl hv
      have bx := box3 hbk
      simp [q_spec_l01From_0, hlt, h4, bx, rd]
      refine store1 hbk (by simp) rfl rfl rfl fun h3 u3 => ?_
      simp [wrapI (n := (k : Int) + 1) (by omega) (by omega)]
      exact hK _ _ _ (by omega) ⟨k + 1, _, rfl, by omega, by simp, x2.upd u3, by simpa using u3.bk⟩
    · simp [q_spec_l01From_0, hlt, h4]
      exact fin
  · simp [q_spec_l01From_0, hlt]
    exact fin

/-- The coefficient of Euclid's algorithm, as the program of the reference has it. -/
def euc (b c u v : Int) : Int := if h : 0 < c then euc c (b % c) v (IntKind.i64.wrap (u - IntKind.i64.wrap (b / c * v))) else u
termination_by c.toNat
decreasing_by have := Int.emod_lt_of_pos b h; have := Int.emod_nonneg b (show c ≠ 0 by omega); omega
def invM (m a : Int) : Int := euc m (a % m) 0 1 % m
theorem invM_bd {m : Int} (hm : 0 < m) (a : Int) : 0 ≤ invM m a ∧ invM m a < m := mod_bd hm _

theorem s_spec_l01Inv {m a : Int} {h : Hp} {R : Value → Hp → Prop} (hm : 0 < m) (hm2 : m ≤ 3000000000) (hR : R (i6 (invM m a)) h) : CallW FF n_spec_l01Inv [i6 m, i6 a] h R := by
  refine w_spec_l01Inv ?_
  simp only [p_spec_l01Inv]
  refine s_spec_l01Mod hm (by omega) ?_
  have hmb := mod_bd hm a
  refine LP1 (fun d vs h' => ∃ b c u v : Int, d = c.toNat ∧ 0 ≤ c ∧ c ≤ m ∧ 0 ≤ b ∧ b ≤ m ∧ h' = h ∧ vs = [i6 m, i6 b, i6 c, i6 u, i6 v] ∧ euc b c u v = euc m (a % m) 0 1) ?_ _ _ _ ⟨m, a % m, 0, 1, rfl, by omega, by omega, by omega, by omega, rfl, rfl, rfl⟩
  rintro d vs h1 ⟨b, c, u, v, rfl, hc, hc2, hb, hb2, rfl, rfl, he⟩ K K1 hK hK1
  refine wl_spec_l01Inv_0 ?_
  by_cases h0 : 0 < c
  · have c0 : ¬ c = 0 := by omega
    have q1 : b.tdiv c = b / c := Int.tdiv_eq_ediv_of_nonneg hb
    have hq0 : 0 ≤ b / c := Int.ediv_nonneg hb (by omega)
    have hq1 : b / c ≤ b := Int.ediv_le_self _ hb
    have hdm : b / c * c + b % c = b := by rw [Int.mul_comm]; exact Int.mul_ediv_add_emod b c
    have hm1 := Int.emod_lt_of_pos b h0; have hm0 := Int.emod_nonneg b c0
    have w1 : IntKind.i64.wrap (b / c) = b / c := wrapI (by omega) (by omega)
    have w2 : IntKind.i64.wrap (b / c * c) = b / c * c := wrapI (by omega) (by omega)
    have w3 : IntKind.i64.wrap (b - b / c * c) = b % c := by rw [wrapI (by omega) (by omega)]; omega
    rw [euc, dif_pos h0] at he
    simp [q_spec_l01Inv_0, h0, c0, q1, w1, w2, w3]
    exact hK _ _ _ (by omega) ⟨c, b % c, v, _, rfl, by omega, by omega, by omega, by omega, rfl, rfl, he⟩
  · rw [euc, dif_neg h0] at he
    simp [q_spec_l01Inv_0, h0]
    refine hK1 _ _ fun e he2 => ?_
    simp at he2
    simp [he2]
    refine s_spec_l01Mod hm (by omega) ?_
    rw [he]; exact hR

/-- Sums and multiples of tables. -/
def addT (m : Int) (a b : List (List Int)) : Nat → List (List Int)
  | 0 => []
  | i + 1 => addT m a b i ++ [addL m (row a i) (row b i)]
def scaleT (m c : Int) (a : List (List Int)) : Nat → List (List Int)
  | 0 => []
  | i + 1 => scaleT m c a i ++ [scaleL m c (row a i)]
@[simp] theorem addT_len (m : Int) (a b : List (List Int)) (n : Nat) : (addT m a b n).length = n := by
  induction n with
  | zero => rfl
  | succ n ih => simp [addT, ih]
@[simp] theorem scaleT_len (m c : Int) (a : List (List Int)) (n : Nat) : (scaleT m c a n).length = n := by
  induction n with
  | zero => rfl
  | succ n ih => simp [scaleT, ih]
theorem row_addT {m : Int} {a b : List (List Int)} {n i : Nat} (h : i < n) : row (addT m a b n) i = addL m (row a i) (row b i) := by
  induction n with
  | zero => omega
  | succ n ih =>
    rw [addT, row_app, addT_len]
    by_cases h2 : i < n
    · rw [if_pos h2, ih h2]
    · rw [if_neg h2, if_pos (by omega), show i = n by omega]
theorem row_scaleT {m c : Int} {a : List (List Int)} {n i : Nat} (h : i < n) : row (scaleT m c a n) i = scaleL m c (row a i) := by
  induction n with
  | zero => omega
  | succ n ih =>
    rw [scaleT, row_app, scaleT_len]
    by_cases h2 : i < n
    · rw [if_pos h2, ih h2]
    · rw [if_neg h2, if_pos (by omega), show i = n by omega]

theorem s_spec_l03Add {m : Int} {A B : Option Addr} {Ra Rb : Nat → Option Addr} {a b : List (List Int)} {N na nb ca cb : Nat} {h : Hp} {R : Value → Hp → Prop} (ha : RT h A Ra a) (hb : RT h B Rb b) (hna : na = N) (hnb : nb = N) (hla : a.length = N) (hlb : b.length = N)
    (hra : ∀ i, i < N → (row a i).length = N - i ∧ Nums m (row a i)) (hrb : ∀ i, i < N → (row b i).length = N - i ∧ Nums m (row b i)) (hm : 0 < m) (hm2 : m ≤ 3000000000) (hN2 : N ≤ 100000)
    (hR : ∀ v h', HE h h' → FT h h' v (addT m a b N) → R v h') : CallW FF n_spec_l03Add [i6 m, .slice A na ca, .slice B nb cb] h R := by
  subst hna; subst hnb
  refine w_spec_l03Add ?_
  simp [p_spec_l03Add]
  refine newB_i fun b0 h1 eb en eh eB => ?_
  refine LP1 (fun d vs h' => ∃ (k bo : Nat) (rb : Nat → Nat), d = nb - k ∧ k ≤ nb ∧ vs = [i6 m, .slice A nb ca, .slice B nb cb, .slice (some ⟨bo, 0, none⟩) k 1, i6 k] ∧ HE h h' ∧ OT h.nx h' bo rb (addT m a b k)) ?_ _ _ _
    ⟨0, b0, fun _ => 0, rfl, by omega, rfl, eh, OT.nil _ (by omega) (by omega) eB⟩
  rintro d vs h2 ⟨k, bo, rb, rfl, hk, rfl, hE, hO⟩ K K1 hK hK1
  refine wl_spec_l03Add_0 ?_
  by_cases hlt : k < nb
  case neg =>
    have : k = nb := by omega
    subst this
    simp [q_spec_l03Add_0]
    refine hK1 _ _ fun e he => ?_
    simp at he; rw [he]
    exact hR _ _ hE ⟨bo, rb, by simp, hO⟩
  have r := (ha.mono hE).at ca (e := k) (n := nb) rfl hla.symm (by omega)
  have t := (hb.mono hE).at cb (e := k) (n := nb) rfl hlb.symm (by omega)
  have ra := hra k hlt; have rb2 := hrb k hlt
  simp [q_spec_l03Add_0, hlt, r, t]
  refine s_spec_l02Add ((ha.mono hE).rows k (by omega)) ((hb.mono hE).rows k (by omega)) rfl rfl hm hm2 ra.2 rb2.2 (by omega) (by omega) fun v h3 e3 f3 => ?_
  obtain ⟨q, rfl, q1, q2, q3⟩ := f3
  have n3 := e3.nx
  simp [wrapI (n := (k : Int) + 1) (by omega) (by omega)]
  have hlo := hO.lob; have hlb2 := hO.ltb
  refine pushRow (lo := h.nx) (xs := addL m (row a k) (row b k)) (T := addT m a b k) (h := h2) (.inr ⟨bo, rb, by simp, hO⟩) e3 hE.nx q1 q2 (by simp) q3 (by simp; unfold sizeMax; omega) fun b' rb' h4 T4 ot hb' => ?_
  simp only [addT_len]
  refine hK _ _ _ (by omega) ⟨k + 1, b', rb', rfl, by omega, rfl, ?_, T4⟩
  have l4 := T4.ltb; have nE := hE.nx
  exact ⟨by omega, fun c hc => by rw [ot c (by omega) (by omega), e3.bk c (by omega), hE.bk c hc]⟩

theorem s_spec_l03Scale {m c : Int} {A : Option Addr} {Ra : Nat → Option Addr} {a : List (List Int)} {N na ca : Nat} {h : Hp} {R : Value → Hp → Prop} (ha : RT h A Ra a) (hna : na = N) (hla : a.length = N)
    (hra : ∀ i, i < N → (row a i).length = N - i ∧ Nums m (row a i)) (hm : 0 < m) (hm2 : m ≤ 3000000000) (hc : 0 ≤ c ∧ c < m) (hN2 : N ≤ 100000)
    (hR : ∀ v h', HE h h' → FT h h' v (scaleT m c a N) → R v h') : CallW FF n_spec_l03Scale [i6 m, i6 c, .slice A na ca] h R := by
  subst hna
  refine w_spec_l03Scale ?_
  simp [p_spec_l03Scale]
  refine newB_i fun b0 h1 eb en eh eB => ?_
  refine LP1 (fun d vs h' => ∃ (k bo : Nat) (rb : Nat → Nat), d = na - k ∧ k ≤ na ∧ vs = [i6 m, i6 c, .slice A na ca, .slice (some ⟨bo, 0, none⟩) k 1, i6 k] ∧ HE h h' ∧ OT h.nx h' bo rb (scaleT m c a k)) ?_ _ _ _
    ⟨0, b0, fun _ => 0, rfl, by omega, rfl, eh, OT.nil _ (by omega) (by omega) eB⟩
  rintro d vs h2 ⟨k, bo, rb, rfl, hk, rfl, hE, hO⟩ K K1 hK hK1
  refine wl_spec_l03Scale_0 ?_
  by_cases hlt : k < na
  case neg =>
    have : k = na := by omega
    subst this
    simp [q_spec_l03Scale_0]
    refine hK1 _ _ fun e he => ?_
    simp at he; rw [he]
    exact hR _ _ hE ⟨bo, rb, by simp, hO⟩
  have r := (ha.mono hE).at ca (e := k) (n := na) rfl hla.symm (by omega)
  have ra := hra k hlt
  simp [q_spec_l03Scale_0, hlt, r]
  refine s_spec_l02Scale ((ha.mono hE).rows k (by omega)) rfl hm hm2 hc ra.2 (by omega) fun v h3 e3 f3 => ?_
  obtain ⟨q, rfl, q1, q2, q3⟩ := f3
  have n3 := e3.nx
  simp [wrapI (n := (k : Int) + 1) (by omega) (by omega)]
  have hlo := hO.lob; have hlb2 := hO.ltb
  refine pushRow (lo := h.nx) (xs := scaleL m c (row a k)) (T := scaleT m c a k) (h := h2) (.inr ⟨bo, rb, by simp, hO⟩) e3 hE.nx q1 q2 (by simp) q3 (by simp; unfold sizeMax; omega) fun b' rb' h4 T4 ot hb' => ?_
  simp only [scaleT_len]
  refine hK _ _ _ (by omega) ⟨k + 1, b', rb', rfl, by omega, rfl, ?_, T4⟩
  have l4 := T4.ltb; have nE := hE.nx
  exact ⟨by omega, fun c hc => by rw [ot c (by omega) (by omega), e3.bk c (by omega), hE.bk c hc]⟩

/-- The table with both variables exchanged. -/
def turnT (N : Nat) (a : List (List Int)) : List (List Int) := (List.range N).map fun x => tab (N - x) fun y => gt2 a y x
@[simp] theorem turnT_len (N : Nat) (a : List (List Int)) : (turnT N a).length = N := by simp [turnT]
theorem row_turnT {N : Nat} {a : List (List Int)} {x : Nat} (h : x < N) : row (turnT N a) x = tab (N - x) fun y => gt2 a y x := by simp [row, turnT, h]
theorem TS.eqG {m : Int} {N : Nat} {Z : List (List Int)} {E : Nat → Nat → Int} (t : TS m N Z E) : Z = (List.range N).map fun x => tab (N - x) fun y => E x y % m := by
  refine table_ext (by simp [t.len]) fun i hi => ?_
  have hi' : i < N := by rw [← t.len]; exact hi
  have e : row ((List.range N).map fun x => tab (N - x) fun y => E x y % m) i = tab (N - i) fun y => E i y % m := by simp [row, hi']
  rw [e]
  exact eq_tab (t.rl i hi') fun y hy => t.en i y (by omega)

theorem TS.put {m : Int} {N x y : Nat} {Z : List (List Int)} {E : Nat → Nat → Int} {v : Int} (t : TS m N Z E) (hx : x + y < N) (E' : Nat → Nat → Int) (hv : v = E' x y % m) (hE : ∀ x' y', x' + y' < N → ¬ (x' = x ∧ y' = y) → E' x' y' = E x' y') :
    TS m N (Z.set x ((row Z x).set y v)) E' := by
  have hxl : x < Z.length := by rw [t.len]; omega
  refine ⟨by simp [t.len], fun i hi => ?_, fun i j hij => ?_⟩
  · rw [row_set]; split
    · rename_i hc; rw [List.length_set, ← hc.1]; exact t.rl x (by omega)
    · exact t.rl i hi
  · unfold gt2; rw [row_set]
    by_cases h1 : x = i
    · subst h1
      rw [if_pos ⟨rfl, hxl⟩, gt_set]
      by_cases h2 : y = j
      · subst h2; rw [if_pos ⟨rfl, by rw [t.rl x (by omega)]; omega⟩]; exact hv
      · rw [if_neg (fun h => h2 h.1), hE x j hij (fun h => h2 h.2.symm)]; exact t.en x j hij
    · rw [if_neg (fun h => h1 h.1), hE i j hij (fun h => h1 h.1.symm)]; exact t.en i j hij

theorem s_spec_l03Turn {m : Int} {A : Option Addr} {Ra : Nat → Option Addr} {a : List (List Int)} {N na ca : Nat} {h : Hp} {R : Value → Hp → Prop} (ha : RT h A Ra a) (hna : na = N) (hla : a.length = N)
    (hra : ∀ i, i < N → (row a i).length = N - i ∧ Nums m (row a i)) (hN : 1 ≤ N) (hN2 : N ≤ 100000)
    (hR : ∀ v h', HE h h' → FT h h' v (turnT N a) → R v h') : CallW FF n_spec_l03Turn [.slice A na ca] h R := by
  subst hna
  refine w_spec_l03Turn ?_
  have w1 : IntKind.i64.wrap ((na : Int) - 1) = ((na - 1 : Nat) : Int) := by rw [wrapI] <;> omega
  simp [p_spec_l03Turn, w1]
  refine s_spec_l03Zero (by omega) fun v h1 hE1 hF => ?_
  obtain ⟨bo, rb, rfl, hT⟩ := hF
  simp only [ztab_len, show na - 1 + 1 = na by omega] at hT ⊢
  refine LP1 (fun d vs h' => ∃ (i : Nat) (Z : List (List Int)), d = na - i ∧ i ≤ na ∧ vs = [.slice A na ca, .slice (some ⟨bo, 0, none⟩) na 1, i6 i] ∧ HE h h' ∧ OT h.nx h' bo rb Z ∧ TS m na Z (fun x y => if y < i then gt2 a y x else 0)) ?_ _ _ _
    ⟨0, ztab (na - 1) na, rfl, by omega, rfl, hE1, hT, by simp, fun x hx => by rw [row_ztab hx]; simp; omega, fun x y hxy => by rw [gt2_ztab]; simp⟩
  rintro d vs h2 ⟨i, Z, rfl, hi, rfl, hE, hO, hZ⟩ K K1 hK hK1
  refine wl_spec_l03Turn_1 ?_
  by_cases hlt : i < na
  case neg =>
    have : i = na := by omega
    subst this
    simp [q_spec_l03Turn_1]
    refine hK1 _ _ fun e he => ?_
    simp at he; rw [he]
    have hZ2 : Z = turnT i a := by
      refine table_ext (by simp [hZ.len]) fun x hx => ?_
      have hx' : x < i := by rw [← hZ.len]; exact hx
      rw [row_turnT hx']
      refine eq_tab (hZ.rl x hx') fun y hy => ?_
      have h3 := hZ.en x y (by omega)
      unfold gt2 at h3; rw [h3, if_pos (by omega)]
      have := (hra y (by omega)).2.gt (show x < (row a y).length by rw [(hra y (by omega)).1]; omega)
      exact Int.emod_eq_of_lt this.1 this.2
    rw [hZ2] at hO
    exact hR _ _ hE ⟨bo, rb, by simp, hO⟩
  have hr := hra i hlt
  simp [q_spec_l03Turn_1, hlt]
  refine LP1 (fun d vs h' => ∃ (j : Nat) (Z : List (List Int)), d = na - j ∧ i + j ≤ na ∧ vs = [.slice A na ca, .slice (some ⟨bo, 0, none⟩) na 1, i6 i, i6 j] ∧ HE h h' ∧ OT h.nx h' bo rb Z ∧ TS m na Z (fun x y => if y < i ∨ (y = i ∧ x < j) then gt2 a y x else 0)) ?_ _ _ _
    ⟨0, Z, rfl, by omega, rfl, hE, hO, hZ.congr fun x y _ => by simp⟩
  clear hZ hO hE Z h2
  rintro d vs h2 ⟨j, Z, rfl, hj, rfl, hE, hO, hZ⟩ K2 K3 hK2 hK3
  refine wl_spec_l03Turn_0 ?_
  have r := (ha.mono hE).at ca (e := i) (n := na) rfl hla.symm (by omega)
  by_cases hlt2 : j < (row a i).length
  case neg =>
    simp [q_spec_l03Turn_0, r, hlt2]
    refine hK3 _ _ fun e he => ?_
    simp at he; simp [he, wrapI (n := (i : Int) + 1) (by omega) (by omega)]
    refine hK _ _ _ (by omega) ⟨i + 1, Z, rfl, by omega, rfl, hE, hO, hZ.congr fun x y hxy => ?_⟩
    by_cases hy : y < i ∨ (y = i ∧ x < j)
    · rw [if_pos hy, if_pos (by omega)]
    · rw [if_neg hy, if_neg (by omega)]
  have t := (ha.mono hE).el 1 (e := j) (i := i) (n := (row a i).length) (by omega) rfl rfl hlt2
  have hjZ : j < Z.length := by rw [hZ.len]; omega
  have zk := hO.rt.at 1 (e := j) (i := j) (n := na) rfl hZ.len.symm hjZ
  have hrow := hO.rows j hjZ
  have hrl := hZ.rl j (by omega)
  have x1 : indexAddrV 1 (.slice (some ⟨rb j, 0, none⟩) (row Z j).length 1) (.int .i64 i) = some (.pointer (some ⟨rb j, i, none⟩)) := ixOwn rfl (by omega)
  simp [q_spec_l03Turn_0, r, hlt2, t, zk, x1, wrapI (n := (j : Int) + 1) (by omega) (by omega)]
  refine storeI (i := i) hrow (by omega) fun h3 u3 => ?_
  refine hK2 _ _ _ (by omega) ⟨j + 1, _, rfl, by omega, rfl, u3.he hE (hO.lor j hjZ), hO.set hjZ (by simp) u3, ?_⟩
  refine hZ.put (by omega) _ ?_ fun x y hxy hne => ?_
  · have := hr.2.gt hlt2
    rw [if_pos (by omega)]
    exact (Int.emod_eq_of_lt this.1 this.2).symm
  · by_cases hy : y < i ∨ (y = i ∧ x < j)
    · rw [if_pos hy, if_pos (by omega)]
    · rw [if_neg hy, if_neg (by omega)]
end XM

/- The reference: l03Both, l02Reverse, l06Conjugate, l02Inverse. -/
namespace XM
open Go

def bterm (m : Int) (T : List (List Int)) (P Q : Nat → List Int) (i j k l : Nat) : Int := if i ≤ k ∧ j ≤ l then gt2 T i j * gt (P i) k % m * gt (Q j) l else 0
def bE3 (m : Int) (N : Nat) (T : List (List Int)) (P Q : Nat → List Int) (i k l : Nat) : Int := sm i fun i' => sm (N - i') fun j' => bterm m T P Q i' j' k l
def bE2 (m : Int) (N : Nat) (T : List (List Int)) (P Q : Nat → List Int) (i j k l : Nat) : Int := bE3 m N T P Q i k l + sm j fun j' => bterm m T P Q i j' k l
/-- The table of T(f(x), g(y)). -/
def bothT (m : Int) (N : Nat) (T : List (List Int)) (f g : List Int) : List (List Int) := (List.range N).map fun x => tab (N - x) fun y => bE3 m N T (powL m (N - 1) f) (powL m (N - 1) g) N x y % m
@[simp] theorem bothT_len (m : Int) (N : Nat) (T : List (List Int)) (f g : List Int) : (bothT m N T f g).length = N := by simp [bothT]
theorem bothT_row {m : Int} (hm : 0 < m) {N : Nat} {T : List (List Int)} {f g : List Int} {i : Nat} (h : i < N) : (row (bothT m N T f g) i).length = N - i ∧ Nums m (row (bothT m N T f g) i) := by
  have e : row (bothT m N T f g) i = tab (N - i) fun y => bE3 m N T (powL m (N - 1) f) (powL m (N - 1) g) N i y % m := by simp [row, bothT, h]
  rw [e]; exact ⟨by simp, nums_tab hm⟩

set_option maxHeartbeats 1000000 in
theorem s_spec_l03Both {m : Int} {A B C : Option Addr} {Rr : Nat → Option Addr} {T : List (List Int)} {f g : List Int} {N ca cb cc n n2 n3 : Nat} {h : Hp} {R : Value → Hp → Prop} (hT : RT h A Rr T) (hf : RI h B f) (hg : RI h C g) (hn : n = N) (hn2 : n2 = N) (hn3 : n3 = N) (hTl : T.length = N)
    (hfl : f.length = N) (hgl : g.length = N) (hr : ∀ i, i < N → (row T i).length = N - i ∧ Nums m (row T i)) (hm : 2 ≤ m) (hm2 : m ≤ 2000000000) (hx : Nums m f) (hy : Nums m g) (hN : 1 ≤ N) (hN2 : N ≤ 100000)
    (hR : ∀ v h', HE h h' → FT h h' v (bothT m N T f g) → R v h') : CallW FF n_spec_l03Both [i6 m, .slice A n ca, .slice B n2 cb, .slice C n3 cc] h R := by
  obtain ⟨D, rfl⟩ : ∃ D, N = D + 1 := ⟨N - 1, by omega⟩
  subst hn; subst hn2; subst hn3
  refine w_spec_l03Both ?_
  have hm0 : 0 < m := by omega
  have m0 : ¬ m = 0 := by omega
  have w1 : IntKind.i64.wrap (D : Int) = D := wrapI (by omega) (by omega)
  simp [p_spec_l03Both]
  refine s_spec_l03Powers hf hfl hm (by omega) hx (by omega) fun v h1 e1 f1 => ?_
  obtain ⟨p, rp, rfl, P1⟩ := f1
  refine s_spec_l03Powers (hg.mono e1) hgl hm (by omega) hy (by omega) fun v h2 e2 f2 => ?_
  obtain ⟨q, rq, rfl, Q2⟩ := f2
  simp [w1]
  refine s_spec_l03Zero (by omega) fun v h3 e3 f3 => ?_
  obtain ⟨bo, rb, rfl, O3⟩ := f3
  have P2 := (P1.mono e2).rt
  have Q2' := Q2.rt
  have E2 := e1.trans e2
  have T2 := hT.mono E2
  simp only [powT_len, ztab_len] at P2 Q2' ⊢
  have hlo : h.nx ≤ h2.nx := E2.nx
  generalize hPe : powL m D f = P at *
  generalize hQe : powL m D g = Q at *
  have hPl : ∀ i, (P i).length = D + 1 := fun i => by rw [← hPe]; simp
  have hQl : ∀ i, (Q i).length = D + 1 := fun i => by rw [← hQe]; simp
  have hPn : ∀ i, Nums m (P i) := fun i => by rw [← hPe]; exact nums_powL hm D f i
  have hQn : ∀ i, Nums m (Q i) := fun i => by rw [← hQe]; exact nums_powL hm D g i
  have hPr : ∀ i, i < D + 1 → row (powT m D f (D + 1)) i = P i := fun i hi => by rw [row_powT hi, hPe]
  have hQr : ∀ i, i < D + 1 → row (powT m D g (D + 1)) i = Q i := fun i hi => by rw [row_powT hi, hQe]
  clear P1 Q2
  -- i
  refine LP1 (fun d vs h' => ∃ (i : Nat) (Z : List (List Int)), d = D + 1 - i ∧ i ≤ D + 1 ∧ vs = [i6 m, .slice A (D + 1) ca, i6 ((D : Int) + 1), .slice (some ⟨p, 0, none⟩) (D + 1) 1, .slice (some ⟨q, 0, none⟩) (D + 1) 1, .slice (some ⟨bo, 0, none⟩) (D + 1) 1, i6 i] ∧ HE h2 h' ∧ OT h2.nx h' bo rb Z ∧ TS m (D + 1) Z (bE3 m (D + 1) T P Q i)) ?_ _ _ _
    ⟨0, ztab D (D + 1), rfl, by omega, rfl, e3, O3, by simp, fun x hx => by rw [row_ztab hx]; simp; omega, fun x y hxy => by rw [gt2_ztab]; simp [bE3, sm]⟩
  clear O3 e3 h3
  rintro d vs h3 ⟨i, Z, rfl, hi, rfl, hE, hO, hZ⟩ K K1 hK hK1
  refine wl_spec_l03Both_3 ?_
  by_cases hlt : i < D + 1
  case neg =>
    have : i = D + 1 := by omega
    subst this
    simp [q_spec_l03Both_3]
    refine hK1 _ _ fun e he => ?_
    simp at he; rw [he]
    have hZ2 : Z = bothT m (D + 1) T f g := by
      rw [hZ.eqG]; unfold bothT
      rw [show D + 1 - 1 = D by omega, hPe, hQe]
    rw [hZ2] at hO
    exact hR _ _ (E2.trans hE) ⟨bo, rb, by simp, hO.lower hlo⟩
  have g1 : (i : Int) < (D : Int) + 1 := by omega
  have wi := wrapI (n := (i : Int) + 1) (by omega) (by omega)
  have hri := hr i hlt
  simp [q_spec_l03Both_3, g1]
  -- j
  refine LP1 (fun d vs h' => ∃ (j : Nat) (Z : List (List Int)), d = D + 1 - j ∧ i + j ≤ D + 1 ∧ vs = [i6 m, .slice A (D + 1) ca, i6 ((D : Int) + 1), .slice (some ⟨p, 0, none⟩) (D + 1) 1, .slice (some ⟨q, 0, none⟩) (D + 1) 1, .slice (some ⟨bo, 0, none⟩) (D + 1) 1, i6 i, i6 j] ∧ HE h2 h' ∧ OT h2.nx h' bo rb Z ∧ TS m (D + 1) Z (bE2 m (D + 1) T P Q i j)) ?_ _ _ _
    ⟨0, Z, rfl, by omega, rfl, hE, hO, hZ.congr fun x y _ => by simp [bE2, sm]⟩
  clear hE hO hZ Z h3
  rintro d vs h3 ⟨j, Z, rfl, hj, rfl, hE, hO, hZ⟩ K2 K3 hK2 hK3
  refine wl_spec_l03Both_2 ?_
  have wij := wrapI (n := (i : Int) + j) (by omega) (by omega)
  have wj := wrapI (n := (j : Int) + 1) (by omega) (by omega)
  by_cases hlt2 : i + j < D + 1
  case neg =>
    have g2 : ¬ (i : Int) + j < (D : Int) + 1 := by omega
    simp [q_spec_l03Both_2, wij, g2]
    refine hK3 _ _ fun e he => ?_
    simp at he; simp [he, wi]
    refine hK _ _ _ (by omega) ⟨i + 1, Z, rfl, by omega, rfl, hE, hO, hZ.congr fun x y _ => ?_⟩
    rw [bE2, bE3, bE3, sm_succ, show j = D + 1 - i by omega]
  have g2 : (i : Int) + j < (D : Int) + 1 := by omega
  simp [q_spec_l03Both_2, wij, g2]
  -- k
  refine LP1 (fun d vs h' => ∃ (k : Nat) (Z : List (List Int)), d = D + 1 - k ∧ i ≤ k ∧ k ≤ D + 1 ∧ vs = [i6 m, .slice A (D + 1) ca, i6 ((D : Int) + 1), .slice (some ⟨p, 0, none⟩) (D + 1) 1, .slice (some ⟨q, 0, none⟩) (D + 1) 1, .slice (some ⟨bo, 0, none⟩) (D + 1) 1, i6 i, i6 j, i6 k] ∧ HE h2 h' ∧ OT h2.nx h' bo rb Z ∧
     TS m (D + 1) Z (fun x y => bE2 m (D + 1) T P Q i j x y + if x < k then bterm m T P Q i j x y else 0)) ?_ _ _ _
    ⟨i, Z, rfl, by omega, by omega, rfl, hE, hO, hZ.congr fun x y _ => by
      by_cases hx : x < i
      · rw [if_pos hx]; unfold bterm; rw [if_neg (by omega)]; simp
      · rw [if_neg hx]; simp⟩
  clear hE hO hZ Z h3
  rintro d vs h3 ⟨k, Z, rfl, hik, hk, rfl, hE, hO, hZ⟩ K4 K5 hK4 hK5
  refine wl_spec_l03Both_1 ?_
  have wk := wrapI (n := (k : Int) + 1) (by omega) (by omega)
  have fin : ∀ Z h3, HE h2 h3 → OT h2.nx h3 bo rb Z → TS m (D + 1) Z (bE2 m (D + 1) T P Q i (j + 1)) → K5 [i6 m, .slice A (D + 1) ca, i6 ((D : Int) + 1), .slice (some ⟨p, 0, none⟩) (D + 1) 1, .slice (some ⟨q, 0, none⟩) (D + 1) 1, .slice (some ⟨bo, 0, none⟩) (D + 1) 1, i6 i, i6 j] h3 := fun Z h3 hE hO hZ => by
    refine hK5 _ _ fun e he => ?_
    simp at he; simp [he, wj]
    exact hK2 _ _ _ (by omega) ⟨j + 1, Z, rfl, by omega, rfl, hE, hO, hZ⟩
  by_cases hlt3 : k < D + 1
  case neg =>
    have g3 : ¬ (k : Int) < (D : Int) + 1 := by omega
    simp [q_spec_l03Both_1, g3]
    refine fin Z _ hE hO (hZ.congr fun x y hxy => ?_)
    rw [if_pos (by omega), bE2, bE2, sm_succ, Int.add_assoc]
  have g3 : (k : Int) < (D : Int) + 1 := by omega
  have r := (T2.mono hE).at ca (e := i) (n := D + 1) rfl hTl.symm (by omega)
  have t := (T2.mono hE).el 1 (e := j) (i := i) (n := (row T i).length) (by omega) rfl rfl (by omega)
  have bT := hri.2.gt (show j < (row T i).length by omega)
  by_cases h0 : gt (row T i) j = 0
  · simp [q_spec_l03Both_1, g3, r, t, h0]
    refine fin Z _ hE hO (hZ.congr fun x y hxy => ?_)
    have hb : bterm m T P Q i j x y = 0 := by
      unfold bterm gt2; rw [h0]; simp
    rw [bE2, bE2, sm_succ, hb]; simp
  have hkZ : k < Z.length := by rw [hZ.len]; omega
  have zk := hO.rt.at 1 (e := k) (i := k) (n := D + 1) rfl hZ.len.symm hkZ
  have hrlk := hZ.rl k (by omega)
  rw [hrlk] at zk
  simp [q_spec_l03Both_1, g3, r, t, h0, zk]
  clear zk hkZ hrlk
  -- l
  refine LP1 (fun d vs h' => ∃ (l : Nat) (Z : List (List Int)), d = D + 1 - l ∧ j ≤ l ∧ l ≤ D + 1 ∧ vs = [i6 m, .slice A (D + 1) ca, i6 ((D : Int) + 1), .slice (some ⟨p, 0, none⟩) (D + 1) 1, .slice (some ⟨q, 0, none⟩) (D + 1) 1, .slice (some ⟨bo, 0, none⟩) (D + 1) 1, i6 i, i6 j, i6 k, .slice (some ⟨rb k, 0, none⟩) (D + 1 - k) 1, i6 l] ∧ HE h2 h' ∧ OT h2.nx h' bo rb Z ∧
     TS m (D + 1) Z (fun x y => bE2 m (D + 1) T P Q i j x y + if x < k ∨ (x = k ∧ y < l) then bterm m T P Q i j x y else 0)) ?_ _ _ _
    ⟨j, Z, rfl, by omega, by omega, rfl, hE, hO, hZ.congr fun x y _ => by
      congr 1
      by_cases hx : x < k
      · rw [if_pos hx, if_pos (.inl hx)]
      · rw [if_neg hx]
        split
        · unfold bterm; rw [if_neg (by omega)]
        · rfl⟩
  clear hE hO hZ Z r t h3
  rintro d vs h3 ⟨l, Z, rfl, hjl, hl, rfl, hE, hO, hZ⟩ K6 K7 hK6 hK7
  refine wl_spec_l03Both_0 ?_
  have wkl := wrapI (n := (k : Int) + l) (by omega) (by omega)
  have wl := wrapI (n := (l : Int) + 1) (by omega) (by omega)
  by_cases hlt4 : k + l < D + 1
  case neg =>
    have g4 : ¬ (k : Int) + l < (D : Int) + 1 := by omega
    simp [q_spec_l03Both_0, wkl, g4]
    refine hK7 _ _ fun e he => ?_
    simp at he; simp [he, wk]
    refine hK4 _ _ _ (by omega) ⟨k + 1, Z, rfl, by omega, by omega, rfl, hE, hO, hZ.congr fun x y hxy => ?_⟩
    congr 1
    by_cases hx : x < k + 1
    · rw [if_pos hx, if_pos (by omega)]
    · rw [if_neg hx, if_neg (by omega)]
  have g4 : (k : Int) + l < (D : Int) + 1 := by omega
  have r := (T2.mono hE).at ca (e := i) (n := D + 1) rfl hTl.symm (by omega)
  have t := (T2.mono hE).el 1 (e := j) (i := i) (n := (row T i).length) (by omega) rfl rfl (by omega)
  have p1 := (P2.mono hE).at 1 (e := i) (i := i) (n := D + 1) rfl (by simp) (by simp; omega)
  rw [hPr i (by omega), hPl] at p1
  have p2 := (P2.mono hE).el 1 (e := k) (i := i) (j := k) (n := D + 1) (by simp; omega) rfl (by rw [hPr i (by omega), hPl]) (by rw [hPr i (by omega), hPl]; omega)
  rw [hPr i (by omega)] at p2
  have q1 := (Q2'.mono hE).at 1 (e := j) (i := j) (n := D + 1) rfl (by simp) (by simp; omega)
  rw [hQr j (by omega), hQl] at q1
  have q2 := (Q2'.mono hE).el 1 (e := l) (i := j) (j := l) (n := D + 1) (by simp; omega) rfl (by rw [hQr j (by omega), hQl]) (by rw [hQr j (by omega), hQl]; omega)
  rw [hQr j (by omega)] at q2
  have hkZ : k < Z.length := by rw [hZ.len]; omega
  have hrow := hO.rows k hkZ
  have hrlk := hZ.rl k (by omega)
  have x1 : indexAddrV 1 (.slice (some ⟨rb k, 0, none⟩) (D + 1 - k) 1) (.int .i64 l) = some (.pointer (some ⟨rb k, l, none⟩)) := ixOwn rfl (by omega)
  have x2 := ownRd (n := 0) (c := 0) hrow (show l < _ by omega)
  have hz := hZ.en k l (by omega)
  have bz : 0 ≤ gt (row Z k) l ∧ gt (row Z k) l < m := by
    have := mod_bd hm0 (bE2 m (D + 1) T P Q i j k l + if k < k ∨ (k = k ∧ l < l) then bterm m T P Q i j k l else 0); rw [← hz] at this; exact this
  have bP := (hPn i).gt (show k < (P i).length by rw [hPl]; omega)
  have bQ := (hQn j).gt (show l < (Q j).length by rw [hQl]; omega)
  have bm1 := mul_bd (by omega) bT bP
  have bm1' := mod_bd hm0 (gt (row T i) j * gt (P i) k)
  have bm2 := mul_bd (by omega) bm1' bQ
  have v1 : IntKind.i64.wrap (gt (row T i) j * gt (P i) k) = gt (row T i) j * gt (P i) k := wrapI (by omega) (by omega)
  have v2 : IntKind.i64.wrap (gt (row T i) j * gt (P i) k % m * gt (Q j) l) = gt (row T i) j * gt (P i) k % m * gt (Q j) l := wrapI (by omega) (by omega)
  have v3 : IntKind.i64.wrap (gt (row Z k) l + gt (row T i) j * gt (P i) k % m * gt (Q j) l) = gt (row Z k) l + gt (row T i) j * gt (P i) k % m * gt (Q j) l := wrapI (by omega) (by omega)
  simp [q_spec_l03Both_0, wkl, g4, x1, x2, r, t, p1, p2, q1, q2, m0, v1, v2, v3, wl, Int.tmod_eq_emod_of_nonneg bm1.1, Int.tmod_eq_emod_of_nonneg (show 0 ≤ gt (row Z k) l + gt (row T i) j * gt (P i) k % m * gt (Q j) l by omega)]
  refine storeI (i := l) hrow (by omega) fun h4 u4 => ?_
  refine hK6 _ _ _ (by omega) ⟨l + 1, _, rfl, by omega, by omega, rfl, u4.he hE (hO.lor k hkZ), hO.set hkZ (by simp) u4, hZ.put (by omega) _ ?_ fun x y hxy hne => ?_⟩
  · have hz' : gt (row Z k) l = (bE2 m (D + 1) T P Q i j k l) % m := by
      have := hz; unfold gt2 at this; rw [this, if_neg (by omega), Int.add_zero]
    rw [hz', if_pos (by omega), Int.emod_add_emod]
    unfold bterm; rw [if_pos (by omega)]; rfl
  · congr 1
    by_cases h3 : x < k ∨ (x = k ∧ y < l)
    · rw [if_pos h3, if_pos (by omega)]
    · rw [if_neg h3, if_neg (by omega)]

theorem s_spec_l03Both2 {m : Int} {A B : Option Addr} {Rr : Nat → Option Addr} {T : List (List Int)} {f : List Int} {N ca cb n n2 : Nat} {h : Hp} {R : Value → Hp → Prop} (hT : RT h A Rr T) (hf : RI h B f) (hn : n = N) (hn2 : n2 = N) (hTl : T.length = N)
    (hfl : f.length = N) (hr : ∀ i, i < N → (row T i).length = N - i ∧ Nums m (row T i)) (hm : 2 ≤ m) (hm2 : m ≤ 2000000000) (hx : Nums m f) (hN : 1 ≤ N) (hN2 : N ≤ 100000)
    (hR : ∀ v h', HE h h' → FT h h' v (bothT m N T f f) → R v h') : CallW FF n_spec_l03Both2 [i6 m, .slice A n ca, .slice B n2 cb] h R := by
  refine w_spec_l03Both2 ?_
  exact s_spec_l03Both hT hf hf hn hn2 hn2 hTl hfl hfl hr hm hm2 hx hx hN hN2 hR

/-- The composition up to a degree n. -/
def compD (m : Int) (n : Nat) (a f : List Int) : List Int := horn m n a f (min (a.length - 1) n) (min (a.length - 1) n + 1)
def revS (m : Int) (D : Nat) (f : List Int) (u : Int) : Nat → List Int
  | 0 => (List.replicate (D + 1) 0).set 1 u
  | k + 1 => (revS m D f u k).set (k + 2) ((m - gt (compD m (k + 2) f (revS m D f u k)) (k + 2)) * u % m)
/-- The reversion of a list of coefficients. -/
def revL (m : Int) (D : Nat) (f : List Int) : List Int := revS m D f (invM m (gt f 1)) (D - 1)
@[simp] theorem revS_len (m : Int) (D : Nat) (f : List Int) (u : Int) (k : Nat) : (revS m D f u k).length = D + 1 := by
  induction k with
  | zero => simp [revS]
  | succ k ih => simp [revS, ih]
theorem nums_revS {m : Int} (hm : 0 < m) (D : Nat) (f : List Int) {u : Int} (hu : 0 ≤ u ∧ u < m) (k : Nat) : Nums m (revS m D f u k) := by
  induction k with
  | zero => exact nums_set (nums_rep hm _) hu
  | succ k ih => exact nums_set ih (mod_bd hm _)
@[simp] theorem revL_len (m : Int) (D : Nat) (f : List Int) : (revL m D f).length = D + 1 := by simp [revL]
theorem nums_revL {m : Int} (hm : 0 < m) (D : Nat) (f : List Int) : Nums m (revL m D f) := nums_revS hm D f (invM_bd hm _) _

theorem s_spec_l02Reverse {m : Int} {A : Option Addr} {f : List Int} {D na ca : Nat} {h : Hp} {R : Value → Hp → Prop} (hf : RI h A f) (hna : na = f.length) (hfl : 2 ≤ f.length) (hfl2 : f.length ≤ 100000) (hm : 2 ≤ m) (hm2 : m ≤ 3000000000) (hx : Nums m f) (hD1 : 1 ≤ D) (hD : D ≤ 90000)
    (hR : ∀ v h', HE h h' → FI y_t_int64 h h' v (revL m D f) → R v h') : CallW FF n_spec_l02Reverse [i6 m, .slice A na ca, i6 D] h R := by
  subst hna
  refine w_spec_l02Reverse ?_
  have hm0 : 0 < m := by omega
  have m0 : ¬ m = 0 := by omega
  have w1 : IntKind.i64.wrap ((D : Int) + 1) = D + 1 := wrapI (by omega) (by omega)
  have mk : makN (.int .i64 ((D : Int) + 1)) = some (D + 1) := makN_nat (by omega) (by unfold sizeMax; omega)
  simp [p_spec_l02Reverse, w1, mk, mapI_rep]
  refine newB_i fun b h1 eb en eh eB => ?_
  have r := (hf.mono eh).at ca (e := 1) (i := 1) (n := f.length) rfl rfl (by omega)
  simp [r]
  refine s_spec_l01Inv hm0 hm2 ?_
  have q1 : indexAddrV 1 (.slice (some ⟨b, 0, none⟩) (D + 1) 1) (.int .i64 1) = some (.pointer (some ⟨b, 1, none⟩)) := ixOwn (i := 1) rfl (by omega)
  simp [q1]
  have hu := invM_bd hm0 (gt f 1)
  have hRl : revL m D f = revS m D f (invM m (gt f 1)) (D - 1) := rfl
  generalize invM m (gt f 1) = u at *
  refine storeI (i := 1) eB (by simp; omega) fun h2 u2 => ?_
  have n2 := u2.nx
  have E2 : HE h h2 := u2.he eh (by omega)
  refine LP1 (fun d vs h' => ∃ k : Nat, d = D - k ∧ k ≤ D - 1 ∧ vs = [i6 m, .slice A f.length ca, i6 D, .slice (some ⟨b, 0, none⟩) (D + 1) 1, i6 u, i6 ((k : Int) + 2)] ∧ HX b h2 h' ∧ h'.bk b = some ⟨mapI (revS m D f u k), y_t_int64, true⟩) ?_ _ _ _
    ⟨0, rfl, by omega, by simp, HX.refl _ _, u2.bk⟩
  rintro d vs h3 ⟨k, rfl, hk, rfl, x3, hbk⟩ K K1 hK hK1
  refine wl_spec_l02Reverse_0 ?_
  have n3 := x3.nx
  have HE3 := x3.out E2 (by omega)
  by_cases hlt : k + 2 ≤ D
  case neg =>
    have hkD : k = D - 1 := by omega
    have g : ¬ (k : Int) + 2 ≤ D := by omega
    simp [q_spec_l02Reverse_0, g]
    refine hK1 _ _ fun e he => ?_
    simp at he; rw [he]
    exact hR _ _ HE3 ⟨b, by simp, by omega, by omega, by rw [hbk, hRl, hkD]⟩
  have g : (k : Int) + 2 ≤ D := by omega
  simp [q_spec_l02Reverse_0, g]
  refine s_spec_l02Compose (D := k + 2) (hf.mono HE3) (RI.of_block (by omega) hbk) rfl (by simp) hm hm2 hx (nums_revS hm0 D f hu k) (by omega) (by omega) (by simp; omega) (by omega) fun v h4 e4 f4 => ?_
  obtain ⟨q, rfl, q2, q3, q4⟩ := f4
  have n4 := e4.nx
  have hcl : (compD m (k + 2) f (revS m D f u k)).length = k + 3 := by simp [compD]
  have rq := (RI.of_block q3 q4).at 1 (e := (k : Int) + 2) (i := k + 2) (n := k + 3) (by omega) (by simp) (by simp)
  have hcn : Nums m (compD m (k + 2) f (revS m D f u k)) := nums_horn hm0 _ _ _ _ _
  have bc := hcn.gt (show k + 2 < _ by rw [hcl]; omega)
  have hce : horn m (k + 2) f (revS m D f u k) (min (f.length - 1) (k + 2)) (min (f.length - 1) (k + 2) + 1) = compD m (k + 2) f (revS m D f u k) := rfl
  rw [hce] at rq
  have v1 : IntKind.i64.wrap (m - gt (compD m (k + 2) f (revS m D f u k)) (k + 2)) = m - gt (compD m (k + 2) f (revS m D f u k)) (k + 2) := wrapI (by omega) (by omega)
  have bq : 0 ≤ (m - gt (compD m (k + 2) f (revS m D f u k)) (k + 2)) * u ∧ (m - gt (compD m (k + 2) f (revS m D f u k)) (k + 2)) * u ≤ 9000000000000000000 := by
    refine ⟨Int.mul_nonneg (by omega) hu.1, ?_⟩
    have h1 : (m - gt (compD m (k + 2) f (revS m D f u k)) (k + 2)) * u ≤ m * u := Int.mul_le_mul_of_nonneg_right (by omega) hu.1
    have h2 : m * u ≤ m * 3000000000 := Int.mul_le_mul_of_nonneg_left (by omega) (by omega)
    omega
  have v2 : IntKind.i64.wrap ((m - gt (compD m (k + 2) f (revS m D f u k)) (k + 2)) * u) = (m - gt (compD m (k + 2) f (revS m D f u k)) (k + 2)) * u := wrapI (by omega) (by omega)
  have q5 : indexAddrV 1 (.slice (some ⟨b, 0, none⟩) (D + 1) 1) (.int .i64 ((k : Int) + 2)) = some (.pointer (some ⟨b, k + 2, none⟩)) := ixOwn (i := k + 2) (by omega) (by omega)
  have lq : ∀ (xs : List Int), xs.length = k + 3 → xs.length = k + 2 + 1 := fun _ h => h
  simp [hcl, rq, v1, v2, m0, q5, Int.tmod_eq_emod_of_nonneg bq.1]
  refine storeI (i := k + 2) (e4.to hbk (by omega)) (by simp; omega) fun h5 u5 => ?_
  refine hK _ _ _ (by omega) ⟨k + 1, rfl, by omega, by simp [show IntKind.i64.wrap ((k : Int) + 2 + 1) = k + 2 + 1 from wrapI (by omega) (by omega)]; omega, (x3.he e4).upd u5, by rw [u5.bk]; rfl⟩

/-- A law in a coordinate. -/
def conjT (m : Int) (N : Nat) (T : List (List Int)) (a : List Int) : List (List Int) := afterT m N a (bothT m N T (revL m (N - 1) a) (revL m (N - 1) a))
theorem s_spec_l06Conjugate {m : Int} {A B : Option Addr} {Rr : Nat → Option Addr} {T : List (List Int)} {f : List Int} {N ca cb n n2 : Nat} {h : Hp} {R : Value → Hp → Prop} (hT : RT h A Rr T) (hf : RI h B f) (hn : n = N) (hn2 : n2 = N) (hTl : T.length = N)
    (hfl : f.length = N) (hr : ∀ i, i < N → (row T i).length = N - i ∧ Nums m (row T i)) (hm : 2 ≤ m) (hm2 : m ≤ 2000000000) (hx : Nums m f) (hN : 2 ≤ N) (hN2 : N ≤ 80000)
    (hR : ∀ v h', HE h h' → FT h h' v (conjT m N T f) → R v h') : CallW FF n_spec_l06Conjugate [i6 m, .slice A n ca, .slice B n2 cb] h R := by
  subst hn; subst hn2
  refine w_spec_l06Conjugate ?_
  have hm0 : 0 < m := by omega
  have w1 : IntKind.i64.wrap ((n2 : Int) - 1) = ((n2 - 1 : Nat) : Int) := by rw [wrapI] <;> omega
  simp [p_spec_l06Conjugate, w1]
  refine s_spec_l02Reverse hf hfl.symm (by omega) (by omega) hm (by omega) hx (by omega) (by omega) fun v h1 e1 f1 => ?_
  obtain ⟨q, rfl, q1, q2, q3⟩ := f1
  refine s_spec_l03Both2 (N := n2) (hT.mono e1) (RI.of_block q2 q3) rfl (by simp; omega) hTl (by simp; omega) hr hm hm2 (nums_revL hm0 _ _) (by omega) (by omega) fun v h2 e2 f2 => ?_
  obtain ⟨p, rp, rfl, P2⟩ := f2
  refine s_spec_l03After (N := n2) (hf.mono (e1.trans e2)) P2.rt hfl.symm (by simp) (by simp) (fun i hi => bothT_row hm0 hi) hm0 (by omega) (by omega) (by omega) (by omega) hx fun v h3 e3 f3 => ?_
  obtain ⟨o, ro, rfl, O3⟩ := f3
  have n1 := e1.nx; have n2' := e2.nx
  exact hR _ _ ((e1.trans e2).trans e3) ⟨o, ro, by simp [conjT], O3.lower (by omega)⟩
end XM

/- Tables of which only the shape matters: l02Inverse, l08Multiplicative, l08Tangent, l08Root, l08Euler. -/
namespace XM
open Go

/-- A triangle of numbers. -/
def Sh (m : Int) (N : Nat) (Z : List (List Int)) : Prop := Z.length = N ∧ ∀ i, i < N → (row Z i).length = N - i ∧ Nums m (row Z i)
theorem Sh.set {m v : Int} {N x y : Nat} {Z : List (List Int)} (s : Sh m N Z) (hx : x < N) (hv : 0 ≤ v ∧ v < m) : Sh m N (Z.set x ((row Z x).set y v)) := by
  refine ⟨by simp [s.1], fun i hi => ?_⟩
  rw [row_set]; split
  · rename_i hc; rw [← hc.1, List.length_set]; exact ⟨(s.2 x hx).1, nums_set (s.2 x hx).2 hv⟩
  · exact s.2 i hi
theorem Sh.ztab {m : Int} (hm : 0 < m) {D : Nat} : Sh m (D + 1) (ztab D (D + 1)) := ⟨by simp, fun i hi => by rw [row_ztab hi]; exact ⟨by simp; omega, nums_rep hm _⟩⟩
theorem Sh.mulT {m : Int} (hm : 0 < m) {N : Nat} {a b : List (List Int)} : Sh m N (mulT m N a b) := ⟨by simp, fun i hi => by rw [row_mulT hi]; exact ⟨by simp, nums_tab hm⟩⟩
theorem Sh.addT {m : Int} (hm : 0 < m) {N : Nat} {a b : List (List Int)} (s : Sh m N a) : Sh m N (addT m a b N) := ⟨by simp, fun i hi => by rw [row_addT hi]; exact ⟨by simpa using (s.2 i hi).1, nums_addL hm _ _⟩⟩
theorem Sh.scaleT {m c : Int} (hm : 0 < m) {N : Nat} {a : List (List Int)} (s : Sh m N a) : Sh m N (scaleT m c a N) := ⟨by simp, fun i hi => by rw [row_scaleT hi]; exact ⟨by simpa using (s.2 i hi).1, nums_scaleL hm _ _⟩⟩
theorem Sh.turnT {m : Int} {N : Nat} {a : List (List Int)} (s : Sh m N a) : Sh m N (turnT N a) := ⟨by simp, fun i hi => by
  rw [row_turnT hi]
  refine ⟨by simp, nums_iff.2 fun j hj => ?_⟩
  simp at hj
  rw [gt_tab hj]
  exact (s.2 j (by omega)).2.gt (by rw [(s.2 j (by omega)).1]; omega)⟩
theorem Sh.afterT {m : Int} (hm : 0 < m) {N : Nat} {f : List Int} {T : List (List Int)} : Sh m N (afterT m N f T) := ⟨by simp, fun i hi => hornT_row hm i hi⟩
theorem Sh.tri {m : Int} {D : Nat} {Z : List (List Int)} (s : Sh m (D + 1) Z) : Tri m D Z := ⟨s.1, fun i hi => by have := s.2 i (by rw [← s.1]; exact hi); exact this⟩

/-- A triangle of the function's own, in the blocks from lo on, below hi. -/
def OB (m : Int) (N lo hi : Nat) (h : Hp) (b : Nat) (rb : Nat → Nat) : Prop := ∃ Z, OT lo h b rb Z ∧ Sh m N Z ∧ b < hi ∧ ∀ i, i < N → rb i < hi
/-- The answer of a function is such a triangle. -/
def FB (m : Int) (N : Nat) (h h' : Hp) (v : Value) : Prop := ∃ b rb, v = .slice (some ⟨b, 0, none⟩) N 1 ∧ OB m N h.nx h'.nx h' b rb
theorem FT.fb {m : Int} {N : Nat} {h h' : Hp} {v : Value} {T : List (List Int)} (f : FT h h' v T) (s : Sh m N T) : FB m N h h' v := by
  obtain ⟨b, rb, rfl, o⟩ := f
  exact ⟨b, rb, by rw [s.1], T, o, s, o.ltb, fun i hi => o.ltr i (by rw [s.1]; exact hi)⟩
theorem FB.ft {m : Int} {N : Nat} {h h' : Hp} {v : Value} (f : FB m N h h' v) : ∃ T, Sh m N T ∧ FT h h' v T := by
  obtain ⟨b, rb, rfl, Z, o, s, _, _⟩ := f
  exact ⟨Z, s, b, rb, by rw [s.1], o⟩
section
variable {m : Int} {N lo hi : Nat} {h h' : Hp} {b : Nat} {rb : Nat → Nat}
theorem OB.he (o : OB m N lo hi h b rb) (e : HE h h') : OB m N lo hi h' b rb := by
  obtain ⟨Z, o, s, h1, h2⟩ := o; exact ⟨Z, o.mono e, s, h1, h2⟩
theorem OB.keep {lo' hi' : Nat} (o : OB m N lo hi h b rb) (z : HZ lo' hi' h h') (hd : hi ≤ lo' ∨ hi' ≤ lo) : OB m N lo hi h' b rb := by
  obtain ⟨Z, o, s, h1, h2⟩ := o
  have hlor := o.lor; have hlob := o.lob
  have h2' : ∀ i, i < Z.length → rb i < hi := fun i hi => h2 i (by rw [← s.1]; exact hi)
  exact ⟨Z, ⟨o.lob, Nat.lt_of_lt_of_le o.ltb z.nx, z.to o.top o.ltb (by omega), o.lor, fun i hi => Nat.lt_of_lt_of_le (o.ltr i hi) z.nx, o.ne, fun i hi => z.to (o.rows i hi) (o.ltr i hi) (by have := h2' i hi; have := hlor i hi; omega), o.inj⟩, s, h1, h2⟩
theorem OB.at (o : OB m N lo hi h b rb) (c : Nat) {e : Int} {i n : Nat} (he : e = i) (hn : n = N) (hi : i < N) :
    indexAddrV 1 (.slice (some ⟨b, 0, none⟩) n c) (.int .i64 e) = some (elp (some ⟨b, 0, none⟩) 1 i) ∧ ldV 1 false h (elp (some ⟨b, 0, none⟩) 1 i) = some (.slice (some ⟨rb i, 0, none⟩) (N - i) 1) := by
  obtain ⟨Z, o, s, h1, h2⟩ := o
  have := o.rt.at c (e := e) (i := i) (n := n) he (by rw [s.1]; exact hn) (by rw [s.1]; exact hi)
  rw [(s.2 i hi).1] at this
  exact this
theorem OB.ix {i : Nat} (o : OB m N lo hi h b rb) {e : Int} {j n c : Nat} (hi : i < N) (he : e = j) (hn : n = N - i) (hj : j < N - i) :
    indexAddrV 1 (.slice (some ⟨rb i, 0, none⟩) n c) (.int .i64 e) = some (.pointer (some ⟨rb i, j, none⟩)) := by subst hn; exact ixOwn he hj
theorem OB.get {i j : Nat} (o : OB m N lo hi h b rb) (hi : i < N) (hj : j < N - i) : ∃ x : Int, 0 ≤ x ∧ x < m ∧ ldV 1 false h (.pointer (some ⟨rb i, j, none⟩)) = some (i6 x) := by
  obtain ⟨Z, o, s, h1, h2⟩ := o
  have hjl : j < (row Z i).length := by rw [(s.2 i hi).1]; exact hj
  have := (s.2 i hi).2.gt hjl
  exact ⟨_, this.1, this.2, ownRd (n := 0) (c := 0) (o.rows i (by rw [s.1]; exact hi)) hjl⟩
theorem OB.store {i j : Nat} {v : Int} {K : Hp → Prop} (o : OB m N lo hi h b rb) (hi' : i < N) (hj : j < N - i) (hv : 0 ≤ v ∧ v < m) (hk : ∀ h', HZ lo hi h h' → h'.nx = h.nx → OB m N lo hi h' b rb → K h') :
    bindO (storeV 1 h (.int .i64 v) (.pointer (some ⟨rb i, j, none⟩))) K := by
  obtain ⟨Z, o, s, h1, h2⟩ := o
  have hiZ : i < Z.length := by rw [s.1]; exact hi'
  refine storeI (i := j) (o.rows i hiZ) (by rw [(s.2 i hi').1]; exact hj) fun h3 u3 => ?_
  exact hk h3 ((HZ.refl _ _ _).upd u3 (o.lor i hiZ) (h2 i hi')) u3.nx ⟨_, o.set hiZ (by simp) u3, s.set hi' hv, h1, h2⟩
theorem OB.rt (o : OB m N lo hi h b rb) : ∃ Z, RT h (some ⟨b, 0, none⟩) (fun i => some ⟨rb i, 0, none⟩) Z ∧ Sh m N Z := by
  obtain ⟨Z, o, s, h1, h2⟩ := o; exact ⟨Z, o.rt, s⟩
theorem OB.fb {h0 : Hp} (o : OB m N lo hi h b rb) (hl : h0.nx ≤ lo) : FB m N h0 h (.slice (some ⟨b, 0, none⟩) N 1) := by
  obtain ⟨Z, o, s, h1, h2⟩ := o
  exact ⟨b, rb, rfl, Z, o.lower hl, s, o.ltb, fun i hi => o.ltr i (by rw [s.1]; exact hi)⟩
theorem OB.ltb (o : OB m N lo hi h b rb) : b < h.nx := by obtain ⟨Z, o, s, h1, h2⟩ := o; exact o.ltb
end

theorem s_spec_l03Zero_b {m : Int} {D : Nat} {h : Hp} {R : Value → Hp → Prop} (hm : 0 < m) (hD : D ≤ 1000000) (hR : ∀ b rb h', HE h h' → OB m (D + 1) h.nx h'.nx h' b rb → R (.slice (some ⟨b, 0, none⟩) (D + 1) 1) h') : CallW FF n_spec_l03Zero [i6 D] h R := by
  refine s_spec_l03Zero hD fun v h1 e1 f1 => ?_
  obtain ⟨b, rb, rfl, o⟩ := f1.fb (Sh.ztab hm)
  exact hR b rb h1 e1 o

theorem s_spec_l08Multiplicative {m c : Int} {D : Nat} {h : Hp} {R : Value → Hp → Prop} (hm : 2 ≤ m) (hc : 0 ≤ c ∧ c < m) (hD1 : 1 ≤ D) (hD : D ≤ 100000) (hR : ∀ v h', HE h h' → FB m (D + 1) h h' v → R v h') : CallW FF n_spec_l08Multiplicative [i6 m, i6 D, i6 c] h R := by
  refine w_spec_l08Multiplicative ?_
  simp only [p_spec_l08Multiplicative]
  refine s_spec_l03Zero_b (m := m) (by omega) (by omega) fun b rb h1 e1 o1 => ?_
  have r1 := o1.at 1 (e := 1) (i := 1) (n := D + 1) rfl rfl (by omega)
  have x1 := o1.ix (i := 1) (e := 0) (j := 0) (n := D + 1 - 1) (c := 1) (by omega) rfl rfl (by omega)
  simp only [r1, x1, bindO_some]
  refine o1.store (by omega) (by omega) (by omega) fun h2 z2 n2 o2 => ?_
  have r2 := o2.at 1 (e := 0) (i := 0) (n := D + 1) rfl rfl (by omega)
  have x2 := o2.ix (i := 0) (e := 1) (j := 1) (n := D + 1 - 0) (c := 1) (by omega) rfl rfl (by omega)
  simp only [r2, x2, bindO_some]
  refine o2.store (by omega) (by omega) (by omega) fun h3 z3 n3 o3 => ?_
  have z13 : HZ h.nx h1.nx h1 h3 := ⟨by omega, fun b hb hne => (z3.bk b (by omega) hne).trans (z2.bk b hb hne)⟩
  by_cases g : 1 < D
  · have r3 := o3.at 1 (e := 1) (i := 1) (n := D + 1) rfl rfl (by omega)
    have x3 := o3.ix (i := 1) (e := 1) (j := 1) (n := D + 1 - 1) (c := 1) (by omega) rfl rfl (by omega)
    have g' : (1 : Int) < D := by omega
    simp only [bin_gtr, bindO_some, g', decide_true, condM_true, r3, x3]
    refine o3.store (by omega) (by omega) hc fun h4 z4 n4 o4 => ?_
    exact hR _ _ ⟨by have := e1.nx; omega, fun b hb => by rw [z4.bk b (by have := e1.nx; omega) (by omega), z13.bk b (by have := e1.nx; omega) (by omega), e1.bk b hb]⟩ (o4.fb (by omega))
  · have g' : ¬ (1 : Int) < D := by omega
    simp only [bin_gtr, bindO_some, g', decide_false, condM_false]
    exact hR _ _ (z13.out e1 (by omega)) (o3.fb (by omega))

theorem s_spec_l08Tangent {m c : Int} {D : Nat} {h : Hp} {R : Value → Hp → Prop} (hm : 2 ≤ m) (hm2 : m ≤ 3000000000) (hc : 0 ≤ c ∧ c < m) (hD1 : 1 ≤ D) (hD : D ≤ 100000) (hR : ∀ v h', HE h h' → FB m (D + 1) h h' v → R v h') : CallW FF n_spec_l08Tangent [i6 m, i6 D, i6 c] h R := by
  refine w_spec_l08Tangent ?_
  have m0 : ¬ m = 0 := by omega
  have t1 : (1 : Int).tmod m = 1 := by rw [Int.tmod_eq_emod_of_nonneg (by omega), Int.emod_eq_of_lt (by omega) (by omega)]
  simp only [p_spec_l08Tangent]
  refine s_spec_l03Zero_b (m := m) (by omega) (by omega) fun b rb h1 e1 o1 => ?_
  simp [m0, t1]
  refine LP1 (fun d vs h' => ∃ (k : Nat) (p : Int), d = D + 1 - k ∧ k ≤ D ∧ 0 ≤ p ∧ p < m ∧ vs = [i6 m, i6 D, i6 c, .slice (some ⟨b, 0, none⟩) (D + 1) 1, i6 p, i6 k] ∧ HZ h.nx h1.nx h1 h' ∧ OB m (D + 1) h.nx h1.nx h' b rb) ?_ _ _ _
    ⟨0, 1, rfl, by omega, by omega, by omega, rfl, HZ.refl _ _ _, o1⟩
  rintro d vs h2 ⟨k, p, rfl, hk, p0, p1, rfl, z2, o2⟩ K K1 hK hK1
  refine wl_spec_l08Tangent_0 ?_
  have w1 : IntKind.i64.wrap (2 * (k : Int)) = 2 * k := wrapI (by omega) (by omega)
  have w2 : IntKind.i64.wrap (2 * (k : Int) + 1) = 2 * k + 1 := wrapI (by omega) (by omega)
  have w3 : IntKind.i64.wrap ((k : Int) + 1) = k + 1 := wrapI (by omega) (by omega)
  by_cases g : 2 * k + 1 ≤ D
  case neg =>
    have g' : ¬ 2 * (k : Int) + 1 ≤ D := by omega
    simp [q_spec_l08Tangent_0, w1, w2, g']
    refine hK1 _ _ fun e he => ?_
    simp at he; rw [he]
    exact hR _ _ (z2.out e1 (by omega)) (o2.fb (by omega))
  have g' : 2 * (k : Int) + 1 ≤ D := by omega
  have r2 := o2.at 1 (e := (k : Int) + 1) (i := k + 1) (n := D + 1) (by omega) rfl (by omega)
  have x2 := o2.ix (i := k + 1) (e := k) (j := k) (n := D + 1 - (k + 1)) (c := 1) (by omega) rfl rfl (by omega)
  simp only [q_spec_l08Tangent_0, bin_mul, bin_add, w1, w2, w3, bin_leq, bindO_some, g', decide_true, condM_true, r2, x2]
  refine o2.store (by omega) (by omega) ⟨p0, p1⟩ fun h3 z3 n3 o3 => ?_
  have r3 := o3.at 1 (e := (k : Int)) (i := k) (n := D + 1) rfl rfl (by omega)
  have x3 := o3.ix (i := k) (e := (k : Int) + 1) (j := k + 1) (n := D + 1 - k) (c := 1) (by omega) (by omega) rfl (by omega)
  simp only [r3, x3, bindO_some]
  refine o3.store (by omega) (by omega) ⟨p0, p1⟩ fun h4 z4 n4 o4 => ?_
  have w4 : IntKind.i64.wrap (m - c) = m - c := wrapI (by omega) (by omega)
  have bq : 0 ≤ p * (m - c) ∧ p * (m - c) ≤ 9000000000000000000 := by
    refine ⟨Int.mul_nonneg p0 (by omega), ?_⟩
    have h1 : p * (m - c) ≤ p * 3000000000 := Int.mul_le_mul_of_nonneg_left (by omega) p0
    omega
  have w5 : IntKind.i64.wrap (p * (m - c)) = p * (m - c) := wrapI (by omega) (by omega)
  have bm := mod_bd (show 0 < m by omega) (p * (m - c))
  simp [w4, w5, m0, Int.tmod_eq_emod_of_nonneg bq.1]
  refine hK _ _ _ (by omega) ⟨k + 1, _, rfl, by omega, bm.1, bm.2, rfl, ⟨by have := z2.nx; omega, fun b hb hne => ?_⟩, o4⟩
  have := z2.nx
  rw [z4.bk b (by omega) hne, z3.bk b (by omega) hne, z2.bk b hb hne]

theorem s_spec_l08Root {m a e : Int} {D : Nat} {h : Hp} {R : Value → Hp → Prop} (hm : 2 ≤ m) (hm2 : m ≤ 1000000000) (ha : 0 ≤ a ∧ a < m) (he : 0 ≤ e ∧ e < m) (hD1 : 1 ≤ D) (hD : D ≤ 100000)
    (hR : ∀ v h' xs, HE h h' → FI y_t_int64 h h' v xs → xs.length = D + 1 → Nums m xs → R v h') : CallW FF n_spec_l08Root [i6 m, i6 D, i6 a, i6 e] h R := by
  refine w_spec_l08Root ?_
  have m0 : ¬ m = 0 := by omega
  have hm0 : 0 < m := by omega
  have w1 : IntKind.i64.wrap ((D : Int) + 1) = D + 1 := wrapI (by omega) (by omega)
  have mk : makN (.int .i64 ((D : Int) + 1)) = some (D + 1) := makN_nat (by omega) (by unfold sizeMax; omega)
  simp only [p_spec_l08Root]
  refine s_spec_l01Inv hm0 (by omega) ?_
  have hu := invM_bd hm0 2
  generalize invM m 2 = u at *
  simp [w1, mk, mapI_rep]
  refine newB_i fun b h1 eb en eh eB => ?_
  have q1 : indexAddrV 1 (.slice (some ⟨b, 0, none⟩) (D + 1) 1) (.int .i64 0) = some (.pointer (some ⟨b, 0, none⟩)) := ixOwn (i := 0) rfl (by omega)
  simp [q1]
  refine storeI (i := 0) eB (by simp) fun h2 u2 => ?_
  have n2 := u2.nx
  have E2 : HE h h2 := u2.he eh (by omega)
  refine LP1 (fun d vs h' => ∃ (k : Nat) (xs : List Int), d = D + 1 - k ∧ 1 ≤ k ∧ k ≤ D + 1 ∧ vs = [i6 m, i6 D, i6 a, i6 e, i6 u, .slice (some ⟨b, 0, none⟩) (D + 1) 1, i6 k] ∧ HX b h2 h' ∧ h'.bk b = some ⟨mapI xs, y_t_int64, true⟩ ∧ xs.length = D + 1 ∧ Nums m xs) ?_ _ _ _
    ⟨1, _, rfl, by omega, by omega, rfl, HX.refl _ _, u2.bk, by simp, nums_set (nums_rep hm0 _) (by omega)⟩
  rintro d vs h3 ⟨k, xs, rfl, hk1, hk, rfl, x3, hbk, hl, hn⟩ K K1 hK hK1
  refine wl_spec_l08Root_1 ?_
  have n3 := x3.nx
  by_cases g : k ≤ D
  case neg =>
    have g' : ¬ (k : Int) ≤ D := by omega
    simp [q_spec_l08Root_1, g]
    refine hK1 _ _ fun e he => ?_
    simp at he; rw [he]
    exact hR _ _ xs (x3.out E2 (by omega)) ⟨b, by rw [hl], by omega, by omega, hbk⟩ hl hn
  have g' : (k : Int) ≤ D := by omega
  have w2 : IntKind.i64.wrap (2 * m) = 2 * m := wrapI (by omega) (by omega)
  have w3 : IntKind.i64.wrap (2 * a) = 2 * a := wrapI (by omega) (by omega)
  have w4 : IntKind.i64.wrap (2 * m - 2 * a) = 2 * m - 2 * a := wrapI (by omega) (by omega)
  have w5 : IntKind.i64.wrap ((k : Int) + 1) = k + 1 := wrapI (by omega) (by omega)
  simp only [q_spec_l08Root_1, bin_leq, bindO_some, g', decide_true, condM_true, bin_eql, bin_mul, w2, w3, bin_sub, w4, bin_rem, m0, if_false]
  refine ⟨fun vs h' => ∃ t : Int, h' = h3 ∧ 0 ≤ t ∧ t < m ∧ vs = [i6 m, i6 D, i6 a, i6 e, i6 u, .slice (some ⟨b, 0, none⟩) (D + 1) 1, i6 k, i6 t], ?_, ?_⟩
  · rintro vs h4 ⟨t, rfl, t0, t1, rfl⟩ ev he1
    simp at he1
    simp only [he1, bin_eql, bindO_some]
    refine ⟨fun vs h' => ∃ t : Int, h' = h4 ∧ 0 ≤ t ∧ t < m ∧ vs = [i6 m, i6 D, i6 a, i6 e, i6 u, .slice (some ⟨b, 0, none⟩) (D + 1) 1, i6 k, i6 t], ?_, ?_⟩
    · rintro vs h5 ⟨t, rfl, t0, t1, rfl⟩ ev2 he2
      simp at he2
      simp only [he2]
      refine LP1 (fun d vs h' => ∃ (i : Nat) (t : Int), d = k - i ∧ 1 ≤ i ∧ i ≤ k ∧ h' = h5 ∧ 0 ≤ t ∧ t < m ∧ vs = [i6 m, i6 D, i6 a, i6 e, i6 u, .slice (some ⟨b, 0, none⟩) (D + 1) 1, i6 k, i6 t, i6 i]) ?_ _ _ _ ⟨1, t, rfl, by omega, by omega, rfl, t0, t1, rfl⟩
      rintro d vs h6 ⟨i, t, rfl, hi1, hi, rfl, t0, t1, rfl⟩ K2 K3 hK2 hK3
      refine wl_spec_l08Root_0 ?_
      by_cases g6 : i < k
      case neg =>
        simp [q_spec_l08Root_0, g6]
        refine hK3 _ _ fun ev3 he3 => ?_
        simp at he3
        have bq := mul_bd (show m ≤ 3000000000 by omega) ⟨t0, t1⟩ hu
        have w6 : IntKind.i64.wrap (t * u) = t * u := wrapI (by omega) (by omega)
        have q5 : indexAddrV 1 (.slice (some ⟨b, 0, none⟩) (D + 1) 1) (.int .i64 k) = some (.pointer (some ⟨b, k, none⟩)) := ixOwn rfl (by omega)
        simp [he3, w6, m0, q5, w5, Int.tmod_eq_emod_of_nonneg bq.1]
        refine storeI hbk (by omega) fun h7 u7 => ?_
        exact hK _ _ _ (by omega) ⟨k + 1, _, rfl, by omega, by omega, rfl, x3.upd u7, u7.bk, by simp [hl], nums_set hn (mod_bd hm0 _)⟩
      have r1 := (RI.of_block (by omega) hbk).at 1 (e := i) (i := i) (n := D + 1) rfl hl.symm (by omega)
      have v1 : IntKind.i64.wrap ((k : Int) - i) = k - i := wrapI (by omega) (by omega)
      have r2 := (RI.of_block (by omega) hbk).at 1 (e := (k : Int) - i) (i := k - i) (n := D + 1) (by omega) hl.symm (by omega)
      have b1 := hn.gt (show i < xs.length by omega); have b2 := hn.gt (show k - i < xs.length by omega)
      have v2 : IntKind.i64.wrap (m - gt xs i) = m - gt xs i := wrapI (by omega) (by omega)
      have bq : 0 ≤ (m - gt xs i) * gt xs (k - i) ∧ (m - gt xs i) * gt xs (k - i) ≤ 1000000000000000000 := by
        refine ⟨Int.mul_nonneg (by omega) b2.1, ?_⟩
        have h1 : (m - gt xs i) * gt xs (k - i) ≤ (m - gt xs i) * 1000000000 := Int.mul_le_mul_of_nonneg_left (by omega) (by omega)
        omega
      have v3 : IntKind.i64.wrap ((m - gt xs i) * gt xs (k - i)) = (m - gt xs i) * gt xs (k - i) := wrapI (by omega) (by omega)
      have v4 : IntKind.i64.wrap (t + (m - gt xs i) * gt xs (k - i)) = t + (m - gt xs i) * gt xs (k - i) := wrapI (by omega) (by omega)
      have v5 : IntKind.i64.wrap ((i : Int) + 1) = i + 1 := wrapI (by omega) (by omega)
      have bm := mod_bd hm0 (t + (m - gt xs i) * gt xs (k - i))
      simp [q_spec_l08Root_0, g6, r1, r2, v1, v2, v3, v4, v5, m0, Int.tmod_eq_emod_of_nonneg (show 0 ≤ t + (m - gt xs i) * gt xs (k - i) by omega)]
      exact hK2 _ _ _ (by omega) ⟨i + 1, _, rfl, by omega, by omega, rfl, bm.1, bm.2, rfl⟩
    · by_cases g4 : (k : Int) = 4
      · simp only [g4, decide_true, condM_true]
        exact ⟨e, trivial, he.1, he.2, rfl⟩
      · simp only [g4, decide_false, condM_false]
        exact ⟨t, trivial, t0, t1, rfl⟩
  · by_cases g2 : (k : Int) = 2
    · simp only [g2, decide_true, condM_true]
      have := mod_bd hm0 (2 * m - 2 * a)
      exact ⟨_, trivial, this.1, this.2, by rw [Int.tmod_eq_emod_of_nonneg (by omega)]⟩
    · simp only [g2, decide_false, condM_false]
      exact ⟨0, trivial, by omega, hm0, rfl⟩
end XM

/- The laws that are drawn: l08Euler, l08Series, l02Inverse. -/
namespace XM
open Go

theorem mul_bd2 {m a b : Int} (hm2 : m ≤ 1000000000) (ha : 0 ≤ a ∧ a < m) (hb : 0 ≤ b ∧ b < m) : 0 ≤ a * b ∧ a * b ≤ 1000000000000000000 := by
  refine ⟨Int.mul_nonneg ha.1 hb.1, ?_⟩
  have h1 : a * b ≤ a * 1000000000 := Int.mul_le_mul_of_nonneg_left (by omega) ha.1
  omega

theorem s_spec_l08Euler {m a e : Int} {D : Nat} {h : Hp} {R : Value → Hp → Prop} (hm : 2 ≤ m) (hm2 : m ≤ 1000000000) (ha : 0 ≤ a ∧ a < m) (he : 0 ≤ e ∧ e < m) (hD1 : 1 ≤ D) (hD : D ≤ 90000)
    (hR : ∀ v h', HE h h' → FB m (D + 1) h h' v → R v h') : CallW FF n_spec_l08Euler [i6 m, i6 D, i6 a, i6 e] h R := by
  refine w_spec_l08Euler ?_
  have m0 : ¬ m = 0 := by omega
  have hm0 : 0 < m := by omega
  have t1 : (1 : Int).tmod m = 1 := by rw [Int.tmod_eq_emod_of_nonneg (by omega), Int.emod_eq_of_lt (by omega) (by omega)]
  simp only [p_spec_l08Euler]
  refine s_spec_l08Root hm hm2 ha he hD1 (by omega) fun v h1 xs e1 f1 hl hn => ?_
  obtain ⟨q, rfl, q1, q2, q3⟩ := f1
  have rx := RI.of_block q2 q3
  rw [hl]
  refine s_spec_l03Zero_b (m := m) hm0 (by omega) fun t rt h2 e2 o2 => ?_
  refine s_spec_l03Zero_b (m := m) hm0 (by omega) fun f rf h3 e3 o3 => ?_
  have n1 := e1.nx; have n2 := e2.nx; have n3 := e3.nx
  have E3 : HE h1 h3 := e2.trans e3
  have o2 := o2.he e3
  have keyHE : ∀ h', HZ h1.nx h2.nx h3 h' → HE h1 h' := fun h' z => z.out E3 (by omega)
  refine LP1 (fun d vs h' => ∃ k : Nat, d = D - k ∧ k ≤ D ∧ vs = [i6 m, i6 D, i6 e, .slice (some ⟨q, 0, none⟩) (D + 1) 1, .slice (some ⟨t, 0, none⟩) (D + 1) 1, .slice (some ⟨f, 0, none⟩) (D + 1) 1, i6 k] ∧ HZ h1.nx h2.nx h3 h' ∧ OB m (D + 1) h1.nx h2.nx h' t rt) ?_ _ _ _
    ⟨0, rfl, by omega, rfl, HZ.refl _ _ _, o2⟩
  rintro d vs h4 ⟨k, rfl, hk, rfl, z4, o4⟩ K K1 hK hK1
  refine wl_spec_l08Euler_0 ?_
  have E4 := keyHE h4 z4
  have n4 := z4.nx
  by_cases g : k < D
  case pos =>
    have r1 := o4.at 1 (e := 1) (i := 1) (n := D + 1) rfl rfl (by omega)
    have x1 := o4.ix (i := 1) (e := k) (j := k) (n := D + 1 - 1) (c := 1) (by omega) rfl rfl (by omega)
    have r2 := (rx.mono E4).at 1 (e := k) (i := k) (n := D + 1) rfl hl.symm (by omega)
    have bx := hn.gt (show k < xs.length by omega)
    have g' : (k : Int) < D := by omega
    simp only [q_spec_l08Euler_0, bin_lss, g', decide_true, condM_true, bindO_some, r1, r2, x1]
    refine o4.store (by omega) (by omega) bx fun h5 z5 n5 o5 => ?_
    simp [wrapI (n := (k : Int) + 1) (by omega) (by omega)]
    exact hK _ _ _ (by omega) ⟨k + 1, rfl, by omega, rfl, ⟨by omega, fun b hb hne => by rw [z5.bk b (by omega) hne, z4.bk b hb hne]⟩, o5⟩
  have g' : ¬ (k : Int) < D := by omega
  simp [q_spec_l08Euler_0, g]
  refine hK1 _ _ fun ev hev => ?_
  simp at hev
  simp [hev]
  clear hK hK1 K K1 g g' hk hev k
  refine LP1 (fun d vs h' => ∃ k : Nat, d = D - k ∧ k ≤ D ∧ vs = [i6 m, i6 D, i6 e, .slice (some ⟨q, 0, none⟩) (D + 1) 1, .slice (some ⟨t, 0, none⟩) (D + 1) 1, .slice (some ⟨f, 0, none⟩) (D + 1) 1, i6 k] ∧ HZ h1.nx h2.nx h3 h' ∧ OB m (D + 1) h1.nx h2.nx h' t rt) ?_ _ _ _
    ⟨0, rfl, by omega, rfl, z4, o4⟩
  clear z4 o4 E4 n4 h4
  rintro d vs h4 ⟨k, rfl, hk, rfl, z4, o4⟩ K K1 hK hK1
  refine wl_spec_l08Euler_1 ?_
  have E4 := keyHE h4 z4
  have n4 := z4.nx
  by_cases g : k < D
  case pos =>
    have r1 := o4.at 1 (e := k) (i := k) (n := D + 1) rfl rfl (by omega)
    have x1 := o4.ix (i := k) (e := 1) (j := 1) (n := D + 1 - k) (c := 1) (by omega) rfl rfl (by omega)
    obtain ⟨x, x0, xm, hx⟩ := o4.get (i := k) (j := 1) (by omega) (by omega)
    have r2 := (rx.mono E4).at 1 (e := k) (i := k) (n := D + 1) rfl hl.symm (by omega)
    have bx := hn.gt (show k < xs.length by omega)
    have g' : (k : Int) < D := by omega
    have wx : IntKind.i64.wrap (x + gt xs k) = x + gt xs k := wrapI (by omega) (by omega)
    simp only [q_spec_l08Euler_1, bin_lss, g', decide_true, condM_true, bindO_some, r1, r2, x1, hx, bin_add, wx, bin_rem, m0, if_false, Int.tmod_eq_emod_of_nonneg (show 0 ≤ x + gt xs k by omega)]
    refine o4.store (by omega) (by omega) (mod_bd hm0 _) fun h5 z5 n5 o5 => ?_
    simp [wrapI (n := (k : Int) + 1) (by omega) (by omega)]
    exact hK _ _ _ (by omega) ⟨k + 1, rfl, by omega, rfl, ⟨by omega, fun b hb hne => by rw [z5.bk b (by omega) hne, z4.bk b hb hne]⟩, o5⟩
  have g' : ¬ (k : Int) < D := by omega
  simp [q_spec_l08Euler_1, g]
  refine hK1 _ _ fun ev hev => ?_
  simp at hev
  simp [hev, m0, t1]
  clear hK hK1 K K1 g g' hk hev k
  have o3' := o3.keep z4 (.inr (by omega))
  refine LP1 (fun d vs h' => ∃ (k : Nat) (p : Int), d = D + 1 - k ∧ k ≤ D ∧ 0 ≤ p ∧ p < m ∧ vs = [i6 m, i6 D, i6 e, .slice (some ⟨t, 0, none⟩) (D + 1) 1, .slice (some ⟨f, 0, none⟩) (D + 1) 1, i6 p, i6 k] ∧ HZ h2.nx h3.nx h4 h' ∧ OB m (D + 1) h2.nx h3.nx h' f rf) ?_ _ _ _
    ⟨0, 1, rfl, by omega, by omega, by omega, rfl, HZ.refl _ _ _, o3'⟩
  rintro d vs h5 ⟨k, p, rfl, hk, p0, p1, rfl, z5, o5⟩ K K1 hK hK1
  refine wl_spec_l08Euler_2 ?_
  have n5 := z5.nx
  have w1 : IntKind.i64.wrap (4 * (k : Int)) = 4 * k := wrapI (by omega) (by omega)
  have w2 : IntKind.i64.wrap (2 * (k : Int)) = 2 * k := wrapI (by omega) (by omega)
  by_cases g : 4 * k ≤ D
  case neg =>
    have g' : ¬ 4 * (k : Int) ≤ D := by omega
    simp [q_spec_l08Euler_2, w1, g']
    refine hK1 _ _ fun ev hev => ?_
    simp at hev
    simp [hev]
    obtain ⟨Z, RZ, sZ⟩ := (o4.keep z5 (.inl (by omega))).rt
    obtain ⟨Y, RY, sY⟩ := o5.rt
    refine s_spec_l03Times (N := D + 1) RZ RY rfl rfl sZ.1 sY.1 sZ.2 sY.2 hm0 (by omega) (by omega) (by omega) fun v h6 e6 f6 => ?_
    have HE5 : HE h h5 := ⟨by omega, fun b hb => by rw [z5.bk b (by omega) (by omega), z4.bk b (by omega) (by omega), E3.bk b (by omega), e1.bk b hb]⟩
    obtain ⟨b, rb, rfl, o6⟩ := f6
    exact hR _ _ (HE5.trans e6) (FT.fb ⟨b, rb, rfl, o6.lower (by omega)⟩ (Sh.mulT hm0))
  have g' : 4 * (k : Int) ≤ D := by omega
  have r1 := o5.at 1 (e := 2 * (k : Int)) (i := 2 * k) (n := D + 1) (by omega) rfl (by omega)
  have x1 := o5.ix (i := 2 * k) (e := 2 * (k : Int)) (j := 2 * k) (n := D + 1 - 2 * k) (c := 1) (by omega) (by omega) rfl (by omega)
  simp only [q_spec_l08Euler_2, bin_mul, w1, w2, bin_leq, g', decide_true, condM_true, bindO_some, r1, x1]
  refine o5.store (by omega) (by omega) ⟨p0, p1⟩ fun h6 z6 n6 o6 => ?_
  have bq := mul_bd (show m ≤ 3000000000 by omega) ⟨p0, p1⟩ he
  have w3 : IntKind.i64.wrap (p * e) = p * e := wrapI (by omega) (by omega)
  have bm := mod_bd hm0 (p * e)
  simp [w3, m0, wrapI (n := (k : Int) + 1) (by omega) (by omega), Int.tmod_eq_emod_of_nonneg bq.1]
  exact hK _ _ _ (by omega) ⟨k + 1, _, rfl, by omega, bm.1, bm.2, rfl, ⟨by omega, fun b hb hne => by rw [z6.bk b (by omega) hne, z5.bk b hb hne]⟩, o6⟩

theorem s_spec_l08Series {m : Int} {A : Option Addr} {ls : List Int} {D nl cl : Nat} {h : Hp} {R : Value → Hp → Prop} (hls : RI h A ls) (hnl : nl = 5) (hll : ls.length = 5) (hln : Nums m ls) (hm : 2 ≤ m) (hm2 : m ≤ 1000000000) (hD : D ≤ 90000)
    (hR : ∀ v h' xs, HE h h' → FI y_t_int64 h h' v xs → xs.length = D + 1 → Nums m xs → R v h') : CallW FF n_spec_l08Series [i6 m, i6 D, .slice A nl cl] h R := by
  subst hnl
  refine w_spec_l08Series ?_
  have m0 : ¬ m = 0 := by omega
  have hm0 : 0 < m := by omega
  have w1 : IntKind.i64.wrap ((D : Int) + 1) = D + 1 := wrapI (by omega) (by omega)
  have mk : makN (.int .i64 ((D : Int) + 1)) = some (D + 1) := makN_nat (by omega) (by unfold sizeMax; omega)
  simp [p_spec_l08Series, w1, mk, mapI_rep]
  refine newB_i fun b h1 eb en eh eB => ?_
  refine LP1 (fun d vs h' => ∃ (k : Nat) (xs : List Int), d = D + 3 - k ∧ 3 ≤ k ∧ k ≤ D + 3 ∧ vs = [i6 m, i6 D, .slice A 5 cl, .slice (some ⟨b, 0, none⟩) (D + 1) 1, i6 k] ∧ HX b h1 h' ∧ h'.bk b = some ⟨mapI xs, y_t_int64, true⟩ ∧ xs.length = D + 1 ∧ Nums m xs) ?_ _ _ _
    ⟨3, _, rfl, by omega, by omega, rfl, HX.refl _ _, eB, by simp, nums_rep hm0 _⟩
  rintro d vs h2 ⟨k, xs, rfl, hk3, hk, rfl, x2, hbk, hl, hn⟩ K K1 hK hK1
  refine wl_spec_l08Series_0 ?_
  have n2 := x2.nx
  have HE2 := x2.out eh (by omega)
  by_cases g : k ≤ D
  case neg =>
    have g' : ¬ (k : Int) ≤ D := by omega
    simp [q_spec_l08Series_0, g]
    refine hK1 _ _ fun e he => ?_
    simp at he; rw [he]
    exact hR _ _ xs HE2 ⟨b, by rw [hl], by omega, by omega, hbk⟩ hl hn
  have g' : (k : Int) ≤ D := by omega
  have rX : RI h2 (some ⟨b, 0, none⟩) xs := RI.of_block (by omega) hbk
  simp only [q_spec_l08Series_0, bin_leq, g', decide_true, condM_true, bindO_some]
  refine s_spec_l02Times (D := k) rX rX hl.symm hl.symm hm0 (by omega) hn hn (by omega) (by omega) (by omega) fun v h3 e3 f3 => ?_
  obtain ⟨sq, rfl, s1, s2, s3⟩ := f3
  refine s_spec_l02Times (D := k) (RI.of_block s2 s3) (rX.mono e3) rfl hl.symm hm0 (by omega) (nums_mulL hm0 _ _ _) hn (by simp; omega) (by omega) (by omega) fun v h4 e4 f4 => ?_
  obtain ⟨cu, rfl, c1, c2, c3⟩ := f4
  have E4 := e3.trans e4
  have L4 := hls.mono (HE2.trans E4)
  have l0 := L4.at cl (e := 0) (i := 0) (n := 5) rfl hll.symm (by omega)
  have l1 := L4.at cl (e := 1) (i := 1) (n := 5) rfl hll.symm (by omega)
  have l2 := L4.at cl (e := 2) (i := 2) (n := 5) rfl hll.symm (by omega)
  have l3 := L4.at cl (e := 3) (i := 3) (n := 5) rfl hll.symm (by omega)
  have l4 := L4.at cl (e := 4) (i := 4) (n := 5) rfl hll.symm (by omega)
  have X4 := rX.mono E4
  have a1 := X4.at 1 (e := (k : Int) - 1) (i := k - 1) (n := D + 1) (by omega) hl.symm (by omega)
  have a2 := X4.at 1 (e := (k : Int) - 2) (i := k - 2) (n := D + 1) (by omega) hl.symm (by omega)
  have S4 := (RI.of_block s2 s3).mono e4
  have a3 := S4.at 1 (e := (k : Int)) (i := k) (n := k + 1) rfl (by simp) (by simp)
  have a4 := S4.at 1 (e := (k : Int) - 1) (i := k - 1) (n := k + 1) (by omega) (by simp) (by simp; omega)
  have a5 := (RI.of_block c2 c3).at 1 (e := (k : Int)) (i := k) (n := k + 1) rfl (by simp) (by simp)
  have u1 : IntKind.i64.wrap ((k : Int) - 1) = k - 1 := wrapI (by omega) (by omega)
  have u2 : IntKind.i64.wrap ((k : Int) - 2) = k - 2 := wrapI (by omega) (by omega)
  have p1 := mul_bd2 (show m ≤ 1000000000 by omega) (hln.gt (show 0 < ls.length by omega)) (hn.gt (show k - 1 < xs.length by omega))
  have p2 := mul_bd2 (show m ≤ 1000000000 by omega) (hln.gt (show 1 < ls.length by omega)) (hn.gt (show k - 2 < xs.length by omega))
  have p3 := mul_bd2 (show m ≤ 1000000000 by omega) (hln.gt (show 2 < ls.length by omega)) ((nums_mulL hm0 (k + 1) xs xs).gt (show k < _ by simp))
  have p4 := mul_bd2 (show m ≤ 1000000000 by omega) (hln.gt (show 3 < ls.length by omega)) ((nums_mulL hm0 (k + 1) xs xs).gt (show k - 1 < _ by simp; omega))
  have p5 := mul_bd2 (show m ≤ 1000000000 by omega) (hln.gt (show 4 < ls.length by omega)) ((nums_mulL hm0 (k + 1) (mulL m (k + 1) xs xs) xs).gt (show k < _ by simp))
  simp only [mulL_len, l0, l1, l2, l3, l4, a1, a2, a3, a4, a5, bindO_some, bin_sub, bin_mul, bin_add, u1, u2, bin_eql]
  generalize gt ls 0 * gt xs (k - 1) = y1 at *
  generalize gt ls 1 * gt xs (k - 2) = y2 at *
  generalize gt ls 2 * gt (mulL m (k + 1) xs xs) k = y3 at *
  generalize gt ls 3 * gt (mulL m (k + 1) xs xs) (k - 1) = y4 at *
  generalize gt ls 4 * gt (mulL m (k + 1) (mulL m (k + 1) xs xs) xs) k = y5 at *
  have v1 : IntKind.i64.wrap y1 = y1 := wrapI (by omega) (by omega)
  have v2 : IntKind.i64.wrap y2 = y2 := wrapI (by omega) (by omega)
  have v3 : IntKind.i64.wrap y3 = y3 := wrapI (by omega) (by omega)
  have v4 : IntKind.i64.wrap y4 = y4 := wrapI (by omega) (by omega)
  have v5 : IntKind.i64.wrap y5 = y5 := wrapI (by omega) (by omega)
  have v12 : IntKind.i64.wrap (y1 + y2) = y1 + y2 := wrapI (by omega) (by omega)
  have v123 : IntKind.i64.wrap (y1 + y2 + y3) = y1 + y2 + y3 := wrapI (by omega) (by omega)
  have v1234 : IntKind.i64.wrap (y1 + y2 + y3 + y4) = y1 + y2 + y3 + y4 := wrapI (by omega) (by omega)
  have v12345 : IntKind.i64.wrap (y1 + y2 + y3 + y4 + y5) = y1 + y2 + y3 + y4 + y5 := wrapI (by omega) (by omega)
  have vp : IntKind.i64.wrap (y1 + y2 + y3 + y4 + y5 + 1) = y1 + y2 + y3 + y4 + y5 + 1 := wrapI (by omega) (by omega)
  have q5 : indexAddrV 1 (.slice (some ⟨b, 0, none⟩) (D + 1) 1) (.int .i64 k) = some (.pointer (some ⟨b, k, none⟩)) := ixOwn rfl (by omega)
  have wk : IntKind.i64.wrap ((k : Int) + 1) = k + 1 := wrapI (by omega) (by omega)
  have n3 := e3.nx; have n4 := e4.nx
  have hbk4 := E4.to hbk (by omega)
  simp only [v1, v2, v3, v4, v5, v12, v123, v1234, v12345]
  have fin : ∀ t : Int, 0 ≤ t → bindO (storeV 1 h4 (.int .i64 (t % m)) (.pointer (some ⟨b, k, none⟩))) fun h3 => K [i6 m, i6 D, .slice A 5 cl, .slice (some ⟨b, 0, none⟩) (D + 1) 1, .int .i64 (IntKind.i64.wrap ((k : Int) + 1))] h3 := fun t ht => by
    refine storeI hbk4 (by omega) fun h5 u5 => ?_
    rw [wk]
    exact hK _ _ _ (by omega) ⟨k + 1, _, rfl, by omega, by omega, rfl, (x2.he E4).upd u5, u5.bk, by simp [hl], nums_set hn (mod_bd hm0 _)⟩
  by_cases h3' : (k : Int) = 3
  · simp only [h3', decide_true, condM_true, vp, bindO_some, bin_rem, m0, if_false, Int.tmod_eq_emod_of_nonneg (show 0 ≤ y1 + y2 + y3 + y4 + y5 + 1 by omega)]
    simp only [← h3', q5, bindO_some]
    exact fin _ (by omega)
  · simp only [h3', decide_false, condM_false, bindO_some, bin_rem, m0, if_false, q5, Int.tmod_eq_emod_of_nonneg (show 0 ≤ y1 + y2 + y3 + y4 + y5 by omega)]
    exact fin _ (by omega)

theorem s_spec_l02Inverse {m : Int} {A : Option Addr} {a : List Int} {D na ca : Nat} {h : Hp} {R : Value → Hp → Prop} (ha : RI h A a) (hna : na = a.length) (hal : 1 ≤ a.length) (hal2 : a.length ≤ 100000) (han : Nums m a) (hm : 2 ≤ m) (hm2 : m ≤ 1000000000) (hD : D ≤ 90000)
    (hR : ∀ v h' xs, HE h h' → FI y_t_int64 h h' v xs → xs.length = D + 1 → Nums m xs → R v h') : CallW FF n_spec_l02Inverse [i6 m, .slice A na ca, i6 D] h R := by
  subst hna
  refine w_spec_l02Inverse ?_
  have m0 : ¬ m = 0 := by omega
  have hm0 : 0 < m := by omega
  have r0 := ha.at ca (e := 0) (i := 0) (n := a.length) rfl rfl (by omega)
  simp only [p_spec_l02Inverse, r0, bindO_some]
  refine s_spec_l01Inv hm0 (by omega) ?_
  have hu := invM_bd hm0 (gt a 0)
  generalize invM m (gt a 0) = u at *
  have r1 : rowV 1 1 [.int .i64 0] [(0, i6 u)] = some (mapI [u]) := by simp [mapI]
  simp only [r1, bindO_some]
  refine newB_i fun b h1 eb en eh eB => ?_
  refine LP1 (fun d vs h' => ∃ (k b : Nat) (xs : List Int), d = D + 1 - k ∧ 1 ≤ k ∧ k ≤ D + 1 ∧ xs.length = k ∧ vs = [i6 m, .slice A a.length ca, i6 D, i6 u, .slice (some ⟨b, 0, none⟩) k 1, i6 k] ∧ HE h h' ∧ h.nx ≤ b ∧ b < h'.nx ∧ h'.bk b = some ⟨mapI xs, y_t_int64, true⟩ ∧ Nums m xs) ?_ _ _ _
    ⟨1, b, [u], rfl, by omega, by omega, rfl, rfl, eh, by omega, by omega, eB, by intro x hx; simp at hx; omega⟩
  rintro d vs h2 ⟨k, b, xs, rfl, hk1, hk, hl, rfl, hE, hb1, hb2, hbk, hn⟩ K K1 hK hK1
  refine wl_spec_l02Inverse_1 ?_
  by_cases hlt : k ≤ D
  case neg =>
    have : k = D + 1 := by omega
    have g : ¬ (k : Int) ≤ D := by omega
    simp [q_spec_l02Inverse_1, hlt]
    refine hK1 _ _ fun e he => ?_
    simp at he; rw [he]
    exact hR _ _ xs hE ⟨b, by rw [hl], hb1, hb2, hbk⟩ (by omega) hn
  have w1 : IntKind.i64.wrap ((k : Int) + 1) = k + 1 := wrapI (by omega) (by omega)
  simp [q_spec_l02Inverse_1, hlt]
  refine LP1 (fun d vs h' => ∃ (i : Nat) (t : Int), d = k + 1 - i ∧ 1 ≤ i ∧ i ≤ k + 1 ∧ i ≤ max 1 a.length ∧ h' = h2 ∧ 0 ≤ t ∧ t < m ∧ vs = [i6 m, .slice A a.length ca, i6 D, i6 u, .slice (some ⟨b, 0, none⟩) k 1, i6 k, i6 t, i6 i]) ?_ _ _ _
    ⟨1, 0, rfl, by omega, by omega, by omega, rfl, by omega, hm0, rfl⟩
  rintro d vs h3 ⟨i, t, rfl, hi1, hi, hi2, rfl, t0, t1, rfl⟩ K2 K3 hK2 hK3
  refine wl_spec_l02Inverse_0 ?_
  have fin : K3 [i6 m, .slice A a.length ca, i6 D, i6 u, .slice (some ⟨b, 0, none⟩) k 1, i6 k, i6 t] h3 := by
    refine hK3 _ _ fun e he => ?_
    simp at he
    have v1 : IntKind.i64.wrap (m - t) = m - t := wrapI (by omega) (by omega)
    have bq : 0 ≤ (m - t) * u ∧ (m - t) * u ≤ 1000000000000000000 := by
      refine ⟨Int.mul_nonneg (by omega) hu.1, ?_⟩
      have h1 : (m - t) * u ≤ (m - t) * 1000000000 := Int.mul_le_mul_of_nonneg_left (by omega) (by omega)
      omega
    have v2 : IntKind.i64.wrap ((m - t) * u) = (m - t) * u := wrapI (by omega) (by omega)
    simp [he, v1, v2, m0, w1, Int.tmod_eq_emod_of_nonneg bq.1]
    refine pushI (xs := xs) hbk hb2 hl.symm (by unfold sizeMax; omega) fun b' h' u' => ?_
    have := mod_bd hm0 ((m - t) * u)
    have hnx := hE.nx; have hge := u'.ge
    refine hK _ _ _ (by omega) ⟨k + 1, b', _, rfl, by omega, by omega, by simp [hl], by simp, u'.he hE hb1, by omega, u'.lt, u'.bk, fun x hx => ?_⟩
    simp at hx
    rcases hx with hx | rfl
    · exact hn x hx
    · exact this
  by_cases g1 : i ≤ k
  case neg => simp [q_spec_l02Inverse_0, g1]; exact fin
  by_cases g2 : i < a.length
  case neg => simp [q_spec_l02Inverse_0, g1, g2]; exact fin
  have a1 := (ha.mono hE).at ca (e := i) (i := i) rfl rfl g2
  have w2 : IntKind.i64.wrap ((k : Int) - i) = k - i := wrapI (by omega) (by omega)
  have a2 := (RI.of_block hb2 hbk).at 1 (e := (k : Int) - i) (i := k - i) (n := k) (by omega) hl.symm (by omega)
  have b1 := mul_bd2 (show m ≤ 1000000000 by omega) (han.gt g2) (hn.gt (show k - i < xs.length by omega))
  have v1 : IntKind.i64.wrap (gt a i * gt xs (k - i)) = gt a i * gt xs (k - i) := wrapI (by omega) (by omega)
  have v2 : IntKind.i64.wrap (t + gt a i * gt xs (k - i)) = t + gt a i * gt xs (k - i) := wrapI (by omega) (by omega)
  have v3 : IntKind.i64.wrap ((i : Int) + 1) = i + 1 := wrapI (by omega) (by omega)
  have bm := mod_bd hm0 (t + gt a i * gt xs (k - i))
  simp [q_spec_l02Inverse_0, g1, g2, a1, w2, a2, v1, v2, v3, m0, Int.tmod_eq_emod_of_nonneg (show 0 ≤ t + gt a i * gt xs (k - i) by omega)]
  exact hK2 _ _ _ (by omega) ⟨i + 1, _, rfl, by omega, by omega, by omega, rfl, bm.1, bm.2, rfl⟩
end XM

/- The laws that are drawn: l08Weierstrass. -/
namespace XM
open Go

/-- A triangle that is only read, as a value. -/
def RQ (m : Int) (N : Nat) (h : Hp) (v : Value) : Prop := ∃ A Rr T c, v = .slice A N c ∧ RT h A Rr T ∧ Sh m N T
theorem RQ.mono {m : Int} {N : Nat} {h h' : Hp} {v : Value} (r : RQ m N h v) (e : HE h h') : RQ m N h' v := by
  obtain ⟨A, Rr, T, c, h1, h2, h3⟩ := r; exact ⟨A, Rr, T, c, h1, h2.mono e, h3⟩
theorem FB.rq {m : Int} {N : Nat} {h h' : Hp} {v : Value} (f : FB m N h h' v) : RQ m N h' v := by
  obtain ⟨b, rb, rfl, o⟩ := f
  obtain ⟨Z, r, s⟩ := o.rt
  exact ⟨_, _, Z, 1, rfl, r, s⟩
theorem FB.older {m : Int} {N : Nat} {h0 h h' : Hp} {v : Value} (f : FB m N h h' v) (e : h0.nx ≤ h.nx) : FB m N h0 h' v := by
  obtain ⟨b, rb, rfl, Z, o, s, h1, h2⟩ := f
  exact ⟨b, rb, rfl, Z, o.lower e, s, h1, h2⟩
section
variable {m : Int} {N : Nat} {h : Hp} {u v : Value} {R : Value → Hp → Prop}
theorem wTimes (ru : RQ m N h u) (rv : RQ m N h v) (hm : 2 ≤ m) (hm2 : m ≤ 1000000000) (hN : 1 ≤ N) (hN2 : N ≤ 90000) (hR : ∀ w h', HE h h' → RQ m N h' w → R w h') : CallW FF n_spec_l03Times [i6 m, u, v] h R := by
  obtain ⟨A, Ra, a, ca, rfl, r1, s1⟩ := ru
  obtain ⟨B, Rb, b, cb, rfl, r2, s2⟩ := rv
  exact s_spec_l03Times r1 r2 rfl rfl s1.1 s2.1 s1.2 s2.2 (by omega) (by omega) hN (by omega) fun w h' e f => hR w h' e (f.fb (Sh.mulT (by omega))).rq
theorem wAdd (ru : RQ m N h u) (rv : RQ m N h v) (hm : 2 ≤ m) (hm2 : m ≤ 1000000000) (hN2 : N ≤ 90000) (hR : ∀ w h', HE h h' → RQ m N h' w → R w h') : CallW FF n_spec_l03Add [i6 m, u, v] h R := by
  obtain ⟨A, Ra, a, ca, rfl, r1, s1⟩ := ru
  obtain ⟨B, Rb, b, cb, rfl, r2, s2⟩ := rv
  exact s_spec_l03Add r1 r2 rfl rfl s1.1 s2.1 s1.2 s2.2 (by omega) (by omega) (by omega) fun w h' e f => hR w h' e (f.fb (Sh.addT (by omega) s1)).rq
theorem wScale {c : Int} (ru : RQ m N h u) (hc : 0 ≤ c ∧ c < m) (hm : 2 ≤ m) (hm2 : m ≤ 1000000000) (hN2 : N ≤ 90000) (hR : ∀ w h', HE h h' → RQ m N h' w → R w h') : CallW FF n_spec_l03Scale [i6 m, i6 c, u] h R := by
  obtain ⟨A, Ra, a, ca, rfl, r1, s1⟩ := ru
  exact s_spec_l03Scale r1 rfl s1.1 s1.2 (by omega) (by omega) hc (by omega) fun w h' e f => hR w h' e (f.fb (Sh.scaleT (by omega) s1)).rq
theorem wTurn (ru : RQ m N h u) (hN : 1 ≤ N) (hN2 : N ≤ 90000) (hR : ∀ w h', HE h h' → RQ m N h' w → R w h') : CallW FF n_spec_l03Turn [u] h R := by
  obtain ⟨A, Ra, a, ca, rfl, r1, s1⟩ := ru
  exact s_spec_l03Turn r1 rfl s1.1 s1.2 hN (by omega) fun w h' e f => hR w h' e (f.fb s1.turnT).rq
theorem wAfter {A : Option Addr} {n c : Nat} {f : List Int} (rf : RI h A f) (hn : n = f.length) (hfl : f.length ≤ 90000) (hfn : Nums m f) (rv : RQ m N h v) (hm : 2 ≤ m) (hm2 : m ≤ 1000000000) (hN : 1 ≤ N) (hN2 : N ≤ 90000) (hR : ∀ w h', HE h h' → FB m N h h' w → R w h') : CallW FF n_spec_l03After [i6 m, .slice A n c, v] h R := by
  obtain ⟨B, Rb, b, cb, rfl, r2, s2⟩ := rv
  exact s_spec_l03After rf r2 hn rfl s2.1 s2.2 (by omega) (by omega) hN (by omega) (by omega) hfn fun w h' e f => hR w h' e (f.fb (Sh.afterT (by omega)))
end

set_option maxHeartbeats 2000000 in
theorem s_spec_l08Weierstrass {m : Int} {A : Option Addr} {ls : List Int} {D nl cl : Nat} {h : Hp} {R : Value → Hp → Prop} (hls : RI h A ls) (hnl : nl = 5) (hll : ls.length = 5) (hln : Nums m ls) (hm : 2 ≤ m) (hm2 : m ≤ 1000000000) (hD1 : 1 ≤ D) (hD : D ≤ 80000)
    (hR : ∀ v h', HE h h' → FB m (D + 1) h h' v → R v h') : CallW FF n_spec_l08Weierstrass [i6 m, i6 D, .slice A nl cl] h R := by
  subst hnl
  refine w_spec_l08Weierstrass ?_
  have m0 : ¬ m = 0 := by omega
  have hm0 : 0 < m := by omega
  have w1 : IntKind.i64.wrap ((D : Int) + 1) = ((D + 1 : Nat) : Int) := by rw [wrapI] <;> omega
  simp only [p_spec_l08Weierstrass, bin_add, w1, bindO_some]
  refine s_spec_l08Series hls rfl hll hln hm hm2 (by omega) fun v h1 ws e1 f1 hwl hwn => ?_
  obtain ⟨w, rfl, q1, q2, q3⟩ := f1
  have rw1 := RI.of_block q2 q3
  rw [hwl]
  refine s_spec_l03Zero_b (m := m) hm0 (by omega) fun b rb h2 e2 o2 => ?_
  have n1 := e1.nx; have n2 := e2.nx
  -- line
  refine LP1 (fun d vs h' => ∃ n : Nat, d = D + 2 - n ∧ 1 ≤ n ∧ n ≤ D + 2 ∧ vs = [i6 m, i6 D, .slice A 5 cl, .slice (some ⟨w, 0, none⟩) (D + 1 + 1) 1, .slice (some ⟨b, 0, none⟩) (D + 1) 1, i6 n] ∧ HZ h1.nx h2.nx h2 h' ∧ OB m (D + 1) h1.nx h2.nx h' b rb) ?_ _ _ _
    ⟨1, rfl, by omega, by omega, rfl, HZ.refl _ _ _, o2⟩
  rintro d vs h3 ⟨n, rfl, hn1, hn, rfl, z3, o3⟩ K K1 hK hK1
  refine wl_spec_l08Weierstrass_1 ?_
  have n3 := z3.nx
  have E13 : HE h1 h3 := z3.out e2 (by omega)
  by_cases g : n ≤ D + 1
  case pos =>
    have g' : (n : Int) ≤ ((D + 1 : Nat) : Int) := by omega
    simp only [q_spec_l08Weierstrass_1, bin_add, w1, bindO_some, bin_leq, g', decide_true, condM_true]
    refine LP1 (fun d vs h' => ∃ i : Nat, d = n - i ∧ i ≤ n ∧ vs = [i6 m, i6 D, .slice A 5 cl, .slice (some ⟨w, 0, none⟩) (D + 1 + 1) 1, .slice (some ⟨b, 0, none⟩) (D + 1) 1, i6 n, i6 i] ∧ HZ h1.nx h2.nx h2 h' ∧ OB m (D + 1) h1.nx h2.nx h' b rb) ?_ _ _ _
      ⟨0, rfl, by omega, rfl, z3, o3⟩
    clear z3 o3 n3 E13 h3
    rintro d vs h3 ⟨i, rfl, hi, rfl, z3, o3⟩ K2 K3 hK2 hK3
    refine wl_spec_l08Weierstrass_0 ?_
    have n3 := z3.nx
    have E13 : HE h1 h3 := z3.out e2 (by omega)
    by_cases g2 : i < n
    case neg =>
      simp [q_spec_l08Weierstrass_0, g2]
      refine hK3 _ _ fun ev hev => ?_
      simp at hev
      simp [hev, wrapI (n := (n : Int) + 1) (by omega) (by omega)]
      exact hK _ _ _ (by omega) ⟨n + 1, rfl, by omega, by omega, rfl, z3, o3⟩
    have r1 := o3.at 1 (e := i) (i := i) (n := D + 1) rfl rfl (by omega)
    have v1 : IntKind.i64.wrap ((n : Int) - 1) = n - 1 := wrapI (by omega) (by omega)
    have v2 : IntKind.i64.wrap ((n : Int) - 1 - i) = n - 1 - i := wrapI (by omega) (by omega)
    have r2 := (rw1.mono E13).at 1 (e := n) (i := n) (n := D + 1 + 1) rfl hwl.symm (by omega)
    have x1 := o3.ix (i := i) (e := (n : Int) - 1 - i) (j := n - 1 - i) (n := D + 1 - i) (c := 1) (by omega) (by omega) rfl (by omega)
    have bx := hwn.gt (show n < ws.length by omega)
    have g2' : (i : Int) < n := by omega
    simp only [q_spec_l08Weierstrass_0, bin_lss, g2', decide_true, condM_true, bindO_some, r1, bin_sub, v1, v2, r2, x1]
    refine o3.store (by omega) (by omega) bx fun h4 z4 n4 o4 => ?_
    simp [wrapI (n := (i : Int) + 1) (by omega) (by omega)]
    exact hK2 _ _ _ (by omega) ⟨i + 1, rfl, by omega, rfl, ⟨by omega, fun c hc hne => by rw [z4.bk c (by omega) hne, z3.bk c hc hne]⟩, o4⟩
  have g' : ¬ (n : Int) ≤ ((D + 1 : Nat) : Int) := by omega
  simp only [q_spec_l08Weierstrass_1, bin_add, w1, bindO_some, bin_leq, g', decide_false, condM_false]
  refine hK1 _ _ fun ev hev => ?_
  simp at hev
  simp only [hev]
  clear hK hK1 K K1 g g' hn hn1 hev n z3
  -- x, first
  refine s_spec_l03Zero_b (m := m) hm0 (by omega) fun bx rx h4 e4 o4 => ?_
  refine s_spec_l03Zero_b (m := m) hm0 (by omega) fun bf rf h5 e5 o5 => ?_
  have n4 := e4.nx; have n5 := e5.nx
  have o4 := o4.he e5
  have r1 := o4.at 1 (e := 1) (i := 1) (n := D + 1) rfl rfl (by omega)
  have x1 := o4.ix (i := 1) (e := 0) (j := 0) (n := D + 1 - 1) (c := 1) (by omega) rfl rfl (by omega)
  simp only [r1, x1, bindO_some]
  refine o4.store (by omega) (by omega) (by omega) fun h6 z6 n6 o6 => ?_
  have o5 := o5.keep z6 (.inr (by omega))
  have E36 : HE h3 h6 := z6.out (e4.trans e5) (by omega)
  refine LP1 (fun d vs h' => ∃ n : Nat, d = D + 1 - n ∧ n ≤ D + 1 ∧ vs = [i6 m, i6 D, .slice A 5 cl, .slice (some ⟨w, 0, none⟩) (D + 1 + 1) 1, .slice (some ⟨b, 0, none⟩) (D + 1) 1, .slice (some ⟨bx, 0, none⟩) (D + 1) 1, .slice (some ⟨bf, 0, none⟩) (D + 1) 1, i6 n] ∧ HZ h4.nx h5.nx h6 h' ∧ OB m (D + 1) h4.nx h5.nx h' bf rf) ?_ _ _ _
    ⟨0, rfl, by omega, rfl, HZ.refl _ _ _, o5⟩
  rintro d vs h7 ⟨n, rfl, hn, rfl, z7, o7⟩ K K1 hK hK1
  refine wl_spec_l08Weierstrass_2 ?_
  have n7 := z7.nx
  have E37 : HE h3 h7 := z7.out E36 (by omega)
  by_cases g : n ≤ D
  case pos =>
    have g' : (n : Int) ≤ D := by omega
    have r1 := o7.at 1 (e := n) (i := n) (n := D + 1) rfl rfl (by omega)
    have r2 := (rw1.mono (E13.trans E37)).at 1 (e := n) (i := n) (n := D + 1 + 1) rfl hwl.symm (by omega)
    have x1 := o7.ix (i := n) (e := 0) (j := 0) (n := D + 1 - n) (c := 1) (by omega) rfl rfl (by omega)
    have bx := hwn.gt (show n < ws.length by omega)
    simp only [q_spec_l08Weierstrass_2, bin_leq, g', decide_true, condM_true, bindO_some, r1, r2, x1]
    refine o7.store (by omega) (by omega) bx fun h8 z8 n8 o8 => ?_
    simp [wrapI (n := (n : Int) + 1) (by omega) (by omega)]
    exact hK _ _ _ (by omega) ⟨n + 1, rfl, by omega, rfl, ⟨by omega, fun c hc hne => by rw [z8.bk c (by omega) hne, z7.bk c hc hne]⟩, o8⟩
  have g' : ¬ (n : Int) ≤ D := by omega
  simp only [q_spec_l08Weierstrass_2, bin_leq, g', decide_false, condM_false, bindO_some]
  refine hK1 _ _ fun ev hev => ?_
  simp at hev
  have v1 : IntKind.i64.wrap (m - 1) = m - 1 := wrapI (by omega) (by omega)
  simp only [hev, bin_sub, v1, bindO_some]
  clear hK hK1 K K1 g g' hn hev n
  -- facts
  have E07 : HE h h7 := e1.trans (E13.trans E37)
  have L7 := hls.mono E07
  have W7 := rw1.mono (E13.trans E37)
  have rqL : RQ m (D + 1) h7 (.slice (some ⟨b, 0, none⟩) (D + 1) 1) := ((o3.he E37).fb (h0 := h) (by omega)).rq
  have rqX : RQ m (D + 1) h7 (.slice (some ⟨bx, 0, none⟩) (D + 1) 1) := ((o6.keep z7 (.inl (by omega))).fb (h0 := h) (by omega)).rq
  have rqF : RQ m (D + 1) h7 (.slice (some ⟨bf, 0, none⟩) (D + 1) 1) := (o7.fb (h0 := h) (by omega)).rq
  generalize Value.slice (some ⟨b, 0, none⟩) (D + 1) 1 = vL at *
  generalize Value.slice (some ⟨bx, 0, none⟩) (D + 1) 1 = vX at *
  generalize Value.slice (some ⟨bf, 0, none⟩) (D + 1) 1 = vF at *
  have lsat : ∀ {h' : Hp}, HE h7 h' → ∀ (e : Int) (i : Nat), e = i → i < 5 → indexAddrV 1 (.slice A 5 cl) (.int .i64 e) = some (elp A 1 i) ∧ ldV 1 false h' (elp A 1 i) = some (.int .i64 (gt ls i)) := fun {h'} e e' i he hi => (L7.mono e).at cl he hll.symm (by omega)
  have lsin : ∀ {h' : Hp}, HE h7 h' → ∀ i : Nat, i < 5 → inB h'.nx (elp A 1 i) := fun {h'} e i hi => (L7.mono e).inb (HE.refl _) (by omega)
  have lsb : ∀ i : Nat, i < 5 → 0 ≤ gt ls i ∧ gt ls i < m := fun i hi => hln.gt (by omega)
  clear o2 o3 o4 o5 o6 o7 z6 z7 E36 E37 E13 r1 x1
  refine wTimes rqL rqX hm hm2 (by omega) (by omega) fun v87 h8 e8 r87 => ?_
  refine wScale r87 (by omega) hm hm2 (by omega) fun v88 h9 e9 r88 => ?_
  have E79 := e8.trans e9
  refine wAdd (rqF.mono E79) r88 hm hm2 (by omega) fun v89 h10 e10 r89 => ?_
  have E7a := E79.trans e10
  refine wTimes (rqL.mono E7a) (rqL.mono E7a) hm hm2 (by omega) (by omega) fun v93 h11 e11 r93 => ?_
  have E7b := E7a.trans e11
  have a0 := lsat E7b 0 0 rfl (by omega)
  simp only [a0, bindO_some]
  refine wScale (rqL.mono E7b) (lsb 0 (by omega)) hm hm2 (by omega) fun v100 h12 e12 r100 => ⟨e12.keep, ?_⟩
  have E7c := E7b.trans e12
  have a1 := lsat E7c 1 1 rfl (by omega)
  have a1i := lsin E7b 1 (by omega)
  simp only [a1, a1i, bindO_some, true_and]
  refine wScale (r89.mono (e11.trans e12)) (lsb 1 (by omega)) hm hm2 (by omega) fun v106 h13 e13 r106 => ?_
  refine wAdd (r100.mono e13) r106 hm hm2 (by omega) fun v107 h14 e14 r107 => ?_
  have E7d := E7c.trans (e13.trans e14)
  have a2 := lsat E7d 2 2 rfl (by omega)
  simp only [a2, bindO_some]
  refine wScale (r93.mono (e12.trans (e13.trans e14))) (lsb 2 (by omega)) hm hm2 (by omega) fun v115 h15 e15 r115 => ?_
  refine wAdd (r107.mono e15) r115 hm hm2 (by omega) fun v116 h16 e16 r116 => ?_
  have E7e := E7d.trans (e15.trans e16)
  have a3 := lsat E7e 3 3 rfl (by omega)
  have a3i := lsin E7e 3 (by omega)
  have b3 := lsb 3 (by omega); have b4 := lsb 4 (by omega)
  have v2 : IntKind.i64.wrap (2 * gt ls 3) = 2 * gt ls 3 := wrapI (by omega) (by omega)
  have v3 : IntKind.i64.wrap (3 * gt ls 4) = 3 * gt ls 4 := wrapI (by omega) (by omega)
  have m2 := mod_bd hm0 (2 * gt ls 3); have m3 := mod_bd hm0 (3 * gt ls 4)
  simp only [a3, a3i, bindO_some, true_and, bin_mul, v2, bin_rem, m0, if_false, Int.tmod_eq_emod_of_nonneg (show 0 ≤ 2 * gt ls 3 by omega)]
  have E116 := (e12.trans (e13.trans e14)).trans (e15.trans e16)
  refine wTimes (rqL.mono E7e) (r89.mono (e11.trans E116)) hm hm2 (by omega) (by omega) fun v129 h17 e17 r129 => ⟨e17.keep, ?_⟩
  refine wScale r129 m2 hm hm2 (by omega) fun v130 h18 e18 r130 => ?_
  refine wAdd (r116.mono (e17.trans e18)) r130 hm hm2 (by omega) fun v131 h19 e19 r131 => ?_
  have F19 := (e17.trans e18).trans e19
  have E7f := E7e.trans F19
  have a4 := lsat E7f 4 4 rfl (by omega)
  have a4i := lsin E7f 4 (by omega)
  simp only [a4, a4i, bindO_some, true_and, bin_mul, v3, bin_rem, m0, if_false, Int.tmod_eq_emod_of_nonneg (show 0 ≤ 3 * gt ls 4 by omega)]
  refine wTimes (r93.mono (E116.trans F19)) (r89.mono ((e11.trans E116).trans F19)) hm hm2 (by omega) (by omega) fun v144 h20 e20 r144 => ⟨e20.keep, ?_⟩
  refine wScale r144 m3 hm hm2 (by omega) fun v145 h21 e21 r145 => ?_
  refine wAdd (r131.mono (e20.trans e21)) r145 hm hm2 (by omega) fun v146 h22 e22 r146 => ?_
  have F22 := (e20.trans e21).trans e22
  have E7g := E7f.trans F22
  have a5 := lsat E7g 1 1 rfl (by omega)
  simp only [a5, bindO_some]
  refine wScale (rqL.mono E7g) (lsb 1 (by omega)) hm hm2 (by omega) fun v153 h23 e23 r153 => ⟨e23.keep, ?_⟩
  have E7h := E7g.trans e23
  have a6 := lsat E7h 3 3 rfl (by omega)
  have a6i := lsin E7g 3 (by omega)
  simp only [a6, a6i, bindO_some, true_and]
  have G23 := ((E116.trans F19).trans F22).trans e23
  refine wScale (r93.mono G23) b3 hm hm2 (by omega) fun v159 h24 e24 r159 => ?_
  refine wAdd (r153.mono e24) r159 hm hm2 (by omega) fun v160 h25 e25 r160 => ?_
  have E7i := E7h.trans (e24.trans e25)
  have a7 := lsat E7i 4 4 rfl (by omega)
  have a7i := lsin E7i 4 (by omega)
  simp only [a7, a7i, bindO_some, true_and]
  have G25 := G23.trans (e24.trans e25)
  refine wTimes (r93.mono G25) (rqL.mono E7i) hm hm2 (by omega) (by omega) fun v170 h26 e26 r170 => ⟨e26.keep, ?_⟩
  refine wScale r170 b4 hm hm2 (by omega) fun v171 h27 e27 r171 => ?_
  refine wAdd (r160.mono (e26.trans e27)) r171 hm hm2 (by omega) fun v172 h28 e28 r172 => ?_
  have F28 := (e26.trans e27).trans e28
  have E7j := E7i.trans F28
  have r146 := r146.mono ((e23.trans (e24.trans e25)).trans F28)
  clear r87 r88 r93 r100 r106 r107 r115 r116 r129 r130 r131 r144 r145 r153 r159 r160 r170 r171 a0 a1 a1i a2 a3 a3i a4 a4i a5 a6 a6i a7 a7i G25 G23 E116 F19 F22 F28 E7i E7h E7g E7f E7e E7d E7c E7b E7a E79 e8 e9 e10 e11 e12 e13 e14 e15 e16 e17 e18 e19 e20 e21 e22 e23 e24 e25 e26 e27 e28 r89 e4 e5 e2
  have rX28 := rqX.mono E7j
  have L28 := L7.mono E7j
  have W28 := W7.mono E7j
  have E028 := E07.trans E7j
  clear lsat lsin rqX rqF rqL L7 W7 E7j E07 rw1 hls
  simp only [rowV_nil, bindO_some]
  refine newB_i fun b29 h29 eb29 en29 eh29 eB29 => ?_
  -- signs
  refine LP1 (fun d vs h' => ∃ (k b : Nat) (xs : List Int), d = D + 1 - k ∧ k ≤ D + 1 ∧ xs.length = k ∧ vs = [i6 m, i6 D, .slice A 5 cl, .slice (some ⟨w, 0, none⟩) (D + 1 + 1) 1, vX, v146, v172, .slice (some ⟨b, 0, none⟩) k 1, i6 k] ∧ HE h28 h' ∧ h28.nx ≤ b ∧ b < h'.nx ∧ h'.bk b = some ⟨mapI xs, y_t_int64, true⟩ ∧ Nums m xs) ?_ _ _ _
    ⟨0, b29, [], rfl, by omega, rfl, by simp, eh29, by omega, by omega, eB29, by intro x hx; cases hx⟩
  clear eb29 en29 eh29 eB29 h29 b29
  rintro d vs h29 ⟨k, b, xs, rfl, hk, hl, rfl, hE, hb1, hb2, hbk, hn⟩ K K1 hK hK1
  refine wl_spec_l08Weierstrass_3 ?_
  by_cases g : k ≤ D
  case pos =>
    have g' : (k : Int) ≤ D := by omega
    have r5 : rowV 1 2 [.int .i64 0] [(0, .int .i64 1), (1, .int .i64 (m - 1))] = some (mapI [1, m - 1]) := by simp [rowV, rowFill, reps, mapI]
    have d1 : (k : Int).tmod 2 = ((k % 2 : Nat) : Int) := by rw [Int.tmod_eq_emod_of_nonneg (by omega)]; omega
    simp only [q_spec_l08Weierstrass_3, bin_leq, g', decide_true, condM_true, bindO_some, bin_sub, v1, r5, bin_rem, d1]
    refine newB_i fun b30 h30 eb30 en30 eh30 eB30 => ?_
    have rd := (RI.of_block (by omega) eB30).at 1 (e := ((k % 2 : Nat) : Int)) (i := k % 2) (n := 2) rfl rfl (by simp; omega)
    have bs : 0 ≤ gt [1, m - 1] (k % 2) ∧ gt [1, m - 1] (k % 2) < m := by
      rcases Nat.mod_two_eq_zero_or_one k with h0 | h0 <;> rw [h0] <;> simp [gt] <;> omega
    have two : ¬ (2 : Int) = 0 := by omega
    simp only [two, if_false, bindO_some, rd, rowV_int, bin_add, wrapI (n := (k : Int) + 1) (by omega) (by omega)]
    have nx29 := hE.nx
    refine pushI (xs := xs) (eh30.to hbk hb2) (by omega) hl.symm (by unfold sizeMax; omega) fun b' h' u' => ?_
    have := u'.ge
    refine hK _ _ _ (by omega) ⟨k + 1, b', _, rfl, by omega, by simp [hl], by simp, u'.he (hE.trans eh30) hb1, by omega, u'.lt, u'.bk, fun x hx => ?_⟩
    simp at hx
    rcases hx with hx | rfl
    · exact hn x hx
    · exact bs
  have g' : ¬ (k : Int) ≤ D := by omega
  simp only [q_spec_l08Weierstrass_3, bin_leq, g', decide_false, condM_false, bindO_some]
  refine hK1 _ _ fun ev hev => ?_
  simp at hev
  simp only [hev]
  clear hK hK1 K K1 g g' hev
  have nx29 := hE.nx
  refine wAfter (RI.of_block hb2 hbk) hl.symm (by omega) hn (r172.mono hE) hm hm2 (by omega) (by omega) fun v194 h31 e31 f194 => ?_
  have r194 := f194.rq
  refine wTimes (r146.mono (hE.trans e31)) r194 hm hm2 (by omega) (by omega) fun v195 h32 e32 r195 => ?_
  have E32 := hE.trans (e31.trans e32)
  refine wTurn (rX28.mono E32) (by omega) (by omega) fun v200 h33 e33 r200 => ?_
  refine wAdd (rX28.mono (E32.trans e33)) r200 hm hm2 (by omega) fun v201 h34 e34 r201 => ?_
  refine wAdd r201 (r195.mono (e33.trans e34)) hm hm2 (by omega) fun v203 h35 e35 r203 => ?_
  simp only [bin_sub, v1, bindO_some]
  refine wScale r203 (by omega) hm hm2 (by omega) fun v208 h36 e36 r208 => ?_
  have E36 := E32.trans ((e33.trans e34).trans (e35.trans e36))
  simp only [rowV_int, bindO_some]
  refine newB_i fun b37 h37 eb37 en37 eh37 eB37 => ?_
  have LL := L28.mono E36
  have WW := W28.mono E36
  have EE := E028.trans E36
  clear r194 f194 r195 r200 r201 r203 e31 e32 e33 e34 e35 e36 E32 hE hbk hb1 hb2 hn hl L28 W28 E028 E36 rX28 r146 r172 nx29 hk xs b k
  -- below
  have i0 : 0 ≤ gt ls 0 ∧ gt ls 0 < m := lsb 0 (by omega)
  have i2 : 0 ≤ gt ls 2 ∧ gt ls 2 < m := lsb 2 (by omega)
  refine LP1 (fun d vs h' => ∃ (k b : Nat) (xs : List Int), d = D + 1 - k ∧ 1 ≤ k ∧ k ≤ D + 1 ∧ xs.length = k ∧ vs = [i6 m, i6 D, .slice A 5 cl, .slice (some ⟨w, 0, none⟩) (D + 1 + 1) 1, v208, .slice (some ⟨b, 0, none⟩) k 1, i6 k] ∧ HE h36 h' ∧ h36.nx ≤ b ∧ b < h'.nx ∧ h'.bk b = some ⟨mapI xs, y_t_int64, true⟩ ∧ Nums m xs) ?_ _ _ _
    ⟨1, b37, [1], rfl, by omega, by omega, rfl, by simp, eh37, by omega, by omega, eB37, by intro x hx; simp at hx; omega⟩
  clear eb37 en37 eh37 eB37 h37 b37
  rintro d vs h37 ⟨k, b, xs, rfl, hk1, hk, hl, rfl, hE, hb1, hb2, hbk, hn⟩ K K1 hK hK1
  refine wl_spec_l08Weierstrass_4 ?_
  have nx37 := hE.nx
  by_cases g : k ≤ D
  case pos =>
    have g' : (k : Int) ≤ D := by omega
    have a0 := (LL.mono hE).at cl (e := 0) (i := 0) (n := 5) rfl hll.symm (by omega)
    have a2 := (LL.mono hE).at cl (e := 2) (i := 2) (n := 5) rfl hll.symm (by omega)
    have aw := (WW.mono hE).at 1 (e := k) (i := k) (n := D + 1 + 1) rfl hwl.symm (by omega)
    have bw := hwn.gt (show k < ws.length by omega)
    have p1 := mul_bd2 hm2 i2 bw
    have u1 : IntKind.i64.wrap (gt ls 2 * gt ws k) = gt ls 2 * gt ws k := wrapI (by omega) (by omega)
    have u2 : IntKind.i64.wrap (gt ls 2 * gt ws k + gt ls 0) = gt ls 2 * gt ws k + gt ls 0 := wrapI (by omega) (by omega)
    simp only [q_spec_l08Weierstrass_4, bin_leq, g', decide_true, condM_true, bindO_some, a2, aw, bin_mul, u1, bin_eql, a0, bin_add, u2]
    refine ⟨fun vs h' => ∃ t : Int, h' = h37 ∧ 0 ≤ t ∧ vs = [i6 m, i6 D, .slice A 5 cl, .slice (some ⟨w, 0, none⟩) (D + 1 + 1) 1, v208, .slice (some ⟨b, 0, none⟩) k 1, i6 k, i6 t], ?_, ?_⟩
    · rintro vs h38 ⟨t, rfl, t0, rfl⟩ ev hev
      simp at hev
      have tm : t.tmod m = t % m := Int.tmod_eq_emod_of_nonneg t0
      have bt := mod_bd hm0 t
      have u3 : IntKind.i64.wrap (m - t % m) = m - t % m := wrapI (by omega) (by omega)
      have tm2 : (m - t % m).tmod m = (m - t % m) % m := Int.tmod_eq_emod_of_nonneg (by omega)
      simp only [hev, bin_rem, m0, if_false, bindO_some, tm, bin_sub, u3, tm2, rowV_int, bin_add, wrapI (n := (k : Int) + 1) (by omega) (by omega)]
      refine pushI (xs := xs) hbk hb2 hl.symm (by unfold sizeMax; omega) fun b' h' u' => ?_
      have hge := u'.ge
      have bz := mod_bd hm0 (m - t % m)
      refine hK _ _ _ (by omega) ⟨k + 1, b', _, rfl, by omega, by omega, by simp [hl], by simp, u'.he hE hb1, by omega, u'.lt, u'.bk, fun x hx => ?_⟩
      rcases List.mem_append.1 hx with hx | hx
      · exact hn x hx
      · rw [List.mem_singleton.1 hx]; exact bz
    · by_cases gk : (k : Int) = 1
      · simp only [gk, decide_true, condM_true]
        exact ⟨_, trivial, by omega, rfl⟩
      · simp only [gk, decide_false, condM_false]
        exact ⟨_, trivial, p1.1, rfl⟩
  have g' : ¬ (k : Int) ≤ D := by omega
  simp only [q_spec_l08Weierstrass_4, bin_leq, g', decide_false, condM_false, bindO_some]
  refine hK1 _ _ fun ev hev => ?_
  simp at hev
  have mk : makN (.int .i64 ((D + 1 : Nat) : Int)) = some (D + 1) := makN_nat rfl (by unfold sizeMax; omega)
  simp only [hev, bin_add, w1, bindO_some, mk, mapI_rep]
  refine newB_i fun t h39 et ent eht eT => ?_
  have q1' : indexAddrV 1 (.slice (some ⟨t, 0, none⟩) (D + 1) 1) (.int .i64 1) = some (.pointer (some ⟨t, 1, none⟩)) := ixOwn (i := 1) rfl (by omega)
  simp only [bin_sub, v1, bindO_some, q1']
  refine storeI (i := 1) eT (by simp; omega) fun h40 u40 => ?_
  have n40 := u40.nx
  have E40 : HE h37 h40 := u40.he eht (by omega)
  refine s_spec_l02Inverse (D := D) ((RI.of_block hb2 hbk).mono E40) hl.symm (by omega) (by omega) hn hm hm2 (by omega) fun v h41 ys e41 f41 hyl hyn => ?_
  obtain ⟨y, rfl, y1, y2, y3⟩ := f41
  have n41 := e41.nx
  have hsn : Nums m ((List.replicate (D + 1) (0 : Int)).set 1 (m - 1)) := nums_set (nums_rep hm0 _) (by omega)
  refine s_spec_l02Times (D := D) ((RI.of_block (by omega) u40.bk).mono e41) (RI.of_block y2 y3) (by simp) rfl hm0 (by omega) hsn hyn (by simp; omega) (by omega) (by omega) fun v h42 e42 f42 => ?_
  obtain ⟨z, rfl, z1, z2, z3⟩ := f42
  have n42 := e42.nx
  simp only [mulL_len]
  refine wAfter (RI.of_block z2 z3) (by simp) (by simp; omega) (nums_mulL hm0 _ _ _) (r208.mono ((hE.trans E40).trans (e41.trans e42))) hm hm2 (by omega) (by omega) fun v257 h43 e43 f43 => ?_
  have EF := EE.trans ((hE.trans E40).trans (e41.trans e42))
  exact hR _ _ (EF.trans e43) (f43.older EF.nx)
end XM

/- The laws that are drawn: l08DrawList, l08Any, l04With, l04Draw, l04Spoil. -/
namespace XM
open Go

theorem HX.hz {o : Nat} {h h' : Hp} (a : HX o h h') : HZ o (o + 1) h h' := ⟨a.nx, fun b hb hne => a.bk b hb (by omega)⟩
theorem FB.hx {m : Int} {N : Nat} {h h' h'' : Hp} {v : Value} {o : Nat} (f : FB m N h h' v) (a : HX o h' h'') (ho : o < h.nx) : FB m N h h'' v := by
  obtain ⟨b, rb, rfl, w⟩ := f
  have := w.keep a.hz (.inr (by omega))
  obtain ⟨Z, o1, s, h1, h2⟩ := this
  exact ⟨b, rb, rfl, Z, o1, s, o1.ltb, fun i hi => o1.ltr i (by rw [s.1]; exact hi)⟩

theorem s_spec_l08DrawList {bs : Nat} {m : Int} {h : Hp} {R : Value → Hp → Prop} (s : Src h bs) (hm : 2 ≤ m) (hm2 : m ≤ 3000000000)
    (hR : ∀ v h' xs, HX bs h h' → Src h' bs → FI y_t_int64 h h' v xs → xs.length = 5 → Nums m xs → R v h') : CallW FF n_spec_l08DrawList [.pointer (some ⟨bs, 0, none⟩), i6 m] h R := by
  refine w_spec_l08DrawList ?_
  simp only [p_spec_l08DrawList, rowV_nil, bindO_some]
  refine newB_i fun b h1 eb en eh eB => ?_
  have hlt0 := s.lt
  refine LP1 (fun d vs h' => ∃ (k b : Nat) (xs : List Int), d = 5 - k ∧ k ≤ 5 ∧ xs.length = k ∧ vs = [.pointer (some ⟨bs, 0, none⟩), i6 m, .slice (some ⟨b, 0, none⟩) k 1, i6 k] ∧ HX bs h h' ∧ Src h' bs ∧ h.nx ≤ b ∧ b < h'.nx ∧ h'.bk b = some ⟨mapI xs, y_t_int64, true⟩ ∧ Nums m xs) ?_ _ _ _
    ⟨0, b, [], rfl, by omega, rfl, rfl, eh.hx bs, s.he eh, by omega, by omega, eB, by intro x hx; cases hx⟩
  rintro d vs h2 ⟨k, b, xs, rfl, hk, hl, rfl, x2, s2, hb1, hb2, hbk, hn⟩ K K1 hK hK1
  refine wl_spec_l08DrawList_0 ?_
  by_cases hlt : k < 5
  case neg =>
    have : k = 5 := by omega
    subst this
    simp [q_spec_l08DrawList_0]
    refine hK1 _ _ fun e he => ?_
    simp at he; rw [he]
    exact hR _ _ xs x2 s2 ⟨b, by rw [hl], hb1, hb2, hbk⟩ hl hn
  have g : (k : Int) < 5 := by omega
  have w1 : IntKind.i64.wrap ((k : Int) + 1) = k + 1 := wrapI (by omega) (by omega)
  simp only [q_spec_l08DrawList_0, bin_lss, bindO_some, g, decide_true, condM_true]
  refine s_spec_l01Next s2 (by omega) fun r h3 x3 n3 s3 _ hr3 => ?_
  have b3 := hr3 (by omega)
  have r5 : rowV 1 4 [.int .i64 0] [(0, .int .i64 0), (1, .int .i64 0), (2, .int .i64 1), (3, i6 r)] = some (mapI [0, 0, 1, r]) := by simp [rowV, rowFill, reps, mapI]
  simp only [r5, bindO_some]
  refine newB_i fun b5 h5 eb5 en5 eh5 eB5 => ?_
  have l2 := s2.lt
  refine s_spec_l01Pick (xs := [0, 0, 1, r]) (s3.he eh5) (msk_new (h := h5) (by omega) (by omega) eB5) rfl (by omega) (by omega) fun r6 h6 x6 n6 s6 hm6 => ?_
  have br : 0 ≤ r6 ∧ r6 < m := by simp at hm6; omega
  simp [w1]
  have X := x3.trans ((eh5.hx bs).trans x6)
  refine pushI (xs := xs) (X.to hbk hb2 (by omega)) (by have := X.nx; omega) hl.symm (by unfold sizeMax; omega) fun b7 h7 u7 => ?_
  have n7 := u7.ge; have n7' := u7.lt; have nX := X.nx; have n2 := x2.nx
  have x7 : HX bs h h7 := ⟨by omega, fun c hc hne => by rw [u7.ot c (by omega) (by omega), X.bk c (by omega) hne, x2.bk c hc hne]⟩
  have s7 : Src h7 bs := s6.keep (by omega) fun c hc => u7.ot c (by have := s6.lt; omega) (by omega)
  refine hK _ _ _ (by omega) ⟨k + 1, b7, xs ++ [r6], rfl, by omega, by simp [hl], by simp, x7, s7, by omega, u7.lt, by simpa using u7.bk, fun x hx => ?_⟩
  rcases List.mem_append.1 hx with hx | hx
  · exact hn x hx
  · rw [List.mem_singleton.1 hx]; exact br

theorem s_spec_l08Any {bs D : Nat} {m : Int} {h : Hp} {R : Value → Hp → Prop} (s : Src h bs) (hm : 2 ≤ m) (hm2 : m ≤ 1000000000) (hD1 : 1 ≤ D) (hD : D ≤ 80000)
    (hR : ∀ v h', HX bs h h' → Src h' bs → FB m (D + 1) h h' v → R v h') : CallW FF n_spec_l08Any [.pointer (some ⟨bs, 0, none⟩), i6 m, i6 D] h R := by
  refine w_spec_l08Any ?_
  have fin : ∀ h1, HX bs h h1 → Src h1 bs → ∀ v h', HE h1 h' → FB m (D + 1) h1 h' v → R v h' := fun h1 x1 s1 v h' e f => hR v h' (x1.trans (e.hx bs)) (s1.he e) (f.older x1.nx)
  simp only [p_spec_l08Any]
  refine s_spec_l01Next s (by omega) fun r h1 x1 n1 s1 _ hr1 => ?_
  obtain ⟨r0, r1⟩ := hr1 (by omega)
  by_cases c0 : r = 0
  · simp only [bin_eql, bindO_some, c0, decide_true, condM_true]
    exact s_spec_l08Multiplicative hm (by omega) hD1 (by omega) (fin h1 x1 s1)
  simp only [bin_eql, bindO_some, c0, decide_false, condM_false]
  refine ⟨fun vs h' => h' = h1 ∧ vs = [.pointer (some ⟨bs, 0, none⟩), i6 m, i6 D, i6 r, .bool (decide (r = 1) || decide (r = 2))], ?_, ?_⟩
  · rintro vs h2 ⟨rfl, rfl⟩ e he
    simp at he
    simp only [he]
    by_cases c12 : r = 1 ∨ r = 2
    · have ht : (decide (r = 1) || decide (r = 2)) = true := by simpa using c12
      simp only [ht, condM_true]
      refine s_spec_l01Next s1 (by omega) fun c h3 x3 n3 s3 _ hr3 => ?_
      exact s_spec_l08Multiplicative hm (hr3 (by omega)) hD1 (by omega) (fin h3 (x1.trans x3) s3)
    have wei : CallW FF n_spec_l08DrawList [.pointer (some ⟨bs, 0, none⟩), i6 m] h2 fun v49 h3 => CallW FF n_spec_l08Weierstrass [i6 m, i6 D, v49] h3 fun v50 h4 => R v50 h4 := by
      refine s_spec_l08DrawList s1 hm (by omega) fun v h3 xs x3 s3 f3 hl hn => ?_
      obtain ⟨q, rfl, q1, q2, q3⟩ := f3
      exact s_spec_l08Weierstrass (RI.of_block q2 q3) hl hl hn hm hm2 hD1 hD (fin h3 (x1.trans x3) s3)
    have ht : (decide (r = 1) || decide (r = 2)) = false := by simpa using c12
    simp only [ht, condM_false, bin_eql, bindO_some]
    by_cases c3 : r = 3
    · simp only [c3, decide_true, condM_true]
      refine s_spec_l01Next s1 (by omega) fun c h3 x3 n3 s3 _ hr3 => ?_
      exact s_spec_l08Tangent hm (by omega) (hr3 (by omega)) hD1 (by omega) (fin h3 (x1.trans x3) s3)
    simp only [c3, decide_false, condM_false]
    by_cases c4 : r = 4
    · have two : ¬ (2 : Int) = 0 := by omega
      simp only [c4, decide_true, condM_true, bin_rem, two, if_false, bindO_some, bin_eql]
      by_cases c5 : m.tmod 2 = 1
      · simp only [c5, decide_true, condM_true]
        refine s_spec_l01Next s1 (by omega) fun a h3 x3 n3 s3 _ hr3 => ?_
        refine s_spec_l01Next s3 (by omega) fun b h4 x4 n4 s4 _ hr4 => ?_
        exact s_spec_l08Euler hm hm2 (hr3 (by omega)) (hr4 (by omega)) hD1 (by omega) (fin h4 (x1.trans (x3.trans x4)) s4)
      · simp only [c5, decide_false, condM_false]
        exact wei
    · simp only [c4, decide_false, condM_false]
      exact wei
  · by_cases c1 : r = 1
    · subst c1
      simp
    · simp only [c1, decide_false, condM_false]
      by_cases c2 : r = 2
      · subst c2; simp
      · simp [c1, c2]

/-- A plane with a triangle of its own. -/
def PB (m : Int) (N : Nat) (h h' : Hp) (v : Value) : Prop := ∃ b rb, v = sv m (some ⟨b, 0, none⟩) N 1 ∧ OB m N h.nx h'.nx h' b rb

theorem s_spec_l04With {bs D : Nat} {m : Int} {h : Hp} {R : Value → Hp → Prop} (s : Src h bs) (hm : 2 ≤ m) (hm2 : m ≤ 1000000000) (hD1 : 1 ≤ D) (hD : D ≤ 70000)
    (hR : ∀ v h', HX bs h h' → Src h' bs → PB m (D + 1) h h' v → R v h') : CallW FF n_spec_l04With [.pointer (some ⟨bs, 0, none⟩), i6 m, i6 D] h R := by
  refine w_spec_l04With ?_
  simp [p_spec_l04With]
  refine newB_i fun b0 h1 eb en eh eB => ?_
  have l0 := s.lt
  refine s_spec_l08Any (s.he eh) hm hm2 hD1 (by omega) fun v h2 x2 s2 f2 => ?_
  refine s_spec_l01Next s2 (by omega) fun r h3 x3 n3 s3 _ hr3 => ?_
  have f3 := f2.hx x3 (by omega)
  have n2 := x2.nx
  have X13 := x2.trans x3
  have B3 := X13.to eB (by omega) (by omega)
  have fin : ∀ h4 v, HX bs h3 h4 → Src h4 bs → FB m (D + 1) h1 h4 v → CallW FF n_spec_l03Make [i6 m, v] h4 fun v24 h6 => bindO (storeV 2 h6 v24 (.pointer (some ⟨b0, 0, none⟩))) fun h7 => bindO (ldV 2 true h7 (.pointer (some ⟨b0, 0, none⟩))) fun r6 => R r6 h7 := fun h4 v x4 s4 f4 => by
    obtain ⟨b, rb, rfl, o⟩ := f4
    refine s_spec_l03Make fun h5 e5 => ?_
    have n4 := x4.nx; have n5 := e5.nx
    refine storeBox2 (e5.to (x4.to B3 (by omega) (by omega)) (by omega)) rfl rfl rfl rfl fun h6 u6 => ?_
    have n6 := u6.nx
    have z6 : HZ b0 (b0 + 1) h5 h6 := u6.hx.hz
    simp only [box2 u6.bk, bindO_some]
    have o6 := (o.he e5).keep z6 (.inr (by omega))
    obtain ⟨Z, o1, sZ, g1, g2⟩ := o6
    have hEx : HX bs h h6 := by
      refine ⟨by omega, fun c hc hne => ?_⟩
      rw [u6.ot c (by omega), e5.bk c (by omega), x4.bk c (by omega) hne, X13.bk c (by omega) hne, eh.bk c hc]
    refine hR _ _ hEx ((s4.he e5).keep (by omega) fun c hc => u6.ot c (by omega)) ⟨b, rb, rfl, Z, o1.lower (by omega), sZ, o1.ltb, fun i hi => o1.ltr i (by rw [sZ.1]; exact hi)⟩
  simp only [bin_gtr, bindO_some]
  by_cases c1 : 0 < r
  · simp only [c1, decide_true, condM_true]
    refine s_spec_l04DrawCurve s3 hm (by omega) hD1 (by omega) fun w h4 xs x4 s4 f4 hl hn g0 g1 => ?_
    obtain ⟨q, rfl, q1, q2, q3⟩ := f4
    have n4 := x4.nx
    obtain ⟨A, Rr, T, c, rfl, rT, sT⟩ := (f3.hx x4 (by omega)).rq
    refine s_spec_l06Conjugate (N := D + 1) rT (RI.of_block q2 q3) rfl hl sT.1 hl sT.2 hm (by omega) hn (by omega) (by omega) fun v h5 e5 f5 => ?_
    exact fin h5 v (x4.trans (e5.hx bs)) (s4.he e5) ((f5.fb (Sh.afterT (by omega))).older (by omega))
  · simp only [c1, decide_false, condM_false]
    exact fin h3 v (HX.refl _ _) s3 f3

theorem s_spec_l04Draw {bs : Nat} {h : Hp} {R : Value → Hp → Prop} (s : Src h bs)
    (hR : ∀ v h' m D, HX bs h h' → Src h' bs → PB m (D + 1) h h' v → 2 ≤ m → m ≤ 10000 → 1 ≤ D → D ≤ 10 → R v h') : CallW FF n_spec_l04Draw [.pointer (some ⟨bs, 0, none⟩)] h R := by
  refine w_spec_l04Draw ?_
  simp [p_spec_l04Draw]
  refine newB_i fun b0 h1 eb en eh eB => ?_
  have l0 := s.lt
  refine s_spec_l04DrawModulus (s.he eh) fun m h2 x2 s2 m0 m1 => ?_
  refine s_spec_l01Next s2 (by omega) fun r h3 x3 n3 s3 _ hr3 => ?_
  have b3 := hr3 (by omega)
  have r5 : rowV 1 7 [.int .i64 0] [(0, .int .i64 1), (1, .int .i64 2), (2, .int .i64 3), (3, .int .i64 4), (4, .int .i64 6), (5, .int .i64 9), (6, i6 r)] = some (mapI [1, 2, 3, 4, 6, 9, r]) := by simp [rowV, rowFill, reps, mapI]
  simp only [r5, bindO_some]
  refine newB_i fun b5 h5 eb5 en5 eh5 eB5 => ?_
  have n2 := x2.nx
  refine s_spec_l01Pick (xs := [1, 2, 3, 4, 6, 9, r]) (s3.he eh5) (msk_new (h := h5) (by omega) (by omega) eB5) rfl (by omega) (by omega) fun r6 h6 x6 n6 s6 hm6 => ?_
  have br : 0 ≤ r6 ∧ r6 ≤ 9 := by simp at hm6; omega
  obtain ⟨d, rfl⟩ := Int.eq_ofNat_of_zero_le br.1
  have w1 : IntKind.i64.wrap (1 + (d : Int)) = ((d + 1 : Nat) : Int) := by rw [wrapI] <;> omega
  simp only [bin_add, w1, bindO_some]
  refine s_spec_l04With s6 m0 (by omega) (by omega) (by omega) fun v h7 x7 s7 f7 => ?_
  obtain ⟨b, rb, rfl, o⟩ := f7
  have X17 := x2.trans (x3.trans ((eh5.hx bs).trans (x6.trans x7)))
  have n7 := x7.nx
  refine storeBox2 (X17.to eB (by omega) (by omega)) rfl rfl rfl rfl fun h8 u8 => ?_
  have n8 := u8.nx
  simp only [box2 u8.bk, bindO_some]
  have o8 := o.keep u8.hx.hz (.inr (by omega))
  obtain ⟨Z, o1, sZ, g1, g2⟩ := o8
  have hEx : HX bs h h8 := ⟨by omega, fun c hc hne => by rw [u8.ot c (by omega), X17.bk c (by omega) hne, eh.bk c hc]⟩
  refine hR _ _ m (d + 1) hEx (s7.keep (by omega) fun c hc => u8.ot c (by omega)) ⟨b, rb, rfl, Z, o1.lower (by omega), sZ, o1.ltb, fun i hi => o1.ltr i (by rw [sZ.1]; exact hi)⟩ m0 m1 (by omega) (by omega)
end XM

/- The laws that are drawn: l04Spoil, DrawMultipleOf. -/
namespace XM
open Go

/-- A plane, or something near it, that is drawn. -/
def PlQ (bs : Nat) (h : Hp) (v : Value) : Prop := ∃ (m : Int) (A : Option Addr) (c : Nat) (Rr : Nat → Option Addr) (T : List (List Int)), v = sv m A T.length c ∧ RT (msk h fun x => x ≤ bs) A Rr T ∧ T.length ≤ 11 ∧ (∀ i, i < T.length → (row T i).length ≤ 11) ∧ 1 ≤ m ∧ m ≤ 10001

theorem OB.wk {m m' : Int} {N lo hi : Nat} {h : Hp} {b : Nat} {rb : Nat → Nat} (o : OB m N lo hi h b rb) (hm : m ≤ m') : OB m' N lo hi h b rb := by
  obtain ⟨Z, o, s, h1, h2⟩ := o
  exact ⟨Z, o, ⟨s.1, fun i hi => ⟨(s.2 i hi).1, fun x hx => by have := (s.2 i hi).2 x hx; omega⟩⟩, h1, h2⟩
theorem OB.pl {m mm : Int} {N lo hi bs : Nat} {h : Hp} {b : Nat} {rb : Nat → Nat} (o : OB m N lo hi h b rb) (hbs : bs < lo) (hN : N ≤ 11) (h1 : 1 ≤ mm) (h2 : mm ≤ 10001) : PlQ bs h (sv mm (some ⟨b, 0, none⟩) N 1) := by
  obtain ⟨Z, o, s, _, _⟩ := o
  refine ⟨mm, _, 1, _, Z, by rw [s.1], o.rtm (P := fun x => x ≤ bs) (fun x hx => by omega), by rw [s.1]; exact hN, fun i hi => ?_, h1, h2⟩
  rw [(s.2 i (by rw [← s.1]; exact hi)).1]; omega

theorem RT.tail {h : Hp} {b o : Nat} {Rr : Nat → Option Addr} {T : List (List Int)} (r : RT h (some ⟨b, o, none⟩) Rr T) : RT h (some ⟨b, o + 1, none⟩) (fun i => Rr (i + 1)) T.tail := by
  refine ⟨?_, fun i hi => ?_⟩
  · intro hl
    have hl' : 0 < (rowsV Rr T).length := by simp at hl ⊢; omega
    obtain ⟨b', o', x, h1, h2, h3, h4⟩ := r.top hl'
    cases h1
    refine ⟨b, o + 1, x, rfl, h2, h3, fun i v hv => ?_⟩
    have hi : i < T.tail.length := by simpa using (List.getElem?_eq_some_iff.1 hv).1
    rw [rowsV_get hi] at hv
    have hi' : i + 1 < T.length := by simp at hi; omega
    have := h4 (i + 1) _ (rowsV_get hi')
    rw [show o + 1 + i = o + (i + 1) by omega, this, ← hv]
    simp [row, List.getD_eq_getElem?_getD]
  · have hi' : i + 1 < T.length := by simp at hi; omega
    have := r.rows (i + 1) hi'
    have e : row T.tail i = row T (i + 1) := by simp [row, List.getD_eq_getElem?_getD]
    rw [e]; exact this
theorem row_tail {T : List (List Int)} {i : Nat} : row T.tail i = row T (i + 1) := by simp [row, List.getD_eq_getElem?_getD]

theorem s_spec_l04Spoil {bs : Nat} {h : Hp} {R : Value → Hp → Prop} (s : Src h bs) (hR : ∀ v h', HX bs h h' → Src h' bs → PlQ bs h' v → R v h') : CallW FF n_spec_l04Spoil [.pointer (some ⟨bs, 0, none⟩)] h R := by
  refine w_spec_l04Spoil ?_
  simp [p_spec_l04Spoil]
  refine newB_i fun b2 h1 eb en eh eB => ?_
  have l0 := s.lt
  refine s_spec_l04Draw (s.he eh) fun v h2 m D x2 s2 f2 m0 m1 hD1 hD2 => ?_
  obtain ⟨bt, rb, rfl, o2⟩ := f2
  have n2 := x2.nx
  refine newB_i fun b3 h3 eb3 en3 eh3 eB3 => ?_
  refine storeBox2 eB3 rfl rfl rfl rfl fun h4 u4 => ?_
  have n4 := u4.nx
  have o4 := (o2.he eh3).keep u4.hx.hz (by omega)
  have s4 : Src h4 bs := (s2.he eh3).keep (by omega) fun c hc => u4.ot c (by omega)
  have B2 := u4.to (eh3.to (x2.to eB (by omega) (by omega)) (by omega)) (by omega)
  have X4 : HX bs h h4 := ⟨by omega, fun c hc hne => by rw [u4.ot c (by omega), eh3.bk c (by omega), x2.bk c (by omega) hne, eh.bk c hc]⟩
  simp [box2 u4.bk]
  refine s_spec_l01Next s4 (by omega) fun i h5 x5 n5 s5 _ hr5 => ?_
  obtain ⟨i0, i1⟩ := hr5 (by omega)
  obtain ⟨i, rfl⟩ := Int.eq_ofNat_of_zero_le i0
  have B3 := x5.to u4.bk (by omega) (by omega)
  have o5 := o4.keep x5.hz (by omega)
  have r5 := o5.at 1 (e := i) (i := i) (n := D + 1) rfl rfl (by omega)
  simp only [fieldAddr_ptr, bindO_some, Nat.zero_add, box2 B3, r5]
  refine s_spec_l01Next s5 (by omega) fun t h6 x6 n6 s6 _ hr6 => ?_
  have X46 := x5.trans x6
  have B3 := x6.to B3 (by omega) (by omega)
  have B2 := X46.to B2 (by omega) (by omega)
  have o6 := o5.keep x6.hz (by omega)
  have X6 := X4.trans X46
  have fin : ∀ (hx : Hp) (mm : Int) (tv : Value) (y : TypeId), h6.nx ≤ hx.nx → HX bs h hx → Src hx bs → one tv = true → hx.bk b3 = some ⟨[i6 mm, tv], y, true⟩ → hx.bk b2 = some ⟨[.int .i64 0, .slice none 0 0], y_t_impl_Plane, true⟩ →
      (∀ h', Upd b2 (some ⟨[i6 mm, tv], y_t_impl_Plane, true⟩) hx h' → PlQ bs h' (.agg #[i6 mm, tv])) →
      bindO (ldV 2 true hx (.pointer (some ⟨b3, 0, none⟩))) fun v50 => bindO (storeV 2 hx v50 (.pointer (some ⟨b2, 0, none⟩))) fun h10 => bindO (ldV 2 true h10 (.pointer (some ⟨b2, 0, none⟩))) fun r2 => R r2 h10 := fun hx mm tv y hnx hX hS hone hb3 hb2 hP => by
    simp only [box2 hb3, bindO_some]
    refine storeBox2 hb2 rfl rfl rfl hone fun h' u => ?_
    simp only [box2 u.bk, bindO_some]
    have nu := u.nx
    refine hR _ _ ⟨by have := hX.nx; omega, fun c hc hne => by rw [u.ot c (by omega), hX.bk c hc hne]⟩ (hS.keep (by omega) fun c hc => u.ot c (by omega)) (hP _ u)
  simp only [bin_eql, bindO_some]
  by_cases c0 : t = 0
  · simp only [c0, decide_true, condM_true, len_slice, bindO_some, fieldAddr_ptr, Nat.zero_add]
    refine ⟨fun b => b < h6.nx ∧ b ≠ bs, fun b hb => hb.1, ?_⟩
    refine s_spec_l01Next s6 (by omega) fun j h7 x7 n7 s7 _ hr7 => ⟨fun b hb => x7.bk b hb.1 hb.2, ?_⟩
    obtain ⟨j0, j1⟩ := hr7 (by omega)
    obtain ⟨j, rfl⟩ := Int.eq_ofNat_of_zero_le j0
    have B37 := x7.to B3 (by omega) (by omega)
    have w1 : IntKind.i64.wrap (m + 1) = m + 1 := wrapI (by omega) (by omega)
    simp only [inP_ptr, box2 B37, bindO_some, bin_add, w1]
    refine ⟨⟨by omega, by omega⟩, ?_⟩
    refine s_spec_l01Next s7 (by omega) fun q h8 x8 n8 s8 _ hr8 => ?_
    obtain ⟨q0, q1⟩ := hr8 (by omega)
    have o8 := ((o6.keep x7.hz (by omega)).keep x8.hz (by omega)).wk (show m ≤ m + 1 by omega)
    have ix := o8.ix (i := i) (e := j) (j := j) (n := D + 1 - i) (c := 1) (by omega) rfl rfl (by omega)
    simp only [ix, bindO_some]
    refine o8.store (by omega) (by omega) ⟨q0, by omega⟩ fun h9 z9 n9 o9 => ?_
    have X8 := X6.trans (x7.trans x8)
    have X9 : HX bs h h9 := ⟨by have := X8.nx; omega, fun c hc hne => by rw [z9.bk c (by have := X8.nx; omega) (by omega), X8.bk c hc hne]⟩
    refine fin h9 m _ _ (by omega) X9 (s8.keep (by omega) fun c hc => z9.bk c (by omega) (by omega)) rfl (z9.to (x8.to B37 (by omega) (by omega)) (by omega) (by omega)) (z9.to ((x7.trans x8).to B2 (by omega) (by omega)) (by omega) (by omega)) fun h' u => ?_
    exact (o9.keep u.hx.hz (by omega)).pl (by omega) (by omega) (by omega) (by omega)
  simp only [c0, decide_false, condM_false, bin_eql, bindO_some]
  by_cases c1 : t = 1
  · have r3 : rowV 1 3 [.int .i64 0] [(0, .int .i64 1), (1, .int .i64 10001), (2, .int .i64 2)] = some (mapI [1, 10001, 2]) := by simp [rowV, rowFill, reps, mapI]
    simp only [c1, decide_true, condM_true, r3, bindO_some]
    refine newB_i fun b7 h7 eb7 en7 eh7 eB7 => ?_
    refine s_spec_l01Pick (xs := [1, 10001, 2]) (s6.he eh7) (msk_new (h := h7) (by omega) (by omega) eB7) rfl (by omega) (by omega) fun q h8 x8 n8 s8 hq => ?_
    have bq : 1 ≤ q ∧ q ≤ 10001 := by simp at hq; omega
    have X68 : HX bs h6 h8 := (eh7.hx bs).trans x8
    refine store1 (o := 0) (X68.to B3 (by omega) (by omega)) (by simp) rfl rfl rfl fun h9 u9 => ?_
    have n9 := u9.nx
    have X8 := X6.trans X68
    refine fin h9 q _ _ (by omega) ⟨by have := X8.nx; omega, fun c hc hne => by rw [u9.ot c (by omega), X8.bk c hc hne]⟩ (s8.keep (by omega) fun c hc => u9.ot c (by omega)) rfl (by simpa using u9.bk) (u9.to (X68.to B2 (by omega) (by omega)) (by omega)) fun h' u => ?_
    exact (((o6.keep X68.hz (by omega)).keep u9.hx.hz (by omega)).keep u.hx.hz (by omega)).pl (by omega) (by omega) bq.1 bq.2
  simp only [c1, decide_false, condM_false, bin_eql, bindO_some]
  by_cases c2 : t = 2
  · simp only [c2, decide_true, condM_true, fieldAddr_ptr, bindO_some, Nat.zero_add, box2 B3]
    have hs : sliceV 1 (some (.int .i64 1)) none (.slice (some ⟨bt, 0, none⟩) (D + 1) 1) = some (.slice (some ⟨bt, 0 + 1, none⟩) D 1) := by
      have h1D : (1 : Int) ≤ (D : Int) + 1 := by omega
      simp [sliceV, bnd, addOff, h1D]
    simp only [hs, bindO_some]
    refine store1 (o := 1) B3 (by simp) rfl rfl rfl fun h7 u7 => ?_
    have n7 := u7.nx
    refine fin h7 m (.slice (some ⟨bt, 0 + 1, none⟩) D 1) _ (by omega) ⟨by have := X6.nx; omega, fun c hc hne => by rw [u7.ot c (by have := X6.nx; omega), X6.bk c hc hne]⟩ (s6.keep (by omega) fun c hc => u7.ot c (by omega)) rfl (by simpa using u7.bk) (u7.to B2 (by omega)) fun h' u => ?_
    obtain ⟨Z, oZ, sZ, _, _⟩ := (o6.keep u7.hx.hz (by omega)).keep u.hx.hz (by omega)
    have rt := (oZ.rtm (P := fun x => x ≤ bs) (fun x hx => by omega)).tail
    refine ⟨m, _, 1, _, Z.tail, by simp [sZ.1], rt, by simp [sZ.1]; omega, fun i hi => ?_, by omega, by omega⟩
    have hi' : i < Z.length - 1 := by simpa using hi
    rw [row_tail, (sZ.2 (i + 1) (by have := sZ.1; omega)).1]; omega
  simp only [c2, decide_false, condM_false, bin_eql, bindO_some]
  by_cases c3 : t = 3
  · simp only [c3, decide_true, condM_true, fieldAddr_ptr, bindO_some, Nat.zero_add]
    refine store1 (o := 1) B3 (by simp) rfl rfl rfl fun h7 u7 => ?_
    have n7 := u7.nx
    refine fin h7 m (.slice none 0 0) _ (by omega) ⟨by have := X6.nx; omega, fun c hc hne => by rw [u7.ot c (by have := X6.nx; omega), X6.bk c hc hne]⟩ (s6.keep (by omega) fun c hc => u7.ot c (by omega)) rfl (by simpa using u7.bk) (u7.to B2 (by omega)) fun h' u => ?_
    exact ⟨m, none, 0, fun _ => none, [], rfl, ⟨fun hl => by simp at hl, fun i hi => by simp at hi⟩, by simp, fun i hi => by simp at hi, by omega, by omega⟩
  · simp only [c3, decide_false, condM_false]
    refine fin h6 m _ _ (by omega) X6 s6 rfl B3 B2 fun h' u => ?_
    exact (o6.keep u.hx.hz (by omega)).pl (by omega) (by omega) (by omega) (by omega)

theorem PlQ.hx {bs : Nat} {h h' : Hp} {v : Value} (p : PlQ bs h v) (x : HX bs h h') : PlQ bs h' v := by
  obtain ⟨m, A, c, Rr, T, h1, h2, h3⟩ := p
  exact ⟨m, A, c, Rr, T, h1, h2.mos (msk_to x.nx fun b hb hne => ⟨x.bk b hb (by omega), hne⟩), h3⟩
/-- A plane that is drawn, to be read. -/
def PlR (h : Hp) (v : Value) : Prop := ∃ (m : Int) (A : Option Addr) (c : Nat) (Rr : Nat → Option Addr) (T : List (List Int)), v = sv m A T.length c ∧ RT h A Rr T ∧ T.length ≤ 11 ∧ (∀ i, i < T.length → (row T i).length ≤ 11) ∧ 1 ≤ m ∧ m ≤ 10001
theorem PlQ.r {bs : Nat} {h : Hp} {v : Value} (p : PlQ bs h v) : PlR h v := by
  obtain ⟨m, A, c, Rr, T, h1, h2, h3⟩ := p
  exact ⟨m, A, c, Rr, T, h1, h2.mos (msk_hs _), h3⟩
theorem PlR.mono {h h' : Hp} {v : Value} (p : PlR h v) (e : HE h h') : PlR h' v := by
  obtain ⟨m, A, c, Rr, T, h1, h2, h3⟩ := p
  exact ⟨m, A, c, Rr, T, h1, h2.mono e, h3⟩

end XM

/- The curves that are drawn: l04Curves, DrawMultipleUnder. -/
namespace XM
open Go

theorem OS.hx {lo : Nat} {h h' : Hp} {b o : Nat} {L : List Ser} (t : OS lo h b L) (x : HX o h h') (ho : o < lo) : OS lo h' b L :=
  ⟨t.lob, Nat.lt_of_lt_of_le t.ltb x.nx, x.to t.top t.ltb (by have := t.lob; omega), fun i e he => (t.el i e he).mos (msk_to x.nx fun c hc hne => ⟨x.bk c hc (by omega), hne⟩)⟩

/-- The series that are drawn. -/
def SerOk (L : List Ser) : Prop := ∀ e ∈ L, e.c = 1 ∧ e.xs.length ≤ 13 ∧ 0 < e.xs.length

end XM

/- The statement's own functions: big, roll, below, likeInts, series9. -/
namespace XM
open Go

theorem s_laws_big {A : Option Addr} {n c : Nat} {h : Hp} {R : Value → Hp → Prop} (hR : R (.bool (decide (4096 < n))) h) : CallW FF n_laws_big [.slice A n c] h R := by
  refine w_laws_big ?_
  have : (decide ((4096 : Int) < n)) = decide (4096 < n) := by congr 1; rw [eq_iff_iff]; omega
  simp only [p_laws_big, len_slice, bindO_some, bin_gtr, this]; exact hR

theorem s_laws_likeInts {A B : Option Addr} {xs ys : List Int} {n n2 c c2 : Nat} {h : Hp} {R : Value → Hp → Prop} (hx : RI h A xs) (hy : RI h B ys) (hn : n = xs.length) (hn2 : n2 = ys.length) (hl : n ≤ 1000000)
    (hR : R (.bool (decide (xs = ys))) h) : CallW FF n_laws_likeInts [.slice A n c, .slice B n2 c2] h R := by
  subst hn; subst hn2
  refine w_laws_likeInts ?_
  by_cases c1 : (xs.length : Int) = ys.length
  case neg =>
    have : ¬ xs = ys := fun h => c1 (by rw [h])
    simp [p_laws_likeInts, c1]
    simpa [this] using hR
  have cl : xs.length = ys.length := by omega
  simp [p_laws_likeInts, cl]
  refine LP2 (fun d vs h' => ∃ i : Nat, d = xs.length - i ∧ i ≤ xs.length ∧ h' = h ∧ vs = [.slice A ys.length c, .slice B ys.length c2, i6 i] ∧ ∀ j, j < i → gt xs j = gt ys j) ?_ _ _ _ ⟨0, rfl, by omega, rfl, rfl, by omega⟩
  rintro d vs h1 ⟨i, rfl, hi, rfl, rfl, hF⟩ K K1 K2 hK hK1 hK2
  refine wl_laws_likeInts_0 ?_
  by_cases hlt : i < ys.length
  · have r := hx.at c (e := i) (n := ys.length) rfl cl.symm (by omega)
    have s := hy.at c2 (e := i) rfl rfl hlt
    by_cases hc : gt xs i = gt ys i
    · simp [q_laws_likeInts_0, hlt, r, s, hc, wrapI (n := (i : Int) + 1) (by omega) (by omega)]
      refine hK _ _ _ (by omega) ⟨i + 1, rfl, by omega, rfl, rfl, fun j hj => ?_⟩
      by_cases h : j = i
      · subst h; exact hc
      · exact hF j (by omega)
    · simp [q_laws_likeInts_0, hlt, r, s, hc]
      refine hK2 _ _ fun e he => ?_
      simp at he; rw [he]
      have : ¬ xs = ys := fun h => hc (by rw [h])
      simpa [this] using hR
  · simp [q_laws_likeInts_0, hlt]
    refine hK1 _ _ fun _ => ?_
    have : xs = ys := gt_ext cl fun j hj => hF j (by omega)
    rw [decide_eq_true this] at hR
    exact hR

/-- A value is laid into a new box. -/
theorem boxS {h : Hp} {y : TypeId} {m : Int} {A : Option Addr} {n c : Nat} {K : Nat → Hp → Prop} (hk : ∀ b h', h.nx ≤ b → b < h'.nx → HE h h' → h'.bk b = some ⟨[i6 m, .slice A n c], y, true⟩ → K b h') :
    newB h ⟨[.int .i64 0, .slice none 0 0], y, true⟩ fun b h1 => bindO (storeV 2 h1 (sv m A n c) (.pointer (some ⟨b, 0, none⟩))) fun h2 => K b h2 := by
  refine newB_i fun b h1 eb en eh eB => ?_
  refine storeBox2 eB rfl rfl rfl rfl fun h2 u => ?_
  exact hk b h2 (by omega) (by rw [u.nx]; omega) (u.he eh (by omega)) u.bk
theorem ex0 (a b : Value) : extractV 0 (.tuple #[a, b]) = some a := rfl
theorem ex1 (a b : Value) : extractV 1 (.tuple #[a, b]) = some b := rfl
theorem ex30 (a b c : Value) : extractV 0 (.tuple #[a, b, c]) = some a := rfl
theorem ex31 (a b c : Value) : extractV 1 (.tuple #[a, b, c]) = some b := rfl
theorem ex32 (a b c : Value) : extractV 2 (.tuple #[a, b, c]) = some c := rfl
end XM

/- FnPointSums: what the answers tell. -/
namespace XM
open Go

theorem codeP_ok {m : Int} {T P : List (List Int)} (l : LawT m T) (h : ∀ i, i < P.length → PtOk m T.length (row P 0).length (row P i)) : codeP m T P = 0 := by
  unfold codeP; rw [if_neg (not_not_intro l), if_pos h]
theorem codeP_two {m : Int} {T : List (List Int)} {x y : List Int} (h : codeP m T [x] = 0) (hy : y.length = x.length) (ny : Nums m y) : codeP m T [x, y] = 0 := by
  obtain ⟨l, hp⟩ := codeP_zero h
  obtain ⟨k1, k2, k3⟩ := hp 0 (by simp)
  refine codeP_ok l fun i hi => ?_
  simp at hi
  rcases Nat.eq_zero_or_pos i with h0 | h0
  · subst h0; exact ⟨k1, k2, k3⟩
  · rw [show i = 1 by omega]; exact ⟨k1, hy, ny⟩
theorem codeP_one {m : Int} {T : List (List Int)} {x y : List Int} (h : codeP m T [x, y] = 0) : codeP m T [x] = 0 ∧ codeP m T [y, x] = 0 := by
  obtain ⟨l, hp⟩ := codeP_zero h
  obtain ⟨k1, k2, k3⟩ := hp 0 (by simp)
  obtain ⟨q1, q2, q3⟩ := hp 1 (by simp)
  have k1 : 1 ≤ x.length ∧ x.length + 1 ≤ T.length := k1
  have q2 : y.length = x.length := q2
  refine ⟨codeP_ok l fun i hi => ?_, codeP_ok l fun i hi => ?_⟩
  · simp at hi; subst hi; exact ⟨k1, k2, k3⟩
  · simp at hi
    rcases Nat.eq_zero_or_pos i with h0 | h0
    · subst h0; exact ⟨by show 1 ≤ y.length ∧ y.length + 1 ≤ T.length; omega, rfl, q3⟩
    · rw [show i = 1 by omega]; exact ⟨by show 1 ≤ y.length ∧ y.length + 1 ≤ T.length; omega, q2.symm, k3⟩

theorem cons_tail {m : Int} {D : Nat} {a : List Int} (c : Cv m D a) : 0 :: a.tail = a := by
  cases a with
  | nil => have := c.len; simp at this
  | cons u v => have := c.z; simp [gt] at this; simp [this]
theorem nums_tail {m : Int} {a : List Int} (h : Nums m a) : Nums m a.tail := fun x hx => h x (List.mem_of_mem_tail hx)
theorem gt_ztail (D i : Nat) : gt (zL D).tail i = 0 := by
  have : gt (zL D).tail i = gt (zL D) (i + 1) := by simp [gt]
  rw [this, gt_zL]

/-- A point and its opposite. -/
theorem opp_sum {m : Int} {T : List (List Int)} {a : List Int} (h : (mulPR m T (-1) a).2 = 0) : sumPR m T a (mulPR m T (-1) a).1 = ((zL a.length).tail, 0) := by
  have hc : codeP m T [a] = 0 := by
    unfold mulPR at h
    split at h
    · exact h
    · rename_i h1; exact Classical.not_not.1 h1
  obtain ⟨law, k1, k2, nx, m1, hTl, hr, lc⟩ := pt_facts hc
  have cx := cv_cons (m := m) (D := a.length) (by omega) rfl nx
  have cN := lc.cmulN cx (-1)
  have e : (mulPR m T (-1) a).1 = (mulN m a.length (cutT a.length T) (-1) (0 :: a)).tail := by
    unfold mulPR; rw [if_neg (not_not_intro hc), if_neg (not_not_intro (by omega))]
  rw [e]
  have hl : (mulN m a.length (cutT a.length T) (-1) (0 :: a)).tail.length = a.length := by rw [List.length_tail, mulN_len]; rfl
  have hc2 := codeP_two hc hl (nums_tail cN.nums)
  unfold sumPR
  rw [if_neg (not_not_intro hc2), cons_tail cN]
  have e1 : mulN m a.length (cutT a.length T) 1 (0 :: a) = 0 :: a := by
    have := lc.mulN_succ cx 0
    rw [lc.mulN_zero cx, lc.zerop cx] at this
    exact this
  have e2 := lc.mulN_add cx 1 (-1)
  rw [e1, show (1 : Int) + -1 = 0 by omega, lc.mulN_zero cx] at e2
  rw [← e2]

/-- The order of a point. -/
theorem ord_facts {m : Int} {T : List (List Int)} {a : List Int} (h : (ordPR m T a).2 = 0) (hm : 0 ≤ m) : ∃ M O : Nat, m = M ∧ (ordPR m T a).1 = (O : Int) ∧ 1 ≤ O ∧ O ∣ M ^ a.length ∧ M ^ a.length ≤ 1000000000000 ∧ 2 ≤ M ∧ M ≤ 10000 ∧
    mulPR m T (O : Int) a = ((zL a.length).tail, 0) := by
  have hc : codeP m T [a] = 0 := by
    unfold ordPR at h
    split at h
    · exact h
    · rename_i h1; exact Classical.not_not.1 h1
  obtain ⟨law, k1, k2, nx, m1, hTl, hr, lc⟩ := pt_facts hc
  obtain ⟨M, rfl⟩ := Int.eq_ofNat_of_zero_le hm
  have hs : ¬ 1000000000000 < sizeR M a.length 1000000000000 := by
    unfold ordPR at h
    rw [if_neg (not_not_intro hc)] at h
    split at h
    · simp at h
    · rename_i h1; simpa using h1
  have hsz : M ^ a.length ≤ 1000000000000 := by
    unfold sizeR at hs
    split at hs
    · assumption
    · omega
  have cx := cv_cons (m := (M : Int)) (D := a.length) (by omega) rfl nx
  have hpos : 0 < M ^ a.length := Nat.pow_pos (by omega)
  have q2 : ∀ q ∈ prL M, 2 ≤ q := by
    intro q hq
    unfold prL at hq
    split at hq
    · rename_i hx
      exact ((((Classical.choose_spec hx).2 q).1 hq).1).1
    · simp at hq
  have ho := ordF_all (K := KillP (M : Int) T a) q2 (M ^ a.length) hpos
  have hk0 : KillP (M : Int) T a (M ^ a.length) := by
    unfold KillP
    have := lc.kill cx
    rw [← this]
    congr 1
  obtain ⟨h1, h2, h3⟩ := ho
  have e : (ordPR (M : Int) T a).1 = (ordF (KillP (M : Int) T a) (prL M) (M ^ a.length) : Nat) := by
    unfold ordPR
    rw [if_neg (not_not_intro hc), if_neg (by simpa using hs)]
    simp
  refine ⟨M, _, rfl, e, h1, h2, hsz, by omega, by omega, ?_⟩
  have hle : ordF (KillP (M : Int) T a) (prL M) (M ^ a.length) ≤ 1000000000000 := Nat.le_trans (Nat.le_of_dvd hpos h2) hsz
  have hk := h3 hk0
  generalize ordF (KillP (M : Int) T a) (prL M) (M ^ a.length) = O at hk hle ⊢
  unfold KillP at hk
  unfold mulPR
  rw [if_neg (not_not_intro hc), if_neg (not_not_intro (by omega)), hk]

theorem sum_comm {m : Int} {T : List (List Int)} {x y : List Int} (h : codeP m T [x, y] = 0) : sumPR m T y x = sumPR m T x y := by
  obtain ⟨h1, h2⟩ := codeP_one h
  obtain ⟨law, k1, k2, nx, m1, hTl, hr, lc⟩ := pt_facts h
  obtain ⟨hyx, ny⟩ := pt_facts2 h
  have cx := cv_cons (m := m) (D := x.length) (by omega) rfl nx
  have cy := cv_cons (m := m) (D := x.length) (by omega) hyx ny
  unfold sumPR
  rw [if_neg (not_not_intro h), if_neg (not_not_intro h2), hyx, lc.pcomm cy cx]

theorem cut_ml (D : Nat) : cutT D (mlT D 1) = mlT D 1 := eq_of_gt2 (D := D) (by simp) (by simp) (fun i hi => by rw [row_cutT hi]; simp) (fun i hi => by rw [row_mlT hi]; simp) fun i j h => gt2_cutT h
/-- Points of the multiplicative law. -/
theorem ml_sum {m : Int} {T : List (List Int)} {x y : List Int} (h : codeP m T [x, y] = 0) : sumPR m (mlT x.length 1) x y = ((putL m x.length (mlT x.length 1) (0 :: x) (0 :: y)).tail, 0) := by
  obtain ⟨law, k1, k2, nx, m1, hTl, hr, lc⟩ := pt_facts h
  obtain ⟨hyx, ny⟩ := pt_facts2 h
  have lm := law_ml (m := m) (c := 1) (D := x.length) m1.1 k1 (by omega)
  have hl : LawT m (mlT x.length 1) := ⟨⟨m1, by simp; omega, fun i hi => by have := lm.rows i (by simpa using hi); rw [mlT_len]; exact this⟩, by rw [mlT_len]; exact lm.ax⟩
  have hc : codeP m (mlT x.length 1) [x, y] = 0 := codeP_ok hl fun i hi => by
    simp at hi
    rcases Nat.eq_zero_or_pos i with h0 | h0
    · subst h0; exact ⟨⟨k1, by simp; exact Nat.le_refl _⟩, rfl, nx⟩
    · rw [show i = 1 by omega]; exact ⟨⟨k1, by simp; exact Nat.le_refl _⟩, hyx, ny⟩
  unfold sumPR
  rw [if_neg (not_not_intro hc), cut_ml]
end XM

/- The points that are drawn. -/
namespace XM
open Go

theorem OT.hx {lo o : Nat} {h h' : Hp} {b : Nat} {rb : Nat → Nat} {T : List (List Int)} (t : OT lo h b rb T) (x : HX o h h') (ho : o < lo) : OT lo h' b rb T :=
  ⟨t.lob, Nat.lt_of_lt_of_le t.ltb x.nx, x.to t.top t.ltb (by have := t.lob; omega), t.lor, fun i hi => Nat.lt_of_lt_of_le (t.ltr i hi) x.nx, t.ne, fun i hi => x.to (t.rows i hi) (t.ltr i hi) (by have := t.lor i hi; omega), t.inj⟩

theorem OT.updD {lo o : Nat} {x : Option Blk} {h h' : Hp} {b : Nat} {rb : Nat → Nat} {T : List (List Int)} (t : OT lo h b rb T) (u : Upd o x h h') (ho : o < lo) : OT lo h' b rb T := t.hx u.hx ho

theorem OT.push2 {lo : Nat} {h h2 : Hp} {b b' r n : Nat} {rb : Nat → Nat} {T : List (List Int)} {xs : List Int} (t : OT lo h b rb T) (hr : lo ≤ r) (hr3 : r < h.nx) (hrb : r ≠ b) (hri : ∀ i, i < T.length → rb i ≠ r) (hn : n = xs.length)
    (hrow : h.bk r = some ⟨mapI xs, y_t_int64, true⟩) (u : App b b' ⟨hdr rb T ++ [.slice (some ⟨r, 0, none⟩) n 1], y_t_Lint64, true⟩ h h2) :
    OT lo h2 b' (fun i => if i < T.length then rb i else r) (T ++ [xs]) := by
  have ge := u.ge; have lt := u.lt
  have hrb' : ∀ i, i < T.length + 1 → (if i < T.length then rb i else r) < h.nx := fun i hi => by split <;> rename_i h3; exact t.ltr i h3; exact hr3
  have hnb : ∀ i, i < T.length + 1 → (if i < T.length then rb i else r) ≠ b := fun i hi => by
    split <;> rename_i h3
    · exact t.ne i h3
    · exact hrb
  refine ⟨by have := t.lob; have := t.ltb; omega, lt, ?_, ?_, ?_, ?_, ?_, ?_⟩
  · rw [u.bk]
    congr 2
    unfold hdr
    rw [List.length_append, List.length_singleton, List.range_succ, List.map_append]
    congr 1
    · refine List.map_congr_left fun i hi => ?_
      have hi : i < T.length := by simpa using hi
      simp [hi, row_app]
    · simp [row_app, hn]
  · intro i hi
    simp only [List.length_append, List.length_singleton] at hi
    split <;> rename_i h3
    · exact t.lor i h3
    · exact hr
  · intro i hi
    simp only [List.length_append, List.length_singleton] at hi
    have := hrb' i hi; omega
  · intro i hi
    simp only [List.length_append, List.length_singleton] at hi
    have := hrb' i hi; omega
  · intro i hi
    simp only [List.length_append, List.length_singleton] at hi
    rw [u.ot _ (hrb' i hi) (hnb i hi), row_app]
    by_cases h3 : i < T.length
    · simp only [h3, if_true]; exact t.rows i h3
    · simp only [h3, if_false, if_pos (show i = T.length by omega)]; exact hrow
  · intro i j hi hj hij
    simp only [List.length_append, List.length_singleton] at hi hj
    by_cases h3 : i < T.length <;> by_cases h4 : j < T.length
    · simp only [h3, h4, if_true] at hij; exact t.inj i j h3 h4 hij
    · simp only [h3, h4, if_true, if_false] at hij; exact absurd hij (hri i h3)
    · simp only [h3, h4, if_true, if_false] at hij; exact absurd hij.symm (hri j h4)
    · omega

/-- The points that are drawn have some length. -/
def PtsOk (L : List (List Int)) : Prop := ∀ x ∈ L, 1 ≤ x.length ∧ x.length ≤ 13

set_option maxHeartbeats 1000000 in
theorem s_spec_l16Draw {A : Option Addr} {n c N : Nat} {vs : List Value} {h : Hp} {R : Value → Hp → Prop} (hr : RV h A vs) (hn : n = vs.length) (hl : n ≤ 1000000000000) (hb : Bytes vs) (hN : N ≤ 100)
    (hR : ∀ v b rb L h', HE h h' → PlR (msk h' fun x => x < h.nx) v → OT h.nx h' b rb L → L.length = N → PtsOk L → R (.tuple #[v, .slice (some ⟨b, 0, none⟩) N 1]) h') : CallW FF n_spec_l16Draw [.slice A n c, i6 (N : Int)] h R := by
  refine w_spec_l16Draw ?_
  unfold p_spec_l16Draw
  simp only [boxV_is, bindO_some, rowV_nil]
  refine newB_i fun b4 h1 eb en eh eB => ?_
  refine s_spec_l01From (hr.mono eh) hn hl hb fun bs h2 e2 hbs s2 => ?_
  refine s_spec_l04Spoil s2 fun v h3 x3 s3 p3 => ?_
  have n2 := e2.nx; have n3 := x3.nx; have l2 := s2.lt
  have E3 : HE h h3 := x3.out (eh.trans e2) (by omega)
  have B4 := x3.to (e2.to eB (by omega)) (by omega) (by omega)
  refine newB_i fun b15 h4 eb4 en4 eh4 eB4 => ?_
  refine newB_i fun b7 h5 eb5 en5 eh5 eB5 => ?_
  obtain ⟨m, AT, cT, Rr, T, rfl, rT, hT1, hT2, hm1, hm2⟩ := p3
  refine storeBox2 eB5 rfl rfl rfl rfl fun h6 u6 => ?_
  have n6 := u6.nx
  have E36 : HE h3 h6 := u6.he (eh4.trans eh5) (by omega)
  have s6 : Src h6 bs := s3.he E36
  have O6 : OT h3.nx h6 b15 (fun _ => 0) [] := OT.nil _ (by omega) (by omega) (u6.to (eh5.to eB4 (by omega)) (by omega))
  have B46 := E36.to B4 (by omega)
  simp only [fieldAddr_ptr, Nat.zero_add, box2 u6.bk, bindO_some, len_slice, bin_sub, wrapI (n := (T.length : Int) - 1) (by omega) (by omega)]
  refine s_spec_l01Next s6 (by omega) fun r h7 x7 n7 s7 hr0 hr1 => ?_
  have hrb : 0 ≤ r ∧ r ≤ 10 := by
    by_cases h1 : (T.length : Int) - 1 < 1
    · have := hr0 h1; omega
    · have := hr1 (by omega); omega
  obtain ⟨q, rfl⟩ := Int.eq_ofNat_of_zero_le hrb.1
  have hkk : (1 : Int) + (q : Int) = ((1 + q : Nat) : Int) := by omega
  simp only [bin_add, hkk, wrapI (n := ((1 + q : Nat) : Int)) (by omega) (by omega), bindO_some]
  generalize hkkE : 1 + q = kk
  have hkk1 : 1 ≤ kk ∧ kk ≤ 11 := by omega
  have O7 := O6.hx x7 (by omega)
  have X37 : HX bs h3 h7 := (E36.hx bs).trans x7
  refine LP1 (fun d vs h' => ∃ (k b : Nat) (rb : Nat → Nat) (L : List (List Int)), k = d ∧ k ≤ N ∧ L.length = N - k ∧ PtsOk L ∧ vs = [i6 (k : Int), .pointer (some ⟨b4, 0, none⟩), .pointer (some ⟨bs, 0, none⟩), .pointer (some ⟨b7, 0, none⟩), .slice (some ⟨b, 0, none⟩) (N - k) 1, i6 (kk : Int)] ∧ HX bs h3 h' ∧ h6.nx ≤ h'.nx ∧ h'.bk b7 = h6.bk b7 ∧ Src h' bs ∧ OT h3.nx h' b rb L ∧ b7 ≠ b) ?_ _ _ _
    ⟨N, b15, _, [], rfl, by omega, by simp, fun e he => (by cases he), by simp, X37, by omega, x7.bk b7 (by omega) (by omega), s7, O7, by omega⟩
  rintro d ws hI ⟨k, bL, rb, L, rfl, hk, hL, hok, rfl, xI, n6I, b7I, sI, OI, hne⟩ K K1 hK hK1
  refine wl_spec_l16Draw_1 ?_
  have nI := xI.nx
  have B7 := b7I.trans u6.bk
  have B4I := xI.to B4 (by omega) (by omega)
  have obL := OI.lob; have otL := OI.ltb
  by_cases g : 0 < k
  case neg =>
    have : k = 0 := by omega
    subst this
    have g' : ¬ (0 : Int) < ((0 : Nat) : Int) := by omega
    simp only [q_spec_l16Draw_1, bin_gtr, g', decide_false, bindO_some, condM_false]
    refine hK1 _ _ fun ev hev => ?_
    simp only [List.cons.injEq, and_true] at hev
    obtain ⟨g4, g7, g8⟩ := hev
    simp only [g4, g7, g8, box2 B7, bindO_some]
    refine storeBox2 B4I rfl rfl rfl rfl fun hF uF => ?_
    simp only [box2 uF.bk, bindO_some]
    have nF := uF.nx
    have HF : HE h hF := uF.he ((x3.trans xI).out (eh.trans e2) (by omega)) (by omega)
    have OF := (OI.updD uF (by omega)).lower (lo' := h.nx) (by omega)
    refine hR _ bL rb L hF HF ⟨m, AT, cT, Rr, T, rfl, rT.mos (msk_to (by omega) fun b hb hx => ?_), hT1, hT2, hm1, hm2⟩ OF hL hok
    refine ⟨?_, by omega⟩
    rw [uF.ot b (by omega), xI.bk b hb (by omega)]
  have g' : (0 : Int) < (k : Int) := by omega
  simp only [q_spec_l16Draw_1, bin_gtr, g', decide_true, condM_true, bindO_some, rowV_nil]
  refine newB_i fun p0 h8 eb8 en8 eh8 eB8 => ?_
  have lI := sI.lt
  -- the end of a round
  have fin : ∀ (hx : Hp) (p : Nat) (xs : List Int) (l : Nat), HX bs hI hx → Src hx bs → l = xs.length → 1 ≤ l → l ≤ 13 → hI.nx ≤ p → p < hx.nx → hx.bk p = some ⟨mapI xs, y_t_int64, true⟩ →
      newB hx ⟨[.slice (some ⟨p, 0, none⟩) l 1], y_t_Lint64, true⟩ fun b52 h6 => bindVH (appendV y_t_Lint64 1 h6 (.slice (some ⟨bL, 0, none⟩) (N - k) 1) (.slice (some ⟨b52, 0, none⟩) 1 1)) fun v53 h7 => bindO (binV .sub (i6 (k : Int)) (.int .i64 1)) fun v26 => K [v26, .pointer (some ⟨b4, 0, none⟩), .pointer (some ⟨bs, 0, none⟩), .pointer (some ⟨b7, 0, none⟩), v53, i6 (kk : Int)] h7 := by
    intro hx p xs l xx sx hlx hl1 hl13 hp1 hp2 hpb
    have nx := xx.nx
    have Ox := OI.hx xx (by omega)
    refine push1 Ox.top Ox.ltb (by simp [hL]) (by unfold sizeMax; omega) fun bN hN u => ?_
    have ge := u.ge; have lt := u.lt
    have wk : IntKind.i64.wrap ((k : Int) - 1) = ((k - 1 : Nat) : Int) := by rw [wrapI] <;> omega
    simp only [bin_sub, wk, bindO_some]
    have ON := Ox.push2 (xs := xs) (n := l) (by omega) hp2 (by omega) (fun i hi => by have := OI.ltr i hi; omega) hlx hpb u
    refine hK _ _ _ (show k - 1 < k by omega) ⟨k - 1, bN, _, L ++ [xs], rfl, by omega, by simp [hL]; omega, ?_, by rw [show N - k + 1 = N - (k - 1) by omega], ⟨by omega, fun c hc hne => ?_⟩, by omega, ?_, sx.keep (by omega) fun c hc => u.ot c (by omega) (by omega), ON, by omega⟩
    · intro e he
      rcases List.mem_append.1 he with he | he
      · exact hok e he
      · rw [List.mem_singleton.1 he]; omega
    · rw [u.ot c (by omega) (by omega), xx.bk c (by omega) hne, xI.bk c hc hne]
    · rw [u.ot b7 (by omega) (by omega), xx.bk b7 (by omega) (by omega)]; exact b7I
  refine LP1 (fun d vs h' => ∃ (p : Nat) (xs : List Int), d = kk - xs.length ∧ xs.length ≤ kk ∧ vs = [i6 (k : Int), .pointer (some ⟨b4, 0, none⟩), .pointer (some ⟨bs, 0, none⟩), .pointer (some ⟨b7, 0, none⟩), .slice (some ⟨bL, 0, none⟩) (N - k) 1, i6 (kk : Int), .slice (some ⟨p, 0, none⟩) xs.length 1] ∧
     HX bs hI h' ∧ Src h' bs ∧ hI.nx ≤ p ∧ p < h'.nx ∧ h'.bk p = some ⟨mapI xs, y_t_int64, true⟩) ?_ _ _ _
    ⟨p0, [], rfl, by simp, rfl, eh8.hx bs, sI.he eh8, by omega, by omega, eB8⟩
  rintro d ws hJ ⟨p, xs, rfl, hxl, rfl, xJ, sJ, hp1, hp2, hpb⟩ K2 K3 hK2 hK3
  refine wl_spec_l16Draw_0 ?_
  have nJ := xJ.nx
  have B7J := xJ.to B7 (by omega) (by omega)
  by_cases gi : xs.length < kk
  · have gi' : (xs.length : Int) < (kk : Int) := by omega
    have mx : mxV (.int .i64 1) (i6 m) = some (i6 m) := by
      rw [mx_int]; congr 2; split <;> omega
    simp only [q_spec_l16Draw_0, len_slice, bindO_some, bin_lss, gi', decide_true, condM_true]
    refine ⟨fun b => b = b7, fun b hb => by omega, ?_⟩
    simp only [fieldAddr_ptr, Nat.zero_add, bindO_some, box2 B7J, mx]
    refine ⟨rfl, ?_⟩
    refine s_spec_l01Next sJ (by omega) fun r1 hQ xQ nQ sQ _ hrQ => ⟨fun b hb => xQ.bk b (by omega) (by omega), ?_⟩
    obtain ⟨c0, c1⟩ := hrQ (by omega)
    obtain ⟨w, rfl⟩ := Int.eq_ofNat_of_zero_le c0
    have qd : binV .quo (i6 (w : Int)) (.int .i64 199) = some (i6 ((w / 199 : Nat) : Int)) := quoN (n := w) (q := 199) (by omega) (by omega)
    have hw : w / 199 ≤ 1 := by omega
    generalize w / 199 = z at qd hw
    simp only [qd, bindO_some, bin_add, wrapI (n := m + (z : Int)) (by omega) (by omega)]
    refine s_spec_l01Next sQ (by omega) fun r2 hS xS nS sS _ _ => ?_
    have xQS := xQ.trans xS
    simp only [rowV_int, bindO_some]
    refine pushI (xs := xs) (xQS.to hpb hp2 (by omega)) (by omega) rfl (by unfold sizeMax; omega) fun p' hU u => ?_
    have gU := u.ge; have tU := u.lt
    refine hK2 _ _ _ (show kk - (xs ++ [r2]).length < kk - xs.length by rw [List.length_append, List.length_singleton]; omega) ⟨p', xs ++ [r2], rfl, by simp; omega, by simp, ⟨by omega, fun c hc hne => ?_⟩, sS.keep (by omega) fun c hc => u.ot c (by have := sS.lt; omega) (by omega), by omega, by omega, u.bk⟩
    rw [u.ot c (by omega) (by omega), xQS.bk c (by omega) hne, xJ.bk c hc hne]
  · have gi' : ¬ (xs.length : Int) < (kk : Int) := by omega
    simp only [q_spec_l16Draw_0, len_slice, bindO_some, bin_lss, gi', decide_false, condM_false]
    refine hK3 _ _ fun ev hev => ?_
    simp only [List.cons.injEq, and_true] at hev
    obtain ⟨g1, g4, g6, g7, g8, g9, g10⟩ := hev
    simp only [g1, g4, g6, g7, g8, g9, g10]
    refine s_spec_l01Next sJ (by omega) fun r1 hQ xQ nQ sQ _ _ => ?_
    have xJQ := xJ.trans xQ
    have hpQ := xQ.to hpb hp2 (by omega)
    simp only [bin_eql, bindO_some]
    by_cases c0 : r1 = 0
    · simp only [c0, decide_true, condM_true, rowV_int, bindO_some]
      refine pushI (xs := xs) hpQ (by omega) rfl (by unfold sizeMax; omega) fun p' hS uS => ?_
      have gS := uS.ge; have tS := uS.lt
      simp only [rowV_slice, bindO_some]
      exact fin hS p' (xs ++ [0]) (xs.length + 1) ⟨by omega, fun c hc hne => by rw [uS.ot c (by omega) (by omega), xJQ.bk c hc hne]⟩ (sQ.keep (by omega) fun c hc => uS.ot c (by have := sQ.lt; omega) (by omega)) (by simp) (by omega) (by omega) (by omega) (by omega) uS.bk
    · simp only [c0, decide_false, condM_false, rowV_slice, bindO_some]
      exact fin hQ p xs xs.length xJQ sQ rfl (by omega) (by omega) hp1 (by omega) hpQ

theorem PlR.ms {h h' : Hp} {P : Nat → Prop} [DecidablePred P] {v : Value} (p : PlR (msk h P) v) (hn : h.nx ≤ h'.nx) (hk : ∀ b, b < h.nx → ¬ P b → h'.bk b = h.bk b) : PlR h' v := by
  obtain ⟨m, A, c, Rr, T, h1, h2, h3⟩ := p
  refine ⟨m, A, c, Rr, T, h1, h2.mos ⟨by simpa using hn, fun b x hb hx => ?_⟩, h3⟩
  obtain ⟨g1, g2⟩ := msk_some hx
  exact (hk b (by simpa using hb) g1).trans g2

theorem ex2 (a b : Value) : extractV 0 (.tuple #[a, b]) = some a ∧ extractV 1 (.tuple #[a, b]) = some b := ⟨rfl, rfl⟩
theorem ex3 (a b c : Value) : extractV 0 (.tuple #[a, b, c]) = some a ∧ extractV 1 (.tuple #[a, b, c]) = some b ∧ extractV 2 (.tuple #[a, b, c]) = some c := ⟨rfl, rfl, rfl⟩
theorem PtsOk.at {L : List (List Int)} (h : PtsOk L) {i : Nat} (hi : i < L.length) : 1 ≤ (row L i).length ∧ (row L i).length ≤ 13 := by
  have e : row L i = L[i] := by simp [row, List.getD_eq_getElem?_getD, hi]
  rw [e]; exact h _ (List.getElem_mem hi)

theorem s_spec_DrawSumOfPoints {A : Option Addr} {n c : Nat} {vs : List Value} {h : Hp} {R : Value → Hp → Prop} (hr : RV h A vs) (hn : n = vs.length) (hl : n ≤ 1000000000000) (hb : Bytes vs)
    (hR : ∀ v B C x y h', HE h h' → PlR h' v → RI h' B x → RI h' C y → 1 ≤ x.length ∧ x.length ≤ 13 → 1 ≤ y.length ∧ y.length ≤ 13 → R (.tuple #[v, .slice B x.length 1, .slice C y.length 1]) h') : CallW FF n_spec_DrawSumOfPoints [.slice A n c] h R := by
  refine w_spec_DrawSumOfPoints ?_
  unfold p_spec_DrawSumOfPoints
  simp only [boxV_is, bindO_some]
  refine newB_i fun b2 h1 eb en eh eB => ?_
  refine s_spec_l16Draw (N := 2) (hr.mono eh) hn hl hb (by omega) fun v b rb L h2 e2 p2 o2 hL hok => ?_
  obtain ⟨m, AT, cT, Rr, T, rfl, pl⟩ := id p2
  have n2 := e2.nx
  simp only [ex2, bindO_some]
  refine newB_i fun b5 h3 eb3 en3 eh3 eB3 => ?_
  refine storeBox2 eB3 rfl rfl rfl rfl fun h4 u4 => ?_
  have n4 := u4.nx
  have e24 : HE h2 h4 := u4.he eh3 (by omega)
  have o4 := o2.mono e24
  have lob := o2.lob; have ltb := o2.ltb
  have r0 := o4.rt.at 1 (e := 0) (i := 0) (n := 2) rfl hL.symm (by omega)
  have r1 := o4.rt.at 1 (e := 1) (i := 1) (n := 2) rfl hL.symm (by omega)
  refine ⟨fun b' => b' = b, fun b' hb' => by omega, ?_⟩
  simp only [box2 u4.bk, r0, r1, bindO_some]
  refine ⟨rfl, rfl, ?_⟩
  refine storeBox2 (e24.to (e2.to eB (by omega)) (by omega)) rfl rfl rfl rfl fun h5 u5 => ⟨fun b' hb' => u5.ot b' (by omega), ?_⟩
  have n5 := u5.nx
  simp only [box2 u5.bk, bindO_some]
  have hE : HE h h5 := u5.he ((eh.trans e2).trans e24) (by omega)
  have o5 := o4.updD u5 (by omega)
  exact hR _ _ _ (row L 0) (row L 1) _ hE (p2.ms (by omega) fun b' hb' hn' => by rw [u5.ot b' (by omega), e24.bk b' hb']) (o5.rt.rows 0 (by omega)) (o5.rt.rows 1 (by omega)) (hok.at (by omega)) (hok.at (by omega))

theorem s_spec_DrawOppositePoint {A : Option Addr} {n c : Nat} {vs : List Value} {h : Hp} {R : Value → Hp → Prop} (hr : RV h A vs) (hn : n = vs.length) (hl : n ≤ 1000000000000) (hb : Bytes vs)
    (hR : ∀ v B x h', HE h h' → PlR h' v → RI h' B x → 1 ≤ x.length ∧ x.length ≤ 13 → R (.tuple #[v, .slice B x.length 1]) h') : CallW FF n_spec_DrawOppositePoint [.slice A n c] h R := by
  refine w_spec_DrawOppositePoint ?_
  unfold p_spec_DrawOppositePoint
  simp only [boxV_is, bindO_some]
  refine newB_i fun b2 h1 eb en eh eB => ?_
  refine s_spec_l16Draw (N := 1) (hr.mono eh) hn hl hb (by omega) fun v b rb L h2 e2 p2 o2 hL hok => ?_
  obtain ⟨m, AT, cT, Rr, T, rfl, pl⟩ := id p2
  have n2 := e2.nx
  simp only [ex2, bindO_some]
  refine newB_i fun b5 h3 eb3 en3 eh3 eB3 => ?_
  refine storeBox2 eB3 rfl rfl rfl rfl fun h4 u4 => ?_
  have n4 := u4.nx
  have e24 : HE h2 h4 := u4.he eh3 (by omega)
  have o4 := o2.mono e24
  have lob := o2.lob; have ltb := o2.ltb
  have r0 := o4.rt.at 1 (e := 0) (i := 0) (n := 1) rfl hL.symm (by omega)
  refine ⟨fun b' => b' = b, fun b' hb' => by omega, ?_⟩
  simp only [box2 u4.bk, r0, bindO_some]
  refine ⟨rfl, ?_⟩
  refine storeBox2 (e24.to (e2.to eB (by omega)) (by omega)) rfl rfl rfl rfl fun h5 u5 => ⟨fun b' hb' => u5.ot b' (by omega), ?_⟩
  have n5 := u5.nx
  simp only [box2 u5.bk, bindO_some]
  have hE : HE h h5 := u5.he ((eh.trans e2).trans e24) (by omega)
  have o5 := o4.updD u5 (by omega)
  exact hR _ _ (row L 0) _ hE (p2.ms (by omega) fun b' hb' hn' => by rw [u5.ot b' (by omega), e24.bk b' hb']) (o5.rt.rows 0 (by omega)) (hok.at (by omega))

theorem s_spec_DrawMultipleOfPoint {A : Option Addr} {n c : Nat} {vs : List Value} {h : Hp} {R : Value → Hp → Prop} (hr : RV h A vs) (hn : n = vs.length) (hl : n ≤ 1000000000000) (hb : Bytes vs)
    (hR : ∀ v k B x h', HE h h' → PlR h' v → RI h' B x → 1 ≤ x.length ∧ x.length ≤ 13 → R (.tuple #[v, i6 k, .slice B x.length 1]) h') : CallW FF n_spec_DrawMultipleOfPoint [.slice A n c] h R := by
  refine w_spec_DrawMultipleOfPoint ?_
  unfold p_spec_DrawMultipleOfPoint
  simp only [boxV_is, bindO_some]
  refine newB_i fun b2 h1 eb en eh eB => ?_
  refine s_spec_l01From (hr.mono eh) hn hl hb fun bs h2 e2 hbs s2 => ?_
  have l2 := s2.lt; have n2 := e2.nx
  refine s_spec_l16Draw (N := 1) (hr.mono (eh.trans e2)) hn hl hb (by omega) fun v b rb L h3 e3 p3 o3 hL hok => ?_
  obtain ⟨m, AT, cT, Rr, T, rfl, pl⟩ := id p3
  have n3 := e3.nx
  simp only [ex2, bindO_some]
  refine newB_i fun b6 h4 eb4 en4 eh4 eB4 => ?_
  refine storeBox2 eB4 rfl rfl rfl rfl fun h5 u5 => ?_
  have n5 := u5.nx
  have e35 : HE h3 h5 := u5.he eh4 (by omega)
  have lob := o3.lob; have ltb := o3.ltb
  have s5 : Src h5 bs := (s2.he e3).he e35
  refine ⟨fun b' => b' = b6 ∨ b' = b, fun b' hb' => by omega, ?_⟩
  simp only [box2 u5.bk, bindO_some]
  refine ⟨.inl rfl, ?_⟩
  have r8 : rowV 1 8 [.int .i64 0] [(0, .int .i64 0), (1, .int .i64 1), (2, .int .i64 (-1)), (3, .int .i64 2), (4, .int .i64 6), (5, .int .i64 1000000007), (6, .int .i64 1000000000000), (7, .int .i64 (-1000000000001))] = some (mapI [0, 1, -1, 2, 6, 1000000007, 1000000000000, -1000000000001]) := by simp [rowV, rowFill, reps, mapI]
  simp only [r8, bindO_some]
  refine newB_i fun b17 h6 eb6 en6 eh6 eB6 => ?_
  refine s_spec_l01Pick (xs := [0, 1, -1, 2, 6, 1000000007, 1000000000000, -1000000000001]) (s5.he eh6) (msk_new (h := h6) (by omega) (by omega) eB6) rfl (by omega) (by omega) fun q h7 x7 n7 s7 hq => ⟨fun b' hb' => x7.bk b' (by omega) (by omega), ?_⟩
  have X57 : HX bs h5 h7 := (eh6.hx bs).trans x7
  have o7 := (o3.mono e35).hx X57 (by omega)
  have r0 := o7.rt.at 1 (e := 0) (i := 0) (n := 1) rfl hL.symm (by omega)
  simp only [r0, bindO_some]
  refine ⟨.inr rfl, ?_⟩
  refine storeBox2 (X57.to (e35.to ((e2.trans e3).to eB (by omega)) (by omega)) (by omega) (by omega)) rfl rfl rfl rfl fun h8 u8 => ⟨fun b' hb' => u8.ot b' (by omega), ?_⟩
  have n8 := u8.nx
  simp only [box2 u8.bk, bindO_some]
  have hE : HE h h8 := u8.he (X57.out (((eh.trans e2).trans e3).trans e35) (by omega)) (by omega)
  have o8 := o7.updD u8 (by omega)
  have n57 := X57.nx
  exact hR _ q _ (row L 0) _ hE (p3.ms (by omega) fun b' hb' hn' => by rw [u8.ot b' (by omega), X57.bk b' (by omega) (by omega), e35.bk b' hb']) (o8.rt.rows 0 (by omega)) (hok.at (by omega))
end XM

/- FnPointSums: a call of it comes to true. -/
namespace XM
open Go

theorem sumPR_len {m : Int} {T : List (List Int)} {x y : List Int} (h : x.length ≤ 13) : (sumPR m T x y).1.length ≤ 1000000 := by
  unfold sumPR; split
  · simp
  · simp; omega
theorem mulPR_len {m n : Int} {T : List (List Int)} {x : List Int} (h : x.length ≤ 13) : (mulPR m T n x).1.length ≤ 1000000 := by
  unfold mulPR; split
  · simp
  · split
    · simp
    · show (mulN m x.length (cutT x.length T) n (0 :: x)).tail.length ≤ 1000000
      rw [List.length_tail, mulN_len]; omega
theorem sumPR_bad {m : Int} {T : List (List Int)} {x y : List Int} (h : (sumPR m T x y).2 ≠ 0) : (sumPR m T x y).1 = [] := by
  unfold sumPR at h ⊢; split
  · rfl
  · rename_i h1; rw [if_neg h1] at h; simp at h
theorem sumPR_good {m : Int} {T : List (List Int)} {x y : List Int} (h : (sumPR m T x y).2 = 0) : codeP m T [x, y] = 0 := by
  unfold sumPR at h; split at h
  · exact h
  · rename_i h1; exact Classical.not_not.1 h1
theorem fill2 (a : Int) (A : Option Addr) (n c : Nat) : (fillX [.int .i64 0, .slice none 0 0] [(0, 1, i6 a), (1, 1, .slice A n c)]).map (fun cs => Value.agg cs.toArray) = some (sv a A n c) := by simp [fillX]

set_option maxHeartbeats 2000000 in
theorem s_laws_FnPointSums {CA : Option Addr} {n c : Nat} {vs : List Value} {h : Hp} {R : Value → Hp → Prop} (hr : RV h CA vs) (hn : n = vs.length) (hb : Bytes vs) (hR : ∀ h', HE h h' → R (.bool true) h') : CallW FF n_laws_FnPointSums [.slice CA n c] h R := by
  refine w_laws_FnPointSums ?_
  unfold p_laws_FnPointSums
  refine s_laws_big ?_
  by_cases hbig : 4096 < n
  · rw [decide_eq_true hbig, condM_true]; exact hR _ (HE.refl _)
  rw [decide_eq_false hbig, condM_false]
  have hl : n ≤ 1000000000000 := by omega
  -- sums
  refine s_spec_DrawSumOfPoints hr hn hl hb fun v B C x y h2 e2 p2 rx ry lx ly => ?_
  obtain ⟨m, A, cT, Rr, T, rfl, rT, hT1, hT2, hm1, hm2⟩ := p2
  have rl : ∀ i, i < T.length → (row T i).length ≤ 1000000 := fun i hi => by have := hT2 i hi; omega
  simp only [ex30, ex31, ex32, bindO_some, boxV_is]
  refine boxS fun b3 h4 hb3 lb3 e4 B3 => ?_
  simp only [box2 B3, bindO_some]
  refine s_impl_SumOfPoints (rT.mono e4) (rx.mono e4) (ry.mono e4) rfl rfl rfl (by omega) rl (by omega) (by omega) (by omega) fun v h5 e5 l5 => ?_
  obtain ⟨A1, c1, rfl, r1, q1⟩ := l5
  simp only [ex0, ex1, bindO_some, box2 (e5.to B3 lb3)]
  have e45 := e4.trans e5
  refine s_spec_SumOfPoints (rT.mono e45) (rx.mono e45) (ry.mono e45) rfl rfl rfl (by omega) rl (by omega) (by omega) (by omega) fun v h6 e6 l6 => ?_
  obtain ⟨A2, c2, rfl, r2, q2⟩ := l6
  simp only [ex0, ex1, bindO_some, bin_neq, decide_true, Bool.not_true, condM_false]
  refine s_laws_likeInts (r1.mono e6) r2 rfl rfl (sumPR_len lx.2) ?_
  simp only [decide_true, un_not, Bool.not_true, bindO_some, condM_false]
  have E6 := (e2.trans e45).trans e6
  -- opposites
  refine s_spec_DrawOppositePoint (hr.mono E6) hn hl hb fun v D a h8 e8 p8 ra la => ?_
  obtain ⟨m2, F, cF, Rf, S, rfl, rS, hS1, hS2, hm3, hm4⟩ := p8
  have rlS : ∀ i, i < S.length → (row S i).length ≤ 1000000 := fun i hi => by have := hS2 i hi; omega
  simp only [ex0, ex1, bindO_some, boxV_is]
  refine boxS fun b10 h10 hb10 lb10 e10 B10 => ?_
  simp only [box2 B10, bindO_some]
  refine s_impl_OppositePoint (rS.mono e10) (ra.mono e10) rfl rfl (by omega) rlS (by omega) (by omega) fun v h11 e11 l11 => ?_
  obtain ⟨A3, c3, rfl, r3, q3⟩ := l11
  simp only [ex0, ex1, bindO_some, box2 (e11.to B10 lb10)]
  have e1011 := e10.trans e11
  refine s_spec_OppositePoint (rS.mono e1011) (ra.mono e1011) rfl rfl (by omega) rlS (by omega) (by omega) fun v h12 e12 l12 => ?_
  obtain ⟨A4, c4, rfl, r4, q4⟩ := l12
  simp only [ex0, ex1, bindO_some, bin_neq, decide_true, Bool.not_true, condM_false]
  refine s_laws_likeInts (r3.mono e12) r4 rfl rfl (mulPR_len la.2) ?_
  simp only [decide_true, un_not, Bool.not_true, bindO_some, condM_false]
  have e1112 := e11.trans e12
  simp only [box2 (e1112.to B10 lb10), bindO_some]
  have e1012 := e1011.trans e12
  refine s_impl_OrderOfPointUnder (rS.mono e1012) (ra.mono e1012) rfl rfl (by omega) rlS (by omega) (by omega) fun h14 e14 => ?_
  simp only [ex0, ex1, bindO_some, box2 ((e1112.trans e14).to B10 lb10)]
  refine s_spec_OrderOfPointUnder (rS.mono (e1012.trans e14)) (ra.mono (e1012.trans e14)) rfl rfl (by omega) rlS (by omega) (by omega) fun h15 e15 => ?_
  simp only [ex0, ex1, bindO_some, bin_neq, decide_true, Bool.not_true, condM_false]
  have e1015 := (e1112.trans e14).trans e15
  have E15 := ((E6.trans e8).trans e10).trans e1015
  -- multiples
  refine s_spec_DrawMultipleOfPoint (hr.mono E15) hn hl hb fun v k Dz z h16 e16 p16 rz lz => ?_
  obtain ⟨m3, G, cG, Rg, U, rfl, rU, hU1, hU2, hm5, hm6⟩ := p16
  have rlU : ∀ i, i < U.length → (row U i).length ≤ 1000000 := fun i hi => by have := hU2 i hi; omega
  simp only [ex30, ex31, ex32, bindO_some, boxV_is]
  refine boxS fun b20 h18 hb20 lb20 e18 B20 => ?_
  simp only [box2 B20, bindO_some]
  refine s_impl_MultipleOfPoint (rU.mono e18) (rz.mono e18) rfl rfl (by omega) rlU (by omega) (by omega) fun v h19 e19 l19 => ?_
  obtain ⟨A5, c5, rfl, r5, q5⟩ := l19
  simp only [ex0, ex1, bindO_some, box2 (e19.to B20 lb20)]
  have e1819 := e18.trans e19
  refine s_spec_MultipleOfPoint (rU.mono e1819) (rz.mono e1819) rfl rfl (by omega) rlU (by omega) (by omega) fun v h20 e20 l20 => ?_
  obtain ⟨A6, c6, rfl, r6, q6⟩ := l20
  simp only [ex0, ex1, bindO_some, bin_neq, decide_true, Bool.not_true, condM_false]
  refine s_laws_likeInts (r5.mono e20) r6 rfl rfl (mulPR_len lz.2) ?_
  simp only [decide_true, un_not, Bool.not_true, bindO_some, condM_false]
  have e1520 := (e16.trans e1819).trans e20
  have e1020 := e1015.trans e1520
  have e420 := (((e5.trans e6).trans e8).trans e10).trans e1020
  have B10 := e1020.to B10 lb10
  have B3 := e420.to B3 lb3
  have rT := rT.mono (e4.trans e420); have rx := rx.mono (e4.trans e420); have ry := ry.mono (e4.trans e420)
  have r1 := r1.mono (((e6.trans e8).trans e10).trans e1020)
  have rS := rS.mono (e10.trans e1020); have ra := ra.mono (e10.trans e1020)
  have r3 := r3.mono ((((e12.trans e14).trans e15).trans e1520))
  have E20 := E15.trans e1520
  have lb3' : b3 < h20.nx := Nat.lt_of_lt_of_le lb3 e420.nx
  have lb10' : b10 < h20.nx := Nat.lt_of_lt_of_le lb10 e1020.nx
  clear r2 r4 r5 r6 rU rz e4 e5 e6 e8 e10 e11 e12 e14 e15 e16 e18 e19 e20 e45 E6 e1011 e1112 e1012 e1015 e1819 e1520 e1020 e420 E15 e2 hb hr B20
  -- a point and its opposite
  refine ⟨fun ws h' => HE h20 h' ∧ ws = [.pointer (some ⟨b3, 0, none⟩), .slice B x.length 1, .slice C y.length 1, .slice A1 (sumPR m T x y).1.length c1, i6 (sumPR m T x y).2, .pointer (some ⟨b10, 0, none⟩), .slice D a.length 1, i6 (ordPR m2 S a).1, i6 (ordPR m2 S a).2], ?_, ?_⟩
  rotate_left
  · simp only [bin_eql, bindO_some]
    by_cases hc : (mulPR m2 S (-1) a).2 = 0
    case neg =>
      simp only [hc, decide_false, condM_false]
      exact ⟨HE.refl _, trivial⟩
    simp only [hc, decide_true, condM_true, box2 B10, bindO_some]
    have hop := opp_sum hc
    have lop : (mulPR m2 S (-1) a).1.length ≤ 1000000 := mulPR_len la.2
    have cop : c3 = 1 := by
      apply q3
      have hc' : codeP m2 S [a] = 0 := by
        unfold mulPR at hc; split at hc
        · exact hc
        · rename_i h1; exact Classical.not_not.1 h1
      have : (mulPR m2 S (-1) a).1 = (mulN m2 a.length (cutT a.length S) (-1) (0 :: a)).tail := by
        unfold mulPR; rw [if_neg (not_not_intro hc'), if_neg (not_not_intro (by omega))]
      rw [this, List.length_tail, mulN_len]; omega
    subst cop
    refine s_impl_SumOfPoints rS ra r3 rfl rfl rfl (by omega) rlS (by omega) (by omega) lop fun v h22 e22 l22 => ?_
    rw [hop] at l22 ⊢
    obtain ⟨Az, cz, rfl, rz, qz⟩ := l22
    simp only [ex0, ex1, bindO_some, bin_neq, decide_true, Bool.not_true, condM_false]
    have hzl : (zL a.length).tail.length = a.length := by simp [zL]
    refine LP2 (fun d ws h' => ∃ i : Nat, d = a.length - i ∧ i ≤ a.length ∧ h' = h22 ∧ ws = [.pointer (some ⟨b3, 0, none⟩), .slice B x.length 1, .slice C y.length 1, .slice A1 (sumPR m T x y).1.length c1, i6 (sumPR m T x y).2, .pointer (some ⟨b10, 0, none⟩), .slice D a.length 1, i6 (ordPR m2 S a).1, i6 (ordPR m2 S a).2, .slice Az (zL a.length).tail.length cz, i6 (i : Int)]) ?_ _ _ _ ⟨0, rfl, by omega, rfl, rfl⟩
    rintro d ws h23 ⟨i, rfl, hi, rfl, rfl⟩ K K1 K2 hK hK1 hK2
    refine wl_laws_FnPointSums_0 ?_
    by_cases hlt : i < a.length
    · have g : (i : Int) < ((zL a.length).tail.length : Int) := by omega
      have at_ := rz.at cz (e := i) (i := i) (n := (zL a.length).tail.length) rfl rfl (by rw [hzl]; exact hlt)
      rw [gt_ztail] at at_
      simp only [q_laws_FnPointSums_0, len_slice, bindO_some, bin_lss, g, decide_true, condM_true, at_, bin_neq, Bool.not_true, condM_false, bin_add, wrapI (n := (i : Int) + 1) (by omega) (by omega)]
      exact hK _ _ _ (by omega) ⟨i + 1, rfl, by omega, rfl, rfl⟩
    · have g : ¬ (i : Int) < ((zL a.length).tail.length : Int) := by omega
      simp only [q_laws_FnPointSums_0, len_slice, bindO_some, bin_lss, g, decide_false, condM_false]
      refine hK1 _ _ fun ev hev => ?_
      simp only [List.cons.injEq, and_true] at hev
      obtain ⟨g3, g4, g5, g6, g7, g10, g11, g16, g17⟩ := hev
      simp only [g3, g4, g5, g6, g7, g10, g11, g16, g17]
      exact ⟨e22, trivial⟩
  rintro ws h22 ⟨e22, rfl⟩ ev hev
  simp only [List.cons.injEq, and_true] at hev
  obtain ⟨g3, g4, g5, g6, g7, g10, g11, g16, g17⟩ := hev
  simp only [g3, g4, g5, g6, g7, g10, g11, g16, g17]
  clear g3 g4 g5 g6 g7 g10 g11 g16 g17
  -- the order kills
  refine ⟨fun ws h' => HE h20 h' ∧ ws = [.pointer (some ⟨b3, 0, none⟩), .slice B x.length 1, .slice C y.length 1, .slice A1 (sumPR m T x y).1.length c1, i6 (sumPR m T x y).2], ?_, ?_⟩
  rotate_left
  · simp only [bin_eql, bindO_some]
    by_cases hc : (ordPR m2 S a).2 = 0
    case neg =>
      simp only [hc, decide_false, condM_false]
      exact ⟨e22, trivial⟩
    obtain ⟨M, O, rfl, hO, o1, od, hM, hM2, hM3, kil⟩ := ord_facts hc (by omega)
    simp only [hc, decide_true, condM_true, box2 (e22.to B10 lb10'), bindO_some, hO]
    refine s_impl_MultipleOfPoint (rS.mono e22) (ra.mono e22) rfl rfl (by omega) rlS (by omega) (by omega) fun v h23 e23 l23 => ?_
    rw [kil] at l23 ⊢
    obtain ⟨Az, cz, rfl, rz, qz⟩ := l23
    simp only [ex0, ex1, bindO_some]
    have hzl : (zL a.length).tail.length = a.length := by simp [zL]
    have B10' := (e22.trans e23).to B10 lb10'
    refine LP1 (fun d ws h' => ∃ i : Nat, d = a.length - i ∧ i ≤ a.length ∧ h' = h23 ∧ ws = [.pointer (some ⟨b3, 0, none⟩), .slice B x.length 1, .slice C y.length 1, .slice A1 (sumPR m T x y).1.length c1, i6 (sumPR m T x y).2, .pointer (some ⟨b10, 0, none⟩), .slice D a.length 1, i6 (O : Int), .slice Az (zL a.length).tail.length cz, i6 0, i6 ((M ^ i : Nat) : Int), i6 (i : Int)]) ?_ _ _ _ ⟨0, rfl, by omega, rfl, rfl⟩
    rintro d ws h24 ⟨i, rfl, hi, rfl, rfl⟩ K K1 hK hK1
    refine wl_laws_FnPointSums_1 ?_
    by_cases hlt : i < a.length
    · have g : (i : Int) < (a.length : Int) := by omega
      have hle : M ^ (i + 1) ≤ 1000000000000 := Nat.le_trans (Nat.pow_le_pow_right (by omega) (by omega)) hM
      have e1 : ((M ^ i : Nat) : Int) * (M : Int) = ((M ^ (i + 1) : Nat) : Int) := by rw [Nat.pow_succ, Int.natCast_mul]
      simp only [q_laws_FnPointSums_1, len_slice, bindO_some, bin_lss, g, decide_true, condM_true, fieldAddr_ptr, Nat.zero_add, box2 B10', bin_mul, e1, wrapI (n := ((M ^ (i + 1) : Nat) : Int)) (by omega) (by omega), bin_add, wrapI (n := (i : Int) + 1) (by omega) (by omega)]
      exact hK _ _ _ (by omega) ⟨i + 1, rfl, by omega, rfl, rfl⟩
    · have g : ¬ (i : Int) < (a.length : Int) := by omega
      have hia : i = a.length := by omega
      subst hia
      simp only [q_laws_FnPointSums_1, len_slice, bindO_some, bin_lss, g, decide_false, condM_false]
      refine hK1 _ _ fun ev hev => ?_
      simp only [List.cons.injEq, and_true] at hev
      obtain ⟨g3, g4, g5, g6, g7, g16, g30, g31, g32⟩ := hev
      have gO : ¬ ((O : Int) < 1) := by omega
      have gr : ((M ^ a.length : Nat) : Int).tmod (O : Int) = 0 := by
        rw [tmod_nat, Nat.mod_eq_zero_of_dvd od]; rfl
      simp only [g3, g4, g5, g6, g7, g16, g30, g31, g32, bin_neq, decide_true, Bool.not_true, bindO_some, condM_false, bin_lss, gO, decide_false, bin_rem, if_neg (show ¬ ((O : Int) = 0) by omega), gr]
      refine LP2 (fun d ws h' => ∃ i : Nat, d = a.length - i ∧ i ≤ a.length ∧ h' = h24 ∧ ws = [.pointer (some ⟨b3, 0, none⟩), .slice B x.length 1, .slice C y.length 1, .slice A1 (sumPR m T x y).1.length c1, i6 (sumPR m T x y).2, .slice Az (zL a.length).tail.length cz, i6 (i : Int)]) ?_ _ _ _ ⟨0, rfl, by omega, rfl, rfl⟩
      rintro d ws h25 ⟨i, rfl, hi, rfl, rfl⟩ K' K1' K2' hK' hK1' hK2'
      refine wl_laws_FnPointSums_2 ?_
      by_cases hlt : i < a.length
      · have g : (i : Int) < ((zL a.length).tail.length : Int) := by omega
        have at_ := rz.at cz (e := i) (i := i) (n := (zL a.length).tail.length) rfl rfl (by rw [hzl]; exact hlt)
        rw [gt_ztail] at at_
        simp only [q_laws_FnPointSums_2, len_slice, bindO_some, bin_lss, g, decide_true, condM_true, at_, bin_neq, Bool.not_true, condM_false, bin_add, wrapI (n := (i : Int) + 1) (by omega) (by omega)]
        exact hK' _ _ _ (by omega) ⟨i + 1, rfl, by omega, rfl, rfl⟩
      · have g : ¬ (i : Int) < ((zL a.length).tail.length : Int) := by omega
        simp only [q_laws_FnPointSums_2, len_slice, bindO_some, bin_lss, g, decide_false, condM_false]
        refine hK1' _ _ fun ev hev => ?_
        simp only [List.cons.injEq, and_true] at hev
        obtain ⟨g3, g4, g5, g6, g7⟩ := hev
        simp only [g3, g4, g5, g6, g7]
        exact ⟨e22.trans e23, trivial⟩
  rintro ws h23 ⟨e23, rfl⟩ ev hev
  simp only [List.cons.injEq, and_true] at hev
  obtain ⟨g3, g4, g5, g6, g7⟩ := hev
  simp only [g3, g4, g5, g6, g7]
  clear g3 g4 g5 g6 g7 e22 rS ra r3 B10 hS1 hS2 rlS
  simp only [bin_neq, bindO_some, len_slice]
  by_cases hc : (sumPR m T x y).2 = 0
  case neg =>
    have hnil : ((sumPR m T x y).1.length : Int) = 0 := by rw [sumPR_bad hc]; rfl
    simp only [hc, decide_false, Bool.not_false, condM_true, bin_eql, bindO_some, hnil, decide_true]
    exact hR _ (E20.trans e23)
  have hcode := sumPR_good hc
  obtain ⟨law, k1, k2, nx, m1, hTl, hrT, lc⟩ := pt_facts hcode
  obtain ⟨hyx, ny⟩ := pt_facts2 hcode
  have B3 := e23.to B3 lb3'
  simp only [hc, decide_true, Bool.not_true, condM_false, box2 B3, bindO_some]
  refine s_impl_SumOfPoints (rT.mono e23) (ry.mono e23) (rx.mono e23) rfl rfl rfl (by omega) rl (by omega) (by omega) (by omega) fun v h24 e24 l24 => ?_
  rw [sum_comm hcode] at l24 ⊢
  obtain ⟨A7, c7, rfl, r7, q7⟩ := l24
  have E24 := e23.trans e24
  simp only [ex0, ex1, bindO_some, hc, decide_true, Bool.not_true, condM_false]
  refine s_laws_likeInts r7 (r1.mono E24) rfl rfl (sumPR_len lx.2) ?_
  have B3 := e24.to B3 (Nat.lt_of_lt_of_le lb3' e23.nx)
  simp only [decide_true, un_not, Bool.not_true, bindO_some, condM_false, fieldAddr_ptr, Nat.zero_add, box2 B3]
  refine s_impl_MultiplicativeLaw (D := x.length) (by omega) k1 m1.1 m1.2 fun v h26 e26 f26 => ?_
  obtain ⟨bq, rq, rfl, o26⟩ := f26
  simp only [ex0, ex1, bindO_some]
  have E26 := E24.trans e26
  refine boxS fun b37 h28 hb37 lb37 e28 B37 => ?_
  have E28 := E26.trans e28
  have B3 := (e26.trans e28).to B3 (Nat.lt_of_lt_of_le lb3' E24.nx)
  simp only [box2 B37, bindO_some]
  have lm := law_ml (m := m) (c := 1) (D := x.length) m1.1 k1 (by omega)
  refine s_impl_SumOfPoints (T := mlT x.length 1) (o26.mono e28).rt (rx.mono E28) (ry.mono E28) rfl rfl rfl (by simp; omega) (fun i hi => by have := (lm.rows i (by simpa using hi)).1; omega) (by omega) (by omega) (by omega) fun v h29 e29 l29 => ?_
  rw [ml_sum hcode] at l29 ⊢
  obtain ⟨A8, c8, rfl, r8, q8⟩ := l29
  have l8 : (putL m x.length (mlT x.length 1) (0 :: x) (0 :: y)).tail.length = x.length := by simp
  simp only [l8] at q8 ⊢
  obtain rfl : c8 = 1 := q8 k1
  have B3 := e29.to B3 (Nat.lt_of_lt_of_le lb3' E28.nx)
  have E29 := E28.trans e29
  have lb29 := Nat.lt_of_lt_of_le lb3' E29.nx
  simp only [ex0, ex1, bindO_some, inB_ptr, box2 B3, rowV_int]
  refine ⟨lb29, ?_⟩
  refine newAppK (xs := x) (ys := [1]) (cs := [.int .i64 1]) (l := 1) (rx.mono E29) rfl rfl rfl k1 (by unfold sizeMax; omega) fun p h30 h31 k31 e31 p1 p2 p3 => ⟨k31, ?_⟩
  simp only [fill2, bindO_some, box2 (e31.to B3 lb29), rowV_int]
  refine ⟨lb29, ?_⟩
  refine newAppK (xs := y) (ys := [1]) (cs := [.int .i64 1]) (l := 1) ((ry.mono E29).mono e31) rfl rfl rfl (by omega) (by unfold sizeMax; omega) fun q h32 h33 k33 e33 z1 z2 z3 => ⟨fun c' hc' => k33 c' (by have := e31.nx; omega), ?_⟩
  simp only [fill2, bindO_some]
  have sx : IsS m ([1] ++ x) := ⟨m1, by simp; omega, fun v hv => by
    simp only [List.cons_append, List.nil_append, List.mem_cons] at hv
    rcases hv with rfl | hv
    · omega
    · exact nx v hv⟩
  have sy : IsS m ([1] ++ y) := ⟨m1, by simp; omega, fun v hv => by
    simp only [List.cons_append, List.nil_append, List.mem_cons] at hv
    rcases hv with rfl | hv
    · omega
    · exact ny v hv⟩
  refine s_impl_MultiplySeries (N := x.length + 1) (RI.of_block (Nat.lt_of_lt_of_le p2 e33.nx) (e33.to p3 p2)) (RI.of_block z2 z3) (by omega) (by omega) (by simp) (by simp; omega) sx sy fun v h34 e34 f34 => ?_
  obtain ⟨w, rfl, w1, w2, w3⟩ := f34
  simp only [ex0, ex1, bindO_some]
  refine boxS fun b41 h36 hb41 lb41 e36 B41 => ?_
  have E2936 := ((e31.trans e33).trans e34).trans e36
  simp only [bin_eql, decide_true, bindO_some, condM_true, rowV_int, fieldAddr_ptr, Nat.zero_add, inB_ptr]
  refine newAppK (xs := (putL m x.length (mlT x.length 1) (0 :: x) (0 :: y)).tail) (ys := [1]) (cs := [.int .i64 1]) (l := 1) (r8.mono E2936) rfl l8.symm rfl k1 (by unfold sizeMax; omega) fun u h37 h38 k38 e38 u1 u2 u3 => ⟨k38, lb41, ?_⟩
  simp only [box2 (e38.to B41 lb41), bindO_some]
  have fin := ml_units (m := m) (D := x.length) m1.1 k1 rfl hyx nx ny
  refine s_laws_likeInts (xs := 1 :: (putL m x.length (mlT x.length 1) (0 :: x) (0 :: y)).tail) (ys := mulL m (x.length + 1) ([1] ++ x) ([1] ++ y)) (RI.of_block u2 u3) (RI.of_block (Nat.lt_of_lt_of_le w2 (Nat.le_trans e36.nx e38.nx)) ((e36.trans e38).to w3 w2)) (by simp; omega) rfl (by omega) ?_
  rw [show ([1] ++ x : List Int) = 1 :: x from rfl, show ([1] ++ y : List Int) = 1 :: y from rfl, fin]
  simp only [decide_true]
  exact hR _ (((E20.trans E29).trans E2936).trans e38)
end XM

/- From a run of the abstract machine over a slice of bytes to a call of the model. -/
namespace XM
open Go

/-- The cells behind a slice of bytes. -/
def IsRow (w : World) (a : Option Addr) (len cap : Nat) (zs : List Int) : Prop :=
  (a = none ∧ len = 0 ∧ cap = 0 ∧ zs = []) ∨
  ∃ x, a = some x ∧ len ≤ cap ∧ cap ≤ maxLen ∧ zs.length = cap ∧ (∀ i, i < zs.length → w.cell? (x.add i) = some (.int .u8 (zs.getD i 0))) ∧ ∀ n ∈ zs, (Lit.int .u8 n).wf = true

theorem bytes_of {zs : List Int} (h : ∀ n ∈ zs, (Lit.int .u8 n).wf = true) (k : Nat) : Bytes ((zs.take k).map fun z => .int .u8 z) := by
  intro i v hv
  rw [List.getElem?_map, Option.map_eq_some_iff] at hv
  obtain ⟨z, hz, rfl⟩ := hv
  have hm : z ∈ zs := List.mem_of_mem_take (List.mem_of_getElem? hz)
  have hw := h z hm
  have e1 : IntKind.u8.min = 0 := by decide
  have e2 : IntKind.u8.max = 255 := by decide
  simp only [Lit.wf, e1, e2, Bool.and_eq_true, decide_eq_true_eq] at hw
  exact ⟨z, hw.1, by omega, rfl⟩

theorem bytes_run {P : Program} (hm : P.follows .mixedOrders = true) {f : FuncId}
    (hrun : ∀ (h : Hp) (CA : Option Addr) (vs : List Value) (n c : Nat), RV h CA vs → n = vs.length → Bytes vs → CallW (compiled P) f [.slice CA n c] h fun v _ => v = .bool true)
    {w : World} {a : Option Addr} {len cap : Nat} {zs : List Int} (hr : IsRow w a len cap zs) :
    Calls P f #[.slice a len cap] w fun e w' => e = .returned (.bool true) ∧ Go.RowKit.Below w.heap.size w w' := by
  have fin : ∀ (ρ : Ren) (h : Hp) (CA : Option Addr), (∀ b x, h.bk b = some x → x.rw = false) → HR ρ (live h) w → (∀ b, h.nx ≤ b → ρ b = none) → WF h →
      VR ρ (.slice CA len 1) (.slice a len cap) → (∃ vs : List Value, RV h CA vs ∧ len = vs.length ∧ Bytes vs) →
      Calls P f #[.slice a len cap] w fun e w' => e = .returned (.bool true) ∧ Go.RowKit.Below w.heap.size w w' := by
    rintro ρ h CA hro hH hfr hwf hv ⟨vs, h1, h2, h3⟩
    obtain ⟨v, h', hev, rfl⟩ := hrun h CA vs len 1 h1 h2 h3
    refine ((call_sound hm (hev fun _ => undef)).2 ρ w [.slice a len cap] (LR.cons hv (LR.nil ρ)) hH (fun b hb _ => hfr b hb) hwf).mono ?_
    rintro e w1 ⟨v', ρ', rfl, hv', _, hE⟩
    cases hv'
    exact ⟨rfl, hE.same.1, hE.same.2.1, hE.same.2.2, hE.size, fun k hk => hE.frame k hk fun _ b x L hx hrw _ => by rw [hro b x hx] at hrw; cases hrw⟩
  have nil : len = 0 → cap = 0 → Calls P f #[.slice a len cap] w fun e w' => e = .returned (.bool true) ∧ Go.RowKit.Below w.heap.size w w' := by
    rintro rfl rfl
    refine fin (fun _ => none) ⟨fun _ => none, 0⟩ (a.map fun _ => ⟨0, 0, none⟩) (fun b x (hx : none = some x) => nomatch hx) ⟨fun b x (hx : none = some x) => (nomatch hx), fun b1 x1 b2 x2 L1 L2 (h1 : none = some x1) => (nomatch h1), fun b x (hx : none = some x) => nomatch hx⟩
      (fun _ _ => rfl) (fun _ _ => rfl) (.sliceZ (by cases a <;> rfl)) ⟨[], fun hl => absurd hl (by simp), rfl, fun i v hv => by simp at hv⟩
  rcases hr with ⟨rfl, rfl, rfl, rfl⟩ | ⟨x, rfl, hl, hm2, hz, hcell, hwz⟩
  · exact nil rfl rfl
  · rcases Nat.eq_zero_or_pos cap with h0 | hpos
    · exact nil (by omega) h0
    · have c0 := hcell 0 (by omega)
      have hadd : x.add 0 = x := rfl
      rw [hadd] at c0
      have hsp : x.spot = none := by
        cases hs : x.spot with
        | none => rfl
        | some s =>
          unfold World.cell? at c0
          rw [hs] at c0
          split at c0 <;> simp at c0
      have hlt : x.block < w.heap.size := by
        rcases Nat.lt_or_ge x.block w.heap.size with h | h
        · exact h
        · unfold World.cell? at c0; rw [Array.getElem?_eq_none h] at c0; cases c0
      have hx : ∀ i, x.add i = ⟨x.block, x.off + i, none⟩ := by
        intro i
        unfold Addr.add
        split
        · rename_i h; subst h; cases x; simp_all
        · rfl
      have hbk : ∀ {b : Nat} {y : Blk}, (if b = 0 then some (⟨zs.map fun z => .int .u8 z, 0, false⟩ : Blk) else none) = some y → b = 0 ∧ y = ⟨zs.map fun z => .int .u8 z, 0, false⟩ := by
        intro b y h
        split at h
        · cases h; exact ⟨by assumption, rfl⟩
        · cases h
      have hxe : x = ⟨x.block, x.off + 0, none⟩ := by cases x; simp_all
      refine fin (fun b => if b = 0 then some ⟨x.block, x.off, 0, false⟩ else none) ⟨fun b => if b = 0 then some ⟨zs.map fun z => .int .u8 z, 0, false⟩ else none, 1⟩ (some ⟨0, 0, none⟩) (fun b y hy => by
          rw [(hbk hy).2]) ⟨fun b y hy => ?_, fun b1 x1 b2 x2 L1 L2 h1 _ hrw => ?_, fun b y hy => ?_⟩ (fun b hb => by rw [if_neg (by simp at hb; omega)]) (fun b hb => by simp only; rw [if_neg (by simp at hb; omega)]) ?_
        ⟨(zs.take len).map fun z => .int .u8 z, fun _ => ⟨0, 0, _, rfl, by simp, rfl, fun i v hv => ?_⟩, by simp; omega, bytes_of hwz len⟩
      · obtain ⟨rfl, rfl⟩ := hbk hy
        refine ⟨⟨x.block, x.off, 0, false⟩, rfl, hlt, rfl, fun i v hv => ?_, fun h => by cases h⟩
        simp only [List.getElem?_map, Option.map_eq_some_iff] at hv
        obtain ⟨z, hz1, rfl⟩ := hv
        have hi : i < zs.length := (List.getElem?_eq_some_iff.1 hz1).1
        have := hcell i hi
        rw [hx i, List.getD_eq_getElem?_getD, hz1] at this
        exact ⟨_, this, .int _ _⟩
      · obtain ⟨rfl, rfl⟩ := hbk h1; cases hrw
      · obtain ⟨rfl, rfl⟩ := hbk hy
        rw [List.all_eq_true]
        intro v hv
        simp only [List.mem_map] at hv
        obtain ⟨z, _, rfl⟩ := hv
        rfl
      · rw [hxe]
        exact VR.slice (L := ⟨x.block, x.off, 0, false⟩) rfl hl (fun h => by cases h)
      · rw [List.getElem?_map, Option.map_eq_some_iff] at hv
        obtain ⟨z, hz1, rfl⟩ := hv
        have hi := (List.getElem?_eq_some_iff.1 hz1).1
        rw [List.getElem?_take] at hz1
        split at hz1
        · simp only [Nat.zero_add, List.getElem?_map, hz1, Option.map_some]
        · cases hz1

end XM
