/- What is proved at the end: for every input FnPointSums returns true and its argument reads as it did; without condition. Part 5 of 7. -/
import Derived.Test.YtiicfnongikeeaaGreatXd

set_option linter.unusedSimpArgs false
set_option linter.unusedVariables false
/- The program's series: zero, variable, constant, degree, plus, scaled. -/
namespace XM
open Go

/-- What stood before stands, but for one block. -/
structure HX (o : Nat) (h h' : Hp) : Prop where
  nx : h.nx ≤ h'.nx
  bk : ∀ b, b < h.nx → b ≠ o → h'.bk b = h.bk b
theorem HX.refl (o : Nat) (h : Hp) : HX o h h := ⟨Nat.le_refl _, fun _ _ _ => rfl⟩
theorem HX.upd {o : Nat} {x : Option Blk} {h h' h'' : Hp} (a : HX o h h') (u : Upd o x h' h'') : HX o h h'' := ⟨by rw [u.nx]; exact a.nx, fun b hb hne => (u.ot b hne).trans (a.bk b hb hne)⟩
theorem HX.he {o : Nat} {h h' h'' : Hp} (a : HX o h h') (e : HE h' h'') : HX o h h'' := ⟨Nat.le_trans a.nx e.nx, fun b hb hne => (e.bk b (Nat.lt_of_lt_of_le hb a.nx)).trans (a.bk b hb hne)⟩
theorem HX.out {o : Nat} {h0 h h' : Hp} (a : HX o h h') (e : HE h0 h) (ho : h0.nx ≤ o) : HE h0 h' := ⟨Nat.le_trans e.nx a.nx, fun b hb => (a.bk b (Nat.lt_of_lt_of_le hb e.nx) (by omega)).trans (e.bk b hb)⟩

theorem HE.to {h h' : Hp} (e : HE h h') {b : Nat} {x : Blk} (hx : h.bk b = some x) (hb : b < h.nx) : h'.bk b = some x := (e.bk b hb).trans hx
theorem Upd.to {o b : Nat} {y : Option Blk} {h h' : Hp} (u : Upd o y h h') {x : Blk} (hx : h.bk b = some x) (hb : b ≠ o) : h'.bk b = some x := (u.ot b hb).trans hx
theorem HX.to {o b : Nat} {h h' : Hp} (u : HX o h h') {x : Blk} (hx : h.bk b = some x) (hb : b < h.nx) (hne : b ≠ o) : h'.bk b = some x := (u.bk b hb hne).trans hx

/-- A series with a list of its own. -/
def FS (h h' : Hp) (v : Value) (m : Int) (xs : List Int) : Prop :=
  ∃ b, v = sv m (some ⟨b, 0, none⟩) xs.length 1 ∧ h.nx ≤ b ∧ b < h'.nx ∧ h'.bk b = some ⟨mapI xs, y_t_int64, true⟩
theorem FS.ser {h h' : Hp} {v : Value} {m : Int} {xs : List Int} (f : FS h h' v m xs) : SerR h' v m xs := by
  obtain ⟨b, h1, h2, h3, h4⟩ := f; exact ⟨_, 1, h1, RI.of_block h3 h4⟩
theorem FS.older {h0 h h' : Hp} {v : Value} {m : Int} {xs : List Int} (f : FS h h' v m xs) (e : HE h0 h) : FS h0 h' v m xs := by
  obtain ⟨b, h1, h2, h3, h4⟩ := f; exact ⟨b, h1, Nat.le_trans e.nx h2, h3, h4⟩
theorem FS.mono {h h1 h2 : Hp} {v : Value} {m : Int} {xs : List Int} (f : FS h h1 v m xs) (e : HE h1 h2) : FS h h2 v m xs := by
  obtain ⟨b, q1, q2, q3, q4⟩ := f; exact ⟨b, q1, q2, Nat.lt_of_lt_of_le q3 e.nx, (e.bk b q3).trans q4⟩

theorem s_impl_zero {m : Int} {d : Int} {D : Nat} {h : Hp} {R : Value → Hp → Prop} (hd : d = D) (hD : D ≤ 1000000) (hR : ∀ v h', HE h h' → FS h h' v m (List.replicate (D + 1) 0) → R v h') : CallW FF n_impl_zero [i6 m, i6 d] h R := by
  subst hd
  refine w_impl_zero ?_
  have w1 : IntKind.i64.wrap ((D : Int) + 1) = D + 1 := wrapI (by omega) (by omega)
  have mk : makN (.int .i64 ((D : Int) + 1)) = some (D + 1) := makN_nat (by omega) (by unfold sizeMax; omega)
  simp [p_impl_zero, w1]
  refine newB_i fun b h1 eb en eh eB => ?_
  simp [mk, mapI_rep]
  refine newB_i fun b2 h2 eb2 en2 eh2 eB2 => ?_
  refine storeBox2 ((eh2.bk b (by omega)).trans eB) rfl rfl rfl rfl fun h3 u => ?_
  simp [(box2 u.bk).1]
  exact hR _ _ (u.he (eh.trans eh2) (by omega)) ⟨b2, by simp, by omega, by rw [u.nx]; omega, by rw [u.ot _ (by omega)]; exact eB2⟩

theorem s_impl_Series_degree {m : Int} {A : Option Addr} {n c : Nat} {h : Hp} {R : Value → Hp → Prop} (hn : n ≤ 2000000) (hR : ∀ h', HE h h' → R (i6 ((n : Int) - 1)) h') : CallW FF n_impl_Series_degree [sv m A n c] h R := by
  refine w_impl_Series_degree ?_
  have w1 : IntKind.i64.wrap ((n : Int) - 1) = n - 1 := wrapI (by omega) (by omega)
  simp [p_impl_Series_degree, w1]
  refine newB_i fun b h1 eb en eh eB => ?_
  simp [box2 eB, w1]
  exact hR _ eh
theorem s_impl_Plane_degree {m : Int} {A : Option Addr} {n c : Nat} {h : Hp} {R : Value → Hp → Prop} (hn : n ≤ 2000000) (hR : ∀ h', HE h h' → R (i6 ((n : Int) - 1)) h') : CallW FF n_impl_Plane_degree [sv m A n c] h R := by
  refine w_impl_Plane_degree ?_
  have w1 : IntKind.i64.wrap ((n : Int) - 1) = n - 1 := wrapI (by omega) (by omega)
  simp [p_impl_Plane_degree, w1]
  refine newB_i fun b h1 eb en eh eB => ?_
  simp [box2 eB, w1]
  exact hR _ eh

theorem s_impl_variable {m : Int} {d : Int} {D : Nat} {h : Hp} {R : Value → Hp → Prop} (hd : d = D) (hD : D ≤ 1000000) (hD1 : 1 ≤ D) (hR : ∀ v h', HE h h' → FS h h' v m (varL D) → R v h') : CallW FF n_impl_variable [i6 m, i6 d] h R := by
  refine w_impl_variable ?_
  simp [p_impl_variable]
  refine newB_i fun b h1 eb en eh eB => ?_
  refine s_impl_zero hd hD fun v h2 e2 f2 => ?_
  obtain ⟨o, rfl, f2, f3, f4⟩ := f2
  simp
  refine newB_i fun b3 h3 eb3 en3 eh3 eB3 => ?_
  refine storeBox2 eB3 rfl rfl rfl rfl fun h4 u4 => ?_
  have q1 : indexAddrV 1 (.slice (some ⟨o, 0, none⟩) (D + 1) 1) (.int .i64 1) = some (.pointer (some ⟨o, 1, none⟩)) := ixOwn (i := 1) rfl (by omega)
  simp [box2 u4.bk, q1]
  refine storeI (i := 1) (by rw [u4.ot _ (by omega), eh3.bk _ (by omega)]; exact f4) (by simp; omega) fun h5 u5 => ?_
  simp [box2 ((u5.ot _ (by omega)).trans u4.bk)]
  have nx := e2.nx; have n3 := eh3.nx; have n4 := u4.nx; have n5 := u5.nx
  refine storeBox2 (x := ⟨_, _, true⟩) (by rw [u5.ot _ (by omega), u4.ot _ (by omega), eh3.bk _ (by omega), e2.bk _ (by omega)]; exact eB) rfl rfl rfl rfl fun h6 u6 => ?_
  simp [box2 u6.bk]
  have n6 := u6.nx
  refine hR _ _ (u6.he (u5.he (u4.he ((eh.trans e2).trans eh3) (by omega)) (by omega)) (by omega)) ⟨o, by simp, by omega, by omega, ?_⟩
  rw [u6.ot _ (by omega), u5.bk]; rfl

theorem s_impl_Series_constant {m k : Int} {A : Option Addr} {n c D : Nat} {h : Hp} {R : Value → Hp → Prop} (hn : n = D + 1) (hD : D ≤ 1000000) (hm : 0 < m) (hm2 : m ≤ 3000000000)
    (hR : ∀ v h', HE h h' → FS h h' v m ((List.replicate (D + 1) 0).set 0 (k % m)) → R v h') : CallW FF n_impl_Series_constant [sv m A n c, i6 k] h R := by
  subst hn
  refine w_impl_Series_constant ?_
  simp [p_impl_Series_constant]
  refine newB_i fun b h1 eb en eh eB => ?_
  refine newB_i fun b2 h2 eb2 en2 eh2 eB2 => ?_
  have E2 := eh.trans eh2
  simp [box2 ((eh2.bk b (by omega)).trans eB), show b < h2.nx by omega]
  refine s_impl_Series_degree (by omega) fun h3 e3 => ⟨e3.keep, ?_⟩
  refine s_impl_zero (D := D) (by simp) hD fun v h4 e4 f4 => ?_
  obtain ⟨o, rfl, f4, f5, f6⟩ := f4
  simp
  refine newB_i fun b5 h5 eb5 en5 eh5 eB5 => ?_
  refine storeBox2 eB5 rfl rfl rfl rfl fun h6 u6 => ?_
  have n3 := e3.nx; have n4 := e4.nx; have n5 := eh5.nx; have n6 := u6.nx
  have B1 := (u6.to (eh5.to (e4.to (e3.to (eh2.to eB (by omega)) (by omega)) (by omega)) (by omega)) (by omega))
  have B2 := (u6.to (eh5.to (e4.to (e3.to eB2 (by omega)) (by omega)) (by omega)) (by omega))
  simp [box2 u6.bk, box2 B1, show b5 < h6.nx by omega]
  refine s_impl_mod hm (by omega) ⟨keepB_refl _ _, ?_⟩
  have q1 : indexAddrV 1 (.slice (some ⟨o, 0, none⟩) (D + 1) 1) (.int .i64 0) = some (.pointer (some ⟨o, 0, none⟩)) := ixOwn (i := 0) rfl (by omega)
  simp [q1]
  refine storeI (i := 0) (by rw [u6.ot _ (by omega), eh5.bk _ (by omega)]; exact f6) (by simp) fun h7 u7 => ?_
  simp [box2 ((u7.ot _ (by omega)).trans u6.bk)]
  have n7 := u7.nx
  refine storeBox2 (x := ⟨_, _, true⟩) ((u7.ot _ (by omega)).trans B2) rfl rfl rfl rfl fun h8 u8 => ?_
  simp [box2 u8.bk]
  have n8 := u8.nx
  refine hR _ _ (u8.he (u7.he (u6.he (((E2.trans e3).trans e4).trans eh5) (by omega)) (by omega)) (by omega)) ⟨o, by simp, by omega, by omega, ?_⟩
  rw [u8.ot _ (by omega), u7.bk]

theorem s_impl_Series_plus {m m' : Int} {A B : Option Addr} {xs ys : List Int} {n n2 c c2 : Nat} {h : Hp} {R : Value → Hp → Prop} (ha : RI h A xs) (hb : RI h B ys) (hn : n = xs.length) (hn2 : n2 = ys.length) (hm : 0 < m) (hm2 : m ≤ 3000000000)
    (hx : Nums m xs) (hy : Nums m ys) (hl1 : 1 ≤ xs.length) (hlx : xs.length ≤ 1000000) (hl : xs.length ≤ ys.length)
    (hR : ∀ v h', HE h h' → FS h h' v m (addL m xs ys) → R v h') : CallW FF n_impl_Series_plus [sv m A n c, sv m' B n2 c2] h R := by
  subst hn; subst hn2
  refine w_impl_Series_plus ?_
  simp [p_impl_Series_plus]
  refine newB_i fun b h1 eb en eh eB => ?_
  refine newB_i fun b2 h2 eb2 en2 eh2 eB2 => ?_
  refine newB_i fun b3 h3 eb3 en3 eh3 eB3 => ?_
  have E3 := (eh.trans eh2).trans eh3
  simp [box2 (((eh2.trans eh3).bk b (by omega)).trans eB), show b < h3.nx by omega]
  refine s_impl_Series_degree (by omega) fun h4 e4 => ⟨e4.keep, ?_⟩
  refine s_impl_zero (D := xs.length - 1) (by omega) (by omega) fun v h5 e5 f5 => ?_
  obtain ⟨o, rfl, f5, f6, f7⟩ := f5
  have hl' : xs.length - 1 + 1 = xs.length := by omega
  simp [hl'] at f7 ⊢
  refine newB_i fun b6 h6 eb6 en6 eh6 eB6 => ?_
  refine storeBox2 eB6 rfl rfl rfl rfl fun h7 u7 => ?_
  have n4 := e4.nx; have n5 := e5.nx; have n7 := u7.nx
  have E5 := (E3.trans e4).trans e5
  have E7 : HE h h7 := u7.he (E5.trans eh6) (by omega)
  have B1 := (u7.to (eh6.to (e5.to (e4.to (eh3.to (eh2.to eB (by omega)) (by omega)) (by omega)) (by omega)) (by omega)) (by omega))
  have B2 := (u7.to (eh6.to (e5.to (e4.to (eh3.to eB2 (by omega)) (by omega)) (by omega)) (by omega)) (by omega))
  have B3 := (u7.to (eh6.to (e5.to (e4.to eB3 (by omega)) (by omega)) (by omega)) (by omega))
  have B5 := (u7.to (eh6.to f7 (by omega)) (by omega))
  simp [box2 u7.bk]
  refine LP1 (fun d vs h' => ∃ (i : Nat) (zs : List Int), d = xs.length - i ∧ i ≤ xs.length ∧ vs = [.pointer (some ⟨b, 0, none⟩), .pointer (some ⟨b2, 0, none⟩), .pointer (some ⟨b3, 0, none⟩), .pointer (some ⟨b6, 0, none⟩), i6 xs.length, i6 i] ∧
     HX o h7 h' ∧ zs.length = xs.length ∧ h'.bk o = some ⟨mapI zs, y_t_int64, true⟩ ∧ ∀ j, j < i → gt zs j = (gt xs j + gt ys j) % m) ?_ _ _ _ ⟨0, List.replicate xs.length 0, rfl, by omega, rfl, HX.refl _ _, by simp, B5, by omega⟩
  rintro d vs h8 ⟨i, zs, rfl, hi, rfl, E8, hz, hbk, hzs⟩ K K1 hK hK1
  refine wl_impl_Series_plus_0 ?_
  have n8 := E8.nx
  have BA := box2 ((E8.bk b (by omega) (by omega)).trans B1)
  have BB := box2 ((E8.bk b2 (by omega) (by omega)).trans B2)
  have BC := (E8.bk b3 (by omega) (by omega)).trans B3
  have BO := box2 ((E8.bk b6 (by omega) (by omega)).trans u7.bk)
  have HE8 := E8.out E7 (by omega)
  have m0 : ¬ m = 0 := by omega
  by_cases hlt : i < xs.length
  · have r := (ha.mono HE8).at c (e := i) rfl rfl hlt
    have s := (hb.mono HE8).at c2 (e := i) rfl rfl (show i < ys.length by omega)
    have q : indexAddrV 1 (.slice (some ⟨o, 0, none⟩) xs.length 1) (.int .i64 i) = some (.pointer (some ⟨o, i, none⟩)) := ixOwn rfl hlt
    have bx := hx.gt hlt; have by_ := hy.gt (show i < ys.length by omega)
    have w1 : IntKind.i64.wrap (gt xs i + gt ys i) = gt xs i + gt ys i := wrapI (by omega) (by omega)
    have w2 : IntKind.i64.wrap ((i : Int) + 1) = i + 1 := wrapI (by omega) (by omega)
    simp [q_impl_Series_plus_0, hlt, BA, BB, BO, r, s, q, w1, w2, m0, Int.tmod_eq_emod_of_nonneg (show 0 ≤ gt xs i + gt ys i by omega)]
    refine storeI hbk (by omega) fun h9 u9 => ?_
    refine hK _ _ _ (by omega) ⟨i + 1, _, rfl, by omega, rfl, E8.upd u9, by simp [hz], u9.bk, fun j hj => ?_⟩
    rw [gt_set]
    by_cases h : i = j
    · subst h; rw [if_pos ⟨rfl, by omega⟩]
    · rw [if_neg (fun h2 => h h2.1)]; exact hzs j (by omega)
  · have : i = xs.length := by omega
    subst this
    simp [q_impl_Series_plus_0]
    refine hK1 _ _ fun e he => ?_
    simp at he
    simp [he, BO]
    refine storeBox2 BC rfl rfl rfl rfl fun h9 u9 => ?_
    simp [box2 u9.bk]
    refine hR _ _ (u9.he HE8 (by omega)) ⟨o, by simp, by omega, by rw [u9.nx]; omega, ?_⟩
    rw [u9.ot _ (by omega), hbk, eq_tab hz hzs]; rfl

theorem s_impl_Series_scaled {m k : Int} {A : Option Addr} {xs : List Int} {n c : Nat} {h : Hp} {R : Value → Hp → Prop} (ha : RI h A xs) (hn : n = xs.length) (hm : 0 < m) (hm2 : m ≤ 3000000000)
    (hx : Nums m xs) (hl1 : 1 ≤ xs.length) (hlx : xs.length ≤ 1000000)
    (hR : ∀ v h', HE h h' → FS h h' v m (scaleL m k xs) → R v h') : CallW FF n_impl_Series_scaled [sv m A n c, i6 k] h R := by
  subst hn
  refine w_impl_Series_scaled ?_
  simp [p_impl_Series_scaled]
  refine newB_i fun b h1 eb en eh eB => ?_
  refine newB_i fun b3 h3 eb3 en3 eh3 eB3 => ?_
  have E3 := eh.trans eh3
  simp [box2 ((eh3.bk b (by omega)).trans eB), show b < h3.nx by omega]
  refine s_impl_Series_degree (by omega) fun h4 e4 => ⟨e4.keep, ?_⟩
  refine s_impl_zero (D := xs.length - 1) (by omega) (by omega) fun v h5 e5 f5 => ?_
  obtain ⟨o, rfl, f5, f6, f7⟩ := f5
  have hl' : xs.length - 1 + 1 = xs.length := by omega
  simp [hl'] at f7 ⊢
  refine newB_i fun b6 h6 eb6 en6 eh6 eB6 => ?_
  refine storeBox2 eB6 rfl rfl rfl rfl fun h7 u7 => ?_
  have n4 := e4.nx; have n5 := e5.nx; have n7 := u7.nx
  have E5 := (E3.trans e4).trans e5
  have E7 : HE h h7 := u7.he (E5.trans eh6) (by omega)
  have B1 := (u7.to (eh6.to (e5.to (e4.to (eh3.to eB (by omega)) (by omega)) (by omega)) (by omega)) (by omega))
  have B3 := (u7.to (eh6.to (e5.to (e4.to eB3 (by omega)) (by omega)) (by omega)) (by omega))
  have B5 := (u7.to (eh6.to f7 (by omega)) (by omega))
  simp [box2 B1]
  refine LP1 (fun d vs h' => ∃ (i : Nat) (zs : List Int), d = xs.length - i ∧ i ≤ xs.length ∧ vs = [i6 k, .pointer (some ⟨b, 0, none⟩), .pointer (some ⟨b3, 0, none⟩), .pointer (some ⟨b6, 0, none⟩), .slice A xs.length c, i6 xs.length, i6 i] ∧
     HX o h7 h' ∧ zs.length = xs.length ∧ h'.bk o = some ⟨mapI zs, y_t_int64, true⟩ ∧ ∀ j, j < i → gt zs j = (k * gt xs j) % m) ?_ _ _ _ ⟨0, List.replicate xs.length 0, rfl, by omega, rfl, HX.refl _ _, by simp, B5, by omega⟩
  rintro d vs h8 ⟨i, zs, rfl, hi, rfl, E8, hz, hbk, hzs⟩ K K1 hK hK1
  refine wl_impl_Series_scaled_0 ?_
  have n8 := E8.nx
  have BA := box2 ((E8.bk b (by omega) (by omega)).trans B1)
  have BC := (E8.bk b3 (by omega) (by omega)).trans B3
  have BO := box2 ((E8.bk b6 (by omega) (by omega)).trans u7.bk)
  have HE8 := E8.out E7 (by omega)
  by_cases hlt : i < xs.length
  · have r := (ha.mono HE8).at c (e := i) rfl rfl hlt
    have q : indexAddrV 1 (.slice (some ⟨o, 0, none⟩) xs.length 1) (.int .i64 i) = some (.pointer (some ⟨o, i, none⟩)) := ixOwn rfl hlt
    have bx := hx.gt hlt
    have w2 : IntKind.i64.wrap ((i : Int) + 1) = i + 1 := wrapI (by omega) (by omega)
    simp [q_impl_Series_scaled_0, hlt, BA, BO, r, show b6 < h8.nx by omega, show b < h8.nx by omega]
    have mb := mod_bd hm k
    refine s_impl_mod hm (by omega) ⟨keepB_refl _ _, ?_⟩
    refine s_impl_mul hm hm2 mb.1 bx.1 (mul_bd hm2 mb bx).2 ⟨keepB_refl _ _, ?_⟩
    simp [q, w2]
    refine storeI hbk (by omega) fun h9 u9 => ?_
    refine hK _ _ _ (by omega) ⟨i + 1, _, rfl, by omega, rfl, E8.upd u9, by simp [hz], u9.bk, fun j hj => ?_⟩
    rw [gt_set]
    by_cases h : i = j
    · subst h; rw [if_pos ⟨rfl, by omega⟩, Int.mul_emod (k % m), Int.emod_emod, ← Int.mul_emod]
    · rw [if_neg (fun h2 => h h2.1)]; exact hzs j (by omega)
  · have : i = xs.length := by omega
    subst this
    simp [q_impl_Series_scaled_0]
    refine hK1 _ _ fun e he => ?_
    simp at he
    simp [he, BO]
    refine storeBox2 BC rfl rfl rfl rfl fun h9 u9 => ?_
    simp [box2 u9.bk]
    refine hR _ _ (u9.he HE8 (by omega)) ⟨o, by simp, by omega, by rw [u9.nx]; omega, ?_⟩
    rw [u9.ot _ (by omega), hbk, eq_tab hz hzs]; rfl
end XM

/- The program's series: times, compose, powers, curves. -/
namespace XM
open Go

theorem gt_take {xs : List Int} {k i : Nat} (h : i < k) : gt (xs.take k) i = gt xs i := by
  simp only [gt, List.getD_eq_getElem?_getD, List.getElem?_take, if_pos h]
theorem gt_drop {xs : List Int} {k i : Nat} : gt (xs.drop k) i = gt xs (k + i) := by
  simp only [gt, List.getD_eq_getElem?_getD, List.getElem?_drop]

/-- The first part of a slice. -/
theorem RI.pre {h : Hp} {A : Option Addr} {xs : List Int} (r : RI h A xs) {e : Int} {n k : Nat} (hn : n = xs.length) (he : e = k) (hk : k ≤ n) :
    ∃ A' c', sliceV 1 none (some (.int .i64 e)) (.slice A n 1) = some (.slice A' k c') ∧ RI h A' (xs.take k) := by
  subst he
  cases A with
  | none =>
    have : n = 0 := by
      rcases Nat.eq_zero_or_pos n with h0 | h0
      · exact h0
      · obtain ⟨b, o, x, h1, _⟩ := r (by simpa using hn ▸ h0)
        cases h1
    have hk0 : k = 0 := by omega
    subst hk0
    exact ⟨none, 0, by simp [sliceV, bnd], by simpa using RI.nil _ _⟩
  | some a =>
    refine ⟨some (addOff a 0), 1, by simp [sliceV, bnd, hk], ?_⟩
    intro hl
    have hl' : 0 < (mapI xs).length := by simp at hl ⊢; omega
    obtain ⟨b, o, x, h1, h2, h3, h4⟩ := r hl'
    cases h1
    refine ⟨b, o, x, rfl, h2, h3, fun i v hv => h4 i v ?_⟩
    simp only [mapI, List.map_take, List.getElem?_take] at hv
    split at hv
    · exact hv
    · cases hv

theorem s_impl_Series_times {m m' : Int} {A B : Option Addr} {xs ys : List Int} {n n2 c N : Nat} {h : Hp} {R : Value → Hp → Prop} (ha : RI h A xs) (hb : RI h B ys) (hn : n = N) (hn2 : n2 = N) (hm : 0 < m) (hm2 : m ≤ 3000000000)
    (hx : Nums m xs) (hy : Nums m ys) (hl1 : 1 ≤ N) (hlx : N ≤ 1000000) (hxl : xs.length = N) (hyl : ys.length = N)
    (hR : ∀ v h', HE h h' → FS h h' v m (mulL m N xs ys) → R v h') : CallW FF n_impl_Series_times [sv m A n c, sv m' B n2 1] h R := by
  subst hn; subst hn2
  refine w_impl_Series_times ?_
  simp [p_impl_Series_times]
  refine newB_i fun b h1 eb en eh eB => ?_
  refine newB_i fun b2 h2 eb2 en2 eh2 eB2 => ?_
  refine newB_i fun b3 h3 eb3 en3 eh3 eB3 => ?_
  have E3 := (eh.trans eh2).trans eh3
  simp [box2 (((eh2.trans eh3).bk b (by omega)).trans eB), show b < h3.nx by omega]
  refine s_impl_Series_degree (by omega) fun h4 e4 => ⟨e4.keep, ?_⟩
  refine s_impl_zero (D := n2 - 1) (by omega) (by omega) fun v h5 e5 f5 => ?_
  obtain ⟨o, rfl, f5, f6, f7⟩ := f5
  have hl' : n2 - 1 + 1 = n2 := by omega
  simp [hl'] at f7 ⊢
  refine newB_i fun b6 h6 eb6 en6 eh6 eB6 => ?_
  refine storeBox2 eB6 rfl rfl rfl rfl fun h7 u7 => ?_
  have n4 := e4.nx; have n5 := e5.nx; have n7 := u7.nx
  have E5 := (E3.trans e4).trans e5
  have E7 : HE h h7 := u7.he (E5.trans eh6) (by omega)
  have C5 := (e4.trans e5).trans eh6
  have B1 := u7.to (((eh2.trans eh3).trans C5).to eB (by omega)) (by omega)
  have B2 := u7.to ((eh3.trans C5).to eB2 (by omega)) (by omega)
  have B3 := u7.to (C5.to eB3 (by omega)) (by omega)
  have B5 := u7.to (eh6.to f7 (by omega)) (by omega)
  simp [box2 B1]
  have m0 : ¬ m = 0 := by omega
  -- the outer loop
  refine LP1 (fun d vs h' => ∃ (i : Nat) (zs : List Int), d = n2 - i ∧ i ≤ n2 ∧ vs = [.pointer (some ⟨b, 0, none⟩), .pointer (some ⟨b2, 0, none⟩), .pointer (some ⟨b3, 0, none⟩), .pointer (some ⟨b6, 0, none⟩), .slice A n2 c, i6 n2, i6 i] ∧
     HX o h7 h' ∧ zs.length = n2 ∧ h'.bk o = some ⟨mapI zs, y_t_int64, true⟩ ∧ ∀ n, n < n2 → gt zs n = ps xs ys i n % m) ?_ _ _ _ ⟨0, List.replicate n2 0, rfl, by omega, rfl, HX.refl _ _, by simp, B5, fun n hn => by rw [rep_tab, gt_tab (by omega), ps_zero]; simp⟩
  rintro d vs h8 ⟨i, zs, rfl, hi, rfl, E8, hz, hbk, hzs⟩ K K1 hK hK1
  refine wl_impl_Series_times_1 ?_
  have n8 := E8.nx
  have BB := box2 (E8.to B2 (by omega) (by omega))
  have BC := E8.to B3 (by omega) (by omega)
  have BO := box2 (E8.to u7.bk (by omega) (by omega))
  have HE8 := E8.out E7 (by omega)
  by_cases hlt : i < n2
  case neg =>
    have : i = n2 := by omega
    subst this
    simp [q_impl_Series_times_1]
    refine hK1 _ _ fun e he => ?_
    simp at he
    simp [he, BO]
    refine storeBox2 BC rfl rfl rfl rfl fun h9 u9 => ?_
    simp [box2 u9.bk]
    refine hR _ _ (u9.he HE8 (by omega)) ⟨o, by simp, by omega, by rw [u9.nx]; omega, ?_⟩
    rw [u9.ot _ (by omega), hbk, eq_tab (f := fun k => cv xs ys k % m) hz fun n hn => by rw [hzs n hn, ps_full (by omega)]]; rfl
  have r := (ha.mono HE8).at c (e := i) rfl hxl.symm (by omega)
  have wS : IntKind.i64.wrap ((n2 : Int) - i) = n2 - i := wrapI (by omega) (by omega)
  obtain ⟨B', c', sl, rB⟩ := hb.pre (e := (n2 : Int) - i) (n := n2) (k := n2 - i) hyl.symm (by omega) (by omega)
  have bx := hx.gt (show i < xs.length by omega)
  simp [q_impl_Series_times_1, hlt, BB, r, wS, sl]
  -- the inner loop
  refine LP1 (fun d vs h' => ∃ (k : Nat) (zs : List Int), d = n2 - i - k ∧ i + k ≤ n2 ∧ vs = [.pointer (some ⟨b, 0, none⟩), .pointer (some ⟨b2, 0, none⟩), .pointer (some ⟨b3, 0, none⟩), .pointer (some ⟨b6, 0, none⟩), i6 i, i6 (gt xs i), .slice A n2 c, i6 n2, i6 i, .slice B' (n2 - i) c', i6 ((n2 - i : Nat) : Int), i6 k] ∧
     HX o h7 h' ∧ zs.length = n2 ∧ h'.bk o = some ⟨mapI zs, y_t_int64, true⟩ ∧ ∀ n, n < n2 → gt zs n = (ps xs ys i n + if i ≤ n ∧ n < i + k then gt xs i * gt ys (n - i) else 0) % m) ?_ _ _ _
     ⟨0, zs, rfl, by omega, rfl, E8, hz, hbk, fun n hn => by rw [hzs n hn, if_neg (by omega)]; simp⟩
  clear hzs hbk hz r BB BC BO HE8 E8 n8 zs h8
  rintro d vs h8 ⟨k, zs, rfl, hk, rfl, E8, hz, hbk, hzs⟩ K2 K3 hK2 hK3
  refine wl_impl_Series_times_0 ?_
  have n8 := E8.nx
  have BA := box2 (E8.to B1 (by omega) (by omega))
  have BO := box2 (E8.to u7.bk (by omega) (by omega))
  have HE8 := E8.out E7 (by omega)
  by_cases hlt2 : k < n2 - i
  · have t := (rB.mono HE8).at c' (e := k) (n := n2 - i) rfl (by simp; omega) (by simp; omega)
    have hgt : gt (ys.take (n2 - i)) k = gt ys k := gt_take hlt2
    have w4 : IntKind.i64.wrap ((i : Int) + k) = i + k := wrapI (by omega) (by omega)
    have w5 : IntKind.i64.wrap ((k : Int) + 1) = k + 1 := wrapI (by omega) (by omega)
    have q5 : indexAddrV 1 (.slice (some ⟨o, 0, none⟩) n2 1) (.int .i64 ((i : Int) + k)) = some (.pointer (some ⟨o, i + k, none⟩)) := ixOwn (by omega) (by omega)
    have q6 := ownRd (n := 0) (c := 0) hbk (show i + k < zs.length by omega)
    have by_ := hy.gt (show k < ys.length by omega)
    have bz : 0 ≤ gt zs (i + k) ∧ gt zs (i + k) < m := by rw [hzs _ (by omega)]; exact mod_bd hm _
    have bm := mod_bd hm (gt xs i * gt ys k)
    have w8 : IntKind.i64.wrap (gt zs (i + k) + gt xs i * gt ys k % m) = gt zs (i + k) + gt xs i * gt ys k % m := wrapI (by omega) (by omega)
    simp [q_impl_Series_times_0, hlt2, t, hgt, BA, BO, w4, q5, q6, show b6 < h8.nx by omega, show b < h8.nx by omega, show o < h8.nx by omega]
    refine s_impl_mul hm hm2 bx.1 by_.1 (mul_bd hm2 bx by_).2 ⟨keepB_refl _ _, ?_⟩
    simp [w8, BA, m0, q5, Int.tmod_eq_emod_of_nonneg (show 0 ≤ gt zs (i + k) + gt xs i * gt ys k % m by omega), show b < h8.nx by omega, w5]
    refine storeI hbk (by omega) fun h9 u9 => ?_
    refine hK2 _ _ _ (by omega) ⟨k + 1, _, rfl, by omega, rfl, E8.upd u9, by simp [hz], u9.bk, fun n hn => ?_⟩
    rw [gt_set]
    by_cases hn2 : i + k = n
    · subst hn2
      rw [if_pos ⟨rfl, by omega⟩, if_pos (by omega), hzs _ hn, if_neg (by omega), Int.add_zero, Int.emod_add_emod, show i + k - i = k by omega]
    · rw [if_neg (fun h2 => hn2 h2.1), hzs _ hn]
      congr 2
      by_cases h3 : i ≤ n ∧ n < i + k
      · rw [if_pos h3, if_pos (by omega)]
      · rw [if_neg h3, if_neg (by omega)]
  · have hk' : k = n2 - i := by omega
    have w5 : IntKind.i64.wrap ((i : Int) + 1) = i + 1 := wrapI (by omega) (by omega)
    simp [q_impl_Series_times_0, hlt2]
    refine hK3 _ _ fun e he => ?_
    simp at he
    simp [he, w5]
    refine hK _ _ _ (by omega) ⟨i + 1, zs, rfl, by omega, rfl, E8, hz, hbk, fun n hn => ?_⟩
    rw [hzs n hn, ps_succ]
    congr 2
    by_cases h3 : i ≤ n
    · rw [if_pos h3, if_pos (by omega)]
    · rw [if_neg h3, if_neg (by omega)]

theorem addL_const {m c : Int} {X : List Int} {D : Nat} (hX : Nums m X) (hl : X.length = D + 1) : addL m X ((List.replicate (D + 1) 0).set 0 (c % m)) = addC m X c := by
  refine (gt_ext (by simp [addC]) fun i hi => ?_)
  simp only [addL_len] at hi
  have := hX.gt hi
  rw [addL, gt_tab hi, gt_set, addC, gt_set]
  by_cases h : 0 = i
  · subst h
    rw [if_pos ⟨rfl, by simp⟩, if_pos ⟨rfl, by omega⟩, Int.add_emod_emod]
  · rw [if_neg (fun h2 => h h2.1), if_neg (fun h2 => h h2.1), rep_tab, gt_tab (by omega), Int.add_zero, Int.emod_eq_of_lt this.1 this.2]

theorem s_impl_Series_compose {m m' : Int} {A B : Option Addr} {a f : List Int} {D n n2 c : Nat} {h : Hp} {R : Value → Hp → Prop} (ha : RI h A a) (hf : RI h B f) (hn : n = D + 1) (hn2 : n2 = D + 1) (hm : 2 ≤ m) (hm2 : m ≤ 3000000000)
    (hx : Nums m a) (hy : Nums m f) (hD : D ≤ 100000) (hal : a.length = D + 1) (hfl : f.length = D + 1)
    (hR : ∀ v h', HE h h' → FS h h' v m (compL m D a f) → R v h') : CallW FF n_impl_Series_compose [sv m A n c, sv m' B n2 1] h R := by
  subst hn; subst hn2
  refine w_impl_Series_compose ?_
  simp [p_impl_Series_compose]
  refine newB_i fun b h1 eb en eh eB => ?_
  refine newB_i fun b2 h2 eb2 en2 eh2 eB2 => ?_
  refine newB_i fun b3 h3 eb3 en3 eh3 eB3 => ?_
  have E3 := (eh.trans eh2).trans eh3
  simp [box2 ((eh2.trans eh3).to eB (by omega))]
  refine s_impl_Series_constant (D := D) rfl (by omega) (by omega) hm2 fun v h4 e4 f4 => ?_
  obtain ⟨o, rfl, f5, f6, f7⟩ := f4
  have hz0 : (List.replicate (D + 1) (0 : Int)).set 0 (0 % m) = List.replicate (D + 1) 0 := by
    refine gt_ext (by simp) fun i hi => ?_
    rw [gt_set]; split
    · rename_i hc; rw [← hc.1, rep_tab, gt_tab (by omega)]; simp
    · rfl
  rw [hz0] at f7
  simp
  refine newB_i fun b6 h6 eb6 en6 eh6 eB6 => ?_
  refine storeBox2 eB6 rfl rfl rfl rfl fun h7 u7 => ?_
  have n4 := e4.nx; have n7 := u7.nx
  have E7 : HE h h7 := u7.he ((E3.trans e4).trans eh6) (by omega)
  have C5 := e4.trans eh6
  have B1 := u7.to (((eh2.trans eh3).trans C5).to eB (by omega)) (by omega)
  have B2 := u7.to ((eh3.trans C5).to eB2 (by omega)) (by omega)
  have B3 := u7.to (C5.to eB3 (by omega)) (by omega)
  have B5 := u7.to (eh6.to f7 (by omega)) (by omega)
  simp [box2 B1]
  refine s_impl_Series_degree (by omega) fun h8 e8 => ?_
  have n8 := e8.nx
  refine LP1 (fun d vs h' => ∃ (k o : Nat) (y : TypeId), d = D + 1 - k ∧ k ≤ D + 1 ∧ vs = [.pointer (some ⟨b, 0, none⟩), .pointer (some ⟨b2, 0, none⟩), .pointer (some ⟨b3, 0, none⟩), .pointer (some ⟨b6, 0, none⟩), i6 ((D : Int) - k)] ∧
     HX b6 h8 h' ∧ h'.bk b6 = some ⟨[i6 m, .slice (some ⟨o, 0, none⟩) (D + 1) 1], y, true⟩ ∧ h.nx ≤ o ∧ o < h'.nx ∧ o ≠ b6 ∧ h'.bk o = some ⟨mapI (horn m D a f D k), y_t_int64, true⟩ ∧ o ≠ b3) ?_ _ _ _
     ⟨0, o, _, rfl, by omega, by simp, HX.refl _ _, e8.to u7.bk (by omega), by omega, by omega, by omega, e8.to B5 (by omega), by omega⟩
  rintro d vs h9 ⟨k, p, y, rfl, hk, rfl, E9, hb6, hp1, hp2, hp3, hp4, hp5⟩ K K1 hK hK1
  refine wl_impl_Series_compose_0 ?_
  have n9 := E9.nx
  have HE9 := E9.out (E7.trans e8) (by omega)
  have BA1 := E9.to (e8.to B1 (by omega)) (by omega) (by omega)
  have BB := box2 (E9.to (e8.to B2 (by omega)) (by omega) (by omega))
  have BC := E9.to (e8.to B3 (by omega)) (by omega) (by omega)
  have BO := box2 hb6
  by_cases hlt : k ≤ D
  case neg =>
    have : k = D + 1 := by omega
    subst this
    have g0 : ¬ (D : Int) + 1 ≤ (D : Int) := by omega
    simp [q_impl_Series_compose_0, g0]
    refine hK1 _ _ fun e he => ?_
    simp at he
    simp [he, BO]
    refine storeBox2 BC rfl rfl rfl rfl fun h10 u10 => ?_
    simp [box2 u10.bk]
    refine hR _ _ (u10.he HE9 (by omega)) ⟨p, by simp, hp1, by rw [u10.nx]; omega, ?_⟩
    rw [u10.ot _ hp5, hp4, compL, hal, show min (D + 1 - 1) D = D by omega]
  have g0 : (k : Int) ≤ D := by omega
  simp [q_impl_Series_compose_0, g0, BO, BB]
  refine s_impl_Series_times (N := D + 1) (RI.of_block hp2 hp4) (hf.mono HE9) rfl rfl (by omega) hm2 (nums_horn (by omega) D a f D k) hy (by omega) (by omega) (by simp) hfl fun v h10 e10 f10 => ?_
  obtain ⟨q, rfl, f11, f12, f13⟩ := f10
  refine ⟨e10.keep, ?_⟩
  have n10 := e10.nx
  have BA := box2 (e10.to BA1 (by omega))
  have r := (ha.mono (HE9.trans e10)).at c (e := (D : Int) - k) (i := D - k) (n := D + 1) (by omega) hal.symm (by omega)
  have iA := (ha.mono HE9).inb (HE.refl _) (i := D - k) (by omega)
  simp [BA, r, iA, show b < h9.nx by omega]
  refine s_impl_Series_constant (D := D) rfl (by omega) (by omega) hm2 fun v h11 e11 f11' => ?_
  obtain ⟨r2, rfl, f21, f22, f23⟩ := f11'
  simp
  refine s_impl_Series_plus (RI.of_block (by have := e11.nx; omega) (e11.to f13 f12)) (RI.of_block f22 f23) (by simp) (by simp) (by omega) hm2 (nums_mulL (by omega) _ _ _) (nums_set (nums_rep (by omega) _) (mod_bd (by omega) _)) (by simp) (by simp; omega) (by simp) fun v h12 e12 f31 => ?_
  obtain ⟨s, rfl, f32, f33, f34⟩ := f31
  have n11 := e11.nx; have n12 := e12.nx
  have F := (e10.trans e11).trans e12
  simp
  refine storeBox2 (F.to hb6 (by omega)) rfl rfl rfl rfl fun h13 u13 => ?_
  have n13 := u13.nx
  simp [show IntKind.i64.wrap ((D : Int) - k - 1) = D - (k + 1 : Nat) by rw [wrapI] <;> omega]
  refine hK _ _ _ (by omega) ⟨k + 1, s, y, rfl, by omega, by simp, (E9.he F).upd u13, u13.bk, by omega, by omega, by omega, ?_, by omega⟩
  rw [u13.ot _ (by omega), f34, addL_const (nums_mulL (by omega) _ _ _) (by simp)]; rfl
end XM

/- The program's series: powers, curves. -/
namespace XM
open Go

/-- The cells of a list of series. -/
def serC (L : List Ser) : List Value := L.flatMap fun e => [i6 e.m, .slice e.A e.xs.length e.c]
theorem serC_len (L : List Ser) : (serC L).length = L.length * 2 := by
  induction L with
  | nil => rfl
  | cons e L ih => simp [serC] at ih ⊢; omega
theorem serC_get {L : List Ser} : ∀ {i : Nat} {e : Ser}, L[i]? = some e → (serC L)[i * 2]? = some (i6 e.m) ∧ (serC L)[i * 2 + 1]? = some (.slice e.A e.xs.length e.c) := by
  induction L with
  | nil => intro i e h; simp at h
  | cons x L ih =>
    intro i e h
    cases i with
    | zero => cases h; exact ⟨rfl, rfl⟩
    | succ i =>
      have := ih (i := i) (e := e) (by simpa using h)
      rw [show (i + 1) * 2 = i * 2 + 2 by omega]
      exact this

/-- A list of series of the function's own. -/
structure OS (lo : Nat) (h : Hp) (b : Nat) (L : List Ser) : Prop where
  lob : lo ≤ b
  ltb : b < h.nx
  top : h.bk b = some ⟨serC L, y_t_impl_Series, true⟩
  el : ∀ (i : Nat) (e : Ser), L[i]? = some e → RI (msk h fun x => x = b ∨ x < lo) e.A e.xs

theorem OS.mono {lo : Nat} {h h' : Hp} {b : Nat} {L : List Ser} (t : OS lo h b L) (e : HE h h') : OS lo h' b L :=
  ⟨t.lob, Nat.lt_of_lt_of_le t.ltb e.nx, e.to t.top t.ltb, fun i x hx => (t.el i x hx).mos (msk_to e.nx fun c hc hne => ⟨e.bk c hc, hne⟩)⟩
theorem OS.rs {lo : Nat} {h : Hp} {b : Nat} {L : List Ser} (t : OS lo h b L) : RS h (some ⟨b, 0, none⟩) L :=
  ⟨fun _ => ⟨b, 0, _, rfl, t.ltb, t.top, fun i e he => by simpa using serC_get he⟩, fun i e he => (t.el i e he).mos (msk_hs _)⟩

/-- A series is put at the end of the list. -/
theorem pushS {lo : Nat} {h : Hp} {b n ne : Nat} {L : List Ser} {y' : TypeId} {e : Ser} {K : Value → Hp → Prop} (t : OS lo h b L) (hn : n = L.length) (hne : ne = e.xs.length) (hmax : n + 1 ≤ sizeMax) (hr : RI (msk h fun x => x = b ∨ x < lo) e.A e.xs)
    (hk : ∀ b' h', OS lo h' b' (L ++ [e]) → (∀ c, c < h.nx → c ≠ b → h'.bk c = h.bk c) → h.nx < b' → b' < h'.nx → K (.slice (some ⟨b', 0, none⟩) (n + 1) 2) h') :
    newB h ⟨[i6 e.m, .slice e.A ne e.c], y', true⟩ fun b1 h1 => bindVH (appendV y_t_impl_Series 2 h1 (.slice (some ⟨b, 0, none⟩) n 2) (.slice (some ⟨b1, 0, none⟩) 1 2)) K := by
  subst hne
  refine ⟨?_⟩
  have hlt := t.ltb
  have h1 : (h.new ⟨[i6 e.m, .slice e.A e.xs.length e.c], y', true⟩).bk b = some ⟨serC L, y_t_impl_Series, true⟩ := by rw [new_bk, if_neg (by omega)]; exact t.top
  have h2 : (h.new ⟨[i6 e.m, .slice e.A e.xs.length e.c], y', true⟩).cellsOf 2 (.slice (some ⟨h.nx, 0, none⟩) 1 2) = some [i6 e.m, .slice e.A e.xs.length e.c] := by simp [Hp.cellsOf]
  subst hn
  have hl : (serC L).length = L.length * 2 := serC_len L
  have ev : appendV y_t_impl_Series 2 (h.new ⟨[i6 e.m, .slice e.A e.xs.length e.c], y', true⟩) (.slice (some ⟨b, 0, none⟩) L.length 2) (.slice (some ⟨h.nx, 0, none⟩) 1 2) =
      some (.slice (some ⟨h.nx + 1, 0, none⟩) (L.length + 1) 2, ((h.new ⟨[i6 e.m, .slice e.A e.xs.length e.c], y', true⟩).set b none).new ⟨serC L ++ [i6 e.m, .slice e.A e.xs.length e.c], y_t_impl_Series, true⟩) := by
    simp [appendV, XK.eff, h2, show b ≠ h.nx by omega, t.top, hl, hmax]
  rw [ev, bindVH_some]
  have ot : ∀ c, c < h.nx → c ≠ b → (((h.new ⟨[i6 e.m, .slice e.A e.xs.length e.c], y', true⟩).set b none).new ⟨serC L ++ [i6 e.m, .slice e.A e.xs.length e.c], y_t_impl_Series, true⟩).bk c = h.bk c := fun c hc hne => by
    rw [new_bk, if_neg (by simp; omega), set_bk, if_neg hne, new_bk, if_neg (by omega)]
  have S : HS (msk h fun x => x = b ∨ x < lo) (msk (((h.new ⟨[i6 e.m, .slice e.A e.xs.length e.c], y', true⟩).set b none).new ⟨serC L ++ [i6 e.m, .slice e.A e.xs.length e.c], y_t_impl_Series, true⟩) fun x => x = h.nx + 1 ∨ x < lo) :=
    msk_to (by simp; omega) fun c hc hne => ⟨ot c hc (by omega), by omega⟩
  refine hk (h.nx + 1) _ ⟨by have := t.lob; omega, by simp, by simp [serC], fun i x hx => ?_⟩ ot (by omega) (by simp)
  by_cases hi : i < L.length
  · rw [List.getElem?_append_left hi] at hx
    exact (t.el i x hx).mos S
  · rw [List.getElem?_append_right (by omega)] at hx
    cases hj : i - L.length with
    | zero => rw [hj] at hx; cases hx; exact hr.mos S
    | succ j => rw [hj] at hx; simp at hx

/-- The powers of a series, one after the other. -/
def powS (m : Int) (D : Nat) (a : List Int) (PA : Nat → Option Addr) : Nat → List Ser
  | 0 => []
  | k + 1 => powS m D a PA k ++ [⟨m, PA k, 1, powL m D a k⟩]
@[simp] theorem powS_len (m : Int) (D : Nat) (a : List Int) (PA : Nat → Option Addr) (k : Nat) : (powS m D a PA k).length = k := by
  induction k with
  | zero => rfl
  | succ k ih => simp [powS, ih]
theorem powS_get {m : Int} {D : Nat} {a : List Int} {PA : Nat → Option Addr} {k i : Nat} (h : i < k) : (powS m D a PA k)[i]? = some ⟨m, PA i, 1, powL m D a i⟩ := by
  induction k with
  | zero => omega
  | succ k ih =>
    rw [powS]
    by_cases hi : i < k
    · rw [List.getElem?_append_left (by simpa using hi)]; exact ih hi
    · have : i = k := by omega
      subst this
      rw [List.getElem?_append_right (by simp)]; simp
theorem powS_upd {m : Int} {D : Nat} {a : List Int} {PA : Nat → Option Addr} {A : Option Addr} {k j : Nat} (h : k ≤ j) : powS m D a (updF PA j A) k = powS m D a PA k := by
  induction k with
  | zero => rfl
  | succ k ih => rw [powS, powS, ih (by omega), updF_ne (by omega)]

theorem s_impl_Series_powers {m : Int} {A : Option Addr} {a : List Int} {n D : Nat} {h : Hp} {R : Value → Hp → Prop} (ha : RI h A a) (hn : n = D + 1) (hl : a.length = D + 1) (hm : 2 ≤ m) (hm2 : m ≤ 3000000000)
    (hx : Nums m a) (hD : D ≤ 100000)
    (hR : ∀ b PA h', HE h h' → OS h.nx h' b (powS m D a PA (D + 1)) → R (.slice (some ⟨b, 0, none⟩) (D + 1) 2) h') : CallW FF n_impl_Series_powers [sv m A n 1] h R := by
  subst hn
  refine w_impl_Series_powers ?_
  simp [p_impl_Series_powers]
  refine newB_i fun b h1 eb en eh eB => ?_
  simp [box2 eB]
  refine s_impl_Series_constant (D := D) rfl (by omega) (by omega) hm2 fun v h2 e2 f2 => ?_
  obtain ⟨o, rfl, f2, f3, f4⟩ := f2
  simp [rowV_ser]
  refine newB_i fun b3 h3 eb3 en3 eh3 eB3 => ?_
  have n2 := e2.nx
  have E3 := (eh.trans e2).trans eh3
  simp [box2 ((e2.trans eh3).to eB (by omega))]
  refine s_impl_Series_degree (by omega) fun h4 e4 => ?_
  have n4 := e4.nx
  have one : (List.replicate (D + 1) (0 : Int)).set 0 (1 % m) = powL m D a 0 := by rw [powL, oneL, Int.emod_eq_of_lt (by omega) (by omega)]
  rw [one] at f4
  have S0 : OS h.nx h4 b3 (powS m D a (fun _ => some ⟨o, 0, none⟩) 1) := ⟨by omega, by omega, by rw [e4.bk _ (by omega), eB3]; simp [powS, serC], fun i e he => by
    cases i with
    | zero =>
      simp [powS] at he; subst he
      exact RI.of_block (by simp; omega) ((msk_bk (by omega)).trans ((eh3.trans e4).to f4 f3))
    | succ i => simp [powS] at he⟩
  refine LP1 (fun d vs h' => ∃ (k b' : Nat) (PA : Nat → Option Addr), d = D - k ∧ k ≤ D ∧ vs = [.pointer (some ⟨b, 0, none⟩), .slice (some ⟨b', 0, none⟩) (k + 1) 2, i6 D, i6 k] ∧ HE h1 h' ∧ OS h.nx h' b' (powS m D a PA (k + 1)) ∧ b < b') ?_ _ _ _
    ⟨0, b3, fun _ => some ⟨o, 0, none⟩, rfl, by omega, by simp, (e2.trans eh3).trans e4, S0, by omega⟩
  rintro d vs h5 ⟨k, b', PA, rfl, hk, rfl, E5, S5, hbb⟩ K K1 hK hK1
  refine wl_impl_Series_powers_0 ?_
  have bx := box2 (E5.to eB (by omega))
  by_cases hlt : k < D
  case neg =>
    have : k = D := by omega
    subst this
    simp [q_impl_Series_powers_0]
    refine hK1 _ _ fun e he => ?_
    simp at he; rw [he]
    exact hR _ _ _ (eh.trans E5) S5
  have r := S5.rs.at 2 (e := (k : Int)) (i := k) (n := k + 1) rfl (by simp) (powS_get (by omega))
  have w1 : IntKind.i64.wrap (k : Int) = k := wrapI (by omega) (by omega)
  have w2 : IntKind.i64.wrap ((k : Int) + 1) = k + 1 := wrapI (by omega) (by omega)
  have E05 := eh.trans E5
  simp [q_impl_Series_powers_0, hlt, w1, r, bx]
  refine s_impl_Series_times (N := D + 1) (S5.rs.el k _ (powS_get (by omega))) (ha.mono E05) rfl rfl (by omega) hm2 (nums_powL hm D a k) hx (by omega) (by omega) (by simp) hl fun v h6 e6 f6 => ?_
  obtain ⟨q, rfl, f7, f8, f9⟩ := f6
  simp [rowV_ser, w2]
  have n5 := E5.nx; have n6 := e6.nx
  have sl := S5.ltb; have sb := S5.lob
  refine pushS (e := ⟨m, some ⟨q, 0, none⟩, 1, powL m D a (k + 1)⟩) (S5.mono e6) (by simp) (by simp) (by unfold sizeMax; omega) ?_ fun b7 h7 S7 ot7 n7 n8 => ?_
  · exact RI.of_block f8 ((msk_bk (by omega)).trans f9)
  have he1 : HE h1 h7 := ⟨by omega, fun c hc => by rw [ot7 c (by omega) (by omega), e6.bk c (by omega), E5.bk c hc]⟩
  refine hK _ _ _ (by omega) ⟨k + 1, b7, updF PA (k + 1) (some ⟨q, 0, none⟩), rfl, by omega, by simp, he1, ?_, ?_⟩
  · rw [powS, powS_upd (by omega), updF_eq]; exact S7
  · omega

/-- The sum of the products of powers. -/
theorem s_impl_Plane_curves {m m1 m2 : Int} {A B C : Option Addr} {Rr : Nat → Option Addr} {T : List (List Int)} {f g : List Int} {D ca n n2 n3 : Nat} {h : Hp} {R : Value → Hp → Prop} (hT : RT h A Rr T) (hf : RI h B f) (hg : RI h C g) (hn : n = D + 1) (hn2 : n2 = D + 1) (hn3 : n3 = D + 1) (hTl : T.length = D + 1)
    (hfl : f.length = D + 1) (hgl : g.length = D + 1) (hrl : ∀ i, i < T.length → (row T i).length ≤ D + 1) (hrn : ∀ i, i < T.length → Nums m (row T i)) (hm : 2 ≤ m) (hm2 : m ≤ 3000000000) (hx : Nums m f) (hy : Nums m g) (hD : D ≤ 100000) (e1 : m1 = m) (e2 : m2 = m)
    (hR : ∀ v h', HE h h' → FS h h' v m (putL m D T f g) → R v h') : CallW FF n_impl_Plane_curves [sv m A n ca, sv m1 B n2 1, sv m2 C n3 1] h R := by
  subst hn; subst hn2; subst hn3; subst e1; subst e2
  refine w_impl_Plane_curves ?_
  simp [p_impl_Plane_curves]
  refine newB_i fun b h1 eb en eh eB => ?_
  refine newB_i fun b2 h2 eb2 en2 eh2 eB2 => ?_
  refine newB_i fun b3 h3 eb3 en3 eh3 eB3 => ?_
  refine newB_i fun b4 h4 eb4 en4 eh4 eB4 => ?_
  have E4 := ((eh.trans eh2).trans eh3).trans eh4
  simp [box2 ((eh3.trans eh4).to eB2 (by omega)), show b2 < h4.nx by omega, show b3 < h4.nx by omega]
  refine s_impl_Series_constant (D := D) rfl (by omega) (by omega) hm2 fun v h5 e5 f5 => ⟨e5.keep, ?_⟩
  obtain ⟨o, rfl, f5, f6, f7⟩ := f5
  have n5 := e5.nx
  have hz0 : (List.replicate (D + 1) (0 : Int)).set 0 (0 % m2) = List.replicate (D + 1) 0 := by
    refine gt_ext (by simp) fun i hi => ?_
    rw [gt_set]; split
    · rename_i hc; rw [← hc.1, rep_tab, gt_tab (by omega)]; simp
    · rfl
  rw [hz0] at f7
  simp [box2 (((eh3.trans eh4).trans e5).to eB2 (by omega))]
  refine s_impl_Series_powers (hf.mono (E4.trans e5)) rfl hfl hm hm2 hx hD fun P PA h6 e6 P6 => ⟨e6.keep' (by omega), ?_⟩
  have n6 := e6.nx
  simp [box2 ((eh4.trans (e5.trans e6)).to eB3 (by omega))]
  refine s_impl_Series_powers (hg.mono ((E4.trans e5).trans e6)) rfl hgl hm hm2 hy hD fun Q QA h7 e7 Q7 => ?_
  have n7 := e7.nx
  have P7 := P6.mono e7
  refine newB_i fun b8 h8 eb8 en8 eh8 eB8 => ?_
  refine storeBox2 eB8 rfl rfl rfl rfl fun h9 u9 => ?_
  have n9 := u9.nx
  have C9 := ((e5.trans e6).trans e7).trans eh8
  have B1 := u9.to (((eh2.trans (eh3.trans eh4)).trans C9).to eB (by omega)) (by omega)
  have B4 := u9.to (C9.to eB4 (by omega)) (by omega)
  have BO := u9.to (((e6.trans e7).trans eh8).to f7 (by omega)) (by omega)
  have E9 : HE h h9 := u9.he (E4.trans C9) (by omega)
  have L79 : HE h7 h9 := u9.he eh8 (by omega)
  have P9 := P7.mono L79
  have Q9 := Q7.mono L79
  simp [box2 B1]
  refine LP1 (fun d vs h' => ∃ (i o : Nat) (y : TypeId) (out : List Int), d = D + 1 - i ∧ i ≤ D + 1 ∧ vs = [.pointer (some ⟨b4, 0, none⟩), .pointer (some ⟨b8, 0, none⟩), .slice (some ⟨P, 0, none⟩) (D + 1) 2, .slice (some ⟨Q, 0, none⟩) (D + 1) 2, .slice A (D + 1) ca, i6 ((D + 1 : Nat) : Int), i6 i] ∧
     HX b8 h9 h' ∧ h'.bk b8 = some ⟨[i6 m2, .slice (some ⟨o, 0, none⟩) (D + 1) 1], y, true⟩ ∧ h.nx ≤ o ∧ o < h'.nx ∧ o ≠ b8 ∧ o ≠ b4 ∧ h'.bk o = some ⟨mapI out, y_t_int64, true⟩ ∧ out.length = D + 1 ∧ Nums m2 out ∧ ∀ n, n < D + 1 → gt out n = pt T (powL m2 D f) (powL m2 D g) i n % m2) ?_ _ _ _
     ⟨0, o, _, List.replicate (D + 1) 0, rfl, by omega, by simp, HX.refl _ _, u9.bk, by omega, by omega, by omega, by omega, BO, by simp, nums_rep (by omega) _, fun n hn => by rw [rep_tab, gt_tab (by omega)]; simp [pt, sm]⟩
  rintro d vs h10 ⟨i, p, y, out, rfl, hi, rfl, E10, hb8, hp1, hp2, hp3, hp4, hbk, hol, hon, hout⟩ K K1 hK hK1
  refine wl_impl_Plane_curves_1 ?_
  have n10 := E10.nx
  have HE10 := E10.out E9 (by omega)
  by_cases hlt : i < D + 1
  case neg =>
    have : i = D + 1 := by omega
    subst this
    simp [q_impl_Plane_curves_1]
    refine hK1 _ _ fun e he => ?_
    simp at he
    simp [he, box2 hb8]
    refine storeBox2 (E10.to B4 (by omega) (by omega)) rfl rfl rfl rfl fun h11 u11 => ?_
    simp [box2 u11.bk]
    refine hR _ _ (u11.he HE10 (by omega)) ⟨p, by simp, hp1, by rw [u11.nx]; omega, ?_⟩
    rw [u11.ot _ hp4, hbk, show out = putL m2 D T f g from eq_tab hol hout]
  have T10 := hT.mono HE10
  have r := T10.at ca (e := i) rfl hTl.symm (by omega)
  have hlt' : (i : Int) < (D : Int) + 1 := by omega
  have w1 : IntKind.i64.wrap ((i : Int) + 1) = i + 1 := wrapI (by omega) (by omega)
  simp [q_impl_Plane_curves_1, hlt', r]
  have hlen := hrl i (by omega)
  refine LP1 (fun d vs h' => ∃ (j o : Nat) (y : TypeId) (out : List Int), d = D + 1 - j ∧ j ≤ (row T i).length ∧ vs = [.pointer (some ⟨b4, 0, none⟩), .pointer (some ⟨b8, 0, none⟩), .slice (some ⟨P, 0, none⟩) (D + 1) 2, .slice (some ⟨Q, 0, none⟩) (D + 1) 2, i6 i, .slice A (D + 1) ca, i6 ((D + 1 : Nat) : Int), i6 i, .slice (Rr i) (row T i).length 1, i6 (row T i).length, i6 j] ∧
     HX b8 h9 h' ∧ h'.bk b8 = some ⟨[i6 m2, .slice (some ⟨o, 0, none⟩) (D + 1) 1], y, true⟩ ∧ h.nx ≤ o ∧ o < h'.nx ∧ o ≠ b8 ∧ o ≠ b4 ∧ h'.bk o = some ⟨mapI out, y_t_int64, true⟩ ∧ out.length = D + 1 ∧ Nums m2 out ∧ ∀ n, n < D + 1 → gt out n = (pt T (powL m2 D f) (powL m2 D g) i n + ptI T (powL m2 D f) (powL m2 D g) i j n) % m2) ?_ _ _ _
     ⟨0, p, y, out, rfl, by omega, by simp, E10, hb8, hp1, hp2, hp3, hp4, hbk, hol, hon, fun n hn => by rw [hout n hn]; simp [ptI, sm]⟩
  clear hout hon hol hbk hp4 hp3 hp2 hp1 hb8 r T10 HE10 n10 E10 out y p h10
  rintro d vs h10 ⟨j, p, y, out, rfl, hj, rfl, E10, hb8, hp1, hp2, hp3, hp4, hbk, hol, hon, hout⟩ K2 K3 hK2 hK3
  refine wl_impl_Plane_curves_0 ?_
  have n10 := E10.nx
  have HE10 := E10.out E9 (by omega)
  have w2 : IntKind.i64.wrap ((j : Int) + 1) = j + 1 := wrapI (by omega) (by omega)
  by_cases hjl : j < (row T i).length
  case neg =>
    have : j = (row T i).length := by omega
    subst this
    simp [q_impl_Plane_curves_0]
    refine hK3 _ _ fun e he => ?_
    simp at he; simp [he, w1]
    exact hK _ _ _ (by omega) ⟨i + 1, p, y, out, rfl, by omega, by simp, E10, hb8, hp1, hp2, hp3, hp4, hbk, hol, hon, fun n hn => by rw [hout n hn]; rfl⟩
  have T10 := hT.mono HE10
  have t := T10.el 1 (e := j) (i := i) (j := j) (n := (row T i).length) (by omega) rfl rfl hjl
  have bT := (hrn i (by omega)).gt hjl
  by_cases h0 : gt (row T i) j = 0
  · simp [q_impl_Plane_curves_0, hjl, t, h0, w2]
    refine hK2 _ _ _ (by omega) ⟨j + 1, p, y, out, rfl, by omega, by simp, E10, hb8, hp1, hp2, hp3, hp4, hbk, hol, hon, fun n hn => ?_⟩
    rw [hout n hn]; simp [ptI, sm_succ, h0]
  have E710 := E10.out L79 (by omega)
  have rp := (P7.rs.mono E710).at 2 (e := i) (i := i) (n := D + 1) rfl (by simp) (powS_get (by omega))
  have rq := (Q7.rs.mono E710).at 2 (e := j) (i := j) (n := D + 1) rfl (by simp) (powS_get (by omega))
  simp [q_impl_Plane_curves_0, hjl, t, h0, show b8 < h10.nx by omega, box2 hb8, rp, rq]
  refine s_impl_Series_times (N := D + 1) ((P7.rs.mono E710).el i _ (powS_get (by omega))) ((Q7.rs.mono E710).el j _ (powS_get (by omega))) rfl rfl (by omega) hm2 (nums_powL hm D f i) (nums_powL hm D g j) (by omega) (by omega) (by simp) (by simp) fun v h11 e11 f11 => ⟨e11.keep, ?_⟩
  obtain ⟨x, rfl, hx1, hx2, hx3⟩ := f11
  simp only [mulL_len]
  refine s_impl_Series_scaled (RI.of_block hx2 hx3) (by simp) (by omega) hm2 (nums_mulL (by omega) _ _ _) (by simp) (by simp; omega) fun v h12 e12 f12 => ⟨e12.keep' (by have := e11.nx; omega), ?_⟩
  obtain ⟨z, rfl, hz1, hz2, hz3⟩ := f12
  simp only [scaleL_len, mulL_len]
  refine s_impl_Series_plus (RI.mono (RI.of_block hp2 hbk) (e11.trans e12)) (RI.of_block hz2 hz3) (by simp [hol]) (by simp) (by omega) hm2 hon (nums_scaleL (by omega) _ _) (by omega) (by omega) (by simp [hol]) fun v h13 e13 f13 => ?_
  obtain ⟨s, rfl, hs1, hs2, hs3⟩ := f13
  have n11 := e11.nx; have n12 := e12.nx; have n13 := e13.nx
  have F := (e11.trans e12).trans e13
  simp only [addL_len, hol]
  refine storeBox2 (F.to hb8 (by omega)) rfl rfl rfl rfl fun h14 u14 => ?_
  simp [w2]
  refine hK2 _ _ _ (by omega) ⟨j + 1, s, y, _, rfl, by omega, by simp, (E10.he F).upd u14, u14.bk, by omega, by rw [u14.nx]; omega, by omega, by omega, by rw [u14.ot _ (by omega)]; exact hs3, by simp [hol], nums_addL (by omega) _ _, fun n hn => ?_⟩
  rw [put_step hn (hout n hn) hol]
  simp [ptI, sm_succ, Int.add_assoc]
end XM

/- The program's tests: all, IsSeries, IsPlane, fits, isCurveOf. -/
namespace XM
open Go

theorem box1 {h : Hp} {b : Nat} {v : Value} {y : TypeId} (hb : h.bk b = some ⟨[v], y, true⟩) : ldV 1 false h (.pointer (some ⟨b, 0, none⟩)) = some v := by rw [ldV_ptr, hb]; simp

/-- A value that answers bools, and leaves alone what stands. -/
def FnB (h0 : Hp) (fv : Value) (arg : Value) (p : Bool) : Prop := ∀ h' (R : Value → Hp → Prop), HE h0 h' → (∀ h'', HE h' h'' → R (.bool p) h'') → CallV FF fv [arg] h' R

theorem s_IndexFuncI {A : Option Addr} {xs : List Int} {n c : Nat} {fv : Value} {p : Int → Bool} {h : Hp} {R : Value → Hp → Prop} (hr : RI h A xs) (hn : n = xs.length) (hl : n ≤ 1000000) (hf : ∀ x ∈ xs, FnB h fv (i6 x) (p x))
    (hR : ∀ h' k, HE h h' → (0 ≤ k ↔ ∃ x ∈ xs, p x = true) → R (i6 k) h') : CallW FF n_slices_IndexFunc_Lint64_int64 [.slice A n c, fv] h R := by
  subst hn
  refine w_slices_IndexFunc_Lint64_int64 ?_
  simp [p_slices_IndexFunc_Lint64_int64]
  refine LP2 (fun d vs h' => ∃ i : Nat, d = xs.length - i ∧ i ≤ xs.length ∧ HE h h' ∧ vs = [.slice A xs.length c, fv, i6 xs.length, i6 i] ∧ ∀ j, j < i → p (gt xs j) = false) ?_ _ _ _ ⟨0, rfl, by omega, HE.refl _, rfl, by omega⟩
  rintro d vs h1 ⟨i, rfl, hi, e1, rfl, hF⟩ K K1 K2 hK hK1 hK2
  refine wl_slices_IndexFunc_Lint64_int64_0 ?_
  by_cases hlt : i < xs.length
  · have r := (hr.mono e1).at c (e := i) rfl rfl hlt
    simp [q_slices_IndexFunc_Lint64_int64_0, hlt, r]
    refine hf _ (gt_mem hlt) _ _ e1 fun h2 e2 => ?_
    cases hp : p (gt xs i) with
    | true =>
      simp
      refine hK2 _ _ fun e he => ?_
      simp at he; rw [he]
      exact hR _ _ (e1.trans e2) ⟨fun _ => ⟨_, gt_mem hlt, hp⟩, fun _ => by omega⟩
    | false =>
      simp [wrapI (n := (i : Int) + 1) (by omega) (by omega)]
      exact hK _ _ _ (by omega) ⟨i + 1, rfl, by omega, e1.trans e2, rfl, fun j hj => by
        by_cases h : j = i
        · subst h; exact hp
        · exact hF j (by omega)⟩
  · simp [q_slices_IndexFunc_Lint64_int64_0, hlt]
    refine hK1 _ _ fun e => hR _ _ e1 ⟨fun h => by omega, fun ⟨x, hx, hp⟩ => ?_⟩
    obtain ⟨j, hj, rfl⟩ := List.getElem_of_mem hx
    have := hF j (by omega)
    rw [gt_get hj, hp] at this; cases this

theorem s_allI {A : Option Addr} {xs : List Int} {n c : Nat} {g : FuncId} {fs cs : Array Value} {p : Int → Bool} {h : Hp} {R : Value → Hp → Prop} (hr : RI h A xs) (hn : n = xs.length) (hl : n ≤ 1000000) (hf : ∀ x ∈ xs, FnB h (.func (.func g) fs cs) (i6 x) (p x))
    (hR : ∀ h', HE h h' → R (.bool (xs.all p)) h') : CallW FF n_impl_all_int64 [.slice A n c, .func (.func g) fs cs] h R := by
  refine w_impl_all_int64 ?_
  simp [p_impl_all_int64]
  refine newB_i fun b h1 eb en eh eB => ?_
  refine w_slices_ContainsFunc_Lint64_int64 ?_
  refine s_IndexFuncI (p := fun x => !p x) (hr.mono eh) hn hl ?_ ?_
  · intro x hx h2 R2 e2 hR2
    simp
    refine w_impl_all_int64__c1 ?_
    simp only [p_impl_all_int64__c1, box1 (e2.to eB (by omega)), bindO_some]
    refine hf x hx _ _ (eh.trans e2) fun h3 e3 => ?_
    simp
    exact hR2 _ e3
  · intro h2 k e2 hk
    simp
    have : (xs.all p) = !decide (0 ≤ k) := by
      rw [Bool.eq_iff_iff]
      simp only [List.all_eq_true, Bool.not_eq_true', decide_eq_false_iff_not]
      rw [hk]
      constructor
      · rintro h ⟨x, hx, hp⟩; have := h x hx; simp [this] at hp
      · intro h x hx
        cases hp : p x with
        | true => rfl
        | false => exact (h ⟨x, hx, by simp [hp]⟩).elim
    have h3 := hR _ (eh.trans e2)
    rw [this] at h3; simpa using h3

theorem nums_all {m : Int} {xs : List Int} : xs.all (fun x => decide (0 ≤ x ∧ x < m)) = decide (Nums m xs) := by
  rw [Bool.eq_iff_iff, decide_eq_true_iff]; simp [Nums]

theorem s_impl_IsSeries {m : Int} {A : Option Addr} {xs : List Int} {n c : Nat} {h : Hp} {R : Value → Hp → Prop} (hr : RI h A xs) (hn : n = xs.length) (hl : n ≤ 1000000)
    (hR : ∀ h', HE h h' → R (.bool (decide (IsS m xs))) h') : CallW FF n_impl_IsSeries [sv m A n c] h R := by
  subst hn
  refine w_impl_IsSeries ?_
  simp [p_impl_IsSeries]
  refine newB_i fun b h1 eb en eh eB => ?_
  have bx := box2 eB
  simp [bx]
  refine s_impl_IsModulus ?_
  by_cases c1 : 2 ≤ m ∧ m ≤ 10000
  case neg =>
    have : ¬ IsS m xs := fun h => c1 h.1
    have := hR _ eh
    simpa [*] using this
  simp [c1, bx]
  refine s_impl_Series_degree (by omega) fun h2 e2 => ?_
  refine s_impl_in ?_
  have bx2 := box2 (e2.to eB (by omega))
  by_cases c2 : (1 : Int) ≤ (xs.length : Int) - 1 ∧ (xs.length : Int) - 1 ≤ 10
  case neg =>
    have : ¬ IsS m xs := fun h => c2 (by have := h.2.1; omega)
    have := hR _ (eh.trans e2)
    simpa [*] using this
  simp [c2, bx2]
  refine s_allI (p := fun x => decide (0 ≤ x ∧ x < m)) (hr.mono (eh.trans e2)) rfl hl ?_ fun h3 e3 => ?_
  · intro x hx h3 R3 e3 hR3
    simp
    refine w_impl_IsSeries_c1 ?_
    simp [p_impl_IsSeries_c1, box2 ((e2.trans e3).to eB (by omega))]
    have := hR3 _ (HE.refl _)
    exact s_impl_isNumber (by omega) (by omega) (by simpa using this)
  · rw [nums_all]
    have : (IsS m xs) ↔ Nums m xs := ⟨fun h => h.2.2, fun h => ⟨c1, by omega, h⟩⟩
    have := hR _ ((eh.trans e2).trans e3)
    simpa [*] using this

theorem s_impl_IsPlane {m : Int} {A : Option Addr} {Rr : Nat → Option Addr} {T : List (List Int)} {n c : Nat} {h : Hp} {R : Value → Hp → Prop} (hr : RT h A Rr T) (hn : n = T.length) (hl : n ≤ 1000000) (hrl : ∀ i, i < T.length → (row T i).length ≤ 1000000)
    (hR : ∀ h', HE h h' → R (.bool (decide (IsP m T))) h') : CallW FF n_impl_IsPlane [sv m A n c] h R := by
  subst hn
  refine w_impl_IsPlane ?_
  simp [p_impl_IsPlane]
  refine newB_i fun b h1 eb en eh eB => ?_
  have bx := box2 eB
  simp [bx]
  refine s_impl_IsModulus ?_
  by_cases c1 : 2 ≤ m ∧ m ≤ 10000
  case neg =>
    have : ¬ IsP m T := fun h => c1 h.1
    have := hR _ eh
    simpa [*] using this
  simp [c1, bx]
  refine s_impl_Plane_degree (by omega) fun h2 e2 => ?_
  refine s_impl_in ?_
  have bx2 := box2 (e2.to eB (by omega))
  by_cases c2 : (1 : Int) ≤ (T.length : Int) - 1 ∧ (T.length : Int) - 1 ≤ 10
  case neg =>
    have : ¬ IsP m T := fun h => c2 (by have := h.2.1; omega)
    have := hR _ (eh.trans e2)
    simpa [*] using this
  simp [c2, bx2]
  have E2 := eh.trans e2
  refine LP2 (fun d vs h' => ∃ i : Nat, d = T.length - i ∧ i ≤ T.length ∧ HE h2 h' ∧ vs = [.pointer (some ⟨b, 0, none⟩), .slice A T.length c, i6 T.length, i6 i] ∧ ∀ j, j < i → (row T j).length = T.length - j ∧ Nums m (row T j)) ?_ _ _ _
    ⟨0, rfl, by omega, HE.refl _, rfl, by omega⟩
  rintro d vs h3 ⟨i, rfl, hi, e3, rfl, hN⟩ K K1 K2 hK hK1 hK2
  refine wl_impl_IsPlane_0 ?_
  have E3 := E2.trans e3
  by_cases hlt : i < T.length
  case neg =>
    have : i = T.length := by omega
    subst this
    simp [q_impl_IsPlane_0]
    refine hK1 _ _ fun _ => ?_
    have e1 : IsP m T := ⟨c1, by omega, hN⟩
    simpa [e1] using hR _ E3
  have r := (hr.mono E3).at c (e := i) rfl rfl hlt
  have w1 : IntKind.i64.wrap ((T.length : Int) - i) = T.length - i := wrapI (by omega) (by omega)
  have w2 : IntKind.i64.wrap ((i : Int) + 1) = i + 1 := wrapI (by omega) (by omega)
  have bx3 := box2 ((e2.trans e3).to eB (by omega))
  have fail : ∀ h', HE h3 h' → ¬ ((row T i).length = T.length - i ∧ Nums m (row T i)) → K2 [.bool false] h' := fun h' e' hc => by
    refine hK2 _ _ fun e he => ?_
    simp at he; rw [he]
    have : ¬ IsP m T := fun h => hc (h.2.2 i hlt)
    simpa [this] using hR _ (E3.trans e')
  by_cases c4 : ((row T i).length : Int) = T.length - i
  case neg =>
    simp [q_impl_IsPlane_0, hlt, r, bx3, w1, c4]
    exact fail _ (HE.refl _) fun h => c4 (by omega)
  simp [q_impl_IsPlane_0, hlt, r, bx3, w1, c4]
  refine s_allI (p := fun x => decide (0 ≤ x ∧ x < m)) ((hr.mono E3).rows i hlt) rfl (hrl i hlt) ?_ fun h4 e4 => ?_
  · intro x hx h4 R4 e4 hR4
    simp
    refine w_impl_IsPlane_c1 ?_
    simp [p_impl_IsPlane_c1, box2 (((e2.trans e3).trans e4).to eB (by omega))]
    have := hR4 _ (HE.refl _)
    exact s_impl_isNumber (by omega) (by omega) (by simpa using this)
  · rw [nums_all]
    by_cases c5 : Nums m (row T i)
    · simp [c5, w2]
      refine hK _ _ _ (by omega) ⟨i + 1, rfl, by omega, e3.trans e4, rfl, fun j hj => ?_⟩
      by_cases hj2 : j = i
      · subst hj2; exact ⟨by omega, c5⟩
      · exact hN j (by omega)
    · simp [c5]
      exact fail _ e4 fun h => c5 h.2

end XM

/- The program's planes: emptyPlane, number, times. -/
namespace XM
open Go

/-- What stood before stands, but for the blocks from lo on, below hi. -/
structure HZ (lo hi : Nat) (h h' : Hp) : Prop where
  nx : h.nx ≤ h'.nx
  bk : ∀ b, b < h.nx → (b < lo ∨ hi ≤ b) → h'.bk b = h.bk b
theorem HZ.refl (lo hi : Nat) (h : Hp) : HZ lo hi h h := ⟨Nat.le_refl _, fun _ _ _ => rfl⟩
theorem HZ.upd {lo hi o : Nat} {x : Option Blk} {h h' h'' : Hp} (a : HZ lo hi h h') (u : Upd o x h' h'') (h1 : lo ≤ o) (h2 : o < hi) : HZ lo hi h h'' := ⟨by rw [u.nx]; exact a.nx, fun b hb hne => (u.ot b (by omega)).trans (a.bk b hb hne)⟩
theorem HZ.he {lo hi : Nat} {h h' h'' : Hp} (a : HZ lo hi h h') (e : HE h' h'') : HZ lo hi h h'' := ⟨Nat.le_trans a.nx e.nx, fun b hb hne => (e.bk b (Nat.lt_of_lt_of_le hb a.nx)).trans (a.bk b hb hne)⟩
theorem HZ.out {lo hi : Nat} {h0 h h' : Hp} (a : HZ lo hi h h') (e : HE h0 h) (ho : h0.nx ≤ lo) : HE h0 h' := ⟨Nat.le_trans e.nx a.nx, fun b hb => (a.bk b (Nat.lt_of_lt_of_le hb e.nx) (by omega)).trans (e.bk b hb)⟩
theorem HZ.to {lo hi b : Nat} {h h' : Hp} (a : HZ lo hi h h') {x : Blk} (hx : h.bk b = some x) (hb : b < h.nx) (hne : b < lo ∨ hi ≤ b) : h'.bk b = some x := (a.bk b hb hne).trans hx

/-- A plane with a table of its own. -/
def FP (h h' : Hp) (v : Value) (m : Int) (T : List (List Int)) : Prop := ∃ b rb, v = sv m (some ⟨b, 0, none⟩) T.length 1 ∧ OT h.nx h' b rb T
theorem OT.lower {lo lo' : Nat} {h : Hp} {b : Nat} {rb : Nat → Nat} {T : List (List Int)} (t : OT lo h b rb T) (hl : lo' ≤ lo) : OT lo' h b rb T :=
  ⟨Nat.le_trans hl t.lob, t.ltb, t.top, fun i hi => Nat.le_trans hl (t.lor i hi), t.ltr, t.ne, t.rows, t.inj⟩

/-- A table of its own, or none yet. -/
def OTn (lo : Nat) (h : Hp) (tv : Value) (T : List (List Int)) : Prop := (T = [] ∧ tv = .slice none 0 0) ∨ ∃ b rb, tv = .slice (some ⟨b, 0, none⟩) T.length 1 ∧ OT lo h b rb T

theorem pushRow {lo : Nat} {h h1 : Hp} {tv : Value} {r n : Nat} {T : List (List Int)} {xs : List Int} {y' : TypeId} {K : Value → Hp → Prop} (t : OTn lo h tv T) (e : HE h h1) (hlo : lo ≤ h.nx) (hr2 : h.nx ≤ r) (hr3 : r < h1.nx) (hn : n = xs.length)
    (hrow : h1.bk r = some ⟨mapI xs, y_t_int64, true⟩) (hmax : T.length + 1 ≤ sizeMax)
    (hk : ∀ b' rb' h', OT lo h' b' rb' (T ++ [xs]) → (∀ c, c < h1.nx → (lo ≤ c → h.nx ≤ c) → h'.bk c = h1.bk c) → h1.nx ≤ b' → K (.slice (some ⟨b', 0, none⟩) (T.length + 1) 1) h') :
    newB h1 ⟨[.slice (some ⟨r, 0, none⟩) n 1], y', true⟩ fun b1 h2 => bindVH (appendV y_t_Lint64 1 h2 tv (.slice (some ⟨b1, 0, none⟩) 1 1)) K := by
  rcases t with ⟨rfl, rfl⟩ | ⟨b, rb, rfl, t⟩
  · refine ⟨?_⟩
    have h2 : (h1.new ⟨[.slice (some ⟨r, 0, none⟩) n 1], y', true⟩).cellsOf 1 (.slice (some ⟨h1.nx, 0, none⟩) 1 1) = some [.slice (some ⟨r, 0, none⟩) n 1] := by simp [Hp.cellsOf]
    have ev : appendV y_t_Lint64 1 (h1.new ⟨[.slice (some ⟨r, 0, none⟩) n 1], y', true⟩) (.slice none 0 0) (.slice (some ⟨h1.nx, 0, none⟩) 1 1) =
        some (.slice (some ⟨h1.nx + 1, 0, none⟩) 1 1, (h1.new ⟨[.slice (some ⟨r, 0, none⟩) n 1], y', true⟩).new ⟨[.slice (some ⟨r, 0, none⟩) n 1], y_t_Lint64, true⟩) := by
      simp [appendV, XK.eff, h2, sizeMax]
    rw [ev, bindVH_some]
    have ot : ∀ c, c < h1.nx → ((h1.new ⟨[.slice (some ⟨r, 0, none⟩) n 1], y', true⟩).new ⟨[.slice (some ⟨r, 0, none⟩) n 1], y_t_Lint64, true⟩).bk c = h1.bk c := fun c hc => by
      rw [new_bk, if_neg (by simp; omega), new_bk, if_neg (by omega)]
    refine hk (h1.nx + 1) (fun _ => r) _ ⟨by have := e.nx; omega, by simp, ?_, ?_, ?_, ?_, ?_, ?_⟩ (fun c hc _ => ot c hc) (by omega)
    · simp [hdr, hn, row]
    · intro i hi; omega
    · intro i hi; simp; omega
    · intro i hi; omega
    · intro i hi
      have : i = 0 := by simp at hi; omega
      subst this
      rw [ot r hr3, hrow]; rfl
    · intro i j hi hj _; simp at hi hj; omega
  · have hlt := t.ltb
    have n1 := e.nx
    refine push1 (e.to t.top hlt) (by omega) (by simp) hmax fun b' h' u => ?_
    have := u.ge
    exact hk b' _ h' (t.push e (by omega) hr2 hr3 hn hrow u) (fun c hc hne => u.ot c hc (fun hcb => by subst hcb; have := hne t.lob; omega)) u.ge

theorem s_impl_emptyPlane {m : Int} {d : Int} {D : Nat} {h : Hp} {R : Value → Hp → Prop} (hd : d = D) (hD : D ≤ 1000000) (hR : ∀ v h', HE h h' → FP h h' v m (ztab D (D + 1)) → R v h') : CallW FF n_impl_emptyPlane [i6 m, i6 d] h R := by
  subst hd
  refine w_impl_emptyPlane ?_
  have w1 : IntKind.i64.wrap ((D : Int) + 1) = D + 1 := wrapI (by omega) (by omega)
  simp [p_impl_emptyPlane, w1]
  refine newB_i fun b h1 eb en eh eB => ?_
  have hf : (fillX [i6 0, .slice none 0 0] [(0, 1, i6 m)]).map (fun cs => Value.agg cs.toArray) = some (.agg #[i6 m, .slice none 0 0]) := by simp [fillX]
  refine newB_i fun b2 h2 eb2 en2 eh2 eB2 => ?_
  refine storeBox2 eB2 rfl rfl rfl rfl fun h3 u3 => ?_
  have n3 := u3.nx
  have E3 : HE h h3 := u3.he (eh.trans eh2) (by omega)
  have B1 := u3.to (eh2.to eB (by omega)) (by omega)
  refine LP1 (fun d vs h' => ∃ (k : Nat) (tv : Value) (y : TypeId), d = D + 1 - k ∧ k ≤ D + 1 ∧ vs = [i6 D, .pointer (some ⟨b, 0, none⟩), .pointer (some ⟨b2, 0, none⟩), i6 ((D : Int) + 1), i6 k] ∧
     HX b2 h3 h' ∧ h'.bk b2 = some ⟨[i6 m, tv], y, true⟩ ∧ one tv = true ∧ OTn h3.nx h' tv (ztab D k)) ?_ _ _ _ ⟨0, _, _, rfl, by omega, rfl, HX.refl _ _, u3.bk, rfl, .inl ⟨rfl, rfl⟩⟩
  rintro d vs h4 ⟨k, tv, y, rfl, hk, rfl, E4, hb, hone, hT⟩ K K1 hK hK1
  refine wl_impl_emptyPlane_0 ?_
  have n4 := E4.nx
  have bx := box2 hb
  by_cases hlt : k < D + 1
  case neg =>
    have : k = D + 1 := by omega
    subst this
    simp [q_impl_emptyPlane_0]
    refine hK1 _ _ fun e he => ?_
    simp at he
    simp [he, bx]
    refine storeBox2 (E4.to B1 (by omega) (by omega)) rfl rfl rfl hone fun h5 u5 => ?_
    simp [box2 u5.bk]
    rcases hT with ⟨h1, _⟩ | ⟨bt, rb, rfl, hT⟩
    · have := congrArg List.length h1; simp at this
    · have n5 := u5.nx
      refine hR _ _ (u5.he (E4.out E3 (by omega)) (by omega)) ⟨bt, rb, by simp, ?_⟩
      have hltr := hT.ltr; have hlor := hT.lor; have hlob := hT.lob; have hltb := hT.ltb
      exact ⟨by omega, by omega, by rw [u5.ot _ (by omega)]; exact hT.top, fun i hi => by have := hlor i hi; omega, fun i hi => by have := hltr i hi; omega, hT.ne, fun i hi => by rw [u5.ot _ (by have := hlor i hi; omega)]; exact hT.rows i hi, hT.inj⟩
  have g1 : (k : Int) < (D : Int) + 1 := by omega
  have w2 : IntKind.i64.wrap ((D : Int) + 1 - k) = D + 1 - k := wrapI (by omega) (by omega)
  have w3 : IntKind.i64.wrap ((k : Int) + 1) = k + 1 := wrapI (by omega) (by omega)
  have mk : makN (.int .i64 ((D : Int) + 1 - k)) = some (D - k + 1) := makN_nat (by omega) (by unfold sizeMax; omega)
  simp [q_impl_emptyPlane_0, g1, bx, w1, w2, w3, mk, mapI_rep]
  refine newB_i fun r h5 er en5 eh5 eR => ?_
  refine pushRow (xs := List.replicate (D - k + 1) 0) hT eh5 (by omega) (by omega) (by omega) (by simp) eR (by simp; unfold sizeMax; omega) fun b' rb' h6 T6 ot6 hb' => ?_
  have n6 := T6.ltb
  simp
  refine store1 (x := ⟨[i6 m, tv], y, true⟩) (o := 1) (by rw [ot6 b2 (by omega) (by omega), eh5.bk _ (by omega)]; exact hb) (by simp) rfl rfl rfl fun h7 u7 => ?_
  have n7 := u7.nx
  refine hK _ _ _ (by omega) ⟨k + 1, .slice (some ⟨b', 0, none⟩) (k + 1) 1, y, rfl, by omega, by simp, ?_, ?_, rfl, .inr ⟨b', rb', by simp, ?_⟩⟩
  · refine ⟨by omega, fun c hc hne => ?_⟩
    rw [u7.ot c hne, ot6 c (by omega) (by omega), eh5.bk _ (by omega), E4.bk c hc hne]
  · rw [u7.bk]; simp
  · have hltr := T6.ltr; have hlor := T6.lor; have hlob := T6.lob; have hltb := T6.ltb
    exact ⟨by omega, by omega, by rw [u7.ot _ (by omega)]; exact T6.top, T6.lor, fun i hi => by have := hltr i hi; omega, T6.ne, fun i hi => by rw [u7.ot _ (by have := hlor i hi; omega)]; exact T6.rows i hi, T6.inj⟩

/-- A number as a table. -/
def numT (m : Int) (D : Nat) (c : Int) : List (List Int) := (ztab D (D + 1)).set 0 ((List.replicate (D + 1) 0).set 0 (c % m))
@[simp] theorem numT_len (m : Int) (D : Nat) (c : Int) : (numT m D c).length = D + 1 := by simp [numT]
theorem row_numT {m : Int} {D : Nat} {c : Int} {i : Nat} (h : i < D + 1) : row (numT m D c) i = (List.replicate (D + 1 - i) 0).set 0 (if i = 0 then c % m else 0) := by
  rw [numT, row_set]
  by_cases h0 : i = 0
  · subst h0; rw [if_pos ⟨rfl, by simp⟩, if_pos rfl]; simp
  · rw [if_neg (fun h => h0 h.1.symm), if_neg h0, row_ztab h, show D - i + 1 = D + 1 - i by omega]
    refine gt_ext (by simp) fun j hj => ?_
    rw [gt_set]; split
    · rename_i hc; rw [← hc.1, rep_tab, gt_tab (by omega)]
    · rfl
theorem numT_row {m : Int} (hm : 0 < m) {D : Nat} {c : Int} {i : Nat} (h : i < D + 1) : (row (numT m D c) i).length = D + 1 - i ∧ Nums m (row (numT m D c) i) := by
  rw [row_numT h]
  refine ⟨by simp, nums_set (nums_rep hm _) ?_⟩
  split
  · exact mod_bd hm _
  · omega

theorem s_impl_Plane_number {m k : Int} {A : Option Addr} {n c D : Nat} {h : Hp} {R : Value → Hp → Prop} (hn : n = D + 1) (hD : D ≤ 1000000) (hm : 0 < m) (hm2 : m ≤ 3000000000)
    (hR : ∀ v h', HE h h' → FP h h' v m (numT m D k) → R v h') : CallW FF n_impl_Plane_number [sv m A n c, i6 k] h R := by
  subst hn
  refine w_impl_Plane_number ?_
  simp [p_impl_Plane_number]
  refine newB_i fun b h1 eb en eh eB => ?_
  refine newB_i fun b2 h2 eb2 en2 eh2 eB2 => ?_
  have E2 := eh.trans eh2
  simp [box2 (eh2.to eB (by omega)), show b < h2.nx by omega]
  refine s_impl_Plane_degree (by omega) fun h3 e3 => ⟨e3.keep, ?_⟩
  refine s_impl_emptyPlane (D := D) (by omega) hD fun v h4 e4 f4 => ?_
  obtain ⟨bt, rb, rfl, T4⟩ := f4
  simp
  refine newB_i fun b5 h5 eb5 en5 eh5 eB5 => ?_
  refine storeBox2 eB5 rfl rfl rfl rfl fun h6 u6 => ?_
  have n3 := e3.nx; have n4 := e4.nx; have n5 := eh5.nx; have n6 := u6.nx
  have B1 := u6.to (((eh2.trans e3).trans (e4.trans eh5)).to eB (by omega)) (by omega)
  have B2 := u6.to ((e3.trans (e4.trans eh5)).to eB2 (by omega)) (by omega)
  have L46 : HE h4 h6 := u6.he eh5 (by omega)
  have T6 := T4.mono L46
  have r := T6.rt.at 1 (e := 0) (i := 0) (n := D + 1) rfl (by simp) (by simp)
  rw [row_ztab (by omega)] at r
  have ir := T6.rt.inb (HE.refl _) (i := 0) (by simp)
  simp [box2 u6.bk, box2 B1, show b5 < h6.nx by omega, r, ir]
  refine s_impl_mod hm (by omega) ⟨keepB_refl _ _, ?_⟩
  have q1 : indexAddrV 1 (.slice (some ⟨rb 0, 0, none⟩) (D + 1) 1) (.int .i64 0) = some (.pointer (some ⟨rb 0, 0, none⟩)) := ixOwn (i := 0) rfl (by omega)
  simp [q1]
  have hr0 := T6.rows 0 (by simp)
  rw [row_ztab (by omega)] at hr0
  have l0 := T4.lor 0 (by simp); have l1 := T4.ltr 0 (by simp)
  refine storeI (i := 0) hr0 (by simp) fun h7 u7 => ?_
  have n7 := u7.nx
  simp [box2 (u7.to u6.bk (by omega))]
  refine storeBox2 (u7.to B2 (by omega)) rfl rfl rfl rfl fun h8 u8 => ?_
  simp [box2 u8.bk]
  have n8 := u8.nx
  have T7 := T6.set (i := 0) (by simp) (by rw [row_ztab (by omega)]; simp) u7
  have hlor := T7.lor; have hltr := T7.ltr; have hlob := T7.lob; have hltb := T7.ltb
  refine hR _ _ (u8.he (u7.he (u6.he (((E2.trans e3).trans e4).trans eh5) (by omega)) (by omega)) (by omega)) ⟨bt, rb, by simp, ?_⟩
  exact OT.lower (lo := h3.nx) ⟨hlob, by omega, by rw [u8.ot _ (by omega)]; exact T7.top, hlor, fun i hi => by have := hltr i hi; omega, T7.ne, fun i hi => by rw [u8.ot _ (by have := hlor i hi; omega)]; exact T7.rows i hi, T7.inj⟩ (by omega)
end XM

/- The program's planes: times. -/
namespace XM
open Go

theorem TS.step {m : Int} {N i j k l : Nat} {a b Z : List (List Int)} (hm : 0 < m) (hZ : TS m N Z (tE0 N a b i j k l)) (hg : i + j + k + l < N) :
    TS m N (Z.set (i + k) ((row Z (i + k)).set (j + l) ((gt (row Z (i + k)) (j + l) + gt (row a i) j * gt (row b k) l) % m))) (tE0 N a b i j k (l + 1)) := by
  have hik : i + k < Z.length := by rw [hZ.len]; omega
  have hrl := hZ.rl (i + k) (by omega)
  have hz := hZ.en (i + k) (j + l) (by omega)
  refine ⟨by simp [hZ.len], fun x hx => ?_, fun x y hxy => ?_⟩
  · rw [row_set]; split
    · rename_i hc; rw [List.length_set, ← hc.1]; exact hrl
    · exact hZ.rl x hx
  · unfold gt2
    rw [row_set]
    by_cases hx : i + k = x
    · subst hx
      rw [if_pos ⟨rfl, hik⟩, gt_set]
      by_cases hy : j + l = y
      · subst hy
        rw [if_pos ⟨rfl, by omega⟩]
        have : gt (row Z (i + k)) (j + l) = gt2 Z (i + k) (j + l) := rfl
        rw [this, hz, Int.emod_add_emod]
        unfold tE0
        rw [if_neg (by omega), if_pos (by omega)]
        unfold term
        rw [if_pos (by omega), show i + k - i = k by omega, show j + l - j = l by omega]
        unfold gt2; simp
      · rw [if_neg (by omega)]
        have := hZ.en (i + k) y hxy
        unfold gt2 at this; rw [this]
        unfold tE0
        by_cases hy2 : y < j + l
        · rw [if_pos (by omega), if_pos (by omega)]
        · rw [if_neg (by omega), if_neg (by omega)]
    · rw [if_neg (by omega)]
      have := hZ.en x y hxy
      unfold gt2 at this; rw [this]
      unfold tE0
      by_cases hx2 : x < i + k
      · rw [if_pos (by omega), if_pos (by omega)]
      · rw [if_neg (by omega), if_neg (by omega)]

set_option maxHeartbeats 1000000 in
theorem s_impl_Plane_times {m m' : Int} {A B : Option Addr} {Ra Rb : Nat → Option Addr} {a b : List (List Int)} {N na nb ca cb : Nat} {h : Hp} {R : Value → Hp → Prop} (ha : RT h A Ra a) (hb : RT h B Rb b) (hna : na = N) (hnb : nb = N) (hla : a.length = N) (hlb : b.length = N)
    (hra : ∀ i, i < N → (row a i).length = N - i ∧ Nums m (row a i)) (hrb : ∀ i, i < N → (row b i).length = N - i ∧ Nums m (row b i)) (hm : 0 < m) (hm2 : m ≤ 3000000000) (hN : 1 ≤ N) (hN2 : N ≤ 100000)
    (hR : ∀ v h', HE h h' → FP h h' v m (mulT m N a b) → R v h') : CallW FF n_impl_Plane_times [sv m A na ca, sv m' B nb cb] h R := by
  subst hna; subst hnb
  refine w_impl_Plane_times ?_
  have m0 : ¬ m = 0 := by omega
  simp [p_impl_Plane_times]
  refine newB_i fun q1 h1 eb1 en1 eh1 eB1 => ?_
  refine newB_i fun q2 h2 eb2 en2 eh2 eB2 => ?_
  refine newB_i fun q3 h3 eb3 en3 eh3 eB3 => ?_
  have E3 := (eh1.trans eh2).trans eh3
  simp [box2 ((eh2.trans eh3).to eB1 (by omega)), show q1 < h3.nx by omega]
  refine s_impl_Plane_degree (by omega) fun h4 e4 => ⟨e4.keep, ?_⟩
  refine s_impl_emptyPlane (D := nb - 1) (by omega) (by omega) fun v h5 e5 f5 => ?_
  obtain ⟨bo, rb, rfl, T5⟩ := f5
  simp only [ztab_len, show nb - 1 + 1 = nb by omega] at T5 ⊢
  have hub : ∀ i, i < nb → rb i < h5.nx := fun i hi => T5.ltr i (by simpa using hi)
  have hlb' : ∀ i, i < nb → h4.nx ≤ rb i := fun i hi => T5.lor i (by simpa using hi)
  refine newB_i fun q6 h6 eb6 en6 eh6 eB6 => ?_
  refine storeBox2 eB6 rfl rfl rfl rfl fun h7 u7 => ?_
  have n4 := e4.nx; have n5 := e5.nx; have n7 := u7.nx
  have C5 := (e4.trans e5).trans eh6
  have B1 := u7.to (((eh2.trans eh3).trans C5).to eB1 (by omega)) (by omega)
  have B2 := u7.to ((eh3.trans C5).to eB2 (by omega)) (by omega)
  have B3 := u7.to (C5.to eB3 (by omega)) (by omega)
  have L57 : HE h5 h7 := u7.he eh6 (by omega)
  have T7 := T5.mono L57
  have E7 : HE h h7 := u7.he (E3.trans C5) (by omega)
  simp [box2 B1]
  refine s_impl_Plane_degree (by omega) fun h8 e8 => ?_
  have n8 := e8.nx
  have B1 := e8.to B1 (by omega)
  have B2 := e8.to B2 (by omega)
  have B3 := e8.to B3 (by omega)
  have B6 := e8.to u7.bk (by omega)
  have T8 := (T7.mono e8)
  have E8 := E7.trans e8
  simp [box2 B1]
  have hd : (nb : Int) - 1 = ((nb - 1 : Nat) : Int) := by omega
  generalize hNe : nb = N at *
  clear hNe hd L57 C5 T7 E7 T5 u7 eB1 eB2 eB3 eB6 e8 eh6 eh3 eh2 eh1 e4 e5
  -- i
  refine LP1 (fun d vs h' => ∃ (i : Nat) (Z : List (List Int)), d = N - i ∧ i ≤ N ∧ vs = [.pointer (some ⟨q1, 0, none⟩), .pointer (some ⟨q2, 0, none⟩), .pointer (some ⟨q3, 0, none⟩), .pointer (some ⟨q6, 0, none⟩), i6 ((N : Int) - 1), .slice A N ca, i6 N, i6 i] ∧
     HZ h4.nx h5.nx h8 h' ∧ OT h4.nx h' bo rb Z ∧ TS m N Z (tE3 N a b i)) ?_ _ _ _
    ⟨0, ztab (N - 1) N, rfl, by omega, rfl, HZ.refl _ _ _, T8, by simp, fun x hx => by rw [row_ztab hx]; simp; omega, fun x y hxy => by rw [gt2, row_ztab (by omega), rep_tab, gt_tab (by omega)]; simp [tE3, sm]⟩
  rintro d vs h9 ⟨i, Z, rfl, hi, rfl, Z9, hO, hZ⟩ K K1 hK hK1
  refine wl_impl_Plane_times_3 ?_
  have n9 := Z9.nx
  have HE9 := Z9.out E8 (by omega)
  by_cases hiN : i < N
  case neg =>
    have : i = N := by omega
    subst this
    simp [q_impl_Plane_times_3]
    refine hK1 _ _ fun e he => ?_
    simp at he
    simp [he, box2 (Z9.to B6 (by omega) (by omega))]
    refine storeBox2 (Z9.to B3 (by omega) (by omega)) rfl rfl rfl rfl fun h10 u10 => ?_
    simp [box2 u10.bk]
    have hlor := hO.lor; have hltr := hO.ltr; have hlob := hO.lob; have hltb := hO.ltb; have n10 := u10.nx
    rw [hZ.eq] at hO hlor hltr
    refine hR _ _ (u10.he HE9 (by omega)) ⟨bo, rb, by simp, ?_⟩
    exact OT.lower (lo := h4.nx) ⟨hlob, by omega, by rw [u10.ot _ (by omega)]; exact hO.top, hlor, fun i hi => by have := hltr i hi; omega, hO.ne, fun i hi => by rw [u10.ot _ (by have := hlor i hi; omega)]; exact hO.rows i hi, hO.inj⟩ (by omega)
  have wi : IntKind.i64.wrap ((i : Int) + 1) = i + 1 := wrapI (by omega) (by omega)
  have ri := (ha.mono HE9).at ca (e := i) (n := N) rfl hla.symm (by omega)
  have hai := hra i hiN
  simp [q_impl_Plane_times_3, hiN, ri]
  -- j
  refine LP1 (fun d vs h' => ∃ (j : Nat) (Z : List (List Int)), d = N - j ∧ i + j ≤ N ∧ vs = [.pointer (some ⟨q1, 0, none⟩), .pointer (some ⟨q2, 0, none⟩), .pointer (some ⟨q3, 0, none⟩), .pointer (some ⟨q6, 0, none⟩), i6 ((N : Int) - 1), i6 i, .slice A N ca, i6 N, i6 i, .slice (Ra i) (row a i).length 1, i6 (row a i).length, i6 j] ∧
     HZ h4.nx h5.nx h8 h' ∧ OT h4.nx h' bo rb Z ∧ TS m N Z (tE2 N a b i j)) ?_ _ _ _
    ⟨0, Z, rfl, by omega, rfl, Z9, hO, hZ.congr fun x y _ => by simp [tE2, sm]⟩
  clear hO hZ Z Z9 n9 HE9 ri h9
  rintro d vs h9 ⟨j, Z, rfl, hj, rfl, Z9, hO, hZ⟩ K2 K3 hK2 hK3
  refine wl_impl_Plane_times_2 ?_
  have n9 := Z9.nx
  have HE9 := Z9.out E8 (by omega)
  have wj : IntKind.i64.wrap ((j : Int) + 1) = j + 1 := wrapI (by omega) (by omega)
  by_cases hijN : i + j < N
  case neg =>
    have hjl : ¬ j < (row a i).length := by omega
    simp [q_impl_Plane_times_2, hjl]
    refine hK3 _ _ fun e he => ?_
    simp at he; simp [he, wi]
    refine hK _ _ _ (by omega) ⟨i + 1, Z, rfl, by omega, rfl, Z9, hO, hZ.congr fun x y _ => ?_⟩
    rw [tE2, tE3, tE3, sm_succ, show j = N - i by omega]
  have hjl : j < (row a i).length := by omega
  have s := (ha.mono HE9).el 1 (e := j) (i := i) (n := (row a i).length) (by omega) rfl rfl hjl
  have bA := hai.2.gt hjl
  by_cases h0 : gt (row a i) j = 0
  · simp [q_impl_Plane_times_2, hjl, s, h0, wj]
    refine hK2 _ _ _ (by omega) ⟨j + 1, Z, rfl, by omega, rfl, Z9, hO, hZ.congr fun x y _ => ?_⟩
    rw [tE2, tE2, sm_succ]
    have : term a b i j x y = 0 := by unfold term gt2; rw [h0]; simp
    omega
  simp [q_impl_Plane_times_2, hjl, s, h0]
  -- k
  refine LP1 (fun d vs h' => ∃ (k : Nat) (Z : List (List Int)), d = N - k ∧ i + j + k ≤ N ∧ vs = [.pointer (some ⟨q1, 0, none⟩), .pointer (some ⟨q2, 0, none⟩), .pointer (some ⟨q3, 0, none⟩), .pointer (some ⟨q6, 0, none⟩), i6 ((N : Int) - 1), i6 i, i6 j, i6 (gt (row a i) j), i6 k, .slice A N ca, i6 N, i6 i, .slice (Ra i) (row a i).length 1, i6 (row a i).length, i6 j] ∧
     HZ h4.nx h5.nx h8 h' ∧ OT h4.nx h' bo rb Z ∧ TS m N Z (tE1 N a b i j k)) ?_ _ _ _
    ⟨0, Z, rfl, by omega, rfl, Z9, hO, hZ.congr fun x y _ => by
      unfold tE1 term
      split
      · rw [if_neg (by omega)]; simp
      · simp⟩
  clear hO hZ Z Z9 n9 HE9 s h9
  rintro d vs h9 ⟨k, Z, rfl, hk, rfl, Z9, hO, hZ⟩ K4 K5 hK4 hK5
  refine wl_impl_Plane_times_1 ?_
  have n9 := Z9.nx
  have HE9 := Z9.out E8 (by omega)
  have wij : IntKind.i64.wrap ((i : Int) + j) = i + j := wrapI (by omega) (by omega)
  have wijk : IntKind.i64.wrap ((i : Int) + j + k) = i + j + k := wrapI (by omega) (by omega)
  have wik : IntKind.i64.wrap ((i : Int) + k) = i + k := wrapI (by omega) (by omega)
  have wk : IntKind.i64.wrap ((k : Int) + 1) = k + 1 := wrapI (by omega) (by omega)
  by_cases hijk : i + j + k < N
  case neg =>
    have hijk' : ¬ (i : Int) + j + k ≤ (N : Int) - 1 := by omega
    simp [q_impl_Plane_times_1, wij, wijk, hijk']
    refine hK5 _ _ fun e he => ?_
    simp at he; simp [he, wj]
    refine hK2 _ _ _ (by omega) ⟨j + 1, Z, rfl, by omega, rfl, Z9, hO, hZ.congr fun x y hxy => ?_⟩
    rw [tE1, tE2, tE2, sm_succ, Int.add_assoc]
    congr 2
    split
    · rfl
    · unfold term; rw [if_neg (by omega)]
  have hijk' : (i : Int) + j + k ≤ (N : Int) - 1 := by omega
  have BB := box2 (Z9.to B2 (by omega) (by omega))
  have t := (hb.mono HE9).at cb (e := k) (n := N) rfl hlb.symm (by omega)
  have hbk := hrb k (by omega)
  have w1 : IntKind.i64.wrap ((N : Int) - 1 - i) = N - 1 - i := wrapI (by omega) (by omega)
  have w2 : IntKind.i64.wrap ((N : Int) - 1 - i - j) = N - 1 - i - j := wrapI (by omega) (by omega)
  have w3 : IntKind.i64.wrap ((N : Int) - 1 - i - j - k) = N - 1 - i - j - k := wrapI (by omega) (by omega)
  have w4 : IntKind.i64.wrap ((N : Int) - 1 - i - j - k + 1) = N - 1 - i - j - k + 1 := wrapI (by omega) (by omega)
  obtain ⟨B', c', sl, rB⟩ := RI.pre (hb.rows k (by omega)) (e := (N : Int) - 1 - i - j - k + 1) (n := (row b k).length) (k := N - i - j - k) rfl (by omega) (by omega)
  simp [q_impl_Plane_times_1, wij, wijk, hijk', BB, t, w1, w2, w3, w4, sl]
  -- l
  refine LP1 (fun d vs h' => ∃ (l : Nat) (Z : List (List Int)), d = N - l ∧ i + j + k + l ≤ N ∧ vs = [.pointer (some ⟨q1, 0, none⟩), .pointer (some ⟨q2, 0, none⟩), .pointer (some ⟨q3, 0, none⟩), .pointer (some ⟨q6, 0, none⟩), i6 ((N : Int) - 1), i6 i, i6 j, i6 (gt (row a i) j), i6 k, .slice A N ca, i6 N, i6 i, .slice (Ra i) (row a i).length 1, i6 (row a i).length, i6 j,
       .slice B' (N - i - j - k) c', i6 ((N - i - j - k : Nat) : Int), i6 l] ∧
     HZ h4.nx h5.nx h8 h' ∧ OT h4.nx h' bo rb Z ∧ TS m N Z (tE0 N a b i j k l)) ?_ _ _ _
    ⟨0, Z, rfl, by omega, rfl, Z9, hO, hZ.congr fun x y _ => by
      unfold tE1 tE0
      congr 1
      by_cases hx : x < i + k
      · rw [if_pos hx, if_pos (.inl hx)]
      · rw [if_neg hx]
        split
        · unfold term; rw [if_neg (by omega)]
        · rfl⟩
  clear hO hZ Z Z9 n9 HE9 t BB h9
  rintro d vs h9 ⟨l, Z, rfl, hl, rfl, Z9, hO, hZ⟩ K6 K7 hK6 hK7
  refine wl_impl_Plane_times_0 ?_
  have n9 := Z9.nx
  have HE9 := Z9.out E8 (by omega)
  have wl1 : IntKind.i64.wrap ((l : Int) + 1) = l + 1 := wrapI (by omega) (by omega)
  by_cases hg : i + j + k + l < N
  case neg =>
    have hg' : ¬ l < N - i - j - k := by omega
    simp [q_impl_Plane_times_0, hg']
    refine hK7 _ _ fun e he => ?_
    simp at he; simp [he, wk]
    refine hK4 _ _ _ (by omega) ⟨k + 1, Z, rfl, by omega, rfl, Z9, hO, hZ.congr fun x y hxy => ?_⟩
    unfold tE1 tE0
    congr 1
    by_cases hx : x < i + (k + 1)
    · rw [if_pos hx, if_pos (by omega)]
    · rw [if_neg hx, if_neg (by omega)]
  have hg' : l < N - i - j - k := by omega
  have BA := box2 (Z9.to B1 (by omega) (by omega))
  have BO := box2 (Z9.to B6 (by omega) (by omega))
  have wjl : IntKind.i64.wrap ((j : Int) + l) = j + l := wrapI (by omega) (by omega)
  have u := (rB.mono HE9).at c' (e := l) (n := N - i - j - k) rfl (by simp; omega) (by simp; omega)
  have hgt : gt ((row b k).take (N - i - j - k)) l = gt (row b k) l := gt_take hg'
  have bB := hbk.2.gt (show l < (row b k).length by omega)
  have hik : i + k < Z.length := by rw [hZ.len]; omega
  have hrow := hO.rows (i + k) hik
  have hrl := hZ.rl (i + k) (by omega)
  have zk := hO.rt.at 1 (e := (i : Int) + k) (i := i + k) (n := N) (by omega) hZ.len.symm hik
  rw [hrl] at zk
  have izk := hO.rt.inb (HE.refl _) hik
  have x1 : indexAddrV 1 (.slice (some ⟨rb (i + k), 0, none⟩) (N - (i + k)) 1) (.int .i64 ((j : Int) + l)) = some (.pointer (some ⟨rb (i + k), j + l, none⟩)) := ixOwn (by omega) (by omega)
  have x2 := ownRd (n := 0) (c := 0) hrow (show j + l < _ by omega)
  have xr := hO.ltr (i + k) hik
  have hz := hZ.en (i + k) (j + l) (by omega)
  have bz : 0 ≤ gt (row Z (i + k)) (j + l) ∧ gt (row Z (i + k)) (j + l) < m := by
    have := mod_bd hm (tE0 N a b i j k l (i + k) (j + l)); rw [← hz] at this; exact this
  have bm := mod_bd hm (gt (row a i) j * gt (row b k) l)
  have w8 : IntKind.i64.wrap (gt (row Z (i + k)) (j + l) + gt (row a i) j * gt (row b k) l % m) = gt (row Z (i + k)) (j + l) + gt (row a i) j * gt (row b k) l % m := wrapI (by omega) (by omega)
  simp [q_impl_Plane_times_0, hg', u, hgt, BA, BO, wik, zk, wjl, x1, x2, izk, show q6 < h9.nx by omega, show q1 < h9.nx by omega, xr]
  refine s_impl_mul hm hm2 bA.1 bB.1 (mul_bd hm2 bA bB).2 ⟨keepB_refl _ _, ?_⟩
  simp [w8, BA, m0, wl1, x1, Int.tmod_eq_emod_of_nonneg (show 0 ≤ gt (row Z (i + k)) (j + l) + gt (row a i) j * gt (row b k) l % m by omega), show q1 < h9.nx by omega]
  have xlo := hlb' (i + k) (by omega); have xhi := hub (i + k) (by omega)
  refine storeI (i := j + l) hrow (by omega) fun h10 u10 => ?_
  refine hK6 _ _ _ (by omega) ⟨l + 1, _, rfl, by omega, rfl, Z9.upd u10 xlo xhi, hO.set hik (by simp) u10, hZ.step hm hg⟩
end XM

/- The program's planes: lists of planes, powers. -/
namespace XM
open Go

structure Pln where
  m : Int
  A : Option Addr
  c : Nat
  Rr : Nat → Option Addr
  T : List (List Int)

structure RP (h : Hp) (A : Option Addr) (L : List Pln) : Prop where
  top : 0 < L.length → ∃ b o x, A = some ⟨b, o, none⟩ ∧ b < h.nx ∧ h.bk b = some x ∧ ∀ (i : Nat) (e : Pln), L[i]? = some e → x.cells[o + i * 2]? = some (i6 e.m) ∧ x.cells[o + i * 2 + 1]? = some (.slice e.A e.T.length e.c)
  el : ∀ (i : Nat) (e : Pln), L[i]? = some e → RT h e.A e.Rr e.T

theorem RP.mos {h h' : Hp} {A : Option Addr} {L : List Pln} (r : RP h A L) (e : HS h h') : RP h' A L :=
  ⟨fun hl => by
    obtain ⟨b, o, x, h1, h2, h3, h4⟩ := r.top hl
    exact ⟨b, o, x, h1, Nat.lt_of_lt_of_le h2 e.nx, e.bk b x h2 h3, h4⟩, fun i x hx => (r.el i x hx).mos e⟩
theorem RP.mono {h h' : Hp} {A : Option Addr} {L : List Pln} (r : RP h A L) (e : HE h h') : RP h' A L := r.mos e.hs

theorem RP.at {h : Hp} {A : Option Addr} {L : List Pln} (r : RP h A L) (c : Nat) {e : Int} {i n : Nat} {x : Pln} (he : e = i) (hn : n = L.length) (hx : L[i]? = some x) :
    indexAddrV 2 (.slice A n c) (.int .i64 e) = some (elp2 A i 0) ∧ ldV 2 true h (elp2 A i 0) = some (sv x.m x.A x.T.length x.c) ∧ fieldAddrV 0 (elp2 A i 0) = some (elp2 A i 0) ∧ fieldAddrV 1 (elp2 A i 0) = some (elp2 A i 1) ∧
      ldV 1 false h (elp2 A i 0) = some (i6 x.m) ∧ ldV 1 false h (elp2 A i 1) = some (.slice x.A x.T.length x.c) ∧ inB h.nx (elp2 A i 0) ∧ inB h.nx (elp2 A i 1) := by
  have hi : i < L.length := (List.getElem?_eq_some_iff.1 hx).1
  obtain ⟨b, o, bl, rfl, h2, h3, h4⟩ := r.top (by omega)
  obtain ⟨h5, h6⟩ := h4 i x hx
  have l5 := (List.getElem?_eq_some_iff.1 h5).1
  have l6 := (List.getElem?_eq_some_iff.1 h6).1
  subst he; subst hn
  refine ⟨by simp [indexAddrV, idx_nat hi, elp2, addOff], ?_, by simp [elp2], by simp [elp2], ?_, ?_, h2, h2⟩
  · simp only [elp2, Option.map_some, ldV_ptr, h3, Option.bind_some, Nat.add_zero]
    rw [if_pos (by omega)]
    simp only [if_true, Option.some.injEq, Value.agg.injEq]
    have : (bl.cells.drop (o + i * 2)).take 2 = [i6 x.m, .slice x.A x.T.length x.c] := by
      rw [List.drop_eq_getElem_cons l5, List.drop_eq_getElem_cons l6]
      rw [List.getElem?_eq_getElem l5] at h5; rw [List.getElem?_eq_getElem l6] at h6
      simp only [Option.some.injEq] at h5 h6
      simp [h5, h6]
    rw [this]
  · simp only [elp2, Option.map_some, ldV_ptr, h3, Option.bind_some, Nat.add_zero]
    rw [if_pos (by omega)]; simpa using h5
  · simp only [elp2, Option.map_some, ldV_ptr, h3, Option.bind_some]
    rw [if_pos (by omega)]; simpa using h6

/-- The cells of a list of planes. -/
def plnC (L : List Pln) : List Value := L.flatMap fun e => [i6 e.m, .slice e.A e.T.length e.c]
theorem plnC_len (L : List Pln) : (plnC L).length = L.length * 2 := by
  induction L with
  | nil => rfl
  | cons e L ih => simp [plnC] at ih ⊢; omega
theorem plnC_get {L : List Pln} : ∀ {i : Nat} {e : Pln}, L[i]? = some e → (plnC L)[i * 2]? = some (i6 e.m) ∧ (plnC L)[i * 2 + 1]? = some (.slice e.A e.T.length e.c) := by
  induction L with
  | nil => intro i e h; simp at h
  | cons x L ih =>
    intro i e h
    cases i with
    | zero => cases h; exact ⟨rfl, rfl⟩
    | succ i =>
      have := ih (i := i) (e := e) (by simpa using h)
      rw [show (i + 1) * 2 = i * 2 + 2 by omega]
      exact this

/-- A list of planes of the function's own. -/
structure OP (lo : Nat) (h : Hp) (b : Nat) (L : List Pln) : Prop where
  lob : lo ≤ b
  ltb : b < h.nx
  top : h.bk b = some ⟨plnC L, y_t_impl_Plane, true⟩
  el : ∀ (i : Nat) (e : Pln), L[i]? = some e → RT (msk h fun x => x = b) e.A e.Rr e.T

theorem OP.mono {lo : Nat} {h h' : Hp} {b : Nat} {L : List Pln} (t : OP lo h b L) (e : HE h h') : OP lo h' b L :=
  ⟨t.lob, Nat.lt_of_lt_of_le t.ltb e.nx, e.to t.top t.ltb, fun i x hx => (t.el i x hx).mos (msk_to e.nx fun c hc hne => ⟨e.bk c hc, hne⟩)⟩
theorem OP.rs {lo : Nat} {h : Hp} {b : Nat} {L : List Pln} (t : OP lo h b L) : RP h (some ⟨b, 0, none⟩) L :=
  ⟨fun _ => ⟨b, 0, _, rfl, t.ltb, t.top, fun i e he => by simpa using plnC_get he⟩, fun i e he => (t.el i e he).mos (msk_hs _)⟩

/-- A plane is put at the end of the list. -/
theorem pushP {lo : Nat} {h : Hp} {b n ne : Nat} {L : List Pln} {y' : TypeId} {e : Pln} {K : Value → Hp → Prop} (t : OP lo h b L) (hn : n = L.length) (hne : ne = e.T.length) (hmax : n + 1 ≤ sizeMax) (hr : RT (msk h fun x => x = b) e.A e.Rr e.T)
    (hk : ∀ b' h', OP lo h' b' (L ++ [e]) → (∀ c, c < h.nx → c ≠ b → h'.bk c = h.bk c) → h.nx < b' → b' < h'.nx → K (.slice (some ⟨b', 0, none⟩) (n + 1) 2) h') :
    newB h ⟨[i6 e.m, .slice e.A ne e.c], y', true⟩ fun b1 h1 => bindVH (appendV y_t_impl_Plane 2 h1 (.slice (some ⟨b, 0, none⟩) n 2) (.slice (some ⟨b1, 0, none⟩) 1 2)) K := by
  subst hne
  refine ⟨?_⟩
  have hlt := t.ltb
  have h1 : (h.new ⟨[i6 e.m, .slice e.A e.T.length e.c], y', true⟩).bk b = some ⟨plnC L, y_t_impl_Plane, true⟩ := by rw [new_bk, if_neg (by omega)]; exact t.top
  have h2 : (h.new ⟨[i6 e.m, .slice e.A e.T.length e.c], y', true⟩).cellsOf 2 (.slice (some ⟨h.nx, 0, none⟩) 1 2) = some [i6 e.m, .slice e.A e.T.length e.c] := by simp [Hp.cellsOf]
  subst hn
  have hl : (plnC L).length = L.length * 2 := plnC_len L
  have ev : appendV y_t_impl_Plane 2 (h.new ⟨[i6 e.m, .slice e.A e.T.length e.c], y', true⟩) (.slice (some ⟨b, 0, none⟩) L.length 2) (.slice (some ⟨h.nx, 0, none⟩) 1 2) =
      some (.slice (some ⟨h.nx + 1, 0, none⟩) (L.length + 1) 2, ((h.new ⟨[i6 e.m, .slice e.A e.T.length e.c], y', true⟩).set b none).new ⟨plnC L ++ [i6 e.m, .slice e.A e.T.length e.c], y_t_impl_Plane, true⟩) := by
    simp [appendV, XK.eff, h2, show b ≠ h.nx by omega, t.top, hl, hmax]
  rw [ev, bindVH_some]
  have ot : ∀ c, c < h.nx → c ≠ b → (((h.new ⟨[i6 e.m, .slice e.A e.T.length e.c], y', true⟩).set b none).new ⟨plnC L ++ [i6 e.m, .slice e.A e.T.length e.c], y_t_impl_Plane, true⟩).bk c = h.bk c := fun c hc hne => by
    rw [new_bk, if_neg (by simp; omega), set_bk, if_neg hne, new_bk, if_neg (by omega)]
  have S : HS (msk h fun x => x = b) (msk (((h.new ⟨[i6 e.m, .slice e.A e.T.length e.c], y', true⟩).set b none).new ⟨plnC L ++ [i6 e.m, .slice e.A e.T.length e.c], y_t_impl_Plane, true⟩) fun x => x = h.nx + 1) :=
    msk_to (by simp; omega) fun c hc hne => ⟨ot c hc hne, by omega⟩
  refine hk (h.nx + 1) _ ⟨by have := t.lob; omega, by simp, by simp [plnC], fun i x hx => ?_⟩ ot (by omega) (by simp)
  by_cases hi : i < L.length
  · rw [List.getElem?_append_left hi] at hx
    exact (t.el i x hx).mos S
  · rw [List.getElem?_append_right (by omega)] at hx
    cases hj : i - L.length with
    | zero => rw [hj] at hx; cases hx; exact hr.mos S
    | succ j => rw [hj] at hx; simp at hx

/-- The powers of a table. -/
def powP (m : Int) (N : Nat) (T : List (List Int)) : Nat → List (List Int)
  | 0 => numT m (N - 1) 1
  | i + 1 => mulT m N (powP m N T i) T
theorem powP_len {m : Int} {N : Nat} (hN : 1 ≤ N) {T : List (List Int)} {i : Nat} : (powP m N T i).length = N := by
  cases i with
  | zero => rw [powP, numT_len]; omega
  | succ i => rw [powP, mulT_len]
theorem powP_row {m : Int} (hm : 0 < m) {N : Nat} {T : List (List Int)} {i x : Nat} (hx : x < N) : (row (powP m N T i) x).length = N - x ∧ Nums m (row (powP m N T i) x) := by
  cases i with
  | zero => have := numT_row hm (D := N - 1) (c := 1) (i := x) (by omega); rw [powP]; exact ⟨by omega, this.2⟩
  | succ i => rw [powP, row_mulT hx]; exact ⟨by simp, nums_tab hm⟩

def powPs (m : Int) (N : Nat) (T : List (List Int)) (PA : Nat → Option Addr) (PR : Nat → Nat → Option Addr) : Nat → List Pln
  | 0 => []
  | k + 1 => powPs m N T PA PR k ++ [⟨m, PA k, 1, PR k, powP m N T k⟩]
@[simp] theorem powPs_len (m : Int) (N : Nat) (T : List (List Int)) (PA : Nat → Option Addr) (PR : Nat → Nat → Option Addr) (k : Nat) : (powPs m N T PA PR k).length = k := by
  induction k with
  | zero => rfl
  | succ k ih => simp [powPs, ih]
theorem powPs_get {m : Int} {N : Nat} {T : List (List Int)} {PA : Nat → Option Addr} {PR : Nat → Nat → Option Addr} {k i : Nat} (h : i < k) : (powPs m N T PA PR k)[i]? = some ⟨m, PA i, 1, PR i, powP m N T i⟩ := by
  induction k with
  | zero => omega
  | succ k ih =>
    rw [powPs]
    by_cases hi : i < k
    · rw [List.getElem?_append_left (by simpa using hi)]; exact ih hi
    · have : i = k := by omega
      subst this
      rw [List.getElem?_append_right (by simp)]; simp
theorem powPs_upd {m : Int} {N : Nat} {T : List (List Int)} {PA : Nat → Option Addr} {PR : Nat → Nat → Option Addr} {A : Option Addr} {Q : Nat → Option Addr} {k j : Nat} (h : k ≤ j) : powPs m N T (updF PA j A) (updF PR j Q) k = powPs m N T PA PR k := by
  induction k with
  | zero => rfl
  | succ k ih => rw [powPs, powPs, ih (by omega), updF_ne (by omega), updF_ne (by omega)]

theorem s_impl_Plane_powers {m : Int} {A : Option Addr} {Rr : Nat → Option Addr} {T : List (List Int)} {n c N : Nat} {h : Hp} {R : Value → Hp → Prop} (hT : RT h A Rr T) (hn : n = N) (hN : T.length = N)
    (hr : ∀ i, i < N → (row T i).length = N - i ∧ Nums m (row T i)) (hm : 2 ≤ m) (hm2 : m ≤ 3000000000) (hN1 : 1 ≤ N) (hN2 : N ≤ 1000)
    (hR : ∀ b PA PR h', HE h h' → OP h.nx h' b (powPs m N T PA PR N) → R (.slice (some ⟨b, 0, none⟩) N 2) h') : CallW FF n_impl_Plane_powers [sv m A n c] h R := by
  subst hn
  refine w_impl_Plane_powers ?_
  have hm0 : 0 < m := by omega
  simp [p_impl_Plane_powers]
  refine newB_i fun b h1 eb en eh eB => ?_
  simp [box2 eB]
  refine s_impl_Plane_number (D := n - 1) (by omega) (by omega) (by omega) hm2 fun v h2 e2 f2 => ?_
  obtain ⟨o, rb, rfl, T2⟩ := f2
  have hl' : n - 1 + 1 = n := by omega
  simp [rowV_ser, hl']
  refine newB_i fun b3 h3 eb3 en3 eh3 eB3 => ?_
  have n2 := e2.nx
  have E3 := (eh.trans e2).trans eh3
  simp [box2 ((e2.trans eh3).to eB (by omega))]
  refine s_impl_Plane_degree (by omega) fun h4 e4 => ?_
  have n4 := e4.nx
  have T3 := (T2.mono eh3).mono e4
  have hlob := T2.lob; have hltb := T2.ltb; have hlor := T2.lor; have hltr := T2.ltr
  have S0 : OP h.nx h4 b3 (powPs m n T (fun _ => some ⟨o, 0, none⟩) (fun _ i => some ⟨rb i, 0, none⟩) 1) := ⟨by omega, by omega, by rw [e4.bk _ (by omega), eB3]; simp [powPs, plnC, powP, hl'], fun i e he => by
    cases i with
    | zero =>
      simp [powPs] at he; subst he
      have q := T2.rtm (P := fun x => False) (fun x hx => hx.elim)
      exact q.mos (msk_to (by omega) fun c hc _ => ⟨by rw [e4.bk _ (by omega), eh3.bk _ hc], by omega⟩)
    | succ i => simp [powPs] at he⟩
  refine LP1 (fun d vs h' => ∃ (k b' : Nat) (PA : Nat → Option Addr) (PR : Nat → Nat → Option Addr), d = n - 1 - k ∧ k ≤ n - 1 ∧ vs = [.pointer (some ⟨b, 0, none⟩), .slice (some ⟨b', 0, none⟩) (k + 1) 2, i6 ((n : Int) - 1), i6 k] ∧ HE h1 h' ∧ OP h.nx h' b' (powPs m n T PA PR (k + 1)) ∧ b < b') ?_ _ _ _
    ⟨0, b3, fun _ => some ⟨o, 0, none⟩, fun _ i => some ⟨rb i, 0, none⟩, rfl, by omega, by simp, (e2.trans eh3).trans e4, S0, by omega⟩
  rintro d vs h5 ⟨k, b', PA, PR, rfl, hk, rfl, E5, S5, hbb⟩ K K1 hK hK1
  refine wl_impl_Plane_powers_0 ?_
  have bx := box2 (E5.to eB (by omega))
  by_cases hlt : k < n - 1
  case neg =>
    have hk' : k = n - 1 := by omega
    have g : ¬ (k : Int) < (n : Int) - 1 := by omega
    simp [q_impl_Plane_powers_0, g]
    refine hK1 _ _ fun e he => ?_
    simp at he; rw [he]
    have := hR b' PA PR _ (eh.trans E5) (by rw [hk', hl'] at S5; exact S5)
    rw [hk', hl']; exact this
  have g : (k : Int) < (n : Int) - 1 := by omega
  have r := S5.rs.at 2 (e := (k : Int)) (i := k) (n := k + 1) rfl (by simp) (powPs_get (by omega))
  simp only [powP_len hN1] at r
  have w1 : IntKind.i64.wrap (k : Int) = k := wrapI (by omega) (by omega)
  have w2 : IntKind.i64.wrap ((k : Int) + 1) = k + 1 := wrapI (by omega) (by omega)
  have E05 := eh.trans E5
  simp [q_impl_Plane_powers_0, g, w1, r, bx]
  refine s_impl_Plane_times (N := n) (S5.rs.el k _ (powPs_get (by omega))) (hT.mono E05) rfl rfl (powP_len hN1) hN (fun i hi => powP_row hm0 hi) hr hm0 hm2 hN1 (by omega) fun v h6 e6 f6 => ?_
  obtain ⟨q, rq, rfl, T6⟩ := f6
  simp only [mulT_len, rowV_ser, w2, bindO_some, bin_add, len_slice]
  have n5 := E5.nx; have n6 := e6.nx
  have sl := S5.ltb; have sb := S5.lob
  refine pushP (e := ⟨m, some ⟨q, 0, none⟩, 1, fun i => some ⟨rq i, 0, none⟩, powP m n T (k + 1)⟩) (S5.mono e6) (by simp) (by rw [powP_len hN1]) (by unfold sizeMax; omega) ?_ fun b7 h7 S7 ot7 n7 n8 => ?_
  · exact T6.rtm fun x hx => by omega
  have he1 : HE h1 h7 := ⟨by omega, fun c hc => by rw [ot7 c (by omega) (by omega), e6.bk c (by omega), E5.bk c hc]⟩
  refine hK _ _ _ (by omega) ⟨k + 1, b7, updF PA (k + 1) (some ⟨q, 0, none⟩), updF PR (k + 1) (fun i => some ⟨rq i, 0, none⟩), rfl, by omega, by simp, he1, ?_, by omega⟩
  rw [powPs, powPs_upd (by omega), updF_eq, updF_eq]; exact S7
end XM

/- The program's laws: defectsOf, axioms, IsLaw. -/
namespace XM
open Go

def dL (m : Int) (N : Nat) (T : List (List Int)) (a b c k : Nat) : Int := sm k fun i => gt2 T i c * gt2 (powP m N T i) a b % m
def dR (m : Int) (N : Nat) (T : List (List Int)) (a b c k : Nat) : Int := sm k fun j => gt2 T a j * gt2 (powP m N T j) b c % m

theorem sm_bd {k : Nat} {m : Int} (hm : 0 < m) (f : Nat → Int) : 0 ≤ sm k (fun i => f i % m) ∧ sm k (fun i => f i % m) ≤ k * m := by
  induction k with
  | zero => simp [sm]
  | succ k ih =>
    rw [sm_succ]
    have := mod_bd hm (f k)
    have e : ((k + 1 : Nat) : Int) * m = k * m + m := by rw [Int.natCast_add, Int.add_mul]; simp
    omega

/-- What the closure of defectsOf holds. -/
structure Dfs (h : Hp) (m : Int) (N : Nat) (T : List (List Int)) (A : Option Addr) (Rr : Nat → Option Addr) (c bd bf bp P : Nat) (PA : Nat → Option Addr) (PR : Nat → Nat → Option Addr) (y1 y2 y3 : TypeId) : Prop where
  hT : RT h A Rr T
  kd : h.bk bd = some ⟨[i6 ((N : Int) - 1)], y1, true⟩
  kf : h.bk bf = some ⟨[i6 m, .slice A N c], y2, true⟩
  kp : h.bk bp = some ⟨[.slice (some ⟨P, 0, none⟩) N 2], y3, true⟩
  ps : RP h (some ⟨P, 0, none⟩) (powPs m N T PA PR N)
  l1 : bd < h.nx
  l2 : bf < h.nx
  l3 : bp < h.nx
theorem Dfs.mono {h h' : Hp} {m : Int} {N : Nat} {T : List (List Int)} {A : Option Addr} {Rr : Nat → Option Addr} {c bd bf bp P : Nat} {PA : Nat → Option Addr} {PR : Nat → Nat → Option Addr} {y1 y2 y3 : TypeId} (d : Dfs h m N T A Rr c bd bf bp P PA PR y1 y2 y3) (e : HE h h') :
    Dfs h' m N T A Rr c bd bf bp P PA PR y1 y2 y3 :=
  ⟨d.hT.mono e, e.to d.kd d.l1, e.to d.kf d.l2, e.to d.kp d.l3, d.ps.mono e, Nat.lt_of_lt_of_le d.l1 e.nx, Nat.lt_of_lt_of_le d.l2 e.nx, Nat.lt_of_lt_of_le d.l3 e.nx⟩

theorem s_impl_defectsOf {m : Int} {A : Option Addr} {Rr : Nat → Option Addr} {T : List (List Int)} {n c N : Nat} {h : Hp} {R : Value → Hp → Prop} (hT : RT h A Rr T) (hn : n = N) (hN : T.length = N)
    (hr : ∀ i, i < N → (row T i).length = N - i ∧ Nums m (row T i)) (hm : 2 ≤ m) (hm2 : m ≤ 3000000000) (hN1 : 1 ≤ N) (hN2 : N ≤ 1000)
    (hR : ∀ h' bd bf bp P PA PR y1 y2 y3, HE h h' → Dfs h' m N T A Rr c bd bf bp P PA PR y1 y2 y3 → R (.func (.func n_impl_defectsOf_c1) #[] #[.pointer (some ⟨bd, 0, none⟩), .pointer (some ⟨bf, 0, none⟩), .pointer (some ⟨bp, 0, none⟩)]) h') : CallW FF n_impl_defectsOf [sv m A n c] h R := by
  subst hn
  refine w_impl_defectsOf ?_
  simp [p_impl_defectsOf]
  refine newB_i fun b h1 eb en eh eB => ?_
  simp [box2 eB]
  refine s_impl_Plane_powers (hT.mono eh) rfl hN hr hm hm2 hN1 hN2 fun P PA PR h2 e2 P2 => ⟨e2.keep, by omega, ?_⟩
  simp [box2 (e2.to eB (by omega))]
  refine s_impl_Plane_degree (by omega) fun h3 e3 => ?_
  refine newB_i fun b4 h4 eb4 en4 eh4 eB4 => ?_
  refine newB_i fun b5 h5 eb5 en5 eh5 eB5 => ?_
  have n2 := e2.nx; have n3 := e3.nx
  refine store1 (x := ⟨[.slice none 0 0], _, true⟩) (o := 0) (eh5.to eB4 (by omega)) (by simp) rfl rfl rfl fun h6 u6 => ?_
  have n6 := u6.nx
  refine store1 (x := ⟨[.int .i64 0], _, true⟩) (o := 0) (u6.to eB5 (by omega)) (by simp) rfl rfl rfl fun h7 u7 => ?_
  have n7 := u7.nx
  have E27 : HE h2 h7 := u7.he (u6.he ((e3.trans eh4).trans eh5) (by omega)) (by omega)
  refine hR _ _ _ _ P PA PR _ _ _ (eh.trans (e2.trans E27)) ⟨hT.mono (eh.trans (e2.trans E27)), u7.bk, E27.to (e2.to eB (by omega)) (by omega), u7.to u6.bk (by omega), P2.rs.mono E27, by omega, by omega, by omega⟩

theorem s_impl_defects {m : Int} {A : Option Addr} {Rr : Nat → Option Addr} {T : List (List Int)} {x y z c N bd bf bp P : Nat} {PA : Nat → Option Addr} {PR : Nat → Nat → Option Addr} {y1 y2 y3 : TypeId} {h : Hp} {R : Value → Hp → Prop} (d : Dfs h m N T A Rr c bd bf bp P PA PR y1 y2 y3) (hN : T.length = N)
    (hr : ∀ i, i < N → (row T i).length = N - i ∧ Nums m (row T i)) (hm : 2 ≤ m) (hm2 : m ≤ 1000000000) (hN1 : 1 ≤ N) (hN2 : N ≤ 1000) (hxyz : x + y + z < N)
    (hR : R (i6 ((dL m N T x y z (N - z) - dR m N T x y z (N - x)) % m)) h) : CallW FF n_impl_defectsOf_c1 [i6 x, i6 y, i6 z, .pointer (some ⟨bd, 0, none⟩), .pointer (some ⟨bf, 0, none⟩), .pointer (some ⟨bp, 0, none⟩)] h R := by
  refine w_impl_defectsOf_c1 ?_
  have hm0 : 0 < m := by omega
  have m0 : ¬ m = 0 := by omega
  have x1 := box1 d.kd
  have x2 := box2 d.kf
  have x3 := box1 d.kp
  have dL_nonneg : ∀ k, 0 ≤ dL m N T x y z k ∧ dL m N T x y z k ≤ k * m := fun k => sm_bd hm0 _
  have dR_nonneg : ∀ k, 0 ≤ dR m N T x y z k ∧ dR m N T x y z k ≤ k * m := fun k => sm_bd hm0 _
  have mulb : ∀ k : Nat, k ≤ 1000 → (k : Int) * m ≤ 1000000000000 := fun k hk => by
    have h1 : (k : Int) * m ≤ 1000 * m := Int.mul_le_mul_of_nonneg_right (by omega) (by omega)
    omega
  have wNz : IntKind.i64.wrap ((N : Int) - 1 - z) = N - 1 - z := wrapI (by omega) (by omega)
  have wNx : IntKind.i64.wrap ((N : Int) - 1 - x) = N - 1 - x := wrapI (by omega) (by omega)
  simp only [p_impl_defectsOf_c1]
  refine LP1 (fun d vs h' => ∃ k : Nat, d = N - k ∧ k ≤ N - z ∧ h' = h ∧ vs = [i6 x, i6 y, i6 z, .pointer (some ⟨bd, 0, none⟩), .pointer (some ⟨bf, 0, none⟩), .pointer (some ⟨bp, 0, none⟩), i6 (dL m N T x y z k), i6 0, i6 k]) ?_ _ _ _ ⟨0, rfl, by omega, rfl, rfl⟩
  rintro d1 vs h1 ⟨k, rfl, hk, rfl, rfl⟩ K K1 hK hK1
  refine wl_impl_defectsOf_c1_0 ?_
  have w1 : IntKind.i64.wrap ((k : Int) + 1) = k + 1 := wrapI (by omega) (by omega)
  by_cases hlt : k < N - z
  · have g : (k : Int) ≤ (N : Int) - 1 - z := by omega
    have r1 := d.hT.at c (e := k) (n := N) rfl hN.symm (by omega)
    have r2 := d.hT.el 1 (e := z) (i := k) (n := (row T k).length) (by omega) rfl rfl (by rw [(hr k (by omega)).1]; omega)
    have p1 := d.ps.at 2 (e := k) (i := k) (n := N) rfl (by simp) (powPs_get (by omega))
    have pr := d.ps.el k _ (powPs_get (show k < N by omega))
    simp only [powP_len hN1] at p1
    have hpx := powP_row hm0 (N := N) (T := T) (i := k) (x := x) (by omega)
    have p2 := pr.at 1 (e := x) (i := x) (n := N) rfl (powP_len hN1).symm (by rw [powP_len hN1]; omega)
    have p3 := pr.el 1 (e := y) (i := x) (j := y) (n := (row (powP m N T k) x).length) (by rw [powP_len hN1]; omega) rfl rfl (by rw [hpx.1]; omega)
    have b1 := (hr k (by omega)).2.gt (show z < (row T k).length by rw [(hr k (by omega)).1]; omega)
    have b2 := hpx.2.gt (show y < (row (powP m N T k) x).length by rw [hpx.1]; omega)
    have bm := mul_bd (by omega) b1 b2
    have w2 : IntKind.i64.wrap (gt (row T k) z * gt (row (powP m N T k) x) y) = gt (row T k) z * gt (row (powP m N T k) x) y := wrapI (by omega) (by omega)
    have bq := mod_bd hm0 (gt (row T k) z * gt (row (powP m N T k) x) y)
    have bs := dL_nonneg k; have bs2 := mulb k (by omega)
    have w3 : IntKind.i64.wrap (dL m N T x y z k + gt (row T k) z * gt (row (powP m N T k) x) y % m) = dL m N T x y z (k + 1) := by rw [wrapI (by omega) (by omega)]; rfl
    simp [q_impl_defectsOf_c1_0, x1, x2, x3, wNz, g, r1, r2, p1, p2, p3, w1, w2, m0, Int.tmod_eq_emod_of_nonneg bm.1, w3]
    exact hK _ _ _ (by omega) ⟨k + 1, rfl, by omega, rfl, rfl⟩
  have hkN : k = N - z := by omega
  have g : ¬ (k : Int) ≤ (N : Int) - 1 - z := by omega
  simp [q_impl_defectsOf_c1_0, x1, wNz, g]
  refine hK1 _ _ fun e he => ?_
  simp at he
  simp [he]
  subst hkN
  clear hK hK1 K K1 hlt hk g w1 he
  have bsL := dL_nonneg (N - z); have bsL2 := mulb (N - z) (by omega)
  refine LP1 (fun d vs h' => ∃ k : Nat, d = N - k ∧ k ≤ N - x ∧ h' = h1 ∧ vs = [i6 x, i6 y, i6 z, .pointer (some ⟨bd, 0, none⟩), .pointer (some ⟨bf, 0, none⟩), .pointer (some ⟨bp, 0, none⟩), i6 (dL m N T x y z (N - z)), i6 (dR m N T x y z k), i6 k]) ?_ _ _ _ ⟨0, rfl, by omega, rfl, rfl⟩
  rintro d1 vs h1 ⟨k, rfl, hk, rfl, rfl⟩ K K1 hK hK1
  refine wl_impl_defectsOf_c1_1 ?_
  have w1 : IntKind.i64.wrap ((k : Int) + 1) = k + 1 := wrapI (by omega) (by omega)
  by_cases hlt : k < N - x
  · have g : (k : Int) ≤ (N : Int) - 1 - x := by omega
    have hrx := hr x (by omega)
    have r1 := d.hT.at c (e := x) (n := N) rfl hN.symm (by omega)
    have r2 := d.hT.el 1 (e := k) (i := x) (n := (row T x).length) (by omega) rfl rfl (by rw [hrx.1]; omega)
    have p1 := d.ps.at 2 (e := k) (i := k) (n := N) rfl (by simp) (powPs_get (by omega))
    have pr := d.ps.el k _ (powPs_get (show k < N by omega))
    simp only [powP_len hN1] at p1
    have hpx := powP_row hm0 (N := N) (T := T) (i := k) (x := y) (by omega)
    have p2 := pr.at 1 (e := y) (i := y) (n := N) rfl (powP_len hN1).symm (by rw [powP_len hN1]; omega)
    have p3 := pr.el 1 (e := z) (i := y) (j := z) (n := (row (powP m N T k) y).length) (by rw [powP_len hN1]; omega) rfl rfl (by rw [hpx.1]; omega)
    have b1 := hrx.2.gt (show k < (row T x).length by rw [hrx.1]; omega)
    have b2 := hpx.2.gt (show z < (row (powP m N T k) y).length by rw [hpx.1]; omega)
    have bm := mul_bd (by omega) b1 b2
    have w2 : IntKind.i64.wrap (gt (row T x) k * gt (row (powP m N T k) y) z) = gt (row T x) k * gt (row (powP m N T k) y) z := wrapI (by omega) (by omega)
    have bq := mod_bd hm0 (gt (row T x) k * gt (row (powP m N T k) y) z)
    have bs := dR_nonneg k; have bs2 := mulb k (by omega)
    have w3 : IntKind.i64.wrap (dR m N T x y z k + gt (row T x) k * gt (row (powP m N T k) y) z % m) = dR m N T x y z (k + 1) := by rw [wrapI (by omega) (by omega)]; rfl
    simp [q_impl_defectsOf_c1_1, x1, x2, x3, wNx, g, r1, r2, p1, p2, p3, w1, w2, m0, Int.tmod_eq_emod_of_nonneg bm.1, w3]
    exact hK _ _ _ (by omega) ⟨k + 1, rfl, by omega, rfl, rfl⟩
  have hkN : k = N - x := by omega
  have g : ¬ (k : Int) ≤ (N : Int) - 1 - x := by omega
  simp [q_impl_defectsOf_c1_1, x1, wNx, g]
  refine hK1 _ _ fun e he => ?_
  simp at he
  subst hkN
  have bsR := dR_nonneg (N - x); have bsR2 := mulb (N - x) (by omega)
  have wS : IntKind.i64.wrap (dL m N T x y z (N - z) - dR m N T x y z (N - x)) = dL m N T x y z (N - z) - dR m N T x y z (N - x) := wrapI (by omega) (by omega)
  simp [he, x2, wS]
  exact s_impl_mod hm0 (by omega) hR
end XM

/- Sums modulo m, and a series of a table as a sum of powers: in plain Lean. -/
namespace XM

theorem sm_add (n : Nat) (f g : Nat → Int) : sm n (fun i => f i + g i) = sm n f + sm n g := by
  induction n with
  | zero => rfl
  | succ n ih => rw [sm_succ, sm_succ, sm_succ, ih]; omega
theorem sm_mul (n : Nat) (c : Int) (f : Nat → Int) : sm n (fun i => c * f i) = c * sm n f := by
  induction n with
  | zero => simp [sm]
  | succ n ih => rw [sm_succ, sm_succ, ih, Int.mul_add]
theorem sm_mul_r (n : Nat) (c : Int) (f : Nat → Int) : sm n (fun i => f i * c) = sm n f * c := by
  rw [Int.mul_comm, ← sm_mul]; exact sm_congr fun i _ => Int.mul_comm _ _
theorem sm_swap (n k : Nat) (f : Nat → Nat → Int) : (sm n fun i => sm k fun j => f i j) = sm k fun j => sm n fun i => f i j := by
  induction n with
  | zero => exact (sm_zero fun j _ => rfl).symm
  | succ n ih => rw [sm_succ, ih, ← sm_add]; rfl
theorem sm_first (n : Nat) (f : Nat → Int) : sm (n + 1) f = f 0 + sm n fun i => f (i + 1) := by
  induction n with
  | zero => simp [sm]
  | succ n ih => rw [sm_succ, ih, sm_succ]; omega
theorem sm_emod {n : Nat} {m : Int} {f g : Nat → Int} (h : ∀ i, i < n → f i % m = g i % m) : sm n f % m = sm n g % m := by
  induction n with
  | zero => rfl
  | succ n ih => rw [sm_succ, sm_succ, Int.add_emod, ih fun i hi => h i (by omega), h n (by omega), ← Int.add_emod]
theorem sm_emod' (n : Nat) (m : Int) (f : Nat → Int) : sm n (fun i => f i % m) % m = sm n f % m := sm_emod fun i _ => Int.emod_emod _ _
theorem mul_emod_congr {a b c d m : Int} (h1 : a % m = b % m) (h2 : c % m = d % m) : a * c % m = b * d % m := by rw [Int.mul_emod, h1, h2, ← Int.mul_emod]
theorem add_emod_congr {a b c d m : Int} (h1 : a % m = b % m) (h2 : c % m = d % m) : (a + c) % m = (b + d) % m := by rw [Int.add_emod, h1, h2, ← Int.add_emod]

/-- A sum over a triangle. -/
def tri (N : Nat) (f : Nat → Nat → Int) : Int := sm N fun i => sm (N - i) fun j => f i j
theorem tri_congr {N : Nat} {f g : Nat → Nat → Int} (h : ∀ i j, i + j < N → f i j = g i j) : tri N f = tri N g := sm_congr fun i hi => sm_congr fun j hj => h i j (by omega)
theorem tri_emod {N : Nat} {m : Int} {f g : Nat → Nat → Int} (h : ∀ i j, i + j < N → f i j % m = g i j % m) : tri N f % m = tri N g % m := sm_emod fun i hi => sm_emod fun j hj => h i j (by omega)
theorem tri_sum (N k : Nat) (f : Nat → Nat → Nat → Int) : tri N (fun i j => sm k fun l => f l i j) = sm k fun l => tri N (f l) := by
  unfold tri
  rw [sm_swap]
  refine sm_congr fun i _ => ?_
  rw [sm_swap]
theorem tri_mul (N : Nat) (c : Int) (f : Nat → Nat → Int) : tri N (fun i j => c * f i j) = c * tri N f := by
  unfold tri
  rw [← sm_mul]
  exact sm_congr fun i _ => sm_mul _ _ _

def wt (b : List (List Int)) (i j x y : Nat) : Int := if i ≤ x ∧ j ≤ y then gt2 b (x - i) (y - j) else 0
theorem tE3_tri (N : Nat) (a b : List (List Int)) (x y : Nat) : tE3 N a b N x y = tri N fun i j => gt2 a i j * wt b i j x y := by
  unfold tE3 tri
  refine sm_congr fun i _ => sm_congr fun j _ => ?_
  show term a b i j x y = gt2 a i j * wt b i j x y
  unfold term wt
  by_cases h : i ≤ x ∧ j ≤ y
  · rw [if_pos h, if_pos h]
  · rw [if_neg h, if_neg h, Int.mul_zero]
theorem gt2_mulT {m : Int} {N x y : Nat} {a b : List (List Int)} (h : x + y < N) : gt2 (mulT m N a b) x y = tE3 N a b N x y % m := by
  unfold gt2; rw [row_mulT (by omega), gt_tab (by omega)]
theorem gt_repl (n i : Nat) : gt (List.replicate n (0 : Int)) i = 0 := by
  rw [rep_tab, gt_tab']; split <;> rfl
theorem gt2_numT {m c : Int} {D x y : Nat} (h : x + y < D + 1) : gt2 (numT m D c) x y = if x = 0 ∧ y = 0 then c % m else 0 := by
  unfold gt2; rw [row_numT (by omega), gt_set, gt_repl]
  by_cases hx : x = 0
  · by_cases hy : y = 0
    · subst hx; subst hy; rw [if_pos ⟨rfl, by simp⟩]; simp
    · rw [if_neg (fun h => hy h.1.symm), if_neg (fun h => hy h.2)]
  · rw [if_neg (c := x = 0 ∧ y = 0) (fun h => hx h.1), if_neg hx]
    split <;> rfl
theorem gt2_ztab {D n x y : Nat} : gt2 (ztab D n) x y = 0 := by
  unfold gt2
  by_cases h : x < n
  · rw [row_ztab h, gt_repl]
  · have : row (ztab D n) x = [] := by simp [row, List.getD_eq_getElem?_getD, List.getElem?_eq_none (show (ztab D n).length ≤ x by simp; omega)]
    rw [this]; rfl
theorem gt2_addT0 {m c : Int} {Z : List (List Int)} {x y : Nat} (hz : 0 < Z.length) (hr : 0 < (row Z 0).length) : gt2 (addT0 m Z c) x y = if x = 0 ∧ y = 0 then (gt2 Z 0 0 + c) % m else gt2 Z x y := by
  show gt (row (Z.set 0 ((row Z 0).set 0 ((gt2 Z 0 0 + c) % m))) x) y = _
  rw [row_set]
  by_cases hx : x = 0
  · subst hx
    rw [if_pos ⟨rfl, hz⟩, gt_set]
    by_cases hy : y = 0
    · subst hy; rw [if_pos ⟨rfl, hr⟩, if_pos ⟨rfl, rfl⟩]
    · rw [if_neg (fun h => hy h.1.symm), if_neg (fun h => hy h.2)]; rfl
  · rw [if_neg (fun h => hx h.1.symm), if_neg (fun h => hx h.1)]; rfl

/-- A product with a sum of tables. -/
theorem mulT_sum {m : Int} {N k : Nat} {Z T : List (List Int)} {c : Nat → Int} {P : Nat → List (List Int)} (hZ : ∀ i j, i + j < N → gt2 Z i j % m = (sm k fun l => c l * gt2 (P l) i j) % m) {x y : Nat} (h : x + y < N) :
    gt2 (mulT m N Z T) x y = (sm k fun l => c l * gt2 (mulT m N (P l) T) x y) % m := by
  rw [gt2_mulT h, tE3_tri]
  have e1 : tri N (fun i j => gt2 Z i j * wt T i j x y) % m = tri N (fun i j => sm k fun l => c l * (gt2 (P l) i j * wt T i j x y)) % m :=
    tri_emod fun i j hij => by
      show gt2 Z i j * wt T i j x y % m = (sm k fun l => c l * (gt2 (P l) i j * wt T i j x y)) % m
      rw [mul_emod_congr (hZ i j hij) rfl, ← sm_mul_r]
      congr 1
      exact sm_congr fun l _ => Int.mul_assoc _ _ _
  rw [e1, tri_sum]
  refine sm_emod fun l _ => ?_
  rw [tri_mul, gt2_mulT h, tE3_tri]
  exact mul_emod_congr rfl (Int.emod_emod _ _).symm

theorem gt2_hornT {m : Int} (hm : 2 ≤ m) {N : Nat} (hN : 1 ≤ N) {f : List Int} {T : List (List Int)} {s : Nat} : ∀ {k : Nat}, k ≤ s + 1 → ∀ {x y : Nat}, x + y < N →
    gt2 (hornT m N f T s k) x y = (sm k fun l => gt f (s + 1 - k + l) * gt2 (powP m N T l) x y) % m := by
  intro k
  induction k with
  | zero => intro _ x y _; rw [hornT, gt2_ztab]; simp [sm]
  | succ k ih =>
    intro hk x y hxy
    have hl0 : 0 < (mulT m N (hornT m N f T s k) T).length := by rw [mulT_len]; omega
    have hr0 : 0 < (row (mulT m N (hornT m N f T s k) T) 0).length := by rw [row_mulT (by omega), tab_len]; omega
    have e : ∀ {x y : Nat}, x + y < N → gt2 (mulT m N (hornT m N f T s k) T) x y = (sm k fun l => gt f (s + 1 - k + l) * gt2 (powP m N T (l + 1)) x y) % m := fun {x y} hxy =>
      mulT_sum (P := powP m N T) (fun i j hij => by rw [ih (by omega) hij, Int.emod_emod]) hxy
    rw [hornT, gt2_addT0 hl0 hr0, sm_first]
    have es : (sm k fun i => gt f (s + 1 - (k + 1) + (i + 1)) * gt2 (powP m N T (i + 1)) x y) = sm k fun l => gt f (s + 1 - k + l) * gt2 (powP m N T (l + 1)) x y := sm_congr fun i _ => by
      rw [show s + 1 - (k + 1) + (i + 1) = s + 1 - k + i by omega]
    rw [es, show s + 1 - (k + 1) + 0 = s - k by omega]
    have e0 : gt2 (powP m N T 0) x y = if x = 0 ∧ y = 0 then 1 else 0 := by
      rw [powP, gt2_numT (by omega), Int.emod_eq_of_lt (by omega) (by omega)]
    rw [e0]
    split
    · rename_i h0; obtain ⟨rfl, rfl⟩ := h0
      rw [e hxy, Int.emod_add_emod, Int.mul_one, Int.add_comm]
    · rw [e hxy, Int.mul_zero, Int.zero_add]

theorem gt2_afterT {m : Int} (hm : 2 ≤ m) {N : Nat} (hN : 1 ≤ N) {f : List Int} (hf : 1 ≤ f.length) {T : List (List Int)} {x y : Nat} (h : x + y < N) :
    gt2 (afterT m N f T) x y = (sm f.length fun l => gt f l * gt2 (powP m N T l) x y) % m := by
  rw [afterT, gt2_hornT hm hN (by omega) h]
  congr 1
  exact sm_congr fun l _ => by rw [show f.length - 1 + 1 - f.length + l = l by omega]

theorem dL_eq {m : Int} (hm : 2 ≤ m) {N : Nat} {T : List (List Int)} (hT : T.length = N) {a b c : Nat} (h : a + b + c < N) : AssL m N T a b c = dL m N T a b c (N - c) % m := by
  have hl : (colL T c).length = N - c := by simp [colL, hT]
  rw [AssL, gt2_afterT hm (by omega) (by omega) (by omega), dL, sm_emod', hl]
  congr 1
  exact sm_congr fun l hl2 => by rw [colL, gt_tab (by omega)]; rfl
theorem dR_eq {m : Int} (hm : 2 ≤ m) {N : Nat} {T : List (List Int)} {a b c : Nat} (hr : (row T a).length = N - a) (h : a + b + c < N) : AssR m N T a b c = dR m N T a b c (N - a) % m := by
  rw [AssR, gt2_afterT hm (by omega) (by omega) (by omega), dR, sm_emod', hr]
  congr 1
theorem ass_iff {m : Int} (hm : 2 ≤ m) {N : Nat} {T : List (List Int)} (hT : T.length = N) {a b c : Nat} (hr : (row T a).length = N - a) (h : a + b + c < N) :
    AssL m N T a b c = AssR m N T a b c ↔ (dL m N T a b c (N - c) - dR m N T a b c (N - a)) % m = 0 := by
  rw [dL_eq hm hT h, dR_eq hm hr h]
  exact Int.emod_eq_emod_iff_emod_sub_eq_zero
end XM

/- Series as functions: products, powers, substitution into a table. -/
namespace XM

theorem sm_ext {n : Nat} {f g : Nat → Int} (h : ∀ i, f i = g i) : sm n f = sm n g := sm_congr fun i _ => h i
theorem sm_rev (n : Nat) (F : Nat → Int) : sm (n + 1) F = sm (n + 1) fun i => F (n - i) := by
  induction n generalizing F with
  | zero => rfl
  | succ n ih =>
    rw [sm_first (n + 1) F, sm_succ (n + 1), ih fun i => F (i + 1)]
    have : (sm (n + 1) fun i => F (n - i + 1)) = sm (n + 1) fun i => F (n + 1 - i) := sm_congr fun i hi => by rw [show n - i + 1 = n + 1 - i by omega]
    rw [this, show n + 1 - (n + 1) = 0 by omega]; omega
/-- Both ways to go over a triangle. -/
theorem sm_tri (n : Nat) (F : Nat → Nat → Int) : (sm n fun i => sm (i + 1) fun j => F i j) = sm n fun j => sm (n - j) fun k => F (j + k) j := by
  induction n with
  | zero => rfl
  | succ n ih =>
    rw [sm_succ, ih, sm_succ n (fun j => sm (n + 1 - j) fun k => F (j + k) j)]
    have e : (sm n fun j => sm (n + 1 - j) fun k => F (j + k) j) = (sm n fun j => sm (n - j) fun k => F (j + k) j) + sm n fun j => F n j := by
      rw [← sm_add]
      refine sm_congr fun j hj => ?_
      rw [show n + 1 - j = (n - j) + 1 by omega, sm_succ, show j + (n - j) = n by omega]
    rw [e, show n + 1 - n = 1 by omega, sm_succ n (fun j => F n j)]
    simp [sm]; omega
theorem sm_shift {N i : Nat} (hi : i ≤ N) (F : Nat → Int) (h : ∀ x, x < i → F x = 0) : sm N F = sm (N - i) fun k => F (i + k) := by
  obtain ⟨d, rfl⟩ : ∃ d, N = i + d := ⟨N - i, by omega⟩
  rw [show i + d - i = d by omega]
  induction d with
  | zero => exact sm_zero h
  | succ d ih => rw [show i + (d + 1) = (i + d) + 1 by omega, sm_succ, sm_succ, ih (by omega)]
theorem tri_swap (N : Nat) (F : Nat → Nat → Int) : tri N F = tri N fun i j => F j i := by
  have e1 : ∀ G : Nat → Nat → Int, tri N G = sm N fun x => sm N fun y => if x + y < N then G x y else 0 := fun G => by
    unfold tri
    refine sm_congr fun x hx => ?_
    rw [sm_more (show N - x ≤ N by omega) fun y h1 h2 => by rw [if_neg (by omega)]]
    exact sm_congr fun y hy => by rw [if_pos (by omega)]
  rw [e1, e1, sm_swap]
  exact sm_congr fun x _ => sm_congr fun y _ => by rw [Nat.add_comm]
theorem tri_full {N : Nat} {G : Nat → Nat → Int} (h : ∀ x y, x < N → y < N → N ≤ x + y → G x y = 0) : tri N G = sm N fun x => sm N fun y => G x y := by
  unfold tri
  refine sm_congr fun x hx => ?_
  exact (sm_more (by omega) fun y h1 h2 => h x y hx h2 (by omega)).symm

/-- The product of series. -/
def mp (f g : Nat → Int) (n : Nat) : Int := sm (n + 1) fun i => f i * g (n - i)
def one0 (n : Nat) : Int := if n = 0 then 1 else 0
def pw (f : Nat → Int) : Nat → Nat → Int
  | 0 => one0
  | k + 1 => mp (pw f k) f
theorem mp_comm (f g : Nat → Int) : mp f g = mp g f := by
  funext n
  unfold mp
  rw [sm_rev]
  exact sm_congr fun i hi => by rw [show n - (n - i) = i by omega, Int.mul_comm]
theorem mp_assoc (f g h : Nat → Int) : mp (mp f g) h = mp f (mp g h) := by
  funext n
  unfold mp
  have e1 : (sm (n + 1) fun i => (sm (i + 1) fun j => f j * g (i - j)) * h (n - i)) = sm (n + 1) fun i => sm (i + 1) fun j => f j * g (i - j) * h (n - i) := sm_ext fun i => (sm_mul_r _ _ _).symm
  rw [e1, sm_tri]
  refine sm_congr fun j hj => ?_
  rw [← sm_mul, show n + 1 - j = n - j + 1 by omega]
  refine sm_congr fun k hk => ?_
  rw [show j + k - j = k by omega, show n - (j + k) = n - j - k by omega, Int.mul_assoc]
theorem mp_one (f : Nat → Int) : mp f one0 = f := by
  funext n
  unfold mp
  rw [sm_succ, sm_zero (fun i hi => by rw [one0, if_neg (by omega), Int.mul_zero])]
  simp [one0]
theorem one_mp (f : Nat → Int) : mp one0 f = f := by rw [mp_comm, mp_one]
theorem mp_sum (k : Nat) (c : Nat → Int) (F : Nat → Nat → Int) (g : Nat → Int) (n : Nat) : mp (fun n => sm k fun l => c l * F l n) g n = sm k fun l => c l * mp (F l) g n := by
  unfold mp
  have e1 : (sm (n + 1) fun i => (sm k fun l => c l * F l i) * g (n - i)) = sm (n + 1) fun i => sm k fun l => c l * (F l i * g (n - i)) := sm_ext fun i => by
    rw [← sm_mul_r]; exact sm_ext fun l => Int.mul_assoc _ _ _
  rw [e1, sm_swap]
  exact sm_ext fun l => sm_mul _ _ _
theorem mp_tri (N : Nat) (c : Nat → Nat → Int) (F : Nat → Nat → Nat → Int) (g : Nat → Int) (n : Nat) : mp (fun n => tri N fun i j => c i j * F i j n) g n = tri N fun i j => c i j * mp (F i j) g n := by
  unfold tri
  have := mp_sum N (fun _ => 1) (fun i n => sm (N - i) fun j => c i j * F i j n) g n
  simp only [Int.one_mul] at this
  rw [this]
  exact sm_ext fun i => mp_sum _ _ _ _ _
theorem mp_low {f g : Nat → Int} {i j n : Nat} (hf : ∀ k, k < i → f k = 0) (hg : ∀ k, k < j → g k = 0) (hn : n < i + j) : mp f g n = 0 := by
  unfold mp
  refine sm_zero fun k hk => ?_
  by_cases h : k < i
  · rw [hf k h, Int.zero_mul]
  · rw [hg (n - k) (by omega), Int.mul_zero]
theorem pw_low {f : Nat → Int} (h0 : f 0 = 0) : ∀ {k n : Nat}, n < k → pw f k n = 0 := by
  intro k
  induction k with
  | zero => intro n h; omega
  | succ k ih =>
    intro n h
    exact mp_low (i := k) (j := 1) (fun l hl => ih hl) (fun l hl => by rw [show l = 0 by omega]; exact h0) h
theorem pw_add (f : Nat → Int) (i j : Nat) : mp (pw f i) (pw f j) = pw f (i + j) := by
  induction j with
  | zero => exact mp_one _
  | succ j ih => show mp (pw f i) (mp (pw f j) f) = mp (pw f (i + j)) f; rw [← mp_assoc, ih]
theorem pw_1 (f : Nat → Int) : pw f 1 = f := one_mp f

/-- A monomial in two series. -/
def mon (f g : Nat → Int) (i j : Nat) : Nat → Int := mp (pw f i) (pw g j)
theorem mon_low {f g : Nat → Int} (hf : f 0 = 0) (hg : g 0 = 0) {i j n : Nat} (h : n < i + j) : mon f g i j n = 0 := mp_low (fun _ hk => pw_low hf hk) (fun _ hk => pw_low hg hk) h
theorem mon_mul (f g : Nat → Int) (i j k l : Nat) : mp (mon f g i j) (mon f g k l) = mon f g (i + k) (j + l) := by
  unfold mon
  rw [mp_assoc, ← mp_assoc (pw g j), mp_comm (pw g j), mp_assoc (pw f k), ← mp_assoc (pw f i), pw_add, pw_add]

/-- A table in which series are substituted. -/
def ev (N : Nat) (T : Nat → Nat → Int) (f g : Nat → Int) (n : Nat) : Int := tri N fun i j => T i j * mon f g i j n
def wf (T : Nat → Nat → Int) (i j x y : Nat) : Int := if i ≤ x ∧ j ≤ y then T (x - i) (y - j) else 0
theorem wf_neg {T : Nat → Nat → Int} {i j x y : Nat} (h : ¬ (i ≤ x ∧ j ≤ y)) : wf T i j x y = 0 := if_neg h
theorem wf_pos (T : Nat → Nat → Int) (i j k l : Nat) : wf T i j (i + k) (j + l) = T k l := by
  unfold wf; rw [if_pos (by omega), show i + k - i = k by omega, show j + l - j = l by omega]
/-- The product of tables. -/
def pT (N : Nat) (S T : Nat → Nat → Int) (x y : Nat) : Int := tri N fun i j => S i j * wf T i j x y
theorem gt2_mulT' {m : Int} {N x y : Nat} {a b : List (List Int)} (h : x + y < N) : gt2 (mulT m N a b) x y = pT N (gt2 a) (gt2 b) x y % m := by
  rw [gt2_mulT h, tE3_tri]; rfl

theorem tri_swap4 (N : Nat) (F : Nat → Nat → Nat → Nat → Int) : (tri N fun x y => tri N fun i j => F x y i j) = tri N fun i j => tri N fun x y => F x y i j := by
  unfold tri
  have h1 : (sm N fun x => sm (N - x) fun y => sm N fun i => sm (N - i) fun j => F x y i j) = sm N fun x => sm N fun i => sm (N - x) fun y => sm (N - i) fun j => F x y i j := sm_ext fun x => sm_swap _ _ _
  rw [h1, sm_swap]
  refine sm_ext fun i => ?_
  have h2 : (sm N fun x => sm (N - x) fun y => sm (N - i) fun j => F x y i j) = sm N fun x => sm (N - i) fun j => sm (N - x) fun y => F x y i j := sm_ext fun x => sm_swap _ _ _
  rw [h2, sm_swap]

theorem ev_shift {N : Nat} {T : Nat → Nat → Int} {f g : Nat → Int} (hf : f 0 = 0) (hg : g 0 = 0) {i j n : Nat} (hij : i + j < N) (hn : n < N) :
    (tri N fun x y => wf T i j x y * mon f g x y n) = tri N fun k l => T k l * mon f g (i + k) (j + l) n := by
  unfold tri
  rw [sm_shift (i := i) (by omega) _ fun x hx => sm_zero fun y _ => by dsimp only; rw [wf_neg (by omega), Int.zero_mul]]
  have e1 : (sm N fun k => sm (N - k) fun l => T k l * mon f g (i + k) (j + l) n) = sm (N - i) fun k => sm (N - k) fun l => T k l * mon f g (i + k) (j + l) n :=
    sm_more (by omega) fun k h1 h2 => sm_zero fun l _ => by rw [mon_low hf hg (by omega), Int.mul_zero]
  rw [e1]
  refine sm_congr fun k hk => ?_
  by_cases hj : j ≤ N - (i + k)
  · rw [sm_shift hj _ fun y hy => by dsimp only; rw [wf_neg (by omega), Int.zero_mul]]
    rw [sm_more (show N - (i + k) - j ≤ N - k by omega) fun l h1 h2 => by rw [mon_low hf hg (by omega), Int.mul_zero]]
    exact sm_congr fun l hl => by dsimp only; rw [wf_pos]
  · rw [sm_zero fun y hy => by dsimp only; rw [wf_neg (by omega), Int.zero_mul]]
    exact (sm_zero fun l hl => by rw [mon_low hf hg (by omega), Int.mul_zero]).symm

theorem ev_mul {N : Nat} {S T : Nat → Nat → Int} {f g : Nat → Int} (hf : f 0 = 0) (hg : g 0 = 0) {n : Nat} (hn : n < N) : ev N (pT N S T) f g n = mp (ev N S f g) (ev N T f g) n := by
  have e1 : ev N (pT N S T) f g n = tri N fun x y => tri N fun i j => S i j * (wf T i j x y * mon f g x y n) := by
    unfold ev pT
    refine tri_congr fun x y _ => ?_
    unfold tri
    rw [← sm_mul_r]
    refine sm_ext fun i => ?_
    rw [← sm_mul_r]
    exact sm_ext fun j => Int.mul_assoc _ _ _
  rw [e1, tri_swap4]
  have e2 : mp (ev N S f g) (ev N T f g) n = tri N fun i j => S i j * mp (mon f g i j) (ev N T f g) n := mp_tri N S (mon f g) (ev N T f g) n
  rw [e2]
  refine tri_congr fun i j hij => ?_
  rw [tri_mul, ev_shift hf hg hij hn]
  congr 1
  rw [mp_comm]
  have e3 : mp (ev N T f g) (mon f g i j) n = tri N fun k l => T k l * mp (mon f g k l) (mon f g i j) n := mp_tri N T (mon f g) (mon f g i j) n
  rw [e3]
  exact tri_congr fun k l _ => by rw [mon_mul, Nat.add_comm i, Nat.add_comm j]

/-- Equal up to a degree, modulo m. -/
def EqD (m : Int) (D : Nat) (f g : Nat → Int) : Prop := ∀ n, n ≤ D → f n % m = g n % m
section
variable {m : Int} {D : Nat}
theorem EqD.refl (f : Nat → Int) : EqD m D f f := fun _ _ => rfl
theorem EqD.symm {f g : Nat → Int} (h : EqD m D f g) : EqD m D g f := fun n hn => (h n hn).symm
theorem EqD.trans {f g k : Nat → Int} (h : EqD m D f g) (h2 : EqD m D g k) : EqD m D f k := fun n hn => (h n hn).trans (h2 n hn)
theorem EqD.mp {f f' g g' : Nat → Int} (h : EqD m D f f') (h2 : EqD m D g g') : EqD m D (mp f g) (mp f' g') := fun n hn => by
  unfold XM.mp
  exact sm_emod fun i hi => mul_emod_congr (h i (by omega)) (h2 (n - i) (by omega))
theorem EqD.pw {f f' : Nat → Int} (h : EqD m D f f') (k : Nat) : EqD m D (pw f k) (pw f' k) := by
  induction k with
  | zero => exact EqD.refl _
  | succ k ih => exact EqD.mp ih h
theorem EqD.mon {f f' g g' : Nat → Int} (h : EqD m D f f') (h2 : EqD m D g g') (i j : Nat) : EqD m D (mon f g i j) (mon f' g' i j) := EqD.mp (h.pw i) (h2.pw j)
theorem EqD.ev {N : Nat} {S T : Nat → Nat → Int} {f f' g g' : Nat → Int} (hT : ∀ i j, i + j < N → S i j % m = T i j % m) (h : EqD m D f f') (h2 : EqD m D g g') : EqD m D (ev N S f g) (ev N T f' g') := fun n hn =>
  tri_emod fun i j hij => mul_emod_congr (hT i j hij) (h.mon h2 i j n hn)
end

theorem ev_num {N : Nat} (hN : 1 ≤ N) {T : Nat → Nat → Int} (hT : ∀ i j, i + j < N → T i j = if i = 0 ∧ j = 0 then 1 else 0) (f g : Nat → Int) : ev N T f g = one0 := by
  funext n
  unfold ev
  have e : (tri N fun i j => T i j * mon f g i j n) = tri N fun i j => (if i = 0 ∧ j = 0 then 1 else 0) * mon f g i j n := tri_congr fun i j h => by rw [hT i j h]
  rw [e]
  unfold tri
  obtain ⟨K, rfl⟩ : ∃ K, N = K + 1 := ⟨N - 1, by omega⟩
  rw [sm_first, sm_zero (n := K) fun i _ => sm_zero fun j _ => by dsimp only; rw [if_neg (by omega), Int.zero_mul], Int.add_zero, show K + 1 - 0 = K + 1 by omega, sm_first, sm_zero (n := K) fun j _ => by dsimp only; rw [if_neg (by omega), Int.zero_mul]]
  simp [mon, pw, mp_one]

/-- Powers of a table are powers of what it comes to. -/
theorem ev_powP {m : Int} (hm : 2 ≤ m) {D : Nat} {T : List (List Int)} {f g : Nat → Int} (hf : f 0 = 0) (hg : g 0 = 0) (i : Nat) : EqD m D (ev (D + 1) (gt2 (powP m (D + 1) T i)) f g) (pw (ev (D + 1) (gt2 T) f g) i) := by
  induction i with
  | zero =>
    rw [ev_num (by omega) (fun i j h => ?_)]
    · exact EqD.refl _
    · rw [powP, gt2_numT (by omega), Int.emod_eq_of_lt (by omega) (by omega)]
  | succ i ih =>
    refine EqD.trans (g := ev (D + 1) (pT (D + 1) (gt2 (powP m (D + 1) T i)) (gt2 T)) f g) (EqD.ev (fun i j h => ?_) (EqD.refl _) (EqD.refl _)) ?_
    · rw [powP, gt2_mulT' h, Int.emod_emod]
    · refine EqD.trans (fun n hn => by rw [ev_mul hf hg (by omega)]) (EqD.mp ih (EqD.refl _))
end XM

/- A law is a commutative group of curves: in plain Lean. -/
namespace XM

/-- The terms of a product of three series. -/
def mon3 (a b c : Nat → Int) (x y z : Nat) : Nat → Int := mp (mon a b x y) (pw c z)
theorem mon3_r (a b c : Nat → Int) (x y z : Nat) : mp (pw a x) (mon b c y z) = mon3 a b c x y z := by unfold mon3 mon; rw [mp_assoc]
theorem mon3_low {a b c : Nat → Int} (ha : a 0 = 0) (hb : b 0 = 0) (hc : c 0 = 0) {x y z n : Nat} (h : n < x + y + z) : mon3 a b c x y z n = 0 :=
  mp_low (i := x + y) (j := z) (fun _ hk => mon_low ha hb hk) (fun _ hk => pw_low hc hk) h

section
variable {m : Int} {D : Nat} {T : List (List Int)}
theorem mp_tri' (N : Nat) (c : Nat → Nat → Int) (F : Nat → Nat → Nat → Int) (g : Nat → Int) (n : Nat) : mp g (fun n => tri N fun i j => c i j * F i j n) n = tri N fun i j => c i j * mp g (F i j) n := by
  rw [mp_comm, mp_tri]
  exact tri_congr fun i j _ => by rw [mp_comm]

theorem ev_zero {N : Nat} {S : Nat → Nat → Int} {f g : Nat → Int} (hf : f 0 = 0) (hg : g 0 = 0) (h00 : S 0 0 = 0) (hN : 1 ≤ N) : ev N S f g 0 = 0 := by
  unfold ev tri
  refine sm_zero fun i hi => sm_zero fun j hj => ?_
  dsimp only
  by_cases h : 0 < i + j
  · rw [mon_low hf hg h, Int.mul_zero]
  · rw [show i = 0 by omega, show j = 0 by omega, h00, Int.zero_mul]

/-- The sum over all triples with small sums. -/
def tri3 (N : Nat) (F : Nat → Nat → Nat → Int) : Int := sm N fun x => sm N fun y => sm N fun z => if x + y + z < N then F x y z else 0

theorem assocL {m : Int} {D : Nat} {T : List (List Int)} (hm : 2 ≤ m) {a b c : Nat → Int} (ha : a 0 = 0) (hb : b 0 = 0) (hc : c 0 = 0) (h00 : gt2 T 0 0 = 0) :
    EqD m D (ev (D + 1) (gt2 T) (ev (D + 1) (gt2 T) a b) c) fun n => tri3 (D + 1) fun x y z => (sm (D + 1 - z) fun i => gt2 T i z * gt2 (powP m (D + 1) T i) x y) * mon3 a b c x y z n := by
  have hA : ev (D + 1) (gt2 T) a b 0 = 0 := ev_zero ha hb h00 (by omega)
  intro n hn
  -- the powers of F(a, b)
  have e1 : ev (D + 1) (gt2 T) (ev (D + 1) (gt2 T) a b) c n % m = (tri (D + 1) fun i k => gt2 T i k * mp (ev (D + 1) (gt2 (powP m (D + 1) T i)) a b) (pw c k) n) % m :=
    tri_emod fun i k h => mul_emod_congr rfl (EqD.mp (ev_powP hm ha hb i).symm (EqD.refl _) n hn)
  rw [e1]
  have e2 : ∀ i k, mp (ev (D + 1) (gt2 (powP m (D + 1) T i)) a b) (pw c k) n = tri (D + 1) fun x y => gt2 (powP m (D + 1) T i) x y * mon3 a b c x y k n := fun i k => mp_tri (D + 1) (gt2 (powP m (D + 1) T i)) (mon a b) (pw c k) n
  have e3 : (tri (D + 1) fun i k => gt2 T i k * mp (ev (D + 1) (gt2 (powP m (D + 1) T i)) a b) (pw c k) n) = sm (D + 1) fun k => sm (D + 1 - k) fun i => gt2 T i k * tri (D + 1) fun x y => gt2 (powP m (D + 1) T i) x y * mon3 a b c x y k n :=
    (tri_swap _ _).trans (sm_ext fun k => sm_ext fun i => congrArg (gt2 T i k * ·) (e2 i k))
  rw [e3]
  congr 1
  -- sort by x y z
  unfold tri3
  dsimp only
  have e4 : (sm (D + 1) fun x => sm (D + 1) fun y => sm (D + 1) fun z => if x + y + z < D + 1 then (sm (D + 1 - z) fun i => gt2 T i z * gt2 (powP m (D + 1) T i) x y) * mon3 a b c x y z n else 0) =
      sm (D + 1) fun z => sm (D + 1) fun x => sm (D + 1) fun y => if x + y + z < D + 1 then (sm (D + 1 - z) fun i => gt2 T i z * gt2 (powP m (D + 1) T i) x y) * mon3 a b c x y z n else 0 := by
    have : ∀ x, (sm (D + 1) fun y => sm (D + 1) fun z => if x + y + z < D + 1 then (sm (D + 1 - z) fun i => gt2 T i z * gt2 (powP m (D + 1) T i) x y) * mon3 a b c x y z n else 0) = sm (D + 1) fun z => sm (D + 1) fun y => if x + y + z < D + 1 then (sm (D + 1 - z) fun i => gt2 T i z * gt2 (powP m (D + 1) T i) x y) * mon3 a b c x y z n else 0 := fun x => sm_swap _ _ _
    rw [sm_ext this, sm_swap]
  rw [e4]
  refine sm_congr fun k hk => ?_
  have e5 : ∀ i, gt2 T i k * (tri (D + 1) fun x y => gt2 (powP m (D + 1) T i) x y * mon3 a b c x y k n) = tri (D + 1) fun x y => gt2 T i k * gt2 (powP m (D + 1) T i) x y * mon3 a b c x y k n := fun i => by
    rw [← tri_mul]; exact tri_congr fun x y _ => (Int.mul_assoc _ _ _).symm
  rw [sm_ext e5, ← tri_sum]
  rw [tri_full fun x y hx hy hxy => sm_zero fun i _ => by rw [mon3_low ha hb hc (by omega), Int.mul_zero]]
  refine sm_congr fun x hx => sm_congr fun y hy => ?_
  by_cases h : x + y + k < D + 1
  · rw [if_pos h]; exact sm_mul_r _ _ _
  · rw [if_neg h]; exact sm_zero fun i _ => by rw [mon3_low ha hb hc (by omega), Int.mul_zero]

theorem assocR {m : Int} {D : Nat} {T : List (List Int)} (hm : 2 ≤ m) {a b c : Nat → Int} (ha : a 0 = 0) (hb : b 0 = 0) (hc : c 0 = 0) (h00 : gt2 T 0 0 = 0) :
    EqD m D (ev (D + 1) (gt2 T) a (ev (D + 1) (gt2 T) b c)) fun n => tri3 (D + 1) fun x y z => (sm (D + 1 - x) fun j => gt2 T x j * gt2 (powP m (D + 1) T j) y z) * mon3 a b c x y z n := by
  have hA : ev (D + 1) (gt2 T) b c 0 = 0 := ev_zero hb hc h00 (by omega)
  intro n hn
  have e1 : ev (D + 1) (gt2 T) a (ev (D + 1) (gt2 T) b c) n % m = (tri (D + 1) fun x j => gt2 T x j * mp (pw a x) (ev (D + 1) (gt2 (powP m (D + 1) T j)) b c) n) % m :=
    tri_emod fun x j h => mul_emod_congr rfl (EqD.mp (EqD.refl _) (ev_powP hm hb hc j).symm n hn)
  rw [e1]
  congr 1
  have e2 : ∀ x j, mp (pw a x) (ev (D + 1) (gt2 (powP m (D + 1) T j)) b c) n = tri (D + 1) fun y z => gt2 (powP m (D + 1) T j) y z * mon3 a b c x y z n := fun x j => by
    have := mp_tri' (D + 1) (gt2 (powP m (D + 1) T j)) (mon b c) (pw a x) n
    unfold ev
    rw [this]
    exact tri_congr fun y z _ => by rw [mon3_r]
  unfold tri3
  dsimp only
  have e3 : (tri (D + 1) fun x j => gt2 T x j * mp (pw a x) (ev (D + 1) (gt2 (powP m (D + 1) T j)) b c) n) = sm (D + 1) fun x => sm (D + 1 - x) fun j => gt2 T x j * tri (D + 1) fun y z => gt2 (powP m (D + 1) T j) y z * mon3 a b c x y z n :=
    sm_ext fun x => sm_ext fun j => congrArg (gt2 T x j * ·) (e2 x j)
  rw [e3]
  refine sm_congr fun x hx => ?_
  have e5 : ∀ j, gt2 T x j * (tri (D + 1) fun y z => gt2 (powP m (D + 1) T j) y z * mon3 a b c x y z n) = tri (D + 1) fun y z => gt2 T x j * gt2 (powP m (D + 1) T j) y z * mon3 a b c x y z n := fun j => by
    rw [← tri_mul]; exact tri_congr fun y z _ => (Int.mul_assoc _ _ _).symm
  rw [sm_ext e5, ← tri_sum]
  rw [tri_full fun y z hy hz hyz => sm_zero fun i _ => by rw [mon3_low ha hb hc (by omega), Int.mul_zero]]
  refine sm_congr fun y hy => sm_congr fun z hz => ?_
  by_cases h : x + y + z < D + 1
  · rw [if_pos h]; exact sm_mul_r _ _ _
  · rw [if_neg h]; exact sm_zero fun i _ => by rw [mon3_low ha hb hc (by omega), Int.mul_zero]
end

/-- What a law is, for the calculus. -/
structure Law (m : Int) (D : Nat) (T : List (List Int)) : Prop where
  m2 : 2 ≤ m
  D1 : 1 ≤ D
  len : T.length = D + 1
  rows : ∀ i, i < D + 1 → (row T i).length = D + 1 - i ∧ Nums m (row T i)
  ax : NoF m (D + 1) T
theorem LawT.law {m : Int} {T : List (List Int)} (l : LawT m T) : Law m (T.length - 1) T := by
  obtain ⟨⟨h1, h2, h3⟩, h4⟩ := l
  have e : T.length - 1 + 1 = T.length := by omega
  exact ⟨h1.1, by omega, e.symm, fun i hi => by rw [e]; exact h3 i (by omega), by rw [e]; exact h4⟩

section
variable {m : Int} {D : Nat} {T : List (List Int)}
theorem Law.col (l : Law m D T) {i : Nat} (h : i < D + 1) : gt2 T i 0 = if i = 1 then 1 else 0 := l.ax.1 i h
theorem Law.sym (l : Law m D T) {i j : Nat} (h : i + j < D + 1) : gt2 T i j = gt2 T j i := by
  rcases Nat.lt_trichotomy i j with h1 | h1 | h1
  · exact l.ax.2.1 i j h1 h
  · rw [h1]
  · exact (l.ax.2.1 j i h1 (by omega)).symm
theorem Law.row0 (l : Law m D T) {j : Nat} (h : j < D + 1) : gt2 T 0 j = if j = 1 then 1 else 0 := by rw [l.sym (by omega), l.col h]
theorem Law.h00 (l : Law m D T) : gt2 T 0 0 = 0 := by rw [l.col (by omega), if_neg (by omega)]

theorem Law.assoc (l : Law m D T) {a b c : Nat → Int} (ha : a 0 = 0) (hb : b 0 = 0) (hc : c 0 = 0) : EqD m D (ev (D + 1) (gt2 T) (ev (D + 1) (gt2 T) a b) c) (ev (D + 1) (gt2 T) a (ev (D + 1) (gt2 T) b c)) := by
  refine (assocL l.m2 ha hb hc l.h00).trans (EqD.trans ?_ (assocR l.m2 ha hb hc l.h00).symm)
  intro n hn
  unfold tri3
  dsimp only
  refine sm_emod fun x hx => sm_emod fun y hy => sm_emod fun z hz => ?_
  by_cases h : x + y + z < D + 1
  · rw [if_pos h, if_pos h]
    refine mul_emod_congr ?_ rfl
    have h1 := l.ax.2.2 x y z h
    rw [dL_eq l.m2 l.len h, dR_eq l.m2 (l.rows x (by omega)).1 h, dL, dR, sm_emod', sm_emod'] at h1
    exact h1
  · rw [if_neg h, if_neg h]

theorem Law.comm (l : Law m D T) (a b : Nat → Int) : ev (D + 1) (gt2 T) a b = ev (D + 1) (gt2 T) b a := by
  funext n
  unfold ev
  rw [tri_swap]
  exact tri_congr fun i j h => by rw [l.sym (by omega)]; unfold mon; rw [mp_comm]

theorem pw_zero (k : Nat) : pw (fun _ => 0) (k + 1) = fun _ => 0 := by
  funext n
  show mp (pw (fun _ => 0) k) (fun _ => 0) n = 0
  exact sm_zero fun i _ => Int.mul_zero _
theorem Law.zero (l : Law m D T) (a : Nat → Int) : ev (D + 1) (gt2 T) a (fun _ => 0) = a := by
  funext n
  unfold ev tri
  obtain ⟨K, hK⟩ : ∃ K, D = K + 1 := ⟨D - 1, by have := l.D1; omega⟩
  have e : ∀ i, i < D + 1 → (sm (D + 1 - i) fun j => gt2 T i j * mon a (fun _ => 0) i j n) = (if i = 1 then 1 else 0) * pw a i n := fun i hi => by
    rw [show D + 1 - i = (D - i) + 1 by omega, sm_first, sm_zero (n := D - i) fun j _ => by
      show gt2 T i (j + 1) * mp (pw a i) (pw (fun _ => 0) (j + 1)) n = 0
      rw [pw_zero]
      have : mp (pw a i) (fun _ => 0) n = 0 := sm_zero fun i _ => Int.mul_zero _
      rw [this, Int.mul_zero]]
    rw [l.col hi, Int.add_zero]
    show (if i = 1 then 1 else 0) * mp (pw a i) one0 n = _
    rw [mp_one]
  rw [sm_congr e, sm_first, if_neg (by omega), Int.zero_mul, Int.zero_add, hK, sm_first, sm_zero (n := K) fun i _ => by rw [if_neg (by omega), Int.zero_mul]]
  simp [pw_1]

theorem Law.at0 (l : Law m D T) {a b : Nat → Int} (ha : a 0 = 0) (hb : b 0 = 0) : ev (D + 1) (gt2 T) a b 0 = 0 := ev_zero ha hb l.h00 (by omega)
end
end XM

/- The programs' sums, compositions and inverses, as series. -/
namespace XM

/-- A curve of a degree. -/
structure Cv (m : Int) (D : Nat) (a : List Int) : Prop where
  len : a.length = D + 1
  nums : Nums m a
  z : gt a 0 = 0

theorem eq_of_EqD {m : Int} {D : Nat} {a b : List Int} (ha : a.length = D + 1) (hb : b.length = D + 1) (na : Nums m a) (nb : Nums m b) (h : EqD m D (gt a) (gt b)) : a = b := by
  refine gt_ext (by omega) fun i hi => ?_
  have h1 := h i (by omega)
  have h2 := na.gt hi; have h3 := nb.gt (show i < b.length by omega)
  rwa [Int.emod_eq_of_lt h2.1 h2.2, Int.emod_eq_of_lt h3.1 h3.2] at h1

section
variable {m : Int} {D : Nat}
theorem gt_mulL {a b : List Int} {n : Nat} (hn : n ≤ D) : gt (mulL m (D + 1) a b) n = mp (gt a) (gt b) n % m := gt_tab (by omega)
theorem powL_pw (f : List Int) (k : Nat) : EqD m D (gt (powL m D f k)) (pw (gt f) k) := by
  induction k with
  | zero =>
    intro n hn
    have : gt (oneL (D + 1)) n = one0 n := by
      rw [oneL, gt_set, gt_repl]; unfold one0
      by_cases h : n = 0
      · subst h; simp
      · rw [if_neg (fun h2 => h h2.1.symm), if_neg h]
    show gt (oneL (D + 1)) n % m = one0 n % m
    rw [this]
  | succ k ih =>
    intro n hn
    show gt (mulL m (D + 1) (powL m D f k) f) n % m = mp (pw (gt f) k) (gt f) n % m
    rw [gt_mulL hn, Int.emod_emod]
    exact EqD.mp ih (EqD.refl _) n hn

theorem putL_ev {T : List (List Int)} (hr : ∀ i, i < D + 1 → (row T i).length = D + 1 - i) (f g : List Int) : EqD m D (gt (putL m D T f g)) (ev (D + 1) (gt2 T) (gt f) (gt g)) := by
  intro n hn
  rw [putL, gt_tab (by omega), Int.emod_emod]
  unfold pt ptI ev tri
  refine sm_emod fun i hi => ?_
  rw [hr i hi]
  refine sm_emod fun j hj => mul_emod_congr rfl ?_
  exact EqD.mp (powL_pw f i) (powL_pw g j) n hn

/-- Composition. -/
def cmp (N : Nat) (f a : Nat → Int) (n : Nat) : Int := sm N fun i => f i * pw a i n

theorem gt_addC {xs : List Int} {c : Int} {n : Nat} (hl : xs.length = D + 1) : gt (addC m xs c) n = if n = 0 then (gt xs 0 + c) % m else gt xs n := by
  rw [addC, gt_set]
  by_cases h : n = 0
  · subst h; rw [if_pos ⟨rfl, by omega⟩, if_pos rfl]
  · rw [if_neg (fun h2 => h h2.1.symm), if_neg h]

theorem horn_cmp {a f : List Int} {s : Nat} : ∀ {k : Nat}, k ≤ s + 1 → EqD m D (gt (horn m D a f s k)) fun n => sm k fun i => gt a (s + 1 - k + i) * pw (gt f) i n := by
  intro k
  induction k with
  | zero => intro _ n _; rw [horn, gt_repl]; rfl
  | succ k ih =>
    intro hk n hn
    have e1 : EqD m D (gt (mulL m (D + 1) (horn m D a f s k) f)) fun n => sm k fun i => gt a (s + 1 - k + i) * pw (gt f) (i + 1) n := fun n hn => by
      rw [gt_mulL hn, Int.emod_emod, EqD.mp (ih (by omega)) (EqD.refl (gt f)) n hn]
      dsimp only
      rw [mp_sum]; rfl
    dsimp only
    rw [horn, gt_addC (D := D) (by simp), sm_first, show s + 1 - (k + 1) + 0 = s - k by omega]
    have e2 : (sm k fun i => gt a (s + 1 - (k + 1) + (i + 1)) * pw (gt f) (i + 1) n) = sm k fun i => gt a (s + 1 - k + i) * pw (gt f) (i + 1) n := sm_congr fun i _ => by rw [show s + 1 - (k + 1) + (i + 1) = s + 1 - k + i by omega]
    rw [e2]
    have e3 : pw (gt f) 0 n = if n = 0 then 1 else 0 := rfl
    rw [e3]
    by_cases h : n = 0
    · subst h
      rw [if_pos rfl, if_pos rfl, Int.emod_emod, Int.mul_one, Int.add_comm]
      exact add_emod_congr rfl (e1 0 hn)
    · rw [if_neg h, if_neg h, Int.mul_zero, Int.zero_add]
      exact e1 n hn
theorem compL_cmp {a f : List Int} (ha : a.length = D + 1) : EqD m D (gt (compL m D a f)) (cmp (D + 1) (gt a) (gt f)) := by
  unfold compL
  rw [ha, show min (D + 1 - 1) D = D by omega]
  refine (horn_cmp (by omega)).trans fun n hn => ?_
  unfold cmp
  congr 1
  exact sm_congr fun i _ => by rw [show D + 1 - (D + 1) + i = i by omega]

theorem cmp_mp {N : Nat} {f g a : Nat → Int} (ha : a 0 = 0) {n : Nat} (hn : n < N) : cmp N (mp f g) a n = mp (cmp N f a) (cmp N g a) n := by
  have e1 : mp (cmp N f a) (cmp N g a) n = sm N fun i => f i * mp (pw a i) (cmp N g a) n := mp_sum N f (pw a) (cmp N g a) n
  have e2 : ∀ i, mp (pw a i) (cmp N g a) n = sm N fun j => g j * pw a (i + j) n := fun i => by
    rw [mp_comm]
    have : mp (cmp N g a) (pw a i) n = sm N fun j => g j * mp (pw a j) (pw a i) n := mp_sum N g (pw a) (pw a i) n
    rw [this]
    exact sm_ext fun j => by rw [pw_add, Nat.add_comm]
  rw [e1]
  unfold cmp
  have e3 : (sm N fun k => mp f g k * pw a k n) = sm N fun k => sm (k + 1) fun i => f i * g (k - i) * pw a k n := sm_ext fun k => by unfold mp; exact (sm_mul_r _ _ _).symm
  rw [e3, sm_tri]
  refine sm_congr fun i hi => ?_
  have e2' := e2 i
  unfold cmp at e2'
  rw [e2', ← sm_mul, sm_more (show N - i ≤ N by omega) fun j h1 h2 => by rw [pw_low ha (by omega)]; simp]
  exact sm_congr fun j hj => by rw [show i + j - i = j by omega, Int.mul_assoc]
theorem cmp_one {N : Nat} (hN : 1 ≤ N) (a : Nat → Int) : cmp N one0 a = one0 := by
  funext n
  unfold cmp
  obtain ⟨K, rfl⟩ : ∃ K, N = K + 1 := ⟨N - 1, by omega⟩
  rw [sm_first, sm_zero (n := K) fun i _ => by rw [one0, if_neg (by omega), Int.zero_mul]]
  simp [one0, pw]
theorem EqD.cmp {f f' : Nat → Int} (h : EqD m D f f') (a : Nat → Int) : EqD m D (cmp (D + 1) f a) (cmp (D + 1) f' a) := fun n hn => sm_emod fun i hi => mul_emod_congr (h i (by omega)) rfl
theorem EqD.cmp_r {a a' : Nat → Int} (h : EqD m D a a') (f : Nat → Int) : EqD m D (XM.cmp (D + 1) f a) (XM.cmp (D + 1) f a') := fun n hn => sm_emod fun i hi => mul_emod_congr rfl (h.pw i n hn)
theorem cmp_pw {f a : Nat → Int} (ha : a 0 = 0) (k : Nat) : EqD m D (cmp (D + 1) (pw f k) a) (pw (cmp (D + 1) f a) k) := by
  induction k with
  | zero => show EqD m D (cmp (D + 1) one0 a) one0; rw [cmp_one (by omega)]; exact EqD.refl _
  | succ k ih => exact EqD.trans (fun n hn => by show cmp (D + 1) (mp (pw f k) f) a n % m = _; rw [cmp_mp ha (by omega)]) (EqD.mp ih (EqD.refl _))
theorem cmp_ev {S : Nat → Nat → Int} {f g a : Nat → Int} (ha : a 0 = 0) : EqD m D (cmp (D + 1) (ev (D + 1) S f g) a) (ev (D + 1) S (cmp (D + 1) f a) (cmp (D + 1) g a)) := by
  intro n hn
  have e1 : cmp (D + 1) (ev (D + 1) S f g) a n = tri (D + 1) fun i j => S i j * cmp (D + 1) (mon f g i j) a n := by
    unfold cmp ev
    have h1 : (sm (D + 1) fun k => (tri (D + 1) fun i j => S i j * mon f g i j k) * pw a k n) = sm (D + 1) fun k => tri (D + 1) fun i j => S i j * (mon f g i j k * pw a k n) := sm_ext fun k => by
      rw [Int.mul_comm, ← tri_mul]
      exact tri_congr fun i j _ => by rw [Int.mul_comm, Int.mul_assoc]
    rw [h1, ← tri_sum]
    exact tri_congr fun i j _ => sm_mul _ _ _
  rw [e1]
  refine tri_emod fun i j _ => mul_emod_congr rfl ?_
  have e2 : cmp (D + 1) (mon f g i j) a n = mp (cmp (D + 1) (pw f i) a) (cmp (D + 1) (pw g j) a) n := cmp_mp ha (by omega)
  rw [e2]
  exact EqD.mp (cmp_pw ha i) (cmp_pw ha j) n hn

/-! a change of one coefficient -/
theorem mp_local {f g g' : Nat → Int} {K n : Nat} (hg : ∀ k, k < K → g k = g' k) (hn : n < K) : mp f g n = mp f g' n := sm_congr fun i hi => by rw [hg (n - i) (by omega)]
theorem mp_local2 {f f' g g' : Nat → Int} {K n : Nat} (hf : ∀ k, k < K → f k = f' k) (hg : ∀ k, k < K → g k = g' k) (hn : n < K) : mp f g n = mp f' g' n := sm_congr fun i hi => by rw [hf i (by omega), hg (n - i) (by omega)]
theorem pw_local {g g' : Nat → Int} {K : Nat} (hg : ∀ k, k < K → g k = g' k) (j : Nat) : ∀ k, k < K → pw g j k = pw g' j k := by
  induction j with
  | zero => intro k _; rfl
  | succ j ih => intro k hk; exact mp_local2 ih hg hk
theorem mp_top {f f' g g' : Nat → Int} {K : Nat} (hf : ∀ k, k < K → f k = f' k) (hg : ∀ k, k < K → g k = g' k) (f0 : f 0 = 0) (f0' : f' 0 = 0) (g0 : g 0 = 0) (g0' : g' 0 = 0) : mp f g K = mp f' g' K := by
  refine sm_congr fun i hi => ?_
  by_cases h1 : i = 0
  · subst h1; rw [f0, f0', Int.zero_mul, Int.zero_mul]
  · by_cases h2 : i = K
    · subst h2; rw [show i - i = 0 by omega, g0, g0', Int.mul_zero, Int.mul_zero]
    · rw [hf i (by omega), hg (K - i) (by omega)]
theorem ev_bump {S : Nat → Nat → Int} {f g g' : Nat → Int} {K : Nat} (hK1 : 1 ≤ K) (hKD : K ≤ D) (hg : ∀ k, k < K → g k = g' k) (f0 : f 0 = 0) (g0 : g 0 = 0) (h01 : S 0 1 = 1) :
    (∀ k, k < K → ev (D + 1) S f g k = ev (D + 1) S f g' k) ∧ ev (D + 1) S f g' K = ev (D + 1) S f g K + (g' K - g K) := by
  have g0' : g' 0 = 0 := by rw [← hg 0 (by omega)]; exact g0
  refine ⟨fun k hk => tri_congr fun i j _ => ?_, ?_⟩
  · rw [show mon f g i j k = mon f g' i j k from mp_local (pw_local hg j) hk]
  · have hmon : ∀ i j, ¬ (i = 0 ∧ j = 1) → mon f g i j K = mon f g' i j K := fun i j hij => by
      by_cases hi : i = 0
      · subst hi
        show mp one0 (pw g j) K = mp one0 (pw g' j) K
        rw [one_mp, one_mp]
        match j with
        | 0 => rfl
        | 1 => exact (hij ⟨rfl, rfl⟩).elim
        | j + 2 => exact mp_top (pw_local hg (j + 1)) hg (pw_low g0 (by omega)) (pw_low g0' (by omega)) g0 g0'
      · refine sm_congr fun l hl => ?_
        by_cases h : l = 0
        · subst h; rw [pw_low f0 (by omega), Int.zero_mul, Int.zero_mul]
        · rw [pw_local hg j (K - l) (by omega)]
    have h1 : mon f g 0 1 K = g K := by show mp one0 (pw g 1) K = g K; rw [one_mp, pw_1]
    have h2 : mon f g' 0 1 K = g' K := by show mp one0 (pw g' 1) K = g' K; rw [one_mp, pw_1]
    obtain ⟨E, rfl⟩ : ∃ E, D = E + 1 := ⟨D - 1, by omega⟩
    unfold ev tri
    rw [sm_first, sm_first (E + 1) fun i => sm (E + 1 + 1 - i) fun j => S i j * mon f g i j K]
    rw [show E + 1 + 1 - 0 = (E + 1) + 1 by omega, sm_first (E + 1), sm_first (E + 1) fun j => S 0 j * mon f g 0 j K, sm_first E, sm_first E fun i => S 0 (i + 1) * mon f g 0 (i + 1) K]
    have e1 : (sm (E + 1) fun i => sm (E + 1 + 1 - (i + 1)) fun j => S (i + 1) j * mon f g (i + 1) j K) = sm (E + 1) fun i => sm (E + 1 + 1 - (i + 1)) fun j => S (i + 1) j * mon f g' (i + 1) j K := sm_ext fun i => sm_ext fun j => by rw [hmon (i + 1) j (by omega)]
    have e2 : (sm E fun i => S 0 (i + 1 + 1) * mon f g 0 (i + 1 + 1) K) = sm E fun i => S 0 (i + 1 + 1) * mon f g' 0 (i + 1 + 1) K := sm_ext fun i => by rw [hmon 0 (i + 1 + 1) (by omega)]
    dsimp only
    rw [e1, e2, hmon 0 0 (by omega), show (0 : Nat) + 1 = 1 from rfl, h01, h1, h2]
    omega
end

section
variable {m : Int} {D : Nat} {T : List (List Int)}
theorem Law.rl (l : Law m D T) : ∀ i, i < D + 1 → (row T i).length = D + 1 - i := fun i hi => (l.rows i hi).1
theorem Law.S01 (l : Law m D T) : gt2 T 0 1 = 1 := by rw [l.row0 (by have := l.D1; omega), if_pos rfl]
theorem gt_varL {n : Nat} (hD : 1 ≤ D) : gt (varL D) n = if n = 1 then 1 else 0 := by
  rw [varL, gt_set, gt_repl]
  by_cases h : n = 1
  · subst h; rw [if_pos ⟨rfl, by simp; omega⟩, if_pos rfl]
  · rw [if_neg (fun h2 => h h2.1.symm), if_neg h]
theorem cv_varL (hm : 2 ≤ m) (hD : 1 ≤ D) : Cv m D (varL D) := ⟨by simp, nums_varL hm D, by rw [gt_varL hD, if_neg (by omega)]⟩

theorem Law.inv (l : Law m D T) : ∀ n, n ≤ D → (∀ k, k ≤ n → ev (D + 1) (gt2 T) (gt (varL D)) (gt (invS m D T n)) k % m = 0) ∧ (∀ k, n < k → gt (invS m D T n) k = 0) ∧ gt (invS m D T n) 0 = 0 := by
  have hm0 : 0 < m := by have := l.m2; omega
  have v0 := (cv_varL l.m2 l.D1).z
  intro n
  induction n with
  | zero =>
    intro _
    refine ⟨fun k hk => ?_, fun k _ => gt_repl _ _, gt_repl _ _⟩
    rw [show k = 0 by omega, l.at0 (b := gt (invS m D T 0)) v0 (gt_repl _ _)]; simp
  | succ n ih =>
    intro hn
    obtain ⟨h1, h2, h3⟩ := ih (by omega)
    have hv : ∀ k, gt (invS m D T (n + 1)) k = if k = n + 1 then -gt (putL m D T (varL D) (invS m D T n)) (n + 1) % m else gt (invS m D T n) k := fun k => by
      rw [invS, gt_set]
      by_cases h : k = n + 1
      · subst h; rw [if_pos ⟨rfl, by simp; omega⟩, if_pos rfl]
      · rw [if_neg (fun h4 => h h4.1.symm), if_neg h]
    obtain ⟨b1, b2⟩ := ev_bump (S := gt2 T) (D := D) (f := gt (varL D)) (g := gt (invS m D T n)) (g' := gt (invS m D T (n + 1))) (K := n + 1) (by omega) hn (fun k hk => by rw [hv, if_neg (by omega)]) v0 h3 l.S01
    refine ⟨fun k hk => ?_, fun k hk => by rw [hv, if_neg (by omega)]; exact h2 k (by omega), by rw [hv, if_neg (by omega)]; exact h3⟩
    by_cases h : k = n + 1
    · subst h
      rw [b2, hv, if_pos rfl, h2 (n + 1) (by omega), Int.sub_zero, Int.add_emod_emod]
      have e := putL_ev (m := m) l.rl (varL D) (invS m D T n) (n + 1) hn
      rw [Int.add_emod, ← e, ← Int.add_emod, Int.add_right_neg]; simp
    · rw [← b1 k (by omega)]; exact h1 k (by omega)
end
end XM

/- The curves of a law are a commutative group; multiples. -/
namespace XM

section
variable {m : Int} {D : Nat} {T : List (List Int)}
theorem Law.m0 (l : Law m D T) : 0 < m := by have := l.m2; omega
def zL (D : Nat) : List Int := List.replicate (D + 1) 0
theorem gt_zL (n : Nat) : gt (zL D) n = 0 := gt_repl _ _
theorem gt_zL' : gt (zL D) = fun _ => 0 := funext gt_zL
theorem cv_z (hm : 0 < m) : Cv m D (zL D) := ⟨by simp [zL], nums_rep hm _, gt_zL 0⟩

theorem Law.cput (l : Law m D T) {a b : List Int} (ha : Cv m D a) (hb : Cv m D b) : Cv m D (putL m D T a b) := by
  refine ⟨by simp, nums_putL l.m0 _ _ _ _, ?_⟩
  have h1 := putL_ev (m := m) l.rl a b 0 (by omega)
  rw [l.at0 ha.z hb.z] at h1
  have h2 := (nums_putL l.m0 D T a b).gt (show 0 < _ by simp)
  rw [Int.emod_eq_of_lt h2.1 h2.2] at h1
  simpa using h1
theorem Law.eqc (l : Law m D T) {a b : List Int} (ha : Cv m D a) (hb : Cv m D b) (h : EqD m D (gt a) (gt b)) : a = b := eq_of_EqD ha.len hb.len ha.nums hb.nums h

theorem Law.pcomm (l : Law m D T) {a b : List Int} (ha : Cv m D a) (hb : Cv m D b) : putL m D T a b = putL m D T b a := by
  refine l.eqc (l.cput ha hb) (l.cput hb ha) ?_
  refine (putL_ev l.rl a b).trans ?_
  rw [l.comm]; exact (putL_ev l.rl b a).symm
theorem Law.passoc (l : Law m D T) {a b c : List Int} (ha : Cv m D a) (hb : Cv m D b) (hc : Cv m D c) : putL m D T (putL m D T a b) c = putL m D T a (putL m D T b c) := by
  refine l.eqc (l.cput (l.cput ha hb) hc) (l.cput ha (l.cput hb hc)) ?_
  refine (putL_ev l.rl _ _).trans (EqD.trans (EqD.ev (fun _ _ _ => rfl) (putL_ev l.rl a b) (EqD.refl _)) ?_)
  refine (l.assoc ha.z hb.z hc.z).trans (EqD.symm ?_)
  exact (putL_ev l.rl _ _).trans (EqD.ev (fun _ _ _ => rfl) (EqD.refl _) (putL_ev l.rl b c))
theorem Law.pzero (l : Law m D T) {a : List Int} (ha : Cv m D a) : putL m D T a (zL D) = a := by
  refine l.eqc (l.cput ha (cv_z l.m0)) ha ?_
  refine (putL_ev l.rl _ _).trans ?_
  rw [gt_zL', l.zero]; exact EqD.refl _

theorem Law.cinv (l : Law m D T) : Cv m D (invL m D T) := ⟨by simp, nums_invS l.m0 _ _ _, (l.inv D (Nat.le_refl _)).2.2⟩
theorem Law.copp (l : Law m D T) {a : List Int} (ha : Cv m D a) : Cv m D (oppL m D T a) := by
  refine ⟨by simp [oppL], nums_compL l.m0 _ _ _, ?_⟩
  have h1 := compL_cmp (m := m) (D := D) (a := invL m D T) (f := a) (by simp) 0 (by omega)
  have h0 : cmp (D + 1) (gt (invL m D T)) (gt a) 0 = 0 := by
    unfold cmp
    refine sm_zero fun i _ => ?_
    by_cases h : 0 < i
    · rw [pw_low ha.z h, Int.mul_zero]
    · rw [show i = 0 by omega, l.cinv.z, Int.zero_mul]
  rw [h0] at h1
  have h2 := (nums_compL l.m0 D (invL m D T) a).gt (show 0 < _ by simp)
  rw [Int.emod_eq_of_lt h2.1 h2.2] at h1
  show gt (compL m D (invL m D T) a) 0 = 0
  simpa using h1
theorem Law.pinv (l : Law m D T) {a : List Int} (ha : Cv m D a) : putL m D T a (oppL m D T a) = zL D := by
  refine l.eqc (l.cput ha (l.copp ha)) (cv_z l.m0) ?_
  refine (putL_ev l.rl _ _).trans ?_
  have hv := cv_varL l.m2 l.D1
  have e1 : cmp (D + 1) (gt (varL D)) (gt a) = gt a := by
    funext n
    unfold cmp
    obtain ⟨E, rfl⟩ : ∃ E, D = E + 1 := ⟨D - 1, by have := l.D1; omega⟩
    rw [sm_first, sm_first, sm_zero (n := E) fun i _ => by rw [gt_varL l.D1, if_neg (by omega), Int.zero_mul]]
    rw [gt_varL l.D1, gt_varL l.D1, if_neg (by omega), if_pos rfl, pw_1]; simp
  have e2 : EqD m D (ev (D + 1) (gt2 T) (gt a) (gt (oppL m D T a))) (ev (D + 1) (gt2 T) (cmp (D + 1) (gt (varL D)) (gt a)) (cmp (D + 1) (gt (invL m D T)) (gt a))) := by
    rw [e1]
    exact EqD.ev (fun _ _ _ => rfl) (EqD.refl _) (compL_cmp (by simp))
  refine e2.trans ((cmp_ev ha.z).symm.trans ?_)
  have e3 : EqD m D (ev (D + 1) (gt2 T) (gt (varL D)) (gt (invL m D T))) fun _ => 0 := fun n hn => by
    have := (l.inv D (Nat.le_refl _)).1 n hn
    show ev (D + 1) (gt2 T) (gt (varL D)) (gt (invS m D T D)) n % m = 0 % m
    rw [this]; simp
  refine (e3.cmp (gt a)).trans ?_
  rw [gt_zL']
  exact fun n _ => by
    have : cmp (D + 1) (fun _ => 0) (gt a) n = 0 := sm_zero fun i _ => Int.zero_mul _
    rw [this]
theorem Law.put1 (l : Law m D T) {a b : List Int} (ha : Cv m D a) (hb : Cv m D b) : gt (putL m D T a b) 1 = (gt a 1 + gt b 1) % m := by
  have hD := l.D1
  have h1 := putL_ev (m := m) l.rl a b 1 hD
  have h2 := (nums_putL l.m0 D T a b).gt (show 1 < _ by simp; omega)
  rw [Int.emod_eq_of_lt h2.1 h2.2] at h1
  rw [h1]
  obtain ⟨_, b2⟩ := ev_bump (S := gt2 T) (D := D) (f := gt a) (g := fun _ => 0) (g' := gt b) (K := 1) (by omega) hD (fun k hk => by rw [show k = 0 by omega, hb.z]) ha.z rfl l.S01
  rw [b2, l.zero]; simp

/-- Cancelling. -/
theorem Law.pinv' (l : Law m D T) {a : List Int} (ha : Cv m D a) : putL m D T (oppL m D T a) a = zL D := by rw [l.pcomm (l.copp ha) ha, l.pinv ha]
theorem Law.zerop (l : Law m D T) {a : List Int} (ha : Cv m D a) : putL m D T (zL D) a = a := by rw [l.pcomm (cv_z l.m0) ha, l.pzero ha]
theorem Law.cancel (l : Law m D T) {u v a : List Int} (hu : Cv m D u) (hv : Cv m D v) (ha : Cv m D a) (h : putL m D T u a = putL m D T v a) : u = v := by
  have h1 : putL m D T (putL m D T u a) (oppL m D T a) = putL m D T (putL m D T v a) (oppL m D T a) := by rw [h]
  rwa [l.passoc hu ha (l.copp ha), l.passoc hv ha (l.copp ha), l.pinv ha, l.pzero hu, l.pzero hv] at h1

/-- The n-fold sum. -/
def nP (m : Int) (D : Nat) (T : List (List Int)) (a : List Int) : Nat → List Int
  | 0 => zL D
  | n + 1 => putL m D T (nP m D T a n) a
theorem Law.cnP (l : Law m D T) {a : List Int} (ha : Cv m D a) (n : Nat) : Cv m D (nP m D T a n) := by
  induction n with
  | zero => exact cv_z l.m0
  | succ n ih => exact l.cput ih ha
theorem Law.nP_two (l : Law m D T) {a : List Int} (ha : Cv m D a) (n : Nat) : nP m D T (putL m D T a a) n = nP m D T a (2 * n) := by
  induction n with
  | zero => rfl
  | succ n ih =>
    show putL m D T (nP m D T (putL m D T a a) n) (putL m D T a a) = putL m D T (putL m D T (nP m D T a (2 * n)) a) a
    rw [ih, l.passoc (l.cnP ha _) ha ha]
theorem Law.bin (l : Law m D T) : ∀ (n : Nat) {a out : List Int}, Cv m D a → Cv m D out → binL m D T n a out = putL m D T out (nP m D T a n) := by
  intro n
  induction n using Nat.strongRecOn with
  | _ n ih =>
    intro a out ha ho
    rw [binL]
    by_cases h0 : n = 0
    · subst h0; rw [if_pos rfl]; exact (l.pzero ho).symm
    rw [if_neg h0]
    by_cases h2 : n % 2 = 1
    · rw [if_pos h2, ih (n / 2) (by omega) (l.cput ha ha) (l.cput ho ha), l.nP_two ha, l.passoc ho ha (l.cnP ha _), l.pcomm ha (l.cnP ha _)]
      congr 1
      show nP m D T a (2 * (n / 2) + 1) = _
      rw [show 2 * (n / 2) + 1 = n by omega]
    · rw [if_neg h2, ih (n / 2) (by omega) (l.cput ha ha) ho, l.nP_two ha, show 2 * (n / 2) = n by omega]
theorem Law.mulN_nn (l : Law m D T) {a : List Int} (ha : Cv m D a) {n : Int} (h : 0 ≤ n) : mulN m D T n a = nP m D T a n.toNat := by
  rw [mulN, if_neg (by omega)]
  show binL m D T n.toNat a (zL D) = _
  rw [l.bin _ ha (cv_z l.m0), l.zerop (l.cnP ha _)]
theorem Law.mulN_neg (l : Law m D T) {a : List Int} (ha : Cv m D a) {n : Int} (h : n < 0) : mulN m D T n a = oppL m D T (nP m D T a (-n).toNat) := by
  rw [mulN, if_pos h]
  show oppL m D T (binL m D T (-n).toNat a (zL D)) = _
  rw [l.bin _ ha (cv_z l.m0), l.zerop (l.cnP ha _)]
theorem Law.cmulN (l : Law m D T) {a : List Int} (ha : Cv m D a) (n : Int) : Cv m D (mulN m D T n a) := by
  by_cases h : 0 ≤ n
  · rw [l.mulN_nn ha h]; exact l.cnP ha _
  · rw [l.mulN_neg ha (by omega)]; exact l.copp (l.cnP ha _)
theorem Law.mulN_zero (l : Law m D T) {a : List Int} (ha : Cv m D a) : mulN m D T 0 a = zL D := l.mulN_nn ha (by omega)

theorem Law.mulN_succ (l : Law m D T) {a : List Int} (ha : Cv m D a) (n : Int) : mulN m D T (n + 1) a = putL m D T (mulN m D T n a) a := by
  by_cases h : 0 ≤ n
  · rw [l.mulN_nn ha h, l.mulN_nn ha (by omega), show (n + 1).toNat = n.toNat + 1 by omega]; rfl
  · obtain ⟨k, hk⟩ : ∃ k : Nat, n = -((k : Int) + 1) := ⟨(-n - 1).toNat, by omega⟩
    subst hk
    have en := l.mulN_neg ha (show -((k : Int) + 1) < 0 by omega)
    rw [show (-(-((k : Int) + 1))).toNat = k + 1 by omega] at en
    rw [en]
    have hk1 := l.cnP ha (k + 1); have hk0 := l.cnP ha k
    have e1 : putL m D T (oppL m D T (nP m D T a (k + 1))) a = oppL m D T (nP m D T a k) := by
      refine l.cancel (l.cput (l.copp hk1) ha) (l.copp hk0) hk0 ?_
      rw [l.pinv' hk0, l.passoc (l.copp hk1) ha hk0, l.pcomm ha hk0]
      exact l.pinv' hk1
    rw [e1]
    by_cases h0 : k = 0
    · subst h0
      rw [show -(((0 : Nat) : Int) + 1) + 1 = 0 by omega, l.mulN_zero ha]
      show zL D = oppL m D T (zL D)
      have := l.pinv (cv_z (D := D) l.m0)
      rw [l.zerop (l.copp (cv_z l.m0))] at this
      exact this.symm
    · rw [l.mulN_neg ha (by omega), show (-(-((k : Int) + 1) + 1)).toNat = k by omega]

theorem int_ind {P : Int → Prop} (h0 : P 0) (hs : ∀ n, P n → P (n + 1)) (hp : ∀ n, P (n + 1) → P n) : ∀ n, P n := by
  have hn : ∀ k : Nat, P k := by
    intro k
    induction k with
    | zero => exact h0
    | succ k ih => exact hs _ ih
  have hm : ∀ k : Nat, P (-(k : Int)) := by
    intro k
    induction k with
    | zero => simpa using h0
    | succ k ih => refine hp _ ?_; rw [show -((k + 1 : Nat) : Int) + 1 = -(k : Int) by omega]; exact ih
  intro n
  by_cases h : 0 ≤ n
  · rw [show n = ((n.toNat : Nat) : Int) by omega]; exact hn _
  · rw [show n = -(((-n).toNat : Nat) : Int) by omega]; exact hm _

theorem Law.mulN_add (l : Law m D T) {a : List Int} (ha : Cv m D a) (x y : Int) : mulN m D T (x + y) a = putL m D T (mulN m D T x a) (mulN m D T y a) := by
  have cx := l.cmulN ha x
  refine int_ind (P := fun y => mulN m D T (x + y) a = putL m D T (mulN m D T x a) (mulN m D T y a)) ?_ ?_ ?_ y
  · rw [Int.add_zero, l.mulN_zero ha, l.pzero cx]
  · intro n ih
    rw [show x + (n + 1) = x + n + 1 by omega, l.mulN_succ ha, ih, l.mulN_succ ha n, l.passoc cx (l.cmulN ha n) ha]
  · intro n ih
    refine l.cancel (l.cmulN ha _) (l.cput cx (l.cmulN ha n)) ha ?_
    rw [← l.mulN_succ ha, show x + n + 1 = x + (n + 1) by omega, ih, l.passoc cx (l.cmulN ha n) ha, ← l.mulN_succ ha]
theorem Law.mulN_mul (l : Law m D T) {a : List Int} (ha : Cv m D a) (x y : Int) : mulN m D T (x * y) a = mulN m D T x (mulN m D T y a) := by
  have cy := l.cmulN ha y
  refine int_ind (P := fun x => mulN m D T (x * y) a = mulN m D T x (mulN m D T y a)) ?_ ?_ ?_ x
  · rw [Int.zero_mul, l.mulN_zero ha, l.mulN_zero cy]
  · intro n ih
    rw [show (n + 1) * y = n * y + y by rw [Int.add_mul, Int.one_mul], l.mulN_add ha, ih, l.mulN_succ cy]
  · intro n ih
    refine l.cancel (l.cmulN ha _) (l.cmulN cy n) cy ?_
    rw [← l.mulN_succ cy, ← ih, show (n + 1) * y = n * y + y by rw [Int.add_mul, Int.one_mul], l.mulN_add ha]
theorem Law.mulN_1 (l : Law m D T) {a : List Int} (ha : Cv m D a) (n : Int) : gt (mulN m D T n a) 1 = n * gt a 1 % m := by
  have hD := l.D1
  have cn := fun k => l.cmulN ha k
  refine int_ind (P := fun n => gt (mulN m D T n a) 1 = n * gt a 1 % m) ?_ ?_ ?_ n
  · rw [l.mulN_zero ha, gt_zL]; simp
  · intro n ih
    rw [l.mulN_succ ha, l.put1 (cn n) ha, ih, Int.emod_add_emod, Int.add_mul, Int.one_mul]
  · intro n ih
    rw [l.mulN_succ ha, l.put1 (cn n) ha, Int.add_mul, Int.one_mul] at ih
    have h2 := (cn n).nums.gt (show 1 < _ by rw [(cn n).len]; omega)
    have h3 : (gt (mulN m D T n a) 1) % m = n * gt a 1 % m := Int.add_emod_eq_add_emod_right (-gt a 1) ih |> fun h => by simpa [Int.add_assoc, Int.add_right_neg] using h
    rwa [Int.emod_eq_of_lt h2.1 h2.2] at h3
theorem Law.mulN_t1 (l : Law m D T) (n : Int) : gt (mulN m D T n (varL D)) 1 = n % m := by
  rw [l.mulN_1 (cv_varL l.m2 l.D1), gt_varL l.D1, if_pos rfl, Int.mul_one]
end
end XM

/- Points of a law: a law that is cut is a law; powers of the modulus kill curves; the multiplicative law: in plain Lean. -/
namespace XM

theorem tri_more {N K : Nat} {f : Nat → Nat → Int} (h : K ≤ N) (hz : ∀ i j, K ≤ i + j → i + j < N → f i j = 0) : tri N f = tri K f := by
  unfold tri
  rw [sm_more h fun i h1 h2 => sm_zero fun j hj => hz i j (by omega) (by omega)]
  exact sm_congr fun i hi => sm_more (by omega) fun j h1 h2 => hz i j (by omega) (by omega)

/-- A table that is cut. -/
def cutT (k : Nat) (T : List (List Int)) : List (List Int) := (List.range (k + 1)).map fun i => tab (k + 1 - i) fun j => gt2 T i j
@[simp] theorem cutT_len (k : Nat) (T : List (List Int)) : (cutT k T).length = k + 1 := by simp [cutT]
theorem row_cutT {k : Nat} {T : List (List Int)} {i : Nat} (h : i < k + 1) : row (cutT k T) i = tab (k + 1 - i) fun j => gt2 T i j := by simp [row, cutT, h]
theorem gt2_cutT {k : Nat} {T : List (List Int)} {i j : Nat} (h : i + j < k + 1) : gt2 (cutT k T) i j = gt2 T i j := by
  unfold gt2; rw [row_cutT (by omega), gt_tab (by omega)]; rfl

section
variable {m : Int} {D k : Nat} {T : List (List Int)}
theorem powP_low {N : Nat} (h00 : gt2 T 0 0 = 0) : ∀ (l : Nat) {x y : Nat}, x + y < N → x + y < l → gt2 (powP m N T l) x y = 0 := by
  intro l
  induction l with
  | zero => intro x y _ h; omega
  | succ l ih =>
    intro x y hN h
    show gt2 (mulT m N (powP m N T l) T) x y = 0
    rw [gt2_mulT hN, tE3_tri]
    have : (tri N fun i j => gt2 (powP m N T l) i j * wt T i j x y) = 0 := by
      refine sm_zero fun i hi => sm_zero fun j hj => ?_
      dsimp only
      unfold wt
      by_cases hij : i ≤ x ∧ j ≤ y
      · rw [if_pos hij]
        by_cases hl : i + j < l
        · rw [ih (by omega) hl, Int.zero_mul]
        · rw [show x - i = 0 by omega, show y - j = 0 by omega, h00, Int.mul_zero]
      · rw [if_neg hij, Int.mul_zero]
    rw [this]; simp

theorem powP_cut (hk : k ≤ D) : ∀ (l : Nat) {x y : Nat}, x + y < k + 1 → gt2 (powP m (k + 1) (cutT k T) l) x y = gt2 (powP m (D + 1) T l) x y := by
  intro l
  induction l with
  | zero =>
    intro x y h
    show gt2 (numT m (k + 1 - 1) 1) x y = gt2 (numT m (D + 1 - 1) 1) x y
    rw [gt2_numT (by omega), gt2_numT (by omega)]
  | succ l ih =>
    intro x y h
    show gt2 (mulT m (k + 1) (powP m (k + 1) (cutT k T) l) (cutT k T)) x y = gt2 (mulT m (D + 1) (powP m (D + 1) T l) T) x y
    rw [gt2_mulT h, gt2_mulT (by omega), tE3_tri, tE3_tri]
    congr 1
    rw [tri_more (N := D + 1) (K := k + 1) (by omega) fun i j h1 _ => by unfold wt; rw [if_neg (by omega), Int.mul_zero]]
    refine tri_congr fun i j hij => ?_
    rw [ih hij]
    unfold wt
    by_cases h2 : i ≤ x ∧ j ≤ y
    · rw [if_pos h2, if_pos h2, gt2_cutT (by omega)]
    · rw [if_neg h2, if_neg h2]

theorem Law.cut (l : Law m D T) (k1 : 1 ≤ k) (hk : k ≤ D) : Law m k (cutT k T) := by
  have hm := l.m2
  have rows : ∀ i, i < k + 1 → (row (cutT k T) i).length = k + 1 - i ∧ Nums m (row (cutT k T) i) := by
    intro i hi
    rw [row_cutT hi]
    refine ⟨by simp, nums_iff.2 fun j hj => ?_⟩
    simp only [tab_len] at hj
    rw [gt_tab hj]
    obtain ⟨h1, h2⟩ := l.rows i (by omega)
    exact h2.gt (by omega)
  refine ⟨hm, k1, by simp, rows, fun i hi => ?_, fun i j hij h => ?_, fun a b c h => ?_⟩
  · show gt2 (cutT k T) i 0 = _
    rw [gt2_cutT (by omega)]; exact l.col (by omega)
  · rw [gt2_cutT h, gt2_cutT (by omega)]; exact l.sym (by omega)
  · have h1 := l.ax.2.2 a b c (by omega)
    rw [dL_eq hm l.len (by omega), dR_eq hm (l.rows a (by omega)).1 (by omega), dL, dR, sm_emod', sm_emod'] at h1
    rw [dL_eq hm (by simp) h, dR_eq hm (rows a (by omega)).1 h, dL, dR, sm_emod', sm_emod']
    have e1 : (sm (k + 1 - c) fun i => gt2 (cutT k T) i c * gt2 (powP m (k + 1) (cutT k T) i) a b) = sm (D + 1 - c) fun i => gt2 T i c * gt2 (powP m (D + 1) T i) a b := by
      rw [sm_more (m := D + 1 - c) (n := k + 1 - c) (by omega) fun i h2 _ => by rw [powP_low l.h00 i (by omega) (by omega), Int.mul_zero]]
      exact sm_congr fun i hi => by rw [gt2_cutT (by omega), powP_cut hk i (by omega)]
    have e2 : (sm (k + 1 - a) fun j => gt2 (cutT k T) a j * gt2 (powP m (k + 1) (cutT k T) j) b c) = sm (D + 1 - a) fun j => gt2 T a j * gt2 (powP m (D + 1) T j) b c := by
      rw [sm_more (m := D + 1 - a) (n := k + 1 - a) (by omega) fun i h2 _ => by rw [powP_low l.h00 i (by omega) (by omega), Int.mul_zero]]
      exact sm_congr fun i hi => by rw [gt2_cutT (by omega), powP_cut hk i (by omega)]
    rw [e1, e2]; exact h1

/-! ### powers of the modulus kill curves -/

/-- The coefficients below i are 0. -/
def Ord (i : Nat) (a : List Int) : Prop := ∀ j, j < i → gt a j = 0

theorem pw_ord {f : Nat → Int} {i : Nat} (h : ∀ j, j < i → f j = 0) : ∀ (k : Nat) {n : Nat}, n < i * k → pw f k n = 0 := by
  intro k
  induction k with
  | zero => intro n hn; omega
  | succ k ih =>
    intro n hn
    exact mp_low (i := i * k) (j := i) (fun _ hk => ih hk) h (by rw [Nat.mul_succ] at hn; exact hn)

theorem Law.put_ord (l : Law m D T) {a b : List Int} (ha : Cv m D a) (hb : Cv m D b) {i : Nat} (i1 : 1 ≤ i) (iD : i ≤ D) (oa : Ord i a) (ob : Ord i b) :
    Ord i (putL m D T a b) ∧ gt (putL m D T a b) i = (gt a i + gt b i) % m := by
  have hD := l.D1
  have key : ∀ n, n ≤ i → gt (putL m D T a b) n = (gt a n + gt b n) % m := by
    intro n hn
    have h1 := putL_ev (m := m) l.rl a b n (by omega)
    have h2 := (nums_putL l.m0 D T a b).gt (show n < _ by simp; omega)
    rw [Int.emod_eq_of_lt h2.1 h2.2] at h1
    rw [h1]
    congr 1
    unfold ev
    rw [tri_more (K := 2) (by omega) fun x y h3 _ => ?_]
    · simp only [tri, sm, Nat.sub_zero]
      simp only [Int.zero_add, Nat.reduceSub, sm]
      rw [l.h00, l.S01, l.col (i := 1) (by omega), if_pos rfl]
      have e01 : mon (gt a) (gt b) 0 1 = gt b := by unfold mon; rw [pw_1, mp_comm]; exact mp_one _
      have e10 : mon (gt a) (gt b) 1 0 = gt a := by unfold mon; rw [pw_1]; exact mp_one _
      rw [e01, e10]; omega
    · have hi : i * 2 ≤ i * (x + y) := Nat.mul_le_mul_left i h3
      have : mon (gt a) (gt b) x y n = 0 := mp_low (i := i * x) (j := i * y) (fun _ hk => pw_ord oa x hk) (fun _ hk => pw_ord ob y hk) (by rw [← Nat.mul_add]; omega)
      rw [this, Int.mul_zero]
  refine ⟨fun j hj => ?_, key i (Nat.le_refl _)⟩
  rw [key j (by omega), oa j hj, ob j hj]; simp

theorem Law.nP_ord (l : Law m D T) {a : List Int} (ha : Cv m D a) {i : Nat} (i1 : 1 ≤ i) (iD : i ≤ D) (oa : Ord i a) (n : Nat) : Ord i (nP m D T a n) ∧ gt (nP m D T a n) i = n * gt a i % m := by
  induction n with
  | zero => exact ⟨fun j _ => gt_zL j, by show gt (zL D) i = _; rw [gt_zL]; simp⟩
  | succ n ih =>
    obtain ⟨h1, h2⟩ := l.put_ord (l.cnP ha n) ha i1 iD ih.1 oa
    refine ⟨h1, ?_⟩
    show gt (putL m D T (nP m D T a n) a) i = _
    rw [h2, ih.2, Int.emod_add_emod, Int.natCast_succ, Int.add_mul, Int.one_mul]

theorem Law.mulN_m (l : Law m D T) {a : List Int} (ha : Cv m D a) {i : Nat} (i1 : 1 ≤ i) (iD : i ≤ D) (oa : Ord i a) : Ord (i + 1) (mulN m D T m a) := by
  have hm := l.m2
  rw [l.mulN_nn ha (by omega)]
  obtain ⟨h1, h2⟩ := l.nP_ord ha i1 iD oa m.toNat
  intro j hj
  by_cases h : j < i
  · exact h1 j h
  · have : j = i := by omega
    subst this
    rw [h2, Int.toNat_of_nonneg (by omega)]
    simp

theorem Law.mulN_pow (l : Law m D T) {a : List Int} (ha : Cv m D a) : ∀ s, s ≤ D → Ord (s + 1) (mulN m D T (m ^ s) a) := by
  intro s
  induction s with
  | zero =>
    intro _ j hj
    rw [show j = 0 by omega]
    exact (l.cmulN ha _).z
  | succ s ih =>
    intro hs
    have := l.mulN_m (l.cmulN ha (m ^ s)) (i := s + 1) (by omega) (by omega) (ih (by omega))
    rw [← l.mulN_mul ha, show m * m ^ s = m ^ (s + 1) by rw [Int.pow_succ, Int.mul_comm]] at this
    exact this

/-- M^D kills all curves. -/
theorem Law.kill (l : Law m D T) {a : List Int} (ha : Cv m D a) : mulN m D T (m ^ D) a = zL D := by
  have h := l.mulN_pow ha D (Nat.le_refl _)
  have c := l.cmulN ha (m ^ D)
  refine gt_ext (by rw [c.len]; simp [zL]) fun i hi => ?_
  rw [gt_zL]
  exact h i (by rw [c.len] at hi; exact hi)
end

/-! ### the multiplicative law -/

/-- The table x + y + c x y. -/
def mlT (D : Nat) (c : Int) : List (List Int) := (List.range (D + 1)).map fun i => tab (D + 1 - i) fun j => if (i = 1 ∧ j = 0) ∨ (i = 0 ∧ j = 1) then 1 else if i = 1 ∧ j = 1 then c else 0
@[simp] theorem mlT_len (D : Nat) (c : Int) : (mlT D c).length = D + 1 := by simp [mlT]
theorem row_mlT {D : Nat} {c : Int} {i : Nat} (h : i < D + 1) : row (mlT D c) i = tab (D + 1 - i) fun j => if (i = 1 ∧ j = 0) ∨ (i = 0 ∧ j = 1) then 1 else if i = 1 ∧ j = 1 then c else 0 := by simp [row, mlT, h]
theorem gt2_mlT {D : Nat} {c : Int} {i j : Nat} (h : i + j < D + 1) : gt2 (mlT D c) i j = if (i = 1 ∧ j = 0) ∨ (i = 0 ∧ j = 1) then 1 else if i = 1 ∧ j = 1 then c else 0 := by
  unfold gt2; rw [row_mlT (by omega), gt_tab (by omega)]

section
variable {m c : Int} {D : Nat}
theorem sm_two {n : Nat} {f : Nat → Int} (h : ∀ i, 2 ≤ i → i < n → f i = 0) : sm n f = (if 0 < n then f 0 else 0) + (if 1 < n then f 1 else 0) := by
  rcases n with _ | _ | n
  · simp [sm]
  · simp [sm]
  · rw [sm_more (n := 2) (by omega) h]; simp [sm]

theorem law_ml (hm : 2 ≤ m) (hD : 1 ≤ D) (hc : 0 ≤ c ∧ c < m) : Law m D (mlT D c) := by
  have rows : ∀ i, i < D + 1 → (row (mlT D c) i).length = D + 1 - i ∧ Nums m (row (mlT D c) i) := by
    intro i hi
    rw [row_mlT hi]
    refine ⟨by simp, nums_iff.2 fun j hj => ?_⟩
    simp only [tab_len] at hj
    rw [gt_tab hj]
    split
    · omega
    · split <;> omega
  have h00 : gt2 (mlT D c) 0 0 = 0 := by rw [gt2_mlT (by omega)]; simp
  have p0 : ∀ {x y : Nat}, x + y < D + 1 → gt2 (powP m (D + 1) (mlT D c) 0) x y = if x = 0 ∧ y = 0 then 1 else 0 := by
    intro x y h
    show gt2 (numT m (D + 1 - 1) 1) x y = _
    rw [gt2_numT (by omega), Int.emod_eq_of_lt (by omega) (by omega)]
  have p1 : ∀ {x y : Nat}, x + y < D + 1 → gt2 (powP m (D + 1) (mlT D c) 1) x y = gt2 (mlT D c) x y := by
    intro x y h
    show gt2 (mulT m (D + 1) (powP m (D + 1) (mlT D c) 0) (mlT D c)) x y = _
    rw [gt2_mulT h, tE3_tri, tri_more (K := 1) (by omega) fun i j h1 h2 => by rw [p0 h2, if_neg (by omega), Int.zero_mul]]
    simp only [tri, sm, Nat.sub_zero, Int.zero_add]
    rw [p0 (by omega), if_pos (by omega), Int.one_mul]
    unfold wt
    rw [if_pos (by omega), Nat.sub_zero, Nat.sub_zero]
    have h3 := (rows x (by omega)).2.gt (i := y) (by rw [(rows x (by omega)).1]; omega)
    exact Int.emod_eq_of_lt h3.1 h3.2
  refine ⟨hm, hD, by simp, rows, fun i hi => ?_, fun i j hij h => ?_, fun x y z h => ?_⟩
  · show gt2 (mlT D c) i 0 = _
    rw [gt2_mlT (by omega)]
    by_cases h1 : i = 1
    · simp [h1]
    · simp [h1]
  · rw [gt2_mlT h, gt2_mlT (by omega)]
    by_cases h0 : i = 0 <;> by_cases h1 : j = 1 <;> by_cases h2 : i = 1 <;> by_cases h3 : j = 0 <;> simp [h0, h1, h2, h3] <;> omega
  · rw [dL_eq hm (by simp) h, dR_eq hm (rows x (by omega)).1 h, dL, dR, sm_emod', sm_emod']
    congr 1
    rw [sm_two fun i h1 h2 => by rw [gt2_mlT (by omega), if_neg (by omega), if_neg (by omega), Int.zero_mul]]
    rw [sm_two (n := D + 1 - x) fun i h1 h2 => by rw [gt2_mlT (by omega), if_neg (by omega), if_neg (by omega), Int.zero_mul]]
    rw [if_pos (show 0 < D + 1 - z by omega), if_pos (show 0 < D + 1 - x by omega), p0 (by omega), p0 (by omega), gt2_mlT (i := 0) (j := z) (by omega), gt2_mlT (i := x) (j := 0) (by omega)]
    by_cases hz : 1 < D + 1 - z <;> by_cases hx : 1 < D + 1 - x
    · rw [if_pos hz, if_pos hx, p1 (by omega), p1 (by omega), gt2_mlT (i := 1) (j := z) (by omega), gt2_mlT (i := x) (j := 1) (by omega), gt2_mlT (i := x) (j := y) (by omega), gt2_mlT (i := y) (j := z) (by omega)]
      by_cases x0 : x = 0 <;> by_cases x1 : x = 1 <;> by_cases y0 : y = 0 <;> by_cases y1 : y = 1 <;> by_cases z0 : z = 0 <;> by_cases z1 : z = 1 <;> first | (exfalso; omega) | simp [x0, x1, y0, y1, z0, z1]
    · obtain ⟨rfl, rfl⟩ : y = 0 ∧ z = 0 := by omega
      rw [if_pos hz, if_neg hx, p1 (by omega), gt2_mlT (i := 1) (j := 0) (by omega), gt2_mlT (i := x) (j := 0) (by omega)]
      by_cases x1 : x = 1 <;> simp [x1]
    · obtain ⟨rfl, rfl⟩ : x = 0 ∧ y = 0 := by omega
      rw [if_neg hz, if_pos hx, p1 (by omega), gt2_mlT (i := 0) (j := 1) (by omega), gt2_mlT (i := 0) (j := z) (by omega)]
      by_cases z1 : z = 1 <;> simp [z1]
    · omega

theorem mp_ones (f g : Nat → Int) (n : Nat) : mp (fun i => one0 i + f i) (fun i => one0 i + g i) n = one0 n + f n + g n + mp f g n := by
  have e1 : mp (fun i => one0 i + f i) (fun i => one0 i + g i) n = mp one0 one0 n + mp one0 g n + (mp f one0 n + mp f g n) := by
    unfold mp
    rw [← sm_add, ← sm_add, ← sm_add]
    exact sm_ext fun i => by dsimp only; rw [Int.add_mul, Int.mul_add, Int.mul_add]
  rw [e1, one_mp, one_mp, mp_one]; omega

/-- Points of the multiplicative law of 1 are added as units are multiplied. -/
theorem ml_put (hm : 2 ≤ m) (hD : 1 ≤ D) {a b : List Int} (ha : Cv m D a) (hb : Cv m D b) {n : Nat} (hn : n ≤ D) : gt (putL m D (mlT D 1) a b) n = (gt a n + gt b n + mp (gt a) (gt b) n) % m := by
  have l := law_ml (m := m) (c := 1) (D := D) hm hD (by omega)
  have h1 := putL_ev (m := m) l.rl a b n hn
  have h2 := (nums_putL l.m0 D (mlT D 1) a b).gt (show n < _ by simp; omega)
  rw [Int.emod_eq_of_lt h2.1 h2.2] at h1
  rw [h1]
  congr 1
  have ap := l.pzero ha
  unfold ev
  have e01 : mon (gt a) (gt b) 0 1 = gt b := by unfold mon; rw [pw_1, mp_comm]; exact mp_one _
  have e10 : mon (gt a) (gt b) 1 0 = gt a := by unfold mon; rw [pw_1]; exact mp_one _
  have e11 : mon (gt a) (gt b) 1 1 = mp (gt a) (gt b) := by unfold mon; rw [pw_1, pw_1]
  rcases Nat.lt_or_ge D 2 with hd | hd
  · have : D = 1 := by omega
    subst this
    have e0 : mp (gt a) (gt b) n = 0 := mp_low (i := 1) (j := 1) (fun k hk => by rw [show k = 0 by omega, ha.z]) (fun k hk => by rw [show k = 0 by omega, hb.z]) (by omega)
    simp only [tri, sm, Nat.sub_zero, Int.zero_add, Nat.reduceAdd, Nat.reduceSub]
    rw [l.h00, gt2_mlT (by omega), gt2_mlT (by omega), e01, e10, e0]
    simp; omega
  · rw [tri_more (K := 3) (by omega) fun x y h3 h4 => by rw [gt2_mlT h4, if_neg (by omega), if_neg (by omega), Int.zero_mul]]
    simp only [tri, sm, Nat.sub_zero, Int.zero_add, Nat.reduceSub]
    rw [l.h00, gt2_mlT (by omega), gt2_mlT (by omega), gt2_mlT (by omega), gt2_mlT (by omega), gt2_mlT (by omega), e01, e10, e11]
    simp; omega

theorem ml_units (hm : 2 ≤ m) (hD : 1 ≤ D) {x y : List Int} (hx : x.length = D) (hy : y.length = D) (nx : Nums m x) (ny : Nums m y) :
    mulL m (D + 1) (1 :: x) (1 :: y) = 1 :: (putL m D (mlT D 1) (0 :: x) (0 :: y)).tail := by
  have cv : ∀ {x : List Int}, x.length = D → Nums m x → Cv m D (0 :: x) := fun h n => ⟨by simp [h], fun v hv => by
    simp only [List.mem_cons] at hv
    rcases hv with rfl | hv
    · omega
    · exact n v hv, rfl⟩
  have ca := cv hx nx; have cb := cv hy ny
  have l := law_ml (m := m) (c := 1) (D := D) hm hD (by omega)
  have cp := l.cput ca cb
  have e1 : ∀ x : List Int, gt (1 :: x) = fun i => one0 i + gt (0 :: x) i := fun x => by
    funext i
    cases i with
    | zero => simp [gt, one0]
    | succ i => simp [gt, one0]
  refine gt_ext (by simp [mulL]) fun i hi => ?_
  have hi : i < D + 1 := by simpa [mulL] using hi
  rw [gt_mulL (by omega), e1, e1, mp_ones]
  cases i with
  | zero =>
    have e0 : mp (gt (0 :: x)) (gt (0 :: y)) 0 = 0 := mp_low (i := 1) (j := 1) (fun k hk => by rw [show k = 0 by omega]; rfl) (fun k hk => by rw [show k = 0 by omega]; rfl) (by omega)
    have z : ∀ u : List Int, gt (0 :: u) 0 = 0 := fun _ => rfl
    rw [e0, z, z]
    show (1 + 0 + 0 + 0 : Int) % m = 1
    exact Int.emod_eq_of_lt (by omega) (by omega)
  | succ i =>
    have e2 : gt (1 :: (putL m D (mlT D 1) (0 :: x) (0 :: y)).tail) (i + 1) = gt (putL m D (mlT D 1) (0 :: x) (0 :: y)) (i + 1) := by simp [gt]
    rw [e2, ml_put hm hD ca cb (by omega)]
    congr 1
    simp [one0]
end
end XM

/- Prime divisors of a number, and orders: in plain Lean. -/
namespace XM

/-- A prime number. -/
def Pr (p : Nat) : Prop := 2 ≤ p ∧ ∀ d, 2 ≤ d → d ∣ p → d = p

theorem Pr.dvd_mul {p a b : Nat} (hp : Pr p) (h : p ∣ a * b) : p ∣ a ∨ p ∣ b := by
  have hp0 : 0 < p := by have := hp.1; omega
  have g0 : 0 < Nat.gcd p a := Nat.gcd_pos_of_pos_left _ hp0
  by_cases hg : Nat.gcd p a = 1
  · exact .inr (Nat.Coprime.dvd_of_dvd_mul_left hg h)
  · have := hp.2 (Nat.gcd p a) (by omega) (Nat.gcd_dvd_left p a)
    exact .inl (this ▸ Nat.gcd_dvd_right p a)

/-- All q divided out. -/
def strip (q n : Nat) : Nat := if h : 2 ≤ q ∧ 0 < n ∧ n % q = 0 then strip q (n / q) else n
termination_by n
decreasing_by exact Nat.div_lt_self h.2.1 h.1

theorem strip_yes {q n : Nat} (hq : 2 ≤ q) (hn : 0 < n) (h : n % q = 0) : strip q n = strip q (n / q) := by rw [strip, dif_pos ⟨hq, hn, h⟩]
theorem strip_no {q n : Nat} (h : n % q ≠ 0) : strip q n = n := by rw [strip, dif_neg (by simp [h])]

theorem div_pos_of {q n : Nat} (hn : 0 < n) (h : n % q = 0) : 0 < n / q := by
  rcases Nat.eq_zero_or_pos (n / q) with h0 | h0
  · have := Nat.div_add_mod n q; rw [h0, h] at this; simp at this; omega
  · exact h0

theorem strip_all {q : Nat} (hq : 2 ≤ q) : ∀ (n : Nat), 0 < n → 0 < strip q n ∧ strip q n ∣ n ∧ ¬ q ∣ strip q n ∧ (Pr q → ∀ p, Pr p → p ∣ n → p = q ∨ p ∣ strip q n) := by
  intro n
  induction n using Nat.strongRecOn with
  | _ n ih =>
    intro hn
    by_cases h : n % q = 0
    · rw [strip_yes hq hn h]
      obtain ⟨h1, h2, h3, h4⟩ := ih (n / q) (Nat.div_lt_self hn hq) (div_pos_of hn h)
      have e : n = q * (n / q) := by have := Nat.div_add_mod n q; omega
      refine ⟨h1, Nat.dvd_trans h2 (Nat.div_dvd_of_dvd (Nat.dvd_of_mod_eq_zero h)), h3, fun pq p hp hpn => ?_⟩
      rw [e] at hpn
      rcases hp.dvd_mul hpn with h5 | h5
      · exact .inl (pq.2 p hp.1 h5)
      · exact h4 pq p hp h5
    · rw [strip_no h]
      exact ⟨hn, Nat.dvd_refl n, fun hd => h (Nat.mod_eq_zero_of_dvd hd), fun _ p _ hp => .inr hp⟩

/-- The state of the search for prime divisors. -/
structure PI (m q n : Nat) (L : List Nat) : Prop where
  n1 : 1 ≤ n
  dv : ∀ d, 2 ≤ d → d < q → ¬ d ∣ n
  pr : ∀ p, Pr p → (p ∣ m ↔ p ∈ L ∨ p ∣ n)
  so : L.Pairwise (· < ·)
  lt : ∀ p ∈ L, Pr p ∧ p < q ∧ p ∣ m

theorem PI.init {m : Nat} (hm : 1 ≤ m) : PI m 2 m [] := ⟨hm, fun d h1 h2 => by omega, fun p _ => by simp, List.Pairwise.nil, fun p hp => by simp at hp⟩

theorem PI.yes {m q n : Nat} {L : List Nat} (I : PI m q n L) (hq : 2 ≤ q) (h : n % q = 0) : PI m (q + 1) (strip q n) (L ++ [q]) := by
  obtain ⟨h1, h2, h3, h4⟩ := strip_all hq n I.n1
  have hqn : q ∣ n := Nat.dvd_of_mod_eq_zero h
  have pq : Pr q := ⟨hq, fun d hd hdq => by
    rcases Nat.lt_or_ge d q with hlt | hge
    · exact absurd (Nat.dvd_trans hdq hqn) (I.dv d hd hlt)
    · exact Nat.le_antisymm (Nat.le_of_dvd (by omega) hdq) hge⟩
  have qm : q ∣ m := (I.pr q pq).2 (.inr hqn)
  refine ⟨h1, fun d hd hdq hdn => ?_, fun p hp => ?_, ?_, fun p hp => ?_⟩
  · by_cases hdq2 : d = q
    · subst hdq2; exact h3 hdn
    · exact I.dv d hd (by omega) (Nat.dvd_trans hdn h2)
  · rw [I.pr p hp]
    simp only [List.mem_append, List.mem_singleton]
    refine ⟨fun h5 => ?_, fun h5 => ?_⟩
    · rcases h5 with h5 | h5
      · exact .inl (.inl h5)
      · rcases h4 pq p hp h5 with h6 | h6
        · exact .inl (.inr h6)
        · exact .inr h6
    · rcases h5 with (h5 | h5) | h5
      · exact .inl h5
      · subst h5; exact .inr hqn
      · exact .inr (Nat.dvd_trans h5 h2)
  · rw [List.pairwise_append]
    exact ⟨I.so, List.pairwise_singleton _ _, fun a ha b hb => by simp at hb; subst hb; exact (I.lt a ha).2.1⟩
  · simp only [List.mem_append, List.mem_singleton] at hp
    rcases hp with hp | rfl
    · obtain ⟨a, b, c⟩ := I.lt p hp; exact ⟨a, by omega, c⟩
    · exact ⟨pq, by omega, qm⟩
theorem PI.no {m q n : Nat} {L : List Nat} (I : PI m q n L) (h : n % q ≠ 0) : PI m (q + 1) n L :=
  ⟨I.n1, fun d hd hdq hdn => by
    by_cases hdq2 : d = q
    · subst hdq2; exact h (Nat.mod_eq_zero_of_dvd hdn)
    · exact I.dv d hd (by omega) hdn, I.pr, I.so, fun p hp => by obtain ⟨a, b, c⟩ := I.lt p hp; exact ⟨a, by omega, c⟩⟩
theorem PI.le {m q n : Nat} {L : List Nat} (I : PI m q n L) (h : 1 < n) : q ≤ n := by
  rcases Nat.lt_or_ge n q with h1 | h1
  · exact absurd (Nat.dvd_refl n) (I.dv n (by omega) h1)
  · exact h1
theorem PI.jump {m q n : Nat} {L : List Nat} (I : PI m q n L) (hq : 2 ≤ q) (h : n < q * q) (h1 : 1 < n) : PI m n n L := by
  have hle := I.le h1
  refine ⟨I.n1, fun d hd hdn hdv => ?_, I.pr, I.so, fun p hp => by obtain ⟨a, b, c⟩ := I.lt p hp; exact ⟨a, by omega, c⟩⟩
  by_cases hdq : d < q
  · exact I.dv d hd hdq hdv
  · obtain ⟨e, rfl⟩ := hdv
    have he : e < q := by
      rcases Nat.lt_or_ge e q with h2 | h2
      · exact h2
      · have : q * q ≤ d * e := Nat.mul_le_mul (by omega) h2
        omega
    have he2 : 2 ≤ e := by
      rcases Nat.lt_or_ge e 2 with h2 | h2
      · have : d * e ≤ d * 1 := Nat.mul_le_mul_left d (by omega)
        omega
      · exact h2
    exact I.dv e he2 he (Nat.dvd_mul_left e d)

/-- The prime divisors, in order. -/
def PL (m : Nat) (L : List Nat) : Prop := L.Pairwise (· < ·) ∧ ∀ p, p ∈ L ↔ Pr p ∧ p ∣ m
theorem PI.fin {m q : Nat} {L : List Nat} (I : PI m q 1 L) : PL m L :=
  ⟨I.so, fun p => ⟨fun h => ⟨(I.lt p h).1, (I.lt p h).2.2⟩, fun ⟨h1, h2⟩ => by
    rcases (I.pr p h1).1 h2 with h3 | h3
    · exact h3
    · have := Nat.le_of_dvd (by omega) h3
      have := h1.1
      omega⟩⟩
theorem sorted_same : ∀ {L L' : List Nat}, L.Pairwise (· < ·) → L'.Pairwise (· < ·) → (∀ p, p ∈ L ↔ p ∈ L') → L = L'
  | [], [], _, _, _ => rfl
  | [], b :: L', _, _, h => absurd ((h b).2 (by simp)) (by simp)
  | a :: L, [], _, _, h => absurd ((h a).1 (by simp)) (by simp)
  | a :: L, b :: L', s, s', h => by
    rw [List.pairwise_cons] at s s'
    have hab : a = b := by
      have h1 := (h a).1 (by simp)
      have h2 := (h b).2 (by simp)
      simp only [List.mem_cons] at h1 h2
      rcases h1 with h1 | h1
      · exact h1
      · rcases h2 with h2 | h2
        · exact h2.symm
        · have := s.1 b h2; have := s'.1 a h1; omega
    subst hab
    rw [sorted_same s.2 s'.2 fun p => ?_]
    have hp := h p
    simp only [List.mem_cons] at hp
    refine ⟨fun h1 => ?_, fun h1 => ?_⟩
    · rcases hp.1 (.inr h1) with h2 | h2
      · have := s.1 p h1; omega
      · exact h2
    · rcases hp.2 (.inr h1) with h2 | h2
      · have := s'.1 p h1; omega
      · exact h2
theorem PL.same {m : Nat} {L L' : List Nat} (h : PL m L) (h' : PL m L') : L = L' := sorted_same h.1 h'.1 fun p => by rw [h.2, h'.2]

/-! ### orders -/

open Classical in
/-- n, divided by q as often as K holds behind it. -/
noncomputable def red (K : Nat → Prop) (q n : Nat) : Nat := if h : (2 ≤ q ∧ 0 < n ∧ n % q = 0) ∧ K (n / q) then red K q (n / q) else n
termination_by n
decreasing_by exact Nat.div_lt_self h.1.2.1 h.1.1

theorem red_yes {K : Nat → Prop} {q n : Nat} (hq : 2 ≤ q) (hn : 0 < n) (h : n % q = 0) (hk : K (n / q)) : red K q n = red K q (n / q) := by rw [red, dif_pos ⟨⟨hq, hn, h⟩, hk⟩]
theorem red_no {K : Nat → Prop} {q n : Nat} (h : ¬ (n % q = 0 ∧ K (n / q))) : red K q n = n := by rw [red, dif_neg fun h2 => h ⟨h2.1.2.2, h2.2⟩]
theorem red_all {K : Nat → Prop} {q : Nat} (hq : 2 ≤ q) : ∀ n, 0 < n → 0 < red K q n ∧ red K q n ∣ n ∧ (K n → K (red K q n)) := by
  intro n
  induction n using Nat.strongRecOn with
  | _ n ih =>
    intro hn
    by_cases h : n % q = 0 ∧ K (n / q)
    · rw [red_yes hq hn h.1 h.2]
      obtain ⟨h1, h2, h3⟩ := ih (n / q) (Nat.div_lt_self hn hq) (div_pos_of hn h.1)
      exact ⟨h1, Nat.dvd_trans h2 (Nat.div_dvd_of_dvd (Nat.dvd_of_mod_eq_zero h.1)), fun _ => h3 h.2⟩
    · rw [red_no h]; exact ⟨hn, Nat.dvd_refl n, id⟩

/-- The order: the primes of L divided out. -/
noncomputable def ordF (K : Nat → Prop) : List Nat → Nat → Nat
  | [], n => n
  | q :: L, n => ordF K L (red K q n)
theorem ordF_all {K : Nat → Prop} : ∀ {L : List Nat}, (∀ q ∈ L, 2 ≤ q) → ∀ n, 0 < n → 0 < ordF K L n ∧ ordF K L n ∣ n ∧ (K n → K (ordF K L n))
  | [], _, n, hn => ⟨hn, Nat.dvd_refl n, id⟩
  | q :: L, h, n, hn => by
    obtain ⟨h1, h2, h3⟩ := red_all (K := K) (h q (by simp)) n hn
    obtain ⟨g1, g2, g3⟩ := ordF_all (K := K) (L := L) (fun p hp => h p (List.mem_cons_of_mem _ hp)) (red K q n) h1
    exact ⟨g1, Nat.dvd_trans g2 h2, fun hk => g3 (h3 hk)⟩

/-- M^k, or one more than most. -/
def sizeR (m k most : Nat) : Nat := if m ^ k ≤ most then m ^ k else most + 1
end XM

/- Points of the reference: codes, cuts, sums, multiples. -/
namespace XM
open Go

/-- Numbers behind those of a new list. -/
theorem newApp {h : Hp} {A : Option Addr} {xs ys : List Int} {n l c : Nat} {y : TypeId} {cs : List Value} {K : Value → Hp → Prop} (r : RI h A xs) (hcs : cs = mapI ys) (hn : n = xs.length) (hl : l = ys.length) (p1 : 1 ≤ n) (hmax : l + n ≤ sizeMax)
    (hk : ∀ b h', HE h h' → h.nx ≤ b → b < h'.nx → h'.bk b = some ⟨mapI (ys ++ xs), y, true⟩ → K (.slice (some ⟨b, 0, none⟩) (l + n) 1) h') :
    newB h ⟨cs, y, true⟩ fun b h1 => bindVH (appendV y 1 h1 (.slice (some ⟨b, 0, none⟩) l 1) (.slice A n c)) K := by
  subst hcs
  refine newB_i fun b h1 eb en eh eB => ?_
  have hc := RV.cells r eh (n := n) (c := c) (by simpa using hn) fun _ => .inr trivial
  rw [appendV_own (n := l) eB (by simpa using hl) hc (by simpa using hn) p1 hmax, bindVH_some]
  refine hk _ _ ⟨by have := eh.nx; simp; omega, fun q hq => ?_⟩ (by omega) (by simp) ?_
  · rw [new_bk, if_neg (by simp; omega), set_bk, if_neg (by omega)]; exact eh.bk q hq
  · simp [mapI]

theorem newAppK {h : Hp} {A : Option Addr} {xs ys : List Int} {n l c : Nat} {y : TypeId} {cs : List Value} {K : Hp → Value → Hp → Prop} (r : RI h A xs) (hcs : cs = mapI ys) (hn : n = xs.length) (hl : l = ys.length) (p1 : 1 ≤ n) (hmax : l + n ≤ sizeMax)
    (hk : ∀ b h1 h', keepB h.nx h1 h' → HE h h' → h.nx ≤ b → b < h'.nx → h'.bk b = some ⟨mapI (ys ++ xs), y, true⟩ → K h1 (.slice (some ⟨b, 0, none⟩) (l + n) 1) h') :
    newB h ⟨cs, y, true⟩ fun b h1 => bindVH (appendV y 1 h1 (.slice (some ⟨b, 0, none⟩) l 1) (.slice A n c)) (K h1) := by
  subst hcs
  refine newB_i fun b h1 eb en eh eB => ?_
  have hc := RV.cells r eh (n := n) (c := c) (by simpa using hn) fun _ => .inr trivial
  rw [appendV_own (n := l) eB (by simpa using hl) hc (by simpa using hn) p1 hmax, bindVH_some]
  have e : HE h ((h1.set b none).new ⟨mapI ys ++ mapI xs, y, true⟩) := ⟨by have := eh.nx; simp; omega, fun q hq => by
    rw [new_bk, if_neg (by simp; omega), set_bk, if_neg (by omega)]; exact eh.bk q hq⟩
  refine hk _ h1 _ (fun q hq => (e.bk q hq).trans (eh.bk q hq).symm) e (by omega) (by simp) ?_
  simp [mapI]

theorem s_spec_l01Own {A : Option Addr} {xs : List Int} {n c : Nat} {h : Hp} {R : Value → Hp → Prop} (r : RI h A xs) (hn : n = xs.length) (h1 : 1 ≤ n) (h2 : n ≤ 1000000)
    (hR : ∀ v h', HE h h' → FI y_t_int64 h h' v xs → R v h') : CallW FF n_spec_l01Own [.slice A n c] h R := by
  refine w_spec_l01Own ?_
  unfold p_spec_l01Own
  simp only [rowV_nil, bindO_some]
  refine newApp (ys := []) r rfl hn rfl h1 (by unfold sizeMax; omega) fun b h' e q1 q2 q3 => ?_
  rw [Nat.zero_add, hn]
  exact hR _ _ e ⟨b, rfl, q1, q2, by simpa using q3⟩

theorem s_spec_l03Degree {m : Int} {A : Option Addr} {n c : Nat} {h : Hp} {R : Value → Hp → Prop} (hn : n ≤ 2000000) (hR : ∀ h', HE h h' → R (i6 ((n : Int) - 1)) h') : CallW FF n_spec_l03Degree [sv m A n c] h R := by
  refine w_spec_l03Degree ?_
  have w1 : IntKind.i64.wrap ((n : Int) - 1) = n - 1 := wrapI (by omega) (by omega)
  simp [p_spec_l03Degree]
  refine newB_i fun b h1 eb en eh eB => ?_
  simp [box2 eB, w1]
  exact hR _ eh

/-- A point of length k of a law of N rows. -/
def PtOk (m : Int) (N k : Nat) (x : List Int) : Prop := (1 ≤ k ∧ k + 1 ≤ N) ∧ x.length = k ∧ Nums m x
instance (m : Int) (N k : Nat) (x : List Int) : Decidable (PtOk m N k x) := inferInstanceAs (Decidable (_ ∧ _))

theorem s_spec_l16Point {m : Int} {A B : Option Addr} {x : List Int} {n n2 c c2 : Nat} {h : Hp} {R : Value → Hp → Prop} (hx : RI h B x) (hn : n ≤ 1000000) (hn2 : n2 = x.length) (h2 : n2 ≤ 1000000) (hm : 0 ≤ m ∧ m ≤ 1000000)
    (hR : ∀ h', HE h h' → R (.bool (decide (PtOk m n x.length x))) h') : CallW FF n_spec_l16Point [sv m A n c, .slice B n2 c2] h R := by
  subst hn2
  refine w_spec_l16Point ?_
  simp [p_spec_l16Point]
  refine newB_i fun b h1 eb en eh eB => ?_
  simp [box2 eB]
  refine s_spec_l03Degree (by omega) fun h2 e2 => s_spec_l01In ?_
  by_cases hk : (1 : Int) ≤ x.length ∧ (x.length : Int) ≤ (n : Int) - 1
  · simp only [hk, and_self, decide_true, condM_true, box2 (e2.to eB (by omega)), bindO_some]
    refine s_spec_l01Numbers (hx.mono (eh.trans e2)) (by omega) (by omega) (by unfold sizeMax; omega) ?_
    have : PtOk m n x.length x ↔ Nums m x := ⟨fun h => h.2.2, fun h => ⟨by omega, rfl, h⟩⟩
    have h3 := hR _ (eh.trans e2)
    simpa [this] using h3
  · simp only [hk, decide_false, condM_false]
    have : ¬ PtOk m n x.length x := fun h => hk (by have := h.1; omega)
    have h3 := hR _ (eh.trans e2)
    simpa [this] using h3

open Classical in
/-- The code of a law and points. -/
noncomputable def codeP (m : Int) (T P : List (List Int)) : Int :=
  if ¬ LawT m T then 1 else if ∀ i, i < P.length → PtOk m T.length (row P 0).length (row P i) then 0 else 2

theorem s_spec_l16Code {m : Int} {A B : Option Addr} {Rr Rp : Nat → Option Addr} {T P : List (List Int)} {n n2 c : Nat} {h : Hp} {R : Value → Hp → Prop} (hT : RT h A Rr T) (hP : RT h B Rp P) (hn : n = T.length) (hn2 : n2 = P.length) (hl : n ≤ 1000000) (hrl : ∀ i, i < T.length → (row T i).length ≤ 1000000)
    (hp1 : n2 ≤ 1000000) (hpl : ∀ i, i < P.length → (row P i).length ≤ 1000000) (hm : 0 ≤ m ∧ m ≤ 1000000) (hR : ∀ h', HE h h' → R (i6 (codeP m T P)) h') : CallW FF n_spec_l16Code [sv m A n c, .slice B n2 1] h R := by
  subst hn; subst hn2
  refine w_spec_l16Code ?_
  simp [p_spec_l16Code]
  refine newB_i fun b h1 eb en eh eB => ?_
  simp [box2 eB]
  refine s_spec_l04Is (hT.mono eh) rfl hl hrl fun h2 e2 => ?_
  by_cases hlaw : LawT m T
  case neg =>
    have hc : codeP m T P = 1 := by unfold codeP; rw [if_pos hlaw]
    have h3 := hR _ (eh.trans e2)
    rw [hc] at h3
    simpa [hlaw] using h3
  simp [hlaw]
  have E2 := eh.trans e2
  refine LP2 (fun d vs h' => ∃ i : Nat, d = P.length - i ∧ i ≤ P.length ∧ HE h2 h' ∧ vs = [.slice B P.length 1, .pointer (some ⟨b, 0, none⟩), i6 i] ∧ ∀ j, j < i → PtOk m T.length (row P 0).length (row P j)) ?_ _ _ _ ⟨0, rfl, by omega, HE.refl _, rfl, by omega⟩
  rintro d vs h3 ⟨i, rfl, hi, e3, rfl, hI⟩ K K1 K2 hK hK1 hK2
  refine wl_spec_l16Code_0 ?_
  have B3 := (e2.trans e3).to eB (by omega)
  have E3 := E2.trans e3
  by_cases hlt : i < P.length
  · have g : (i : Int) < (P.length : Int) := by omega
    obtain ⟨q1, q2⟩ := (hP.mono E3).at 1 (e := i) (i := i) (n := P.length) rfl rfl hlt
    obtain ⟨z1, z2⟩ := (hP.mono E3).at 1 (e := 0) (i := 0) (n := P.length) rfl rfl (by omega)
    simp only [q_spec_l16Code_0, len_slice, bindO_some, bin_lss, g, decide_true, condM_true, box2 B3, q1, q2]
    refine s_spec_l16Point ((hP.mono E3).rows i hlt) hl rfl (hpl i hlt) hm fun h4 e4 => ?_
    have E4 := E3.trans e4
    obtain ⟨q1, q2⟩ := (hP.mono E4).at 1 (e := i) (i := i) (n := P.length) rfl rfl hlt
    obtain ⟨z1, z2⟩ := (hP.mono E4).at 1 (e := 0) (i := 0) (n := P.length) rfl rfl (by omega)
    have bad : ¬ PtOk m T.length (row P 0).length (row P i) → codeP m T P = 2 := fun hb => by
      unfold codeP; rw [if_neg (not_not_intro hlaw), if_neg fun hall => hb (hall i hlt)]
    by_cases hpt : PtOk m T.length (row P i).length (row P i)
    · simp only [hpt, decide_true, un_not, Bool.not_true, bindO_some, condM_false, q1, q2, z1, z2, len_slice, bin_neq]
      by_cases hlen : (row P i).length = (row P 0).length
      · have : (((row P i).length : Int) = ((row P 0).length : Int)) := by omega
        simp only [this, decide_true, Bool.not_true, condM_false, bindO_some, bin_add, wrapI (n := (i : Int) + 1) (by omega) (by omega)]
        refine hK _ _ _ (by omega) ⟨i + 1, rfl, by omega, e3.trans e4, rfl, fun j hj => ?_⟩
        by_cases hji : j = i
        · subst hji; rw [← hlen]; exact hpt
        · exact hI j (by omega)
      · have : ¬ (((row P i).length : Int) = ((row P 0).length : Int)) := by omega
        simp only [this, decide_false, Bool.not_false, condM_true]
        refine hK2 _ _ fun ev hev => ?_
        simp at hev; rw [hev]
        have := hR _ E4
        rwa [bad fun h => hlen h.2.1] at this
    · simp only [hpt, decide_false, un_not, Bool.not_false, bindO_some, condM_true]
      refine hK2 _ _ fun ev hev => ?_
      simp at hev; rw [hev]
      have := hR _ E4
      rwa [bad fun h => hpt ⟨by have := h.1; have := h.2.1; omega, rfl, h.2.2⟩] at this
  · have g : ¬ (i : Int) < (P.length : Int) := by omega
    simp only [q_spec_l16Code_0, len_slice, bindO_some, bin_lss, g, decide_false, condM_false]
    refine hK1 _ _ fun _ => ?_
    have := hR _ E3
    have hc : codeP m T P = 0 := by unfold codeP; rw [if_neg (not_not_intro hlaw), if_pos fun j hj => hI j (by omega)]
    rwa [hc] at this

/-! ### cuts -/
theorem cutT_snoc {k i : Nat} {T : List (List Int)} : (List.range (i + 1)).map (fun i => tab (k + 1 - i) fun j => gt2 T i j) = (List.range i).map (fun i => tab (k + 1 - i) fun j => gt2 T i j) ++ [tab (k + 1 - i) fun j => gt2 T i j] := by
  rw [List.range_succ, List.map_append]; rfl
theorem take_row {T : List (List Int)} {i n : Nat} (h : n ≤ (row T i).length) : (row T i).take n = tab n fun j => gt2 T i j := by
  refine eq_tab (by simp; omega) fun i hi => gt_take hi

theorem s_spec_l03Cut {A : Option Addr} {Rr : Nat → Option Addr} {T : List (List Int)} {n c k : Nat} {h : Hp} {R : Value → Hp → Prop} (hT : RT h A Rr T) (hn : n = T.length) (hk : k + 1 ≤ T.length) (hl : n ≤ 1000000) (hrl : ∀ i, i < T.length → (row T i).length = T.length - i)
    (hR : ∀ v h', HE h h' → FT h h' v (cutT k T) → R v h') : CallW FF n_spec_l03Cut [.slice A n c, i6 k] h R := by
  subst hn
  refine w_spec_l03Cut ?_
  unfold p_spec_l03Cut
  simp only [rowV_nil, bindO_some]
  refine newB_i fun b0 h1 eb en eh eB => ?_
  refine LP1 (fun d vs h' => ∃ (i b : Nat) (rb : Nat → Nat), d = k + 1 - i ∧ i ≤ k + 1 ∧ vs = [.slice A T.length c, i6 k, .slice (some ⟨b, 0, none⟩) i 1, i6 i] ∧ HE h h' ∧ OT h.nx h' b rb ((List.range i).map fun i => tab (k + 1 - i) fun j => gt2 T i j))
    ?_ _ _ _ ⟨0, b0, fun _ => 0, rfl, by omega, rfl, eh, OT.nil _ (by omega) (by omega) eB⟩
  rintro d vs h2 ⟨i, b, rb, rfl, hi, rfl, e2, hO⟩ K K1 hK hK1
  refine wl_spec_l03Cut_0 ?_
  by_cases hlt : i < k + 1
  · have g : (i : Int) ≤ (k : Int) := by omega
    obtain ⟨q1, q2⟩ := (hT.mono e2).at c (e := i) (i := i) (n := T.length) rfl rfl (by omega)
    have hri := hrl i (by omega)
    obtain ⟨A', c', s1, s2⟩ := ((hT.mono e2).rows i (by omega)).pre (e := (k : Int) - i + 1) (k := k + 1 - i) rfl (by omega) (by omega)
    simp only [q_spec_l03Cut_0, bin_leq, g, decide_true, bindO_some, condM_true, q1, q2, bin_sub, wrapI (n := (k : Int) - i) (by omega) (by omega), bin_add, wrapI (n := (k : Int) - i + 1) (by omega) (by omega), s1]
    refine s_spec_l01Own s2 (by simp; omega) (by omega) (by omega) fun v h3 e3 f3 => ?_
    obtain ⟨q, rfl, r1, r2, r3⟩ := f3
    have n3 := e3.nx; have n2 := e2.nx
    simp only [rowV_slice, bindO_some, wrapI (n := (i : Int) + 1) (by omega) (by omega)]
    rw [take_row (by omega)] at r3 ⊢
    refine push1 (hO.mono e3).top (hO.mono e3).ltb (by simp) (by unfold sizeMax; omega) fun b' h4 u => ?_
    have op := hO.push e3 (by omega) r1 r2 (by simp) r3 u
    rw [← cutT_snoc] at op
    exact hK _ _ _ (by omega) ⟨i + 1, b', _, rfl, by omega, rfl, u.he (e2.trans e3) hO.lob, op⟩
  · have g : ¬ (i : Int) ≤ (k : Int) := by omega
    simp only [q_spec_l03Cut_0, bin_leq, g, decide_false, bindO_some, condM_false]
    refine hK1 _ _ fun ev hev => ?_
    simp at hev; rw [hev]
    have : i = k + 1 := by omega
    subst this
    exact hR _ _ e2 ⟨b, rb, by simp, hO⟩

theorem OT.upd {lo o : Nat} {x : Option Blk} {h h' : Hp} {b : Nat} {rb : Nat → Nat} {T : List (List Int)} (t : OT lo h b rb T) (u : Upd o x h h') (ho : o < lo) : OT lo h' b rb T :=
  ⟨t.lob, by rw [u.nx]; exact t.ltb, by rw [u.ot _ (by have := t.lob; omega)]; exact t.top, t.lor, fun i hi => by rw [u.nx]; exact t.ltr i hi, t.ne, fun i hi => by rw [u.ot _ (by have := t.lor i hi; omega)]; exact t.rows i hi, t.inj⟩
theorem s_spec_l16Cut {m : Int} {A : Option Addr} {Rr : Nat → Option Addr} {T : List (List Int)} {n c k : Nat} {h : Hp} {R : Value → Hp → Prop} (hT : RT h A Rr T) (hn : n = T.length) (hk : k + 1 ≤ T.length) (hl : n ≤ 1000000) (hrl : ∀ i, i < T.length → (row T i).length = T.length - i)
    (hR : ∀ v h', HE h h' → FP h h' v m (cutT k T) → R v h') : CallW FF n_spec_l16Cut [sv m A n c, i6 k] h R := by
  refine w_spec_l16Cut ?_
  simp [p_spec_l16Cut]
  refine newB_i fun b h1 eb en eh eB => ?_
  refine newB_i fun b2 h2 eb2 en2 eh2 eB2 => ?_
  obtain ⟨x0, x1, x2⟩ := box2 (eh2.to eB (by omega))
  simp [x1, x2, show b < h2.nx by omega]
  have E2 := eh.trans eh2
  refine s_spec_l03Cut (hT.mono E2) hn hk hl hrl fun v h3 e3 f3 => ⟨e3.keep, ?_⟩
  obtain ⟨q, rb, rfl, o3⟩ := f3
  have n3 := e3.nx
  refine s_spec_l03Make fun h4 e4 => ?_
  refine storeBox2 ((e3.trans e4).to eB2 (by omega)) rfl rfl rfl rfl fun h5 u5 => ?_
  have n4 := e4.nx
  simp [box2 u5.bk]
  refine hR _ _ (u5.he ((E2.trans e3).trans e4) (by omega)) ⟨q, rb, by simp, ?_⟩
  have o4 := o3.mono e4
  exact (o4.upd u5 (by omega)).lower (by omega)
end XM

/- Points of the reference: sums, multiples, sizes, primes. -/
namespace XM
open Go

/-- A list as an answer, which can be sliced. -/
def LiR (h : Hp) (v : Value) (xs : List Int) : Prop := ∃ A c, v = .slice A xs.length c ∧ RI h A xs ∧ (0 < xs.length → c = 1)
theorem LiR.mono {h h' : Hp} {v : Value} {xs : List Int} (s : LiR h v xs) (e : HE h h') : LiR h' v xs := by
  obtain ⟨A, c, h1, h2, h3⟩ := s; exact ⟨A, c, h1, h2.mono e, h3⟩
theorem LiR.zero (h : Hp) : LiR h (.slice none 0 0) [] := ⟨none, 0, rfl, RI.nil _ _, fun h => by simp at h⟩
theorem FI.li {ty : TypeId} {h h' : Hp} {v : Value} {xs : List Int} (f : FI ty h h' v xs) : LiR h' v xs := by
  obtain ⟨b, h1, h2, h3, h4⟩ := f
  exact ⟨_, 1, h1, RI.of_block h3 h4, fun _ => rfl⟩

theorem RI.tail {h : Hp} {b k : Nat} {xs : List Int} {y : TypeId} (hb : b < h.nx) (hx : h.bk b = some ⟨mapI xs, y, true⟩) (hl : xs.length = k + 1) :
    sliceV 1 (some (.int .i64 1)) none (.slice (some ⟨b, 0, none⟩) xs.length 1) = some (.slice (some ⟨b, 1, none⟩) k 1) ∧ RI h (some ⟨b, 1, none⟩) xs.tail := by
  refine ⟨?_, fun _ => ⟨b, 1, _, rfl, hb, hx, fun i v hv => ?_⟩⟩
  · have g : (1 : Int) ≤ (k : Int) + 1 := by omega
    simp [sliceV, bnd, addOff, hl, g]
  · simp only [mapI, List.getElem?_map, Option.map_eq_some_iff, List.getElem?_tail] at hv ⊢
    obtain ⟨z, h1, h2⟩ := hv
    exact ⟨z, by rw [Nat.add_comm]; exact h1, h2⟩

theorem cv_cons {m : Int} {D : Nat} {x : List Int} (hm : 0 < m) (hl : x.length = D) (hx : Nums m x) : Cv m D (0 :: x) := ⟨by simp [hl], fun v hv => by
  simp only [List.mem_cons] at hv
  rcases hv with rfl | hv
  · omega
  · exact hx v hv, rfl⟩
theorem mulN_len {m : Int} {D : Nat} {T : List (List Int)} {N : Int} {a : List Int} : (mulN m D T N a).length = D + 1 := by
  unfold mulN; split
  · simp [oppL, compL]
  · exact binL_len (by simp)
theorem mapI_z : ([.int .i64 0] : List Value) = mapI [0] := rfl

theorem s_spec_l16Add {m : Int} {A B C : Option Addr} {Rr : Nat → Option Addr} {T : List (List Int)} {x y : List Int} {D n n2 n3 c c2 c3 : Nat} {h : Hp} {R : Value → Hp → Prop} (hT : RT h A Rr T) (hx : RI h B x) (hy : RI h C y) (hn : n = D + 1) (hn2 : n2 = D) (hn3 : n3 = D)
    (t : Tri m D T) (hxl : x.length = D) (hyl : y.length = D) (nx : Nums m x) (ny : Nums m y) (hD1 : 1 ≤ D) (hD : D ≤ 90000) (hm : 2 ≤ m) (hm2 : m ≤ 1000000)
    (hR : ∀ A h', HE h h' → RI h' A (putL m D T (0 :: x) (0 :: y)).tail → R (.slice A D 1) h') : CallW FF n_spec_l16Add [sv m A n c, .slice B n2 c2, .slice C n3 c3] h R := by
  rw [hn, hn2, hn3]
  refine w_spec_l16Add ?_
  unfold p_spec_l16Add
  simp only [boxV_is, bindO_some]
  refine newB_i fun b h1 eb en eh eB => ?_
  obtain ⟨x0, x1, x2⟩ := box2 eB
  simp only [fieldAddr_ptr, Nat.zero_add, bindO_some, inB_ptr, x1, x2, rowV_int]
  refine ⟨by omega, by omega, ?_⟩
  refine newAppK (xs := x) (ys := [0]) (cs := [.int .i64 0]) (l := 1) (hx.mono eh) rfl hxl.symm rfl hD1 (by unfold sizeMax; omega) fun p h2 h3 k3 e3 p1 p2 p3 => ?_
  refine ⟨k3, ?_⟩
  refine newAppK (xs := y) (ys := [0]) (cs := [.int .i64 0]) (l := 1) ((hy.mono eh).mono e3) rfl hyl.symm rfl hD1 (by unfold sizeMax; omega) fun q h4 h5 k5 e5 q1 q2 q3 => ?_
  have E := (eh.trans e3).trans e5
  refine ⟨fun c hc => k5 c (by have := e3.nx; omega), ?_⟩
  have cx := cv_cons (D := D) (by omega) hxl nx
  have cy := cv_cons (D := D) (by omega) hyl ny
  rw [Nat.add_comm 1 D]
  refine s_spec_l03Put (D := D) (hT.mono E) (RI.of_block (Nat.lt_of_lt_of_le p2 e5.nx) (e5.to p3 p2)) (RI.of_block q2 q3) rfl t.len cx.len cy.len (fun i hi => by have := (t.rows i hi).1; omega) (fun i hi => (t.rows i hi).2) hm (by omega) cx.nums cy.nums (by omega) fun v h6 e6 f6 => ?_
  obtain ⟨w, rfl, w1, w2, w3⟩ := f6
  obtain ⟨s1, s2⟩ := RI.tail (k := D) w2 w3 (by simp)
  rw [s1, bindO_some]
  exact hR _ _ (E.trans e6) s2

theorem s_spec_l16Multiple {m N : Int} {A B : Option Addr} {Rr : Nat → Option Addr} {T : List (List Int)} {x : List Int} {D n n2 c c2 : Nat} {h : Hp} {R : Value → Hp → Prop} (hT : RT h A Rr T) (hx : RI h B x) (hn : n = D + 1) (hn2 : n2 = D)
    (t : Tri m D T) (hxl : x.length = D) (nx : Nums m x) (hD1 : 1 ≤ D) (hD : D ≤ 90000) (hm : 2 ≤ m) (hm2 : m ≤ 1000000) (hN : -4000000000000 ≤ N ∧ N ≤ 4000000000000)
    (hR : ∀ A h', HE h h' → RI h' A (mulN m D T N (0 :: x)).tail → (mulN m D T N (0 :: x)).length = D + 1 → R (.slice A D 1) h') : CallW FF n_spec_l16Multiple [sv m A n c, i6 N, .slice B n2 c2] h R := by
  rw [hn, hn2]
  refine w_spec_l16Multiple ?_
  unfold p_spec_l16Multiple
  simp only [boxV_is, bindO_some]
  refine newB_i fun b h1 eb en eh eB => ?_
  obtain ⟨x0, x1, x2⟩ := box2 eB
  simp only [bindO_some, inB_ptr, x0, rowV_int]
  refine ⟨by omega, ?_⟩
  refine newAppK (xs := x) (ys := [0]) (cs := [.int .i64 0]) (l := 1) (hx.mono eh) rfl hxl.symm rfl hD1 (by unfold sizeMax; omega) fun p h2 h3 k3 e3 p1 p2 p3 => ?_
  refine ⟨k3, ?_⟩
  have E := eh.trans e3
  have cx := cv_cons (D := D) (by omega) hxl nx
  rw [Nat.add_comm 1 D]
  refine s_spec_l04Multiple (D := D) (hT.mono E) (RI.of_block p2 p3) rfl rfl t hm (by omega) hD hD1 cx.len cx.nums hN.1 hN.2 fun v h6 e6 f6 => ?_
  obtain ⟨w, rfl, w1, w2, w3⟩ := f6
  have hl : (mulN m D T N (0 :: x)).length = D + 1 := mulN_len
  obtain ⟨s1, s2⟩ := RI.tail (k := D) w2 w3 hl
  rw [s1, bindO_some]
  exact hR _ _ (E.trans e6) s2 hl

theorem s_spec_l16Zero {A : Option Addr} {x : List Int} {n : Nat} {h : Hp} {R : Value → Hp → Prop} (hx : RI h A x) (hn : n = x.length) (hl : n ≤ 1000000) (hR : R (.bool (decide (∀ i, i < x.length → gt x i = 0))) h) : CallW FF n_spec_l16Zero [.slice A n 1] h R := by
  subst hn
  refine w_spec_l16Zero ?_
  refine LP2 (fun d vs h' => ∃ i : Nat, d = x.length - i ∧ i ≤ x.length ∧ h' = h ∧ vs = [.slice A x.length 1, i6 i] ∧ ∀ j, j < i → gt x j = 0) ?_ _ _ _ ⟨0, rfl, by omega, rfl, rfl, by omega⟩
  rintro d vs h3 ⟨i, rfl, hi, rfl, rfl, hI⟩ K K1 K2 hK hK1 hK2
  refine wl_spec_l16Zero_0 ?_
  by_cases hlt : i < x.length
  · have g : (i : Int) < (x.length : Int) := by omega
    obtain ⟨q1, q2⟩ := hx.at 1 (e := i) (i := i) (n := x.length) rfl rfl hlt
    simp only [q_spec_l16Zero_0, len_slice, bindO_some, bin_lss, g, decide_true, condM_true, q1, q2, bin_neq]
    by_cases h0 : gt x i = 0
    · simp only [h0, decide_true, Bool.not_true, condM_false, bin_add, bindO_some, wrapI (n := (i : Int) + 1) (by omega) (by omega)]
      refine hK _ _ _ (by omega) ⟨i + 1, rfl, by omega, rfl, rfl, fun j hj => ?_⟩
      by_cases hji : j = i
      · subst hji; exact h0
      · exact hI j (by omega)
    · simp only [h0, decide_false, Bool.not_false, condM_true]
      refine hK2 _ _ fun ev hev => ?_
      simp at hev; rw [hev]
      have : ¬ ∀ i, i < x.length → gt x i = 0 := fun h => h0 (h i hlt)
      rwa [decide_eq_false this] at hR
  · have g : ¬ (i : Int) < (x.length : Int) := by omega
    simp only [q_spec_l16Zero_0, len_slice, bindO_some, bin_lss, g, decide_false, condM_false]
    refine hK1 _ _ fun _ _ => ?_
    have : ∀ i, i < x.length → gt x i = 0 := fun j hj => hI j (by omega)
    rwa [decide_eq_true this] at hR

/-! ### sizes -/
theorem sizeR_stop {m k most j : Nat} (hm : 1 ≤ m) (hj : j ≤ k) (h : most < m ^ j) : sizeR m k most = most + 1 := by
  have : m ^ j ≤ m ^ k := Nat.pow_le_pow_right hm hj
  unfold sizeR; rw [if_neg (by omega)]

theorem s_spec_l16Size {m k : Nat} {h : Hp} {R : Value → Hp → Prop} (hm : 1 ≤ m) (hm2 : m ≤ 1000000) (hk : k ≤ 1000000) (hR : R (i6 (sizeR m k 1000000000000 : Nat)) h) : CallW FF n_spec_l16Size [i6 (m : Int), i6 (k : Int), i6 1000000000000] h R := by
  refine w_spec_l16Size ?_
  refine LP2 (fun d vs h' => ∃ j : Nat, d + j = k ∧ h' = h ∧ m ^ j ≤ 1000000000000 ∧ vs = [i6 m, i6 d, i6 1000000000000, i6 (m ^ j : Nat)]) ?_ k _ _ ⟨0, by omega, rfl, by simp, rfl⟩
  rintro i vs h3 ⟨j, hij, rfl, hj, rfl⟩ K K1 K2 hK hK1 hK2
  refine wl_spec_l16Size_0 ?_
  by_cases h0 : 0 < i
  · have g : (0 : Int) < (i : Int) := by omega
    have hb : m ^ j * m ≤ 1000000000000 * 1000000 := Nat.mul_le_mul hj hm2
    have e1 : ((m ^ j : Nat) : Int) * (m : Int) = ((m ^ (j + 1) : Nat) : Int) := by rw [Nat.pow_succ, Int.natCast_mul]
    have hb2 : m ^ (j + 1) ≤ 1000000000000000000 := by rw [Nat.pow_succ]; exact hb
    simp only [q_spec_l16Size_0, bin_gtr, g, decide_true, bindO_some, condM_true, bin_mul, e1, wrapI (n := ((m ^ (j + 1) : Nat) : Int)) (by omega) (by omega)]
    by_cases hs : 1000000000000 < m ^ (j + 1)
    · have g2 : (1000000000000 : Int) < ((m ^ (j + 1) : Nat) : Int) := by omega
      simp only [g2, decide_true, condM_true, bin_add, bindO_some, wrapI (n := (1000000000000 : Int) + 1) (by omega) (by omega)]
      refine hK2 _ _ fun ev hev => ?_
      simp at hev; rw [hev]
      rw [sizeR_stop hm (show j + 1 ≤ k by omega) hs] at hR
      exact hR
    · have g2 : ¬ (1000000000000 : Int) < ((m ^ (j + 1) : Nat) : Int) := by omega
      simp only [g2, decide_false, condM_false, bin_sub, bindO_some, wrapI (n := (i : Int) - 1) (by omega) (by omega)]
      exact hK (i - 1) _ _ (by omega) ⟨j + 1, by omega, rfl, by omega, by rw [show ((i - 1 : Nat) : Int) = (i : Int) - 1 by omega]⟩
  · have g : ¬ (0 : Int) < (i : Int) := by omega
    simp only [q_spec_l16Size_0, bin_gtr, g, decide_false, bindO_some, condM_false]
    refine hK1 _ _ fun ev hev => ?_
    simp at hev; rw [hev]
    have : sizeR m k 1000000000000 = m ^ j := by unfold sizeR; rw [show k = j by omega, if_pos hj]
    rwa [this] at hR
end XM

/- Points of the reference: primes and the functions of the package. -/
namespace XM
open Go

/-- Natural numbers as numbers. -/
def natI (L : List Nat) : List Int := L.map fun x : Nat => (x : Int)
@[simp] theorem natI_len (L : List Nat) : (natI L).length = L.length := by simp [natI]
theorem natI_snoc (L : List Nat) (q : Nat) : natI (L ++ [q]) = natI L ++ [(q : Int)] := by simp [natI]
theorem gt_natI {L : List Nat} {i : Nat} (h : i < L.length) : gt (natI L) i = (L[i] : Nat) := by simp [gt, natI, h]
theorem tmod_nat (n q : Nat) : ((n : Int).tmod (q : Int)) = ((n % q : Nat) : Int) := by rw [Int.tmod_eq_emod_of_nonneg (by omega)]; rfl
theorem tdiv_nat (n q : Nat) : ((n : Int).tdiv (q : Int)) = ((n / q : Nat) : Int) := by rw [Int.tdiv_eq_ediv_of_nonneg (by omega)]; rfl

theorem remN {n q : Nat} (hq : 2 ≤ q) : binV .rem (i6 (n : Int)) (i6 (q : Int)) = some (i6 ((n % q : Nat) : Int)) := by
  rw [bin_rem, if_neg (by omega), tmod_nat]
theorem quoN {n q : Nat} (hq : 2 ≤ q) (hn : n ≤ 4000000000000) : binV .quo (i6 (n : Int)) (i6 (q : Int)) = some (i6 ((n / q : Nat) : Int)) := by
  have : n / q ≤ n := Nat.div_le_self n q
  rw [bin_quo, if_neg (by omega), tdiv_nat]
  generalize n / q = z at this ⊢
  rw [wrapI (by omega) (by omega)]
theorem s_spec_l16Primes {m : Nat} {h : Hp} {R : Value → Hp → Prop} (hm : 1 ≤ m) (hm2 : m ≤ 1000000) (hR : ∀ v h' L, HE h h' → PL m L → L.length ≤ 1000002 → FI y_t_int64 h h' v (natI L) → R v h') : CallW FF n_spec_l16Primes [i6 (m : Int)] h R := by
  refine w_spec_l16Primes ?_
  unfold p_spec_l16Primes
  simp only [rowV_nil, bindO_some]
  refine newB_i fun b0 h1 eb en eh eB => ?_
  refine LP1 (fun d vs h' => ∃ (n q b : Nat) (L : List Nat), d = n + 1 - q ∧ 2 ≤ q ∧ q ≤ m + 2 ∧ n ≤ m ∧ PI m q n L ∧ L.length + 2 ≤ q ∧ vs = [i6 (n : Int), .slice (some ⟨b, 0, none⟩) L.length 1, i6 (q : Int)] ∧ HE h h' ∧ h.nx ≤ b ∧ b < h'.nx ∧ h'.bk b = some ⟨mapI (natI L), y_t_int64, true⟩)
    ?_ _ _ _ ⟨m, 2, b0, [], rfl, by omega, by omega, by omega, PI.init hm, by simp, rfl, eh, by omega, by omega, eB⟩
  rintro d vs h2 ⟨n, q, b, L, rfl, hq, hq2, hn, I, hL, rfl, e2, b1, b2, b3⟩ K K1 hK hK1
  refine wl_spec_l16Primes_1 ?_
  have n1 := I.n1
  by_cases h1 : 1 < n
  · have g : (1 : Int) < (n : Int) := by omega
    have hqn := I.le h1
    simp only [q_spec_l16Primes_1, bin_gtr, g, decide_true, bindO_some, condM_true]
    refine ⟨fun vs h' => ∃ (b : Nat) (L' : List Nat), L' = (if n % q = 0 then L ++ [q] else L) ∧ vs = [i6 (n : Int), .slice (some ⟨b, 0, none⟩) L'.length 1, i6 (q : Int)] ∧ HE h h' ∧ h.nx ≤ b ∧ b < h'.nx ∧ h'.bk b = some ⟨mapI (natI L'), y_t_int64, true⟩, ?_, ?_⟩
    · rintro vs h3 ⟨b, L', hL', rfl, e3, c1, c2, c3⟩ e he
      simp only [List.cons.injEq, and_true] at he
      obtain ⟨g0, g3, g4⟩ := he
      rw [g0, g3, g4]
      have I' : PI m (q + 1) (strip q n) L' := by
        rw [hL']
        by_cases hd : n % q = 0
        · rw [if_pos hd]; exact I.yes hq hd
        · rw [if_neg hd, strip_no hd]; exact I.no hd
      have hL2 : L'.length ≤ L.length + 1 := by rw [hL']; split <;> simp
      refine LP1 (fun d vs h' => h' = h3 ∧ 0 < d ∧ d ≤ n ∧ strip q d = strip q n ∧ vs = [i6 (d : Int), .slice (some ⟨b, 0, none⟩) L'.length 1, i6 (q : Int)]) ?_ n _ _ ⟨rfl, by omega, by omega, rfl, rfl⟩
      rintro d vs h4 ⟨rfl, d0, dn, hs, rfl⟩ K' K1' hK' hK1'
      refine wl_spec_l16Primes_0 ?_
      simp only [q_spec_l16Primes_0, remN hq, bindO_some, bin_eql]
      by_cases hd : d % q = 0
      · have g : ((d % q : Nat) : Int) = 0 := by omega
        have hlt : d / q < d := Nat.div_lt_self d0 hq
        simp only [g, decide_true, condM_true, quoN hq (show d ≤ 4000000000000 by omega), bindO_some]
        exact hK' (d / q) _ _ hlt ⟨rfl, div_pos_of d0 hd, by omega, by rw [← hs, strip_yes hq d0 hd], rfl⟩
      · have g : ¬ ((d % q : Nat) : Int) = 0 := by omega
        simp only [g, decide_false, condM_false]
        refine hK1' _ _ fun ev hev => ?_
        simp only [List.cons.injEq, and_true] at hev
        obtain ⟨g0, g3, g4⟩ := hev
        simp only [g0, g3, g4, bin_add, bindO_some, wrapI (n := (q : Int) + 1) (by omega) (by omega)]
        have hsd : strip q n = d := by rw [← hs, strip_no hd]
        rw [hsd] at I'
        exact hK _ _ _ (by omega) ⟨d, q + 1, b, L', rfl, by omega, by omega, by omega, I', by omega, rfl, e3, c1, c2, c3⟩
    · simp only [remN hq, bindO_some, bin_eql]
      by_cases hd : n % q = 0
      · have g : ((n % q : Nat) : Int) = 0 := by omega
        simp only [g, decide_true, condM_true, rowV_int, bindO_some]
        refine pushI b3 b2 (by simp) (by unfold sizeMax; omega) fun b' h3 u => ?_
        refine ⟨b', L ++ [q], by rw [if_pos hd], by simp, u.he e2 b1, by have := u.ge; have := e2.nx; omega, u.lt, ?_⟩
        rw [u.bk, natI_snoc]
      · have g : ¬ ((n % q : Nat) : Int) = 0 := by omega
        simp only [g, decide_false, condM_false]
        exact ⟨b, L, by rw [if_neg hd], rfl, e2, b1, b2, b3⟩
  · have g : ¬ (1 : Int) < (n : Int) := by omega
    simp only [q_spec_l16Primes_1, bin_gtr, g, decide_false, bindO_some, condM_false]
    refine hK1 _ _ fun ev hev => ?_
    simp only [List.cons.injEq, and_true] at hev
    rw [hev]
    have : n = 1 := by omega
    subst this
    exact hR _ _ L e2 I.fin (by omega) ⟨b, by simp, b1, b2, b3⟩

/-! ### the functions of the package -/
open Classical in
/-- The sum of points, and its code. -/
noncomputable def sumPR (m : Int) (T : List (List Int)) (x y : List Int) : List Int × Int :=
  if codeP m T [x, y] ≠ 0 then ([], codeP m T [x, y]) else ((putL m x.length (cutT x.length T) (0 :: x) (0 :: y)).tail, 0)
open Classical in
noncomputable def mulPR (m : Int) (T : List (List Int)) (n : Int) (x : List Int) : List Int × Int :=
  if codeP m T [x] ≠ 0 then ([], codeP m T [x]) else if ¬ (-1000000000000 ≤ n ∧ n ≤ 1000000000000) then ([], 2) else ((mulN m x.length (cutT x.length T) n (0 :: x)).tail, 0)

theorem codeP_zero {m : Int} {T P : List (List Int)} (h : codeP m T P = 0) : LawT m T ∧ ∀ i, i < P.length → PtOk m T.length (row P 0).length (row P i) := by
  unfold codeP at h
  split at h
  · simp at h
  · split at h
    · rename_i h1 h2; exact ⟨Classical.not_not.1 h1, h2⟩
    · simp at h
theorem Law.tri {m : Int} {D : Nat} {T : List (List Int)} (l : Law m D T) : Tri m D T := ⟨l.len, fun i hi => by have := l.rows i (by rw [← l.len]; exact hi); exact this⟩
/-- What a code 0 tells of a law and a point. -/
theorem pt_facts {m : Int} {T P : List (List Int)} {x : List Int} (h : codeP m T (x :: P) = 0) : LawT m T ∧ 1 ≤ x.length ∧ x.length + 1 ≤ T.length ∧ Nums m x ∧ (2 ≤ m ∧ m ≤ 10000) ∧ T.length ≤ 11 ∧ (∀ i, i < T.length → (row T i).length = T.length - i) ∧ Law m x.length (cutT x.length T) := by
  obtain ⟨l, hp⟩ := codeP_zero h
  obtain ⟨⟨k1, k2⟩, _, hn⟩ := hp 0 (by simp)
  have k1 : 1 ≤ x.length := k1
  have k2 : x.length + 1 ≤ T.length := k2
  have hn : Nums m x := hn
  have l0 := l
  obtain ⟨⟨h1, h2, h3⟩, _⟩ := l0
  exact ⟨l, k1, k2, hn, h1, h2.2, fun i hi => (h3 i hi).1, l.law.cut k1 (by omega)⟩
theorem pt_facts2 {m : Int} {T : List (List Int)} {x y : List Int} (h : codeP m T [x, y] = 0) : y.length = x.length ∧ Nums m y := by
  obtain ⟨l, hp⟩ := codeP_zero h
  obtain ⟨_, h2, h3⟩ := hp 1 (by simp)
  exact ⟨h2, h3⟩

theorem rt2 {h : Hp} {B C : Option Addr} {x y : List Int} {b : Nat} {ty : TypeId} (hx : RI h B x) (hy : RI h C y) (hb : b < h.nx) (hB : h.bk b = some ⟨[.slice B x.length 1, .slice C y.length 1], ty, true⟩) :
    RT h (some ⟨b, 0, none⟩) (fun i => if i = 0 then B else C) [x, y] :=
  ⟨RV.of_block hb hB (by simp [rowsV, row, List.range_succ]), fun i hi => by
    simp at hi
    rcases Nat.eq_zero_or_pos i with h0 | h0
    · subst h0; exact hx
    · rw [show i = 1 by omega]; exact hy⟩
theorem rt1 {h : Hp} {B : Option Addr} {x : List Int} {b : Nat} {ty : TypeId} (hx : RI h B x) (hb : b < h.nx) (hB : h.bk b = some ⟨[.slice B x.length 1], ty, true⟩) : RT h (some ⟨b, 0, none⟩) (fun _ => B) [x] :=
  ⟨RV.of_block hb hB (by simp [rowsV, row]), fun i hi => by simp at hi; subst hi; exact hx⟩
theorem rowV_2 (z : Value) (A B : Option Addr) (n c k d : Nat) : rowV 1 2 [z] [(0, .slice A n c), (1, .slice B k d)] = some [.slice A n c, .slice B k d] := by simp [rowV, rowFill, reps]

theorem s_spec_SumOfPoints {m : Int} {A B C : Option Addr} {Rr : Nat → Option Addr} {T : List (List Int)} {x y : List Int} {n n2 n3 c : Nat} {h : Hp} {R : Value → Hp → Prop} (hT : RT h A Rr T) (hx : RI h B x) (hy : RI h C y) (hn : n = T.length) (hn2 : n2 = x.length) (hn3 : n3 = y.length)
    (hl : n ≤ 1000000) (hrl : ∀ i, i < T.length → (row T i).length ≤ 1000000) (hm : 0 ≤ m ∧ m ≤ 1000000) (hxl : x.length ≤ 1000000) (hyl : y.length ≤ 1000000)
    (hR : ∀ v h', HE h h' → LiR h' v (sumPR m T x y).1 → R (.tuple #[v, i6 (sumPR m T x y).2]) h') : CallW FF n_spec_SumOfPoints [sv m A n c, .slice B n2 1, .slice C n3 1] h R := by
  subst hn; subst hn2; subst hn3
  refine w_spec_SumOfPoints ?_
  unfold p_spec_SumOfPoints
  simp only [boxV_is, bindO_some]
  refine newB_i fun b h1 eb en eh eB => ?_
  simp only [box2 eB, bindO_some, rowV_2]
  refine newB_i fun b2 h2 eb2 en2 eh2 eB2 => ?_
  have E2 := eh.trans eh2
  refine s_spec_l16Code (P := [x, y]) (hT.mono E2) (rt2 (hx.mono E2) (hy.mono E2) (by omega) eB2) rfl rfl hl hrl (by simp) (fun i hi => by
    simp at hi
    rcases Nat.eq_zero_or_pos i with h0 | h0
    · subst h0; exact hxl
    · rw [show i = 1 by omega]; exact hyl) hm fun h3 e3 => ?_
  have E3 := E2.trans e3
  simp only [bin_neq, bindO_some]
  by_cases hc : codeP m T [x, y] = 0
  case neg =>
    simp only [hc, decide_false, Bool.not_false, condM_true]
    have := hR (.slice none 0 0) _ E3
    unfold sumPR at this
    rw [if_pos hc] at this
    exact this (LiR.zero _)
  obtain ⟨law, k1, k2, nx, m1, hTl, hr, lc⟩ := pt_facts hc
  obtain ⟨hyx, ny⟩ := pt_facts2 hc
  simp only [hc, decide_true, Bool.not_true, condM_false, box2 ((eh2.trans e3).to eB (by omega)), bindO_some, len_slice]
  refine s_spec_l16Cut (k := x.length) (hT.mono E3) rfl k2 hl hr fun v h4 e4 f4 => ?_
  obtain ⟨q, rb, rfl, o4⟩ := f4
  have E4 := E3.trans e4
  refine s_spec_l16Add (D := x.length) o4.rt (hx.mono E4) (hy.mono E4) (by simp) rfl hyx lc.tri rfl hyx nx ny k1 (by omega) (by omega) (by omega) fun A5 h5 e5 r5 => ?_
  have lt : (putL m x.length (cutT x.length T) (0 :: x) (0 :: y)).tail.length = x.length := by simp
  refine s_spec_l01Own r5 lt.symm k1 hxl fun v h6 e6 f6 => ?_
  have := hR v _ ((E4.trans e5).trans e6)
  unfold sumPR at this
  rw [if_neg (not_not_intro hc)] at this
  exact this f6.li

theorem s_spec_OppositePoint {m : Int} {A B : Option Addr} {Rr : Nat → Option Addr} {T : List (List Int)} {x : List Int} {n n2 c : Nat} {h : Hp} {R : Value → Hp → Prop} (hT : RT h A Rr T) (hx : RI h B x) (hn : n = T.length) (hn2 : n2 = x.length)
    (hl : n ≤ 1000000) (hrl : ∀ i, i < T.length → (row T i).length ≤ 1000000) (hm : 0 ≤ m ∧ m ≤ 1000000) (hxl : x.length ≤ 1000000)
    (hR : ∀ v h', HE h h' → LiR h' v (mulPR m T (-1) x).1 → R (.tuple #[v, i6 (mulPR m T (-1) x).2]) h') : CallW FF n_spec_OppositePoint [sv m A n c, .slice B n2 1] h R := by
  subst hn; subst hn2
  refine w_spec_OppositePoint ?_
  unfold p_spec_OppositePoint
  simp only [boxV_is, bindO_some]
  refine newB_i fun b h1 eb en eh eB => ?_
  simp only [box2 eB, bindO_some, rowV_slice]
  refine newB_i fun b2 h2 eb2 en2 eh2 eB2 => ?_
  have E2 := eh.trans eh2
  refine s_spec_l16Code (P := [x]) (hT.mono E2) (rt1 (hx.mono E2) (by omega) eB2) rfl rfl hl hrl (by simp) (fun i hi => by simp at hi; subst hi; exact hxl) hm fun h3 e3 => ?_
  have E3 := E2.trans e3
  simp only [bin_neq, bindO_some]
  by_cases hc : codeP m T [x] = 0
  case neg =>
    simp only [hc, decide_false, Bool.not_false, condM_true]
    have := hR (.slice none 0 0) _ E3
    unfold mulPR at this
    rw [if_pos hc] at this
    exact this (LiR.zero _)
  obtain ⟨law, k1, k2, nx, m1, hTl, hr, lc⟩ := pt_facts hc
  simp only [hc, decide_true, Bool.not_true, condM_false, box2 ((eh2.trans e3).to eB (by omega)), bindO_some, len_slice]
  refine s_spec_l16Cut (k := x.length) (hT.mono E3) rfl k2 hl hr fun v h4 e4 f4 => ?_
  obtain ⟨q, rb, rfl, o4⟩ := f4
  have E4 := E3.trans e4
  refine s_spec_l16Multiple (D := x.length) o4.rt (hx.mono E4) (by simp) rfl lc.tri rfl nx k1 (by omega) (by omega) (by omega) (by omega) fun A5 h5 e5 r5 l5 => ?_
  refine s_spec_l01Own r5 (by simp [l5]) k1 hxl fun v h6 e6 f6 => ?_
  have := hR v _ ((E4.trans e5).trans e6)
  unfold mulPR at this
  rw [if_neg (not_not_intro hc), if_neg (not_not_intro (by omega))] at this
  exact this f6.li

theorem s_spec_MultipleOfPoint {m N : Int} {A B : Option Addr} {Rr : Nat → Option Addr} {T : List (List Int)} {x : List Int} {n n2 c : Nat} {h : Hp} {R : Value → Hp → Prop} (hT : RT h A Rr T) (hx : RI h B x) (hn : n = T.length) (hn2 : n2 = x.length)
    (hl : n ≤ 1000000) (hrl : ∀ i, i < T.length → (row T i).length ≤ 1000000) (hm : 0 ≤ m ∧ m ≤ 1000000) (hxl : x.length ≤ 1000000)
    (hR : ∀ v h', HE h h' → LiR h' v (mulPR m T N x).1 → R (.tuple #[v, i6 (mulPR m T N x).2]) h') : CallW FF n_spec_MultipleOfPoint [sv m A n c, i6 N, .slice B n2 1] h R := by
  subst hn; subst hn2
  refine w_spec_MultipleOfPoint ?_
  unfold p_spec_MultipleOfPoint
  simp only [boxV_is, bindO_some]
  refine newB_i fun b h1 eb en eh eB => ?_
  simp only [box2 eB, bindO_some, rowV_slice]
  refine newB_i fun b2 h2 eb2 en2 eh2 eB2 => ?_
  have E2 := eh.trans eh2
  refine s_spec_l16Code (P := [x]) (hT.mono E2) (rt1 (hx.mono E2) (by omega) eB2) rfl rfl hl hrl (by simp) (fun i hi => by simp at hi; subst hi; exact hxl) hm fun h3 e3 => ?_
  have E3 := E2.trans e3
  refine ⟨fun vs h' => HE h3 h' ∧ vs = [i6 N, .slice B x.length 1, .pointer (some ⟨b, 0, none⟩), i6 (if codeP m T [x] ≠ 0 then codeP m T [x] else if ¬ (-1000000000000 ≤ N ∧ N ≤ 1000000000000) then 2 else 0)], ?_, ?_⟩
  · rintro vs h4 ⟨e4, rfl⟩ e he
    simp only [List.cons.injEq, and_true] at he
    obtain ⟨g1, g2, g3, g8⟩ := he
    have E4 := E3.trans e4
    simp only [g1, g2, g3, g8, bin_neq, bindO_some]
    by_cases hc : codeP m T [x] = 0
    case neg =>
      simp only [hc, ne_eq, not_false_eq_true, if_true, decide_false, Bool.not_false, condM_true]
      have := hR (.slice none 0 0) _ E4
      unfold mulPR at this
      rw [if_pos hc] at this
      exact this (LiR.zero _)
    obtain ⟨law, k1, k2, nx, m1, hTl, hr, lc⟩ := pt_facts hc
    by_cases hN : -1000000000000 ≤ N ∧ N ≤ 1000000000000
    case neg =>
      have := hR (.slice none 0 0) _ E4
      unfold mulPR at this
      rw [if_neg (not_not_intro hc), if_pos hN] at this
      simp only [hc, hN, ne_eq, not_true_eq_false, not_false_eq_true, if_true, if_false]
      exact this (LiR.zero _)
    simp only [hc, hN, ne_eq, not_true_eq_false, and_self, if_false, decide_true, Bool.not_true, condM_false, box2 (((eh2.trans e3).trans e4).to eB (by omega)), bindO_some, len_slice]
    refine s_spec_l16Cut (k := x.length) (hT.mono E4) rfl k2 hl hr fun v h5 e5 f5 => ?_
    obtain ⟨q, rb, rfl, o5⟩ := f5
    have E5 := E4.trans e5
    refine s_spec_l16Multiple (D := x.length) o5.rt (hx.mono E5) (by simp) rfl lc.tri rfl nx k1 (by omega) (by omega) (by omega) (by omega) fun A6 h6 e6 r6 l6 => ?_
    refine s_spec_l01Own r6 (by simp [l6]) k1 hxl fun v h7 e7 f7 => ?_
    have := hR v _ ((E5.trans e6).trans e7)
    unfold mulPR at this
    rw [if_neg (not_not_intro hc), if_neg (not_not_intro hN)] at this
    exact this f7.li
  · simp only [bin_eql, bindO_some]
    by_cases hc : codeP m T [x] = 0
    · simp only [hc, decide_true, condM_true]
      refine s_spec_l01In ?_
      by_cases hN : -1000000000000 ≤ N ∧ N ≤ 1000000000000
      · simp only [hN, and_self, decide_true, un_not, Bool.not_true, bindO_some, condM_false]
        exact ⟨HE.refl _, by simp⟩
      · simp only [hN, decide_false, un_not, Bool.not_false, bindO_some, condM_true]
        exact ⟨HE.refl _, by simp⟩
    · simp only [hc, decide_false, condM_false]
      exact ⟨HE.refl _, by simp only [hc, ne_eq, not_false_eq_true, if_true]⟩
end XM

/- Orders of points of the reference. -/
namespace XM
open Go

open Classical in
/-- The prime divisors of a number. -/
noncomputable def prL (m : Nat) : List Nat := if h : ∃ L, PL m L then Classical.choose h else []
theorem prL_eq {m : Nat} {L : List Nat} (h : PL m L) : prL m = L := by
  unfold prL
  have hx : ∃ L, PL m L := ⟨L, h⟩
  rw [dif_pos hx]
  exact (Classical.choose_spec hx).same h
/-- The multiple by n of a point is 0. -/
def KillP (m : Int) (T : List (List Int)) (x : List Int) (n : Nat) : Prop := mulN m x.length (cutT x.length T) n (0 :: x) = zL x.length
open Classical in
/-- The order of a point, and its code. -/
noncomputable def ordPR (m : Int) (T : List (List Int)) (x : List Int) : Int × Int :=
  if codeP m T [x] ≠ 0 then (0, codeP m T [x]) else if 1000000000000 < sizeR m.toNat x.length 1000000000000 then (0, 3) else ((ordF (KillP m T x) (prL m.toNat) (m.toNat ^ x.length) : Nat), 0)

theorem zero_tail {m : Int} {D : Nat} {a : List Int} (c : Cv m D a) : (∀ i, i < a.tail.length → gt a.tail i = 0) ↔ a = zL D := by
  have hl := c.len
  have ht : a.tail.length = D := by simp [hl]
  have gt_t : ∀ i, gt a.tail i = gt a (i + 1) := fun i => by simp [gt]
  constructor
  · intro h
    refine gt_ext (by rw [hl]; simp [zL]) fun i hi => ?_
    rw [gt_zL]
    cases i with
    | zero => exact c.z
    | succ i => rw [← gt_t]; exact h i (by rw [ht]; omega)
  · intro h i hi
    rw [gt_t, h, gt_zL]

theorem red_le {K : Nat → Prop} {q n : Nat} (hq : 2 ≤ q) (hn : 0 < n) : 0 < red K q n ∧ red K q n ≤ n := by
  obtain ⟨h1, h2, _⟩ := red_all (K := K) hq n hn
  exact ⟨h1, Nat.le_of_dvd hn h2⟩

theorem s_spec_OrderOfPointUnder {m : Int} {A B : Option Addr} {Rr : Nat → Option Addr} {T : List (List Int)} {x : List Int} {n n2 c : Nat} {h : Hp} {R : Value → Hp → Prop} (hT : RT h A Rr T) (hx : RI h B x) (hn : n = T.length) (hn2 : n2 = x.length)
    (hl : n ≤ 1000000) (hrl : ∀ i, i < T.length → (row T i).length ≤ 1000000) (hm : 0 ≤ m ∧ m ≤ 1000000) (hxl : x.length ≤ 1000000)
    (hR : ∀ h', HE h h' → R (.tuple #[i6 (ordPR m T x).1, i6 (ordPR m T x).2]) h') : CallW FF n_spec_OrderOfPointUnder [sv m A n c, .slice B n2 1] h R := by
  subst hn; subst hn2
  refine w_spec_OrderOfPointUnder ?_
  unfold p_spec_OrderOfPointUnder
  simp only [boxV_is, bindO_some]
  refine newB_i fun b h1 eb en eh eB => ?_
  simp only [box2 eB, bindO_some, rowV_slice]
  refine newB_i fun b2 h2 eb2 en2 eh2 eB2 => ?_
  have E2 := eh.trans eh2
  refine s_spec_l16Code (P := [x]) (hT.mono E2) (rt1 (hx.mono E2) (by omega) eB2) rfl rfl hl hrl (by simp) (fun i hi => by simp at hi; subst hi; exact hxl) hm fun h3 e3 => ?_
  have E3 := E2.trans e3
  simp only [bin_neq, bindO_some]
  by_cases hc : codeP m T [x] = 0
  case neg =>
    simp only [hc, decide_false, Bool.not_false, condM_true]
    have := hR _ E3
    unfold ordPR at this
    rw [if_pos hc] at this
    exact this
  obtain ⟨law, k1, k2, nx, m1, hTl, hr, lc⟩ := pt_facts hc
  obtain ⟨M, rfl⟩ := Int.eq_ofNat_of_zero_le hm.1
  have B3 := (eh2.trans e3).to eB (by omega)
  simp only [hc, decide_true, Bool.not_true, condM_false, fieldAddr_ptr, Nat.zero_add, box2 B3, bindO_some, len_slice]
  refine s_spec_l16Size (by omega) (by omega) (by omega) ?_
  simp only [bin_gtr, bindO_some]
  by_cases hs : 1000000000000 < sizeR M x.length 1000000000000
  · have g : (1000000000000 : Int) < (sizeR M x.length 1000000000000 : Nat) := by omega
    simp only [g, decide_true, condM_true]
    have := hR _ E3
    unfold ordPR at this
    rw [if_neg (not_not_intro hc), if_pos (by simpa using hs)] at this
    exact this
  have g : ¬ (1000000000000 : Int) < (sizeR M x.length 1000000000000 : Nat) := by omega
  have hsz : sizeR M x.length 1000000000000 = M ^ x.length ∧ M ^ x.length ≤ 1000000000000 := by
    unfold sizeR at hs ⊢
    split at hs
    · rename_i h4; rw [if_pos h4]; exact ⟨rfl, h4⟩
    · omega
  simp only [g, decide_false, condM_false, box2 B3, bindO_some, len_slice, inB_ptr]
  refine s_spec_l16Cut (k := x.length) (hT.mono E3) rfl k2 hl hr fun v h4 e4 f4 => ⟨e4.keep, by have := e3.nx; omega, ?_⟩
  obtain ⟨q, rb, rfl, o4⟩ := f4
  have E4 := E3.trans e4
  simp only [box2 (e4.to B3 (by have := e3.nx; omega)), bindO_some]
  refine s_spec_l16Primes (by omega) (by omega) fun v h5 L e5 pl hLl f5 => ?_
  obtain ⟨p, rfl, p1, p2, p3⟩ := f5
  refine newB_i fun b8 h6 eb6 en6 eh6 eB6 => ?_
  refine storeBox2 eB6 rfl rfl rfl rfl fun h8 u8 => ?_
  have n4 := e4.nx; have n5 := e5.nx; have n8 := u8.nx; have n3 := E3.nx
  have e58 : HE h5 h8 := u8.he eh6 (by omega)
  have E8 := (E4.trans e5).trans e58
  have o8 := (o4.mono e5).mono e58
  have B8 := u8.bk
  have p8 := e58.to p3 p2
  have rL : RI h8 (some ⟨p, 0, none⟩) (natI L) := RI.of_block (by omega) p8
  have hprL := prL_eq pl
  have q2 : ∀ i (hi : i < L.length), 2 ≤ L[i] := fun i hi => ((pl.2 L[i]).1 (List.getElem_mem hi)).1.1
  have fin := hR
  unfold ordPR at fin
  rw [if_neg (not_not_intro hc), if_neg (by simpa using hs)] at fin
  simp only [Int.toNat_natCast, hprL] at fin
  rw [hsz.1]
  have pos : 0 < M ^ x.length := Nat.pow_pos (by omega)
  have hsm := hsz.2
  have c4 : codeP (M : Int) T [x] = codeP (M : Int) T [x] := rfl
  refine LP1 (fun d vs h' => ∃ i o : Nat, d = L.length - i ∧ i ≤ L.length ∧ 0 < o ∧ o ≤ 1000000000000 ∧ ordF (KillP M T x) (L.drop i) o = ordF (KillP M T x) L (M ^ x.length) ∧ HE h8 h' ∧
      vs = [.slice B x.length 1, i6 (o : Int), .pointer (some ⟨b8, 0, none⟩), .slice (some ⟨p, 0, none⟩) (natI L).length 1, i6 (i : Int)]) ?_ _ _ _ ⟨0, M ^ x.length, rfl, by omega, pos, hsm, rfl, HE.refl _, rfl⟩
  rintro d vs h9 ⟨i, o, rfl, hi, ho, ho2, hord, e9, rfl⟩ K K1 hK hK1
  refine wl_spec_OrderOfPointUnder_1 ?_
  by_cases hlt : i < L.length
  · have g : (i : Int) < ((natI L).length : Int) := by simp; omega
    simp only [q_spec_OrderOfPointUnder_1, len_slice, bindO_some, bin_lss, g, decide_true, condM_true]
    have hq := q2 i hlt
    have hdrop : L.drop i = L[i] :: L.drop (i + 1) := List.drop_eq_getElem_cons hlt
    rw [hdrop] at hord
    have hord : ordF (KillP M T x) (L.drop (i + 1)) (red (KillP M T x) L[i] o) = ordF (KillP M T x) L (M ^ x.length) := hord
    refine LP1 (fun d vs h' => 0 < d ∧ d ≤ 1000000000000 ∧ red (KillP M T x) L[i] d = red (KillP M T x) L[i] o ∧ HE h8 h' ∧
      vs = [.slice B x.length 1, i6 (d : Int), .pointer (some ⟨b8, 0, none⟩), .slice (some ⟨p, 0, none⟩) (natI L).length 1, i6 (i : Int)]) ?_ o _ _ ⟨ho, ho2, rfl, e9, rfl⟩
    rintro d vs h10 ⟨d0, d1, hred, e10, rfl⟩ K' K1' hK' hK1'
    refine wl_spec_OrderOfPointUnder_0 ?_
    have leave : ∀ h11, HE h8 h11 → red (KillP M T x) L[i] d = d → K1' [.slice B x.length 1, i6 (d : Int), .pointer (some ⟨b8, 0, none⟩), .slice (some ⟨p, 0, none⟩) (natI L).length 1, i6 (i : Int)] h11 := by
      intro h11 e11 hd
      refine hK1' _ _ fun ev hev => ?_
      simp only [List.cons.injEq, and_true] at hev
      obtain ⟨g1, g7, g8, g9, g10⟩ := hev
      simp only [g1, g7, g8, g9, g10, bin_add, bindO_some, wrapI (n := (i : Int) + 1) (by omega) (by omega)]
      refine hK _ _ _ (by omega) ⟨i + 1, d, rfl, by omega, d0, d1, ?_, e11, rfl⟩
      rw [← hord, ← hred, hd]
    obtain ⟨z1, z2⟩ := (rL.mono e10).at 1 (e := i) (i := i) (n := (natI L).length) rfl rfl (by simpa using hlt)
    rw [gt_natI hlt] at z2
    simp only [q_spec_OrderOfPointUnder_0, z1, z2, bindO_some, remN hq, bin_eql]
    by_cases hd : d % L[i] = 0
    · have g : ((d % L[i] : Nat) : Int) = 0 := by omega
      have hdl : d / L[i] ≤ d := Nat.div_le_self _ _
      simp only [g, decide_true, condM_true, box2 (e10.to B8 (by omega)), quoN hq (show d ≤ 4000000000000 by omega), bindO_some]
      refine s_spec_l16Multiple (D := x.length) ((o8.mono e10).rt) (hx.mono (E8.trans e10)) (by simp) rfl lc.tri rfl nx k1 (by omega) (by omega) (by omega) (by generalize d / L[i] = z at hdl ⊢; omega) fun A5 h11 e11 r11 l11 => ?_
      have cN := lc.cmulN (cv_cons (m := (M : Int)) (D := x.length) (by omega) rfl nx) ((d / L[i] : Nat) : Int)
      refine s_spec_l16Zero r11 (by rw [List.length_tail, l11]; rfl) hxl ?_
      have kk := zero_tail cN
      obtain ⟨z1, z2⟩ := (rL.mono (e10.trans e11)).at 1 (e := i) (i := i) (n := (natI L).length) rfl rfl (by simpa using hlt)
      rw [gt_natI hlt] at z2
      by_cases hk : KillP M T x (d / L[i])
      · rw [decide_eq_true (kk.2 hk)]
        simp only [condM_true, z1, z2, bindO_some, quoN hq (show d ≤ 4000000000000 by omega)]
        exact hK' (d / L[i]) _ _ (Nat.div_lt_self d0 hq) ⟨div_pos_of d0 hd, by omega, by rw [← hred, red_yes hq d0 hd hk], e10.trans e11, rfl⟩
      · rw [decide_eq_false fun hh => hk (kk.1 hh)]
        simp only [condM_false]
        exact leave _ (e10.trans e11) (red_no fun hh => hk hh.2)
    · have g : ¬ ((d % L[i] : Nat) : Int) = 0 := by omega
      simp only [g, decide_false, condM_false]
      exact leave _ e10 (red_no fun hh => hd hh.1)
  · have g : ¬ (i : Int) < ((natI L).length : Int) := by simp; omega
    simp only [q_spec_OrderOfPointUnder_1, len_slice, bindO_some, bin_lss, g, decide_false, condM_false]
    refine hK1 _ _ fun ev hev => ?_
    simp only [List.cons.injEq, and_true] at hev
    rw [hev]
    rw [List.drop_eq_nil_of_le (by omega)] at hord
    have hord : o = ordF (KillP M T x) L (M ^ x.length) := hord
    rw [hord]
    exact fin _ (E8.trans e9)
end XM

/- The program's laws: axioms, IsLaw, curved. -/
namespace XM
open Go

set_option maxHeartbeats 400000 in
theorem s_impl_axioms {m : Int} {A : Option Addr} {Rr : Nat → Option Addr} {T : List (List Int)} {N n c : Nat} {h : Hp} {R : Value → Hp → Prop} (hT : RT h A Rr T) (hn : n = N) (hN : T.length = N)
    (hr : ∀ i, i < N → (row T i).length = N - i ∧ Nums m (row T i)) (hm : 2 ≤ m) (hm2 : m ≤ 1000000000) (hN1 : 1 ≤ N) (hN2 : N ≤ 1000)
    (hR : ∀ h' A' n' c', HE h h' → (A' = none ↔ NoF m N T) → R (.slice A' n' c') h') : CallW FF n_impl_axioms [sv m A n c] h R := by
  subst hn
  refine w_impl_axioms ?_
  simp [p_impl_axioms]
  refine newB_i fun b h1 eb en eh eB => ?_
  have bx := box2 eB
  simp [bx]
  have T1 := hT.mono eh
  refine LP2 (fun d vs h' => ∃ i : Nat, d = n - i ∧ i ≤ n ∧ h' = h1 ∧ vs = [.pointer (some ⟨b, 0, none⟩), i6 n, i6 i] ∧ ∀ j, j < i → NoF1 T j) ?_ _ _ _ ⟨0, rfl, by omega, rfl, rfl, by omega⟩
  rintro d vs h2 ⟨i, rfl, hi, rfl, rfl, hF⟩ K K1 K2 hK hK1 hK2
  refine wl_impl_axioms_0 ?_
  by_cases hlt : i < n
  case pos =>
    have r := T1.at c (e := i) rfl hN.symm (by omega)
    have hri := hr i hlt
    have t := T1.el 1 (e := 0) (i := i) (j := 0) (by omega) rfl rfl (by omega)
    simp [q_impl_axioms_0, hlt]
    refine ⟨fun vs h' => vs = [.pointer (some ⟨b, 0, none⟩), i6 i, i6 (if i = 1 then 1 else 0), i6 n, i6 i] ∧ h' = h2, ?_, ?_⟩
    · rintro vs h3 ⟨rfl, rfl⟩ e he
      simp at he
      simp [he, bx, r, t]
      by_cases hc : NoF1 T i
      · have hc' : gt (row T i) 0 = if i = 1 then 1 else 0 := hc
        simp [hc', wrapI (n := (i : Int) + 1) (by omega) (by omega)]
        exact hK _ _ _ (by omega) ⟨i + 1, rfl, by omega, rfl, rfl, fun j hj => by
          by_cases h : j = i
          · subst h; exact hc
          · exact hF j (by omega)⟩
      · have hc' : ¬ gt (row T i) 0 = if i = 1 then 1 else 0 := hc
        simp [hc', rowV, rowFill, reps]
        refine newB_i fun b9 h9 eb9 en9 eh9 eB9 => ?_
        refine hK2 _ _ fun e2 he2 => ?_
        simp at he2
        rw [he2]
        exact hR _ _ _ _ (eh.trans eh9) ⟨fun h => (by cases h), fun h => (hc (h.1 i (by omega))).elim⟩
    · by_cases h : (i : Int) = 1
      · have : i = 1 := by omega
        simp [this]
      · have : ¬ i = 1 := by omega
        simp [h, this]
  simp [q_impl_axioms_0, hlt]
  refine hK1 _ _ fun e he => ?_
  simp at he
  simp [he, bx]
  have hF : ∀ j, j < n → NoF1 T j := fun j hj => hF j (by omega)
  clear hK hK1 hK2 K K1 K2 hlt hi he
  refine LP2 (fun d vs h' => ∃ i : Nat, d = n - i ∧ i ≤ n ∧ h' = h2 ∧ vs = [.pointer (some ⟨b, 0, none⟩), .slice A n c, i6 n, i6 i] ∧ ∀ j k, j < i → j < k → j + k < n → gt2 T j k = gt2 T k j) ?_ _ _ _ ⟨0, rfl, by omega, rfl, rfl, by omega⟩
  rintro d vs h2 ⟨i, rfl, hi, rfl, rfl, hF2⟩ K K1 K2 hK hK1 hK2
  refine wl_impl_axioms_2 ?_
  by_cases hlt : i < n
  case pos =>
    have hri := hr i hlt
    have x1 := T1.at c (e := i) rfl hN.symm (by omega)
    simp [q_impl_axioms_2, hlt, x1, wrapI (n := (i : Int) + 1) (by omega) (by omega)]
    refine LP2 (fun d vs h' => ∃ j : Nat, d = n - j ∧ i < j ∧ h' = h2 ∧ vs = [.pointer (some ⟨b, 0, none⟩), i6 i, .slice (Rr i) (row T i).length 1, i6 j, .slice A n c, i6 n, i6 i] ∧ j ≤ n + 1 ∧ ∀ k, i < k → k < j → i + k < n → gt2 T i k = gt2 T k i) ?_ _ _ _ ⟨i + 1, rfl, by omega, rfl, by simp, by omega, by omega⟩
    rintro d vs h7 ⟨j, rfl, hj, rfl, rfl, hj2, hB⟩ K3 K4 K5 hK3 hK4 hK5
    refine wl_impl_axioms_1 ?_
    by_cases hlt2 : i + j < n
    case neg =>
      have hlt2' : ¬ j < (row T i).length := by omega
      simp [q_impl_axioms_1, hlt2']
      refine hK4 _ _ fun e he => ?_
      simp at he
      simp [he, wrapI (n := (i : Int) + 1) (by omega) (by omega)]
      refine hK _ _ _ (by omega) ⟨i + 1, rfl, by omega, rfl, rfl, fun a b h1 h2 h3 => ?_⟩
      by_cases h : a = i
      · subst h; exact hB b h2 (by omega) h3
      · exact hF2 a b (by omega) h2 h3
    have hlt2' : j < (row T i).length := by omega
    have x2 := T1.el 1 (e := j) (i := i) (n := (row T i).length) (by omega) rfl rfl (by omega)
    have y1 := T1.at c (e := j) rfl hN.symm (by omega)
    have y2 := T1.el 1 (e := i) (i := j) (n := (row T j).length) (by omega) rfl rfl (by rw [(hr j (by omega)).1]; omega)
    simp [q_impl_axioms_1, hlt2', bx, x2, y1, y2]
    by_cases hc : gt2 T i j = gt2 T j i
    · have hc' : gt (row T i) j = gt (row T j) i := hc
      simp [hc', wrapI (n := (j : Int) + 1) (by omega) (by omega)]
      refine hK3 _ _ _ (by omega) ⟨j + 1, rfl, by omega, rfl, rfl, by omega, fun k h1 h2 h3 => ?_⟩
      by_cases h : k = j
      · subst h; exact hc
      · exact hB k h1 (by omega) h3
    · have hc' : ¬ gt (row T i) j = gt (row T j) i := hc
      simp [hc', rowV, rowFill, reps]
      refine newB_i fun b9 h9 eb9 en9 eh9 eB9 => ?_
      refine hK5 _ _ fun e he => ?_
      simp at he
      refine hK2 _ _ fun e2 he2 => ?_
      simp at he2
      rw [he2, he]
      exact hR _ _ _ _ (eh.trans eh9) ⟨fun h => (by cases h), fun h => (hc (h.2.1 i j (by omega) (by omega))).elim⟩
  simp [q_impl_axioms_2, hlt]
  refine hK1 _ _ fun e he => ?_
  simp at he
  simp [he, bx]
  have hF2 : ∀ j k, j < k → j + k < n → gt2 T j k = gt2 T k j := fun j k h1 h2 => hF2 j k (by omega) h1 h2
  clear hK hK1 hK2 K K1 K2 hlt hi he
  refine s_impl_defectsOf (hT.mono eh) rfl hN hr hm (by omega) hN1 hN2 fun h4 bd bf bp P PA PR y1 y2 y3 e4 D4 => ?_
  simp [box2 (e4.to eB (by omega))]
  refine s_impl_Plane_degree (by omega) fun h5 e5 => ?_
  have E5 := (eh.trans e4).trans e5
  have D5 := D4.mono e5
  -- the sums
  refine LP2 (fun d vs h' => ∃ i : Nat, d = n - i ∧ i ≤ n ∧ h' = h5 ∧ vs = [.func (.func n_impl_defectsOf_c1) #[] #[.pointer (some ⟨bd, 0, none⟩), .pointer (some ⟨bf, 0, none⟩), .pointer (some ⟨bp, 0, none⟩)], i6 ((n : Int) - 1), i6 i] ∧ ∀ a b c, a < i → a + b + c < n → AssL m n T a b c = AssR m n T a b c) ?_ _ _ _ ⟨0, rfl, by omega, rfl, rfl, by omega⟩
  rintro d vs h6 ⟨i, rfl, hi, rfl, rfl, hA⟩ K K1 K2 hK hK1 hK2
  refine wl_impl_axioms_5 ?_
  by_cases hlt : i < n
  case neg =>
    have g : ¬ (i : Int) ≤ (n : Int) - 1 := by omega
    simp [q_impl_axioms_5, g]
    refine hK1 _ _ fun _ => ?_
    exact hR _ _ _ _ E5 ⟨fun _ => ⟨hF, hF2, fun a b c h => hA a b c (by omega) h⟩, fun _ => rfl⟩
  have g : (i : Int) ≤ (n : Int) - 1 := by omega
  simp [q_impl_axioms_5, g]
  refine LP2 (fun d vs h' => ∃ j : Nat, d = n - j ∧ i + j ≤ n ∧ h' = h6 ∧ vs = [.func (.func n_impl_defectsOf_c1) #[] #[.pointer (some ⟨bd, 0, none⟩), .pointer (some ⟨bf, 0, none⟩), .pointer (some ⟨bp, 0, none⟩)], i6 ((n : Int) - 1), i6 i, i6 j] ∧ ∀ b c, b < j → i + b + c < n → AssL m n T i b c = AssR m n T i b c) ?_ _ _ _ ⟨0, rfl, by omega, rfl, rfl, by omega⟩
  rintro d vs h7 ⟨j, rfl, hj, rfl, rfl, hB⟩ K3 K4 K5 hK3 hK4 hK5
  refine wl_impl_axioms_4 ?_
  have wij := wrapI (n := (i : Int) + j) (by omega) (by omega)
  by_cases hlt2 : i + j < n
  case neg =>
    have g2 : ¬ (i : Int) + j ≤ (n : Int) - 1 := by omega
    simp [q_impl_axioms_4, g2, wij]
    refine hK4 _ _ fun e he => ?_
    simp at he
    simp [he, wrapI (n := (i : Int) + 1) (by omega) (by omega)]
    refine hK _ _ _ (by omega) ⟨i + 1, rfl, by omega, rfl, rfl, fun a b c h1 h2 => ?_⟩
    by_cases h : a = i
    · subst h; exact hB b c (by omega) h2
    · exact hA a b c (by omega) h2
  have g2 : (i : Int) + j ≤ (n : Int) - 1 := by omega
  simp [q_impl_axioms_4, g2, wij]
  refine LP2 (fun d vs h' => ∃ l : Nat, d = n - l ∧ i + j + l ≤ n ∧ h' = h7 ∧ vs = [.func (.func n_impl_defectsOf_c1) #[] #[.pointer (some ⟨bd, 0, none⟩), .pointer (some ⟨bf, 0, none⟩), .pointer (some ⟨bp, 0, none⟩)], i6 ((n : Int) - 1), i6 i, i6 j, i6 l] ∧ ∀ c, c < l → i + j + c < n → AssL m n T i j c = AssR m n T i j c) ?_ _ _ _ ⟨0, rfl, by omega, rfl, rfl, by omega⟩
  rintro d vs h8 ⟨l, rfl, hl, rfl, rfl, hC⟩ K6 K7 K8 hK6 hK7 hK8
  refine wl_impl_axioms_3 ?_
  have wijl := wrapI (n := (i : Int) + j + l) (by omega) (by omega)
  by_cases hlt3 : i + j + l < n
  case neg =>
    have g3 : ¬ (i : Int) + j + l ≤ (n : Int) - 1 := by omega
    simp [q_impl_axioms_3, g3, wij, wijl]
    refine hK7 _ _ fun e he => ?_
    simp at he
    simp [he, wrapI (n := (j : Int) + 1) (by omega) (by omega)]
    refine hK3 _ _ _ (by omega) ⟨j + 1, rfl, by omega, rfl, rfl, fun b c h1 h2 => ?_⟩
    by_cases h : b = j
    · subst h; exact hC c (by omega) h2
    · exact hB b c (by omega) h2
  have g3 : (i : Int) + j + l ≤ (n : Int) - 1 := by omega
  simp [q_impl_axioms_3, g3, wij, wijl]
  refine s_impl_defects D5 hN hr hm hm2 hN1 hN2 hlt3 ?_
  have hiff := ass_iff hm hN (b := j) (c := l) (hr i hlt).1 hlt3
  by_cases hc : AssL m n T i j l = AssR m n T i j l
  · have hc' := hiff.1 hc
    simp [hc', wrapI (n := (l : Int) + 1) (by omega) (by omega)]
    refine hK6 _ _ _ (by omega) ⟨l + 1, rfl, by omega, rfl, rfl, fun c h1 h2 => ?_⟩
    by_cases h : c = l
    · subst h; exact hc
    · exact hC c (by omega) h2
  · have hc' : ¬ (dL m n T i j l (n - l) - dR m n T i j l (n - i)) % m = 0 := fun h => hc (hiff.2 h)
    simp only [bin_neq, bindO_some, hc', decide_false, Bool.not_false, condM_true, i6]
    simp [rowV, rowFill, reps]
    refine newB_i fun b9 h9 eb9 en9 eh9 eB9 => ?_
    refine hK8 _ _ fun e he => ?_
    simp at he
    refine hK5 _ _ fun e2 he2 => ?_
    simp at he2
    refine hK2 _ _ fun e3 he3 => ?_
    simp at he3
    rw [he3, he2, he]
    exact hR _ _ _ _ (E5.trans eh9) ⟨fun h => (by cases h), fun h => (hc (h.2.2 i j l (by omega))).elim⟩

open Classical in
theorem s_impl_IsLaw {m : Int} {A : Option Addr} {Rr : Nat → Option Addr} {T : List (List Int)} {n c : Nat} {h : Hp} {R : Value → Hp → Prop} (hT : RT h A Rr T) (hn : n = T.length) (hl : n ≤ 1000000) (hrl : ∀ i, i < T.length → (row T i).length ≤ 1000000)
    (hR : ∀ h', HE h h' → R (.bool (decide (LawT m T))) h') : CallW FF n_impl_IsLaw [sv m A n c] h R := by
  subst hn
  refine w_impl_IsLaw ?_
  simp [p_impl_IsLaw]
  refine newB_i fun b h1 eb en eh eB => ?_
  have bx := box2 eB
  simp [bx]
  refine s_impl_IsPlane (hT.mono eh) rfl hl hrl fun h2 e2 => ?_
  have bx := box2 (e2.to eB (by omega))
  by_cases hp : IsP m T
  · have hp2 := hp
    obtain ⟨q1, q2, q3⟩ := hp2
    simp [hp, bx]
    refine s_impl_axioms (hT.mono (eh.trans e2)) rfl rfl q3 (by omega) (by omega) (by omega) (by omega) fun h3 A' n' c' e3 hi => ?_
    have : (LawT m T) ↔ A' = none := ⟨fun h => hi.2 h.2, fun h => ⟨hp, hi.1 h⟩⟩
    have h4 := hR _ ((eh.trans e2).trans e3)
    cases A' with
    | none => simpa [this] using h4
    | some a => simpa [this] using h4
  · have : ¬ LawT m T := fun h => hp h.1
    have h4 := hR _ (eh.trans e2)
    simpa [hp, this] using h4

/-! tests of lists of series -/
end XM

/- The program's laws: curved, inverse, opposite. -/
namespace XM
open Go

theorem codeC_1 {m : Int} {T : List (List Int)} {L : List (Int × List Int)} (h : ¬ (LawT m T ∧ ∀ e ∈ L, IsS e.1 e.2)) : codeC m T L = 1 := by
  unfold codeC
  split
  · rfl
  · rename_i h1
    rw [if_pos (fun h2 => h ⟨Classical.not_not.1 h1, h2⟩)]
theorem codeC_2 {m : Int} {T : List (List Int)} {L : List (Int × List Int)} (h1 : LawT m T) (h2 : ∀ e ∈ L, IsS e.1 e.2) (h3 : ¬ ∀ e ∈ L, IsC e.1 e.2 ∧ e.1 = m ∧ e.2.length = T.length) : codeC m T L = 2 := by
  unfold codeC
  rw [if_neg (not_not_intro h1), if_neg (not_not_intro h2), if_pos h3]
theorem codeC_0 {m : Int} {T : List (List Int)} {L : List (Int × List Int)} (h1 : LawT m T) (h3 : ∀ e ∈ L, IsC e.1 e.2 ∧ e.1 = m ∧ e.2.length = T.length) : codeC m T L = 0 := by
  unfold codeC
  rw [if_neg (not_not_intro h1), if_neg (not_not_intro fun e he => (h3 e he).1.1), if_neg (not_not_intro h3)]

theorem s_impl_Plane_inverse {m : Int} {A : Option Addr} {Ra : Nat → Option Addr} {T : List (List Int)} {D n c : Nat} {h : Hp} {R : Value → Hp → Prop} (hT : RT h A Ra T) (hn : n = D + 1) (t : Tri m D T) (hm : 2 ≤ m) (hm2 : m ≤ 3000000000) (hD : D ≤ 100000) (hD1 : 1 ≤ D)
    (hR : ∀ v h', HE h h' → FS h h' v m (invL m D T) → R v h') : CallW FF n_impl_Plane_inverse [sv m A n c] h R := by
  subst hn
  refine w_impl_Plane_inverse ?_
  simp [p_impl_Plane_inverse]
  refine newB_i fun b h1 eb en eh eB => ?_
  refine newB_i fun b2 h2 eb2 en2 eh2 eB2 => ?_
  have E2 := eh.trans eh2
  simp [box2 (eh2.to eB (by omega)), show b < h2.nx by omega]
  refine s_impl_Plane_degree (by omega) fun h3 e3 => ⟨e3.keep, ?_⟩
  refine s_impl_variable (D := D) (by omega) (by omega) hD1 fun v h4 e4 f4 => ?_
  obtain ⟨o, rfl, f4, f5, f6⟩ := f4
  simp
  refine newB_i fun b5 h5 eb5 en5 eh5 eB5 => ?_
  refine storeBox2 eB5 rfl rfl rfl rfl fun h6 u6 => ?_
  have n3 := e3.nx; have n4 := e4.nx; have n6 := u6.nx
  have C26 := (e3.trans e4).trans eh5
  have B1 := u6.to ((eh2.trans C26).to eB (by omega)) (by omega)
  have B2 := u6.to (C26.to eB2 (by omega)) (by omega)
  have E6 : HE h h6 := u6.he (E2.trans C26) (by omega)
  have O6 := u6.to (eh5.to f6 (by omega)) (by omega)
  simp [box2 B1, show b < h6.nx by omega]
  refine s_impl_Plane_degree (by omega) fun h7 e7 => ⟨e7.keep, ?_⟩
  refine s_impl_zero (D := D) (by omega) (by omega) fun v h8 e8 f8 => ?_
  obtain ⟨p, rfl, g4, g5, g6⟩ := f8
  simp
  refine newB_i fun b9 h9 eb9 en9 eh9 eB9 => ?_
  refine storeBox2 eB9 rfl rfl rfl rfl fun h10 u10 => ?_
  have n7 := e7.nx; have n8 := e8.nx; have n10 := u10.nx
  have C610 := (e7.trans e8).trans eh9
  have B1 := u10.to (C610.to B1 (by omega)) (by omega)
  have B2 := u10.to (C610.to B2 (by omega)) (by omega)
  have B5 := u10.to (C610.to u6.bk (by omega)) (by omega)
  have O10 := u10.to (C610.to O6 (by omega)) (by omega)
  have P10 := u10.to (eh9.to g6 (by omega)) (by omega)
  have E10 : HE h h10 := u10.he (E6.trans C610) (by omega)
  have hm0 : 0 < m := by omega
  have w2 : ∀ k : Nat, k ≤ D → IntKind.i64.wrap ((k : Int) + 1) = k + 1 := fun k hk => wrapI (by omega) (by omega)
  refine LP1 (fun d vs h' => ∃ k : Nat, d = D - k ∧ k ≤ D ∧ vs = [.pointer (some ⟨b, 0, none⟩), .pointer (some ⟨b2, 0, none⟩), .pointer (some ⟨b5, 0, none⟩), .pointer (some ⟨b9, 0, none⟩), i6 ((k : Int) + 1)] ∧ HX p h10 h' ∧ h'.bk p = some ⟨mapI (invS m D T k), y_t_int64, true⟩) ?_ _ _ _
    ⟨0, rfl, by omega, by simp, HX.refl _ _, P10⟩
  rintro d vs h11 ⟨k, rfl, hk, rfl, X11, hp⟩ K K1 hK hK1
  refine wl_impl_Plane_inverse_0 ?_
  have n11 := X11.nx
  have HE11 := X11.out E10 (by omega)
  have C1 := X11.to B1 (by omega) (by omega)
  have C5 := X11.to B5 (by omega) (by omega)
  have C9 := X11.to u10.bk (by omega) (by omega)
  simp [q_impl_Plane_inverse_0, box2 C1]
  refine s_impl_Plane_degree (by omega) fun h12 e12 => ?_
  have n12 := e12.nx
  have hp12 := e12.to hp (by omega)
  have C2' := X11.to B2 (by omega) (by omega)
  have X12 := X11.he e12
  have HE12 := HE11.trans e12
  by_cases hlt : k < D
  case neg =>
    have : k = D := by omega
    subst this
    have g : ¬ ((k : Int) + 1 ≤ ((k + 1 : Nat) : Int) - 1) := by omega
    simp only [bin_leq, bindO_some, g, decide_false, condM_false]
    refine hK1 _ _ fun e he => ?_
    simp at he
    simp [he, box2 (e12.to C9 (by omega))]
    refine storeBox2 (e12.to C2' (by omega)) rfl rfl rfl rfl fun h13 u13 => ?_
    simp [box2 u13.bk]
    refine hR _ _ (u13.he HE12 (by omega)) ⟨p, by simp, by omega, by rw [u13.nx]; omega, ?_⟩
    rw [u13.ot _ (by omega), hp12, invL]
  have g : ((k : Int) + 1 ≤ ((D + 1 : Nat) : Int) - 1) := by omega
  simp only [bin_leq, bindO_some, g, decide_true, condM_true]
  have C9b := e12.to C9 (by omega)
  have O12 := X12.to O10 (by omega) (by omega)
  simp [box2 C9b, box2 (e12.to C1 (by omega)), box2 (e12.to C5 (by omega)), show b9 < h12.nx by omega, show b < h12.nx by omega]
  refine s_impl_Plane_curves (D := D) (hT.mono HE12) (RI.of_block (by omega) O12) (RI.of_block (by omega) hp12) rfl rfl rfl t.len (varL_len D) (invS_len m D T k) (fun i hi => by have := (t.rows i hi).1; omega) (fun i hi => (t.rows i hi).2) hm hm2 (nums_varL hm D) (nums_invS hm0 D T k) hD rfl rfl fun v h13 e13 f13 => ⟨e13.keep, ?_⟩
  obtain ⟨q, rfl, q1, q2, q3⟩ := f13
  have n13 := e13.nx
  have r := (RI.of_block q2 q3).at 1 (e := (k : Int) + 1) (i := k + 1) (n := D + 1) (by omega) (by simp) (by simp; omega)
  have hnum := (nums_putL hm0 D T (varL D) (invS m D T k)).gt (show k + 1 < _ by simp; omega)
  have wn : IntKind.i64.wrap (0 - gt (putL m D T (varL D) (invS m D T k)) (k + 1)) = - gt (putL m D T (varL D) (invS m D T k)) (k + 1) := by rw [wrapI (by omega) (by omega)]; omega
  have q5 : indexAddrV 1 (.slice (some ⟨p, 0, none⟩) (D + 1) 1) (.int .i64 ((k : Int) + 1)) = some (.pointer (some ⟨p, k + 1, none⟩)) := ixOwn (i := k + 1) (by omega) (by omega)
  have fv : ∀ (A : Option Addr) (n c : Nat), fieldV 1 1 false (sv m A n c) = some (.slice A n c) := fun A n c => by simp [fieldV, partV]
  simp only [putL_len, fv, bindO_some, r, un_neg, wn, fieldAddr_ptr, Nat.zero_add, Nat.add_zero, inB_ptr, box2 ((e12.trans e13).to C1 (by omega))]
  refine s_impl_mod hm0 (by omega) ⟨keepB_refl _ _, ?_⟩
  simp only [q5, bindO_some]
  refine storeI (i := k + 1) (e13.to hp12 (by omega)) (by simp; omega) fun h14 u14 => ?_
  simp [show IntKind.i64.wrap ((k : Int) + 1 + 1) = ((k + 1 : Nat) : Int) + 1 by rw [wrapI] <;> omega]
  exact hK _ _ _ (by omega) ⟨k + 1, rfl, by omega, by simp, (X12.he e13).upd u14, by rw [u14.bk]; rfl⟩

theorem s_impl_Plane_opposite {m m1 : Int} {A B : Option Addr} {Ra : Nat → Option Addr} {T : List (List Int)} {a : List Int} {D n n2 c : Nat} {h : Hp} {R : Value → Hp → Prop} (hT : RT h A Ra T) (ha : RI h B a) (hn : n = D + 1) (hn2 : n2 = D + 1) (t : Tri m D T) (hm : 2 ≤ m) (hm2 : m ≤ 3000000000)
    (hD : D ≤ 90000) (hD1 : 1 ≤ D) (hal : a.length = D + 1) (hx : Nums m a)
    (hR : ∀ v h', HE h h' → FS h h' v m (oppL m D T a) → R v h') : CallW FF n_impl_Plane_opposite [sv m A n c, sv m1 B n2 1] h R := by
  subst hn; subst hn2
  refine w_impl_Plane_opposite ?_
  simp [p_impl_Plane_opposite]
  refine newB_i fun b h1 eb en eh eB => ?_
  refine newB_i fun b2 h2 eb2 en2 eh2 eB2 => ?_
  refine newB_i fun b3 h3 eb3 en3 eh3 eB3 => ?_
  have E3 := (eh.trans eh2).trans eh3
  simp [box2 ((eh2.trans eh3).to eB (by omega))]
  refine s_impl_Plane_inverse (hT.mono E3) rfl t hm hm2 (by omega) hD1 fun v h4 e4 f4 => ⟨e4.keep, by omega, ?_⟩
  obtain ⟨q, rfl, q1, q2, q3⟩ := f4
  have n4 := e4.nx
  simp [box2 ((eh3.trans e4).to eB2 (by omega))]
  refine s_impl_Series_compose (D := D) (RI.of_block q2 q3) (ha.mono (E3.trans e4)) rfl rfl hm hm2 (nums_invS (by omega) D T D) hx (by omega) (by simp) hal fun v h5 e5 f5 => ?_
  obtain ⟨w, rfl, w1, w2, w3⟩ := f5
  have n5 := e5.nx
  simp
  refine storeBox2 ((e4.trans e5).to eB3 (by omega)) rfl rfl rfl rfl fun h6 u6 => ?_
  simp [box2 u6.bk]
  refine hR _ _ (u6.he ((E3.trans e4).trans e5) (by omega)) ⟨w, by simp [oppL], by omega, by rw [u6.nx]; omega, ?_⟩
  rw [u6.ot _ (by omega), w3]; rfl
end XM

/- The program's laws: multiples and the functions of the package. -/
namespace XM
open Go

theorem s_impl_Plane_multiple_pos {m m1 : Int} {A B : Option Addr} {Ra : Nat → Option Addr} {T : List (List Int)} {a : List Int} {D n n2 c N : Nat} {h : Hp} {R : Value → Hp → Prop} (hT : RT h A Ra T) (ha : RI h B a) (hn : n = D + 1) (hn2 : n2 = D + 1) (t : Tri m D T) (hm : 2 ≤ m) (hm2 : m ≤ 3000000000)
    (hD : D ≤ 90000) (hal : a.length = D + 1) (hx : Nums m a) (hN : N ≤ 4000000000000) (e1 : m1 = m)
    (hR : ∀ v h', HE h h' → FS h h' v m (binL m D T N a (List.replicate (D + 1) 0)) → R v h') : CallW FF n_impl_Plane_multiple [sv m A n c, i6 N, sv m1 B n2 1] h R := by
  subst hn; subst hn2; subst e1
  refine w_impl_Plane_multiple ?_
  have g0 : ¬ (N : Int) < 0 := by omega
  simp [p_impl_Plane_multiple]
  refine newB_i fun b h1 eb en eh eB => ?_
  refine newB_i fun b2 h2 eb2 en2 eh2 eB2 => ?_
  refine newB_i fun b3 h3 eb3 en3 eh3 eB3 => ?_
  have E3 := (eh.trans eh2).trans eh3
  simp [g0, box2 ((eh2.trans eh3).to eB (by omega)), show b < h3.nx by omega]
  refine s_impl_Plane_degree (by omega) fun h4 e4 => ⟨e4.keep, ?_⟩
  refine s_impl_zero (D := D) (by omega) (by omega) fun v h5 e5 f5 => ?_
  obtain ⟨o, rfl, f5, f6, f7⟩ := f5
  simp
  refine newB_i fun b6 h6 eb6 en6 eh6 eB6 => ?_
  refine storeBox2 eB6 rfl rfl rfl rfl fun h7 u7 => ?_
  have n4 := e4.nx; have n5 := e5.nx; have n7 := u7.nx
  have C36 := (e4.trans e5).trans eh6
  have B1 := u7.to (((eh2.trans eh3).trans C36).to eB (by omega)) (by omega)
  have B2 := u7.to ((eh3.trans C36).to eB2 (by omega)) (by omega)
  have B3 := u7.to (C36.to eB3 (by omega)) (by omega)
  have O7 := u7.to (eh6.to f7 (by omega)) (by omega)
  have E7 : HE h h7 := u7.he (E3.trans C36) (by omega)
  have rT : ∀ i, i < T.length → (row T i).length ≤ D + 1 := fun i hi => by have := (t.rows i hi).1; omega
  refine LP1 (fun d vs h' => ∃ (k o : Nat) (A' : Option Addr) (y1 y2 : TypeId) (a' out : List Int), k = d ∧ k ≤ N ∧ vs = [i6 k, .pointer (some ⟨b, 0, none⟩), .pointer (some ⟨b2, 0, none⟩), .pointer (some ⟨b3, 0, none⟩), .pointer (some ⟨b6, 0, none⟩)] ∧ HE h h' ∧ h7.nx ≤ h'.nx ∧
     h'.bk b = some ⟨[i6 m1, .slice A (D + 1) c], y_t_impl_Plane, true⟩ ∧ h'.bk b2 = some ⟨[i6 m1, .slice A' (D + 1) 1], y1, true⟩ ∧ h'.bk b3 = h7.bk b3 ∧ h'.bk b6 = some ⟨[i6 m1, .slice (some ⟨o, 0, none⟩) (D + 1) 1], y2, true⟩ ∧
     RI (msk h' fun x => x = b2 ∨ x = b6 ∨ x = b3) A' a' ∧ a'.length = D + 1 ∧ Nums m1 a' ∧
     h.nx ≤ o ∧ o < h'.nx ∧ o ≠ b2 ∧ o ≠ b6 ∧ o ≠ b3 ∧ h'.bk o = some ⟨mapI out, y_t_int64, true⟩ ∧ out.length = D + 1 ∧ Nums m1 out ∧ binL m1 D T k a' out = binL m1 D T N a (List.replicate (D + 1) 0)) ?_ _ _ _
    ⟨N, o, B, _, _, a, List.replicate (D + 1) 0, rfl, by omega, rfl, E7, by omega, B1, B2, rfl, u7.bk, ?_, hal, hx, by omega, by omega, by omega, by omega, by omega, O7, by simp, nums_rep (by omega) _, rfl⟩
  case refine_2 => exact ha.mos ⟨E7.nx, fun q x hq hx => by rw [msk_bk (by omega)]; exact E7.to hx hq⟩
  rintro d vs h8 ⟨k, p, A', y1, y2, a', out, rfl, hk, rfl, HE8, n8, hb1, hb2, hb3, hb6, hA, hl, hn, hp1, hp2, hp3, hp4, hp5, hp6, hol, hon, hb⟩ K K1 hK hK1
  refine wl_impl_Plane_multiple_0 ?_
  by_cases hk0 : k = 0
  · subst hk0
    simp [q_impl_Plane_multiple_0]
    refine hK1 _ _ fun e he => ?_
    simp at he
    simp [he, box2 hb6]
    rw [binL, if_pos rfl] at hb
    refine storeBox2 (hb3.trans B3) rfl rfl rfl rfl fun h9 u9 => ?_
    simp [box2 u9.bk]
    exact hR _ _ (u9.he HE8 (by omega)) ⟨p, by simp [← hb, hol], hp1, by rw [u9.nx]; omega, by rw [u9.ot _ hp5, hp6, hb]⟩
  have hpos' : 0 < k := by omega
  have d1 : (k : Int).tmod 2 = ((k % 2 : Nat) : Int) := by rw [Int.tmod_eq_emod_of_nonneg (by omega)]; omega
  have d2 : (k : Int).tdiv 2 = (k : Int) / 2 := Int.tdiv_eq_ediv_of_nonneg (by omega)
  have d3 : IntKind.i64.wrap ((k : Int) / 2) = (k : Int) / 2 := wrapI (by omega) (by omega)
  rw [binL, if_neg hk0] at hb
  simp [q_impl_Plane_multiple_0, hpos']
  refine ⟨fun vs h' => ∃ (o : Nat) (out' : List Int) (y1 y2 : TypeId), vs = [i6 k, .pointer (some ⟨b, 0, none⟩), .pointer (some ⟨b2, 0, none⟩), .pointer (some ⟨b3, 0, none⟩), .pointer (some ⟨b6, 0, none⟩)] ∧ HE h h' ∧ h7.nx ≤ h'.nx ∧
     h'.bk b = some ⟨[i6 m1, .slice A (D + 1) c], y_t_impl_Plane, true⟩ ∧ h'.bk b2 = some ⟨[i6 m1, .slice A' (D + 1) 1], y1, true⟩ ∧ h'.bk b3 = h7.bk b3 ∧ h'.bk b6 = some ⟨[i6 m1, .slice (some ⟨o, 0, none⟩) (D + 1) 1], y2, true⟩ ∧
     RI (msk h' fun x => x = b2 ∨ x = b6 ∨ x = b3) A' a' ∧
     h.nx ≤ o ∧ o < h'.nx ∧ o ≠ b2 ∧ o ≠ b6 ∧ o ≠ b3 ∧ h'.bk o = some ⟨mapI out', y_t_int64, true⟩ ∧ out' = (if k % 2 = 1 then putL m1 D T out a' else out), ?_, ?_⟩
  · rintro vs h9 ⟨q, out', y1, y2, rfl, HE9, n9, hb1, hb2, hb3, hb6, hA, hp1, hp2, hp3, hp4, hp5, hp6, hout⟩ e he
    simp at he
    have hA9 := hA.mos (msk_hs _)
    simp [he, box2 hb1, box2 hb2]
    refine s_impl_Plane_curves (hT.mono HE9) hA9 hA9 rfl rfl rfl t.len hl hl rT (fun i hi => (t.rows i hi).2) hm hm2 hn hn (by omega) rfl rfl fun w h10 e10 f10 => ?_
    obtain ⟨w, rfl, w1, w2, w3⟩ := f10
    have n10 := e10.nx
    simp [d2, d3]
    refine storeBox2 (e10.to hb2 (by omega)) rfl rfl rfl rfl fun h11 u11 => ?_
    have n11 := u11.nx
    refine hK (k / 2) _ _ (by omega) ⟨k / 2, q, some ⟨w, 0, none⟩, y1, y2, putL m1 D T a' a', out', rfl, by omega, by simp, u11.he (HE9.trans e10) (by omega), by omega, u11.to (e10.to hb1 (by omega)) (by omega), by simpa using u11.bk, ?_, u11.to (e10.to hb6 (by omega)) (by omega), ?_, by simp, nums_putL (by omega) _ _ _ _, hp1, by omega, hp3, hp4, hp5, u11.to (e10.to hp6 (by omega)) (by omega), ?_, ?_, ?_⟩
    · rw [u11.ot _ (by omega), e10.bk _ (by omega)]; exact hb3
    · exact RI.of_block (by simp; omega) ((msk_bk (by omega)).trans (u11.to w3 (by omega)))
    · rw [hout]; split <;> simp [hol]
    · rw [hout]; split
      · exact nums_putL (by omega) _ _ _ _
      · exact hon
    · rw [hout]; exact hb
  · by_cases h2 : k % 2 = 1
    · have d1' : (k : Int).tmod 2 = 1 := by rw [d1, h2]; rfl
      have hA8 := hA.mos (msk_hs _)
      simp [d1', box2 hb1, box2 hb2, box2 hb6]
      refine s_impl_Plane_curves (hT.mono HE8) (RI.of_block hp2 hp6) hA8 rfl rfl rfl t.len hol hl rT (fun i hi => (t.rows i hi).2) hm hm2 hon hn (by omega) rfl rfl fun w h10 e10 f10 => ?_
      obtain ⟨w, rfl, w1, w2, w3⟩ := f10
      have n10 := e10.nx
      simp
      refine storeBox2 (e10.to hb6 (by omega)) rfl rfl rfl rfl fun h11 u11 => ?_
      have n11 := u11.nx
      have hb1' := u11.to (e10.to hb1 (by omega)) (by omega)
      have hb2' := u11.to (e10.to hb2 (by omega)) (by omega)
      have hp6' := u11.to w3 (by omega)
      refine ⟨u11.he (HE8.trans e10) (by omega), by omega, hb1', ⟨_, hb2'⟩, ?_, w, ⟨_, by simpa using u11.bk⟩, ?_, by omega, by omega, by omega, by omega, by omega, by rw [if_pos h2]; exact hp6'⟩
      · rw [u11.ot _ (by omega), e10.bk _ (by omega)]; exact hb3
      · exact hA.mos (msk_to (by omega) fun x hx hP => ⟨by rw [u11.ot _ (by omega), e10.bk _ hx], hP⟩)
    · have d1' : (k : Int).tmod 2 = 0 := by rw [d1, show k % 2 = 0 by omega]; rfl
      simp [d1']
      exact ⟨HE8, n8, hb1, ⟨_, hb2⟩, hb3, p, ⟨_, hb6⟩, hA, hp1, hp2, hp3, hp4, hp5, by rw [if_neg h2]; exact hp6⟩

theorem s_impl_Plane_multiple {m m1 : Int} {A B : Option Addr} {Ra : Nat → Option Addr} {T : List (List Int)} {a : List Int} {D n n2 c : Nat} {N : Int} {h : Hp} {R : Value → Hp → Prop} (hT : RT h A Ra T) (ha : RI h B a) (hn : n = D + 1) (hn2 : n2 = D + 1) (t : Tri m D T) (hm : 2 ≤ m) (hm2 : m ≤ 3000000000)
    (hD : D ≤ 90000) (hD1 : 1 ≤ D) (hal : a.length = D + 1) (hx : Nums m a) (hN : -4000000000000 ≤ N) (hN2 : N ≤ 4000000000000) (e1 : m1 = m)
    (hR : ∀ v h', HE h h' → FS h h' v m (mulN m D T N a) → R v h') : CallW FF n_impl_Plane_multiple [sv m A n c, i6 N, sv m1 B n2 1] h R := by
  by_cases h0 : N < 0
  case neg =>
    obtain ⟨k, rfl⟩ := Int.eq_ofNat_of_zero_le (show 0 ≤ N by omega)
    refine s_impl_Plane_multiple_pos hT ha hn hn2 t hm hm2 hD hal hx (by omega) e1 fun v h' e f => hR v h' e ?_
    rw [mulN, if_neg h0]; simpa using f
  subst hn; subst hn2; subst e1
  refine w_impl_Plane_multiple ?_
  have w1 : IntKind.i64.wrap (-N) = (((-N).toNat : Nat) : Int) := by rw [wrapI (by omega) (by omega)]; omega
  simp [p_impl_Plane_multiple]
  refine newB_i fun b h1 eb en eh eB => ?_
  refine newB_i fun b2 h2 eb2 en2 eh2 eB2 => ?_
  refine newB_i fun b3 h3 eb3 en3 eh3 eB3 => ?_
  have E3 := (eh.trans eh2).trans eh3
  simp only [bin_lss, h0, decide_true, condM_true, bindO_some, box2 ((eh2.trans eh3).to eB (by omega)), box2 (eh3.to eB2 (by omega)), un_neg, w1, inB_ptr]
  refine ⟨by omega, ?_⟩
  refine s_impl_Plane_multiple_pos (N := (-N).toNat) (hT.mono E3) (ha.mono E3) rfl rfl t hm hm2 hD hal hx (by omega) rfl fun v h4 e4 f4 => ⟨e4.keep, ?_⟩
  obtain ⟨q, rfl, q1, q2, q3⟩ := f4
  have n4 := e4.nx
  have hbl : (binL m1 D T (-N).toNat a (List.replicate (D + 1) 0)).length = D + 1 := binL_len (by simp)
  refine s_impl_Plane_opposite (D := D) (hT.mono (E3.trans e4)) (RI.of_block q2 q3) rfl hbl t hm hm2 hD hD1 hbl (nums_binL (by omega) (nums_rep (by omega) _)) fun v h5 e5 f5 => ?_
  obtain ⟨w, rfl, r1, r2, r3⟩ := f5
  have n5 := e5.nx
  refine storeBox2 ((e4.trans e5).to eB3 (by omega)) rfl rfl rfl rfl fun h6 u6 => ?_
  simp [box2 u6.bk]
  refine hR _ _ (u6.he ((E3.trans e4).trans e5) (by omega)) ⟨w, by simp [mulN, h0], by omega, by rw [u6.nx]; omega, ?_⟩
  rw [u6.ot _ (by omega), r3, mulN, if_pos h0]

/-- A series as an answer, whose list can be sliced. -/
def SerQ (h : Hp) (v : Value) (m : Int) (xs : List Int) : Prop := ∃ A c, v = sv m A xs.length c ∧ RI h A xs ∧ (0 < xs.length → c = 1)
theorem SerQ.r {h : Hp} {v : Value} {m : Int} {xs : List Int} (s : SerQ h v m xs) : SerR h v m xs := by
  obtain ⟨A, c, h1, h2, _⟩ := s; exact ⟨A, c, h1, h2⟩
theorem SerQ.mono {h h' : Hp} {v : Value} {m : Int} {xs : List Int} (s : SerQ h v m xs) (e : HE h h') : SerQ h' v m xs := by
  obtain ⟨A, c, h1, h2, h3⟩ := s; exact ⟨A, c, h1, h2.mono e, h3⟩
theorem SerQ.zero (h : Hp) : SerQ h (.agg #[i6 0, .slice none 0 0]) 0 [] := ⟨none, 0, rfl, RI.nil _ _, fun h => by simp at h⟩
theorem FS.q {h h' : Hp} {v : Value} {m : Int} {xs : List Int} (f : FS h h' v m xs) : SerQ h' v m xs := by
  obtain ⟨b, h1, h2, h3, h4⟩ := f; exact ⟨_, 1, h1, RI.of_block h3 h4, fun _ => rfl⟩
theorem FS.upd {h h1 h2 : Hp} {v : Value} {m : Int} {xs : List Int} {o : Nat} {x : Option Blk} (f : FS h h1 v m xs) (u : Upd o x h1 h2) (ho : o < h.nx) : FS h h2 v m xs := by
  obtain ⟨b, q1, q2, q3, q4⟩ := f; exact ⟨b, q1, q2, by rw [u.nx]; exact q3, by rw [u.ot _ (by omega)]; exact q4⟩
theorem FS.one {h h1 : Hp} {v : Value} {m : Int} {xs : List Int} (f : FS h h1 v m xs) : ∃ A, v = sv m A xs.length 1 := by
  obtain ⟨b, q1, _⟩ := f; exact ⟨_, q1⟩

/-- The opposite of a curve, as the programs answer. -/
noncomputable def oppR (m : Int) (T : List (List Int)) (m' : Int) (xs : List Int) : (Int × List Int) × Int :=
  if codeC m T [(m', xs)] ≠ 0 then ((0, []), codeC m T [(m', xs)]) else ((m, oppL m (T.length - 1) T xs), 0)
/-- The sum of two curves, as the programs answer. -/
noncomputable def sumR (m : Int) (T : List (List Int)) (m' : Int) (xs : List Int) (m2 : Int) (ys : List Int) : (Int × List Int) × Int :=
  if codeC m T [(m', xs), (m2, ys)] ≠ 0 then ((0, []), codeC m T [(m', xs), (m2, ys)]) else ((m, putL m (T.length - 1) T xs ys), 0)

end XM
