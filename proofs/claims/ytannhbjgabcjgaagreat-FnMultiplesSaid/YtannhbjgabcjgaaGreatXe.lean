/- What is proved at the end: for every input FnMultiples returns true and its argument reads as it did; without condition. Part 5 of 7. -/
import Derived.Test.YtannhbjgabcjgaaGreatXd

/- Lists of coefficients: the reference's functions. -/
namespace XM
open Go

theorem s_spec_l02Times {m : Int} {A B : Option Addr} {xs ys : List Int} {ca cb D na nb : Nat} {h : Hp} {R : Value → Hp → Prop} (ha : RI h A xs) (hb : RI h B ys) (hna : na = xs.length) (hnb : nb = ys.length) (hm : 0 < m) (hm2 : m ≤ 3000000000)
    (hx : Nums m xs) (hy : Nums m ys) (hlx : xs.length ≤ 1000000) (hly : ys.length ≤ 1000000) (hD : D ≤ 1000000)
    (hR : ∀ v h', HE h h' → FI y_t_int64 h h' v (mulL m (D + 1) xs ys) → R v h') : CallW FF n_spec_l02Times [i6 m, .slice A na ca, .slice B nb cb, i6 D] h R := by
  subst hna; subst hnb
  refine w_spec_l02Times ?_
  have w1 : IntKind.i64.wrap ((D : Int) + 1) = D + 1 := wrapI (by omega) (by omega)
  have m0 : ¬ m = 0 := by omega
  have mk : makN (.int .i64 ((D : Int) + 1)) = some (D + 1) := makN_nat (by omega) (by unfold sizeMax; omega)
  simp [p_spec_l02Times, w1, mk, mapI_rep]
  refine newB_i fun b h1 eb en eh eB => ?_
  -- the outer loop
  refine LP1 (fun d vs h' => ∃ (i : Nat) (zs : List Int), d = D + 1 - i ∧ i ≤ xs.length ∧ i ≤ D + 1 ∧ vs = [i6 m, .slice A xs.length ca, .slice B ys.length cb, i6 D, .slice (some ⟨b, 0, none⟩) (D + 1) 1, i6 i] ∧
     zs.length = D + 1 ∧ h'.bk b = some ⟨mapI zs, y_t_int64, true⟩ ∧ HE h h' ∧ b < h'.nx ∧ ∀ n, n ≤ D → gt zs n = ps xs ys i n % m)
    ?_ _ _ _ ⟨0, List.replicate (D + 1) 0, rfl, by omega, by omega, rfl, by simp, eB, eh, by omega, fun n hn => by rw [rep_tab, gt_tab (by omega), ps_zero]; simp⟩
  rintro d vs h2 ⟨i, zs, rfl, hi, hiD, rfl, hz, hbk, hE, hnx, hzs⟩ K K1 hK hK1
  refine wl_spec_l02Times_1 ?_
  by_cases hlt : i < xs.length ∧ i ≤ D
  · obtain ⟨hlt, hle⟩ := hlt
    simp [q_spec_l02Times_1, hlt, hle]
    -- the inner loop
    refine LP1 (fun d vs h' => ∃ (k : Nat) (zs : List Int), d = D + 1 - i - k ∧ k ≤ ys.length ∧ k ≤ D + 1 - i ∧ vs = [i6 m, .slice A xs.length ca, .slice B ys.length cb, i6 D, .slice (some ⟨b, 0, none⟩) (D + 1) 1, i6 i, i6 k] ∧
       zs.length = D + 1 ∧ h'.bk b = some ⟨mapI zs, y_t_int64, true⟩ ∧ HE h h' ∧ b < h'.nx ∧
       ∀ n, n ≤ D → gt zs n = (ps xs ys i n + if i ≤ n ∧ n < i + k then gt xs i * gt ys (n - i) else 0) % m)
      ?_ _ _ _ ⟨0, zs, rfl, by omega, by omega, rfl, hz, hbk, hE, hnx, fun n hn => by rw [hzs n hn, if_neg (by omega)]; simp⟩
    rintro d2 vs h3 ⟨k, zs, rfl, hk, hkD, rfl, hz, hbk, hE, hnx, hzs⟩ K2 K3 hK2 hK3
    refine wl_spec_l02Times_0 ?_
    obtain ⟨r1, r2⟩ := ha.rd (e := i) (c := ca) (k := .i64) rfl rfl hlt
    have r3 := r2 _ hE
    have w4 : IntKind.i64.wrap ((i : Int) + k) = i + k := wrapI (by omega) (by omega)
    have w5 : IntKind.i64.wrap ((k : Int) + 1) = k + 1 := wrapI (by omega) (by omega)
    have w6 : IntKind.i64.wrap ((i : Int) + 1) = i + 1 := wrapI (by omega) (by omega)
    by_cases hgo : k < ys.length ∧ i + k ≤ D ∧ gt xs i ≠ 0
    · obtain ⟨g1, g2, g3⟩ := hgo
      obtain ⟨t1, t2⟩ := hb.rd (e := k) (c := cb) (k := .i64) rfl rfl g1
      have t3 := t2 _ hE
      have q4 : (i : Int) + k ≤ D := by omega
      have q5 : indexAddrV 1 (.slice (some ⟨b, 0, none⟩) (D + 1) 1) (.int .i64 ((i : Int) + k)) = some (.pointer (some ⟨b, i + k, none⟩)) := ixOwn (by omega) (by omega)
      have q6 := ownRd (n := 0) (c := 0) hbk (show i + k < zs.length by omega)
      have bx := hx.gt hlt; have by_ := hy.gt g1
      have bm := mul_bd hm2 bx by_
      have bz : 0 ≤ gt zs (i + k) ∧ gt zs (i + k) < m := by rw [hzs _ g2]; exact mod_bd hm _
      have w7 : IntKind.i64.wrap (gt xs i * gt ys k) = gt xs i * gt ys k := wrapI (by omega) (by omega)
      have w8 : IntKind.i64.wrap (gt zs (i + k) + gt xs i * gt ys k) = gt zs (i + k) + gt xs i * gt ys k := wrapI (by omega) (by omega)
      simp [q_spec_l02Times_0, g1, q4, q5, q6, w4, w5, w7, w8, r1, r3, t1, t3, g3, m0, Int.tmod_eq_emod_of_nonneg (show 0 ≤ gt zs (i + k) + gt xs i * gt ys k by omega)]
      refine storeI (i := i + k) hbk (by omega) fun h4 u => ?_
      refine hK2 _ _ _ (by omega) ⟨k + 1, zs.set (i + k) ((gt zs (i + k) + gt xs i * gt ys k) % m), rfl, by omega, by omega, by simp, by simp [hz], u.bk, u.he hE (by omega), by rw [u.nx]; omega, fun n hn => ?_⟩
      rw [gt_set]
      by_cases hn2 : i + k = n
      · subst hn2
        rw [if_pos ⟨rfl, by omega⟩, if_pos (by omega), hzs _ hn, if_neg (by omega), Int.add_zero, Int.emod_add_emod]
        rw [show i + k - i = k by omega]
      · rw [if_neg (by omega), hzs n hn]
        by_cases hn3 : i ≤ n ∧ n < i + k
        · rw [if_pos hn3, if_pos (by omega)]
        · rw [if_neg hn3, if_neg (by omega)]
    · -- the row is done
      have hend : ∀ n, n ≤ D → gt zs n = ps xs ys (i + 1) n % m := by
        intro n hn
        rw [hzs n hn, ps_succ]
        refine congrArg (fun t => (ps xs ys i n + t) % m) ?_
        by_cases h1 : i ≤ n ∧ n < i + k
        · rw [if_pos h1, if_pos h1.1]
        · rw [if_neg h1]
          by_cases h2 : i ≤ n
          · rw [if_pos h2]
            by_cases g3 : gt xs i = 0
            · simp [g3]
            · have : k = ys.length := by
                rcases Nat.lt_or_ge k ys.length with h3 | h3
                · exact absurd ⟨h3, by omega, g3⟩ hgo
                · omega
              rw [gt_out (xs := ys) (by omega)]; simp
          · rw [if_neg h2]
      have fin : K3 [i6 m, .slice A xs.length ca, .slice B ys.length cb, i6 D, .slice (some ⟨b, 0, none⟩) (D + 1) 1, i6 i] h3 := by
        refine hK3 _ _ fun e he => ?_
        simp at he; simp [he, w6]
        exact hK _ _ _ (by omega) ⟨i + 1, zs, rfl, by omega, by omega, rfl, hz, hbk, hE, hnx, hend⟩
      by_cases g1 : k < ys.length
      · by_cases g2 : i + k ≤ D
        · have q4 : (i : Int) + k ≤ D := by omega
          have g3 : gt xs i = 0 := Classical.not_not.1 fun g3 => hgo ⟨g1, g2, g3⟩
          simpa [q_spec_l02Times_0, g1, q4, w4, r1, r3, g3] using fin
        · have q4 : ¬ (i : Int) + k ≤ D := by omega
          simpa [q_spec_l02Times_0, g1, q4, w4] using fin
      · simpa [q_spec_l02Times_0, g1] using fin
  · have hfin : K1 [.slice (some ⟨b, 0, none⟩) (D + 1) 1] h2 := by
      refine hK1 _ _ fun e he => ?_
      simp at he; rw [he]
      refine hR _ _ hE ⟨b, by simp, by omega, hnx, ?_⟩
      rw [hbk, show zs = mulL m (D + 1) xs ys from ?_]
      refine eq_tab hz fun n hn => by rw [hzs n (by omega), ps_full fun j h1 h2 => by
        rcases Nat.lt_or_ge j xs.length with h3 | h3
        · exfalso; exact hlt ⟨by omega, by omega⟩
        · exact gt_out h3]
    by_cases q1 : i < xs.length
    · have q2 : ¬ i ≤ D := by omega
      simpa [q_spec_l02Times_1, q1, q2] using hfin
    · simpa [q_spec_l02Times_1, q1] using hfin
end XM

/- Sums and multiples of lists of coefficients. -/
namespace XM
open Go

theorem take_snoc {n : Nat} {f : Nat → Int} : tab (n + 1) f = tab n f ++ [f n] := by simp [tab, List.range_succ]

theorem s_spec_l02Add {m : Int} {A B : Option Addr} {xs ys : List Int} {ca cb na nb : Nat} {h : Hp} {R : Value → Hp → Prop} (ha : RI h A xs) (hb : RI h B ys) (hna : na = xs.length) (hnb : nb = ys.length) (hm : 0 < m) (hm2 : m ≤ 3000000000)
    (hx : Nums m xs) (hy : Nums m ys) (hlx : xs.length ≤ 1000000) (hl : xs.length ≤ ys.length)
    (hR : ∀ v h', HE h h' → FI y_t_int64 h h' v (addL m xs ys) → R v h') : CallW FF n_spec_l02Add [i6 m, .slice A na ca, .slice B nb cb] h R := by
  subst hna; subst hnb
  refine w_spec_l02Add ?_
  have m0 : ¬ m = 0 := by omega
  simp [p_spec_l02Add]
  refine newB_i fun b h1 eb en eh eB => ?_
  refine LP1 (fun d vs h' => ∃ i b : Nat, d = xs.length - i ∧ i ≤ xs.length ∧ vs = [i6 m, .slice A xs.length ca, .slice B ys.length cb, .slice (some ⟨b, 0, none⟩) i 1, i6 i] ∧
     h'.bk b = some ⟨mapI (tab i fun i => (gt xs i + gt ys i) % m), y_t_int64, true⟩ ∧ HE h h' ∧ h.nx ≤ b ∧ b < h'.nx)
    ?_ _ _ _ ⟨0, b, rfl, by omega, rfl, eB, eh, by omega, by omega⟩
  rintro d vs h2 ⟨i, b, rfl, hi, rfl, hbk, hE, hge, hnx⟩ K K1 hK hK1
  refine wl_spec_l02Add_0 ?_
  by_cases hlt : i < xs.length
  · obtain ⟨r1, r2⟩ := ha.rd (e := i) (c := ca) (k := .i64) rfl rfl hlt
    have r3 := r2 _ hE
    obtain ⟨t1, t2⟩ := hb.rd (e := i) (c := cb) (k := .i64) rfl rfl (by omega)
    have t3 := t2 _ hE
    have bx := hx.gt hlt; have by_ := hy.gt (show i < ys.length by omega)
    have w1 : IntKind.i64.wrap (gt xs i + gt ys i) = gt xs i + gt ys i := wrapI (by omega) (by omega)
    have w2 : IntKind.i64.wrap ((i : Int) + 1) = i + 1 := wrapI (by omega) (by omega)
    simp [q_spec_l02Add_0, hlt, r1, r3, t1, t3, w1, w2, m0, Int.tmod_eq_emod_of_nonneg (show 0 ≤ gt xs i + gt ys i by omega)]
    refine pushI hbk hnx (by simp) (by unfold sizeMax; omega) fun b' h' u => ?_
    exact hK _ _ _ (by omega) ⟨i + 1, b', rfl, by omega, rfl, by rw [take_snoc]; exact u.bk, u.he hE hge, by have := u.ge; have := hE.nx; omega, u.lt⟩
  · have : i = xs.length := by omega
    subst this
    simp [q_spec_l02Add_0]
    refine hK1 _ _ fun e he => ?_
    simp at he; rw [he]
    exact hR _ _ hE ⟨b, by simp, hge, hnx, hbk⟩

theorem s_spec_l02Scale {m c : Int} {A : Option Addr} {xs : List Int} {ca na : Nat} {h : Hp} {R : Value → Hp → Prop} (ha : RI h A xs) (hna : na = xs.length) (hm : 0 < m) (hm2 : m ≤ 3000000000) (hc : 0 ≤ c ∧ c < m)
    (hx : Nums m xs) (hlx : xs.length ≤ 1000000)
    (hR : ∀ v h', HE h h' → FI y_t_int64 h h' v (scaleL m c xs) → R v h') : CallW FF n_spec_l02Scale [i6 m, i6 c, .slice A na ca] h R := by
  subst hna
  refine w_spec_l02Scale ?_
  have m0 : ¬ m = 0 := by omega
  simp [p_spec_l02Scale]
  refine newB_i fun b h1 eb en eh eB => ?_
  refine LP1 (fun d vs h' => ∃ i b : Nat, d = xs.length - i ∧ i ≤ xs.length ∧ vs = [i6 m, i6 c, .slice A xs.length ca, .slice (some ⟨b, 0, none⟩) i 1, i6 i] ∧
     h'.bk b = some ⟨mapI (tab i fun i => (c * gt xs i) % m), y_t_int64, true⟩ ∧ HE h h' ∧ h.nx ≤ b ∧ b < h'.nx)
    ?_ _ _ _ ⟨0, b, rfl, by omega, rfl, eB, eh, by omega, by omega⟩
  rintro d vs h2 ⟨i, b, rfl, hi, rfl, hbk, hE, hge, hnx⟩ K K1 hK hK1
  refine wl_spec_l02Scale_0 ?_
  by_cases hlt : i < xs.length
  · obtain ⟨r1, r2⟩ := ha.rd (e := i) (c := ca) (k := .i64) rfl rfl hlt
    have r3 := r2 _ hE
    have bx := hx.gt hlt
    have bm := mul_bd hm2 hc bx
    have w1 : IntKind.i64.wrap (c * gt xs i) = c * gt xs i := wrapI (by omega) (by omega)
    have w2 : IntKind.i64.wrap ((i : Int) + 1) = i + 1 := wrapI (by omega) (by omega)
    simp [q_spec_l02Scale_0, hlt, r1, r3, w1, w2, m0, Int.tmod_eq_emod_of_nonneg bm.1]
    refine pushI hbk hnx (by simp) (by unfold sizeMax; omega) fun b' h' u => ?_
    exact hK _ _ _ (by omega) ⟨i + 1, b', rfl, by omega, rfl, by rw [take_snoc]; exact u.bk, u.he hE hge, by have := u.ge; have := hE.nx; omega, u.lt⟩
  · have : i = xs.length := by omega
    subst this
    simp [q_spec_l02Scale_0]
    refine hK1 _ _ fun e he => ?_
    simp at he; rw [he]
    exact hR _ _ hE ⟨b, by simp, hge, hnx, hbk⟩
end XM

/- Tables of the function's own, in the abstract heap. -/
namespace XM
open Go

def hdr (rb : Nat → Nat) (T : List (List Int)) : List Value := (List.range T.length).map fun i => .slice (some ⟨rb i, 0, none⟩) (row T i).length 1
@[simp] theorem hdr_len (rb : Nat → Nat) (T : List (List Int)) : (hdr rb T).length = T.length := by simp [hdr]
theorem hdr_get {rb : Nat → Nat} {T : List (List Int)} {i : Nat} (h : i < T.length) : (hdr rb T)[i]? = some (.slice (some ⟨rb i, 0, none⟩) (row T i).length 1) := by simp [hdr, h]
theorem row_app {T : List (List Int)} {r : List Int} {i : Nat} : row (T ++ [r]) i = if i < T.length then row T i else if i = T.length then r else [] := by
  unfold row
  simp only [List.getD_eq_getElem?_getD, List.getElem?_append]
  split
  · rfl
  · rename_i h
    by_cases h2 : i = T.length
    · subst h2; simp
    · rw [if_neg h2, List.getElem?_eq_none (by simp; omega)]; rfl
theorem row_set {T : List (List Int)} {r : List Int} {i j : Nat} : row (T.set i r) j = if i = j ∧ i < T.length then r else row T j := by
  unfold row
  simp only [List.getD_eq_getElem?_getD, List.getElem?_set]
  by_cases h : i = j
  · subst h
    by_cases h2 : i < T.length
    · simp [h2]
    · simp [h2]
  · simp [h]

/-- A table with blocks of its own, all from lo on; lt says that they are there. -/
structure OT (lo : Nat) (h : Hp) (b : Nat) (rb : Nat → Nat) (T : List (List Int)) : Prop where
  lob : lo ≤ b
  ltb : b < h.nx
  top : h.bk b = some ⟨hdr rb T, y_t_Lint64, true⟩
  lor : ∀ i, i < T.length → lo ≤ rb i
  ltr : ∀ i, i < T.length → rb i < h.nx
  ne : ∀ i, i < T.length → rb i ≠ b
  rows : ∀ i, i < T.length → h.bk (rb i) = some ⟨mapI (row T i), y_t_int64, true⟩
  inj : ∀ i j, i < T.length → j < T.length → rb i = rb j → i = j

theorem OT.mono {lo : Nat} {h h' : Hp} {b : Nat} {rb : Nat → Nat} {T : List (List Int)} (t : OT lo h b rb T) (e : HE h h') : OT lo h' b rb T :=
  ⟨t.lob, Nat.lt_of_lt_of_le t.ltb e.nx, by rw [e.bk _ t.ltb]; exact t.top, t.lor, fun i hi => Nat.lt_of_lt_of_le (t.ltr i hi) e.nx, t.ne, fun i hi => by rw [e.bk _ (t.ltr i hi)]; exact t.rows i hi, t.inj⟩

theorem OT.rt {lo : Nat} {h : Hp} {b : Nat} {rb : Nat → Nat} {T : List (List Int)} (t : OT lo h b rb T) : RT h (some ⟨b, 0, none⟩) (fun i => some ⟨rb i, 0, none⟩) T :=
  ⟨RV.of_block t.ltb t.top rfl, fun i hi => RI.of_block (t.ltr i hi) (t.rows i hi)⟩

theorem OT.nil {lo : Nat} {h : Hp} {b : Nat} (rb : Nat → Nat) (hb : lo ≤ b) (hl : b < h.nx) (ht : h.bk b = some ⟨[], y_t_Lint64, true⟩) : OT lo h b rb [] :=
  ⟨hb, hl, ht, by simp, by simp, by simp, by simp, by simp⟩

/-- A new row at the end. -/
theorem OT.push {lo : Nat} {h h1 h2 : Hp} {b b' r n : Nat} {rb : Nat → Nat} {T : List (List Int)} {xs : List Int} (t : OT lo h b rb T) (e : HE h h1) (hr : lo ≤ r) (hr2 : h.nx ≤ r) (hr3 : r < h1.nx) (hn : n = xs.length)
    (hrow : h1.bk r = some ⟨mapI xs, y_t_int64, true⟩) (u : App b b' ⟨hdr rb T ++ [.slice (some ⟨r, 0, none⟩) n 1], y_t_Lint64, true⟩ h1 h2) :
    OT lo h2 b' (fun i => if i < T.length then rb i else r) (T ++ [xs]) := by
  have tm := t.mono e
  have ge := u.ge; have lt := u.lt
  have hrb : ∀ i, i < T.length + 1 → (if i < T.length then rb i else r) < h1.nx := fun i hi => by split <;> rename_i h3; exact tm.ltr i h3; exact hr3
  have hnb : ∀ i, i < T.length + 1 → (if i < T.length then rb i else r) ≠ b := fun i hi => by
    split <;> rename_i h3
    · exact t.ne i h3
    · have := t.ltb; omega
  refine ⟨by have := t.lob; have := e.nx; have := t.ltb; omega, lt, ?_, ?_, ?_, ?_, ?_, ?_⟩
  · rw [u.bk]
    congr 2
    unfold hdr
    rw [List.length_append, List.length_singleton, List.range_succ, List.map_append]
    congr 1
    · refine List.map_congr_left fun i hi => ?_
      have hi : i < T.length := by simpa using hi
      simp [hi, row_app]
    · simp [row_app, hn]
  · intro i hi
    simp only [List.length_append, List.length_singleton] at hi
    split <;> rename_i h3
    · exact t.lor i h3
    · exact hr
  · intro i hi
    simp only [List.length_append, List.length_singleton] at hi
    have := hrb i hi; omega
  · intro i hi
    simp only [List.length_append, List.length_singleton] at hi
    have := hrb i hi; omega
  · intro i hi
    simp only [List.length_append, List.length_singleton] at hi
    rw [u.ot _ (hrb i hi) (hnb i hi), row_app]
    by_cases h3 : i < T.length
    · simp only [h3, if_true]; exact tm.rows i h3
    · simp only [h3, if_false, if_pos (show i = T.length by omega)]; exact hrow
  · intro i j hi hj hij
    simp only [List.length_append, List.length_singleton] at hi hj
    by_cases h3 : i < T.length <;> by_cases h4 : j < T.length
    · simp only [h3, h4, if_true] at hij; exact t.inj i j h3 h4 hij
    · simp only [h3, h4, if_true, if_false] at hij; have := t.ltr i h3; omega
    · simp only [h3, h4, if_true, if_false] at hij; have := t.ltr j h4; omega
    · omega

/-- A number in a row is changed. -/
theorem OT.set {lo : Nat} {h h' : Hp} {b : Nat} {rb : Nat → Nat} {T : List (List Int)} {i : Nat} {xs : List Int} (t : OT lo h b rb T) (hi : i < T.length) (hx : xs.length = (row T i).length)
    (u : Upd (rb i) (some ⟨mapI xs, y_t_int64, true⟩) h h') : OT lo h' b rb (T.set i xs) := by
  have hh : hdr rb (T.set i xs) = hdr rb T := by
    unfold hdr
    rw [List.length_set]
    refine List.map_congr_left fun j hj => ?_
    rw [row_set]; split
    · rename_i h2; rw [hx, h2.1]
    · rfl
  refine ⟨t.lob, by rw [u.nx]; exact t.ltb, by rw [u.ot _ (t.ne i hi).symm, hh]; exact t.top, fun j hj => t.lor j (by simpa using hj), fun j hj => by rw [u.nx]; exact t.ltr j (by simpa using hj), fun j hj => t.ne j (by simpa using hj), fun j hj => ?_,
    fun j k hj hk => t.inj j k (by simpa using hj) (by simpa using hk)⟩
  have hj : j < T.length := by simpa using hj
  rw [row_set]
  by_cases h2 : i = j
  · subst h2; rw [if_pos ⟨rfl, hi⟩]; exact u.bk
  · rw [if_neg (fun h3 => h2 h3.1), u.ot _ (fun h3 => h2 (t.inj j i hj hi h3).symm)]; exact t.rows j hj

/-- A table as the answer of a function. -/
def FT (h h' : Hp) (v : Value) (T : List (List Int)) : Prop := ∃ b rb, v = .slice (some ⟨b, 0, none⟩) T.length 1 ∧ OT h.nx h' b rb T
end XM

/- Tables and powers: the reference's functions. -/
namespace XM
open Go

def ztab (D : Nat) : Nat → List (List Int)
  | 0 => []
  | i + 1 => ztab D i ++ [List.replicate (D - i + 1) 0]
@[simp] theorem ztab_len (D n : Nat) : (ztab D n).length = n := by induction n with | zero => rfl | succ n ih => simp [ztab, ih]

theorem s_spec_l03Zero {D : Nat} {h : Hp} {R : Value → Hp → Prop} (hD : D ≤ 1000000) (hR : ∀ v h', HE h h' → FT h h' v (ztab D (D + 1)) → R v h') : CallW FF n_spec_l03Zero [i6 D] h R := by
  refine w_spec_l03Zero ?_
  simp [p_spec_l03Zero]
  refine newB_i fun b h1 eb en eh eB => ?_
  refine LP1 (fun d vs h' => ∃ (i b : Nat) (rb : Nat → Nat), d = D + 1 - i ∧ i ≤ D + 1 ∧ vs = [i6 D, .slice (some ⟨b, 0, none⟩) i 1, i6 i] ∧ HE h h' ∧ OT h.nx h' b rb (ztab D i))
    ?_ _ _ _ ⟨0, b, fun _ => 0, rfl, by omega, rfl, eh, OT.nil _ (by omega) (by omega) eB⟩
  rintro d vs h2 ⟨i, b, rb, rfl, hi, rfl, hE, hT⟩ K K1 hK hK1
  refine wl_spec_l03Zero_0 ?_
  by_cases hlt : i ≤ D
  · have w1 : IntKind.i64.wrap ((D : Int) - i) = D - i := wrapI (by omega) (by omega)
    have w2 : IntKind.i64.wrap ((D : Int) - i + 1) = D - i + 1 := wrapI (by omega) (by omega)
    have w3 : IntKind.i64.wrap ((i : Int) + 1) = i + 1 := wrapI (by omega) (by omega)
    have mk : makN (.int .i64 ((D : Int) - i + 1)) = some (D - i + 1) := makN_nat (by omega) (by unfold sizeMax; omega)
    simp [q_spec_l03Zero_0, hlt, w1, w2, w3, mk, mapI_rep]
    refine newB_i fun r h3 er3 en3 eh3 eB3 => ?_
    have t3 := hT.mono eh3
    refine push1 t3.top t3.ltb (by simp) (by unfold sizeMax; omega) fun b' h' u => ?_
    exact hK _ _ _ (by omega) ⟨i + 1, b', _, rfl, by omega, rfl, u.he (hE.trans eh3) (hT.lob), hT.push eh3 (by have := hE.nx; omega) (by omega) (by omega) (by simp) eB3 u⟩
  · have : i = D + 1 := by omega
    subst this
    have : ¬ ((D : Int) + 1 ≤ D) := by omega
    simp [q_spec_l03Zero_0, this]
    refine hK1 _ _ fun e he => ?_
    simp at he; rw [he]
    exact hR _ _ hE ⟨b, rb, by simp, hT⟩

/-- The powers of a list, of D + 1 coefficients each. -/
def oneL (n : Nat) : List Int := (List.replicate n (0 : Int)).set 0 1
def powL (m : Int) (D : Nat) (a : List Int) : Nat → List Int
  | 0 => oneL (D + 1)
  | i + 1 => mulL m (D + 1) (powL m D a i) a
@[simp] theorem powL_len (m : Int) (D : Nat) (a : List Int) (i : Nat) : (powL m D a i).length = D + 1 := by cases i <;> simp [powL, oneL]
theorem nums_mulL {m : Int} (hm : 0 < m) (n : Nat) (a b : List Int) : Nums m (mulL m n a b) := nums_tab hm
theorem nums_oneL {m : Int} (hm : 2 ≤ m) (n : Nat) : Nums m (oneL n) := by
  rw [nums_iff]; intro i hi
  unfold oneL; rw [gt_set]
  split
  · omega
  · rw [rep_tab, gt_tab']; split <;> omega
theorem nums_powL {m : Int} (hm : 2 ≤ m) (D : Nat) (a : List Int) (i : Nat) : Nums m (powL m D a i) := by
  cases i
  · exact nums_oneL hm _
  · exact nums_mulL (by omega) _ _ _
def powT (m : Int) (D : Nat) (a : List Int) : Nat → List (List Int)
  | 0 => []
  | i + 1 => powT m D a i ++ [powL m D a i]
@[simp] theorem powT_len (m : Int) (D : Nat) (a : List Int) (n : Nat) : (powT m D a n).length = n := by induction n with | zero => rfl | succ n ih => simp [powT, ih]
theorem row_powT {m : Int} {D : Nat} {a : List Int} {n i : Nat} (h : i < n) : row (powT m D a n) i = powL m D a i := by
  induction n with
  | zero => omega
  | succ n ih =>
    rw [powT, row_app, powT_len]
    by_cases h2 : i < n
    · rw [if_pos h2, ih h2]
    · rw [if_neg h2, if_pos (by omega), show i = n by omega]

theorem s_spec_l03Powers {m : Int} {A : Option Addr} {a : List Int} {D ca : Nat} {h : Hp} {R : Value → Hp → Prop} (ha : RI h A a) (hl : a.length = D + 1) (hm : 2 ≤ m) (hm2 : m ≤ 3000000000)
    (hx : Nums m a) (hD : D ≤ 100000) (hR : ∀ v h', HE h h' → FT h h' v (powT m D a (D + 1)) → R v h') : CallW FF n_spec_l03Powers [i6 m, .slice A (D + 1) ca] h R := by
  refine w_spec_l03Powers ?_
  have w1 : IntKind.i64.wrap (D : Int) = D := wrapI (by omega) (by omega)
  have mk : makN (.int .i64 ((D : Int) + 1)) = some (D + 1) := makN_nat (by omega) (by unfold sizeMax; omega)
  simp [p_spec_l03Powers, w1, mk, mapI_rep]
  refine newB_i fun r h1 er1 en1 eh1 eB1 => ?_
  have q1 : indexAddrV 1 (.slice (some ⟨r, 0, none⟩) (D + 1) 1) (.int .i64 0) = some (.pointer (some ⟨r, 0, none⟩)) := ixOwn (i := 0) rfl (by omega)
  simp [q1]
  refine storeI (i := 0) eB1 (by simp) fun h2 u => ?_
  refine newB_i fun b h3 er3 en3 eh3 eB3 => ?_
  have nx2 := u.nx
  have hE2 : HE h h3 := (u.he eh1 (by omega)).trans eh3
  have rbk : h3.bk r = some ⟨mapI (oneL (D + 1)), y_t_int64, true⟩ := by rw [eh3.bk _ (by omega)]; exact u.bk
  refine LP1 (fun d vs h' => ∃ (i b : Nat) (rb : Nat → Nat), d = D - i ∧ i ≤ D ∧ vs = [i6 m, .slice A (D + 1) ca, i6 D, .slice (some ⟨b, 0, none⟩) (i + 1) 1, i6 i] ∧ HE h h' ∧ OT h.nx h' b rb (powT m D a (i + 1)))
    ?_ _ _ _ ⟨0, b, fun _ => r, rfl, by omega, rfl, hE2, ⟨by omega, by omega, by rw [eB3]; simp [hdr, powT, row], by simp [powT]; omega, by simp [powT]; omega, by simp [powT]; omega, by simp [powT, row]; exact rbk, by simp [powT]⟩⟩
  rintro d vs h4 ⟨i, b, rb, rfl, hi, rfl, hE, hT⟩ K K1 hK hK1
  refine wl_spec_l03Powers_0 ?_
  by_cases hlt : i < D
  · have w3 : IntKind.i64.wrap ((i : Int) + 1) = i + 1 := wrapI (by omega) (by omega)
    obtain ⟨r1, r2⟩ := hT.rt.rd (e := i) (i := i) (n := i + 1) (c := 1) (k := .i64) rfl (by simp) (by simp)
    have r3 := r2 _ (HE.refl _)
    rw [row_powT (by omega)] at r3
    have hrow := hT.rt.rows i (by simp)
    rw [row_powT (by omega)] at hrow
    simp [q_spec_l03Powers_0, hlt, w3, r1, r3]
    refine s_spec_l02Times hrow (ha.mono hE) (by simp) hl.symm (by omega) hm2 (nums_powL hm D a i) hx (by simp; omega) (by omega) (by omega) fun v h5 hE5 hF => ?_
    obtain ⟨q, rfl, hq1, hq2, hq3⟩ := hF
    simp
    refine push1 (hT.mono hE5).top (hT.mono hE5).ltb (by simp) (by unfold sizeMax; omega) fun b' h6 u => ?_
    exact hK _ _ _ (by omega) ⟨i + 1, b', _, rfl, by omega, rfl, u.he (hE.trans hE5) hT.lob, hT.push hE5 (by have := hE.nx; omega) hq1 hq2 (by simp) hq3 u⟩
  · have : i = D := by omega
    subst this
    simp [q_spec_l03Powers_0]
    refine hK1 _ _ fun e he => ?_
    simp at he; rw [he]
    exact hR _ _ hE ⟨b, rb, by simp, hT⟩
end XM

/- Compositions and values of tables at series: the reference's functions. -/
namespace XM
open Go

def addC (m : Int) (xs : List Int) (c : Int) : List Int := xs.set 0 ((gt xs 0 + c) % m)
/-- The k-th state of Horner's rule from the coefficient at s on. -/
def horn (m : Int) (D : Nat) (a f : List Int) (s : Nat) : Nat → List Int
  | 0 => List.replicate (D + 1) 0
  | k + 1 => addC m (mulL m (D + 1) (horn m D a f s k) f) (gt a (s - k))
@[simp] theorem horn_len (m : Int) (D : Nat) (a f : List Int) (s k : Nat) : (horn m D a f s k).length = D + 1 := by cases k <;> simp [horn, addC]
theorem nums_addC {m : Int} (hm : 0 < m) {xs : List Int} (h : Nums m xs) (c : Int) : Nums m (addC m xs c) := by
  rw [nums_iff]; intro i hi
  unfold addC; rw [gt_set]; split
  · exact mod_bd hm _
  · exact h.gt (by simpa [addC] using hi)
theorem nums_rep {m : Int} (hm : 0 < m) (n : Nat) : Nums m (List.replicate n 0) := by
  intro x hx; simp at hx; omega
theorem nums_horn {m : Int} (hm : 0 < m) (D : Nat) (a f : List Int) (s k : Nat) : Nums m (horn m D a f s k) := by
  cases k
  · exact nums_rep hm _
  · exact nums_addC hm (nums_mulL hm _ _ _) _

theorem s_spec_l02Compose {m : Int} {A B : Option Addr} {a f : List Int} {D ca cb na nb : Nat} {h : Hp} {R : Value → Hp → Prop} (ha : RI h A a) (hf : RI h B f) (hna : na = a.length) (hnb : nb = f.length) (hm : 2 ≤ m) (hm2 : m ≤ 3000000000)
    (hx : Nums m a) (hy : Nums m f) (h1a : 1 ≤ a.length) (hla : a.length ≤ 100000) (hlf : f.length ≤ 100000) (hD : D ≤ 100000)
    (hR : ∀ v h', HE h h' → FI y_t_int64 h h' v (horn m D a f (min (a.length - 1) D) (min (a.length - 1) D + 1)) → R v h') : CallW FF n_spec_l02Compose [i6 m, .slice A na ca, .slice B nb cb, i6 D] h R := by
  subst hna; subst hnb
  refine w_spec_l02Compose ?_
  have m0 : ¬ m = 0 := by omega
  have w1 : IntKind.i64.wrap ((D : Int) + 1) = D + 1 := wrapI (by omega) (by omega)
  have w2 : IntKind.i64.wrap ((a.length : Int) - 1) = a.length - 1 := wrapI (by omega) (by omega)
  have mk : makN (.int .i64 ((D : Int) + 1)) = some (D + 1) := makN_nat (by omega) (by unfold sizeMax; omega)
  generalize hs : min (a.length - 1) D = s at hR
  have e1 : (if (D : Int) < (a.length : Int) - 1 then (D : Int) else (a.length : Int) - 1) = s := by split <;> omega
  simp [p_spec_l02Compose, w1, w2, mk, mapI_rep, e1]
  refine newB_i fun b h1 eb en eh eB => ?_
  refine LP1 (fun d vs h' => ∃ k b : Nat, d = s + 1 - k ∧ k ≤ s + 1 ∧ vs = [i6 m, .slice A a.length ca, .slice B f.length cb, i6 D, .slice (some ⟨b, 0, none⟩) (D + 1) 1, i6 ((s : Int) - k)] ∧ HE h h' ∧ h.nx ≤ b ∧ b < h'.nx ∧
      h'.bk b = some ⟨mapI (horn m D a f s k), y_t_int64, true⟩) ?_ _ _ _ ⟨0, b, rfl, by omega, by simp, eh, by omega, by omega, eB⟩
  rintro d vs h2 ⟨k, b, rfl, hk, rfl, hE, hge, hnx, hbk⟩ K K1 hK hK1
  refine wl_spec_l02Compose_0 ?_
  by_cases hlt : k ≤ s
  · have g1 : (0 : Int) ≤ (s : Int) - k := by omega
    have w3 : IntKind.i64.wrap ((s : Int) - k - 1) = s - k - 1 := wrapI (by omega) (by omega)
    simp [q_spec_l02Compose_0, hlt]
    refine s_spec_l02Times (xs := horn m D a f s k) (RI.of_block hnx hbk) (hf.mono hE) (by simp) rfl (by omega) hm2 (nums_horn (by omega) D a f s k) hy (by simp; omega) (by omega) (by omega) fun v h5 hE5 hF => ?_
    obtain ⟨q, rfl, hq1, hq2, hq3⟩ := hF
    obtain ⟨r1, r2⟩ := ha.rd (e := (s : Int) - k) (i := s - k) (c := ca) (k := .i64) (by omega) rfl (by omega)
    have r3 := r2 _ (hE.trans hE5)
    have q1 : indexAddrV 1 (.slice (some ⟨q, 0, none⟩) (D + 1) 1) (.int .i64 0) = some (.pointer (some ⟨q, 0, none⟩)) := ixOwn (i := 0) rfl (by omega)
    have q2 := ownRd (n := 0) (c := 0) hq3 (show 0 < _ by simp)
    have bx := hx.gt (show s - k < a.length by omega)
    have bz := (nums_mulL (m := m) (by omega) (D + 1) (horn m D a f s k) f).gt (show 0 < _ by simp)
    have w4 : IntKind.i64.wrap (gt (mulL m (D + 1) (horn m D a f s k) f) 0 + gt a (s - k)) = gt (mulL m (D + 1) (horn m D a f s k) f) 0 + gt a (s - k) := wrapI (by omega) (by omega)
    simp [q1, q2, r1, r3, w3, w4, m0, Int.tmod_eq_emod_of_nonneg (show 0 ≤ gt (mulL m (D + 1) (horn m D a f s k) f) 0 + gt a (s - k) by omega)]
    refine storeI (i := 0) hq3 (by simp) fun h6 u => ?_
    refine hK _ _ _ (by omega) ⟨k + 1, q, rfl, by omega, by simp; omega, u.he (hE.trans hE5) (by have := hE.nx; omega), by have := hE.nx; omega, by rw [u.nx]; omega, u.bk⟩
  · have : k = s + 1 := by omega
    subst this
    have g1 : ¬ ((s : Int) + 1 ≤ s) := by omega
    simp [q_spec_l02Compose_0, g1]
    refine hK1 _ _ fun e he => ?_
    simp at he; rw [he]
    exact hR _ _ hE ⟨b, by simp, hge, hnx, hbk⟩
end XM

/- The value of a table at two series: l03Put. -/
namespace XM
open Go

/-- The first rows of a table and a part of the next one, at lists P i and Q j. -/
def ptI (T : List (List Int)) (P Q : Nat → List Int) (i j n : Nat) : Int := sm j fun j' => gt (row T i) j' * cv (P i) (Q j') n
def pt (T : List (List Int)) (P Q : Nat → List Int) (i n : Nat) : Int := sm i fun i' => ptI T P Q i' (row T i').length n
/-- F(f, g), up to degree D. -/
def putL (m : Int) (D : Nat) (T : List (List Int)) (f g : List Int) : List Int := tab (D + 1) fun n => pt T (powL m D f) (powL m D g) (D + 1) n % m
@[simp] theorem putL_len (m : Int) (D : Nat) (T : List (List Int)) (f g : List Int) : (putL m D T f g).length = D + 1 := by simp [putL]
theorem nums_putL {m : Int} (hm : 0 < m) (D : Nat) (T : List (List Int)) (f g : List Int) : Nums m (putL m D T f g) := nums_tab hm

theorem put_step {m c S : Int} {D n : Nat} {P Q out : List Int} (hn : n < D + 1) (ho : gt out n = S % m) (hl : out.length = D + 1) :
    gt (addL m out (scaleL m c (mulL m (D + 1) P Q))) n = (S + c * cv P Q n) % m := by
  unfold addL
  rw [gt_tab (by omega), ho]
  unfold scaleL
  rw [gt_tab (by simpa using hn)]
  unfold mulL
  rw [gt_tab hn, Int.add_emod, Int.emod_emod, Int.emod_emod, Int.mul_emod, Int.emod_emod, ← Int.mul_emod, ← Int.add_emod]

theorem nums_addL {m : Int} (hm : 0 < m) (a b : List Int) : Nums m (addL m a b) := nums_tab hm
theorem nums_scaleL {m : Int} (hm : 0 < m) (c : Int) (a : List Int) : Nums m (scaleL m c a) := nums_tab hm

theorem s_spec_l03Put {m : Int} {A B C : Option Addr} {Rr : Nat → Option Addr} {T : List (List Int)} {f g : List Int} {D ca cb cc n : Nat} {h : Hp} {R : Value → Hp → Prop} (hT : RT h A Rr T) (hf : RI h B f) (hg : RI h C g) (hn : n = D + 1) (hTl : T.length = D + 1)
    (hfl : f.length = D + 1) (hgl : g.length = D + 1) (hrl : ∀ i, i < T.length → (row T i).length ≤ D + 1) (hrn : ∀ i, i < T.length → Nums m (row T i)) (hm : 2 ≤ m) (hm2 : m ≤ 3000000000) (hx : Nums m f) (hy : Nums m g) (hD : D ≤ 100000)
    (hR : ∀ v h', HE h h' → FI y_t_int64 h h' v (putL m D T f g) → R v h') : CallW FF n_spec_l03Put [i6 m, .slice A n ca, .slice B (D + 1) cb, .slice C (D + 1) cc] h R := by
  subst hn
  refine w_spec_l03Put ?_
  have w1 : IntKind.i64.wrap (D : Int) = D := wrapI (by omega) (by omega)
  have w2 : IntKind.i64.wrap ((D : Int) + 1) = D + 1 := wrapI (by omega) (by omega)
  have mk : makN (.int .i64 ((D : Int) + 1)) = some (D + 1) := makN_nat (by omega) (by unfold sizeMax; omega)
  simp [p_spec_l03Put, w1]
  refine s_spec_l03Powers hf hfl hm hm2 hx hD fun v h1 hE1 hF1 => ?_
  obtain ⟨b1, rb1, rfl, hP⟩ := hF1
  refine s_spec_l03Powers (hg.mono hE1) hgl hm hm2 hy hD fun v h2 hE2 hF2 => ?_
  obtain ⟨b2, rb2, rfl, hQ⟩ := hF2
  simp [w2, mk, mapI_rep]
  refine newB_i fun b h3 eb en eh eB => ?_
  have hE3 : HE h h3 := (hE1.trans hE2).trans eh
  have hP3 := (hP.mono (hE2.trans eh)).rt
  have hQ3 := (hQ.mono eh).rt
  have nx1 := hE1.nx; have nx2 := hE2.nx
  -- rows
  refine LP1 (fun d vs h' => ∃ (i b : Nat) (out : List Int), d = D + 1 - i ∧ i ≤ D + 1 ∧ vs = [i6 m, .slice A (D + 1) ca, i6 D, .slice (some ⟨b1, 0, none⟩) (D + 1) 1, .slice (some ⟨b2, 0, none⟩) (D + 1) 1, .slice (some ⟨b, 0, none⟩) (D + 1) 1, i6 i] ∧
     HE h3 h' ∧ HE h h' ∧ h.nx ≤ b ∧ b < h'.nx ∧ h'.bk b = some ⟨mapI out, y_t_int64, true⟩ ∧ out.length = D + 1 ∧ Nums m out ∧ ∀ n, n < D + 1 → gt out n = pt T (powL m D f) (powL m D g) i n % m)
    ?_ _ _ _ ⟨0, b, List.replicate (D + 1) 0, rfl, by omega, by simp, HE.refl _, hE3, by omega, by omega, eB, by simp, nums_rep (by omega) _, fun n hn => by rw [rep_tab, gt_tab hn]; simp [pt, sm]⟩
  rintro d vs h4 ⟨i, b, out, rfl, hi, rfl, hE, hEh, hge, hnx, hbk, hol, hon, hout⟩ K K1 hK hK1
  refine wl_spec_l03Put_1 ?_
  by_cases hlt : i ≤ D
  · have hiT : i < T.length := by omega
    have rl := hrl i hiT
    simp [q_spec_l03Put_1, hlt]
    -- the entries of a row
    refine LP1 (fun d vs h' => ∃ (j b : Nat) (out : List Int), d = (row T i).length - j ∧ j ≤ (row T i).length ∧ vs = [i6 m, .slice A (D + 1) ca, i6 D, .slice (some ⟨b1, 0, none⟩) (D + 1) 1, .slice (some ⟨b2, 0, none⟩) (D + 1) 1, .slice (some ⟨b, 0, none⟩) (D + 1) 1, i6 i, i6 j] ∧
       HE h3 h' ∧ HE h h' ∧ h.nx ≤ b ∧ b < h'.nx ∧ h'.bk b = some ⟨mapI out, y_t_int64, true⟩ ∧ out.length = D + 1 ∧ Nums m out ∧ ∀ n, n < D + 1 → gt out n = (pt T (powL m D f) (powL m D g) i n + ptI T (powL m D f) (powL m D g) i j n) % m)
      ?_ _ _ _ ⟨0, b, out, rfl, by omega, by simp, hE, hEh, hge, hnx, hbk, hol, hon, fun n hn => by rw [hout n hn]; simp [ptI, sm]⟩
    clear hE hEh hge hnx hbk hol hon hout
    rintro d2 vs h5 ⟨j, b, out, rfl, hj, rfl, hE, hEh, hge, hnx, hbk, hol, hon, hout⟩ K2 K3 hK2 hK3
    refine wl_spec_l03Put_0 ?_
    obtain ⟨r1, r2⟩ := hT.rd (e := i) (n := D + 1) (c := ca) (k := .i64) rfl hTl.symm hiT
    have r3 := r2 _ hEh
    have w3 : IntKind.i64.wrap ((i : Int) + 1) = i + 1 := wrapI (by omega) (by omega)
    have w4 : IntKind.i64.wrap ((j : Int) + 1) = j + 1 := wrapI (by omega) (by omega)
    by_cases hjl : j < (row T i).length
    · obtain ⟨t1, t2⟩ := (hT.rows i hiT).rd (e := j) (n := (row T i).length) (c := 1) (k := .i64) rfl rfl hjl
      have t3 := t2 _ hEh
      have bT := (hrn i hiT).gt hjl
      by_cases h0 : gt (row T i) j = 0
      · simp [q_spec_l03Put_0, r1, r3, t1, t3, hjl, h0, w4]
        refine hK2 _ _ _ (by omega) ⟨j + 1, b, out, rfl, by omega, by simp, hE, hEh, hge, hnx, hbk, hol, hon, fun n hn => ?_⟩
        rw [hout n hn]; simp [ptI, sm_succ, h0]
      · obtain ⟨p1, p2⟩ := hP3.rd (e := i) (i := i) (n := D + 1) (c := 1) (k := .i64) rfl (by simp) (by simp; omega)
        have p3 := p2 _ hE
        rw [row_powT (by omega), powL_len] at p3
        have pr := (hP3.rows i (by simp; omega)).mono hE
        rw [row_powT (by omega)] at pr
        obtain ⟨q1, q2⟩ := hQ3.rd (e := j) (i := j) (n := D + 1) (c := 1) (k := .i64) rfl (by simp) (by simp; omega)
        have q3 := q2 _ hE
        rw [row_powT (by omega), powL_len] at q3
        have qr := (hQ3.rows j (by simp; omega)).mono hE
        rw [row_powT (by omega)] at qr
        have i1 := hT.inb hEh hiT
        have i2 := (hT.rows i hiT).inb hEh hjl
        simp [q_spec_l03Put_0, r1, r3, t1, t3, hjl, h0, p1, p3, q1, q3, i1, i2]
        refine s_spec_l02Times pr qr (by simp) (by simp) (by omega) hm2 (nums_powL hm D f i) (nums_powL hm D g j) (by simp; omega) (by simp; omega) (by omega) fun v h6 hE6 hF => ?_
        obtain ⟨x, rfl, hx1, hx2, hx3⟩ := hF
        refine ⟨hE6.keep, ?_⟩
        simp only [mulL_len]
        refine s_spec_l02Scale (RI.of_block hx2 hx3) (by simp) (by omega) hm2 bT (nums_mulL (by omega) _ _ _) (by simp; omega) fun v h7 hE7 hF => ?_
        obtain ⟨y, rfl, hy1, hy2, hy3⟩ := hF
        simp only [scaleL_len, mulL_len]
        refine s_spec_l02Add (RI.mono (RI.of_block hnx hbk) (hE6.trans hE7)) (RI.of_block hy2 hy3) (by simp [hol]) (by simp) (by omega) hm2 hon (nums_scaleL (by omega) _ _) (by omega) (by simp [hol]) fun v h8 hE8 hF => ?_
        obtain ⟨z, rfl, hz1, hz2, hz3⟩ := hF
        simp [w4, hol]
        have nx5 := hEh.nx; have nx6 := hE6.nx; have nx7 := hE7.nx
        refine hK2 _ _ _ (by omega) ⟨j + 1, z, _, rfl, by omega, rfl, ((hE.trans hE6).trans hE7).trans hE8, ((hEh.trans hE6).trans hE7).trans hE8, by omega, hz2, hz3, by simp [hol], nums_addL (by omega) _ _, fun n hn => ?_⟩
        rw [put_step hn (hout n hn) hol]
        simp [ptI, sm_succ, Int.add_assoc]
    · have : j = (row T i).length := by omega
      subst this
      simp [q_spec_l03Put_0, r1, r3]
      refine hK3 _ _ fun e he => ?_
      simp at he; simp [he, w3]
      exact hK _ _ _ (by omega) ⟨i + 1, b, out, rfl, by omega, by simp, hE, hEh, hge, hnx, hbk, hol, hon, fun n hn => by rw [hout n hn]; rfl⟩
  · have : i = D + 1 := by omega
    subst this
    have g1 : ¬ ((D : Int) + 1 ≤ D) := by omega
    simp [q_spec_l03Put_1, g1]
    refine hK1 _ _ fun e he => ?_
    simp at he; rw [he]
    refine hR _ _ hEh ⟨b, by simp, hge, hnx, ?_⟩
    rw [hbk, show out = putL m D T f g from eq_tab hol hout]
end XM

/- Series and planes as values: l02Make, l03Make, l02Is, l02Curve, l03Is; the inverse of a law. -/
namespace XM
open Go

/-- A series or a plane: its modulus and its list. -/
abbrev sv (m : Int) (A : Option Addr) (n c : Nat) : Value := .agg #[i6 m, .slice A n c]

@[simp] theorem fill_sv (z0 z1 : Value) (m : Int) (A : Option Addr) (n c : Nat) : (fillX [z0, z1] [(0, 1, i6 m), (1, 1, .slice A n c)]).map (fun cs => Value.agg cs.toArray) = some (sv m A n c) := by simp [fillX]
@[simp] theorem fill_s1 (z0 : Value) (m : Int) (n c : Nat) (A : Option Addr) : (fillX [z0, .slice A n c] [(0, 1, i6 m)]).map (fun cs => Value.agg cs.toArray) = some (sv m A n c) := by simp [fillX]

theorem s_spec_l02Make {m : Int} {A : Option Addr} {n c : Nat} {h : Hp} {R : Value → Hp → Prop} (hR : ∀ h', HE h h' → R (sv m A n c) h') : CallW FF n_spec_l02Make [i6 m, .slice A n c] h R := by
  refine w_spec_l02Make ?_
  simp [p_spec_l02Make]
  refine newB_i fun b h1 eb en eh eB => ?_
  refine storeBox2 eB rfl rfl rfl rfl fun h2 u => ?_
  simp [(box2 u.bk).1]
  exact hR _ (u.he eh (by omega))

theorem s_spec_l03Make {m : Int} {A : Option Addr} {n c : Nat} {h : Hp} {R : Value → Hp → Prop} (hR : ∀ h', HE h h' → R (sv m A n c) h') : CallW FF n_spec_l03Make [i6 m, .slice A n c] h R := by
  refine w_spec_l03Make ?_
  simp [p_spec_l03Make]
  refine newB_i fun b h1 eb en eh eB => ?_
  refine storeBox2 eB rfl rfl rfl rfl fun h2 u => ?_
  simp [(box2 u.bk).1]
  exact hR _ (u.he eh (by omega))

/-- A list that is a series modulo m. -/
def IsS (m : Int) (xs : List Int) : Prop := (2 ≤ m ∧ m ≤ 10000) ∧ (2 ≤ xs.length ∧ xs.length ≤ 11) ∧ Nums m xs
instance (m : Int) (xs : List Int) : Decidable (IsS m xs) := inferInstanceAs (Decidable (_ ∧ _))

theorem s_spec_l02Is {m : Int} {A : Option Addr} {xs : List Int} {n c : Nat} {h : Hp} {R : Value → Hp → Prop} (hr : RI h A xs) (hn : n = xs.length) (hl : n ≤ 1000000)
    (hR : ∀ h', HE h h' → R (.bool (decide (IsS m xs))) h') : CallW FF n_spec_l02Is [sv m A n c] h R := by
  subst hn
  refine w_spec_l02Is ?_
  simp [p_spec_l02Is]
  refine newB_i fun b h1 eb en eh eB => ?_
  obtain ⟨b0, b1, b2⟩ := box2 eB
  simp [b1, b2]
  refine s_spec_l01Modulus ?_
  by_cases c1 : 2 ≤ m ∧ m ≤ 10000
  · simp [c1]
    refine s_spec_l01In ?_
    by_cases c2 : (2 : Int) ≤ xs.length ∧ (xs.length : Int) ≤ 11
    · simp [c2, b1, b2]
      refine s_spec_l01Numbers (hr.mono eh) (by omega) (by omega) (by unfold sizeMax; omega) ?_
      have : (IsS m xs) ↔ Nums m xs := ⟨fun h => h.2.2, fun h => ⟨c1, by omega, h⟩⟩
      have := hR _ eh
      simpa [*] using this
    · have : ¬ IsS m xs := fun h => c2 (by have := h.2.1; omega)
      have := hR _ eh
      simpa [*] using this
  · have : ¬ IsS m xs := fun h => c1 h.1
    have := hR _ eh
    simpa [*] using this
end XM

/- Curves, planes, columns: the reference's functions. -/
namespace XM
open Go

def IsC (m : Int) (xs : List Int) : Prop := IsS m xs ∧ gt xs 0 = 0
instance (m : Int) (xs : List Int) : Decidable (IsC m xs) := inferInstanceAs (Decidable (_ ∧ _))

theorem s_spec_l02Curve {m : Int} {A : Option Addr} {xs : List Int} {n c : Nat} {h : Hp} {R : Value → Hp → Prop} (hr : RI h A xs) (hn : n = xs.length) (hl : n ≤ 1000000)
    (hR : ∀ h', HE h h' → R (.bool (decide (IsC m xs))) h') : CallW FF n_spec_l02Curve [sv m A n c] h R := by
  subst hn
  refine w_spec_l02Curve ?_
  simp [p_spec_l02Curve]
  refine newB_i fun b h1 eb en eh eB => ?_
  simp [(box2 eB).1]
  refine s_spec_l02Is (hr.mono eh) rfl hl fun h2 e2 => ?_
  have hE := eh.trans e2
  have hb2 : h2.bk b = _ := (e2.bk b (by omega)).trans eB
  by_cases c1 : IsS m xs
  · have h0 : 0 < xs.length := by have := c1.2.1; omega
    obtain ⟨r1, r2⟩ := hr.rd (e := 0) (i := 0) (c := c) (k := .i64) rfl rfl h0
    have r3 := r2 _ hE
    have e : IsC m xs ↔ gt xs 0 = 0 := ⟨fun h => h.2, fun h => ⟨c1, h⟩⟩
    have := hR _ hE
    simpa [c1, (box2 hb2).2.2, r1, r3, e] using this
  · have e : ¬ IsC m xs := fun h => c1 h.1
    have := hR _ hE
    simpa [c1, e] using this

/-- A table that is a plane modulo m. -/
def IsP (m : Int) (T : List (List Int)) : Prop := (2 ≤ m ∧ m ≤ 10000) ∧ (2 ≤ T.length ∧ T.length ≤ 11) ∧ ∀ i, i < T.length → (row T i).length = T.length - i ∧ Nums m (row T i)
instance (m : Int) (T : List (List Int)) : Decidable (IsP m T) := inferInstanceAs (Decidable (_ ∧ _ ∧ ∀ i, i < T.length → _))

theorem s_spec_l03Is {m : Int} {A : Option Addr} {Rr : Nat → Option Addr} {T : List (List Int)} {n c : Nat} {h : Hp} {R : Value → Hp → Prop} (hr : RT h A Rr T) (hn : n = T.length) (hl : n ≤ 1000000) (hrl : ∀ i, i < T.length → (row T i).length ≤ 1000000)
    (hR : ∀ h', HE h h' → R (.bool (decide (IsP m T))) h') : CallW FF n_spec_l03Is [sv m A n c] h R := by
  subst hn
  refine w_spec_l03Is ?_
  simp [p_spec_l03Is]
  refine newB_i fun b h1 eb en eh eB => ?_
  obtain ⟨b0, b1, b2⟩ := box2 eB
  simp [b1, b2]
  refine s_spec_l01Modulus ?_
  by_cases c1 : 2 ≤ m ∧ m ≤ 10000
  case neg =>
    have e : ¬ IsP m T := fun h => c1 h.1
    have := hR _ eh
    simpa [c1, e] using this
  by_cases c2 : T.length < 2
  · have e : ¬ IsP m T := fun h => by have := h.2.1; omega
    have c2' : (T.length : Int) < 2 := by omega
    have := hR _ eh
    simpa [c1, c2', e] using this
  have c2' : ¬ (T.length : Int) < 2 := by omega
  by_cases c3 : 11 < T.length
  · have e : ¬ IsP m T := fun h => by have := h.2.1; omega
    have c3' : (11 : Int) < T.length := by omega
    have := hR _ eh
    simpa [c1, c2', c3', e] using this
  have c3' : ¬ (11 : Int) < T.length := by omega
  simp [c1, c2', c3']
  refine LP2 (fun d vs h' => ∃ i : Nat, d = T.length - i ∧ i ≤ T.length ∧ vs = [.pointer (some ⟨b, 0, none⟩), i6 T.length, i6 i] ∧ h' = h1 ∧ ∀ j, j < i → (row T j).length = T.length - j ∧ Nums m (row T j)) ?_ _ _ _
    ⟨0, rfl, by omega, rfl, rfl, by omega⟩
  rintro d vs h2 ⟨i, rfl, hi, rfl, rfl, hN⟩ K K1 K2 hK hK1 hK2
  refine wl_spec_l03Is_0 ?_
  by_cases hlt : i < T.length
  · obtain ⟨r1, r2⟩ := hr.rd (e := i) (c := c) (k := .i64) rfl rfl hlt
    have r3 := r2 _ eh
    have w1 : IntKind.i64.wrap ((T.length : Int) - i) = T.length - i := wrapI (by omega) (by omega)
    have w2 : IntKind.i64.wrap ((i : Int) + 1) = i + 1 := wrapI (by omega) (by omega)
    by_cases c4 : ((row T i).length : Int) = T.length - i
    · simp [q_spec_l03Is_0, hlt, b1, b2, r1, r3, w1, c4]
      refine s_spec_l01Numbers ((hr.rows i hlt).mono eh) (by omega) (by omega) (by have := hrl i hlt; unfold sizeMax; omega) ?_
      by_cases c5 : Nums m (row T i)
      · simp [c5, w2]
        refine hK _ _ _ (by omega) ⟨i + 1, rfl, by omega, rfl, rfl, fun j hj => ?_⟩
        by_cases hj2 : j = i
        · subst hj2; exact ⟨by omega, c5⟩
        · exact hN j (by omega)
      · simp [c5]
        refine hK2 _ _ fun e he => ?_
        have e1 : ¬ IsP m T := fun h => c5 (h.2.2 i hlt).2
        simp at he
        simpa [he, e1] using hR _ eh
    · simp [q_spec_l03Is_0, hlt, b1, b2, r1, r3, w1, c4]
      refine hK2 _ _ fun e he => ?_
      have e1 : ¬ IsP m T := fun h => c4 (by have := (h.2.2 i hlt).1; omega)
      simp at he
      simpa [he, e1] using hR _ eh
  · have : i = T.length := by omega
    subst this
    simp [q_spec_l03Is_0]
    refine hK1 _ _ fun _ => ?_
    have e1 : IsP m T := ⟨c1, by omega, hN⟩
    simpa [e1] using hR _ eh

def colL (T : List (List Int)) (j : Nat) : List Int := tab (T.length - j) fun i => gt (row T i) j

theorem s_spec_l04Column {A : Option Addr} {Rr : Nat → Option Addr} {T : List (List Int)} {j n c : Nat} {h : Hp} {R : Value → Hp → Prop} (hr : RT h A Rr T) (hn : n = T.length) (hl : n ≤ 1000000) (hj : j ≤ 1000000) (hrl : ∀ i, i < T.length → (row T i).length = T.length - i)
    (hR : ∀ v h', HE h h' → FI y_t_int64 h h' v (colL T j) → R v h') : CallW FF n_spec_l04Column [.slice A n c, i6 j] h R := by
  subst hn
  refine w_spec_l04Column ?_
  simp [p_spec_l04Column]
  refine newB_i fun b h1 eb en eh eB => ?_
  refine LP1 (fun d vs h' => ∃ i b : Nat, d = T.length - i ∧ i ≤ T.length - j ∧ vs = [.slice A T.length c, i6 j, .slice (some ⟨b, 0, none⟩) i 1, i6 i] ∧
     h'.bk b = some ⟨mapI (tab i fun i => gt (row T i) j), y_t_int64, true⟩ ∧ HE h h' ∧ h.nx ≤ b ∧ b < h'.nx)
    ?_ _ _ _ ⟨0, b, rfl, by omega, rfl, eB, eh, by omega, by omega⟩
  rintro d vs h2 ⟨i, b, rfl, hi, rfl, hbk, hE, hge, hnx⟩ K K1 hK hK1
  refine wl_spec_l04Column_0 ?_
  have w1 : IntKind.i64.wrap ((i : Int) + j) = i + j := wrapI (by omega) (by omega)
  by_cases hlt : i + j < T.length
  · have hlt' : (i : Int) + j < T.length := by omega
    obtain ⟨r1, r2⟩ := hr.rd (e := i) (c := c) (k := .i64) rfl rfl (show i < T.length by omega)
    have r3 := r2 _ hE
    obtain ⟨t1, t2⟩ := (hr.rows i (by omega)).rd (e := j) (n := (row T i).length) (c := 1) (k := .i64) rfl rfl (by rw [hrl i (by omega)]; omega)
    have t3 := t2 _ hE
    have w2 : IntKind.i64.wrap ((i : Int) + 1) = i + 1 := wrapI (by omega) (by omega)
    simp [q_spec_l04Column_0, hlt', r1, r3, t1, t3, w1, w2]
    refine pushI hbk hnx (by simp) (by unfold sizeMax; omega) fun b' h' u => ?_
    exact hK _ _ _ (by omega) ⟨i + 1, b', rfl, by omega, rfl, by rw [take_snoc]; exact u.bk, u.he hE hge, by have := u.ge; have := hE.nx; omega, u.lt⟩
  · have : i = T.length - j := by omega
    subst this
    have hlt' : ¬ (((T.length - j : Nat) : Int) + j < T.length) := by omega
    simp [q_spec_l04Column_0, w1, hlt']
    refine hK1 _ _ fun e he => ?_
    simp at he; rw [he]
    exact hR _ _ hE ⟨b, by simp [colL], hge, hnx, hbk⟩
end XM

/- Products of tables: l03Times. -/
namespace XM
open Go

def gt2 (T : List (List Int)) (i j : Nat) : Int := gt (row T i) j
def term (a b : List (List Int)) (i j x y : Nat) : Int := if i ≤ x ∧ j ≤ y then gt2 a i j * gt2 b (x - i) (y - j) else 0
def tE3 (N : Nat) (a b : List (List Int)) (i x y : Nat) : Int := sm i fun i' => sm (N - i') fun j' => term a b i' j' x y
def tE2 (N : Nat) (a b : List (List Int)) (i j x y : Nat) : Int := tE3 N a b i x y + sm j fun j' => term a b i j' x y
def tE1 (N : Nat) (a b : List (List Int)) (i j k x y : Nat) : Int := tE2 N a b i j x y + if x < i + k then term a b i j x y else 0
def tE0 (N : Nat) (a b : List (List Int)) (i j k l x y : Nat) : Int := tE2 N a b i j x y + if x < i + k ∨ (x = i + k ∧ y < j + l) then term a b i j x y else 0
/-- The product of two tables. -/
def mulT (m : Int) (N : Nat) (a b : List (List Int)) : List (List Int) := (List.range N).map fun x => tab (N - x) fun y => tE3 N a b N x y % m

/-- A triangle of N rows whose entries are those of E. -/
structure TS (m : Int) (N : Nat) (Z : List (List Int)) (E : Nat → Nat → Int) : Prop where
  len : Z.length = N
  rl : ∀ x, x < N → (row Z x).length = N - x
  en : ∀ x y, x + y < N → gt2 Z x y = E x y % m
theorem TS.congr {m : Int} {N : Nat} {Z : List (List Int)} {E E' : Nat → Nat → Int} (t : TS m N Z E) (h : ∀ x y, x + y < N → E x y = E' x y) : TS m N Z E' := ⟨t.len, t.rl, fun x y hx => by rw [t.en x y hx, h x y hx]⟩

theorem row_ztab {D n i : Nat} (h : i < n) : row (ztab D n) i = List.replicate (D - i + 1) 0 := by
  induction n with
  | zero => omega
  | succ n ih =>
    rw [ztab, row_app, ztab_len]
    by_cases h2 : i < n
    · rw [if_pos h2, ih h2]
    · rw [if_neg h2, if_pos (by omega), show i = n by omega]

theorem table_ext {T U : List (List Int)} (h : T.length = U.length) (hr : ∀ i, i < T.length → row T i = row U i) : T = U := by
  apply List.ext_getElem h
  intro i h1 h2
  have := hr i h1
  simpa [row, h1, h2] using this

theorem TS.eq {m : Int} {N : Nat} {Z a b : List (List Int)} (t : TS m N Z (tE3 N a b N)) : Z = mulT m N a b := by
  refine table_ext (by simp [mulT, t.len]) fun i hi => ?_
  have hi' : i < N := by rw [← t.len]; exact hi
  have e : row (mulT m N a b) i = tab (N - i) fun y => tE3 N a b N i y % m := by simp [row, mulT, hi']
  rw [e]
  exact eq_tab (t.rl i hi') fun y hy => t.en i y (by omega)

theorem s_spec_l03Times {m : Int} {A B : Option Addr} {Ra Rb : Nat → Option Addr} {a b : List (List Int)} {N na nb ca cb : Nat} {h : Hp} {R : Value → Hp → Prop} (ha : RT h A Ra a) (hb : RT h B Rb b) (hna : na = N) (hnb : nb = N) (hla : a.length = N) (hlb : b.length = N)
    (hra : ∀ i, i < N → (row a i).length = N - i ∧ Nums m (row a i)) (hrb : ∀ i, i < N → (row b i).length = N - i ∧ Nums m (row b i)) (hm : 0 < m) (hm2 : m ≤ 3000000000) (hN : 1 ≤ N) (hN2 : N ≤ 100000)
    (hR : ∀ v h', HE h h' → FT h h' v (mulT m N a b) → R v h') : CallW FF n_spec_l03Times [i6 m, .slice A na ca, .slice B nb cb] h R := by
  subst hna; subst hnb
  refine w_spec_l03Times ?_
  have m0 : ¬ m = 0 := by omega
  have w1 : IntKind.i64.wrap ((nb : Int) - 1) = ((nb - 1 : Nat) : Int) := by rw [wrapI] <;> omega
  simp [p_spec_l03Times, w1]
  refine s_spec_l03Zero (by omega) fun v h1 hE1 hF => ?_
  obtain ⟨bo, rb, rfl, hT⟩ := hF
  simp only [ztab_len, show nb - 1 + 1 = nb by omega] at hT ⊢
  generalize hNe : nb = N at *
  -- i
  refine LP1 (fun d vs h' => ∃ (i : Nat) (Z : List (List Int)), d = N - i ∧ i ≤ N ∧ vs = [i6 m, .slice A N ca, .slice B N cb, i6 N, .slice (some ⟨bo, 0, none⟩) N 1, i6 i] ∧ HE h h' ∧ OT h.nx h' bo rb Z ∧ TS m N Z (tE3 N a b i)) ?_ _ _ _
    ⟨0, ztab (N - 1) N, rfl, by omega, rfl, hE1, hT, by simp, fun x hx => by rw [row_ztab hx]; simp; omega, fun x y hxy => by rw [gt2, row_ztab (by omega), rep_tab, gt_tab (by omega)]; simp [tE3, sm]⟩
  rintro d vs h2 ⟨i, Z, rfl, hi, rfl, hE, hO, hZ⟩ K K1 hK hK1
  refine wl_spec_l03Times_3 ?_
  by_cases hiN : i < N
  case neg =>
    have : i = N := by omega
    subst this
    simp [q_spec_l03Times_3]
    refine hK1 _ _ fun e he => ?_
    simp at he; rw [he]
    exact hR _ _ hE ⟨bo, rb, by simp [mulT], by rw [← hZ.eq]; exact hO⟩
  have wi : IntKind.i64.wrap ((i : Int) + 1) = i + 1 := wrapI (by omega) (by omega)
  simp [q_spec_l03Times_3, hiN]
  -- j
  refine LP1 (fun d vs h' => ∃ (j : Nat) (Z : List (List Int)), d = N - j ∧ i + j ≤ N ∧ vs = [i6 m, .slice A N ca, .slice B N cb, i6 N, .slice (some ⟨bo, 0, none⟩) N 1, i6 i, i6 j] ∧ HE h h' ∧ OT h.nx h' bo rb Z ∧ TS m N Z (tE2 N a b i j)) ?_ _ _ _
    ⟨0, Z, rfl, by omega, rfl, hE, hO, hZ.congr fun x y _ => by simp [tE2, sm]⟩
  clear hE hO hZ Z
  rintro d vs h3 ⟨j, Z, rfl, hj, rfl, hE, hO, hZ⟩ K2 K3 hK2 hK3
  refine wl_spec_l03Times_2 ?_
  have wij : IntKind.i64.wrap ((i : Int) + j) = i + j := wrapI (by omega) (by omega)
  have wj : IntKind.i64.wrap ((j : Int) + 1) = j + 1 := wrapI (by omega) (by omega)
  by_cases hijN : i + j < N
  case neg =>
    have hijN' : ¬ (i : Int) + j < N := by omega
    simp [q_spec_l03Times_2, wij, hijN']
    refine hK3 _ _ fun e he => ?_
    simp at he; simp [he, wi]
    refine hK _ _ _ (by omega) ⟨i + 1, Z, rfl, by omega, rfl, hE, hO, hZ.congr fun x y _ => ?_⟩
    rw [tE2, tE3, tE3, sm_succ, show j = N - i by omega]
  have hijN' : (i : Int) + j < N := by omega
  obtain ⟨r1, r2⟩ := ha.rd (e := i) (n := N) (c := ca) (k := .i64) rfl hla.symm (by omega)
  have r3 := r2 _ hE
  have hai := hra i hiN
  obtain ⟨s1, s2⟩ := (ha.rows i (by omega)).rd (e := j) (n := (row a i).length) (c := 1) (k := .i64) rfl rfl (by omega)
  have s3 := s2 _ hE
  have bA := hai.2.gt (show j < (row a i).length by omega)
  by_cases h0 : gt (row a i) j = 0
  · simp [q_spec_l03Times_2, wij, hijN', r1, r3, s1, s3, h0, wj]
    refine hK2 _ _ _ (by omega) ⟨j + 1, Z, rfl, by omega, rfl, hE, hO, hZ.congr fun x y _ => ?_⟩
    rw [tE2, tE2, sm_succ]
    have : term a b i j x y = 0 := by unfold term gt2; rw [h0]; simp
    omega
  simp [q_spec_l03Times_2, wij, hijN', r1, r3, s1, s3, h0]
  -- k
  refine LP1 (fun d vs h' => ∃ (k : Nat) (Z : List (List Int)), d = N - k ∧ i + j + k ≤ N ∧ vs = [i6 m, .slice A N ca, .slice B N cb, i6 N, .slice (some ⟨bo, 0, none⟩) N 1, i6 i, i6 j, i6 k] ∧ HE h h' ∧ OT h.nx h' bo rb Z ∧ TS m N Z (tE1 N a b i j k)) ?_ _ _ _
    ⟨0, Z, rfl, by omega, rfl, hE, hO, hZ.congr fun x y _ => by
      unfold tE1 term
      split
      · rw [if_neg (by omega)]; simp
      · simp⟩
  clear hE hO hZ Z r3 s3
  rintro d vs h4 ⟨k, Z, rfl, hk, rfl, hE, hO, hZ⟩ K4 K5 hK4 hK5
  refine wl_spec_l03Times_1 ?_
  have wijk : IntKind.i64.wrap ((i : Int) + j + k) = i + j + k := wrapI (by omega) (by omega)
  have wik : IntKind.i64.wrap ((i : Int) + k) = i + k := wrapI (by omega) (by omega)
  have wk : IntKind.i64.wrap ((k : Int) + 1) = k + 1 := wrapI (by omega) (by omega)
  by_cases hijk : i + j + k < N
  case neg =>
    have hijk' : ¬ (i : Int) + j + k < N := by omega
    simp [q_spec_l03Times_1, wij, wijk, hijk']
    refine hK5 _ _ fun e he => ?_
    simp at he; simp [he, wj]
    refine hK2 _ _ _ (by omega) ⟨j + 1, Z, rfl, by omega, rfl, hE, hO, hZ.congr fun x y hxy => ?_⟩
    rw [tE1, tE2, tE2, sm_succ, Int.add_assoc]
    congr 2
    split
    · rfl
    · unfold term; rw [if_neg (by omega)]
  have hijk' : (i : Int) + j + k < N := by omega
  have hZk := hO.rt.rd (e := (i : Int) + k) (i := i + k) (n := N) (c := 1) (k := .i64) (by omega) hZ.len.symm (by rw [hZ.len]; omega)
  have hZk3 := hZk.2 _ (HE.refl _)
  rw [hZ.rl _ (by omega)] at hZk3
  obtain ⟨t1, t2⟩ := hb.rd (e := k) (n := N) (c := cb) (k := .i64) rfl hlb.symm (by omega)
  have t3 := t2 _ hE
  have hbk := hrb k (by omega)
  rw [hbk.1] at t3
  simp [q_spec_l03Times_1, wij, wijk, hijk', wik, hZk.1, hZk3, t1, t3]
  -- l
  refine LP1 (fun d vs h' => ∃ (l : Nat) (Z : List (List Int)), d = N - l ∧ i + j + k + l ≤ N ∧ vs = [i6 m, .slice A N ca, .slice B N cb, i6 N, .slice (some ⟨bo, 0, none⟩) N 1, i6 i, i6 j, i6 k, .slice (some ⟨rb (i + k), 0, none⟩) (N - (i + k)) 1, .slice (Rb k) (N - k) 1, i6 l] ∧
     HE h h' ∧ OT h.nx h' bo rb Z ∧ TS m N Z (tE0 N a b i j k l)) ?_ _ _ _
    ⟨0, Z, rfl, by omega, rfl, hE, hO, hZ.congr fun x y _ => by
      unfold tE1 tE0
      congr 1
      by_cases hx : x < i + k
      · rw [if_pos hx, if_pos (.inl hx)]
      · rw [if_neg hx]
        split
        · unfold term; rw [if_neg (by omega)]
        · rfl⟩
  clear hE hO hZ Z hZk hZk3 t3
  rintro d vs h5 ⟨l, Z, rfl, hl, rfl, hE, hO, hZ⟩ K6 K7 hK6 hK7
  refine wl_spec_l03Times_0 ?_
  have wl : IntKind.i64.wrap ((i : Int) + j + k + l) = i + j + k + l := wrapI (by omega) (by omega)
  have wl1 : IntKind.i64.wrap ((l : Int) + 1) = l + 1 := wrapI (by omega) (by omega)
  by_cases hg : i + j + k + l < N
  case neg =>
    have hg' : ¬ (i : Int) + j + k + l < N := by omega
    simp [q_spec_l03Times_0, wij, wijk, wl, hg']
    refine hK7 _ _ fun e he => ?_
    simp at he; simp [he, wk]
    refine hK4 _ _ _ (by omega) ⟨k + 1, Z, rfl, by omega, rfl, hE, hO, hZ.congr fun x y hxy => ?_⟩
    unfold tE1 tE0
    congr 1
    by_cases hx : x < i + (k + 1)
    · rw [if_pos hx, if_pos (by omega)]
    · rw [if_neg hx, if_neg (by omega)]
  have hg' : (i : Int) + j + k + l < N := by omega
  have r3 := r2 _ hE
  have s3 := s2 _ hE
  have wjl : IntKind.i64.wrap ((j : Int) + l) = j + l := wrapI (by omega) (by omega)
  obtain ⟨u1, u2⟩ := (hb.rows k (by omega)).rd (e := l) (n := N - k) (c := 1) (k := .i64) rfl hbk.1.symm (by omega)
  have u3 := u2 _ hE
  have bB := hbk.2.gt (show l < (row b k).length by omega)
  have hik : i + k < Z.length := by rw [hZ.len]; omega
  have hrow := hO.rows (i + k) hik
  have hrl := hZ.rl (i + k) (by omega)
  have x1 : indexAddrV 1 (.slice (some ⟨rb (i + k), 0, none⟩) (N - (i + k)) 1) (.int .i64 ((j : Int) + l)) = some (.pointer (some ⟨rb (i + k), j + l, none⟩)) := ixOwn (by omega) (by omega)
  have x2 := ownRd (n := 0) (c := 0) hrow (show j + l < _ by omega)
  have bm := mul_bd hm2 bA bB
  have hz := hZ.en (i + k) (j + l) (by omega)
  have bz : 0 ≤ gt (row Z (i + k)) (j + l) ∧ gt (row Z (i + k)) (j + l) < m := by
    have := mod_bd hm (tE0 N a b i j k l (i + k) (j + l)); rw [← hz] at this; exact this
  have w7 : IntKind.i64.wrap (gt (row a i) j * gt (row b k) l) = gt (row a i) j * gt (row b k) l := wrapI (by omega) (by omega)
  have w8 : IntKind.i64.wrap (gt (row Z (i + k)) (j + l) + gt (row a i) j * gt (row b k) l) = gt (row Z (i + k)) (j + l) + gt (row a i) j * gt (row b k) l := wrapI (by omega) (by omega)
  simp [q_spec_l03Times_0, wij, wijk, wl, hg', wjl, x1, x2, r1, r3, s1, s3, u1, u3, w7, w8, m0, wl1, Int.tmod_eq_emod_of_nonneg (show 0 ≤ gt (row Z (i + k)) (j + l) + gt (row a i) j * gt (row b k) l by omega)]
  refine storeI (i := j + l) hrow (by omega) fun h6 u => ?_
  refine hK6 _ _ _ (by omega) ⟨l + 1, _, rfl, by omega, rfl, u.he hE (hO.lor _ hik), hO.set hik (by simp) u, by simp [hZ.len], fun x hx => ?_, fun x y hxy => ?_⟩
  · rw [row_set]; split
    · rename_i hc; rw [List.length_set, ← hc.1]; exact hrl
    · exact hZ.rl x hx
  · unfold gt2
    rw [row_set]
    by_cases hx : i + k = x
    · subst hx
      rw [if_pos ⟨rfl, hik⟩, gt_set]
      by_cases hy : j + l = y
      · subst hy
        rw [if_pos ⟨rfl, by omega⟩]
        have : gt (row Z (i + k)) (j + l) = gt2 Z (i + k) (j + l) := rfl
        rw [this, hz, Int.emod_add_emod]
        unfold tE0
        rw [if_neg (by omega), if_pos (by omega)]
        unfold term
        rw [if_pos (by omega), show i + k - i = k by omega, show j + l - j = l by omega]
        unfold gt2; simp
      · rw [if_neg (by omega)]
        have := hZ.en (i + k) y hxy
        unfold gt2 at this; rw [this]
        unfold tE0
        by_cases hy2 : y < j + l
        · rw [if_pos (by omega), if_pos (by omega)]
        · rw [if_neg (by omega), if_neg (by omega)]
    · rw [if_neg (by omega)]
      have := hZ.en x y hxy
      unfold gt2 at this; rw [this]
      unfold tE0
      by_cases hx2 : x < i + k
      · rw [if_pos (by omega), if_pos (by omega)]
      · rw [if_neg (by omega), if_neg (by omega)]
end XM

/- A series of a table: l03After. -/
namespace XM
open Go

def addT0 (m : Int) (Z : List (List Int)) (c : Int) : List (List Int) := Z.set 0 ((row Z 0).set 0 ((gt2 Z 0 0 + c) % m))
def hornT (m : Int) (N : Nat) (f : List Int) (T : List (List Int)) (s : Nat) : Nat → List (List Int)
  | 0 => ztab (N - 1) N
  | k + 1 => addT0 m (mulT m N (hornT m N f T s k) T) (gt f (s - k))
/-- f(T), by Horner's rule. -/
def afterT (m : Int) (N : Nat) (f : List Int) (T : List (List Int)) : List (List Int) := hornT m N f T (f.length - 1) f.length
@[simp] theorem mulT_len (m : Int) (N : Nat) (a b : List (List Int)) : (mulT m N a b).length = N := by simp [mulT]
theorem row_mulT {m : Int} {N : Nat} {a b : List (List Int)} {i : Nat} (h : i < N) : row (mulT m N a b) i = tab (N - i) fun y => tE3 N a b N i y % m := by simp [row, mulT, h]
theorem addT0_len (m : Int) (Z : List (List Int)) (c : Int) : (addT0 m Z c).length = Z.length := by simp [addT0]
@[simp] theorem hornT_len (m : Int) (N : Nat) (f : List Int) (T : List (List Int)) (s k : Nat) : (hornT m N f T s k).length = N := by cases k <;> simp [hornT, addT0_len]
theorem hornT_row {m : Int} (hm : 0 < m) {N : Nat} {f : List Int} {T : List (List Int)} {s k : Nat} : ∀ i, i < N → (row (hornT m N f T s k) i).length = N - i ∧ Nums m (row (hornT m N f T s k) i) := by
  intro i hi
  cases k with
  | zero => rw [hornT, row_ztab hi]; exact ⟨by simp; omega, nums_rep hm _⟩
  | succ k =>
    have e := row_mulT (m := m) (a := hornT m N f T s k) (b := T) hi
    have e0 := row_mulT (m := m) (a := hornT m N f T s k) (b := T) (show 0 < N by omega)
    have hn : ∀ j, j < N → Nums m (row (mulT m N (hornT m N f T s k) T) j) := fun j hj => by rw [row_mulT hj]; exact nums_tab hm
    rw [hornT, addT0, row_set]
    split
    · rename_i hc
      refine ⟨by rw [List.length_set, e0, tab_len]; omega, ?_⟩
      exact nums_addC hm (hn 0 (by omega)) _
    · exact ⟨by rw [e, tab_len], hn i hi⟩

theorem s_spec_l03After {m : Int} {A B : Option Addr} {Rb : Nat → Option Addr} {f : List Int} {T : List (List Int)} {N nf nb ca cb : Nat} {h : Hp} {R : Value → Hp → Prop} (hf : RI h A f) (hb : RT h B Rb T) (hnf : nf = f.length) (hnb : nb = N) (hlb : T.length = N)
    (hrb : ∀ i, i < N → (row T i).length = N - i ∧ Nums m (row T i)) (hm : 0 < m) (hm2 : m ≤ 3000000000) (hN : 1 ≤ N) (hN2 : N ≤ 100000) (hfl : f.length ≤ 100000) (hfn : Nums m f)
    (hR : ∀ v h', HE h h' → FT h h' v (afterT m N f T) → R v h') : CallW FF n_spec_l03After [i6 m, .slice A nf ca, .slice B nb cb] h R := by
  subst hnf; subst hnb
  refine w_spec_l03After ?_
  have m0 : ¬ m = 0 := by omega
  have w1 : IntKind.i64.wrap ((nb : Int) - 1) = ((nb - 1 : Nat) : Int) := by rw [wrapI] <;> omega
  have w2 : IntKind.i64.wrap ((f.length : Int) - 1) = f.length - 1 := wrapI (by omega) (by omega)
  simp [p_spec_l03After, w1]
  refine s_spec_l03Zero (by omega) fun v h1 hE1 hF => ?_
  obtain ⟨bo, rb, rfl, hT⟩ := hF
  simp only [ztab_len, show nb - 1 + 1 = nb by omega] at hT ⊢
  simp [w2]
  refine LP1 (fun d vs h' => ∃ (k bo : Nat) (rb : Nat → Nat), d = f.length - k ∧ k ≤ f.length ∧ vs = [i6 m, .slice A f.length ca, .slice B nb cb, .slice (some ⟨bo, 0, none⟩) nb 1, i6 ((f.length : Int) - 1 - k)] ∧ HE h h' ∧
     OT h.nx h' bo rb (hornT m nb f T (f.length - 1) k)) ?_ _ _ _ ⟨0, bo, rb, rfl, by omega, by simp, hE1, hT⟩
  clear hT hE1
  rintro d vs h2 ⟨k, bo, rb, rfl, hk, rfl, hE, hO⟩ K K1 hK hK1
  refine wl_spec_l03After_0 ?_
  by_cases hlt : k < f.length
  · have g1 : (k : Int) ≤ (f.length : Int) - 1 := by omega
    have g2 : (0 : Int) ≤ (f.length : Int) - 1 - k := by omega
    have w3 : IntKind.i64.wrap ((f.length : Int) - 1 - k - 1) = f.length - 1 - k - 1 := wrapI (by omega) (by omega)
    have hz := hornT_row (m := m) hm (N := nb) (f := f) (T := T) (s := f.length - 1) (k := k)
    simp [q_spec_l03After_0, g1, g2]
    refine s_spec_l03Times hO.rt (hb.mono hE) rfl rfl (by simp) hlb hz hrb hm hm2 hN hN2 fun v h3 hE3 hF => ?_
    obtain ⟨bq, rq, rfl, hQ⟩ := hF
    have r0 : row (mulT m nb (hornT m nb f T (f.length - 1) k) T) 0 = tab nb fun y => tE3 nb (hornT m nb f T (f.length - 1) k) T nb 0 y % m := by rw [row_mulT (by omega)]; rfl
    have l0 : (row (mulT m nb (hornT m nb f T (f.length - 1) k) T) 0).length = nb := by rw [r0, tab_len]
    obtain ⟨r1, r2⟩ := hQ.rt.rd (e := 0) (i := 0) (n := nb) (c := 1) (k := .i64) rfl (by simp) (by simp; omega)
    have r3 := r2 _ (HE.refl _)
    rw [l0] at r3
    have hrow := hQ.rows 0 (by simp; omega)
    have x1 : indexAddrV 1 (.slice (some ⟨rq 0, 0, none⟩) nb 1) (.int .i64 0) = some (.pointer (some ⟨rq 0, 0, none⟩)) := ixOwn (i := 0) rfl (by omega)
    have x2 := ownRd (n := 0) (c := 0) hrow (show 0 < _ by omega)
    obtain ⟨t1, t2⟩ := hf.rd (e := (f.length : Int) - 1 - k) (i := f.length - 1 - k) (n := f.length) (c := ca) (k := .i64) (by omega) rfl (by omega)
    have t3 := t2 _ (hE.trans hE3)
    have bf := hfn.gt (show f.length - 1 - k < f.length by omega)
    have bz : 0 ≤ gt (row (mulT m nb (hornT m nb f T (f.length - 1) k) T) 0) 0 ∧ gt (row (mulT m nb (hornT m nb f T (f.length - 1) k) T) 0) 0 < m := by rw [r0, gt_tab (by omega)]; exact mod_bd hm _
    have w4 : IntKind.i64.wrap (gt (row (mulT m nb (hornT m nb f T (f.length - 1) k) T) 0) 0 + gt f (f.length - 1 - k)) = gt (row (mulT m nb (hornT m nb f T (f.length - 1) k) T) 0) 0 + gt f (f.length - 1 - k) := wrapI (by omega) (by omega)
    have lq : (mulT m nb (hornT m nb f T (f.length - 1) k) T).length = nb := by simp
    simp [r1, r3, x1, x2, t1, t3, w3, w4, m0, Int.tmod_eq_emod_of_nonneg (show 0 ≤ gt (row (mulT m nb (hornT m nb f T (f.length - 1) k) T) 0) 0 + gt f (f.length - 1 - k) by omega)]
    refine storeI (i := 0) hrow (by omega) fun h4 u => ?_
    have hQ' : OT h.nx h3 bq rq (mulT m nb (hornT m nb f T (f.length - 1) k) T) := ⟨by have := hQ.lob; have := hE.nx; omega, hQ.ltb, hQ.top, fun i hi => by have := hQ.lor i hi; have := hE.nx; omega, hQ.ltr, hQ.ne, hQ.rows, hQ.inj⟩
    refine hK _ _ _ (by omega) ⟨k + 1, bq, rq, rfl, by omega, by simp; omega, u.he (hE.trans hE3) (hQ'.lor 0 (by simp; omega)), hQ'.set (by simp; omega) (by simp) u⟩
  · have : k = f.length := by omega
    subst this
    have g1 : ¬ ((f.length : Int) ≤ (f.length : Int) - 1) := by omega
    have g2 : ¬ ((0 : Int) ≤ (f.length : Int) - 1 - f.length) := by omega
    simp [q_spec_l03After_0, g1, g2]
    refine hK1 _ _ fun e he => ?_
    simp at he; rw [he]
    exact hR _ _ hE ⟨bo, rb, by simp [afterT], hO⟩
end XM

/- The inverse of a law, opposites and multiples: the reference's functions. -/
namespace XM
open Go

/-- The coefficients of t. -/
def varL (D : Nat) : List Int := (List.replicate (D + 1) (0 : Int)).set 1 1
@[simp] theorem varL_len (D : Nat) : (varL D).length = D + 1 := by simp [varL]
theorem nums_varL {m : Int} (hm : 2 ≤ m) (D : Nat) : Nums m (varL D) := by
  rw [nums_iff]; intro i hi
  unfold varL; rw [gt_set]
  split
  · omega
  · rw [rep_tab, gt_tab']; split <;> omega
def invS (m : Int) (D : Nat) (T : List (List Int)) : Nat → List Int
  | 0 => List.replicate (D + 1) 0
  | n + 1 => (invS m D T n).set (n + 1) (-gt (putL m D T (varL D) (invS m D T n)) (n + 1) % m)
def invL (m : Int) (D : Nat) (T : List (List Int)) : List Int := invS m D T D
@[simp] theorem invS_len (m : Int) (D : Nat) (T : List (List Int)) (n : Nat) : (invS m D T n).length = D + 1 := by induction n with | zero => simp [invS] | succ n ih => simp [invS, ih]
@[simp] theorem invL_len (m : Int) (D : Nat) (T : List (List Int)) : (invL m D T).length = D + 1 := invS_len _ _ _ _
theorem nums_set {m : Int} {xs : List Int} (h : Nums m xs) {i : Nat} {v : Int} (hv : 0 ≤ v ∧ v < m) : Nums m (xs.set i v) := by
  rw [nums_iff]; intro j hj
  rw [gt_set]; split
  · exact hv
  · exact h.gt (by simpa using hj)
theorem nums_invS {m : Int} (hm : 0 < m) (D : Nat) (T : List (List Int)) (n : Nat) : Nums m (invS m D T n) := by
  induction n with
  | zero => exact nums_rep hm _
  | succ n ih => exact nums_set ih (mod_bd hm _)

/-- A table with the rows that l03Put asks for. -/
structure Tri (m : Int) (D : Nat) (T : List (List Int)) : Prop where
  len : T.length = D + 1
  rows : ∀ i, i < T.length → (row T i).length = D + 1 - i ∧ Nums m (row T i)

theorem s_spec_l04Inverse {m : Int} {A : Option Addr} {Ra : Nat → Option Addr} {T : List (List Int)} {D n c : Nat} {h : Hp} {R : Value → Hp → Prop} (hT : RT h A Ra T) (hn : n = D + 1) (t : Tri m D T) (hm : 2 ≤ m) (hm2 : m ≤ 3000000000) (hD : D ≤ 100000) (hD1 : 1 ≤ D)
    (hR : ∀ v h', HE h h' → FI y_t_int64 h h' v (invL m D T) → R v h') : CallW FF n_spec_l04Inverse [sv m A n c] h R := by
  subst hn
  refine w_spec_l04Inverse ?_
  have m0 : ¬ m = 0 := by omega
  have w1 : IntKind.i64.wrap (D : Int) = D := wrapI (by omega) (by omega)
  have w2 : IntKind.i64.wrap ((D : Int) + 1) = D + 1 := wrapI (by omega) (by omega)
  have mk : makN (.int .i64 ((D : Int) + 1)) = some (D + 1) := makN_nat (by omega) (by unfold sizeMax; omega)
  simp [p_spec_l04Inverse]
  refine newB_i fun b h1 eb en eh eB => ?_
  obtain ⟨b0, b1, b2⟩ := box2 eB
  simp [b2, w1, w2, mk, mapI_rep]
  refine newB_i fun o h2 eo en2 eh2 eO => ?_
  refine newB_i fun v h3 ev en3 eh3 eV => ?_
  have q1 : indexAddrV 1 (.slice (some ⟨v, 0, none⟩) (D + 1) 1) (.int .i64 1) = some (.pointer (some ⟨v, 1, none⟩)) := ixOwn (i := 1) rfl (by omega)
  simp [q1]
  refine storeI (i := 1) eV (by simp; omega) fun h4 u => ?_
  have hE4 : HE h h4 := u.he ((eh.trans eh2).trans eh3) (by omega)
  have nx4 := u.nx
  refine LP1 (fun d vs h' => ∃ k : Nat, d = D - k ∧ k ≤ D ∧ vs = [.pointer (some ⟨b, 0, none⟩), i6 D, .slice (some ⟨o, 0, none⟩) (D + 1) 1, .slice (some ⟨v, 0, none⟩) (D + 1) 1, i6 ((k : Int) + 1)] ∧ HE h h' ∧ h4.nx ≤ h'.nx ∧
      h'.bk b = some ⟨[i6 m, .slice A (D + 1) c], y_t_impl_Plane, true⟩ ∧ h'.bk v = some ⟨mapI (varL D), y_t_int64, true⟩ ∧ h'.bk o = some ⟨mapI (invS m D T k), y_t_int64, true⟩) ?_ _ _ _
    ⟨0, rfl, by omega, by simp, hE4, Nat.le_refl _, by rw [u.ot _ (by omega), eh3.bk _ (by omega), eh2.bk _ (by omega)]; exact eB, u.bk, by rw [u.ot _ (by omega), eh3.bk _ (by omega)]; exact eO⟩
  rintro d vs h5 ⟨k, rfl, hk, rfl, hE, hnx, hb, hv, ho⟩ K K1 hK hK1
  refine wl_spec_l04Inverse_0 ?_
  obtain ⟨c0, c1, c2⟩ := box2 hb
  by_cases hlt : k < D
  · have g1 : (k : Int) + 1 ≤ D := by omega
    have w3 : IntKind.i64.wrap ((k : Int) + 1 + 1) = k + 1 + 1 := wrapI (by omega) (by omega)
    simp [q_spec_l04Inverse_0, g1, c1, c2]
    refine s_spec_l03Put (hT.mono hE) (RI.of_block (by omega) hv) (RI.of_block (by omega) ho) rfl t.len (by simp) (by simp) (fun i hi => by have := (t.rows i hi).1; omega) (fun i hi => (t.rows i hi).2) hm hm2 (nums_varL hm D) (nums_invS (by omega) D T k) hD fun w h6 hE6 hF => ?_
    obtain ⟨q, rfl, hq1, hq2, hq3⟩ := hF
    obtain ⟨d0, d1, d2⟩ := box2 ((hE6.bk b (by omega)).trans hb)
    have x1 : indexAddrV 1 (.slice (some ⟨q, 0, none⟩) (D + 1) 1) (.int .i64 ((k : Int) + 1)) = some (.pointer (some ⟨q, k + 1, none⟩)) := ixOwn (by omega) (by omega)
    have x2 := ownRd (n := 0) (c := 0) hq3 (show k + 1 < _ by simp; omega)
    have x3 : indexAddrV 1 (.slice (some ⟨o, 0, none⟩) (D + 1) 1) (.int .i64 ((k : Int) + 1)) = some (.pointer (some ⟨o, k + 1, none⟩)) := ixOwn (by omega) (by omega)
    have bz := (nums_putL (m := m) (by omega) D T (varL D) (invS m D T k)).gt (show k + 1 < _ by simp; omega)
    have w4 : IntKind.i64.wrap (m - gt (putL m D T (varL D) (invS m D T k)) (k + 1)) = m - gt (putL m D T (varL D) (invS m D T k)) (k + 1) := wrapI (by omega) (by omega)
    simp [d1, x1, x2, x3, w3, w4, m0, Int.tmod_eq_emod_of_nonneg (show 0 ≤ m - gt (putL m D T (varL D) (invS m D T k)) (k + 1) by omega)]
    have ho6 := (hE6.bk o (by omega)).trans ho
    refine storeI (i := k + 1) ho6 (by simp; omega) fun h7 u7 => ?_
    have nx6 := hE6.nx; have nx7 := u7.nx
    exact hK _ _ _ (by omega) ⟨k + 1, rfl, by omega, by simp, u7.he (hE.trans hE6) (by omega), by omega, by rw [u7.ot _ (by omega), hE6.bk _ (by omega)]; exact hb, by rw [u7.ot _ (by omega), hE6.bk _ (by omega)]; exact hv, u7.bk⟩
  · have : k = D := by omega
    subst this
    have g1 : ¬ ((k : Int) + 1 ≤ k) := by omega
    simp [q_spec_l04Inverse_0, g1]
    refine hK1 _ _ fun e he => ?_
    simp at he; rw [he]
    exact hR _ _ hE ⟨o, by simp, by omega, by omega, ho⟩
end XM

/- Opposites and multiples: the reference's functions. -/
namespace XM
open Go

def compL (m : Int) (D : Nat) (a f : List Int) : List Int := horn m D a f (min (a.length - 1) D) (min (a.length - 1) D + 1)
@[simp] theorem compL_len (m : Int) (D : Nat) (a f : List Int) : (compL m D a f).length = D + 1 := by simp [compL]
theorem nums_compL {m : Int} (hm : 0 < m) (D : Nat) (a f : List Int) : Nums m (compL m D a f) := nums_horn hm _ _ _ _ _
def oppL (m : Int) (D : Nat) (T : List (List Int)) (a : List Int) : List Int := compL m D (invL m D T) a

theorem s_spec_l04Opposite {m : Int} {A B : Option Addr} {Ra : Nat → Option Addr} {T : List (List Int)} {a : List Int} {D n n2 c c2 : Nat} {h : Hp} {R : Value → Hp → Prop} (hT : RT h A Ra T) (ha : RI h B a) (hn : n = D + 1) (hn2 : n2 = D + 1) (t : Tri m D T) (hm : 2 ≤ m) (hm2 : m ≤ 3000000000)
    (hD : D ≤ 90000) (hD1 : 1 ≤ D) (hal : a.length = D + 1) (hx : Nums m a)
    (hR : ∀ v h', HE h h' → FI y_t_int64 h h' v (oppL m D T a) → R v h') : CallW FF n_spec_l04Opposite [sv m A n c, .slice B n2 c2] h R := by
  subst hn; subst hn2
  refine w_spec_l04Opposite ?_
  have w1 : IntKind.i64.wrap (D : Int) = D := wrapI (by omega) (by omega)
  simp [p_spec_l04Opposite]
  refine newB_i fun b h1 eb en eh eB => ?_
  obtain ⟨b0, b1, b2⟩ := box2 eB
  simp [b0, b1, show b < h1.nx by omega]
  refine s_spec_l04Inverse (hT.mono eh) rfl t hm hm2 (by omega) hD1 fun v h2 hE2 hF => ?_
  obtain ⟨q, rfl, hq1, hq2, hq3⟩ := hF
  refine ⟨hE2.keep, ?_⟩
  simp [w1]
  refine s_spec_l02Compose (RI.of_block hq2 hq3) (ha.mono (eh.trans hE2)) (by simp) hal.symm hm hm2 (nums_invS (by omega) D T D) hx (by simp) (by simp; omega) (by omega) (by omega) fun v h3 hE3 hF => ?_
  obtain ⟨z, rfl, hz1, hz2, hz3⟩ := hF
  have := hE2.nx; have := eh.nx
  exact hR _ _ ((eh.trans hE2).trans hE3) ⟨z, by simp [oppL], by omega, hz2, by rw [hz3]; simp [oppL, compL]⟩

/-- The multiple by n, by doubling. -/
def binL (m : Int) (D : Nat) (T : List (List Int)) (n : Nat) (a out : List Int) : List Int :=
  if n = 0 then out else binL m D T (n / 2) (putL m D T a a) (if n % 2 = 1 then putL m D T out a else out)
termination_by n
decreasing_by omega

def mulN (m : Int) (D : Nat) (T : List (List Int)) (n : Int) (a : List Int) : List Int :=
  if n < 0 then oppL m D T (binL m D T (-n).toNat a (List.replicate (D + 1) 0)) else binL m D T n.toNat a (List.replicate (D + 1) 0)
theorem binL_len {m : Int} {D : Nat} {T : List (List Int)} {n : Nat} {a out : List Int} (ho : out.length = D + 1) : (binL m D T n a out).length = D + 1 := by
  induction n using Nat.strongRecOn generalizing a out with
  | _ n ih =>
    rw [binL]; split
    · exact ho
    · refine ih _ (by omega) ?_
      split <;> simp [ho]
theorem nums_binL {m : Int} (hm : 0 < m) {D : Nat} {T : List (List Int)} {n : Nat} {a out : List Int} (ho : Nums m out) : Nums m (binL m D T n a out) := by
  induction n using Nat.strongRecOn generalizing a out with
  | _ n ih =>
    rw [binL]; split
    · exact ho
    · refine ih _ (by omega) ?_
      split
      · exact nums_putL hm _ _ _ _
      · exact ho

theorem s_spec_l04Multiple_pos {m : Int} {A B : Option Addr} {Ra : Nat → Option Addr} {T : List (List Int)} {a : List Int} {D n n2 c c2 N : Nat} {h : Hp} {R : Value → Hp → Prop} (hT : RT h A Ra T) (ha : RI h B a) (hn : n = D + 1) (hn2 : n2 = D + 1) (t : Tri m D T) (hm : 2 ≤ m) (hm2 : m ≤ 3000000000)
    (hD : D ≤ 90000) (hal : a.length = D + 1) (hx : Nums m a) (hN : N ≤ 1000000000)
    (hR : ∀ v h', HE h h' → FI y_t_int64 h h' v (binL m D T N a (List.replicate (D + 1) 0)) → R v h') : CallW FF n_spec_l04Multiple [sv m A n c, i6 N, .slice B n2 c2] h R := by
  subst hn; subst hn2
  refine w_spec_l04Multiple ?_
  have mk : makN (.int .i64 ((D : Int) + 1)) = some (D + 1) := makN_nat (by omega) (by unfold sizeMax; omega)
  have g0 : ¬ (N : Int) < 0 := by omega
  simp [p_spec_l04Multiple]
  refine newB_i fun b h1 eb en eh eB => ?_
  simp [g0, mk, mapI_rep]
  refine newB_i fun o h2 eo en2 eh2 eO => ?_
  have hE2 := eh.trans eh2
  refine LP1 (fun d vs h' => ∃ (k c' o : Nat) (A' : Option Addr) (a' out : List Int), k = d ∧ k ≤ N ∧ vs = [i6 k, .slice A' (D + 1) c', .pointer (some ⟨b, 0, none⟩), .slice (some ⟨o, 0, none⟩) (D + 1) 1] ∧ HE h h' ∧ HE h1 h' ∧ RI h' A' a' ∧ a'.length = D + 1 ∧ Nums m a' ∧
     h.nx ≤ o ∧ o < h'.nx ∧ h'.bk o = some ⟨mapI out, y_t_int64, true⟩ ∧ out.length = D + 1 ∧ Nums m out ∧ binL m D T k a' out = binL m D T N a (List.replicate (D + 1) 0)) ?_ _ _ _
    ⟨N, c2, o, B, a, List.replicate (D + 1) 0, rfl, by omega, by simp, hE2, eh2, ha.mono hE2, hal, hx, by omega, by omega, eO, by simp, nums_rep (by omega) _, rfl⟩
  rintro d vs h3 ⟨k, c', o, A', a', out, rfl, hk, rfl, hE, hE1, hA, hl, hn, ho1, ho2, ho3, hol, hon, hb⟩ K K1 hK hK1
  refine wl_spec_l04Multiple_0 ?_
  by_cases hk0 : k = 0
  · subst hk0
    simp [q_spec_l04Multiple_0]
    refine hK1 _ _ fun e he => ?_
    simp at he; rw [he]
    rw [binL, if_pos rfl] at hb
    exact hR _ _ hE ⟨o, by simp [← hb, hol], ho1, ho2, by rw [ho3, hb]⟩
  have hpos : (0 : Int) < k := by omega
  have d1 : (k : Int).tmod 2 = ((k % 2 : Nat) : Int) := by rw [Int.tmod_eq_emod_of_nonneg (by omega)]; omega
  have d2 : (k : Int).tdiv 2 = (k : Int) / 2 := Int.tdiv_eq_ediv_of_nonneg (by omega)
  have d3 : IntKind.i64.wrap ((k : Int) / 2) = (k : Int) / 2 := wrapI (by omega) (by omega)
  have rT : ∀ i, i < T.length → (row T i).length ≤ D + 1 := fun i hi => by have := (t.rows i hi).1; omega
  rw [binL, if_neg hk0] at hb
  have box := box2 ((hE1.bk b (by omega)).trans eB)
  have hpos' : 0 < k := by omega
  simp [q_spec_l04Multiple_0, hpos']
  refine ⟨fun vs h' => ∃ (o : Nat) (out' : List Int), vs = [i6 k, .slice A' (D + 1) c', .pointer (some ⟨b, 0, none⟩), .slice (some ⟨o, 0, none⟩) (D + 1) 1] ∧ HE h h' ∧ HE h1 h' ∧ RI h' A' a' ∧ h.nx ≤ o ∧ o < h'.nx ∧ h'.bk o = some ⟨mapI out', y_t_int64, true⟩ ∧
    out' = (if k % 2 = 1 then putL m D T out a' else out), ?_, ?_⟩
  · rintro vs h4 ⟨o, out', rfl, hE, hE1, hA, ho1, ho2, ho3, hout⟩ e he
    simp at he
    have box := box2 ((hE1.bk b (by omega)).trans eB)
    simp [he, box.2.1, box.2.2]
    refine s_spec_l03Put (hT.mono hE) hA hA rfl t.len hl hl rT (fun i hi => (t.rows i hi).2) hm hm2 hn hn (by omega) fun w h6 hE6 hF => ?_
    obtain ⟨q, rfl, hq1, hq2, hq3⟩ := hF
    simp [d2, d3]
    have nx6 := hE6.nx
    refine hK (k / 2) _ _ (by omega) ⟨k / 2, 1, o, _, _, out', rfl, by omega, by simp, hE.trans hE6, hE1.trans hE6, RI.of_block hq2 hq3, by simp, nums_putL (by omega) _ _ _ _, ho1, by omega, by rw [hE6.bk _ ho2]; exact ho3, ?_, ?_, ?_⟩
    · rw [hout]; split <;> simp [hol]
    · rw [hout]; split
      · exact nums_putL (by omega) _ _ _ _
      · exact hon
    · rw [hout]; exact hb
  · by_cases h2 : k % 2 = 1
    · have d1' : (k : Int).tmod 2 = 1 := by rw [d1, h2]; rfl
      simp [d1', box.2.1, box.2.2]
      refine s_spec_l03Put (hT.mono hE) (RI.of_block ho2 ho3) hA rfl t.len hol hl rT (fun i hi => (t.rows i hi).2) hm hm2 hon hn (by omega) fun w h6 hE6 hF => ?_
      obtain ⟨q, rfl, hq1, hq2, hq3⟩ := hF
      have nx6 := hE6.nx; have nx := hE.nx
      exact ⟨q, by simp, hE.trans hE6, hE1.trans hE6, hA.mono hE6, by omega, hq2, by rw [if_pos h2]; exact hq3⟩
    · have d1' : (k : Int).tmod 2 = 0 := by rw [d1, show k % 2 = 0 by omega]; rfl
      simp [d1']
      exact ⟨hE, hE1, hA, ho1, ho2, by rw [if_neg h2]; exact ho3⟩
end XM

/- Multiples by all integers and of a law: the reference's functions. -/
namespace XM
open Go

theorem s_spec_l04Multiple {m : Int} {A B : Option Addr} {Ra : Nat → Option Addr} {T : List (List Int)} {a : List Int} {D n n2 c c2 : Nat} {N : Int} {h : Hp} {R : Value → Hp → Prop} (hT : RT h A Ra T) (ha : RI h B a) (hn : n = D + 1) (hn2 : n2 = D + 1) (t : Tri m D T) (hm : 2 ≤ m) (hm2 : m ≤ 3000000000)
    (hD : D ≤ 90000) (hD1 : 1 ≤ D) (hal : a.length = D + 1) (hx : Nums m a) (hN : -1000000000 ≤ N) (hN2 : N ≤ 1000000000)
    (hR : ∀ v h', HE h h' → FI y_t_int64 h h' v (mulN m D T N a) → R v h') : CallW FF n_spec_l04Multiple [sv m A n c, i6 N, .slice B n2 c2] h R := by
  by_cases hneg : N < 0
  · subst hn; subst hn2
    refine w_spec_l04Multiple ?_
    have w1 : IntKind.i64.wrap (-N) = -N := wrapI (by omega) (by omega)
    simp [p_spec_l04Multiple]
    refine newB_i fun b h1 eb en eh eB => ?_
    have box := box2 eB
    simp [hneg, box.1, w1, show b < h1.nx by omega]
    rw [show (-N : Int) = ((-N).toNat : Int) by omega]
    refine s_spec_l04Multiple_pos (N := (-N).toNat) (hT.mono eh) (ha.mono eh) rfl rfl t hm hm2 hD hal hx (by omega) fun v h2 hE2 hF => ?_
    obtain ⟨q, rfl, hq1, hq2, hq3⟩ := hF
    refine ⟨hE2.keep, ?_⟩
    have hl : (binL m D T (-N).toNat a (List.replicate (D + 1) 0)).length = D + 1 := binL_len (by simp)
    refine s_spec_l04Opposite (hT.mono (eh.trans hE2)) (RI.of_block hq2 hq3) rfl hl t hm hm2 hD hD1 hl (nums_binL (by omega) (nums_rep (by omega) _)) fun v h3 hE3 hF => ?_
    refine hR _ _ ((eh.trans hE2).trans hE3) ?_
    obtain ⟨z, rfl, hz1, hz2, hz3⟩ := hF
    have := hE2.nx; have := eh.nx
    exact ⟨z, by rw [mulN, if_pos hneg], by omega, hz2, by rw [mulN, if_pos hneg]; exact hz3⟩
  · have e : N = ((N.toNat : Nat) : Int) := by omega
    have e2 : mulN m D T N a = binL m D T N.toNat a (List.replicate (D + 1) 0) := by rw [mulN, if_neg hneg]
    rw [e2] at hR
    rw [e]
    exact s_spec_l04Multiple_pos hT ha hn hn2 t hm hm2 hD hal hx (by omega) hR
end XM

/- The multiple of a law: the reference's function. -/
namespace XM
open Go

theorem s_spec_l04Of {m : Int} {A : Option Addr} {Ra : Nat → Option Addr} {T : List (List Int)} {D n c : Nat} {N : Int} {h : Hp} {R : Value → Hp → Prop} (hT : RT h A Ra T) (hn : n = D + 1) (t : Tri m D T) (hm : 2 ≤ m) (hm2 : m ≤ 3000000000)
    (hD : D ≤ 90000) (hD1 : 1 ≤ D) (hN : -1000000000 ≤ N) (hN2 : N ≤ 1000000000)
    (hR : ∀ v h', HE h h' → FI y_t_int64 h h' v (mulN m D T N (varL D)) → R v h') : CallW FF n_spec_l04Of [sv m A n c, i6 N] h R := by
  subst hn
  refine w_spec_l04Of ?_
  have mk : makN (.int .i64 ((D : Int) + 1)) = some (D + 1) := makN_nat (by omega) (by unfold sizeMax; omega)
  simp [p_spec_l04Of]
  refine newB_i fun b h1 eb en eh eB => ?_
  have box := box2 eB
  simp [box.2.2, mk, mapI_rep]
  refine newB_i fun v h2 ev en2 eh2 eV => ?_
  have q1 : indexAddrV 1 (.slice (some ⟨v, 0, none⟩) (D + 1) 1) (.int .i64 1) = some (.pointer (some ⟨v, 1, none⟩)) := ixOwn (i := 1) rfl (by omega)
  simp [q1]
  refine storeI (i := 1) eV (by simp; omega) fun h3 u => ?_
  have hE3 : HE h h3 := u.he (eh.trans eh2) (by omega)
  have box3 := box2 (show h3.bk b = _ by rw [u.ot _ (by omega), eh2.bk _ (by omega)]; exact eB)
  simp [box3.1]
  have nx3 := u.nx
  refine s_spec_l04Multiple (hT.mono hE3) (RI.of_block (by omega) u.bk) rfl rfl t hm hm2 hD hD1 (varL_len D) (nums_varL hm D) hN hN2 fun w h4 hE4 hF => ?_
  refine hR _ _ (hE3.trans hE4) ?_
  obtain ⟨z, rfl, hz1, hz2, hz3⟩ := hF
  have := hE3.nx
  exact ⟨z, rfl, by omega, hz2, hz3⟩
end XM

/- Shorter ways to read lists and tables; rules for simp whose conditions omega shows. -/
namespace XM
open Go

theorem RI.at {h : Hp} {A : Option Addr} {xs : List Int} (r : RI h A xs) (c : Nat) {e : Int} {i n : Nat} (he : e = i) (hn : n = xs.length) (hi : i < xs.length) :
    indexAddrV 1 (.slice A n c) (.int .i64 e) = some (elp A 1 i) ∧ ldV 1 false h (elp A 1 i) = some (.int .i64 (gt xs i)) := by
  obtain ⟨a, b⟩ := r.rd (c := c) (k := .i64) he hn hi
  exact ⟨a, b _ (HE.refl _)⟩
theorem RT.at {h : Hp} {A : Option Addr} {R : Nat → Option Addr} {T : List (List Int)} (r : RT h A R T) (c : Nat) {e : Int} {i n : Nat} (he : e = i) (hn : n = T.length) (hi : i < T.length) :
    indexAddrV 1 (.slice A n c) (.int .i64 e) = some (elp A 1 i) ∧ ldV 1 false h (elp A 1 i) = some (.slice (R i) (row T i).length 1) := by
  obtain ⟨a, b⟩ := r.rd (c := c) (k := .i64) he hn hi
  exact ⟨a, b _ (HE.refl _)⟩
theorem RV.at {h : Hp} {A : Option Addr} {vs : List Value} (r : RV h A vs) (c : Nat) {e : Int} {i n : Nat} {v : Value} (he : e = i) (hn : n = vs.length) (hv : vs[i]? = some v) :
    indexAddrV 1 (.slice A n c) (.int .i64 e) = some (elp A 1 i) ∧ ldV 1 false h (elp A 1 i) = some v := by
  obtain ⟨a, b⟩ := r.rd (c := c) (k := .i64) he hn hv
  exact ⟨a, b _ (HE.refl _)⟩
theorem RT.el {h : Hp} {A : Option Addr} {R : Nat → Option Addr} {T : List (List Int)} (r : RT h A R T) (c : Nat) {e : Int} {i j n : Nat} (hi : i < T.length) (he : e = j) (hn : n = (row T i).length) (hj : j < (row T i).length) :
    indexAddrV 1 (.slice (R i) n c) (.int .i64 e) = some (elp (R i) 1 j) ∧ ldV 1 false h (elp (R i) 1 j) = some (.int .i64 (gt (row T i) j)) := (r.rows i hi).at c he hn hj

theorem condM_t {c : Prop} [Decidable c] (A B : Prop) (h : c) : condM (.bool (decide c)) A B = A := by simp [h]
theorem condM_f {c : Prop} [Decidable c] (A B : Prop) (h : ¬ c) : condM (.bool (decide c)) A B = B := by simp [h]
theorem idxOwn {b n c : Nat} {k : IntKind} {e : Int} (h0 : 0 ≤ e) (h1 : e < n) : indexAddrV 1 (.slice (some ⟨b, 0, none⟩) n c) (.int k e) = some (.pointer (some ⟨b, e.toNat, none⟩)) := by
  obtain ⟨i, rfl⟩ := Int.eq_ofNat_of_zero_le h0
  exact ixOwn (by simp) (by omega)

/-- What stands in h stands in h'. -/
structure HS (h h' : Hp) : Prop where
  nx : h.nx ≤ h'.nx
  bk : ∀ b x, b < h.nx → h.bk b = some x → h'.bk b = some x
theorem HE.hs {h h' : Hp} (e : HE h h') : HS h h' := ⟨e.nx, fun b x hb hx => (e.bk b hb).trans hx⟩
theorem HS.refl (h : Hp) : HS h h := ⟨Nat.le_refl _, fun _ _ _ h => h⟩
theorem HS.trans {h h' h'' : Hp} (a : HS h h') (b : HS h' h'') : HS h h'' := ⟨Nat.le_trans a.nx b.nx, fun c x hc hx => b.bk c x (Nat.lt_of_lt_of_le hc a.nx) (a.bk c x hc hx)⟩
theorem RV.mos {h h' : Hp} {A : Option Addr} {vs : List Value} (r : RV h A vs) (e : HS h h') : RV h' A vs := by
  intro hl
  obtain ⟨b, o, x, h1, h2, h3, h4⟩ := r hl
  exact ⟨b, o, x, h1, Nat.lt_of_lt_of_le h2 e.nx, e.bk b x h2 h3, h4⟩
theorem RI.mos {h h' : Hp} {A : Option Addr} {xs : List Int} (r : RI h A xs) (e : HS h h') : RI h' A xs := RV.mos r e
theorem RT.mos {h h' : Hp} {A : Option Addr} {R : Nat → Option Addr} {T : List (List Int)} (r : RT h A R T) (e : HS h h') : RT h' A R T := ⟨r.top.mos e, fun i hi => (r.rows i hi).mos e⟩
/-- The heap without the blocks of P. -/
def msk (h : Hp) (P : Nat → Prop) [DecidablePred P] : Hp := ⟨fun b => if P b then none else h.bk b, h.nx⟩
section
variable {P : Nat → Prop} [DecidablePred P]
@[simp] theorem msk_nx (h : Hp) : (msk h P).nx = h.nx := rfl
theorem msk_bk {h : Hp} {b : Nat} (hb : ¬ P b) : (msk h P).bk b = h.bk b := by simp [msk, hb]
theorem msk_some {h : Hp} {b : Nat} {x : Blk} (hx : (msk h P).bk b = some x) : ¬ P b ∧ h.bk b = some x := by
  unfold msk at hx; simp only at hx
  split at hx
  · cases hx
  · rename_i hb; exact ⟨hb, hx⟩
theorem msk_hs (h : Hp) : HS (msk h P) h := ⟨Nat.le_refl _, fun b x _ hx => (msk_some hx).2⟩
theorem msk_to {Q : Nat → Prop} [DecidablePred Q] {h h' : Hp} (hn : h.nx ≤ h'.nx) (hk : ∀ b, b < h.nx → ¬ P b → h'.bk b = h.bk b ∧ ¬ Q b) : HS (msk h P) (msk h' Q) :=
  ⟨hn, fun b x hb hx => by
    obtain ⟨h1, h2⟩ := msk_some hx
    obtain ⟨h3, h4⟩ := hk b hb h1
    rw [msk_bk h4, h3]; exact h2⟩
theorem OT.rtm {lo : Nat} {h : Hp} {b : Nat} {rb : Nat → Nat} {T : List (List Int)} (t : OT lo h b rb T) (hP : ∀ x, P x → x < lo) : RT (msk h P) (some ⟨b, 0, none⟩) (fun i => some ⟨rb i, 0, none⟩) T := by
  have np : ∀ x, lo ≤ x → ¬ P x := fun x hx hp => by have := hP x hp; omega
  exact ⟨RV.of_block (x := ⟨_, _, true⟩) t.ltb (by rw [msk_bk (np _ t.lob)]; exact t.top) rfl, fun i hi => RI.of_block (t.ltr i hi) (by rw [msk_bk (np _ (t.lor i hi))]; exact t.rows i hi)⟩
end

/-- Tables one after the other, in a block of headers. -/
def hdT (TA : Nat → Option Addr) (n : Nat) (k : Nat) : List Value := (List.range k).map fun c => .slice (TA c) n 1
@[simp] theorem hdT_len (TA : Nat → Option Addr) (n k : Nat) : (hdT TA n k).length = k := by simp [hdT]
theorem hdT_get {TA : Nat → Option Addr} {n k i : Nat} (h : i < k) : (hdT TA n k)[i]? = some (.slice (TA i) n 1) := by simp [hdT, h]
def updF {α : Type} (f : Nat → α) (k : Nat) (x : α) : Nat → α := fun i => if i = k then x else f i
theorem updF_eq {α : Type} (f : Nat → α) (k : Nat) (x : α) : updF f k x k = x := by simp [updF]
theorem updF_ne {α : Type} {f : Nat → α} {k i : Nat} {x : α} (h : i ≠ k) : updF f k x i = f i := by simp [updF, h]
theorem hdT_snoc (TA : Nat → Option Addr) (n k : Nat) (A : Option Addr) : hdT (updF TA k A) n (k + 1) = hdT TA n k ++ [.slice A n 1] := by
  simp only [hdT, List.range_succ, List.map_append]
  congr 1
  · exact List.map_congr_left fun i hi => by rw [updF_ne (by simp at hi; omega)]
  · simp [updF]
end XM

/- The faults of a law: l04Fault, l04Is. -/
namespace XM
open Go

/-- The first fault is none. -/
def AssL (m : Int) (N : Nat) (T : List (List Int)) (a b c : Nat) : Int := gt2 (afterT m N (colL T c) T) a b
def AssR (m : Int) (N : Nat) (T : List (List Int)) (a b c : Nat) : Int := gt2 (afterT m N (row T a) T) b c
def NoF1 (T : List (List Int)) (i : Nat) : Prop := gt2 T i 0 = if i = 1 then 1 else 0
def NoF (m : Int) (N : Nat) (T : List (List Int)) : Prop := (∀ i, i < N → NoF1 T i) ∧ (∀ i j, i < j → i + j < N → gt2 T i j = gt2 T j i) ∧
  ∀ a b c, a + b + c < N → AssL m N T a b c = AssR m N T a b c

theorem nums_col {m : Int} {T : List (List Int)} {j : Nat} (hr : ∀ i, i < T.length → (row T i).length = T.length - i ∧ Nums m (row T i)) : Nums m (colL T j) := by
  rw [nums_iff]; intro i hi
  simp only [colL, tab_len] at hi
  rw [colL, gt_tab hi]
  obtain ⟨h1, h2⟩ := hr i (by omega)
  exact h2.gt (by omega)
@[simp] theorem afterT_len (m : Int) (N : Nat) (f : List Int) (T : List (List Int)) : (afterT m N f T).length = N := by simp [afterT]
theorem afterT_row {m : Int} (hm : 0 < m) {N : Nat} {f : List Int} {T : List (List Int)} {i : Nat} (hi : i < N) : (row (afterT m N f T) i).length = N - i := (hornT_row hm i hi).1

/-- Tables G 0 .. G (k - 1), one after the other, in a block of its own. -/
structure TT (lo : Nat) (h : Hp) (b : Nat) (TA : Nat → Option Addr) (N : Nat) (k : Nat) : Prop where
  lob : lo ≤ b
  ltb : b < h.nx
  top : h.bk b = some ⟨hdT TA N k, y_t_LLint64, true⟩

theorem TT.mono {lo : Nat} {h h' : Hp} {b : Nat} {TA : Nat → Option Addr} {N : Nat} {k : Nat} (t : TT lo h b TA N k) (e : HE h h') : TT lo h' b TA N k :=
  ⟨t.lob, Nat.lt_of_lt_of_le t.ltb e.nx, by rw [e.bk _ t.ltb]; exact t.top⟩
theorem TT.at {lo : Nat} {h : Hp} {b : Nat} {TA : Nat → Option Addr} {N : Nat} {k : Nat} (t : TT lo h b TA N k) (c : Nat) {e : Int} {i n : Nat} (he : e = i) (hn : n = k) (hi : i < k) :
    indexAddrV 1 (.slice (some ⟨b, 0, none⟩) n c) (.int .i64 e) = some (elp (some ⟨b, 0, none⟩) 1 i) ∧ ldV 1 false h (elp (some ⟨b, 0, none⟩) 1 i) = some (.slice (TA i) N 1) :=
  (RV.of_block t.ltb t.top rfl).at c he (by simpa using hn) (hdT_get hi)

theorem s_spec_l04Fault {m : Int} {A : Option Addr} {Rr : Nat → Option Addr} {T : List (List Int)} {N n c : Nat} {h : Hp} {R : Value → Hp → Prop} (hT : RT h A Rr T) (hn : n = N) (hN : T.length = N)
    (hr : ∀ i, i < N → (row T i).length = N - i ∧ Nums m (row T i)) (hm : 2 ≤ m) (hm2 : m ≤ 3000000000) (hN1 : 1 ≤ N) (hN2 : N ≤ 1000)
    (hR : ∀ h' A' n' c', HE h h' → (n' = 0 ↔ NoF m N T) → R (.slice A' n' c') h') : CallW FF n_spec_l04Fault [sv m A n c] h R := by
  subst hn
  refine w_spec_l04Fault ?_
  simp [p_spec_l04Fault]
  refine newB_i fun b h1 eb en eh eB => ?_
  obtain ⟨b0, b1, b2⟩ := box2 eB
  simp [b2]
  have T1 := hT.mono eh
  refine LP2 (fun d vs h' => ∃ i : Nat, d = n - i ∧ i ≤ n ∧ h' = h1 ∧ vs = [.pointer (some ⟨b, 0, none⟩), i6 n, .slice A n c, i6 i] ∧ ∀ j, j < i → NoF1 T j) ?_ _ _ _ ⟨0, rfl, by omega, rfl, rfl, by omega⟩
  · rintro d vs h2 ⟨i, rfl, hi, rfl, rfl, hF⟩ K K1 K2 hK hK1 hK2
    refine wl_spec_l04Fault_0 ?_
    by_cases hlt : i < n
    case neg =>
      simp [q_spec_l04Fault_0, hlt]
      refine hK1 _ _ fun e he => ?_
      simp at he
      simp [he]
      have hF : ∀ j, j < n → NoF1 T j := fun j hj => hF j (by omega)
      clear hK hK1 hK2 K K1 K2 hlt hi he
      refine LP2 (fun d vs h' => ∃ i : Nat, d = n - i ∧ i ≤ n ∧ h' = h2 ∧ vs = [.pointer (some ⟨b, 0, none⟩), i6 n, .slice A n c, i6 i] ∧ ∀ j k, j < i → j < k → j + k < n → gt2 T j k = gt2 T k j) ?_ _ _ _ ⟨0, rfl, by omega, rfl, rfl, by omega⟩
      rintro d vs h2 ⟨i, rfl, hi, rfl, rfl, hF2⟩ K K1 K2 hK hK1 hK2
      refine wl_spec_l04Fault_2 ?_
      by_cases hlt : i < n
      case neg =>
        simp [q_spec_l04Fault_2, hlt]
        refine hK1 _ _ fun e he => ?_
        simp at he
        simp [he]
        have hF2 : ∀ j k, j < k → j + k < n → gt2 T j k = gt2 T k j := fun j k h1 h2 => hF2 j k (by omega) h1 h2
        clear hK hK1 hK2 K K1 K2 hlt hi he
        refine newB_i fun b3 h3 eb3 en3 eh3 eB3 => ?_
        refine newB_i fun b4 h4 eb4 en4 eh4 eB4 => ?_
        have E4 := eh3.trans eh4
        refine LP1 (fun d vs h' => ∃ (k bl br : Nat) (TA TB : Nat → Option Addr) (TP TQ : Nat → Nat → Option Addr), d = n - k ∧ k ≤ n ∧ vs = [.pointer (some ⟨b, 0, none⟩), i6 n, .slice A n c, .slice (some ⟨bl, 0, none⟩) k 1, .slice (some ⟨br, 0, none⟩) k 1, i6 k] ∧
            HE h h' ∧ HE h2 h' ∧ bl ≠ br ∧ TT h2.nx h' bl TA n k ∧ TT h2.nx h' br TB n k ∧ (∀ c, c < k → RT (msk h' fun b => b = bl ∨ b = br) (TA c) (TP c) (afterT m n (colL T c) T) ∧ RT (msk h' fun b => b = bl ∨ b = br) (TB c) (TQ c) (afterT m n (row T c) T))) ?_ _ _ _
          ⟨0, b3, b4, fun _ => none, fun _ => none, fun _ _ => none, fun _ _ => none, rfl, by omega, rfl, eh.trans E4, E4, by omega, ⟨by omega, by omega, by rw [eh4.bk _ (by omega)]; exact eB3⟩, ⟨by omega, by omega, eB4⟩, by omega⟩
        rintro d vs h5 ⟨k, bl, br, TA, TB, TP, TQ, rfl, hk, rfl, E5, E25, hne, tl, tr, tbs⟩ K K1 hK hK1
        refine wl_spec_l04Fault_3 ?_
        by_cases hlt : k < n
        case neg =>
          have : k = n := by omega
          subst this
          simp [q_spec_l04Fault_3]
          refine hK1 _ _ fun e he => ?_
          simp at he
          simp [he]
          clear hK hK1 K K1 hlt hk he
          refine LP2 (fun d vs h' => ∃ i : Nat, d = k - i ∧ i ≤ k ∧ h' = h5 ∧ vs = [i6 k, .slice (some ⟨bl, 0, none⟩) k 1, .slice (some ⟨br, 0, none⟩) k 1, i6 i] ∧ ∀ a b c, a < i → a + b + c < k → AssL m k T a b c = AssR m k T a b c) ?_ _ _ _ ⟨0, rfl, by omega, rfl, rfl, by omega⟩
          rintro d vs h6 ⟨i, rfl, hi, rfl, rfl, hA⟩ K K1 K2 hK hK1 hK2
          refine wl_spec_l04Fault_6 ?_
          by_cases hlt : i < k
          case neg =>
            simp [q_spec_l04Fault_6, hlt]
            refine hK1 _ _ ?_
            exact fun _ => hR _ _ _ _ E5 ⟨fun _ => ⟨hF, hF2, fun a b c h => hA a b c (by omega) h⟩, fun _ => rfl⟩
          simp [q_spec_l04Fault_6, hlt]
          refine LP2 (fun d vs h' => ∃ j : Nat, d = k - j ∧ i + j ≤ k ∧ h' = h6 ∧ vs = [i6 k, .slice (some ⟨bl, 0, none⟩) k 1, .slice (some ⟨br, 0, none⟩) k 1, i6 i, i6 j] ∧ ∀ b c, b < j → i + b + c < k → AssL m k T i b c = AssR m k T i b c) ?_ _ _ _ ⟨0, rfl, by omega, rfl, rfl, by omega⟩
          rintro d vs h7 ⟨j, rfl, hj, rfl, rfl, hB⟩ K3 K4 K5 hK3 hK4 hK5
          refine wl_spec_l04Fault_5 ?_
          have wij := wrapI (n := (i : Int) + j) (by omega) (by omega)
          by_cases hlt2 : i + j < k
          case neg =>
            have hlt2' : ¬ (i : Int) + j < k := by omega
            simp [q_spec_l04Fault_5, hlt2', wij]
            refine hK4 _ _ fun e he => ?_
            simp at he
            simp [he, wrapI (n := (i : Int) + 1) (by omega) (by omega)]
            refine hK _ _ _ (by omega) ⟨i + 1, rfl, by omega, rfl, rfl, fun a b c h1 h2 => ?_⟩
            by_cases h : a = i
            · subst h; exact hB b c (by omega) h2
            · exact hA a b c (by omega) h2
          have hlt2' : (i : Int) + j < k := by omega
          simp [q_spec_l04Fault_5, hlt2', wij]
          refine LP2 (fun d vs h' => ∃ l : Nat, d = k - l ∧ i + j + l ≤ k ∧ h' = h7 ∧ vs = [i6 k, .slice (some ⟨bl, 0, none⟩) k 1, .slice (some ⟨br, 0, none⟩) k 1, i6 i, i6 j, i6 l] ∧ ∀ c, c < l → i + j + c < k → AssL m k T i j c = AssR m k T i j c) ?_ _ _ _ ⟨0, rfl, by omega, rfl, rfl, by omega⟩
          rintro d vs h8 ⟨l, rfl, hl, rfl, rfl, hC⟩ K6 K7 K8 hK6 hK7 hK8
          refine wl_spec_l04Fault_4 ?_
          have wijl := wrapI (n := (i : Int) + j + l) (by omega) (by omega)
          by_cases hlt3 : i + j + l < k
          case neg =>
            have hlt3' : ¬ (i : Int) + j + l < k := by omega
            simp [q_spec_l04Fault_4, hlt3', wij, wijl]
            refine hK7 _ _ fun e he => ?_
            simp at he
            simp [he, wrapI (n := (j : Int) + 1) (by omega) (by omega)]
            refine hK3 _ _ _ (by omega) ⟨j + 1, rfl, by omega, rfl, rfl, fun b c h1 h2 => ?_⟩
            by_cases h : b = j
            · subst h; exact hC c (by omega) h2
            · exact hB b c (by omega) h2
          have hlt3' : (i : Int) + j + l < k := by omega
          have hm0 : 0 < m := by omega
          have x1 := tl.at 1 (e := l) (n := k) rfl rfl (by omega)
          have tlb := ((tbs l (by omega)).1).mos (msk_hs _)
          have trb := ((tbs i (by omega)).2).mos (msk_hs _)
          have x2 := tlb.at 1 (e := i) (n := k) rfl (by simp) (by simp; omega)
          have x3 := tlb.el 1 (e := j) (i := i) (n := (row (afterT m k (colL T l) T) i).length) (by simp; omega) rfl rfl (by rw [afterT_row hm0 (by omega)]; omega)
          have y1 := tr.at 1 (e := i) (n := k) rfl rfl (by omega)
          have y2 := trb.at 1 (e := j) (n := k) rfl (by simp) (by simp; omega)
          have y3 := trb.el 1 (e := l) (i := j) (n := (row (afterT m k (row T i) T) j).length) (by simp; omega) rfl rfl (by rw [afterT_row hm0 (by omega)]; omega)
          simp [q_spec_l04Fault_4, hlt3', wij, wijl, x1, x2, x3, y1, y2, y3]
          by_cases hc : AssL m k T i j l = AssR m k T i j l
          · have hc' : gt (row (afterT m k (colL T l) T) i) j = gt (row (afterT m k (row T i) T) j) l := hc
            simp [hc', wrapI (n := (l : Int) + 1) (by omega) (by omega)]
            refine hK6 _ _ _ (by omega) ⟨l + 1, rfl, by omega, rfl, rfl, fun c h1 h2 => ?_⟩
            by_cases h : c = l
            · subst h; exact hc
            · exact hC c (by omega) h2
          · have hc' : ¬ gt (row (afterT m k (colL T l) T) i) j = gt (row (afterT m k (row T i) T) j) l := hc
            simp [hc', rowV, rowFill, reps]
            refine newB_i fun b9 h9 eb9 en9 eh9 eB9 => ?_
            refine hK8 _ _ fun e he => ?_
            simp at he
            refine hK5 _ _ fun e2 he2 => ?_
            simp at he2
            refine hK2 _ _ fun e3 he3 => ?_
            simp at he3
            rw [he3, he2, he]
            exact hR _ _ _ _ (E5.trans eh9) ⟨fun h => by omega, fun h => (hc (h.2.2 i j l (by omega))).elim⟩
        have hr' : ∀ i, i < T.length → (row T i).length = T.length - i ∧ Nums m (row T i) := by rw [hN]; exact hr
        have bx := box2 ((E25.bk b (by omega)).trans eB)
        have T5 := hT.mono E5
        simp [q_spec_l04Fault_3, hlt, bx, show b < h5.nx by have := E25.nx; omega]
        refine s_spec_l04Column T5 hN.symm (by omega) (by omega) (fun i hi => (hr' i hi).1) fun v h6 e6 f6 => ?_
        obtain ⟨v, rfl, f7, f8, f9⟩ := f6
        refine ⟨e6.keep, ?_⟩
        refine s_spec_l03After (RI.of_block f8 f9) (T5.mono e6) rfl rfl hN hr (by omega) hm2 hN1 (by omega) (by simp [colL]; omega) (nums_col hr') fun v h7 e7 g7 => ?_
        obtain ⟨v2, rb, rfl, o7⟩ := g7
        simp
        have E57 := e6.trans e7
        refine push1 ((E57.bk _ tl.ltb).trans tl.top) (Nat.lt_of_lt_of_le tl.ltb E57.nx) (by simp) (by unfold sizeMax; omega) fun bl' h8 u8 => ?_
        have Q57 := E57.nx; have Q25 := E25.nx; have Q67 := e7.nx; have Q56 := e6.nx; have hlob := tl.lob; have hltb := tl.ltb; have hrob := tr.lob; have hrtb := tr.ltb; have u8g := u8.ge; have u8l := u8.lt
        have E8 : HE h h8 := u8.he (E5.trans E57) (by have := eh.nx; omega)
        have E28 : HE h2 h8 := u8.he (E25.trans E57) (by omega)
        have bx8 := box2 ((E28.bk b (by omega)).trans eB)
        have T8 := hT.mono E8
        have r8 := T8.at c (e := k) (n := n) rfl hN.symm (by omega)
        simp [bx8, r8]
        refine s_spec_l03After (T8.rows k (by omega)) T8 rfl rfl hN hr (by omega) hm2 hN1 (by omega) (by rw [(hr k hlt).1]; omega) (hr k hlt).2 fun v h9 e9 g9 => ?_
        obtain ⟨v3, rb3, rfl, o9⟩ := g9
        simp
        have keepO : ∀ c, c < h7.nx → c ≠ bl → h9.bk c = h7.bk c := fun c hc hne => by rw [e9.bk _ (by omega)]; exact u8.ot c hc hne
        have brk : h9.bk br = some ⟨hdT TB n k, y_t_LLint64, true⟩ := by rw [keepO br (by omega) (by omega), E57.bk _ hrtb]; exact tr.top
        refine push1 brk (by have := e9.nx; omega) (by simp) (by unfold sizeMax; omega) fun br' h10 u10 => ?_
        have u10g := u10.ge; have u10l := u10.lt; have Q89 := e9.nx
        have E910 : ∀ c, c < h8.nx → c ≠ br → c ≠ bl → h10.bk c = h8.bk c := fun c hc h1 h2 => by rw [u10.ot c (by omega) h1, e9.bk _ hc]
        have w1 := wrapI (n := (k : Int) + 1) (by omega) (by omega)
        simp [w1]
        have E510 : ∀ b, b < h5.nx → ¬ (b = bl ∨ b = br) → h10.bk b = h5.bk b ∧ ¬ (b = bl' ∨ b = br') := fun b hb hP => by
          rw [not_or] at hP
          refine ⟨?_, by omega⟩
          rw [u10.ot b (by omega) hP.2, e9.bk _ (by omega), u8.ot b (by omega) hP.1, E57.bk b hb]
        have S510 : HS (msk h5 fun b => b = bl ∨ b = br) (msk h10 fun b => b = bl' ∨ b = br') := msk_to (by omega) E510
        have S710 : HS (msk h7 fun b => b = bl ∨ b = br) (msk h10 fun b => b = bl' ∨ b = br') := msk_to (by omega) fun b hb hP => by
          rw [not_or] at hP
          refine ⟨?_, by omega⟩
          rw [u10.ot b (by omega) hP.2, e9.bk _ (by omega), u8.ot b (by omega) hP.1]
        have S910 : HS (msk h9 fun b => b = bl' ∨ b = br) (msk h10 fun b => b = bl' ∨ b = br') := msk_to (by omega) fun b hb hP => by
          rw [not_or] at hP
          exact ⟨u10.ot b (by omega) hP.2, by omega⟩
        refine hK _ _ _ (by omega) ⟨k + 1, bl', br', updF TA k (some ⟨v2, 0, none⟩), updF TB k (some ⟨v3, 0, none⟩), updF TP k (fun i => some ⟨rb i, 0, none⟩), updF TQ k (fun i => some ⟨rb3 i, 0, none⟩), rfl, by omega, by simp,
          u10.he (E8.trans e9) (by have := eh.nx; omega), u10.he (E28.trans e9) (by omega), by omega, ⟨by omega, by omega, ?_⟩, ⟨by omega, by omega, ?_⟩, fun c hc => ?_⟩
        · rw [u10.ot _ (by omega) (by omega), e9.bk _ (by omega), u8.bk, hdT_snoc]
        · rw [u10.bk, hdT_snoc]
        · by_cases h : c = k
          · subst h
            rw [updF_eq, updF_eq, updF_eq, updF_eq]
            exact ⟨(o7.rtm (P := fun b => b = bl ∨ b = br) fun x hx => by omega).mos S710, (o9.rtm (P := fun b => b = bl' ∨ b = br) fun x hx => by omega).mos S910⟩
          · rw [updF_ne h, updF_ne h, updF_ne h, updF_ne h]
            have := tbs c (by omega)
            exact ⟨this.1.mos S510, this.2.mos S510⟩
      simp [q_spec_l04Fault_2, hlt, wrapI (n := (i : Int) + 1) (by omega) (by omega)]
      have w1 : IntKind.i64.wrap ((i : Int) + 1) = ((i + 1 : Nat) : Int) := wrapI (by omega) (by omega)
      refine LP2 (fun d vs h' => ∃ j : Nat, d = n - j ∧ i < j ∧ h' = h2 ∧ vs = [.pointer (some ⟨b, 0, none⟩), i6 n, .slice A n c, i6 i, i6 j] ∧ j ≤ n + 1 ∧ ∀ k, i < k → k < j → i + k < n → gt2 T i k = gt2 T k i) ?_ _ _ _ ⟨i + 1, rfl, by omega, rfl, by simp, by omega, by omega⟩
      rintro d vs h7 ⟨j, rfl, hj, rfl, rfl, hj2, hB⟩ K3 K4 K5 hK3 hK4 hK5
      refine wl_spec_l04Fault_1 ?_
      have wij := wrapI (n := (i : Int) + j) (by omega) (by omega)
      by_cases hlt2 : i + j < n
      case neg =>
        have hlt2' : ¬ (i : Int) + j < n := by omega
        simp [q_spec_l04Fault_1, hlt2', wij]
        refine hK4 _ _ fun e he => ?_
        simp at he
        simp [he, wrapI (n := (i : Int) + 1) (by omega) (by omega)]
        refine hK _ _ _ (by omega) ⟨i + 1, rfl, by omega, rfl, rfl, fun a b h1 h2 h3 => ?_⟩
        by_cases h : a = i
        · subst h; exact hB b h2 (by omega) h3
        · exact hF2 a b (by omega) h2 h3
      have hlt2' : (i : Int) + j < n := by omega
      have x1 := T1.at c (e := i) rfl hN.symm (by omega)
      have x2 := T1.el 1 (e := j) (i := i) (n := (row T i).length) (by omega) rfl rfl (by rw [(hr i hlt).1]; omega)
      have y1 := T1.at c (e := j) rfl hN.symm (by omega)
      have y2 := T1.el 1 (e := i) (i := j) (n := (row T j).length) (by omega) rfl rfl (by rw [(hr j (by omega)).1]; omega)
      simp [q_spec_l04Fault_1, hlt2', wij, x1, x2, y1, y2]
      by_cases hc : gt2 T i j = gt2 T j i
      · have hc' : gt (row T i) j = gt (row T j) i := hc
        simp [hc', wrapI (n := (j : Int) + 1) (by omega) (by omega)]
        refine hK3 _ _ _ (by omega) ⟨j + 1, rfl, by omega, rfl, rfl, by omega, fun k h1 h2 h3 => ?_⟩
        by_cases h : k = j
        · subst h; exact hc
        · exact hB k h1 (by omega) h3
      · have hc' : ¬ gt (row T i) j = gt (row T j) i := hc
        simp [hc', rowV, rowFill, reps]
        refine newB_i fun b9 h9 eb9 en9 eh9 eB9 => ?_
        refine hK5 _ _ fun e he => ?_
        simp at he
        refine hK2 _ _ fun e2 he2 => ?_
        simp at he2
        rw [he2, he]
        exact hR _ _ _ _ (eh.trans eh9) ⟨fun h => by omega, fun h => (hc (h.2.1 i j (by omega) (by omega))).elim⟩
    obtain ⟨r1, r2⟩ := T1.at c (e := i) rfl hN.symm (by omega)
    have hri := hr i hlt
    obtain ⟨t1, t2⟩ := T1.el 1 (e := 0) (i := i) (j := 0) (by omega) rfl rfl (by omega)
    simp [q_spec_l04Fault_0, hlt]
    refine ⟨fun vs h' => vs = [.pointer (some ⟨b, 0, none⟩), i6 n, .slice A n c, i6 i, i6 (if i = 1 then 1 else 0)] ∧ h' = h2, ?_, ?_⟩
    · rintro vs h3 ⟨rfl, rfl⟩ e he
      simp at he
      simp [he, r1, r2, t1, t2]
      by_cases hc : NoF1 T i
      · have hc' : gt (row T i) 0 = if i = 1 then 1 else 0 := hc
        simp [hc', wrapI (n := (i : Int) + 1) (by omega) (by omega)]
        exact hK _ _ _ (by omega) ⟨i + 1, rfl, by omega, rfl, rfl, fun j hj => by
          by_cases h : j = i
          · subst h; exact hc
          · exact hF j (by omega)⟩
      · have hc' : ¬ gt (row T i) 0 = if i = 1 then 1 else 0 := hc
        simp [hc', rowV, rowFill, reps]
        refine newB_i fun b9 h9 eb9 en9 eh9 eB9 => ?_
        refine hK2 _ _ fun e2 he2 => ?_
        simp at he2
        rw [he2]
        exact hR _ _ _ _ (eh.trans eh9) ⟨fun h => by omega, fun h => (hc (h.1 i (by omega))).elim⟩
    · by_cases h : (i : Int) = 1
      · have : i = 1 := by omega
        simp [this]
      · have : ¬ i = 1 := by omega
        simp [h, this]

def LawT (m : Int) (T : List (List Int)) : Prop := IsP m T ∧ NoF m T.length T
open Classical in
theorem s_spec_l04Is {m : Int} {A : Option Addr} {Rr : Nat → Option Addr} {T : List (List Int)} {n c : Nat} {h : Hp} {R : Value → Hp → Prop} (hT : RT h A Rr T) (hn : n = T.length) (hl : n ≤ 1000000) (hrl : ∀ i, i < T.length → (row T i).length ≤ 1000000)
    (hR : ∀ h', HE h h' → R (.bool (decide (LawT m T))) h') : CallW FF n_spec_l04Is [sv m A n c] h R := by
  subst hn
  refine w_spec_l04Is ?_
  simp [p_spec_l04Is]
  refine newB_i fun b h1 eb en eh eB => ?_
  have bx := box2 eB
  simp [bx]
  refine s_spec_l03Is (hT.mono eh) rfl hl hrl fun h2 e2 => ?_
  have bx := box2 ((e2.bk b (by omega)).trans eB)
  by_cases hp : IsP m T
  · have hp2 := hp
    obtain ⟨q1, q2, q3⟩ := hp2
    simp [hp, bx]
    refine s_spec_l04Fault (hT.mono (eh.trans e2)) rfl rfl q3 (by omega) (by omega) (by omega) (by omega) fun h3 A' n' c' e3 hi => ?_
    simp
    have : (LawT m T) ↔ n' = 0 := ⟨fun h => hi.2 h.2, fun h => ⟨hp, hi.1 h⟩⟩
    have h4 := hR _ ((eh.trans e2).trans e3)
    by_cases h0 : n' = 0 <;> simpa [this, h0] using h4
  · have : ¬ LawT m T := fun h => hp h.1
    have h4 := hR _ (eh.trans e2)
    simpa [hp, this] using h4
end XM

/- Lists of series; l04Code, MultipleOf, MultipleUnder, InverseOfLaw of the reference. -/
namespace XM
open Go

structure Ser where
  m : Int
  A : Option Addr
  c : Nat
  xs : List Int

/-- A list of series that is only read. -/
structure RS (h : Hp) (A : Option Addr) (L : List Ser) : Prop where
  top : 0 < L.length → ∃ b o x, A = some ⟨b, o, none⟩ ∧ b < h.nx ∧ h.bk b = some x ∧ ∀ (i : Nat) (e : Ser), L[i]? = some e → x.cells[o + i * 2]? = some (i6 e.m) ∧ x.cells[o + i * 2 + 1]? = some (.slice e.A e.xs.length e.c)
  el : ∀ (i : Nat) (e : Ser), L[i]? = some e → RI h e.A e.xs

theorem RS.mos {h h' : Hp} {A : Option Addr} {L : List Ser} (r : RS h A L) (e : HS h h') : RS h' A L :=
  ⟨fun hl => by
    obtain ⟨b, o, x, h1, h2, h3, h4⟩ := r.top hl
    exact ⟨b, o, x, h1, Nat.lt_of_lt_of_le h2 e.nx, e.bk b x h2 h3, h4⟩, fun i x hx => (r.el i x hx).mos e⟩
theorem RS.mono {h h' : Hp} {A : Option Addr} {L : List Ser} (r : RS h A L) (e : HE h h') : RS h' A L := r.mos e.hs

/-- The places of a series in a list. -/
def elp2 (A : Option Addr) (i d : Nat) : Value := .pointer (A.map fun a => ⟨a.block, a.off + i * 2 + d, none⟩)

theorem RS.at {h : Hp} {A : Option Addr} {L : List Ser} (r : RS h A L) (c : Nat) {e : Int} {i n : Nat} {x : Ser} (he : e = i) (hn : n = L.length) (hx : L[i]? = some x) :
    indexAddrV 2 (.slice A n c) (.int .i64 e) = some (elp2 A i 0) ∧ ldV 2 true h (elp2 A i 0) = some (sv x.m x.A x.xs.length x.c) ∧ fieldAddrV 0 (elp2 A i 0) = some (elp2 A i 0) ∧ fieldAddrV 1 (elp2 A i 0) = some (elp2 A i 1) ∧
      ldV 1 false h (elp2 A i 0) = some (i6 x.m) ∧ ldV 1 false h (elp2 A i 1) = some (.slice x.A x.xs.length x.c) ∧ inB h.nx (elp2 A i 0) ∧ inB h.nx (elp2 A i 1) := by
  have hi : i < L.length := (List.getElem?_eq_some_iff.1 hx).1
  obtain ⟨b, o, bl, rfl, h2, h3, h4⟩ := r.top (by omega)
  obtain ⟨h5, h6⟩ := h4 i x hx
  have l5 := (List.getElem?_eq_some_iff.1 h5).1
  have l6 := (List.getElem?_eq_some_iff.1 h6).1
  subst he; subst hn
  refine ⟨by simp [indexAddrV, idx_nat hi, elp2, addOff], ?_, by simp [elp2], by simp [elp2], ?_, ?_, h2, h2⟩
  · simp only [elp2, Option.map_some, ldV_ptr, h3, Option.bind_some, Nat.add_zero]
    rw [if_pos (by omega)]
    simp only [if_true, Option.some.injEq, Value.agg.injEq]
    have : (bl.cells.drop (o + i * 2)).take 2 = [i6 x.m, .slice x.A x.xs.length x.c] := by
      rw [List.drop_eq_getElem_cons l5, List.drop_eq_getElem_cons l6]
      rw [List.getElem?_eq_getElem l5] at h5; rw [List.getElem?_eq_getElem l6] at h6
      simp only [Option.some.injEq] at h5 h6
      simp [h5, h6]
    rw [this]
  · simp only [elp2, Option.map_some, ldV_ptr, h3, Option.bind_some, Nat.add_zero]
    rw [if_pos (by omega)]; simpa using h5
  · simp only [elp2, Option.map_some, ldV_ptr, h3, Option.bind_some]
    rw [if_pos (by omega)]; simpa using h6

/-- The series fit the law. -/
def FitC (m : Int) (N : Nat) (e : Ser) : Prop := IsC e.m e.xs ∧ e.m = m ∧ e.xs.length = N
open Classical in
noncomputable def codeL (m : Int) (T : List (List Int)) (L : List Ser) : Int :=
  if ¬ LawT m T then 1 else if ¬ (∀ (i : Nat) (e : Ser), L[i]? = some e → IsS e.m e.xs) then 1 else if ¬ (∀ (i : Nat) (e : Ser), L[i]? = some e → FitC m T.length e) then 2 else 0

theorem s_spec_l04Code {m : Int} {A B : Option Addr} {Rr : Nat → Option Addr} {T : List (List Int)} {L : List Ser} {n n2 c c2 : Nat} {h : Hp} {R : Value → Hp → Prop} (hT : RT h A Rr T) (hL : RS h B L) (hn : n = T.length) (hn2 : n2 = L.length) (hl : n ≤ 1000000) (hrl : ∀ i, i < T.length → (row T i).length ≤ 1000000)
    (hl2 : L.length ≤ 1000000) (hll : ∀ (i : Nat) (e : Ser), L[i]? = some e → e.xs.length ≤ 1000000)
    (hR : ∀ h', HE h h' → R (i6 (codeL m T L)) h') : CallW FF n_spec_l04Code [sv m A n c, .slice B n2 c2] h R := by
  subst hn; subst hn2
  refine w_spec_l04Code ?_
  simp [p_spec_l04Code]
  refine newB_i fun b h1 eb en eh eB => ?_
  have bx := box2 eB
  simp [bx]
  refine s_spec_l04Is (hT.mono eh) rfl hl hrl fun h2 e2 => ?_
  by_cases c1 : LawT m T
  case neg => simpa [codeL, c1] using hR _ (eh.trans e2)
  simp [c1]
  have eB2 := (e2.bk b (by omega)).trans eB
  have E2 := eh.trans e2
  refine LP2 (fun d vs h' => ∃ i : Nat, d = L.length - i ∧ i ≤ L.length ∧ HE h2 h' ∧ vs = [.slice B L.length c2, .pointer (some ⟨b, 0, none⟩), i6 i] ∧ ∀ (j : Nat) (e : Ser), j < i → L[j]? = some e → IsS e.m e.xs) ?_ _ _ _ ⟨0, rfl, by omega, HE.refl _, rfl, by omega⟩
  rintro d vs h3 ⟨i, rfl, hi, e3, rfl, hF⟩ K K1 K2 hK hK1 hK2
  refine wl_spec_l04Code_0 ?_
  by_cases hlt : i < L.length
  case pos =>
    obtain ⟨x, hx⟩ : ∃ x, L[i]? = some x := ⟨_, List.getElem?_eq_getElem hlt⟩
    have L3 := hL.mono (E2.trans e3)
    have r := L3.at c2 (e := i) rfl rfl hx
    simp [q_spec_l04Code_0, hlt, r]
    refine s_spec_l02Is (L3.el i x hx) rfl (hll i x hx) fun h4 e4 => ?_
    by_cases hc : IsS x.m x.xs
    · simp [hc, wrapI (n := (i : Int) + 1) (by omega) (by omega)]
      refine hK _ _ _ (by omega) ⟨i + 1, rfl, by omega, e3.trans e4, rfl, fun j e hj he => ?_⟩
      by_cases h : j = i
      · subst h; rw [hx] at he; cases he; exact hc
      · exact hF j e (by omega) he
    · simp [hc]
      refine hK2 _ _ fun e he => ?_
      simp at he; rw [he]
      have : ¬ (∀ (i : Nat) (e : Ser), L[i]? = some e → IsS e.m e.xs) := fun h => hc (h i x hx)
      have := hR _ ((E2.trans e3).trans e4)
      simpa [codeL, c1, *] using this
  simp [q_spec_l04Code_0, hlt]
  refine hK1 _ _ fun e he => ?_
  simp at he
  simp [he]
  have c2a : ∀ (i : Nat) (e : Ser), L[i]? = some e → IsS e.m e.xs := fun j e he => hF j e (by have := (List.getElem?_eq_some_iff.1 he).1; omega) he
  clear hK hK1 hK2 K K1 K2 hlt hi he hF
  refine LP2 (fun d vs h' => ∃ i : Nat, d = L.length - i ∧ i ≤ L.length ∧ HE h2 h' ∧ vs = [.slice B L.length c2, .pointer (some ⟨b, 0, none⟩), i6 i] ∧ ∀ (j : Nat) (e : Ser), j < i → L[j]? = some e → FitC m T.length e) ?_ _ _ _ ⟨0, rfl, by omega, e3, rfl, by omega⟩
  clear e3 h3
  rintro d vs h3 ⟨i, rfl, hi, e3, rfl, hF⟩ K K1 K2 hK hK1 hK2
  refine wl_spec_l04Code_1 ?_
  by_cases hlt : i < L.length
  case neg =>
    simp [q_spec_l04Code_1, hlt]
    refine hK1 _ _ fun e => ?_
    have c3 : ∀ (i : Nat) (e : Ser), L[i]? = some e → FitC m T.length e := fun j e he => hF j e (by have := (List.getElem?_eq_some_iff.1 he).1; omega) he
    have := hR _ (E2.trans e3)
    rw [codeL, if_neg (not_not_intro c1), if_neg (not_not_intro c2a), if_neg (not_not_intro c3)] at this
    exact this
  obtain ⟨x, hx⟩ : ∃ x, L[i]? = some x := ⟨_, List.getElem?_eq_getElem hlt⟩
  have L3 := hL.mono (E2.trans e3)
  have r := L3.at c2 (e := i) rfl rfl hx
  have fail : ∀ h', HE h3 h' → ¬ FitC m T.length x → K2 [i6 2] h' := fun h' e' hc => by
    refine hK2 _ _ fun e he => ?_
    simp at he; rw [he]
    have c3 : ¬ (∀ (i : Nat) (e : Ser), L[i]? = some e → FitC m T.length e) := fun h => hc (h i x hx)
    have := hR _ ((E2.trans e3).trans e')
    rw [codeL, if_neg (not_not_intro c1), if_neg (not_not_intro c2a), if_pos c3] at this
    exact this
  simp [q_spec_l04Code_1, hlt, r]
  refine s_spec_l02Curve (L3.el i x hx) rfl (hll i x hx) fun h4 e4 => ?_
  have r4 := (L3.mono e4).at c2 (e := i) rfl rfl hx
  have bx4 := box2 ((e3.trans e4).bk b (by have := e2.nx; omega) |>.trans eB2)
  by_cases hc : IsC x.m x.xs
  case neg => simp [hc]; exact fail _ e4 fun h => hc h.1
  by_cases hc2 : x.m = m
  case neg => simp [hc, r4, bx4, hc2]; exact fail _ e4 fun h => hc2 h.2.1
  have hc' : IsC m x.xs := hc2 ▸ hc
  by_cases hc3 : x.xs.length = T.length
  case neg =>
    have : ¬ (x.xs.length : Int) = T.length := by omega
    simp [hc', r4, bx4, hc2, this]; exact fail _ e4 fun h => hc3 h.2.2
  simp [hc', r4, bx4, hc2, hc3, wrapI (n := (i : Int) + 1) (by omega) (by omega)]
  refine hK _ _ _ (by omega) ⟨i + 1, rfl, by omega, e3.trans e4, rfl, fun j e hj he => ?_⟩
  by_cases h : j = i
  · subst h; rw [hx] at he; cases he; exact ⟨hc, hc2, hc3⟩
  · exact hF j e (by omega) he

/-- A series as an answer. -/
def SerR (h : Hp) (v : Value) (m : Int) (xs : List Int) : Prop := ∃ A c, v = sv m A xs.length c ∧ RI h A xs
theorem SerR.mono {h h' : Hp} {v : Value} {m : Int} {xs : List Int} (s : SerR h v m xs) (e : HE h h') : SerR h' v m xs := by
  obtain ⟨A, c, h1, h2⟩ := s; exact ⟨A, c, h1, h2.mono e⟩
theorem SerR.zero (h : Hp) : SerR h (.agg #[i6 0, .slice none 0 0]) 0 [] := ⟨none, 0, rfl, RI.nil _ _⟩

@[simp] theorem fill_none2 (a b : Value) : (fillX [a, b] []).map (fun cs => Value.agg cs.toArray) = some (.agg #[a, b]) := rfl

theorem LawT.tri {m : Int} {T : List (List Int)} (l : LawT m T) : Tri m (T.length - 1) T := by
  obtain ⟨⟨h1, h2, h3⟩, _⟩ := l
  exact ⟨by omega, fun i hi => ⟨by have := (h3 i hi).1; omega, (h3 i hi).2⟩⟩

open Classical in
noncomputable def mulOfR (m : Int) (T : List (List Int)) (n : Int) : (Int × List Int) × Int :=
  if ¬ LawT m T then ((0, []), 1) else if ¬ (-1000000 ≤ n ∧ n ≤ 1000000) then ((0, []), 2) else ((m, mulN m (T.length - 1) T n (varL (T.length - 1))), 0)

open Classical in
noncomputable def invR (m : Int) (T : List (List Int)) : (Int × List Int) × Int :=
  if ¬ LawT m T then ((0, []), 1) else ((m, invL m (T.length - 1) T), 0)

open Classical in
/-- The code of a law and its curves. -/
noncomputable def codeC (m : Int) (T : List (List Int)) (L : List (Int × List Int)) : Int :=
  if ¬ LawT m T then 1 else if ¬ (∀ e ∈ L, IsS e.1 e.2) then 1 else if ¬ (∀ e ∈ L, IsC e.1 e.2 ∧ e.1 = m ∧ e.2.length = T.length) then 2 else 0
theorem codeC_all {m : Int} {T : List (List Int)} {L : List (Int × List Int)} (h : codeC m T L = 0) : LawT m T ∧ ∀ e ∈ L, IsC e.1 e.2 ∧ e.1 = m ∧ e.2.length = T.length := by
  unfold codeC at h
  split at h
  · simp at h
  · split at h
    · simp at h
    · split at h
      · simp at h
      · rename_i h1 _ h3
        exact ⟨Classical.not_not.1 h1, Classical.not_not.1 h3⟩
theorem codeC_zero {m m' : Int} {T : List (List Int)} {xs : List Int} (h : codeC m T [(m', xs)] = 0) : LawT m T ∧ IsC m' xs ∧ m' = m ∧ xs.length = T.length := by
  obtain ⟨h1, h2⟩ := codeC_all h
  exact ⟨h1, h2 (m', xs) (by simp)⟩
theorem codeL_C {m : Int} {T : List (List Int)} {L : List Ser} : codeL m T L = codeC m T (L.map fun e => (e.m, e.xs)) := by
  unfold codeL codeC FitC
  have h1 : ∀ P : Int → List Int → Prop, (∀ (i : Nat) (e : Ser), L[i]? = some e → P e.m e.xs) ↔ ∀ e ∈ L.map fun e => (e.m, e.xs), P e.1 e.2 := fun P => by
    constructor
    · intro h e he
      obtain ⟨x, hx, rfl⟩ := List.mem_map.1 he
      obtain ⟨i, hi, rfl⟩ := List.getElem_of_mem hx
      exact h i _ (List.getElem?_eq_getElem hi)
    · intro h i e he
      exact h _ (List.mem_map.2 ⟨e, List.mem_of_getElem? he, rfl⟩)
  have h2 := h1 fun a b => IsS a b
  have h3 := h1 fun a b => IsC a b ∧ a = m ∧ b.length = T.length
  simp only [h2, h3]

/-- The multiple of a curve, as both programs answer. -/
noncomputable def mulUR (m : Int) (T : List (List Int)) (n m' : Int) (xs : List Int) : (Int × List Int) × Int :=
  if codeC m T [(m', xs)] ≠ 0 then ((0, []), codeC m T [(m', xs)]) else if ¬ (-1000000 ≤ n ∧ n ≤ 1000000) then ((0, []), 2) else ((m, mulN m (T.length - 1) T n xs), 0)

theorem s_spec_MultipleOf {m n : Int} {A : Option Addr} {Rr : Nat → Option Addr} {T : List (List Int)} {l c : Nat} {h : Hp} {R : Value → Hp → Prop} (hT : RT h A Rr T) (hn : l = T.length) (hl : l ≤ 1000000) (hrl : ∀ i, i < T.length → (row T i).length ≤ 1000000)
    (hR : ∀ v h', HE h h' → SerR h' v (mulOfR m T n).1.1 (mulOfR m T n).1.2 → R (.tuple #[v, i6 (mulOfR m T n).2]) h') : CallW FF n_spec_MultipleOf [sv m A l c, i6 n] h R := by
  subst hn
  refine w_spec_MultipleOf ?_
  simp [p_spec_MultipleOf]
  refine newB_i fun b h1 eb en eh eB => ?_
  refine newB_i fun b2 h2 eb2 en2 eh2 eB2 => ?_
  have E2 := eh.trans eh2
  have bx := box2 ((eh2.bk b (by omega)).trans eB)
  simp [bx]
  refine s_spec_l04Is (hT.mono E2) rfl hl hrl fun h3 e3 => ?_
  have E3 := E2.trans e3
  have eB3 := (e3.bk b2 (by omega)).trans eB2
  by_cases c1 : LawT m T
  case neg =>
    simp [c1]
    refine storeBox2 eB3 rfl rfl rfl rfl fun h4 u => ?_
    simp [(box2 u.bk).1]
    have := hR _ _ (u.he E3 (by omega)) (by simpa [mulOfR, c1] using SerR.zero h4)
    simpa [mulOfR, c1] using this
  simp [c1]
  refine s_spec_l01In ?_
  by_cases c2 : -1000000 ≤ n ∧ n ≤ 1000000
  case neg =>
    simp [c2]
    refine storeBox2 eB3 rfl rfl rfl rfl fun h4 u => ?_
    simp [(box2 u.bk).1]
    have := hR _ _ (u.he E3 (by omega)) (by simpa [mulOfR, c1, c2] using SerR.zero h4)
    simpa [mulOfR, c1, c2] using this
  have bx3 := box2 (((eh2.trans e3).bk b (by omega)).trans eB)
  obtain ⟨⟨q1, q2, q3⟩, _⟩ := id c1
  simp [c2, bx3, show b < h3.nx by have := e3.nx; omega]
  refine s_spec_l04Of (hT.mono E3) (D := T.length - 1) (by omega) c1.tri (by omega) (by omega) (by omega) (by omega) (by omega) (by omega) fun v h4 e4 f4 => ?_
  obtain ⟨w, rfl, f7, f8, f9⟩ := f4
  refine ⟨e4.keep, ?_⟩
  refine s_spec_l02Make fun h5 e5 => ?_
  refine storeBox2 (((e4.trans e5).bk b2 (by have := e3.nx; omega)).trans eB3) rfl rfl rfl rfl fun h6 u => ?_
  simp [(box2 u.bk).1]
  have E6 := u.he ((E3.trans e4).trans e5) (by omega)
  have := hR _ _ E6 (by
    simp only [mulOfR, c1, c2, not_true_eq_false, if_false, and_self]
    exact ⟨some ⟨w, 0, none⟩, 1, rfl, RI.of_block (by rw [u.nx]; have := e5.nx; omega) (by rw [u.ot _ (by have := e3.nx; omega), e5.bk _ f8]; exact f9)⟩)
  simpa [mulOfR, c1, c2] using this

theorem s_spec_InverseOfLaw {m : Int} {A : Option Addr} {Rr : Nat → Option Addr} {T : List (List Int)} {l c : Nat} {h : Hp} {R : Value → Hp → Prop} (hT : RT h A Rr T) (hn : l = T.length) (hl : l ≤ 1000000) (hrl : ∀ i, i < T.length → (row T i).length ≤ 1000000)
    (hR : ∀ v h', HE h h' → SerR h' v (invR m T).1.1 (invR m T).1.2 → R (.tuple #[v, i6 (invR m T).2]) h') : CallW FF n_spec_InverseOfLaw [sv m A l c] h R := by
  subst hn
  refine w_spec_InverseOfLaw ?_
  simp [p_spec_InverseOfLaw]
  refine newB_i fun b h1 eb en eh eB => ?_
  refine newB_i fun b2 h2 eb2 en2 eh2 eB2 => ?_
  have E2 := eh.trans eh2
  have bx := box2 ((eh2.bk b (by omega)).trans eB)
  simp [bx]
  refine s_spec_l04Is (hT.mono E2) rfl hl hrl fun h3 e3 => ?_
  have E3 := E2.trans e3
  have eB3 := (e3.bk b2 (by omega)).trans eB2
  by_cases c1 : LawT m T
  case neg =>
    simp [c1]
    refine storeBox2 eB3 rfl rfl rfl rfl fun h4 u => ?_
    simp [(box2 u.bk).1]
    have := hR _ _ (u.he E3 (by omega)) (by simpa [invR, c1] using SerR.zero h4)
    simpa [invR, c1] using this
  have bx3 := box2 (((eh2.trans e3).bk b (by omega)).trans eB)
  obtain ⟨⟨q1, q2, q3⟩, _⟩ := id c1
  simp [c1, bx3, show b < h3.nx by have := e3.nx; omega]
  refine s_spec_l04Inverse (hT.mono E3) (D := T.length - 1) (by omega) c1.tri (by omega) (by omega) (by omega) (by omega) fun v h4 e4 f4 => ?_
  obtain ⟨w, rfl, f7, f8, f9⟩ := f4
  refine ⟨e4.keep, ?_⟩
  refine s_spec_l02Make fun h5 e5 => ?_
  refine storeBox2 (((e4.trans e5).bk b2 (by have := e3.nx; omega)).trans eB3) rfl rfl rfl rfl fun h6 u => ?_
  simp [(box2 u.bk).1]
  have E6 := u.he ((E3.trans e4).trans e5) (by omega)
  have := hR _ _ E6 (by
    simp only [invR, c1, not_true_eq_false, if_false]
    exact ⟨some ⟨w, 0, none⟩, 1, rfl, RI.of_block (by rw [u.nx]; have := e5.nx; omega) (by rw [u.ot _ (by have := e3.nx; omega), e5.bk _ f8]; exact f9)⟩)
  simpa [invR, c1] using this

theorem rowV_ser (z0 z1 : Value) (m : Int) (A : Option Addr) (n c : Nat) : rowV 2 1 [z0, z1] [(0, sv m A n c)] = some [i6 m, .slice A n c] := by simp [rowV, rowFill, reps]
theorem rowV_ser2 (z0 z1 : Value) (m m' : Int) (A B : Option Addr) (n c n' c' : Nat) : rowV 2 2 [z0, z1] [(0, sv m A n c), (1, sv m' B n' c')] = some [i6 m, .slice A n c, i6 m', .slice B n' c'] := by simp [rowV, rowFill, reps]

theorem RS.one {h h' : Hp} {b : Nat} {m : Int} {A : Option Addr} {xs : List Int} {c : Nat} {y : TypeId} {w : Bool} (hb : b < h.nx) (hx : h.bk b = some ⟨[i6 m, .slice A xs.length c], y, w⟩) (hr : RI h A xs) : RS h (some ⟨b, 0, none⟩) [⟨m, A, c, xs⟩] :=
  ⟨fun _ => ⟨b, 0, _, rfl, hb, hx, fun i e he => by
    cases i with
    | zero => cases he; simp
    | succ i => simp at he⟩, fun i e he => by
    cases i with
    | zero => cases he; exact hr
    | succ i => simp at he⟩
theorem RS.two {h h' : Hp} {b : Nat} {m m' : Int} {A B : Option Addr} {xs ys : List Int} {c c' : Nat} {y : TypeId} {w : Bool} (hb : b < h.nx) (hx : h.bk b = some ⟨[i6 m, .slice A xs.length c, i6 m', .slice B ys.length c'], y, w⟩) (hr : RI h A xs) (hr2 : RI h B ys) :
    RS h (some ⟨b, 0, none⟩) [⟨m, A, c, xs⟩, ⟨m', B, c', ys⟩] :=
  ⟨fun _ => ⟨b, 0, _, rfl, hb, hx, fun i e he => by
    match i with
    | 0 => cases he; simp
    | 1 => cases he; simp
    | i + 2 => simp at he⟩, fun i e he => by
    match i with
    | 0 => cases he; exact hr
    | 1 => cases he; exact hr2
    | i + 2 => simp at he⟩

/-- The code of a law and its curves, by what they hold. -/
theorem codeL_one {m m' : Int} {T : List (List Int)} {A : Option Addr} {c : Nat} {xs : List Int} : codeL m T [⟨m', A, c, xs⟩] = codeC m T [(m', xs)] := codeL_C

theorem s_spec_MultipleUnder {m m' n : Int} {A B : Option Addr} {Rr : Nat → Option Addr} {T : List (List Int)} {xs : List Int} {l c l2 c2 : Nat} {h : Hp} {R : Value → Hp → Prop} (hT : RT h A Rr T) (hx : RI h B xs) (hn : l = T.length) (hn2 : l2 = xs.length) (hl : l ≤ 1000000) (hrl : ∀ i, i < T.length → (row T i).length ≤ 1000000) (hxl : xs.length ≤ 1000000)
    (hR : ∀ v h', HE h h' → SerR h' v (mulUR m T n m' xs).1.1 (mulUR m T n m' xs).1.2 → R (.tuple #[v, i6 (mulUR m T n m' xs).2]) h') : CallW FF n_spec_MultipleUnder [sv m A l c, i6 n, sv m' B l2 c2] h R := by
  subst hn; subst hn2
  refine w_spec_MultipleUnder ?_
  simp [p_spec_MultipleUnder]
  refine newB_i fun b h1 eb en eh eB => ?_
  refine newB_i fun b2 h2 eb2 en2 eh2 eB2 => ?_
  refine newB_i fun b3 h3 eb3 en3 eh3 eB3 => ?_
  have E2 := eh.trans eh2
  have E3 := E2.trans eh3
  have bx := box2 (((eh2.trans eh3).bk b (by omega)).trans eB)
  have bx2 := box2 ((eh3.bk b2 (by omega)).trans eB2)
  simp [bx, bx2, rowV_ser]
  refine newB_i fun b4 h4 eb4 en4 eh4 eB4 => ?_
  have E4 := E3.trans eh4
  refine s_spec_l04Code (L := [⟨m', B, c2, xs⟩]) (hT.mono E4) (RS.one (h' := h4) (by omega) eB4 (hx.mono E4)) rfl rfl hl hrl (by simp) (fun i e he => by
    cases i with
    | zero => cases he; exact hxl
    | succ i => simp at he) fun h5 e5 => ?_
  rw [codeL_one]
  have E5 := E4.trans e5
  have k5 : ∀ q x, q < h4.nx → h4.bk q = some x → h5.bk q = some x := fun q x h1 h2 => (e5.bk q h1).trans h2
  have B1 := ((eh2.trans (eh3.trans (eh4.trans e5))).bk b (by omega)).trans eB
  have B2 := ((eh3.trans (eh4.trans e5)).bk b2 (by omega)).trans eB2
  have B3 := ((eh4.trans e5).bk b3 (by omega)).trans eB3
  have bx := box2 B1; have bx2 := box2 B2
  have n5 := e5.nx
  refine ⟨fun vs h' => h' = h5 ∧ vs = [i6 n, .pointer (some ⟨b, 0, none⟩), .pointer (some ⟨b2, 0, none⟩), .pointer (some ⟨b3, 0, none⟩), i6 (mulUR m T n m' xs).2], ?_, ?_⟩
  · rintro vs h6 ⟨rfl, rfl⟩ e he
    simp at he
    simp [he, bx, bx2]
    by_cases c1 : (mulUR m T n m' xs).2 = 0
    · simp [c1, show b < h6.nx by omega]
      have c2 : codeC m T [(m', xs)] = 0 ∧ (-1000000 ≤ n ∧ n ≤ 1000000) := by
        unfold mulUR at c1
        split at c1
        · exact (absurd c1 ‹_›)
        · split at c1
          · cases c1
          · exact ⟨by omega, by omega⟩
      obtain ⟨d1, d2, d3, d4⟩ := codeC_zero c2.1
      obtain ⟨⟨q1, q2, q3⟩, _⟩ := id d1
      refine s_spec_l04Multiple (hT.mono E5) (hx.mono E5) (D := T.length - 1) (by omega) (by omega) d1.tri (by omega) (by omega) (by omega) (by omega) (by omega) (by rw [← d3]; exact d2.1.2.2) (by omega) (by omega) fun v h7 e7 f7 => ?_
      obtain ⟨w, rfl, f7, f8, f9⟩ := f7
      refine ⟨e7.keep, ?_⟩
      refine s_spec_l02Make fun h8 e8 => ?_
      refine storeBox2 (((e7.trans e8).bk b3 (by omega)).trans B3) rfl rfl rfl rfl fun h9 u => ?_
      simp [(box2 u.bk).1]
      have E9 := u.he ((E5.trans e7).trans e8) (by omega)
      have := hR _ _ E9 (by
        rw [mulUR, if_neg (by rw [c2.1]; simp), if_neg (by simp [c2.2])]
        exact ⟨some ⟨w, 0, none⟩, 1, rfl, RI.of_block (by rw [u.nx]; have := e8.nx; omega) (by rw [u.ot _ (by omega), e8.bk _ f8]; exact f9)⟩)
      simpa [c1] using this
    · simp [c1]
      refine storeBox2 B3 rfl rfl rfl rfl fun h9 u => ?_
      simp [(box2 u.bk).1]
      refine hR _ _ (u.he E5 (by omega)) ?_
      have : (mulUR m T n m' xs).1 = (0, []) := by
        unfold mulUR at c1 ⊢
        split
        · rfl
        · rename_i hc
          rw [if_neg hc] at c1
          split
          · rfl
          · rename_i hc2
            rw [if_neg hc2] at c1; simp at c1
      rw [this]; exact SerR.zero _
  · by_cases c1 : codeC m T [(m', xs)] = 0
    · simp [c1]
      refine s_spec_l01In ?_
      by_cases c2 : -1000000 ≤ n ∧ n ≤ 1000000
      · simp [c2, mulUR, c1]
      · simp [c2, mulUR, c1]
    · simp [c1, mulUR]
end XM

/- The program's series: zero, variable, constant, degree, plus, scaled. -/
namespace XM
open Go

/-- What stood before stands, but for one block. -/
structure HX (o : Nat) (h h' : Hp) : Prop where
  nx : h.nx ≤ h'.nx
  bk : ∀ b, b < h.nx → b ≠ o → h'.bk b = h.bk b
theorem HX.refl (o : Nat) (h : Hp) : HX o h h := ⟨Nat.le_refl _, fun _ _ _ => rfl⟩
theorem HX.upd {o : Nat} {x : Option Blk} {h h' h'' : Hp} (a : HX o h h') (u : Upd o x h' h'') : HX o h h'' := ⟨by rw [u.nx]; exact a.nx, fun b hb hne => (u.ot b hne).trans (a.bk b hb hne)⟩
theorem HX.he {o : Nat} {h h' h'' : Hp} (a : HX o h h') (e : HE h' h'') : HX o h h'' := ⟨Nat.le_trans a.nx e.nx, fun b hb hne => (e.bk b (Nat.lt_of_lt_of_le hb a.nx)).trans (a.bk b hb hne)⟩
theorem HX.out {o : Nat} {h0 h h' : Hp} (a : HX o h h') (e : HE h0 h) (ho : h0.nx ≤ o) : HE h0 h' := ⟨Nat.le_trans e.nx a.nx, fun b hb => (a.bk b (Nat.lt_of_lt_of_le hb e.nx) (by omega)).trans (e.bk b hb)⟩

theorem HE.to {h h' : Hp} (e : HE h h') {b : Nat} {x : Blk} (hx : h.bk b = some x) (hb : b < h.nx) : h'.bk b = some x := (e.bk b hb).trans hx
theorem Upd.to {o b : Nat} {y : Option Blk} {h h' : Hp} (u : Upd o y h h') {x : Blk} (hx : h.bk b = some x) (hb : b ≠ o) : h'.bk b = some x := (u.ot b hb).trans hx
theorem HX.to {o b : Nat} {h h' : Hp} (u : HX o h h') {x : Blk} (hx : h.bk b = some x) (hb : b < h.nx) (hne : b ≠ o) : h'.bk b = some x := (u.bk b hb hne).trans hx

/-- A series with a list of its own. -/
def FS (h h' : Hp) (v : Value) (m : Int) (xs : List Int) : Prop :=
  ∃ b, v = sv m (some ⟨b, 0, none⟩) xs.length 1 ∧ h.nx ≤ b ∧ b < h'.nx ∧ h'.bk b = some ⟨mapI xs, y_t_int64, true⟩
theorem FS.ser {h h' : Hp} {v : Value} {m : Int} {xs : List Int} (f : FS h h' v m xs) : SerR h' v m xs := by
  obtain ⟨b, h1, h2, h3, h4⟩ := f; exact ⟨_, 1, h1, RI.of_block h3 h4⟩
theorem FS.older {h0 h h' : Hp} {v : Value} {m : Int} {xs : List Int} (f : FS h h' v m xs) (e : HE h0 h) : FS h0 h' v m xs := by
  obtain ⟨b, h1, h2, h3, h4⟩ := f; exact ⟨b, h1, Nat.le_trans e.nx h2, h3, h4⟩
theorem FS.mono {h h1 h2 : Hp} {v : Value} {m : Int} {xs : List Int} (f : FS h h1 v m xs) (e : HE h1 h2) : FS h h2 v m xs := by
  obtain ⟨b, q1, q2, q3, q4⟩ := f; exact ⟨b, q1, q2, Nat.lt_of_lt_of_le q3 e.nx, (e.bk b q3).trans q4⟩

theorem s_impl_zero {m : Int} {d : Int} {D : Nat} {h : Hp} {R : Value → Hp → Prop} (hd : d = D) (hD : D ≤ 1000000) (hR : ∀ v h', HE h h' → FS h h' v m (List.replicate (D + 1) 0) → R v h') : CallW FF n_impl_zero [i6 m, i6 d] h R := by
  subst hd
  refine w_impl_zero ?_
  have w1 : IntKind.i64.wrap ((D : Int) + 1) = D + 1 := wrapI (by omega) (by omega)
  have mk : makN (.int .i64 ((D : Int) + 1)) = some (D + 1) := makN_nat (by omega) (by unfold sizeMax; omega)
  simp [p_impl_zero, w1]
  refine newB_i fun b h1 eb en eh eB => ?_
  simp [mk, mapI_rep]
  refine newB_i fun b2 h2 eb2 en2 eh2 eB2 => ?_
  refine storeBox2 ((eh2.bk b (by omega)).trans eB) rfl rfl rfl rfl fun h3 u => ?_
  simp [(box2 u.bk).1]
  exact hR _ _ (u.he (eh.trans eh2) (by omega)) ⟨b2, by simp, by omega, by rw [u.nx]; omega, by rw [u.ot _ (by omega)]; exact eB2⟩

theorem s_impl_Series_degree {m : Int} {A : Option Addr} {n c : Nat} {h : Hp} {R : Value → Hp → Prop} (hn : n ≤ 2000000) (hR : ∀ h', HE h h' → R (i6 ((n : Int) - 1)) h') : CallW FF n_impl_Series_degree [sv m A n c] h R := by
  refine w_impl_Series_degree ?_
  have w1 : IntKind.i64.wrap ((n : Int) - 1) = n - 1 := wrapI (by omega) (by omega)
  simp [p_impl_Series_degree, w1]
  refine newB_i fun b h1 eb en eh eB => ?_
  simp [box2 eB, w1]
  exact hR _ eh
theorem s_impl_Plane_degree {m : Int} {A : Option Addr} {n c : Nat} {h : Hp} {R : Value → Hp → Prop} (hn : n ≤ 2000000) (hR : ∀ h', HE h h' → R (i6 ((n : Int) - 1)) h') : CallW FF n_impl_Plane_degree [sv m A n c] h R := by
  refine w_impl_Plane_degree ?_
  have w1 : IntKind.i64.wrap ((n : Int) - 1) = n - 1 := wrapI (by omega) (by omega)
  simp [p_impl_Plane_degree, w1]
  refine newB_i fun b h1 eb en eh eB => ?_
  simp [box2 eB, w1]
  exact hR _ eh

theorem s_impl_variable {m : Int} {d : Int} {D : Nat} {h : Hp} {R : Value → Hp → Prop} (hd : d = D) (hD : D ≤ 1000000) (hD1 : 1 ≤ D) (hR : ∀ v h', HE h h' → FS h h' v m (varL D) → R v h') : CallW FF n_impl_variable [i6 m, i6 d] h R := by
  refine w_impl_variable ?_
  simp [p_impl_variable]
  refine newB_i fun b h1 eb en eh eB => ?_
  refine s_impl_zero hd hD fun v h2 e2 f2 => ?_
  obtain ⟨o, rfl, f2, f3, f4⟩ := f2
  simp
  refine newB_i fun b3 h3 eb3 en3 eh3 eB3 => ?_
  refine storeBox2 eB3 rfl rfl rfl rfl fun h4 u4 => ?_
  have q1 : indexAddrV 1 (.slice (some ⟨o, 0, none⟩) (D + 1) 1) (.int .i64 1) = some (.pointer (some ⟨o, 1, none⟩)) := ixOwn (i := 1) rfl (by omega)
  simp [box2 u4.bk, q1]
  refine storeI (i := 1) (by rw [u4.ot _ (by omega), eh3.bk _ (by omega)]; exact f4) (by simp; omega) fun h5 u5 => ?_
  simp [box2 ((u5.ot _ (by omega)).trans u4.bk)]
  have nx := e2.nx; have n3 := eh3.nx; have n4 := u4.nx; have n5 := u5.nx
  refine storeBox2 (x := ⟨_, _, true⟩) (by rw [u5.ot _ (by omega), u4.ot _ (by omega), eh3.bk _ (by omega), e2.bk _ (by omega)]; exact eB) rfl rfl rfl rfl fun h6 u6 => ?_
  simp [box2 u6.bk]
  have n6 := u6.nx
  refine hR _ _ (u6.he (u5.he (u4.he ((eh.trans e2).trans eh3) (by omega)) (by omega)) (by omega)) ⟨o, by simp, by omega, by omega, ?_⟩
  rw [u6.ot _ (by omega), u5.bk]; rfl

theorem s_impl_Series_constant {m k : Int} {A : Option Addr} {n c D : Nat} {h : Hp} {R : Value → Hp → Prop} (hn : n = D + 1) (hD : D ≤ 1000000) (hm : 0 < m) (hm2 : m ≤ 3000000000)
    (hR : ∀ v h', HE h h' → FS h h' v m ((List.replicate (D + 1) 0).set 0 (k % m)) → R v h') : CallW FF n_impl_Series_constant [sv m A n c, i6 k] h R := by
  subst hn
  refine w_impl_Series_constant ?_
  simp [p_impl_Series_constant]
  refine newB_i fun b h1 eb en eh eB => ?_
  refine newB_i fun b2 h2 eb2 en2 eh2 eB2 => ?_
  have E2 := eh.trans eh2
  simp [box2 ((eh2.bk b (by omega)).trans eB), show b < h2.nx by omega]
  refine s_impl_Series_degree (by omega) fun h3 e3 => ⟨e3.keep, ?_⟩
  refine s_impl_zero (D := D) (by simp) hD fun v h4 e4 f4 => ?_
  obtain ⟨o, rfl, f4, f5, f6⟩ := f4
  simp
  refine newB_i fun b5 h5 eb5 en5 eh5 eB5 => ?_
  refine storeBox2 eB5 rfl rfl rfl rfl fun h6 u6 => ?_
  have n3 := e3.nx; have n4 := e4.nx; have n5 := eh5.nx; have n6 := u6.nx
  have B1 := (u6.to (eh5.to (e4.to (e3.to (eh2.to eB (by omega)) (by omega)) (by omega)) (by omega)) (by omega))
  have B2 := (u6.to (eh5.to (e4.to (e3.to eB2 (by omega)) (by omega)) (by omega)) (by omega))
  simp [box2 u6.bk, box2 B1, show b5 < h6.nx by omega]
  refine s_impl_mod hm (by omega) ⟨keepB_refl _ _, ?_⟩
  have q1 : indexAddrV 1 (.slice (some ⟨o, 0, none⟩) (D + 1) 1) (.int .i64 0) = some (.pointer (some ⟨o, 0, none⟩)) := ixOwn (i := 0) rfl (by omega)
  simp [q1]
  refine storeI (i := 0) (by rw [u6.ot _ (by omega), eh5.bk _ (by omega)]; exact f6) (by simp) fun h7 u7 => ?_
  simp [box2 ((u7.ot _ (by omega)).trans u6.bk)]
  have n7 := u7.nx
  refine storeBox2 (x := ⟨_, _, true⟩) ((u7.ot _ (by omega)).trans B2) rfl rfl rfl rfl fun h8 u8 => ?_
  simp [box2 u8.bk]
  have n8 := u8.nx
  refine hR _ _ (u8.he (u7.he (u6.he (((E2.trans e3).trans e4).trans eh5) (by omega)) (by omega)) (by omega)) ⟨o, by simp, by omega, by omega, ?_⟩
  rw [u8.ot _ (by omega), u7.bk]

theorem s_impl_Series_plus {m m' : Int} {A B : Option Addr} {xs ys : List Int} {n n2 c c2 : Nat} {h : Hp} {R : Value → Hp → Prop} (ha : RI h A xs) (hb : RI h B ys) (hn : n = xs.length) (hn2 : n2 = ys.length) (hm : 0 < m) (hm2 : m ≤ 3000000000)
    (hx : Nums m xs) (hy : Nums m ys) (hl1 : 1 ≤ xs.length) (hlx : xs.length ≤ 1000000) (hl : xs.length ≤ ys.length)
    (hR : ∀ v h', HE h h' → FS h h' v m (addL m xs ys) → R v h') : CallW FF n_impl_Series_plus [sv m A n c, sv m' B n2 c2] h R := by
  subst hn; subst hn2
  refine w_impl_Series_plus ?_
  simp [p_impl_Series_plus]
  refine newB_i fun b h1 eb en eh eB => ?_
  refine newB_i fun b2 h2 eb2 en2 eh2 eB2 => ?_
  refine newB_i fun b3 h3 eb3 en3 eh3 eB3 => ?_
  have E3 := (eh.trans eh2).trans eh3
  simp [box2 (((eh2.trans eh3).bk b (by omega)).trans eB), show b < h3.nx by omega]
  refine s_impl_Series_degree (by omega) fun h4 e4 => ⟨e4.keep, ?_⟩
  refine s_impl_zero (D := xs.length - 1) (by omega) (by omega) fun v h5 e5 f5 => ?_
  obtain ⟨o, rfl, f5, f6, f7⟩ := f5
  have hl' : xs.length - 1 + 1 = xs.length := by omega
  simp [hl'] at f7 ⊢
  refine newB_i fun b6 h6 eb6 en6 eh6 eB6 => ?_
  refine storeBox2 eB6 rfl rfl rfl rfl fun h7 u7 => ?_
  have n4 := e4.nx; have n5 := e5.nx; have n7 := u7.nx
  have E5 := (E3.trans e4).trans e5
  have E7 : HE h h7 := u7.he (E5.trans eh6) (by omega)
  have B1 := (u7.to (eh6.to (e5.to (e4.to (eh3.to (eh2.to eB (by omega)) (by omega)) (by omega)) (by omega)) (by omega)) (by omega))
  have B2 := (u7.to (eh6.to (e5.to (e4.to (eh3.to eB2 (by omega)) (by omega)) (by omega)) (by omega)) (by omega))
  have B3 := (u7.to (eh6.to (e5.to (e4.to eB3 (by omega)) (by omega)) (by omega)) (by omega))
  have B5 := (u7.to (eh6.to f7 (by omega)) (by omega))
  simp [box2 u7.bk]
  refine LP1 (fun d vs h' => ∃ (i : Nat) (zs : List Int), d = xs.length - i ∧ i ≤ xs.length ∧ vs = [.pointer (some ⟨b, 0, none⟩), .pointer (some ⟨b2, 0, none⟩), .pointer (some ⟨b3, 0, none⟩), .pointer (some ⟨b6, 0, none⟩), i6 xs.length, i6 i] ∧
     HX o h7 h' ∧ zs.length = xs.length ∧ h'.bk o = some ⟨mapI zs, y_t_int64, true⟩ ∧ ∀ j, j < i → gt zs j = (gt xs j + gt ys j) % m) ?_ _ _ _ ⟨0, List.replicate xs.length 0, rfl, by omega, rfl, HX.refl _ _, by simp, B5, by omega⟩
  rintro d vs h8 ⟨i, zs, rfl, hi, rfl, E8, hz, hbk, hzs⟩ K K1 hK hK1
  refine wl_impl_Series_plus_0 ?_
  have n8 := E8.nx
  have BA := box2 ((E8.bk b (by omega) (by omega)).trans B1)
  have BB := box2 ((E8.bk b2 (by omega) (by omega)).trans B2)
  have BC := (E8.bk b3 (by omega) (by omega)).trans B3
  have BO := box2 ((E8.bk b6 (by omega) (by omega)).trans u7.bk)
  have HE8 := E8.out E7 (by omega)
  have m0 : ¬ m = 0 := by omega
  by_cases hlt : i < xs.length
  · have r := (ha.mono HE8).at c (e := i) rfl rfl hlt
    have s := (hb.mono HE8).at c2 (e := i) rfl rfl (show i < ys.length by omega)
    have q : indexAddrV 1 (.slice (some ⟨o, 0, none⟩) xs.length 1) (.int .i64 i) = some (.pointer (some ⟨o, i, none⟩)) := ixOwn rfl hlt
    have bx := hx.gt hlt; have by_ := hy.gt (show i < ys.length by omega)
    have w1 : IntKind.i64.wrap (gt xs i + gt ys i) = gt xs i + gt ys i := wrapI (by omega) (by omega)
    have w2 : IntKind.i64.wrap ((i : Int) + 1) = i + 1 := wrapI (by omega) (by omega)
    simp [q_impl_Series_plus_0, hlt, BA, BB, BO, r, s, q, w1, w2, m0, Int.tmod_eq_emod_of_nonneg (show 0 ≤ gt xs i + gt ys i by omega)]
    refine storeI hbk (by omega) fun h9 u9 => ?_
    refine hK _ _ _ (by omega) ⟨i + 1, _, rfl, by omega, rfl, E8.upd u9, by simp [hz], u9.bk, fun j hj => ?_⟩
    rw [gt_set]
    by_cases h : i = j
    · subst h; rw [if_pos ⟨rfl, by omega⟩]
    · rw [if_neg (fun h2 => h h2.1)]; exact hzs j (by omega)
  · have : i = xs.length := by omega
    subst this
    simp [q_impl_Series_plus_0]
    refine hK1 _ _ fun e he => ?_
    simp at he
    simp [he, BO]
    refine storeBox2 BC rfl rfl rfl rfl fun h9 u9 => ?_
    simp [box2 u9.bk]
    refine hR _ _ (u9.he HE8 (by omega)) ⟨o, by simp, by omega, by rw [u9.nx]; omega, ?_⟩
    rw [u9.ot _ (by omega), hbk, eq_tab hz hzs]; rfl

theorem s_impl_Series_scaled {m k : Int} {A : Option Addr} {xs : List Int} {n c : Nat} {h : Hp} {R : Value → Hp → Prop} (ha : RI h A xs) (hn : n = xs.length) (hm : 0 < m) (hm2 : m ≤ 3000000000)
    (hx : Nums m xs) (hl1 : 1 ≤ xs.length) (hlx : xs.length ≤ 1000000)
    (hR : ∀ v h', HE h h' → FS h h' v m (scaleL m k xs) → R v h') : CallW FF n_impl_Series_scaled [sv m A n c, i6 k] h R := by
  subst hn
  refine w_impl_Series_scaled ?_
  simp [p_impl_Series_scaled]
  refine newB_i fun b h1 eb en eh eB => ?_
  refine newB_i fun b3 h3 eb3 en3 eh3 eB3 => ?_
  have E3 := eh.trans eh3
  simp [box2 ((eh3.bk b (by omega)).trans eB), show b < h3.nx by omega]
  refine s_impl_Series_degree (by omega) fun h4 e4 => ⟨e4.keep, ?_⟩
  refine s_impl_zero (D := xs.length - 1) (by omega) (by omega) fun v h5 e5 f5 => ?_
  obtain ⟨o, rfl, f5, f6, f7⟩ := f5
  have hl' : xs.length - 1 + 1 = xs.length := by omega
  simp [hl'] at f7 ⊢
  refine newB_i fun b6 h6 eb6 en6 eh6 eB6 => ?_
  refine storeBox2 eB6 rfl rfl rfl rfl fun h7 u7 => ?_
  have n4 := e4.nx; have n5 := e5.nx; have n7 := u7.nx
  have E5 := (E3.trans e4).trans e5
  have E7 : HE h h7 := u7.he (E5.trans eh6) (by omega)
  have B1 := (u7.to (eh6.to (e5.to (e4.to (eh3.to eB (by omega)) (by omega)) (by omega)) (by omega)) (by omega))
  have B3 := (u7.to (eh6.to (e5.to (e4.to eB3 (by omega)) (by omega)) (by omega)) (by omega))
  have B5 := (u7.to (eh6.to f7 (by omega)) (by omega))
  simp [box2 B1]
  refine LP1 (fun d vs h' => ∃ (i : Nat) (zs : List Int), d = xs.length - i ∧ i ≤ xs.length ∧ vs = [i6 k, .pointer (some ⟨b, 0, none⟩), .pointer (some ⟨b3, 0, none⟩), .pointer (some ⟨b6, 0, none⟩), .slice A xs.length c, i6 xs.length, i6 i] ∧
     HX o h7 h' ∧ zs.length = xs.length ∧ h'.bk o = some ⟨mapI zs, y_t_int64, true⟩ ∧ ∀ j, j < i → gt zs j = (k * gt xs j) % m) ?_ _ _ _ ⟨0, List.replicate xs.length 0, rfl, by omega, rfl, HX.refl _ _, by simp, B5, by omega⟩
  rintro d vs h8 ⟨i, zs, rfl, hi, rfl, E8, hz, hbk, hzs⟩ K K1 hK hK1
  refine wl_impl_Series_scaled_0 ?_
  have n8 := E8.nx
  have BA := box2 ((E8.bk b (by omega) (by omega)).trans B1)
  have BC := (E8.bk b3 (by omega) (by omega)).trans B3
  have BO := box2 ((E8.bk b6 (by omega) (by omega)).trans u7.bk)
  have HE8 := E8.out E7 (by omega)
  by_cases hlt : i < xs.length
  · have r := (ha.mono HE8).at c (e := i) rfl rfl hlt
    have q : indexAddrV 1 (.slice (some ⟨o, 0, none⟩) xs.length 1) (.int .i64 i) = some (.pointer (some ⟨o, i, none⟩)) := ixOwn rfl hlt
    have bx := hx.gt hlt
    have w2 : IntKind.i64.wrap ((i : Int) + 1) = i + 1 := wrapI (by omega) (by omega)
    simp [q_impl_Series_scaled_0, hlt, BA, BO, r, show b6 < h8.nx by omega, show b < h8.nx by omega]
    have mb := mod_bd hm k
    refine s_impl_mod hm (by omega) ⟨keepB_refl _ _, ?_⟩
    refine s_impl_mul hm hm2 mb.1 bx.1 (mul_bd hm2 mb bx).2 ⟨keepB_refl _ _, ?_⟩
    simp [q, w2]
    refine storeI hbk (by omega) fun h9 u9 => ?_
    refine hK _ _ _ (by omega) ⟨i + 1, _, rfl, by omega, rfl, E8.upd u9, by simp [hz], u9.bk, fun j hj => ?_⟩
    rw [gt_set]
    by_cases h : i = j
    · subst h; rw [if_pos ⟨rfl, by omega⟩, Int.mul_emod (k % m), Int.emod_emod, ← Int.mul_emod]
    · rw [if_neg (fun h2 => h h2.1)]; exact hzs j (by omega)
  · have : i = xs.length := by omega
    subst this
    simp [q_impl_Series_scaled_0]
    refine hK1 _ _ fun e he => ?_
    simp at he
    simp [he, BO]
    refine storeBox2 BC rfl rfl rfl rfl fun h9 u9 => ?_
    simp [box2 u9.bk]
    refine hR _ _ (u9.he HE8 (by omega)) ⟨o, by simp, by omega, by rw [u9.nx]; omega, ?_⟩
    rw [u9.ot _ (by omega), hbk, eq_tab hz hzs]; rfl
end XM

/- The program's series: times, compose, powers, curves. -/
namespace XM
open Go

theorem gt_take {xs : List Int} {k i : Nat} (h : i < k) : gt (xs.take k) i = gt xs i := by
  simp only [gt, List.getD_eq_getElem?_getD, List.getElem?_take, if_pos h]
theorem gt_drop {xs : List Int} {k i : Nat} : gt (xs.drop k) i = gt xs (k + i) := by
  simp only [gt, List.getD_eq_getElem?_getD, List.getElem?_drop]

/-- The first part of a slice. -/
theorem RI.pre {h : Hp} {A : Option Addr} {xs : List Int} (r : RI h A xs) {e : Int} {n k : Nat} (hn : n = xs.length) (he : e = k) (hk : k ≤ n) :
    ∃ A' c', sliceV 1 none (some (.int .i64 e)) (.slice A n 1) = some (.slice A' k c') ∧ RI h A' (xs.take k) := by
  subst he
  cases A with
  | none =>
    have : n = 0 := by
      rcases Nat.eq_zero_or_pos n with h0 | h0
      · exact h0
      · obtain ⟨b, o, x, h1, _⟩ := r (by simpa using hn ▸ h0)
        cases h1
    have hk0 : k = 0 := by omega
    subst hk0
    exact ⟨none, 0, by simp [sliceV, bnd], by simpa using RI.nil _ _⟩
  | some a =>
    refine ⟨some (addOff a 0), 1, by simp [sliceV, bnd, hk], ?_⟩
    intro hl
    have hl' : 0 < (mapI xs).length := by simp at hl ⊢; omega
    obtain ⟨b, o, x, h1, h2, h3, h4⟩ := r hl'
    cases h1
    refine ⟨b, o, x, rfl, h2, h3, fun i v hv => h4 i v ?_⟩
    simp only [mapI, List.map_take, List.getElem?_take] at hv
    split at hv
    · exact hv
    · cases hv

theorem s_impl_Series_times {m m' : Int} {A B : Option Addr} {xs ys : List Int} {n n2 c N : Nat} {h : Hp} {R : Value → Hp → Prop} (ha : RI h A xs) (hb : RI h B ys) (hn : n = N) (hn2 : n2 = N) (hm : 0 < m) (hm2 : m ≤ 3000000000)
    (hx : Nums m xs) (hy : Nums m ys) (hl1 : 1 ≤ N) (hlx : N ≤ 1000000) (hxl : xs.length = N) (hyl : ys.length = N)
    (hR : ∀ v h', HE h h' → FS h h' v m (mulL m N xs ys) → R v h') : CallW FF n_impl_Series_times [sv m A n c, sv m' B n2 1] h R := by
  subst hn; subst hn2
  refine w_impl_Series_times ?_
  simp [p_impl_Series_times]
  refine newB_i fun b h1 eb en eh eB => ?_
  refine newB_i fun b2 h2 eb2 en2 eh2 eB2 => ?_
  refine newB_i fun b3 h3 eb3 en3 eh3 eB3 => ?_
  have E3 := (eh.trans eh2).trans eh3
  simp [box2 (((eh2.trans eh3).bk b (by omega)).trans eB), show b < h3.nx by omega]
  refine s_impl_Series_degree (by omega) fun h4 e4 => ⟨e4.keep, ?_⟩
  refine s_impl_zero (D := n2 - 1) (by omega) (by omega) fun v h5 e5 f5 => ?_
  obtain ⟨o, rfl, f5, f6, f7⟩ := f5
  have hl' : n2 - 1 + 1 = n2 := by omega
  simp [hl'] at f7 ⊢
  refine newB_i fun b6 h6 eb6 en6 eh6 eB6 => ?_
  refine storeBox2 eB6 rfl rfl rfl rfl fun h7 u7 => ?_
  have n4 := e4.nx; have n5 := e5.nx; have n7 := u7.nx
  have E5 := (E3.trans e4).trans e5
  have E7 : HE h h7 := u7.he (E5.trans eh6) (by omega)
  have C5 := (e4.trans e5).trans eh6
  have B1 := u7.to (((eh2.trans eh3).trans C5).to eB (by omega)) (by omega)
  have B2 := u7.to ((eh3.trans C5).to eB2 (by omega)) (by omega)
  have B3 := u7.to (C5.to eB3 (by omega)) (by omega)
  have B5 := u7.to (eh6.to f7 (by omega)) (by omega)
  simp [box2 B1]
  have m0 : ¬ m = 0 := by omega
  -- the outer loop
  refine LP1 (fun d vs h' => ∃ (i : Nat) (zs : List Int), d = n2 - i ∧ i ≤ n2 ∧ vs = [.pointer (some ⟨b, 0, none⟩), .pointer (some ⟨b2, 0, none⟩), .pointer (some ⟨b3, 0, none⟩), .pointer (some ⟨b6, 0, none⟩), .slice A n2 c, i6 n2, i6 i] ∧
     HX o h7 h' ∧ zs.length = n2 ∧ h'.bk o = some ⟨mapI zs, y_t_int64, true⟩ ∧ ∀ n, n < n2 → gt zs n = ps xs ys i n % m) ?_ _ _ _ ⟨0, List.replicate n2 0, rfl, by omega, rfl, HX.refl _ _, by simp, B5, fun n hn => by rw [rep_tab, gt_tab (by omega), ps_zero]; simp⟩
  rintro d vs h8 ⟨i, zs, rfl, hi, rfl, E8, hz, hbk, hzs⟩ K K1 hK hK1
  refine wl_impl_Series_times_1 ?_
  have n8 := E8.nx
  have BB := box2 (E8.to B2 (by omega) (by omega))
  have BC := E8.to B3 (by omega) (by omega)
  have BO := box2 (E8.to u7.bk (by omega) (by omega))
  have HE8 := E8.out E7 (by omega)
  by_cases hlt : i < n2
  case neg =>
    have : i = n2 := by omega
    subst this
    simp [q_impl_Series_times_1]
    refine hK1 _ _ fun e he => ?_
    simp at he
    simp [he, BO]
    refine storeBox2 BC rfl rfl rfl rfl fun h9 u9 => ?_
    simp [box2 u9.bk]
    refine hR _ _ (u9.he HE8 (by omega)) ⟨o, by simp, by omega, by rw [u9.nx]; omega, ?_⟩
    rw [u9.ot _ (by omega), hbk, eq_tab (f := fun k => cv xs ys k % m) hz fun n hn => by rw [hzs n hn, ps_full (by omega)]]; rfl
  have r := (ha.mono HE8).at c (e := i) rfl hxl.symm (by omega)
  have wS : IntKind.i64.wrap ((n2 : Int) - i) = n2 - i := wrapI (by omega) (by omega)
  obtain ⟨B', c', sl, rB⟩ := hb.pre (e := (n2 : Int) - i) (n := n2) (k := n2 - i) hyl.symm (by omega) (by omega)
  have bx := hx.gt (show i < xs.length by omega)
  simp [q_impl_Series_times_1, hlt, BB, r, wS, sl]
  -- the inner loop
  refine LP1 (fun d vs h' => ∃ (k : Nat) (zs : List Int), d = n2 - i - k ∧ i + k ≤ n2 ∧ vs = [.pointer (some ⟨b, 0, none⟩), .pointer (some ⟨b2, 0, none⟩), .pointer (some ⟨b3, 0, none⟩), .pointer (some ⟨b6, 0, none⟩), i6 i, i6 (gt xs i), .slice A n2 c, i6 n2, i6 i, .slice B' (n2 - i) c', i6 ((n2 - i : Nat) : Int), i6 k] ∧
     HX o h7 h' ∧ zs.length = n2 ∧ h'.bk o = some ⟨mapI zs, y_t_int64, true⟩ ∧ ∀ n, n < n2 → gt zs n = (ps xs ys i n + if i ≤ n ∧ n < i + k then gt xs i * gt ys (n - i) else 0) % m) ?_ _ _ _
     ⟨0, zs, rfl, by omega, rfl, E8, hz, hbk, fun n hn => by rw [hzs n hn, if_neg (by omega)]; simp⟩
  clear hzs hbk hz r BB BC BO HE8 E8 n8 zs h8
  rintro d vs h8 ⟨k, zs, rfl, hk, rfl, E8, hz, hbk, hzs⟩ K2 K3 hK2 hK3
  refine wl_impl_Series_times_0 ?_
  have n8 := E8.nx
  have BA := box2 (E8.to B1 (by omega) (by omega))
  have BO := box2 (E8.to u7.bk (by omega) (by omega))
  have HE8 := E8.out E7 (by omega)
  by_cases hlt2 : k < n2 - i
  · have t := (rB.mono HE8).at c' (e := k) (n := n2 - i) rfl (by simp; omega) (by simp; omega)
    have hgt : gt (ys.take (n2 - i)) k = gt ys k := gt_take hlt2
    have w4 : IntKind.i64.wrap ((i : Int) + k) = i + k := wrapI (by omega) (by omega)
    have w5 : IntKind.i64.wrap ((k : Int) + 1) = k + 1 := wrapI (by omega) (by omega)
    have q5 : indexAddrV 1 (.slice (some ⟨o, 0, none⟩) n2 1) (.int .i64 ((i : Int) + k)) = some (.pointer (some ⟨o, i + k, none⟩)) := ixOwn (by omega) (by omega)
    have q6 := ownRd (n := 0) (c := 0) hbk (show i + k < zs.length by omega)
    have by_ := hy.gt (show k < ys.length by omega)
    have bz : 0 ≤ gt zs (i + k) ∧ gt zs (i + k) < m := by rw [hzs _ (by omega)]; exact mod_bd hm _
    have bm := mod_bd hm (gt xs i * gt ys k)
    have w8 : IntKind.i64.wrap (gt zs (i + k) + gt xs i * gt ys k % m) = gt zs (i + k) + gt xs i * gt ys k % m := wrapI (by omega) (by omega)
    simp [q_impl_Series_times_0, hlt2, t, hgt, BA, BO, w4, q5, q6, show b6 < h8.nx by omega, show b < h8.nx by omega, show o < h8.nx by omega]
    refine s_impl_mul hm hm2 bx.1 by_.1 (mul_bd hm2 bx by_).2 ⟨keepB_refl _ _, ?_⟩
    simp [w8, BA, m0, q5, Int.tmod_eq_emod_of_nonneg (show 0 ≤ gt zs (i + k) + gt xs i * gt ys k % m by omega), show b < h8.nx by omega, w5]
    refine storeI hbk (by omega) fun h9 u9 => ?_
    refine hK2 _ _ _ (by omega) ⟨k + 1, _, rfl, by omega, rfl, E8.upd u9, by simp [hz], u9.bk, fun n hn => ?_⟩
    rw [gt_set]
    by_cases hn2 : i + k = n
    · subst hn2
      rw [if_pos ⟨rfl, by omega⟩, if_pos (by omega), hzs _ hn, if_neg (by omega), Int.add_zero, Int.emod_add_emod, show i + k - i = k by omega]
    · rw [if_neg (fun h2 => hn2 h2.1), hzs _ hn]
      congr 2
      by_cases h3 : i ≤ n ∧ n < i + k
      · rw [if_pos h3, if_pos (by omega)]
      · rw [if_neg h3, if_neg (by omega)]
  · have hk' : k = n2 - i := by omega
    have w5 : IntKind.i64.wrap ((i : Int) + 1) = i + 1 := wrapI (by omega) (by omega)
    simp [q_impl_Series_times_0, hlt2]
    refine hK3 _ _ fun e he => ?_
    simp at he
    simp [he, w5]
    refine hK _ _ _ (by omega) ⟨i + 1, zs, rfl, by omega, rfl, E8, hz, hbk, fun n hn => ?_⟩
    rw [hzs n hn, ps_succ]
    congr 2
    by_cases h3 : i ≤ n
    · rw [if_pos h3, if_pos (by omega)]
    · rw [if_neg h3, if_neg (by omega)]

theorem addL_const {m c : Int} {X : List Int} {D : Nat} (hX : Nums m X) (hl : X.length = D + 1) : addL m X ((List.replicate (D + 1) 0).set 0 (c % m)) = addC m X c := by
  refine (gt_ext (by simp [addC]) fun i hi => ?_)
  simp only [addL_len] at hi
  have := hX.gt hi
  rw [addL, gt_tab hi, gt_set, addC, gt_set]
  by_cases h : 0 = i
  · subst h
    rw [if_pos ⟨rfl, by simp⟩, if_pos ⟨rfl, by omega⟩, Int.add_emod_emod]
  · rw [if_neg (fun h2 => h h2.1), if_neg (fun h2 => h h2.1), rep_tab, gt_tab (by omega), Int.add_zero, Int.emod_eq_of_lt this.1 this.2]

theorem s_impl_Series_compose {m m' : Int} {A B : Option Addr} {a f : List Int} {D n n2 c : Nat} {h : Hp} {R : Value → Hp → Prop} (ha : RI h A a) (hf : RI h B f) (hn : n = D + 1) (hn2 : n2 = D + 1) (hm : 2 ≤ m) (hm2 : m ≤ 3000000000)
    (hx : Nums m a) (hy : Nums m f) (hD : D ≤ 100000) (hal : a.length = D + 1) (hfl : f.length = D + 1)
    (hR : ∀ v h', HE h h' → FS h h' v m (compL m D a f) → R v h') : CallW FF n_impl_Series_compose [sv m A n c, sv m' B n2 1] h R := by
  subst hn; subst hn2
  refine w_impl_Series_compose ?_
  simp [p_impl_Series_compose]
  refine newB_i fun b h1 eb en eh eB => ?_
  refine newB_i fun b2 h2 eb2 en2 eh2 eB2 => ?_
  refine newB_i fun b3 h3 eb3 en3 eh3 eB3 => ?_
  have E3 := (eh.trans eh2).trans eh3
  simp [box2 ((eh2.trans eh3).to eB (by omega))]
  refine s_impl_Series_constant (D := D) rfl (by omega) (by omega) hm2 fun v h4 e4 f4 => ?_
  obtain ⟨o, rfl, f5, f6, f7⟩ := f4
  have hz0 : (List.replicate (D + 1) (0 : Int)).set 0 (0 % m) = List.replicate (D + 1) 0 := by
    refine gt_ext (by simp) fun i hi => ?_
    rw [gt_set]; split
    · rename_i hc; rw [← hc.1, rep_tab, gt_tab (by omega)]; simp
    · rfl
  rw [hz0] at f7
  simp
  refine newB_i fun b6 h6 eb6 en6 eh6 eB6 => ?_
  refine storeBox2 eB6 rfl rfl rfl rfl fun h7 u7 => ?_
  have n4 := e4.nx; have n7 := u7.nx
  have E7 : HE h h7 := u7.he ((E3.trans e4).trans eh6) (by omega)
  have C5 := e4.trans eh6
  have B1 := u7.to (((eh2.trans eh3).trans C5).to eB (by omega)) (by omega)
  have B2 := u7.to ((eh3.trans C5).to eB2 (by omega)) (by omega)
  have B3 := u7.to (C5.to eB3 (by omega)) (by omega)
  have B5 := u7.to (eh6.to f7 (by omega)) (by omega)
  simp [box2 B1]
  refine s_impl_Series_degree (by omega) fun h8 e8 => ?_
  have n8 := e8.nx
  refine LP1 (fun d vs h' => ∃ (k o : Nat) (y : TypeId), d = D + 1 - k ∧ k ≤ D + 1 ∧ vs = [.pointer (some ⟨b, 0, none⟩), .pointer (some ⟨b2, 0, none⟩), .pointer (some ⟨b3, 0, none⟩), .pointer (some ⟨b6, 0, none⟩), i6 ((D : Int) - k)] ∧
     HX b6 h8 h' ∧ h'.bk b6 = some ⟨[i6 m, .slice (some ⟨o, 0, none⟩) (D + 1) 1], y, true⟩ ∧ h.nx ≤ o ∧ o < h'.nx ∧ o ≠ b6 ∧ h'.bk o = some ⟨mapI (horn m D a f D k), y_t_int64, true⟩ ∧ o ≠ b3) ?_ _ _ _
     ⟨0, o, _, rfl, by omega, by simp, HX.refl _ _, e8.to u7.bk (by omega), by omega, by omega, by omega, e8.to B5 (by omega), by omega⟩
  rintro d vs h9 ⟨k, p, y, rfl, hk, rfl, E9, hb6, hp1, hp2, hp3, hp4, hp5⟩ K K1 hK hK1
  refine wl_impl_Series_compose_0 ?_
  have n9 := E9.nx
  have HE9 := E9.out (E7.trans e8) (by omega)
  have BA1 := E9.to (e8.to B1 (by omega)) (by omega) (by omega)
  have BB := box2 (E9.to (e8.to B2 (by omega)) (by omega) (by omega))
  have BC := E9.to (e8.to B3 (by omega)) (by omega) (by omega)
  have BO := box2 hb6
  by_cases hlt : k ≤ D
  case neg =>
    have : k = D + 1 := by omega
    subst this
    have g0 : ¬ (D : Int) + 1 ≤ (D : Int) := by omega
    simp [q_impl_Series_compose_0, g0]
    refine hK1 _ _ fun e he => ?_
    simp at he
    simp [he, BO]
    refine storeBox2 BC rfl rfl rfl rfl fun h10 u10 => ?_
    simp [box2 u10.bk]
    refine hR _ _ (u10.he HE9 (by omega)) ⟨p, by simp, hp1, by rw [u10.nx]; omega, ?_⟩
    rw [u10.ot _ hp5, hp4, compL, hal, show min (D + 1 - 1) D = D by omega]
  have g0 : (k : Int) ≤ D := by omega
  simp [q_impl_Series_compose_0, g0, BO, BB]
  refine s_impl_Series_times (N := D + 1) (RI.of_block hp2 hp4) (hf.mono HE9) rfl rfl (by omega) hm2 (nums_horn (by omega) D a f D k) hy (by omega) (by omega) (by simp) hfl fun v h10 e10 f10 => ?_
  obtain ⟨q, rfl, f11, f12, f13⟩ := f10
  refine ⟨e10.keep, ?_⟩
  have n10 := e10.nx
  have BA := box2 (e10.to BA1 (by omega))
  have r := (ha.mono (HE9.trans e10)).at c (e := (D : Int) - k) (i := D - k) (n := D + 1) (by omega) hal.symm (by omega)
  have iA := (ha.mono HE9).inb (HE.refl _) (i := D - k) (by omega)
  simp [BA, r, iA, show b < h9.nx by omega]
  refine s_impl_Series_constant (D := D) rfl (by omega) (by omega) hm2 fun v h11 e11 f11' => ?_
  obtain ⟨r2, rfl, f21, f22, f23⟩ := f11'
  simp
  refine s_impl_Series_plus (RI.of_block (by have := e11.nx; omega) (e11.to f13 f12)) (RI.of_block f22 f23) (by simp) (by simp) (by omega) hm2 (nums_mulL (by omega) _ _ _) (nums_set (nums_rep (by omega) _) (mod_bd (by omega) _)) (by simp) (by simp; omega) (by simp) fun v h12 e12 f31 => ?_
  obtain ⟨s, rfl, f32, f33, f34⟩ := f31
  have n11 := e11.nx; have n12 := e12.nx
  have F := (e10.trans e11).trans e12
  simp
  refine storeBox2 (F.to hb6 (by omega)) rfl rfl rfl rfl fun h13 u13 => ?_
  have n13 := u13.nx
  simp [show IntKind.i64.wrap ((D : Int) - k - 1) = D - (k + 1 : Nat) by rw [wrapI] <;> omega]
  refine hK _ _ _ (by omega) ⟨k + 1, s, y, rfl, by omega, by simp, (E9.he F).upd u13, u13.bk, by omega, by omega, by omega, ?_, by omega⟩
  rw [u13.ot _ (by omega), f34, addL_const (nums_mulL (by omega) _ _ _) (by simp)]; rfl
end XM

/- The program's series: powers, curves. -/
namespace XM
open Go

/-- The cells of a list of series. -/
def serC (L : List Ser) : List Value := L.flatMap fun e => [i6 e.m, .slice e.A e.xs.length e.c]
theorem serC_len (L : List Ser) : (serC L).length = L.length * 2 := by
  induction L with
  | nil => rfl
  | cons e L ih => simp [serC] at ih ⊢; omega
theorem serC_get {L : List Ser} : ∀ {i : Nat} {e : Ser}, L[i]? = some e → (serC L)[i * 2]? = some (i6 e.m) ∧ (serC L)[i * 2 + 1]? = some (.slice e.A e.xs.length e.c) := by
  induction L with
  | nil => intro i e h; simp at h
  | cons x L ih =>
    intro i e h
    cases i with
    | zero => cases h; exact ⟨rfl, rfl⟩
    | succ i =>
      have := ih (i := i) (e := e) (by simpa using h)
      rw [show (i + 1) * 2 = i * 2 + 2 by omega]
      exact this

/-- A list of series of the function's own. -/
structure OS (lo : Nat) (h : Hp) (b : Nat) (L : List Ser) : Prop where
  lob : lo ≤ b
  ltb : b < h.nx
  top : h.bk b = some ⟨serC L, y_t_impl_Series, true⟩
  el : ∀ (i : Nat) (e : Ser), L[i]? = some e → RI (msk h fun x => x = b ∨ x < lo) e.A e.xs

theorem OS.mono {lo : Nat} {h h' : Hp} {b : Nat} {L : List Ser} (t : OS lo h b L) (e : HE h h') : OS lo h' b L :=
  ⟨t.lob, Nat.lt_of_lt_of_le t.ltb e.nx, e.to t.top t.ltb, fun i x hx => (t.el i x hx).mos (msk_to e.nx fun c hc hne => ⟨e.bk c hc, hne⟩)⟩
theorem OS.rs {lo : Nat} {h : Hp} {b : Nat} {L : List Ser} (t : OS lo h b L) : RS h (some ⟨b, 0, none⟩) L :=
  ⟨fun _ => ⟨b, 0, _, rfl, t.ltb, t.top, fun i e he => by simpa using serC_get he⟩, fun i e he => (t.el i e he).mos (msk_hs _)⟩

/-- A series is put at the end of the list. -/
theorem pushS {lo : Nat} {h : Hp} {b n ne : Nat} {L : List Ser} {y' : TypeId} {e : Ser} {K : Value → Hp → Prop} (t : OS lo h b L) (hn : n = L.length) (hne : ne = e.xs.length) (hmax : n + 1 ≤ sizeMax) (hr : RI (msk h fun x => x = b ∨ x < lo) e.A e.xs)
    (hk : ∀ b' h', OS lo h' b' (L ++ [e]) → (∀ c, c < h.nx → c ≠ b → h'.bk c = h.bk c) → h.nx < b' → b' < h'.nx → K (.slice (some ⟨b', 0, none⟩) (n + 1) 2) h') :
    newB h ⟨[i6 e.m, .slice e.A ne e.c], y', true⟩ fun b1 h1 => bindVH (appendV y_t_impl_Series 2 h1 (.slice (some ⟨b, 0, none⟩) n 2) (.slice (some ⟨b1, 0, none⟩) 1 2)) K := by
  subst hne
  refine ⟨?_⟩
  have hlt := t.ltb
  have h1 : (h.new ⟨[i6 e.m, .slice e.A e.xs.length e.c], y', true⟩).bk b = some ⟨serC L, y_t_impl_Series, true⟩ := by rw [new_bk, if_neg (by omega)]; exact t.top
  have h2 : (h.new ⟨[i6 e.m, .slice e.A e.xs.length e.c], y', true⟩).cellsOf 2 (.slice (some ⟨h.nx, 0, none⟩) 1 2) = some [i6 e.m, .slice e.A e.xs.length e.c] := by simp [Hp.cellsOf]
  subst hn
  have hl : (serC L).length = L.length * 2 := serC_len L
  have ev : appendV y_t_impl_Series 2 (h.new ⟨[i6 e.m, .slice e.A e.xs.length e.c], y', true⟩) (.slice (some ⟨b, 0, none⟩) L.length 2) (.slice (some ⟨h.nx, 0, none⟩) 1 2) =
      some (.slice (some ⟨h.nx + 1, 0, none⟩) (L.length + 1) 2, ((h.new ⟨[i6 e.m, .slice e.A e.xs.length e.c], y', true⟩).set b none).new ⟨serC L ++ [i6 e.m, .slice e.A e.xs.length e.c], y_t_impl_Series, true⟩) := by
    simp [appendV, XK.eff, h2, show b ≠ h.nx by omega, t.top, hl, hmax]
  rw [ev, bindVH_some]
  have ot : ∀ c, c < h.nx → c ≠ b → (((h.new ⟨[i6 e.m, .slice e.A e.xs.length e.c], y', true⟩).set b none).new ⟨serC L ++ [i6 e.m, .slice e.A e.xs.length e.c], y_t_impl_Series, true⟩).bk c = h.bk c := fun c hc hne => by
    rw [new_bk, if_neg (by simp; omega), set_bk, if_neg hne, new_bk, if_neg (by omega)]
  have S : HS (msk h fun x => x = b ∨ x < lo) (msk (((h.new ⟨[i6 e.m, .slice e.A e.xs.length e.c], y', true⟩).set b none).new ⟨serC L ++ [i6 e.m, .slice e.A e.xs.length e.c], y_t_impl_Series, true⟩) fun x => x = h.nx + 1 ∨ x < lo) :=
    msk_to (by simp; omega) fun c hc hne => ⟨ot c hc (by omega), by omega⟩
  refine hk (h.nx + 1) _ ⟨by have := t.lob; omega, by simp, by simp [serC], fun i x hx => ?_⟩ ot (by omega) (by simp)
  by_cases hi : i < L.length
  · rw [List.getElem?_append_left hi] at hx
    exact (t.el i x hx).mos S
  · rw [List.getElem?_append_right (by omega)] at hx
    cases hj : i - L.length with
    | zero => rw [hj] at hx; cases hx; exact hr.mos S
    | succ j => rw [hj] at hx; simp at hx

/-- The powers of a series, one after the other. -/
def powS (m : Int) (D : Nat) (a : List Int) (PA : Nat → Option Addr) : Nat → List Ser
  | 0 => []
  | k + 1 => powS m D a PA k ++ [⟨m, PA k, 1, powL m D a k⟩]
@[simp] theorem powS_len (m : Int) (D : Nat) (a : List Int) (PA : Nat → Option Addr) (k : Nat) : (powS m D a PA k).length = k := by
  induction k with
  | zero => rfl
  | succ k ih => simp [powS, ih]
theorem powS_get {m : Int} {D : Nat} {a : List Int} {PA : Nat → Option Addr} {k i : Nat} (h : i < k) : (powS m D a PA k)[i]? = some ⟨m, PA i, 1, powL m D a i⟩ := by
  induction k with
  | zero => omega
  | succ k ih =>
    rw [powS]
    by_cases hi : i < k
    · rw [List.getElem?_append_left (by simpa using hi)]; exact ih hi
    · have : i = k := by omega
      subst this
      rw [List.getElem?_append_right (by simp)]; simp
theorem powS_upd {m : Int} {D : Nat} {a : List Int} {PA : Nat → Option Addr} {A : Option Addr} {k j : Nat} (h : k ≤ j) : powS m D a (updF PA j A) k = powS m D a PA k := by
  induction k with
  | zero => rfl
  | succ k ih => rw [powS, powS, ih (by omega), updF_ne (by omega)]

theorem s_impl_Series_powers {m : Int} {A : Option Addr} {a : List Int} {n D : Nat} {h : Hp} {R : Value → Hp → Prop} (ha : RI h A a) (hn : n = D + 1) (hl : a.length = D + 1) (hm : 2 ≤ m) (hm2 : m ≤ 3000000000)
    (hx : Nums m a) (hD : D ≤ 100000)
    (hR : ∀ b PA h', HE h h' → OS h.nx h' b (powS m D a PA (D + 1)) → R (.slice (some ⟨b, 0, none⟩) (D + 1) 2) h') : CallW FF n_impl_Series_powers [sv m A n 1] h R := by
  subst hn
  refine w_impl_Series_powers ?_
  simp [p_impl_Series_powers]
  refine newB_i fun b h1 eb en eh eB => ?_
  simp [box2 eB]
  refine s_impl_Series_constant (D := D) rfl (by omega) (by omega) hm2 fun v h2 e2 f2 => ?_
  obtain ⟨o, rfl, f2, f3, f4⟩ := f2
  simp [rowV_ser]
  refine newB_i fun b3 h3 eb3 en3 eh3 eB3 => ?_
  have n2 := e2.nx
  have E3 := (eh.trans e2).trans eh3
  simp [box2 ((e2.trans eh3).to eB (by omega))]
  refine s_impl_Series_degree (by omega) fun h4 e4 => ?_
  have n4 := e4.nx
  have one : (List.replicate (D + 1) (0 : Int)).set 0 (1 % m) = powL m D a 0 := by rw [powL, oneL, Int.emod_eq_of_lt (by omega) (by omega)]
  rw [one] at f4
  have S0 : OS h.nx h4 b3 (powS m D a (fun _ => some ⟨o, 0, none⟩) 1) := ⟨by omega, by omega, by rw [e4.bk _ (by omega), eB3]; simp [powS, serC], fun i e he => by
    cases i with
    | zero =>
      simp [powS] at he; subst he
      exact RI.of_block (by simp; omega) ((msk_bk (by omega)).trans ((eh3.trans e4).to f4 f3))
    | succ i => simp [powS] at he⟩
  refine LP1 (fun d vs h' => ∃ (k b' : Nat) (PA : Nat → Option Addr), d = D - k ∧ k ≤ D ∧ vs = [.pointer (some ⟨b, 0, none⟩), .slice (some ⟨b', 0, none⟩) (k + 1) 2, i6 D, i6 k] ∧ HE h1 h' ∧ OS h.nx h' b' (powS m D a PA (k + 1)) ∧ b < b') ?_ _ _ _
    ⟨0, b3, fun _ => some ⟨o, 0, none⟩, rfl, by omega, by simp, (e2.trans eh3).trans e4, S0, by omega⟩
  rintro d vs h5 ⟨k, b', PA, rfl, hk, rfl, E5, S5, hbb⟩ K K1 hK hK1
  refine wl_impl_Series_powers_0 ?_
  have bx := box2 (E5.to eB (by omega))
  by_cases hlt : k < D
  case neg =>
    have : k = D := by omega
    subst this
    simp [q_impl_Series_powers_0]
    refine hK1 _ _ fun e he => ?_
    simp at he; rw [he]
    exact hR _ _ _ (eh.trans E5) S5
  have r := S5.rs.at 2 (e := (k : Int)) (i := k) (n := k + 1) rfl (by simp) (powS_get (by omega))
  have w1 : IntKind.i64.wrap (k : Int) = k := wrapI (by omega) (by omega)
  have w2 : IntKind.i64.wrap ((k : Int) + 1) = k + 1 := wrapI (by omega) (by omega)
  have E05 := eh.trans E5
  simp [q_impl_Series_powers_0, hlt, w1, r, bx]
  refine s_impl_Series_times (N := D + 1) (S5.rs.el k _ (powS_get (by omega))) (ha.mono E05) rfl rfl (by omega) hm2 (nums_powL hm D a k) hx (by omega) (by omega) (by simp) hl fun v h6 e6 f6 => ?_
  obtain ⟨q, rfl, f7, f8, f9⟩ := f6
  simp [rowV_ser, w2]
  have n5 := E5.nx; have n6 := e6.nx
  have sl := S5.ltb; have sb := S5.lob
  refine pushS (e := ⟨m, some ⟨q, 0, none⟩, 1, powL m D a (k + 1)⟩) (S5.mono e6) (by simp) (by simp) (by unfold sizeMax; omega) ?_ fun b7 h7 S7 ot7 n7 n8 => ?_
  · exact RI.of_block f8 ((msk_bk (by omega)).trans f9)
  have he1 : HE h1 h7 := ⟨by omega, fun c hc => by rw [ot7 c (by omega) (by omega), e6.bk c (by omega), E5.bk c hc]⟩
  refine hK _ _ _ (by omega) ⟨k + 1, b7, updF PA (k + 1) (some ⟨q, 0, none⟩), rfl, by omega, by simp, he1, ?_, ?_⟩
  · rw [powS, powS_upd (by omega), updF_eq]; exact S7
  · omega

/-- The sum of the products of powers. -/
theorem s_impl_Plane_curves {m m1 m2 : Int} {A B C : Option Addr} {Rr : Nat → Option Addr} {T : List (List Int)} {f g : List Int} {D ca n n2 n3 : Nat} {h : Hp} {R : Value → Hp → Prop} (hT : RT h A Rr T) (hf : RI h B f) (hg : RI h C g) (hn : n = D + 1) (hn2 : n2 = D + 1) (hn3 : n3 = D + 1) (hTl : T.length = D + 1)
    (hfl : f.length = D + 1) (hgl : g.length = D + 1) (hrl : ∀ i, i < T.length → (row T i).length ≤ D + 1) (hrn : ∀ i, i < T.length → Nums m (row T i)) (hm : 2 ≤ m) (hm2 : m ≤ 3000000000) (hx : Nums m f) (hy : Nums m g) (hD : D ≤ 100000) (e1 : m1 = m) (e2 : m2 = m)
    (hR : ∀ v h', HE h h' → FS h h' v m (putL m D T f g) → R v h') : CallW FF n_impl_Plane_curves [sv m A n ca, sv m1 B n2 1, sv m2 C n3 1] h R := by
  subst hn; subst hn2; subst hn3; subst e1; subst e2
  refine w_impl_Plane_curves ?_
  simp [p_impl_Plane_curves]
  refine newB_i fun b h1 eb en eh eB => ?_
  refine newB_i fun b2 h2 eb2 en2 eh2 eB2 => ?_
  refine newB_i fun b3 h3 eb3 en3 eh3 eB3 => ?_
  refine newB_i fun b4 h4 eb4 en4 eh4 eB4 => ?_
  have E4 := ((eh.trans eh2).trans eh3).trans eh4
  simp [box2 ((eh3.trans eh4).to eB2 (by omega)), show b2 < h4.nx by omega, show b3 < h4.nx by omega]
  refine s_impl_Series_constant (D := D) rfl (by omega) (by omega) hm2 fun v h5 e5 f5 => ⟨e5.keep, ?_⟩
  obtain ⟨o, rfl, f5, f6, f7⟩ := f5
  have n5 := e5.nx
  have hz0 : (List.replicate (D + 1) (0 : Int)).set 0 (0 % m2) = List.replicate (D + 1) 0 := by
    refine gt_ext (by simp) fun i hi => ?_
    rw [gt_set]; split
    · rename_i hc; rw [← hc.1, rep_tab, gt_tab (by omega)]; simp
    · rfl
  rw [hz0] at f7
  simp [box2 (((eh3.trans eh4).trans e5).to eB2 (by omega))]
  refine s_impl_Series_powers (hf.mono (E4.trans e5)) rfl hfl hm hm2 hx hD fun P PA h6 e6 P6 => ⟨e6.keep' (by omega), ?_⟩
  have n6 := e6.nx
  simp [box2 ((eh4.trans (e5.trans e6)).to eB3 (by omega))]
  refine s_impl_Series_powers (hg.mono ((E4.trans e5).trans e6)) rfl hgl hm hm2 hy hD fun Q QA h7 e7 Q7 => ?_
  have n7 := e7.nx
  have P7 := P6.mono e7
  refine newB_i fun b8 h8 eb8 en8 eh8 eB8 => ?_
  refine storeBox2 eB8 rfl rfl rfl rfl fun h9 u9 => ?_
  have n9 := u9.nx
  have C9 := ((e5.trans e6).trans e7).trans eh8
  have B1 := u9.to (((eh2.trans (eh3.trans eh4)).trans C9).to eB (by omega)) (by omega)
  have B4 := u9.to (C9.to eB4 (by omega)) (by omega)
  have BO := u9.to (((e6.trans e7).trans eh8).to f7 (by omega)) (by omega)
  have E9 : HE h h9 := u9.he (E4.trans C9) (by omega)
  have L79 : HE h7 h9 := u9.he eh8 (by omega)
  have P9 := P7.mono L79
  have Q9 := Q7.mono L79
  simp [box2 B1]
  refine LP1 (fun d vs h' => ∃ (i o : Nat) (y : TypeId) (out : List Int), d = D + 1 - i ∧ i ≤ D + 1 ∧ vs = [.pointer (some ⟨b4, 0, none⟩), .pointer (some ⟨b8, 0, none⟩), .slice (some ⟨P, 0, none⟩) (D + 1) 2, .slice (some ⟨Q, 0, none⟩) (D + 1) 2, .slice A (D + 1) ca, i6 ((D + 1 : Nat) : Int), i6 i] ∧
     HX b8 h9 h' ∧ h'.bk b8 = some ⟨[i6 m2, .slice (some ⟨o, 0, none⟩) (D + 1) 1], y, true⟩ ∧ h.nx ≤ o ∧ o < h'.nx ∧ o ≠ b8 ∧ o ≠ b4 ∧ h'.bk o = some ⟨mapI out, y_t_int64, true⟩ ∧ out.length = D + 1 ∧ Nums m2 out ∧ ∀ n, n < D + 1 → gt out n = pt T (powL m2 D f) (powL m2 D g) i n % m2) ?_ _ _ _
     ⟨0, o, _, List.replicate (D + 1) 0, rfl, by omega, by simp, HX.refl _ _, u9.bk, by omega, by omega, by omega, by omega, BO, by simp, nums_rep (by omega) _, fun n hn => by rw [rep_tab, gt_tab (by omega)]; simp [pt, sm]⟩
  rintro d vs h10 ⟨i, p, y, out, rfl, hi, rfl, E10, hb8, hp1, hp2, hp3, hp4, hbk, hol, hon, hout⟩ K K1 hK hK1
  refine wl_impl_Plane_curves_1 ?_
  have n10 := E10.nx
  have HE10 := E10.out E9 (by omega)
  by_cases hlt : i < D + 1
  case neg =>
    have : i = D + 1 := by omega
    subst this
    simp [q_impl_Plane_curves_1]
    refine hK1 _ _ fun e he => ?_
    simp at he
    simp [he, box2 hb8]
    refine storeBox2 (E10.to B4 (by omega) (by omega)) rfl rfl rfl rfl fun h11 u11 => ?_
    simp [box2 u11.bk]
    refine hR _ _ (u11.he HE10 (by omega)) ⟨p, by simp, hp1, by rw [u11.nx]; omega, ?_⟩
    rw [u11.ot _ hp4, hbk, show out = putL m2 D T f g from eq_tab hol hout]
  have T10 := hT.mono HE10
  have r := T10.at ca (e := i) rfl hTl.symm (by omega)
  have hlt' : (i : Int) < (D : Int) + 1 := by omega
  have w1 : IntKind.i64.wrap ((i : Int) + 1) = i + 1 := wrapI (by omega) (by omega)
  simp [q_impl_Plane_curves_1, hlt', r]
  have hlen := hrl i (by omega)
  refine LP1 (fun d vs h' => ∃ (j o : Nat) (y : TypeId) (out : List Int), d = D + 1 - j ∧ j ≤ (row T i).length ∧ vs = [.pointer (some ⟨b4, 0, none⟩), .pointer (some ⟨b8, 0, none⟩), .slice (some ⟨P, 0, none⟩) (D + 1) 2, .slice (some ⟨Q, 0, none⟩) (D + 1) 2, i6 i, .slice A (D + 1) ca, i6 ((D + 1 : Nat) : Int), i6 i, .slice (Rr i) (row T i).length 1, i6 (row T i).length, i6 j] ∧
     HX b8 h9 h' ∧ h'.bk b8 = some ⟨[i6 m2, .slice (some ⟨o, 0, none⟩) (D + 1) 1], y, true⟩ ∧ h.nx ≤ o ∧ o < h'.nx ∧ o ≠ b8 ∧ o ≠ b4 ∧ h'.bk o = some ⟨mapI out, y_t_int64, true⟩ ∧ out.length = D + 1 ∧ Nums m2 out ∧ ∀ n, n < D + 1 → gt out n = (pt T (powL m2 D f) (powL m2 D g) i n + ptI T (powL m2 D f) (powL m2 D g) i j n) % m2) ?_ _ _ _
     ⟨0, p, y, out, rfl, by omega, by simp, E10, hb8, hp1, hp2, hp3, hp4, hbk, hol, hon, fun n hn => by rw [hout n hn]; simp [ptI, sm]⟩
  clear hout hon hol hbk hp4 hp3 hp2 hp1 hb8 r T10 HE10 n10 E10 out y p h10
  rintro d vs h10 ⟨j, p, y, out, rfl, hj, rfl, E10, hb8, hp1, hp2, hp3, hp4, hbk, hol, hon, hout⟩ K2 K3 hK2 hK3
  refine wl_impl_Plane_curves_0 ?_
  have n10 := E10.nx
  have HE10 := E10.out E9 (by omega)
  have w2 : IntKind.i64.wrap ((j : Int) + 1) = j + 1 := wrapI (by omega) (by omega)
  by_cases hjl : j < (row T i).length
  case neg =>
    have : j = (row T i).length := by omega
    subst this
    simp [q_impl_Plane_curves_0]
    refine hK3 _ _ fun e he => ?_
    simp at he; simp [he, w1]
    exact hK _ _ _ (by omega) ⟨i + 1, p, y, out, rfl, by omega, by simp, E10, hb8, hp1, hp2, hp3, hp4, hbk, hol, hon, fun n hn => by rw [hout n hn]; rfl⟩
  have T10 := hT.mono HE10
  have t := T10.el 1 (e := j) (i := i) (j := j) (n := (row T i).length) (by omega) rfl rfl hjl
  have bT := (hrn i (by omega)).gt hjl
  by_cases h0 : gt (row T i) j = 0
  · simp [q_impl_Plane_curves_0, hjl, t, h0, w2]
    refine hK2 _ _ _ (by omega) ⟨j + 1, p, y, out, rfl, by omega, by simp, E10, hb8, hp1, hp2, hp3, hp4, hbk, hol, hon, fun n hn => ?_⟩
    rw [hout n hn]; simp [ptI, sm_succ, h0]
  have E710 := E10.out L79 (by omega)
  have rp := (P7.rs.mono E710).at 2 (e := i) (i := i) (n := D + 1) rfl (by simp) (powS_get (by omega))
  have rq := (Q7.rs.mono E710).at 2 (e := j) (i := j) (n := D + 1) rfl (by simp) (powS_get (by omega))
  simp [q_impl_Plane_curves_0, hjl, t, h0, show b8 < h10.nx by omega, box2 hb8, rp, rq]
  refine s_impl_Series_times (N := D + 1) ((P7.rs.mono E710).el i _ (powS_get (by omega))) ((Q7.rs.mono E710).el j _ (powS_get (by omega))) rfl rfl (by omega) hm2 (nums_powL hm D f i) (nums_powL hm D g j) (by omega) (by omega) (by simp) (by simp) fun v h11 e11 f11 => ⟨e11.keep, ?_⟩
  obtain ⟨x, rfl, hx1, hx2, hx3⟩ := f11
  simp only [mulL_len]
  refine s_impl_Series_scaled (RI.of_block hx2 hx3) (by simp) (by omega) hm2 (nums_mulL (by omega) _ _ _) (by simp) (by simp; omega) fun v h12 e12 f12 => ⟨e12.keep' (by have := e11.nx; omega), ?_⟩
  obtain ⟨z, rfl, hz1, hz2, hz3⟩ := f12
  simp only [scaleL_len, mulL_len]
  refine s_impl_Series_plus (RI.mono (RI.of_block hp2 hbk) (e11.trans e12)) (RI.of_block hz2 hz3) (by simp [hol]) (by simp) (by omega) hm2 hon (nums_scaleL (by omega) _ _) (by omega) (by omega) (by simp [hol]) fun v h13 e13 f13 => ?_
  obtain ⟨s, rfl, hs1, hs2, hs3⟩ := f13
  have n11 := e11.nx; have n12 := e12.nx; have n13 := e13.nx
  have F := (e11.trans e12).trans e13
  simp only [addL_len, hol]
  refine storeBox2 (F.to hb8 (by omega)) rfl rfl rfl rfl fun h14 u14 => ?_
  simp [w2]
  refine hK2 _ _ _ (by omega) ⟨j + 1, s, y, _, rfl, by omega, by simp, (E10.he F).upd u14, u14.bk, by omega, by rw [u14.nx]; omega, by omega, by omega, by rw [u14.ot _ (by omega)]; exact hs3, by simp [hol], nums_addL (by omega) _ _, fun n hn => ?_⟩
  rw [put_step hn (hout n hn) hol]
  simp [ptI, sm_succ, Int.add_assoc]
end XM

/- The program's tests: all, IsSeries, IsPlane, fits, isCurveOf. -/
namespace XM
open Go

theorem box1 {h : Hp} {b : Nat} {v : Value} {y : TypeId} (hb : h.bk b = some ⟨[v], y, true⟩) : ldV 1 false h (.pointer (some ⟨b, 0, none⟩)) = some v := by rw [ldV_ptr, hb]; simp

/-- A value that answers bools, and leaves alone what stands. -/
def FnB (h0 : Hp) (fv : Value) (arg : Value) (p : Bool) : Prop := ∀ h' (R : Value → Hp → Prop), HE h0 h' → (∀ h'', HE h' h'' → R (.bool p) h'') → CallV FF fv [arg] h' R

theorem s_IndexFuncI {A : Option Addr} {xs : List Int} {n c : Nat} {fv : Value} {p : Int → Bool} {h : Hp} {R : Value → Hp → Prop} (hr : RI h A xs) (hn : n = xs.length) (hl : n ≤ 1000000) (hf : ∀ x ∈ xs, FnB h fv (i6 x) (p x))
    (hR : ∀ h' k, HE h h' → (0 ≤ k ↔ ∃ x ∈ xs, p x = true) → R (i6 k) h') : CallW FF n_slices_IndexFunc_Lint64_int64 [.slice A n c, fv] h R := by
  subst hn
  refine w_slices_IndexFunc_Lint64_int64 ?_
  simp [p_slices_IndexFunc_Lint64_int64]
  refine LP2 (fun d vs h' => ∃ i : Nat, d = xs.length - i ∧ i ≤ xs.length ∧ HE h h' ∧ vs = [.slice A xs.length c, fv, i6 xs.length, i6 i] ∧ ∀ j, j < i → p (gt xs j) = false) ?_ _ _ _ ⟨0, rfl, by omega, HE.refl _, rfl, by omega⟩
  rintro d vs h1 ⟨i, rfl, hi, e1, rfl, hF⟩ K K1 K2 hK hK1 hK2
  refine wl_slices_IndexFunc_Lint64_int64_0 ?_
  by_cases hlt : i < xs.length
  · have r := (hr.mono e1).at c (e := i) rfl rfl hlt
    simp [q_slices_IndexFunc_Lint64_int64_0, hlt, r]
    refine hf _ (gt_mem hlt) _ _ e1 fun h2 e2 => ?_
    cases hp : p (gt xs i) with
    | true =>
      simp
      refine hK2 _ _ fun e he => ?_
      simp at he; rw [he]
      exact hR _ _ (e1.trans e2) ⟨fun _ => ⟨_, gt_mem hlt, hp⟩, fun _ => by omega⟩
    | false =>
      simp [wrapI (n := (i : Int) + 1) (by omega) (by omega)]
      exact hK _ _ _ (by omega) ⟨i + 1, rfl, by omega, e1.trans e2, rfl, fun j hj => by
        by_cases h : j = i
        · subst h; exact hp
        · exact hF j (by omega)⟩
  · simp [q_slices_IndexFunc_Lint64_int64_0, hlt]
    refine hK1 _ _ fun e => hR _ _ e1 ⟨fun h => by omega, fun ⟨x, hx, hp⟩ => ?_⟩
    obtain ⟨j, hj, rfl⟩ := List.getElem_of_mem hx
    have := hF j (by omega)
    rw [gt_get hj, hp] at this; cases this

theorem s_allI {A : Option Addr} {xs : List Int} {n c : Nat} {g : FuncId} {fs cs : Array Value} {p : Int → Bool} {h : Hp} {R : Value → Hp → Prop} (hr : RI h A xs) (hn : n = xs.length) (hl : n ≤ 1000000) (hf : ∀ x ∈ xs, FnB h (.func (.func g) fs cs) (i6 x) (p x))
    (hR : ∀ h', HE h h' → R (.bool (xs.all p)) h') : CallW FF n_impl_all_int64 [.slice A n c, .func (.func g) fs cs] h R := by
  refine w_impl_all_int64 ?_
  simp [p_impl_all_int64]
  refine newB_i fun b h1 eb en eh eB => ?_
  refine w_slices_ContainsFunc_Lint64_int64 ?_
  refine s_IndexFuncI (p := fun x => !p x) (hr.mono eh) hn hl ?_ ?_
  · intro x hx h2 R2 e2 hR2
    simp
    refine w_impl_all_int64__c1 ?_
    simp only [p_impl_all_int64__c1, box1 (e2.to eB (by omega)), bindO_some]
    refine hf x hx _ _ (eh.trans e2) fun h3 e3 => ?_
    simp
    exact hR2 _ e3
  · intro h2 k e2 hk
    simp
    have : (xs.all p) = !decide (0 ≤ k) := by
      rw [Bool.eq_iff_iff]
      simp only [List.all_eq_true, Bool.not_eq_true', decide_eq_false_iff_not]
      rw [hk]
      constructor
      · rintro h ⟨x, hx, hp⟩; have := h x hx; simp [this] at hp
      · intro h x hx
        cases hp : p x with
        | true => rfl
        | false => exact (h ⟨x, hx, by simp [hp]⟩).elim
    have h3 := hR _ (eh.trans e2)
    rw [this] at h3; simpa using h3

theorem nums_all {m : Int} {xs : List Int} : xs.all (fun x => decide (0 ≤ x ∧ x < m)) = decide (Nums m xs) := by
  rw [Bool.eq_iff_iff, decide_eq_true_iff]; simp [Nums]

theorem s_impl_IsSeries {m : Int} {A : Option Addr} {xs : List Int} {n c : Nat} {h : Hp} {R : Value → Hp → Prop} (hr : RI h A xs) (hn : n = xs.length) (hl : n ≤ 1000000)
    (hR : ∀ h', HE h h' → R (.bool (decide (IsS m xs))) h') : CallW FF n_impl_IsSeries [sv m A n c] h R := by
  subst hn
  refine w_impl_IsSeries ?_
  simp [p_impl_IsSeries]
  refine newB_i fun b h1 eb en eh eB => ?_
  have bx := box2 eB
  simp [bx]
  refine s_impl_IsModulus ?_
  by_cases c1 : 2 ≤ m ∧ m ≤ 10000
  case neg =>
    have : ¬ IsS m xs := fun h => c1 h.1
    have := hR _ eh
    simpa [*] using this
  simp [c1, bx]
  refine s_impl_Series_degree (by omega) fun h2 e2 => ?_
  refine s_impl_in ?_
  have bx2 := box2 (e2.to eB (by omega))
  by_cases c2 : (1 : Int) ≤ (xs.length : Int) - 1 ∧ (xs.length : Int) - 1 ≤ 10
  case neg =>
    have : ¬ IsS m xs := fun h => c2 (by have := h.2.1; omega)
    have := hR _ (eh.trans e2)
    simpa [*] using this
  simp [c2, bx2]
  refine s_allI (p := fun x => decide (0 ≤ x ∧ x < m)) (hr.mono (eh.trans e2)) rfl hl ?_ fun h3 e3 => ?_
  · intro x hx h3 R3 e3 hR3
    simp
    refine w_impl_IsSeries_c1 ?_
    simp [p_impl_IsSeries_c1, box2 ((e2.trans e3).to eB (by omega))]
    have := hR3 _ (HE.refl _)
    exact s_impl_isNumber (by omega) (by omega) (by simpa using this)
  · rw [nums_all]
    have : (IsS m xs) ↔ Nums m xs := ⟨fun h => h.2.2, fun h => ⟨c1, by omega, h⟩⟩
    have := hR _ ((eh.trans e2).trans e3)
    simpa [*] using this

theorem s_impl_IsPlane {m : Int} {A : Option Addr} {Rr : Nat → Option Addr} {T : List (List Int)} {n c : Nat} {h : Hp} {R : Value → Hp → Prop} (hr : RT h A Rr T) (hn : n = T.length) (hl : n ≤ 1000000) (hrl : ∀ i, i < T.length → (row T i).length ≤ 1000000)
    (hR : ∀ h', HE h h' → R (.bool (decide (IsP m T))) h') : CallW FF n_impl_IsPlane [sv m A n c] h R := by
  subst hn
  refine w_impl_IsPlane ?_
  simp [p_impl_IsPlane]
  refine newB_i fun b h1 eb en eh eB => ?_
  have bx := box2 eB
  simp [bx]
  refine s_impl_IsModulus ?_
  by_cases c1 : 2 ≤ m ∧ m ≤ 10000
  case neg =>
    have : ¬ IsP m T := fun h => c1 h.1
    have := hR _ eh
    simpa [*] using this
  simp [c1, bx]
  refine s_impl_Plane_degree (by omega) fun h2 e2 => ?_
  refine s_impl_in ?_
  have bx2 := box2 (e2.to eB (by omega))
  by_cases c2 : (1 : Int) ≤ (T.length : Int) - 1 ∧ (T.length : Int) - 1 ≤ 10
  case neg =>
    have : ¬ IsP m T := fun h => c2 (by have := h.2.1; omega)
    have := hR _ (eh.trans e2)
    simpa [*] using this
  simp [c2, bx2]
  have E2 := eh.trans e2
  refine LP2 (fun d vs h' => ∃ i : Nat, d = T.length - i ∧ i ≤ T.length ∧ HE h2 h' ∧ vs = [.pointer (some ⟨b, 0, none⟩), .slice A T.length c, i6 T.length, i6 i] ∧ ∀ j, j < i → (row T j).length = T.length - j ∧ Nums m (row T j)) ?_ _ _ _
    ⟨0, rfl, by omega, HE.refl _, rfl, by omega⟩
  rintro d vs h3 ⟨i, rfl, hi, e3, rfl, hN⟩ K K1 K2 hK hK1 hK2
  refine wl_impl_IsPlane_0 ?_
  have E3 := E2.trans e3
  by_cases hlt : i < T.length
  case neg =>
    have : i = T.length := by omega
    subst this
    simp [q_impl_IsPlane_0]
    refine hK1 _ _ fun _ => ?_
    have e1 : IsP m T := ⟨c1, by omega, hN⟩
    simpa [e1] using hR _ E3
  have r := (hr.mono E3).at c (e := i) rfl rfl hlt
  have w1 : IntKind.i64.wrap ((T.length : Int) - i) = T.length - i := wrapI (by omega) (by omega)
  have w2 : IntKind.i64.wrap ((i : Int) + 1) = i + 1 := wrapI (by omega) (by omega)
  have bx3 := box2 ((e2.trans e3).to eB (by omega))
  have fail : ∀ h', HE h3 h' → ¬ ((row T i).length = T.length - i ∧ Nums m (row T i)) → K2 [.bool false] h' := fun h' e' hc => by
    refine hK2 _ _ fun e he => ?_
    simp at he; rw [he]
    have : ¬ IsP m T := fun h => hc (h.2.2 i hlt)
    simpa [this] using hR _ (E3.trans e')
  by_cases c4 : ((row T i).length : Int) = T.length - i
  case neg =>
    simp [q_impl_IsPlane_0, hlt, r, bx3, w1, c4]
    exact fail _ (HE.refl _) fun h => c4 (by omega)
  simp [q_impl_IsPlane_0, hlt, r, bx3, w1, c4]
  refine s_allI (p := fun x => decide (0 ≤ x ∧ x < m)) ((hr.mono E3).rows i hlt) rfl (hrl i hlt) ?_ fun h4 e4 => ?_
  · intro x hx h4 R4 e4 hR4
    simp
    refine w_impl_IsPlane_c1 ?_
    simp [p_impl_IsPlane_c1, box2 (((e2.trans e3).trans e4).to eB (by omega))]
    have := hR4 _ (HE.refl _)
    exact s_impl_isNumber (by omega) (by omega) (by simpa using this)
  · rw [nums_all]
    by_cases c5 : Nums m (row T i)
    · simp [c5, w2]
      refine hK _ _ _ (by omega) ⟨i + 1, rfl, by omega, e3.trans e4, rfl, fun j hj => ?_⟩
      by_cases hj2 : j = i
      · subst hj2; exact ⟨by omega, c5⟩
      · exact hN j (by omega)
    · simp [c5]
      exact fail _ e4 fun h => c5 h.2

theorem s_impl_Plane_fits {m m' : Int} {A B : Option Addr} {n c n2 c2 : Nat} {h : Hp} {R : Value → Hp → Prop} (hl : n ≤ 1000000) (hl2 : n2 ≤ 1000000)
    (hR : ∀ h', HE h h' → R (.bool (decide (m = m' ∧ n = n2))) h') : CallW FF n_impl_Plane_fits [sv m A n c, sv m' B n2 c2] h R := by
  refine w_impl_Plane_fits ?_
  simp [p_impl_Plane_fits]
  refine newB_i fun b h1 eb en eh eB => ?_
  refine newB_i fun b2 h2 eb2 en2 eh2 eB2 => ?_
  have bx := box2 (eh2.to eB (by omega))
  have bx2 := box2 eB2
  simp [bx, bx2]
  by_cases c1 : m = m'
  case neg => simpa [c1] using hR _ (eh.trans eh2)
  simp [c1]
  refine s_impl_Plane_degree (by omega) fun h3 e3 => ⟨e3.keep, by omega, ?_⟩
  have bx3 := box2 (e3.to eB2 (by omega))
  simp [bx3]
  refine s_impl_Series_degree (by omega) fun h4 e4 => ?_
  have := hR _ (((eh.trans eh2).trans e3).trans e4)
  have e : ((n : Int) - 1 = (n2 : Int) - 1) ↔ n = n2 := by omega
  simp only [bin_eql, bindO_some, e]
  simpa [c1] using this

theorem s_impl_Plane_isCurveOf {m m' : Int} {A B : Option Addr} {xs : List Int} {n c n2 c2 : Nat} {h : Hp} {R : Value → Hp → Prop} (hx : RI h B xs) (hn2 : n2 = xs.length) (hl : n ≤ 1000000) (hl2 : n2 ≤ 1000000) (h1n : 1 ≤ n2)
    (hR : ∀ h', HE h h' → R (.bool (decide ((m = m' ∧ n = n2) ∧ gt xs 0 = 0))) h') : CallW FF n_impl_Plane_isCurveOf [sv m A n c, sv m' B n2 c2] h R := by
  subst hn2
  refine w_impl_Plane_isCurveOf ?_
  simp [p_impl_Plane_isCurveOf]
  refine newB_i fun b h1 eb en eh eB => ?_
  refine newB_i fun b2 h2 eb2 en2 eh2 eB2 => ?_
  have bx := box2 (eh2.to eB (by omega))
  have bx2 := box2 eB2
  have E2 := eh.trans eh2
  simp [bx, bx2]
  refine s_impl_Plane_fits hl hl2 fun h3 e3 => ?_
  by_cases c1 : m = m' ∧ n = xs.length
  case neg =>
    have : ¬ ((m = m' ∧ n = xs.length) ∧ gt xs 0 = 0) := fun h => c1 h.1
    have := hR _ (E2.trans e3)
    simp only [c1, decide_false, condM_false]
    simpa [*] using this
  have bx3 := box2 (e3.to eB2 (by omega))
  have r := (hx.mono (E2.trans e3)).at c2 (e := 0) (i := 0) rfl rfl (by omega)
  simp only [c1, and_self, decide_true, condM_true]
  simp [bx3, r]
  have := hR _ (E2.trans e3)
  simpa [c1] using this
end XM

/- The program's planes: emptyPlane, number, times. -/
namespace XM
open Go

/-- What stood before stands, but for the blocks from lo on, below hi. -/
structure HZ (lo hi : Nat) (h h' : Hp) : Prop where
  nx : h.nx ≤ h'.nx
  bk : ∀ b, b < h.nx → (b < lo ∨ hi ≤ b) → h'.bk b = h.bk b
theorem HZ.refl (lo hi : Nat) (h : Hp) : HZ lo hi h h := ⟨Nat.le_refl _, fun _ _ _ => rfl⟩
theorem HZ.upd {lo hi o : Nat} {x : Option Blk} {h h' h'' : Hp} (a : HZ lo hi h h') (u : Upd o x h' h'') (h1 : lo ≤ o) (h2 : o < hi) : HZ lo hi h h'' := ⟨by rw [u.nx]; exact a.nx, fun b hb hne => (u.ot b (by omega)).trans (a.bk b hb hne)⟩
theorem HZ.he {lo hi : Nat} {h h' h'' : Hp} (a : HZ lo hi h h') (e : HE h' h'') : HZ lo hi h h'' := ⟨Nat.le_trans a.nx e.nx, fun b hb hne => (e.bk b (Nat.lt_of_lt_of_le hb a.nx)).trans (a.bk b hb hne)⟩
theorem HZ.out {lo hi : Nat} {h0 h h' : Hp} (a : HZ lo hi h h') (e : HE h0 h) (ho : h0.nx ≤ lo) : HE h0 h' := ⟨Nat.le_trans e.nx a.nx, fun b hb => (a.bk b (Nat.lt_of_lt_of_le hb e.nx) (by omega)).trans (e.bk b hb)⟩
theorem HZ.to {lo hi b : Nat} {h h' : Hp} (a : HZ lo hi h h') {x : Blk} (hx : h.bk b = some x) (hb : b < h.nx) (hne : b < lo ∨ hi ≤ b) : h'.bk b = some x := (a.bk b hb hne).trans hx

/-- A plane with a table of its own. -/
def FP (h h' : Hp) (v : Value) (m : Int) (T : List (List Int)) : Prop := ∃ b rb, v = sv m (some ⟨b, 0, none⟩) T.length 1 ∧ OT h.nx h' b rb T
theorem OT.lower {lo lo' : Nat} {h : Hp} {b : Nat} {rb : Nat → Nat} {T : List (List Int)} (t : OT lo h b rb T) (hl : lo' ≤ lo) : OT lo' h b rb T :=
  ⟨Nat.le_trans hl t.lob, t.ltb, t.top, fun i hi => Nat.le_trans hl (t.lor i hi), t.ltr, t.ne, t.rows, t.inj⟩

/-- A table of its own, or none yet. -/
def OTn (lo : Nat) (h : Hp) (tv : Value) (T : List (List Int)) : Prop := (T = [] ∧ tv = .slice none 0 0) ∨ ∃ b rb, tv = .slice (some ⟨b, 0, none⟩) T.length 1 ∧ OT lo h b rb T

theorem pushRow {lo : Nat} {h h1 : Hp} {tv : Value} {r n : Nat} {T : List (List Int)} {xs : List Int} {y' : TypeId} {K : Value → Hp → Prop} (t : OTn lo h tv T) (e : HE h h1) (hlo : lo ≤ h.nx) (hr2 : h.nx ≤ r) (hr3 : r < h1.nx) (hn : n = xs.length)
    (hrow : h1.bk r = some ⟨mapI xs, y_t_int64, true⟩) (hmax : T.length + 1 ≤ sizeMax)
    (hk : ∀ b' rb' h', OT lo h' b' rb' (T ++ [xs]) → (∀ c, c < h1.nx → (lo ≤ c → h.nx ≤ c) → h'.bk c = h1.bk c) → h1.nx ≤ b' → K (.slice (some ⟨b', 0, none⟩) (T.length + 1) 1) h') :
    newB h1 ⟨[.slice (some ⟨r, 0, none⟩) n 1], y', true⟩ fun b1 h2 => bindVH (appendV y_t_Lint64 1 h2 tv (.slice (some ⟨b1, 0, none⟩) 1 1)) K := by
  rcases t with ⟨rfl, rfl⟩ | ⟨b, rb, rfl, t⟩
  · refine ⟨?_⟩
    have h2 : (h1.new ⟨[.slice (some ⟨r, 0, none⟩) n 1], y', true⟩).cellsOf 1 (.slice (some ⟨h1.nx, 0, none⟩) 1 1) = some [.slice (some ⟨r, 0, none⟩) n 1] := by simp [Hp.cellsOf]
    have ev : appendV y_t_Lint64 1 (h1.new ⟨[.slice (some ⟨r, 0, none⟩) n 1], y', true⟩) (.slice none 0 0) (.slice (some ⟨h1.nx, 0, none⟩) 1 1) =
        some (.slice (some ⟨h1.nx + 1, 0, none⟩) 1 1, (h1.new ⟨[.slice (some ⟨r, 0, none⟩) n 1], y', true⟩).new ⟨[.slice (some ⟨r, 0, none⟩) n 1], y_t_Lint64, true⟩) := by
      simp [appendV, XK.eff, h2, sizeMax]
    rw [ev, bindVH_some]
    have ot : ∀ c, c < h1.nx → ((h1.new ⟨[.slice (some ⟨r, 0, none⟩) n 1], y', true⟩).new ⟨[.slice (some ⟨r, 0, none⟩) n 1], y_t_Lint64, true⟩).bk c = h1.bk c := fun c hc => by
      rw [new_bk, if_neg (by simp; omega), new_bk, if_neg (by omega)]
    refine hk (h1.nx + 1) (fun _ => r) _ ⟨by have := e.nx; omega, by simp, ?_, ?_, ?_, ?_, ?_, ?_⟩ (fun c hc _ => ot c hc) (by omega)
    · simp [hdr, hn, row]
    · intro i hi; omega
    · intro i hi; simp; omega
    · intro i hi; omega
    · intro i hi
      have : i = 0 := by simp at hi; omega
      subst this
      rw [ot r hr3, hrow]; rfl
    · intro i j hi hj _; simp at hi hj; omega
  · have hlt := t.ltb
    have n1 := e.nx
    refine push1 (e.to t.top hlt) (by omega) (by simp) hmax fun b' h' u => ?_
    have := u.ge
    exact hk b' _ h' (t.push e (by omega) hr2 hr3 hn hrow u) (fun c hc hne => u.ot c hc (fun hcb => by subst hcb; have := hne t.lob; omega)) u.ge

theorem s_impl_emptyPlane {m : Int} {d : Int} {D : Nat} {h : Hp} {R : Value → Hp → Prop} (hd : d = D) (hD : D ≤ 1000000) (hR : ∀ v h', HE h h' → FP h h' v m (ztab D (D + 1)) → R v h') : CallW FF n_impl_emptyPlane [i6 m, i6 d] h R := by
  subst hd
  refine w_impl_emptyPlane ?_
  have w1 : IntKind.i64.wrap ((D : Int) + 1) = D + 1 := wrapI (by omega) (by omega)
  simp [p_impl_emptyPlane, w1]
  refine newB_i fun b h1 eb en eh eB => ?_
  have hf : (fillX [i6 0, .slice none 0 0] [(0, 1, i6 m)]).map (fun cs => Value.agg cs.toArray) = some (.agg #[i6 m, .slice none 0 0]) := by simp [fillX]
  refine newB_i fun b2 h2 eb2 en2 eh2 eB2 => ?_
  refine storeBox2 eB2 rfl rfl rfl rfl fun h3 u3 => ?_
  have n3 := u3.nx
  have E3 : HE h h3 := u3.he (eh.trans eh2) (by omega)
  have B1 := u3.to (eh2.to eB (by omega)) (by omega)
  refine LP1 (fun d vs h' => ∃ (k : Nat) (tv : Value) (y : TypeId), d = D + 1 - k ∧ k ≤ D + 1 ∧ vs = [i6 D, .pointer (some ⟨b, 0, none⟩), .pointer (some ⟨b2, 0, none⟩), i6 ((D : Int) + 1), i6 k] ∧
     HX b2 h3 h' ∧ h'.bk b2 = some ⟨[i6 m, tv], y, true⟩ ∧ one tv = true ∧ OTn h3.nx h' tv (ztab D k)) ?_ _ _ _ ⟨0, _, _, rfl, by omega, rfl, HX.refl _ _, u3.bk, rfl, .inl ⟨rfl, rfl⟩⟩
  rintro d vs h4 ⟨k, tv, y, rfl, hk, rfl, E4, hb, hone, hT⟩ K K1 hK hK1
  refine wl_impl_emptyPlane_0 ?_
  have n4 := E4.nx
  have bx := box2 hb
  by_cases hlt : k < D + 1
  case neg =>
    have : k = D + 1 := by omega
    subst this
    simp [q_impl_emptyPlane_0]
    refine hK1 _ _ fun e he => ?_
    simp at he
    simp [he, bx]
    refine storeBox2 (E4.to B1 (by omega) (by omega)) rfl rfl rfl hone fun h5 u5 => ?_
    simp [box2 u5.bk]
    rcases hT with ⟨h1, _⟩ | ⟨bt, rb, rfl, hT⟩
    · have := congrArg List.length h1; simp at this
    · have n5 := u5.nx
      refine hR _ _ (u5.he (E4.out E3 (by omega)) (by omega)) ⟨bt, rb, by simp, ?_⟩
      have hltr := hT.ltr; have hlor := hT.lor; have hlob := hT.lob; have hltb := hT.ltb
      exact ⟨by omega, by omega, by rw [u5.ot _ (by omega)]; exact hT.top, fun i hi => by have := hlor i hi; omega, fun i hi => by have := hltr i hi; omega, hT.ne, fun i hi => by rw [u5.ot _ (by have := hlor i hi; omega)]; exact hT.rows i hi, hT.inj⟩
  have g1 : (k : Int) < (D : Int) + 1 := by omega
  have w2 : IntKind.i64.wrap ((D : Int) + 1 - k) = D + 1 - k := wrapI (by omega) (by omega)
  have w3 : IntKind.i64.wrap ((k : Int) + 1) = k + 1 := wrapI (by omega) (by omega)
  have mk : makN (.int .i64 ((D : Int) + 1 - k)) = some (D - k + 1) := makN_nat (by omega) (by unfold sizeMax; omega)
  simp [q_impl_emptyPlane_0, g1, bx, w1, w2, w3, mk, mapI_rep]
  refine newB_i fun r h5 er en5 eh5 eR => ?_
  refine pushRow (xs := List.replicate (D - k + 1) 0) hT eh5 (by omega) (by omega) (by omega) (by simp) eR (by simp; unfold sizeMax; omega) fun b' rb' h6 T6 ot6 hb' => ?_
  have n6 := T6.ltb
  simp
  refine store1 (x := ⟨[i6 m, tv], y, true⟩) (o := 1) (by rw [ot6 b2 (by omega) (by omega), eh5.bk _ (by omega)]; exact hb) (by simp) rfl rfl rfl fun h7 u7 => ?_
  have n7 := u7.nx
  refine hK _ _ _ (by omega) ⟨k + 1, .slice (some ⟨b', 0, none⟩) (k + 1) 1, y, rfl, by omega, by simp, ?_, ?_, rfl, .inr ⟨b', rb', by simp, ?_⟩⟩
  · refine ⟨by omega, fun c hc hne => ?_⟩
    rw [u7.ot c hne, ot6 c (by omega) (by omega), eh5.bk _ (by omega), E4.bk c hc hne]
  · rw [u7.bk]; simp
  · have hltr := T6.ltr; have hlor := T6.lor; have hlob := T6.lob; have hltb := T6.ltb
    exact ⟨by omega, by omega, by rw [u7.ot _ (by omega)]; exact T6.top, T6.lor, fun i hi => by have := hltr i hi; omega, T6.ne, fun i hi => by rw [u7.ot _ (by have := hlor i hi; omega)]; exact T6.rows i hi, T6.inj⟩

/-- A number as a table. -/
def numT (m : Int) (D : Nat) (c : Int) : List (List Int) := (ztab D (D + 1)).set 0 ((List.replicate (D + 1) 0).set 0 (c % m))
@[simp] theorem numT_len (m : Int) (D : Nat) (c : Int) : (numT m D c).length = D + 1 := by simp [numT]
theorem row_numT {m : Int} {D : Nat} {c : Int} {i : Nat} (h : i < D + 1) : row (numT m D c) i = (List.replicate (D + 1 - i) 0).set 0 (if i = 0 then c % m else 0) := by
  rw [numT, row_set]
  by_cases h0 : i = 0
  · subst h0; rw [if_pos ⟨rfl, by simp⟩, if_pos rfl]; simp
  · rw [if_neg (fun h => h0 h.1.symm), if_neg h0, row_ztab h, show D - i + 1 = D + 1 - i by omega]
    refine gt_ext (by simp) fun j hj => ?_
    rw [gt_set]; split
    · rename_i hc; rw [← hc.1, rep_tab, gt_tab (by omega)]
    · rfl
theorem numT_row {m : Int} (hm : 0 < m) {D : Nat} {c : Int} {i : Nat} (h : i < D + 1) : (row (numT m D c) i).length = D + 1 - i ∧ Nums m (row (numT m D c) i) := by
  rw [row_numT h]
  refine ⟨by simp, nums_set (nums_rep hm _) ?_⟩
  split
  · exact mod_bd hm _
  · omega

theorem s_impl_Plane_number {m k : Int} {A : Option Addr} {n c D : Nat} {h : Hp} {R : Value → Hp → Prop} (hn : n = D + 1) (hD : D ≤ 1000000) (hm : 0 < m) (hm2 : m ≤ 3000000000)
    (hR : ∀ v h', HE h h' → FP h h' v m (numT m D k) → R v h') : CallW FF n_impl_Plane_number [sv m A n c, i6 k] h R := by
  subst hn
  refine w_impl_Plane_number ?_
  simp [p_impl_Plane_number]
  refine newB_i fun b h1 eb en eh eB => ?_
  refine newB_i fun b2 h2 eb2 en2 eh2 eB2 => ?_
  have E2 := eh.trans eh2
  simp [box2 (eh2.to eB (by omega)), show b < h2.nx by omega]
  refine s_impl_Plane_degree (by omega) fun h3 e3 => ⟨e3.keep, ?_⟩
  refine s_impl_emptyPlane (D := D) (by omega) hD fun v h4 e4 f4 => ?_
  obtain ⟨bt, rb, rfl, T4⟩ := f4
  simp
  refine newB_i fun b5 h5 eb5 en5 eh5 eB5 => ?_
  refine storeBox2 eB5 rfl rfl rfl rfl fun h6 u6 => ?_
  have n3 := e3.nx; have n4 := e4.nx; have n5 := eh5.nx; have n6 := u6.nx
  have B1 := u6.to (((eh2.trans e3).trans (e4.trans eh5)).to eB (by omega)) (by omega)
  have B2 := u6.to ((e3.trans (e4.trans eh5)).to eB2 (by omega)) (by omega)
  have L46 : HE h4 h6 := u6.he eh5 (by omega)
  have T6 := T4.mono L46
  have r := T6.rt.at 1 (e := 0) (i := 0) (n := D + 1) rfl (by simp) (by simp)
  rw [row_ztab (by omega)] at r
  have ir := T6.rt.inb (HE.refl _) (i := 0) (by simp)
  simp [box2 u6.bk, box2 B1, show b5 < h6.nx by omega, r, ir]
  refine s_impl_mod hm (by omega) ⟨keepB_refl _ _, ?_⟩
  have q1 : indexAddrV 1 (.slice (some ⟨rb 0, 0, none⟩) (D + 1) 1) (.int .i64 0) = some (.pointer (some ⟨rb 0, 0, none⟩)) := ixOwn (i := 0) rfl (by omega)
  simp [q1]
  have hr0 := T6.rows 0 (by simp)
  rw [row_ztab (by omega)] at hr0
  have l0 := T4.lor 0 (by simp); have l1 := T4.ltr 0 (by simp)
  refine storeI (i := 0) hr0 (by simp) fun h7 u7 => ?_
  have n7 := u7.nx
  simp [box2 (u7.to u6.bk (by omega))]
  refine storeBox2 (u7.to B2 (by omega)) rfl rfl rfl rfl fun h8 u8 => ?_
  simp [box2 u8.bk]
  have n8 := u8.nx
  have T7 := T6.set (i := 0) (by simp) (by rw [row_ztab (by omega)]; simp) u7
  have hlor := T7.lor; have hltr := T7.ltr; have hlob := T7.lob; have hltb := T7.ltb
  refine hR _ _ (u8.he (u7.he (u6.he (((E2.trans e3).trans e4).trans eh5) (by omega)) (by omega)) (by omega)) ⟨bt, rb, by simp, ?_⟩
  exact OT.lower (lo := h3.nx) ⟨hlob, by omega, by rw [u8.ot _ (by omega)]; exact T7.top, hlor, fun i hi => by have := hltr i hi; omega, T7.ne, fun i hi => by rw [u8.ot _ (by have := hlor i hi; omega)]; exact T7.rows i hi, T7.inj⟩ (by omega)
end XM

/- The program's planes: times. -/
namespace XM
open Go

theorem TS.step {m : Int} {N i j k l : Nat} {a b Z : List (List Int)} (hm : 0 < m) (hZ : TS m N Z (tE0 N a b i j k l)) (hg : i + j + k + l < N) :
    TS m N (Z.set (i + k) ((row Z (i + k)).set (j + l) ((gt (row Z (i + k)) (j + l) + gt (row a i) j * gt (row b k) l) % m))) (tE0 N a b i j k (l + 1)) := by
  have hik : i + k < Z.length := by rw [hZ.len]; omega
  have hrl := hZ.rl (i + k) (by omega)
  have hz := hZ.en (i + k) (j + l) (by omega)
  refine ⟨by simp [hZ.len], fun x hx => ?_, fun x y hxy => ?_⟩
  · rw [row_set]; split
    · rename_i hc; rw [List.length_set, ← hc.1]; exact hrl
    · exact hZ.rl x hx
  · unfold gt2
    rw [row_set]
    by_cases hx : i + k = x
    · subst hx
      rw [if_pos ⟨rfl, hik⟩, gt_set]
      by_cases hy : j + l = y
      · subst hy
        rw [if_pos ⟨rfl, by omega⟩]
        have : gt (row Z (i + k)) (j + l) = gt2 Z (i + k) (j + l) := rfl
        rw [this, hz, Int.emod_add_emod]
        unfold tE0
        rw [if_neg (by omega), if_pos (by omega)]
        unfold term
        rw [if_pos (by omega), show i + k - i = k by omega, show j + l - j = l by omega]
        unfold gt2; simp
      · rw [if_neg (by omega)]
        have := hZ.en (i + k) y hxy
        unfold gt2 at this; rw [this]
        unfold tE0
        by_cases hy2 : y < j + l
        · rw [if_pos (by omega), if_pos (by omega)]
        · rw [if_neg (by omega), if_neg (by omega)]
    · rw [if_neg (by omega)]
      have := hZ.en x y hxy
      unfold gt2 at this; rw [this]
      unfold tE0
      by_cases hx2 : x < i + k
      · rw [if_pos (by omega), if_pos (by omega)]
      · rw [if_neg (by omega), if_neg (by omega)]

set_option maxHeartbeats 1000000 in
theorem s_impl_Plane_times {m m' : Int} {A B : Option Addr} {Ra Rb : Nat → Option Addr} {a b : List (List Int)} {N na nb ca cb : Nat} {h : Hp} {R : Value → Hp → Prop} (ha : RT h A Ra a) (hb : RT h B Rb b) (hna : na = N) (hnb : nb = N) (hla : a.length = N) (hlb : b.length = N)
    (hra : ∀ i, i < N → (row a i).length = N - i ∧ Nums m (row a i)) (hrb : ∀ i, i < N → (row b i).length = N - i ∧ Nums m (row b i)) (hm : 0 < m) (hm2 : m ≤ 3000000000) (hN : 1 ≤ N) (hN2 : N ≤ 100000)
    (hR : ∀ v h', HE h h' → FP h h' v m (mulT m N a b) → R v h') : CallW FF n_impl_Plane_times [sv m A na ca, sv m' B nb cb] h R := by
  subst hna; subst hnb
  refine w_impl_Plane_times ?_
  have m0 : ¬ m = 0 := by omega
  simp [p_impl_Plane_times]
  refine newB_i fun q1 h1 eb1 en1 eh1 eB1 => ?_
  refine newB_i fun q2 h2 eb2 en2 eh2 eB2 => ?_
  refine newB_i fun q3 h3 eb3 en3 eh3 eB3 => ?_
  have E3 := (eh1.trans eh2).trans eh3
  simp [box2 ((eh2.trans eh3).to eB1 (by omega)), show q1 < h3.nx by omega]
  refine s_impl_Plane_degree (by omega) fun h4 e4 => ⟨e4.keep, ?_⟩
  refine s_impl_emptyPlane (D := nb - 1) (by omega) (by omega) fun v h5 e5 f5 => ?_
  obtain ⟨bo, rb, rfl, T5⟩ := f5
  simp only [ztab_len, show nb - 1 + 1 = nb by omega] at T5 ⊢
  have hub : ∀ i, i < nb → rb i < h5.nx := fun i hi => T5.ltr i (by simpa using hi)
  have hlb' : ∀ i, i < nb → h4.nx ≤ rb i := fun i hi => T5.lor i (by simpa using hi)
  refine newB_i fun q6 h6 eb6 en6 eh6 eB6 => ?_
  refine storeBox2 eB6 rfl rfl rfl rfl fun h7 u7 => ?_
  have n4 := e4.nx; have n5 := e5.nx; have n7 := u7.nx
  have C5 := (e4.trans e5).trans eh6
  have B1 := u7.to (((eh2.trans eh3).trans C5).to eB1 (by omega)) (by omega)
  have B2 := u7.to ((eh3.trans C5).to eB2 (by omega)) (by omega)
  have B3 := u7.to (C5.to eB3 (by omega)) (by omega)
  have L57 : HE h5 h7 := u7.he eh6 (by omega)
  have T7 := T5.mono L57
  have E7 : HE h h7 := u7.he (E3.trans C5) (by omega)
  simp [box2 B1]
  refine s_impl_Plane_degree (by omega) fun h8 e8 => ?_
  have n8 := e8.nx
  have B1 := e8.to B1 (by omega)
  have B2 := e8.to B2 (by omega)
  have B3 := e8.to B3 (by omega)
  have B6 := e8.to u7.bk (by omega)
  have T8 := (T7.mono e8)
  have E8 := E7.trans e8
  simp [box2 B1]
  have hd : (nb : Int) - 1 = ((nb - 1 : Nat) : Int) := by omega
  generalize hNe : nb = N at *
  clear hNe hd L57 C5 T7 E7 T5 u7 eB1 eB2 eB3 eB6 e8 eh6 eh3 eh2 eh1 e4 e5
  -- i
  refine LP1 (fun d vs h' => ∃ (i : Nat) (Z : List (List Int)), d = N - i ∧ i ≤ N ∧ vs = [.pointer (some ⟨q1, 0, none⟩), .pointer (some ⟨q2, 0, none⟩), .pointer (some ⟨q3, 0, none⟩), .pointer (some ⟨q6, 0, none⟩), i6 ((N : Int) - 1), .slice A N ca, i6 N, i6 i] ∧
     HZ h4.nx h5.nx h8 h' ∧ OT h4.nx h' bo rb Z ∧ TS m N Z (tE3 N a b i)) ?_ _ _ _
    ⟨0, ztab (N - 1) N, rfl, by omega, rfl, HZ.refl _ _ _, T8, by simp, fun x hx => by rw [row_ztab hx]; simp; omega, fun x y hxy => by rw [gt2, row_ztab (by omega), rep_tab, gt_tab (by omega)]; simp [tE3, sm]⟩
  rintro d vs h9 ⟨i, Z, rfl, hi, rfl, Z9, hO, hZ⟩ K K1 hK hK1
  refine wl_impl_Plane_times_3 ?_
  have n9 := Z9.nx
  have HE9 := Z9.out E8 (by omega)
  by_cases hiN : i < N
  case neg =>
    have : i = N := by omega
    subst this
    simp [q_impl_Plane_times_3]
    refine hK1 _ _ fun e he => ?_
    simp at he
    simp [he, box2 (Z9.to B6 (by omega) (by omega))]
    refine storeBox2 (Z9.to B3 (by omega) (by omega)) rfl rfl rfl rfl fun h10 u10 => ?_
    simp [box2 u10.bk]
    have hlor := hO.lor; have hltr := hO.ltr; have hlob := hO.lob; have hltb := hO.ltb; have n10 := u10.nx
    rw [hZ.eq] at hO hlor hltr
    refine hR _ _ (u10.he HE9 (by omega)) ⟨bo, rb, by simp, ?_⟩
    exact OT.lower (lo := h4.nx) ⟨hlob, by omega, by rw [u10.ot _ (by omega)]; exact hO.top, hlor, fun i hi => by have := hltr i hi; omega, hO.ne, fun i hi => by rw [u10.ot _ (by have := hlor i hi; omega)]; exact hO.rows i hi, hO.inj⟩ (by omega)
  have wi : IntKind.i64.wrap ((i : Int) + 1) = i + 1 := wrapI (by omega) (by omega)
  have ri := (ha.mono HE9).at ca (e := i) (n := N) rfl hla.symm (by omega)
  have hai := hra i hiN
  simp [q_impl_Plane_times_3, hiN, ri]
  -- j
  refine LP1 (fun d vs h' => ∃ (j : Nat) (Z : List (List Int)), d = N - j ∧ i + j ≤ N ∧ vs = [.pointer (some ⟨q1, 0, none⟩), .pointer (some ⟨q2, 0, none⟩), .pointer (some ⟨q3, 0, none⟩), .pointer (some ⟨q6, 0, none⟩), i6 ((N : Int) - 1), i6 i, .slice A N ca, i6 N, i6 i, .slice (Ra i) (row a i).length 1, i6 (row a i).length, i6 j] ∧
     HZ h4.nx h5.nx h8 h' ∧ OT h4.nx h' bo rb Z ∧ TS m N Z (tE2 N a b i j)) ?_ _ _ _
    ⟨0, Z, rfl, by omega, rfl, Z9, hO, hZ.congr fun x y _ => by simp [tE2, sm]⟩
  clear hO hZ Z Z9 n9 HE9 ri h9
  rintro d vs h9 ⟨j, Z, rfl, hj, rfl, Z9, hO, hZ⟩ K2 K3 hK2 hK3
  refine wl_impl_Plane_times_2 ?_
  have n9 := Z9.nx
  have HE9 := Z9.out E8 (by omega)
  have wj : IntKind.i64.wrap ((j : Int) + 1) = j + 1 := wrapI (by omega) (by omega)
  by_cases hijN : i + j < N
  case neg =>
    have hjl : ¬ j < (row a i).length := by omega
    simp [q_impl_Plane_times_2, hjl]
    refine hK3 _ _ fun e he => ?_
    simp at he; simp [he, wi]
    refine hK _ _ _ (by omega) ⟨i + 1, Z, rfl, by omega, rfl, Z9, hO, hZ.congr fun x y _ => ?_⟩
    rw [tE2, tE3, tE3, sm_succ, show j = N - i by omega]
  have hjl : j < (row a i).length := by omega
  have s := (ha.mono HE9).el 1 (e := j) (i := i) (n := (row a i).length) (by omega) rfl rfl hjl
  have bA := hai.2.gt hjl
  by_cases h0 : gt (row a i) j = 0
  · simp [q_impl_Plane_times_2, hjl, s, h0, wj]
    refine hK2 _ _ _ (by omega) ⟨j + 1, Z, rfl, by omega, rfl, Z9, hO, hZ.congr fun x y _ => ?_⟩
    rw [tE2, tE2, sm_succ]
    have : term a b i j x y = 0 := by unfold term gt2; rw [h0]; simp
    omega
  simp [q_impl_Plane_times_2, hjl, s, h0]
  -- k
  refine LP1 (fun d vs h' => ∃ (k : Nat) (Z : List (List Int)), d = N - k ∧ i + j + k ≤ N ∧ vs = [.pointer (some ⟨q1, 0, none⟩), .pointer (some ⟨q2, 0, none⟩), .pointer (some ⟨q3, 0, none⟩), .pointer (some ⟨q6, 0, none⟩), i6 ((N : Int) - 1), i6 i, i6 j, i6 (gt (row a i) j), i6 k, .slice A N ca, i6 N, i6 i, .slice (Ra i) (row a i).length 1, i6 (row a i).length, i6 j] ∧
     HZ h4.nx h5.nx h8 h' ∧ OT h4.nx h' bo rb Z ∧ TS m N Z (tE1 N a b i j k)) ?_ _ _ _
    ⟨0, Z, rfl, by omega, rfl, Z9, hO, hZ.congr fun x y _ => by
      unfold tE1 term
      split
      · rw [if_neg (by omega)]; simp
      · simp⟩
  clear hO hZ Z Z9 n9 HE9 s h9
  rintro d vs h9 ⟨k, Z, rfl, hk, rfl, Z9, hO, hZ⟩ K4 K5 hK4 hK5
  refine wl_impl_Plane_times_1 ?_
  have n9 := Z9.nx
  have HE9 := Z9.out E8 (by omega)
  have wij : IntKind.i64.wrap ((i : Int) + j) = i + j := wrapI (by omega) (by omega)
  have wijk : IntKind.i64.wrap ((i : Int) + j + k) = i + j + k := wrapI (by omega) (by omega)
  have wik : IntKind.i64.wrap ((i : Int) + k) = i + k := wrapI (by omega) (by omega)
  have wk : IntKind.i64.wrap ((k : Int) + 1) = k + 1 := wrapI (by omega) (by omega)
  by_cases hijk : i + j + k < N
  case neg =>
    have hijk' : ¬ (i : Int) + j + k ≤ (N : Int) - 1 := by omega
    simp [q_impl_Plane_times_1, wij, wijk, hijk']
    refine hK5 _ _ fun e he => ?_
    simp at he; simp [he, wj]
    refine hK2 _ _ _ (by omega) ⟨j + 1, Z, rfl, by omega, rfl, Z9, hO, hZ.congr fun x y hxy => ?_⟩
    rw [tE1, tE2, tE2, sm_succ, Int.add_assoc]
    congr 2
    split
    · rfl
    · unfold term; rw [if_neg (by omega)]
  have hijk' : (i : Int) + j + k ≤ (N : Int) - 1 := by omega
  have BB := box2 (Z9.to B2 (by omega) (by omega))
  have t := (hb.mono HE9).at cb (e := k) (n := N) rfl hlb.symm (by omega)
  have hbk := hrb k (by omega)
  have w1 : IntKind.i64.wrap ((N : Int) - 1 - i) = N - 1 - i := wrapI (by omega) (by omega)
  have w2 : IntKind.i64.wrap ((N : Int) - 1 - i - j) = N - 1 - i - j := wrapI (by omega) (by omega)
  have w3 : IntKind.i64.wrap ((N : Int) - 1 - i - j - k) = N - 1 - i - j - k := wrapI (by omega) (by omega)
  have w4 : IntKind.i64.wrap ((N : Int) - 1 - i - j - k + 1) = N - 1 - i - j - k + 1 := wrapI (by omega) (by omega)
  obtain ⟨B', c', sl, rB⟩ := RI.pre (hb.rows k (by omega)) (e := (N : Int) - 1 - i - j - k + 1) (n := (row b k).length) (k := N - i - j - k) rfl (by omega) (by omega)
  simp [q_impl_Plane_times_1, wij, wijk, hijk', BB, t, w1, w2, w3, w4, sl]
  -- l
  refine LP1 (fun d vs h' => ∃ (l : Nat) (Z : List (List Int)), d = N - l ∧ i + j + k + l ≤ N ∧ vs = [.pointer (some ⟨q1, 0, none⟩), .pointer (some ⟨q2, 0, none⟩), .pointer (some ⟨q3, 0, none⟩), .pointer (some ⟨q6, 0, none⟩), i6 ((N : Int) - 1), i6 i, i6 j, i6 (gt (row a i) j), i6 k, .slice A N ca, i6 N, i6 i, .slice (Ra i) (row a i).length 1, i6 (row a i).length, i6 j,
       .slice B' (N - i - j - k) c', i6 ((N - i - j - k : Nat) : Int), i6 l] ∧
     HZ h4.nx h5.nx h8 h' ∧ OT h4.nx h' bo rb Z ∧ TS m N Z (tE0 N a b i j k l)) ?_ _ _ _
    ⟨0, Z, rfl, by omega, rfl, Z9, hO, hZ.congr fun x y _ => by
      unfold tE1 tE0
      congr 1
      by_cases hx : x < i + k
      · rw [if_pos hx, if_pos (.inl hx)]
      · rw [if_neg hx]
        split
        · unfold term; rw [if_neg (by omega)]
        · rfl⟩
  clear hO hZ Z Z9 n9 HE9 t BB h9
  rintro d vs h9 ⟨l, Z, rfl, hl, rfl, Z9, hO, hZ⟩ K6 K7 hK6 hK7
  refine wl_impl_Plane_times_0 ?_
  have n9 := Z9.nx
  have HE9 := Z9.out E8 (by omega)
  have wl1 : IntKind.i64.wrap ((l : Int) + 1) = l + 1 := wrapI (by omega) (by omega)
  by_cases hg : i + j + k + l < N
  case neg =>
    have hg' : ¬ l < N - i - j - k := by omega
    simp [q_impl_Plane_times_0, hg']
    refine hK7 _ _ fun e he => ?_
    simp at he; simp [he, wk]
    refine hK4 _ _ _ (by omega) ⟨k + 1, Z, rfl, by omega, rfl, Z9, hO, hZ.congr fun x y hxy => ?_⟩
    unfold tE1 tE0
    congr 1
    by_cases hx : x < i + (k + 1)
    · rw [if_pos hx, if_pos (by omega)]
    · rw [if_neg hx, if_neg (by omega)]
  have hg' : l < N - i - j - k := by omega
  have BA := box2 (Z9.to B1 (by omega) (by omega))
  have BO := box2 (Z9.to B6 (by omega) (by omega))
  have wjl : IntKind.i64.wrap ((j : Int) + l) = j + l := wrapI (by omega) (by omega)
  have u := (rB.mono HE9).at c' (e := l) (n := N - i - j - k) rfl (by simp; omega) (by simp; omega)
  have hgt : gt ((row b k).take (N - i - j - k)) l = gt (row b k) l := gt_take hg'
  have bB := hbk.2.gt (show l < (row b k).length by omega)
  have hik : i + k < Z.length := by rw [hZ.len]; omega
  have hrow := hO.rows (i + k) hik
  have hrl := hZ.rl (i + k) (by omega)
  have zk := hO.rt.at 1 (e := (i : Int) + k) (i := i + k) (n := N) (by omega) hZ.len.symm hik
  rw [hrl] at zk
  have izk := hO.rt.inb (HE.refl _) hik
  have x1 : indexAddrV 1 (.slice (some ⟨rb (i + k), 0, none⟩) (N - (i + k)) 1) (.int .i64 ((j : Int) + l)) = some (.pointer (some ⟨rb (i + k), j + l, none⟩)) := ixOwn (by omega) (by omega)
  have x2 := ownRd (n := 0) (c := 0) hrow (show j + l < _ by omega)
  have xr := hO.ltr (i + k) hik
  have hz := hZ.en (i + k) (j + l) (by omega)
  have bz : 0 ≤ gt (row Z (i + k)) (j + l) ∧ gt (row Z (i + k)) (j + l) < m := by
    have := mod_bd hm (tE0 N a b i j k l (i + k) (j + l)); rw [← hz] at this; exact this
  have bm := mod_bd hm (gt (row a i) j * gt (row b k) l)
  have w8 : IntKind.i64.wrap (gt (row Z (i + k)) (j + l) + gt (row a i) j * gt (row b k) l % m) = gt (row Z (i + k)) (j + l) + gt (row a i) j * gt (row b k) l % m := wrapI (by omega) (by omega)
  simp [q_impl_Plane_times_0, hg', u, hgt, BA, BO, wik, zk, wjl, x1, x2, izk, show q6 < h9.nx by omega, show q1 < h9.nx by omega, xr]
  refine s_impl_mul hm hm2 bA.1 bB.1 (mul_bd hm2 bA bB).2 ⟨keepB_refl _ _, ?_⟩
  simp [w8, BA, m0, wl1, x1, Int.tmod_eq_emod_of_nonneg (show 0 ≤ gt (row Z (i + k)) (j + l) + gt (row a i) j * gt (row b k) l % m by omega), show q1 < h9.nx by omega]
  have xlo := hlb' (i + k) (by omega); have xhi := hub (i + k) (by omega)
  refine storeI (i := j + l) hrow (by omega) fun h10 u10 => ?_
  refine hK6 _ _ _ (by omega) ⟨l + 1, _, rfl, by omega, rfl, Z9.upd u10 xlo xhi, hO.set hik (by simp) u10, hZ.step hm hg⟩
end XM

/- The program's planes: lists of planes, powers. -/
namespace XM
open Go

structure Pln where
  m : Int
  A : Option Addr
  c : Nat
  Rr : Nat → Option Addr
  T : List (List Int)

structure RP (h : Hp) (A : Option Addr) (L : List Pln) : Prop where
  top : 0 < L.length → ∃ b o x, A = some ⟨b, o, none⟩ ∧ b < h.nx ∧ h.bk b = some x ∧ ∀ (i : Nat) (e : Pln), L[i]? = some e → x.cells[o + i * 2]? = some (i6 e.m) ∧ x.cells[o + i * 2 + 1]? = some (.slice e.A e.T.length e.c)
  el : ∀ (i : Nat) (e : Pln), L[i]? = some e → RT h e.A e.Rr e.T

theorem RP.mos {h h' : Hp} {A : Option Addr} {L : List Pln} (r : RP h A L) (e : HS h h') : RP h' A L :=
  ⟨fun hl => by
    obtain ⟨b, o, x, h1, h2, h3, h4⟩ := r.top hl
    exact ⟨b, o, x, h1, Nat.lt_of_lt_of_le h2 e.nx, e.bk b x h2 h3, h4⟩, fun i x hx => (r.el i x hx).mos e⟩
theorem RP.mono {h h' : Hp} {A : Option Addr} {L : List Pln} (r : RP h A L) (e : HE h h') : RP h' A L := r.mos e.hs

theorem RP.at {h : Hp} {A : Option Addr} {L : List Pln} (r : RP h A L) (c : Nat) {e : Int} {i n : Nat} {x : Pln} (he : e = i) (hn : n = L.length) (hx : L[i]? = some x) :
    indexAddrV 2 (.slice A n c) (.int .i64 e) = some (elp2 A i 0) ∧ ldV 2 true h (elp2 A i 0) = some (sv x.m x.A x.T.length x.c) ∧ fieldAddrV 0 (elp2 A i 0) = some (elp2 A i 0) ∧ fieldAddrV 1 (elp2 A i 0) = some (elp2 A i 1) ∧
      ldV 1 false h (elp2 A i 0) = some (i6 x.m) ∧ ldV 1 false h (elp2 A i 1) = some (.slice x.A x.T.length x.c) ∧ inB h.nx (elp2 A i 0) ∧ inB h.nx (elp2 A i 1) := by
  have hi : i < L.length := (List.getElem?_eq_some_iff.1 hx).1
  obtain ⟨b, o, bl, rfl, h2, h3, h4⟩ := r.top (by omega)
  obtain ⟨h5, h6⟩ := h4 i x hx
  have l5 := (List.getElem?_eq_some_iff.1 h5).1
  have l6 := (List.getElem?_eq_some_iff.1 h6).1
  subst he; subst hn
  refine ⟨by simp [indexAddrV, idx_nat hi, elp2, addOff], ?_, by simp [elp2], by simp [elp2], ?_, ?_, h2, h2⟩
  · simp only [elp2, Option.map_some, ldV_ptr, h3, Option.bind_some, Nat.add_zero]
    rw [if_pos (by omega)]
    simp only [if_true, Option.some.injEq, Value.agg.injEq]
    have : (bl.cells.drop (o + i * 2)).take 2 = [i6 x.m, .slice x.A x.T.length x.c] := by
      rw [List.drop_eq_getElem_cons l5, List.drop_eq_getElem_cons l6]
      rw [List.getElem?_eq_getElem l5] at h5; rw [List.getElem?_eq_getElem l6] at h6
      simp only [Option.some.injEq] at h5 h6
      simp [h5, h6]
    rw [this]
  · simp only [elp2, Option.map_some, ldV_ptr, h3, Option.bind_some, Nat.add_zero]
    rw [if_pos (by omega)]; simpa using h5
  · simp only [elp2, Option.map_some, ldV_ptr, h3, Option.bind_some]
    rw [if_pos (by omega)]; simpa using h6

/-- The cells of a list of planes. -/
def plnC (L : List Pln) : List Value := L.flatMap fun e => [i6 e.m, .slice e.A e.T.length e.c]
theorem plnC_len (L : List Pln) : (plnC L).length = L.length * 2 := by
  induction L with
  | nil => rfl
  | cons e L ih => simp [plnC] at ih ⊢; omega
theorem plnC_get {L : List Pln} : ∀ {i : Nat} {e : Pln}, L[i]? = some e → (plnC L)[i * 2]? = some (i6 e.m) ∧ (plnC L)[i * 2 + 1]? = some (.slice e.A e.T.length e.c) := by
  induction L with
  | nil => intro i e h; simp at h
  | cons x L ih =>
    intro i e h
    cases i with
    | zero => cases h; exact ⟨rfl, rfl⟩
    | succ i =>
      have := ih (i := i) (e := e) (by simpa using h)
      rw [show (i + 1) * 2 = i * 2 + 2 by omega]
      exact this

/-- A list of planes of the function's own. -/
structure OP (lo : Nat) (h : Hp) (b : Nat) (L : List Pln) : Prop where
  lob : lo ≤ b
  ltb : b < h.nx
  top : h.bk b = some ⟨plnC L, y_t_impl_Plane, true⟩
  el : ∀ (i : Nat) (e : Pln), L[i]? = some e → RT (msk h fun x => x = b) e.A e.Rr e.T

theorem OP.mono {lo : Nat} {h h' : Hp} {b : Nat} {L : List Pln} (t : OP lo h b L) (e : HE h h') : OP lo h' b L :=
  ⟨t.lob, Nat.lt_of_lt_of_le t.ltb e.nx, e.to t.top t.ltb, fun i x hx => (t.el i x hx).mos (msk_to e.nx fun c hc hne => ⟨e.bk c hc, hne⟩)⟩
theorem OP.rs {lo : Nat} {h : Hp} {b : Nat} {L : List Pln} (t : OP lo h b L) : RP h (some ⟨b, 0, none⟩) L :=
  ⟨fun _ => ⟨b, 0, _, rfl, t.ltb, t.top, fun i e he => by simpa using plnC_get he⟩, fun i e he => (t.el i e he).mos (msk_hs _)⟩

/-- A plane is put at the end of the list. -/
theorem pushP {lo : Nat} {h : Hp} {b n ne : Nat} {L : List Pln} {y' : TypeId} {e : Pln} {K : Value → Hp → Prop} (t : OP lo h b L) (hn : n = L.length) (hne : ne = e.T.length) (hmax : n + 1 ≤ sizeMax) (hr : RT (msk h fun x => x = b) e.A e.Rr e.T)
    (hk : ∀ b' h', OP lo h' b' (L ++ [e]) → (∀ c, c < h.nx → c ≠ b → h'.bk c = h.bk c) → h.nx < b' → b' < h'.nx → K (.slice (some ⟨b', 0, none⟩) (n + 1) 2) h') :
    newB h ⟨[i6 e.m, .slice e.A ne e.c], y', true⟩ fun b1 h1 => bindVH (appendV y_t_impl_Plane 2 h1 (.slice (some ⟨b, 0, none⟩) n 2) (.slice (some ⟨b1, 0, none⟩) 1 2)) K := by
  subst hne
  refine ⟨?_⟩
  have hlt := t.ltb
  have h1 : (h.new ⟨[i6 e.m, .slice e.A e.T.length e.c], y', true⟩).bk b = some ⟨plnC L, y_t_impl_Plane, true⟩ := by rw [new_bk, if_neg (by omega)]; exact t.top
  have h2 : (h.new ⟨[i6 e.m, .slice e.A e.T.length e.c], y', true⟩).cellsOf 2 (.slice (some ⟨h.nx, 0, none⟩) 1 2) = some [i6 e.m, .slice e.A e.T.length e.c] := by simp [Hp.cellsOf]
  subst hn
  have hl : (plnC L).length = L.length * 2 := plnC_len L
  have ev : appendV y_t_impl_Plane 2 (h.new ⟨[i6 e.m, .slice e.A e.T.length e.c], y', true⟩) (.slice (some ⟨b, 0, none⟩) L.length 2) (.slice (some ⟨h.nx, 0, none⟩) 1 2) =
      some (.slice (some ⟨h.nx + 1, 0, none⟩) (L.length + 1) 2, ((h.new ⟨[i6 e.m, .slice e.A e.T.length e.c], y', true⟩).set b none).new ⟨plnC L ++ [i6 e.m, .slice e.A e.T.length e.c], y_t_impl_Plane, true⟩) := by
    simp [appendV, XK.eff, h2, show b ≠ h.nx by omega, t.top, hl, hmax]
  rw [ev, bindVH_some]
  have ot : ∀ c, c < h.nx → c ≠ b → (((h.new ⟨[i6 e.m, .slice e.A e.T.length e.c], y', true⟩).set b none).new ⟨plnC L ++ [i6 e.m, .slice e.A e.T.length e.c], y_t_impl_Plane, true⟩).bk c = h.bk c := fun c hc hne => by
    rw [new_bk, if_neg (by simp; omega), set_bk, if_neg hne, new_bk, if_neg (by omega)]
  have S : HS (msk h fun x => x = b) (msk (((h.new ⟨[i6 e.m, .slice e.A e.T.length e.c], y', true⟩).set b none).new ⟨plnC L ++ [i6 e.m, .slice e.A e.T.length e.c], y_t_impl_Plane, true⟩) fun x => x = h.nx + 1) :=
    msk_to (by simp; omega) fun c hc hne => ⟨ot c hc hne, by omega⟩
  refine hk (h.nx + 1) _ ⟨by have := t.lob; omega, by simp, by simp [plnC], fun i x hx => ?_⟩ ot (by omega) (by simp)
  by_cases hi : i < L.length
  · rw [List.getElem?_append_left hi] at hx
    exact (t.el i x hx).mos S
  · rw [List.getElem?_append_right (by omega)] at hx
    cases hj : i - L.length with
    | zero => rw [hj] at hx; cases hx; exact hr.mos S
    | succ j => rw [hj] at hx; simp at hx

/-- The powers of a table. -/
def powP (m : Int) (N : Nat) (T : List (List Int)) : Nat → List (List Int)
  | 0 => numT m (N - 1) 1
  | i + 1 => mulT m N (powP m N T i) T
theorem powP_len {m : Int} {N : Nat} (hN : 1 ≤ N) {T : List (List Int)} {i : Nat} : (powP m N T i).length = N := by
  cases i with
  | zero => rw [powP, numT_len]; omega
  | succ i => rw [powP, mulT_len]
theorem powP_row {m : Int} (hm : 0 < m) {N : Nat} {T : List (List Int)} {i x : Nat} (hx : x < N) : (row (powP m N T i) x).length = N - x ∧ Nums m (row (powP m N T i) x) := by
  cases i with
  | zero => have := numT_row hm (D := N - 1) (c := 1) (i := x) (by omega); rw [powP]; exact ⟨by omega, this.2⟩
  | succ i => rw [powP, row_mulT hx]; exact ⟨by simp, nums_tab hm⟩

def powPs (m : Int) (N : Nat) (T : List (List Int)) (PA : Nat → Option Addr) (PR : Nat → Nat → Option Addr) : Nat → List Pln
  | 0 => []
  | k + 1 => powPs m N T PA PR k ++ [⟨m, PA k, 1, PR k, powP m N T k⟩]
@[simp] theorem powPs_len (m : Int) (N : Nat) (T : List (List Int)) (PA : Nat → Option Addr) (PR : Nat → Nat → Option Addr) (k : Nat) : (powPs m N T PA PR k).length = k := by
  induction k with
  | zero => rfl
  | succ k ih => simp [powPs, ih]
theorem powPs_get {m : Int} {N : Nat} {T : List (List Int)} {PA : Nat → Option Addr} {PR : Nat → Nat → Option Addr} {k i : Nat} (h : i < k) : (powPs m N T PA PR k)[i]? = some ⟨m, PA i, 1, PR i, powP m N T i⟩ := by
  induction k with
  | zero => omega
  | succ k ih =>
    rw [powPs]
    by_cases hi : i < k
    · rw [List.getElem?_append_left (by simpa using hi)]; exact ih hi
    · have : i = k := by omega
      subst this
      rw [List.getElem?_append_right (by simp)]; simp
theorem powPs_upd {m : Int} {N : Nat} {T : List (List Int)} {PA : Nat → Option Addr} {PR : Nat → Nat → Option Addr} {A : Option Addr} {Q : Nat → Option Addr} {k j : Nat} (h : k ≤ j) : powPs m N T (updF PA j A) (updF PR j Q) k = powPs m N T PA PR k := by
  induction k with
  | zero => rfl
  | succ k ih => rw [powPs, powPs, ih (by omega), updF_ne (by omega), updF_ne (by omega)]

theorem s_impl_Plane_powers {m : Int} {A : Option Addr} {Rr : Nat → Option Addr} {T : List (List Int)} {n c N : Nat} {h : Hp} {R : Value → Hp → Prop} (hT : RT h A Rr T) (hn : n = N) (hN : T.length = N)
    (hr : ∀ i, i < N → (row T i).length = N - i ∧ Nums m (row T i)) (hm : 2 ≤ m) (hm2 : m ≤ 3000000000) (hN1 : 1 ≤ N) (hN2 : N ≤ 1000)
    (hR : ∀ b PA PR h', HE h h' → OP h.nx h' b (powPs m N T PA PR N) → R (.slice (some ⟨b, 0, none⟩) N 2) h') : CallW FF n_impl_Plane_powers [sv m A n c] h R := by
  subst hn
  refine w_impl_Plane_powers ?_
  have hm0 : 0 < m := by omega
  simp [p_impl_Plane_powers]
  refine newB_i fun b h1 eb en eh eB => ?_
  simp [box2 eB]
  refine s_impl_Plane_number (D := n - 1) (by omega) (by omega) (by omega) hm2 fun v h2 e2 f2 => ?_
  obtain ⟨o, rb, rfl, T2⟩ := f2
  have hl' : n - 1 + 1 = n := by omega
  simp [rowV_ser, hl']
  refine newB_i fun b3 h3 eb3 en3 eh3 eB3 => ?_
  have n2 := e2.nx
  have E3 := (eh.trans e2).trans eh3
  simp [box2 ((e2.trans eh3).to eB (by omega))]
  refine s_impl_Plane_degree (by omega) fun h4 e4 => ?_
  have n4 := e4.nx
  have T3 := (T2.mono eh3).mono e4
  have hlob := T2.lob; have hltb := T2.ltb; have hlor := T2.lor; have hltr := T2.ltr
  have S0 : OP h.nx h4 b3 (powPs m n T (fun _ => some ⟨o, 0, none⟩) (fun _ i => some ⟨rb i, 0, none⟩) 1) := ⟨by omega, by omega, by rw [e4.bk _ (by omega), eB3]; simp [powPs, plnC, powP, hl'], fun i e he => by
    cases i with
    | zero =>
      simp [powPs] at he; subst he
      have q := T2.rtm (P := fun x => False) (fun x hx => hx.elim)
      exact q.mos (msk_to (by omega) fun c hc _ => ⟨by rw [e4.bk _ (by omega), eh3.bk _ hc], by omega⟩)
    | succ i => simp [powPs] at he⟩
  refine LP1 (fun d vs h' => ∃ (k b' : Nat) (PA : Nat → Option Addr) (PR : Nat → Nat → Option Addr), d = n - 1 - k ∧ k ≤ n - 1 ∧ vs = [.pointer (some ⟨b, 0, none⟩), .slice (some ⟨b', 0, none⟩) (k + 1) 2, i6 ((n : Int) - 1), i6 k] ∧ HE h1 h' ∧ OP h.nx h' b' (powPs m n T PA PR (k + 1)) ∧ b < b') ?_ _ _ _
    ⟨0, b3, fun _ => some ⟨o, 0, none⟩, fun _ i => some ⟨rb i, 0, none⟩, rfl, by omega, by simp, (e2.trans eh3).trans e4, S0, by omega⟩
  rintro d vs h5 ⟨k, b', PA, PR, rfl, hk, rfl, E5, S5, hbb⟩ K K1 hK hK1
  refine wl_impl_Plane_powers_0 ?_
  have bx := box2 (E5.to eB (by omega))
  by_cases hlt : k < n - 1
  case neg =>
    have hk' : k = n - 1 := by omega
    have g : ¬ (k : Int) < (n : Int) - 1 := by omega
    simp [q_impl_Plane_powers_0, g]
    refine hK1 _ _ fun e he => ?_
    simp at he; rw [he]
    have := hR b' PA PR _ (eh.trans E5) (by rw [hk', hl'] at S5; exact S5)
    rw [hk', hl']; exact this
  have g : (k : Int) < (n : Int) - 1 := by omega
  have r := S5.rs.at 2 (e := (k : Int)) (i := k) (n := k + 1) rfl (by simp) (powPs_get (by omega))
  simp only [powP_len hN1] at r
  have w1 : IntKind.i64.wrap (k : Int) = k := wrapI (by omega) (by omega)
  have w2 : IntKind.i64.wrap ((k : Int) + 1) = k + 1 := wrapI (by omega) (by omega)
  have E05 := eh.trans E5
  simp [q_impl_Plane_powers_0, g, w1, r, bx]
  refine s_impl_Plane_times (N := n) (S5.rs.el k _ (powPs_get (by omega))) (hT.mono E05) rfl rfl (powP_len hN1) hN (fun i hi => powP_row hm0 hi) hr hm0 hm2 hN1 (by omega) fun v h6 e6 f6 => ?_
  obtain ⟨q, rq, rfl, T6⟩ := f6
  simp only [mulT_len, rowV_ser, w2, bindO_some, bin_add, len_slice]
  have n5 := E5.nx; have n6 := e6.nx
  have sl := S5.ltb; have sb := S5.lob
  refine pushP (e := ⟨m, some ⟨q, 0, none⟩, 1, fun i => some ⟨rq i, 0, none⟩, powP m n T (k + 1)⟩) (S5.mono e6) (by simp) (by rw [powP_len hN1]) (by unfold sizeMax; omega) ?_ fun b7 h7 S7 ot7 n7 n8 => ?_
  · exact T6.rtm fun x hx => by omega
  have he1 : HE h1 h7 := ⟨by omega, fun c hc => by rw [ot7 c (by omega) (by omega), e6.bk c (by omega), E5.bk c hc]⟩
  refine hK _ _ _ (by omega) ⟨k + 1, b7, updF PA (k + 1) (some ⟨q, 0, none⟩), updF PR (k + 1) (fun i => some ⟨rq i, 0, none⟩), rfl, by omega, by simp, he1, ?_, by omega⟩
  rw [powPs, powPs_upd (by omega), updF_eq, updF_eq]; exact S7
end XM

/- The program's laws: defectsOf, axioms, IsLaw. -/
namespace XM
open Go

def dL (m : Int) (N : Nat) (T : List (List Int)) (a b c k : Nat) : Int := sm k fun i => gt2 T i c * gt2 (powP m N T i) a b % m
def dR (m : Int) (N : Nat) (T : List (List Int)) (a b c k : Nat) : Int := sm k fun j => gt2 T a j * gt2 (powP m N T j) b c % m

theorem sm_bd {k : Nat} {m : Int} (hm : 0 < m) (f : Nat → Int) : 0 ≤ sm k (fun i => f i % m) ∧ sm k (fun i => f i % m) ≤ k * m := by
  induction k with
  | zero => simp [sm]
  | succ k ih =>
    rw [sm_succ]
    have := mod_bd hm (f k)
    have e : ((k + 1 : Nat) : Int) * m = k * m + m := by rw [Int.natCast_add, Int.add_mul]; simp
    omega

/-- What the closure of defectsOf holds. -/
structure Dfs (h : Hp) (m : Int) (N : Nat) (T : List (List Int)) (A : Option Addr) (Rr : Nat → Option Addr) (c bd bf bp P : Nat) (PA : Nat → Option Addr) (PR : Nat → Nat → Option Addr) (y1 y2 y3 : TypeId) : Prop where
  hT : RT h A Rr T
  kd : h.bk bd = some ⟨[i6 ((N : Int) - 1)], y1, true⟩
  kf : h.bk bf = some ⟨[i6 m, .slice A N c], y2, true⟩
  kp : h.bk bp = some ⟨[.slice (some ⟨P, 0, none⟩) N 2], y3, true⟩
  ps : RP h (some ⟨P, 0, none⟩) (powPs m N T PA PR N)
  l1 : bd < h.nx
  l2 : bf < h.nx
  l3 : bp < h.nx
theorem Dfs.mono {h h' : Hp} {m : Int} {N : Nat} {T : List (List Int)} {A : Option Addr} {Rr : Nat → Option Addr} {c bd bf bp P : Nat} {PA : Nat → Option Addr} {PR : Nat → Nat → Option Addr} {y1 y2 y3 : TypeId} (d : Dfs h m N T A Rr c bd bf bp P PA PR y1 y2 y3) (e : HE h h') :
    Dfs h' m N T A Rr c bd bf bp P PA PR y1 y2 y3 :=
  ⟨d.hT.mono e, e.to d.kd d.l1, e.to d.kf d.l2, e.to d.kp d.l3, d.ps.mono e, Nat.lt_of_lt_of_le d.l1 e.nx, Nat.lt_of_lt_of_le d.l2 e.nx, Nat.lt_of_lt_of_le d.l3 e.nx⟩

theorem s_impl_defectsOf {m : Int} {A : Option Addr} {Rr : Nat → Option Addr} {T : List (List Int)} {n c N : Nat} {h : Hp} {R : Value → Hp → Prop} (hT : RT h A Rr T) (hn : n = N) (hN : T.length = N)
    (hr : ∀ i, i < N → (row T i).length = N - i ∧ Nums m (row T i)) (hm : 2 ≤ m) (hm2 : m ≤ 3000000000) (hN1 : 1 ≤ N) (hN2 : N ≤ 1000)
    (hR : ∀ h' bd bf bp P PA PR y1 y2 y3, HE h h' → Dfs h' m N T A Rr c bd bf bp P PA PR y1 y2 y3 → R (.func (.func n_impl_defectsOf_c1) #[] #[.pointer (some ⟨bd, 0, none⟩), .pointer (some ⟨bf, 0, none⟩), .pointer (some ⟨bp, 0, none⟩)]) h') : CallW FF n_impl_defectsOf [sv m A n c] h R := by
  subst hn
  refine w_impl_defectsOf ?_
  simp [p_impl_defectsOf]
  refine newB_i fun b h1 eb en eh eB => ?_
  simp [box2 eB]
  refine s_impl_Plane_powers (hT.mono eh) rfl hN hr hm hm2 hN1 hN2 fun P PA PR h2 e2 P2 => ⟨e2.keep, by omega, ?_⟩
  simp [box2 (e2.to eB (by omega))]
  refine s_impl_Plane_degree (by omega) fun h3 e3 => ?_
  refine newB_i fun b4 h4 eb4 en4 eh4 eB4 => ?_
  refine newB_i fun b5 h5 eb5 en5 eh5 eB5 => ?_
  have n2 := e2.nx; have n3 := e3.nx
  refine store1 (x := ⟨[.slice none 0 0], _, true⟩) (o := 0) (eh5.to eB4 (by omega)) (by simp) rfl rfl rfl fun h6 u6 => ?_
  have n6 := u6.nx
  refine store1 (x := ⟨[.int .i64 0], _, true⟩) (o := 0) (u6.to eB5 (by omega)) (by simp) rfl rfl rfl fun h7 u7 => ?_
  have n7 := u7.nx
  have E27 : HE h2 h7 := u7.he (u6.he ((e3.trans eh4).trans eh5) (by omega)) (by omega)
  refine hR _ _ _ _ P PA PR _ _ _ (eh.trans (e2.trans E27)) ⟨hT.mono (eh.trans (e2.trans E27)), u7.bk, E27.to (e2.to eB (by omega)) (by omega), u7.to u6.bk (by omega), P2.rs.mono E27, by omega, by omega, by omega⟩

theorem s_impl_defects {m : Int} {A : Option Addr} {Rr : Nat → Option Addr} {T : List (List Int)} {x y z c N bd bf bp P : Nat} {PA : Nat → Option Addr} {PR : Nat → Nat → Option Addr} {y1 y2 y3 : TypeId} {h : Hp} {R : Value → Hp → Prop} (d : Dfs h m N T A Rr c bd bf bp P PA PR y1 y2 y3) (hN : T.length = N)
    (hr : ∀ i, i < N → (row T i).length = N - i ∧ Nums m (row T i)) (hm : 2 ≤ m) (hm2 : m ≤ 1000000000) (hN1 : 1 ≤ N) (hN2 : N ≤ 1000) (hxyz : x + y + z < N)
    (hR : R (i6 ((dL m N T x y z (N - z) - dR m N T x y z (N - x)) % m)) h) : CallW FF n_impl_defectsOf_c1 [i6 x, i6 y, i6 z, .pointer (some ⟨bd, 0, none⟩), .pointer (some ⟨bf, 0, none⟩), .pointer (some ⟨bp, 0, none⟩)] h R := by
  refine w_impl_defectsOf_c1 ?_
  have hm0 : 0 < m := by omega
  have m0 : ¬ m = 0 := by omega
  have x1 := box1 d.kd
  have x2 := box2 d.kf
  have x3 := box1 d.kp
  have dL_nonneg : ∀ k, 0 ≤ dL m N T x y z k ∧ dL m N T x y z k ≤ k * m := fun k => sm_bd hm0 _
  have dR_nonneg : ∀ k, 0 ≤ dR m N T x y z k ∧ dR m N T x y z k ≤ k * m := fun k => sm_bd hm0 _
  have mulb : ∀ k : Nat, k ≤ 1000 → (k : Int) * m ≤ 1000000000000 := fun k hk => by
    have h1 : (k : Int) * m ≤ 1000 * m := Int.mul_le_mul_of_nonneg_right (by omega) (by omega)
    omega
  have wNz : IntKind.i64.wrap ((N : Int) - 1 - z) = N - 1 - z := wrapI (by omega) (by omega)
  have wNx : IntKind.i64.wrap ((N : Int) - 1 - x) = N - 1 - x := wrapI (by omega) (by omega)
  simp only [p_impl_defectsOf_c1]
  refine LP1 (fun d vs h' => ∃ k : Nat, d = N - k ∧ k ≤ N - z ∧ h' = h ∧ vs = [i6 x, i6 y, i6 z, .pointer (some ⟨bd, 0, none⟩), .pointer (some ⟨bf, 0, none⟩), .pointer (some ⟨bp, 0, none⟩), i6 (dL m N T x y z k), i6 0, i6 k]) ?_ _ _ _ ⟨0, rfl, by omega, rfl, rfl⟩
  rintro d1 vs h1 ⟨k, rfl, hk, rfl, rfl⟩ K K1 hK hK1
  refine wl_impl_defectsOf_c1_0 ?_
  have w1 : IntKind.i64.wrap ((k : Int) + 1) = k + 1 := wrapI (by omega) (by omega)
  by_cases hlt : k < N - z
  · have g : (k : Int) ≤ (N : Int) - 1 - z := by omega
    have r1 := d.hT.at c (e := k) (n := N) rfl hN.symm (by omega)
    have r2 := d.hT.el 1 (e := z) (i := k) (n := (row T k).length) (by omega) rfl rfl (by rw [(hr k (by omega)).1]; omega)
    have p1 := d.ps.at 2 (e := k) (i := k) (n := N) rfl (by simp) (powPs_get (by omega))
    have pr := d.ps.el k _ (powPs_get (show k < N by omega))
    simp only [powP_len hN1] at p1
    have hpx := powP_row hm0 (N := N) (T := T) (i := k) (x := x) (by omega)
    have p2 := pr.at 1 (e := x) (i := x) (n := N) rfl (powP_len hN1).symm (by rw [powP_len hN1]; omega)
    have p3 := pr.el 1 (e := y) (i := x) (j := y) (n := (row (powP m N T k) x).length) (by rw [powP_len hN1]; omega) rfl rfl (by rw [hpx.1]; omega)
    have b1 := (hr k (by omega)).2.gt (show z < (row T k).length by rw [(hr k (by omega)).1]; omega)
    have b2 := hpx.2.gt (show y < (row (powP m N T k) x).length by rw [hpx.1]; omega)
    have bm := mul_bd (by omega) b1 b2
    have w2 : IntKind.i64.wrap (gt (row T k) z * gt (row (powP m N T k) x) y) = gt (row T k) z * gt (row (powP m N T k) x) y := wrapI (by omega) (by omega)
    have bq := mod_bd hm0 (gt (row T k) z * gt (row (powP m N T k) x) y)
    have bs := dL_nonneg k; have bs2 := mulb k (by omega)
    have w3 : IntKind.i64.wrap (dL m N T x y z k + gt (row T k) z * gt (row (powP m N T k) x) y % m) = dL m N T x y z (k + 1) := by rw [wrapI (by omega) (by omega)]; rfl
    simp [q_impl_defectsOf_c1_0, x1, x2, x3, wNz, g, r1, r2, p1, p2, p3, w1, w2, m0, Int.tmod_eq_emod_of_nonneg bm.1, w3]
    exact hK _ _ _ (by omega) ⟨k + 1, rfl, by omega, rfl, rfl⟩
  have hkN : k = N - z := by omega
  have g : ¬ (k : Int) ≤ (N : Int) - 1 - z := by omega
  simp [q_impl_defectsOf_c1_0, x1, wNz, g]
  refine hK1 _ _ fun e he => ?_
  simp at he
  simp [he]
  subst hkN
  clear hK hK1 K K1 hlt hk g w1 he
  have bsL := dL_nonneg (N - z); have bsL2 := mulb (N - z) (by omega)
  refine LP1 (fun d vs h' => ∃ k : Nat, d = N - k ∧ k ≤ N - x ∧ h' = h1 ∧ vs = [i6 x, i6 y, i6 z, .pointer (some ⟨bd, 0, none⟩), .pointer (some ⟨bf, 0, none⟩), .pointer (some ⟨bp, 0, none⟩), i6 (dL m N T x y z (N - z)), i6 (dR m N T x y z k), i6 k]) ?_ _ _ _ ⟨0, rfl, by omega, rfl, rfl⟩
  rintro d1 vs h1 ⟨k, rfl, hk, rfl, rfl⟩ K K1 hK hK1
  refine wl_impl_defectsOf_c1_1 ?_
  have w1 : IntKind.i64.wrap ((k : Int) + 1) = k + 1 := wrapI (by omega) (by omega)
  by_cases hlt : k < N - x
  · have g : (k : Int) ≤ (N : Int) - 1 - x := by omega
    have hrx := hr x (by omega)
    have r1 := d.hT.at c (e := x) (n := N) rfl hN.symm (by omega)
    have r2 := d.hT.el 1 (e := k) (i := x) (n := (row T x).length) (by omega) rfl rfl (by rw [hrx.1]; omega)
    have p1 := d.ps.at 2 (e := k) (i := k) (n := N) rfl (by simp) (powPs_get (by omega))
    have pr := d.ps.el k _ (powPs_get (show k < N by omega))
    simp only [powP_len hN1] at p1
    have hpx := powP_row hm0 (N := N) (T := T) (i := k) (x := y) (by omega)
    have p2 := pr.at 1 (e := y) (i := y) (n := N) rfl (powP_len hN1).symm (by rw [powP_len hN1]; omega)
    have p3 := pr.el 1 (e := z) (i := y) (j := z) (n := (row (powP m N T k) y).length) (by rw [powP_len hN1]; omega) rfl rfl (by rw [hpx.1]; omega)
    have b1 := hrx.2.gt (show k < (row T x).length by rw [hrx.1]; omega)
    have b2 := hpx.2.gt (show z < (row (powP m N T k) y).length by rw [hpx.1]; omega)
    have bm := mul_bd (by omega) b1 b2
    have w2 : IntKind.i64.wrap (gt (row T x) k * gt (row (powP m N T k) y) z) = gt (row T x) k * gt (row (powP m N T k) y) z := wrapI (by omega) (by omega)
    have bq := mod_bd hm0 (gt (row T x) k * gt (row (powP m N T k) y) z)
    have bs := dR_nonneg k; have bs2 := mulb k (by omega)
    have w3 : IntKind.i64.wrap (dR m N T x y z k + gt (row T x) k * gt (row (powP m N T k) y) z % m) = dR m N T x y z (k + 1) := by rw [wrapI (by omega) (by omega)]; rfl
    simp [q_impl_defectsOf_c1_1, x1, x2, x3, wNx, g, r1, r2, p1, p2, p3, w1, w2, m0, Int.tmod_eq_emod_of_nonneg bm.1, w3]
    exact hK _ _ _ (by omega) ⟨k + 1, rfl, by omega, rfl, rfl⟩
  have hkN : k = N - x := by omega
  have g : ¬ (k : Int) ≤ (N : Int) - 1 - x := by omega
  simp [q_impl_defectsOf_c1_1, x1, wNx, g]
  refine hK1 _ _ fun e he => ?_
  simp at he
  subst hkN
  have bsR := dR_nonneg (N - x); have bsR2 := mulb (N - x) (by omega)
  have wS : IntKind.i64.wrap (dL m N T x y z (N - z) - dR m N T x y z (N - x)) = dL m N T x y z (N - z) - dR m N T x y z (N - x) := wrapI (by omega) (by omega)
  simp [he, x2, wS]
  exact s_impl_mod hm0 (by omega) hR
end XM

/- Sums modulo m, and a series of a table as a sum of powers: in plain Lean. -/
namespace XM

theorem sm_add (n : Nat) (f g : Nat → Int) : sm n (fun i => f i + g i) = sm n f + sm n g := by
  induction n with
  | zero => rfl
  | succ n ih => rw [sm_succ, sm_succ, sm_succ, ih]; omega
theorem sm_mul (n : Nat) (c : Int) (f : Nat → Int) : sm n (fun i => c * f i) = c * sm n f := by
  induction n with
  | zero => simp [sm]
  | succ n ih => rw [sm_succ, sm_succ, ih, Int.mul_add]
theorem sm_mul_r (n : Nat) (c : Int) (f : Nat → Int) : sm n (fun i => f i * c) = sm n f * c := by
  rw [Int.mul_comm, ← sm_mul]; exact sm_congr fun i _ => Int.mul_comm _ _
theorem sm_swap (n k : Nat) (f : Nat → Nat → Int) : (sm n fun i => sm k fun j => f i j) = sm k fun j => sm n fun i => f i j := by
  induction n with
  | zero => exact (sm_zero fun j _ => rfl).symm
  | succ n ih => rw [sm_succ, ih, ← sm_add]; rfl
theorem sm_first (n : Nat) (f : Nat → Int) : sm (n + 1) f = f 0 + sm n fun i => f (i + 1) := by
  induction n with
  | zero => simp [sm]
  | succ n ih => rw [sm_succ, ih, sm_succ]; omega
theorem sm_emod {n : Nat} {m : Int} {f g : Nat → Int} (h : ∀ i, i < n → f i % m = g i % m) : sm n f % m = sm n g % m := by
  induction n with
  | zero => rfl
  | succ n ih => rw [sm_succ, sm_succ, Int.add_emod, ih fun i hi => h i (by omega), h n (by omega), ← Int.add_emod]
theorem sm_emod' (n : Nat) (m : Int) (f : Nat → Int) : sm n (fun i => f i % m) % m = sm n f % m := sm_emod fun i _ => Int.emod_emod _ _
theorem mul_emod_congr {a b c d m : Int} (h1 : a % m = b % m) (h2 : c % m = d % m) : a * c % m = b * d % m := by rw [Int.mul_emod, h1, h2, ← Int.mul_emod]
theorem add_emod_congr {a b c d m : Int} (h1 : a % m = b % m) (h2 : c % m = d % m) : (a + c) % m = (b + d) % m := by rw [Int.add_emod, h1, h2, ← Int.add_emod]

/-- A sum over a triangle. -/
def tri (N : Nat) (f : Nat → Nat → Int) : Int := sm N fun i => sm (N - i) fun j => f i j
theorem tri_congr {N : Nat} {f g : Nat → Nat → Int} (h : ∀ i j, i + j < N → f i j = g i j) : tri N f = tri N g := sm_congr fun i hi => sm_congr fun j hj => h i j (by omega)
theorem tri_emod {N : Nat} {m : Int} {f g : Nat → Nat → Int} (h : ∀ i j, i + j < N → f i j % m = g i j % m) : tri N f % m = tri N g % m := sm_emod fun i hi => sm_emod fun j hj => h i j (by omega)
theorem tri_sum (N k : Nat) (f : Nat → Nat → Nat → Int) : tri N (fun i j => sm k fun l => f l i j) = sm k fun l => tri N (f l) := by
  unfold tri
  rw [sm_swap]
  refine sm_congr fun i _ => ?_
  rw [sm_swap]
theorem tri_mul (N : Nat) (c : Int) (f : Nat → Nat → Int) : tri N (fun i j => c * f i j) = c * tri N f := by
  unfold tri
  rw [← sm_mul]
  exact sm_congr fun i _ => sm_mul _ _ _

def wt (b : List (List Int)) (i j x y : Nat) : Int := if i ≤ x ∧ j ≤ y then gt2 b (x - i) (y - j) else 0
theorem tE3_tri (N : Nat) (a b : List (List Int)) (x y : Nat) : tE3 N a b N x y = tri N fun i j => gt2 a i j * wt b i j x y := by
  unfold tE3 tri
  refine sm_congr fun i _ => sm_congr fun j _ => ?_
  show term a b i j x y = gt2 a i j * wt b i j x y
  unfold term wt
  by_cases h : i ≤ x ∧ j ≤ y
  · rw [if_pos h, if_pos h]
  · rw [if_neg h, if_neg h, Int.mul_zero]
theorem gt2_mulT {m : Int} {N x y : Nat} {a b : List (List Int)} (h : x + y < N) : gt2 (mulT m N a b) x y = tE3 N a b N x y % m := by
  unfold gt2; rw [row_mulT (by omega), gt_tab (by omega)]
theorem gt_repl (n i : Nat) : gt (List.replicate n (0 : Int)) i = 0 := by
  rw [rep_tab, gt_tab']; split <;> rfl
theorem gt2_numT {m c : Int} {D x y : Nat} (h : x + y < D + 1) : gt2 (numT m D c) x y = if x = 0 ∧ y = 0 then c % m else 0 := by
  unfold gt2; rw [row_numT (by omega), gt_set, gt_repl]
  by_cases hx : x = 0
  · by_cases hy : y = 0
    · subst hx; subst hy; rw [if_pos ⟨rfl, by simp⟩]; simp
    · rw [if_neg (fun h => hy h.1.symm), if_neg (fun h => hy h.2)]
  · rw [if_neg (c := x = 0 ∧ y = 0) (fun h => hx h.1), if_neg hx]
    split <;> rfl
theorem gt2_ztab {D n x y : Nat} : gt2 (ztab D n) x y = 0 := by
  unfold gt2
  by_cases h : x < n
  · rw [row_ztab h, gt_repl]
  · have : row (ztab D n) x = [] := by simp [row, List.getD_eq_getElem?_getD, List.getElem?_eq_none (show (ztab D n).length ≤ x by simp; omega)]
    rw [this]; rfl
theorem gt2_addT0 {m c : Int} {Z : List (List Int)} {x y : Nat} (hz : 0 < Z.length) (hr : 0 < (row Z 0).length) : gt2 (addT0 m Z c) x y = if x = 0 ∧ y = 0 then (gt2 Z 0 0 + c) % m else gt2 Z x y := by
  show gt (row (Z.set 0 ((row Z 0).set 0 ((gt2 Z 0 0 + c) % m))) x) y = _
  rw [row_set]
  by_cases hx : x = 0
  · subst hx
    rw [if_pos ⟨rfl, hz⟩, gt_set]
    by_cases hy : y = 0
    · subst hy; rw [if_pos ⟨rfl, hr⟩, if_pos ⟨rfl, rfl⟩]
    · rw [if_neg (fun h => hy h.1.symm), if_neg (fun h => hy h.2)]; rfl
  · rw [if_neg (fun h => hx h.1.symm), if_neg (fun h => hx h.1)]; rfl

/-- A product with a sum of tables. -/
theorem mulT_sum {m : Int} {N k : Nat} {Z T : List (List Int)} {c : Nat → Int} {P : Nat → List (List Int)} (hZ : ∀ i j, i + j < N → gt2 Z i j % m = (sm k fun l => c l * gt2 (P l) i j) % m) {x y : Nat} (h : x + y < N) :
    gt2 (mulT m N Z T) x y = (sm k fun l => c l * gt2 (mulT m N (P l) T) x y) % m := by
  rw [gt2_mulT h, tE3_tri]
  have e1 : tri N (fun i j => gt2 Z i j * wt T i j x y) % m = tri N (fun i j => sm k fun l => c l * (gt2 (P l) i j * wt T i j x y)) % m :=
    tri_emod fun i j hij => by
      show gt2 Z i j * wt T i j x y % m = (sm k fun l => c l * (gt2 (P l) i j * wt T i j x y)) % m
      rw [mul_emod_congr (hZ i j hij) rfl, ← sm_mul_r]
      congr 1
      exact sm_congr fun l _ => Int.mul_assoc _ _ _
  rw [e1, tri_sum]
  refine sm_emod fun l _ => ?_
  rw [tri_mul, gt2_mulT h, tE3_tri]
  exact mul_emod_congr rfl (Int.emod_emod _ _).symm

theorem gt2_hornT {m : Int} (hm : 2 ≤ m) {N : Nat} (hN : 1 ≤ N) {f : List Int} {T : List (List Int)} {s : Nat} : ∀ {k : Nat}, k ≤ s + 1 → ∀ {x y : Nat}, x + y < N →
    gt2 (hornT m N f T s k) x y = (sm k fun l => gt f (s + 1 - k + l) * gt2 (powP m N T l) x y) % m := by
  intro k
  induction k with
  | zero => intro _ x y _; rw [hornT, gt2_ztab]; simp [sm]
  | succ k ih =>
    intro hk x y hxy
    have hl0 : 0 < (mulT m N (hornT m N f T s k) T).length := by rw [mulT_len]; omega
    have hr0 : 0 < (row (mulT m N (hornT m N f T s k) T) 0).length := by rw [row_mulT (by omega), tab_len]; omega
    have e : ∀ {x y : Nat}, x + y < N → gt2 (mulT m N (hornT m N f T s k) T) x y = (sm k fun l => gt f (s + 1 - k + l) * gt2 (powP m N T (l + 1)) x y) % m := fun {x y} hxy =>
      mulT_sum (P := powP m N T) (fun i j hij => by rw [ih (by omega) hij, Int.emod_emod]) hxy
    rw [hornT, gt2_addT0 hl0 hr0, sm_first]
    have es : (sm k fun i => gt f (s + 1 - (k + 1) + (i + 1)) * gt2 (powP m N T (i + 1)) x y) = sm k fun l => gt f (s + 1 - k + l) * gt2 (powP m N T (l + 1)) x y := sm_congr fun i _ => by
      rw [show s + 1 - (k + 1) + (i + 1) = s + 1 - k + i by omega]
    rw [es, show s + 1 - (k + 1) + 0 = s - k by omega]
    have e0 : gt2 (powP m N T 0) x y = if x = 0 ∧ y = 0 then 1 else 0 := by
      rw [powP, gt2_numT (by omega), Int.emod_eq_of_lt (by omega) (by omega)]
    rw [e0]
    split
    · rename_i h0; obtain ⟨rfl, rfl⟩ := h0
      rw [e hxy, Int.emod_add_emod, Int.mul_one, Int.add_comm]
    · rw [e hxy, Int.mul_zero, Int.zero_add]

theorem gt2_afterT {m : Int} (hm : 2 ≤ m) {N : Nat} (hN : 1 ≤ N) {f : List Int} (hf : 1 ≤ f.length) {T : List (List Int)} {x y : Nat} (h : x + y < N) :
    gt2 (afterT m N f T) x y = (sm f.length fun l => gt f l * gt2 (powP m N T l) x y) % m := by
  rw [afterT, gt2_hornT hm hN (by omega) h]
  congr 1
  exact sm_congr fun l _ => by rw [show f.length - 1 + 1 - f.length + l = l by omega]

theorem dL_eq {m : Int} (hm : 2 ≤ m) {N : Nat} {T : List (List Int)} (hT : T.length = N) {a b c : Nat} (h : a + b + c < N) : AssL m N T a b c = dL m N T a b c (N - c) % m := by
  have hl : (colL T c).length = N - c := by simp [colL, hT]
  rw [AssL, gt2_afterT hm (by omega) (by omega) (by omega), dL, sm_emod', hl]
  congr 1
  exact sm_congr fun l hl2 => by rw [colL, gt_tab (by omega)]; rfl
theorem dR_eq {m : Int} (hm : 2 ≤ m) {N : Nat} {T : List (List Int)} {a b c : Nat} (hr : (row T a).length = N - a) (h : a + b + c < N) : AssR m N T a b c = dR m N T a b c (N - a) % m := by
  rw [AssR, gt2_afterT hm (by omega) (by omega) (by omega), dR, sm_emod', hr]
  congr 1
theorem ass_iff {m : Int} (hm : 2 ≤ m) {N : Nat} {T : List (List Int)} (hT : T.length = N) {a b c : Nat} (hr : (row T a).length = N - a) (h : a + b + c < N) :
    AssL m N T a b c = AssR m N T a b c ↔ (dL m N T a b c (N - c) - dR m N T a b c (N - a)) % m = 0 := by
  rw [dL_eq hm hT h, dR_eq hm hr h]
  exact Int.emod_eq_emod_iff_emod_sub_eq_zero
end XM

/- The program's laws: axioms, IsLaw, curved. -/
namespace XM
open Go

set_option maxHeartbeats 400000 in
theorem s_impl_axioms {m : Int} {A : Option Addr} {Rr : Nat → Option Addr} {T : List (List Int)} {N n c : Nat} {h : Hp} {R : Value → Hp → Prop} (hT : RT h A Rr T) (hn : n = N) (hN : T.length = N)
    (hr : ∀ i, i < N → (row T i).length = N - i ∧ Nums m (row T i)) (hm : 2 ≤ m) (hm2 : m ≤ 1000000000) (hN1 : 1 ≤ N) (hN2 : N ≤ 1000)
    (hR : ∀ h' A' n' c', HE h h' → (A' = none ↔ NoF m N T) → R (.slice A' n' c') h') : CallW FF n_impl_axioms [sv m A n c] h R := by
  subst hn
  refine w_impl_axioms ?_
  simp [p_impl_axioms]
  refine newB_i fun b h1 eb en eh eB => ?_
  have bx := box2 eB
  simp [bx]
  have T1 := hT.mono eh
  refine LP2 (fun d vs h' => ∃ i : Nat, d = n - i ∧ i ≤ n ∧ h' = h1 ∧ vs = [.pointer (some ⟨b, 0, none⟩), i6 n, i6 i] ∧ ∀ j, j < i → NoF1 T j) ?_ _ _ _ ⟨0, rfl, by omega, rfl, rfl, by omega⟩
  rintro d vs h2 ⟨i, rfl, hi, rfl, rfl, hF⟩ K K1 K2 hK hK1 hK2
  refine wl_impl_axioms_0 ?_
  by_cases hlt : i < n
  case pos =>
    have r := T1.at c (e := i) rfl hN.symm (by omega)
    have hri := hr i hlt
    have t := T1.el 1 (e := 0) (i := i) (j := 0) (by omega) rfl rfl (by omega)
    simp [q_impl_axioms_0, hlt]
    refine ⟨fun vs h' => vs = [.pointer (some ⟨b, 0, none⟩), i6 i, i6 (if i = 1 then 1 else 0), i6 n, i6 i] ∧ h' = h2, ?_, ?_⟩
    · rintro vs h3 ⟨rfl, rfl⟩ e he
      simp at he
      simp [he, bx, r, t]
      by_cases hc : NoF1 T i
      · have hc' : gt (row T i) 0 = if i = 1 then 1 else 0 := hc
        simp [hc', wrapI (n := (i : Int) + 1) (by omega) (by omega)]
        exact hK _ _ _ (by omega) ⟨i + 1, rfl, by omega, rfl, rfl, fun j hj => by
          by_cases h : j = i
          · subst h; exact hc
          · exact hF j (by omega)⟩
      · have hc' : ¬ gt (row T i) 0 = if i = 1 then 1 else 0 := hc
        simp [hc', rowV, rowFill, reps]
        refine newB_i fun b9 h9 eb9 en9 eh9 eB9 => ?_
        refine hK2 _ _ fun e2 he2 => ?_
        simp at he2
        rw [he2]
        exact hR _ _ _ _ (eh.trans eh9) ⟨fun h => (by cases h), fun h => (hc (h.1 i (by omega))).elim⟩
    · by_cases h : (i : Int) = 1
      · have : i = 1 := by omega
        simp [this]
      · have : ¬ i = 1 := by omega
        simp [h, this]
  simp [q_impl_axioms_0, hlt]
  refine hK1 _ _ fun e he => ?_
  simp at he
  simp [he, bx]
  have hF : ∀ j, j < n → NoF1 T j := fun j hj => hF j (by omega)
  clear hK hK1 hK2 K K1 K2 hlt hi he
  refine LP2 (fun d vs h' => ∃ i : Nat, d = n - i ∧ i ≤ n ∧ h' = h2 ∧ vs = [.pointer (some ⟨b, 0, none⟩), .slice A n c, i6 n, i6 i] ∧ ∀ j k, j < i → j < k → j + k < n → gt2 T j k = gt2 T k j) ?_ _ _ _ ⟨0, rfl, by omega, rfl, rfl, by omega⟩
  rintro d vs h2 ⟨i, rfl, hi, rfl, rfl, hF2⟩ K K1 K2 hK hK1 hK2
  refine wl_impl_axioms_2 ?_
  by_cases hlt : i < n
  case pos =>
    have hri := hr i hlt
    have x1 := T1.at c (e := i) rfl hN.symm (by omega)
    simp [q_impl_axioms_2, hlt, x1, wrapI (n := (i : Int) + 1) (by omega) (by omega)]
    refine LP2 (fun d vs h' => ∃ j : Nat, d = n - j ∧ i < j ∧ h' = h2 ∧ vs = [.pointer (some ⟨b, 0, none⟩), i6 i, .slice (Rr i) (row T i).length 1, i6 j, .slice A n c, i6 n, i6 i] ∧ j ≤ n + 1 ∧ ∀ k, i < k → k < j → i + k < n → gt2 T i k = gt2 T k i) ?_ _ _ _ ⟨i + 1, rfl, by omega, rfl, by simp, by omega, by omega⟩
    rintro d vs h7 ⟨j, rfl, hj, rfl, rfl, hj2, hB⟩ K3 K4 K5 hK3 hK4 hK5
    refine wl_impl_axioms_1 ?_
    by_cases hlt2 : i + j < n
    case neg =>
      have hlt2' : ¬ j < (row T i).length := by omega
      simp [q_impl_axioms_1, hlt2']
      refine hK4 _ _ fun e he => ?_
      simp at he
      simp [he, wrapI (n := (i : Int) + 1) (by omega) (by omega)]
      refine hK _ _ _ (by omega) ⟨i + 1, rfl, by omega, rfl, rfl, fun a b h1 h2 h3 => ?_⟩
      by_cases h : a = i
      · subst h; exact hB b h2 (by omega) h3
      · exact hF2 a b (by omega) h2 h3
    have hlt2' : j < (row T i).length := by omega
    have x2 := T1.el 1 (e := j) (i := i) (n := (row T i).length) (by omega) rfl rfl (by omega)
    have y1 := T1.at c (e := j) rfl hN.symm (by omega)
    have y2 := T1.el 1 (e := i) (i := j) (n := (row T j).length) (by omega) rfl rfl (by rw [(hr j (by omega)).1]; omega)
    simp [q_impl_axioms_1, hlt2', bx, x2, y1, y2]
    by_cases hc : gt2 T i j = gt2 T j i
    · have hc' : gt (row T i) j = gt (row T j) i := hc
      simp [hc', wrapI (n := (j : Int) + 1) (by omega) (by omega)]
      refine hK3 _ _ _ (by omega) ⟨j + 1, rfl, by omega, rfl, rfl, by omega, fun k h1 h2 h3 => ?_⟩
      by_cases h : k = j
      · subst h; exact hc
      · exact hB k h1 (by omega) h3
    · have hc' : ¬ gt (row T i) j = gt (row T j) i := hc
      simp [hc', rowV, rowFill, reps]
      refine newB_i fun b9 h9 eb9 en9 eh9 eB9 => ?_
      refine hK5 _ _ fun e he => ?_
      simp at he
      refine hK2 _ _ fun e2 he2 => ?_
      simp at he2
      rw [he2, he]
      exact hR _ _ _ _ (eh.trans eh9) ⟨fun h => (by cases h), fun h => (hc (h.2.1 i j (by omega) (by omega))).elim⟩
  simp [q_impl_axioms_2, hlt]
  refine hK1 _ _ fun e he => ?_
  simp at he
  simp [he, bx]
  have hF2 : ∀ j k, j < k → j + k < n → gt2 T j k = gt2 T k j := fun j k h1 h2 => hF2 j k (by omega) h1 h2
  clear hK hK1 hK2 K K1 K2 hlt hi he
  refine s_impl_defectsOf (hT.mono eh) rfl hN hr hm (by omega) hN1 hN2 fun h4 bd bf bp P PA PR y1 y2 y3 e4 D4 => ?_
  simp [box2 (e4.to eB (by omega))]
  refine s_impl_Plane_degree (by omega) fun h5 e5 => ?_
  have E5 := (eh.trans e4).trans e5
  have D5 := D4.mono e5
  -- the sums
  refine LP2 (fun d vs h' => ∃ i : Nat, d = n - i ∧ i ≤ n ∧ h' = h5 ∧ vs = [.func (.func n_impl_defectsOf_c1) #[] #[.pointer (some ⟨bd, 0, none⟩), .pointer (some ⟨bf, 0, none⟩), .pointer (some ⟨bp, 0, none⟩)], i6 ((n : Int) - 1), i6 i] ∧ ∀ a b c, a < i → a + b + c < n → AssL m n T a b c = AssR m n T a b c) ?_ _ _ _ ⟨0, rfl, by omega, rfl, rfl, by omega⟩
  rintro d vs h6 ⟨i, rfl, hi, rfl, rfl, hA⟩ K K1 K2 hK hK1 hK2
  refine wl_impl_axioms_5 ?_
  by_cases hlt : i < n
  case neg =>
    have g : ¬ (i : Int) ≤ (n : Int) - 1 := by omega
    simp [q_impl_axioms_5, g]
    refine hK1 _ _ fun _ => ?_
    exact hR _ _ _ _ E5 ⟨fun _ => ⟨hF, hF2, fun a b c h => hA a b c (by omega) h⟩, fun _ => rfl⟩
  have g : (i : Int) ≤ (n : Int) - 1 := by omega
  simp [q_impl_axioms_5, g]
  refine LP2 (fun d vs h' => ∃ j : Nat, d = n - j ∧ i + j ≤ n ∧ h' = h6 ∧ vs = [.func (.func n_impl_defectsOf_c1) #[] #[.pointer (some ⟨bd, 0, none⟩), .pointer (some ⟨bf, 0, none⟩), .pointer (some ⟨bp, 0, none⟩)], i6 ((n : Int) - 1), i6 i, i6 j] ∧ ∀ b c, b < j → i + b + c < n → AssL m n T i b c = AssR m n T i b c) ?_ _ _ _ ⟨0, rfl, by omega, rfl, rfl, by omega⟩
  rintro d vs h7 ⟨j, rfl, hj, rfl, rfl, hB⟩ K3 K4 K5 hK3 hK4 hK5
  refine wl_impl_axioms_4 ?_
  have wij := wrapI (n := (i : Int) + j) (by omega) (by omega)
  by_cases hlt2 : i + j < n
  case neg =>
    have g2 : ¬ (i : Int) + j ≤ (n : Int) - 1 := by omega
    simp [q_impl_axioms_4, g2, wij]
    refine hK4 _ _ fun e he => ?_
    simp at he
    simp [he, wrapI (n := (i : Int) + 1) (by omega) (by omega)]
    refine hK _ _ _ (by omega) ⟨i + 1, rfl, by omega, rfl, rfl, fun a b c h1 h2 => ?_⟩
    by_cases h : a = i
    · subst h; exact hB b c (by omega) h2
    · exact hA a b c (by omega) h2
  have g2 : (i : Int) + j ≤ (n : Int) - 1 := by omega
  simp [q_impl_axioms_4, g2, wij]
  refine LP2 (fun d vs h' => ∃ l : Nat, d = n - l ∧ i + j + l ≤ n ∧ h' = h7 ∧ vs = [.func (.func n_impl_defectsOf_c1) #[] #[.pointer (some ⟨bd, 0, none⟩), .pointer (some ⟨bf, 0, none⟩), .pointer (some ⟨bp, 0, none⟩)], i6 ((n : Int) - 1), i6 i, i6 j, i6 l] ∧ ∀ c, c < l → i + j + c < n → AssL m n T i j c = AssR m n T i j c) ?_ _ _ _ ⟨0, rfl, by omega, rfl, rfl, by omega⟩
  rintro d vs h8 ⟨l, rfl, hl, rfl, rfl, hC⟩ K6 K7 K8 hK6 hK7 hK8
  refine wl_impl_axioms_3 ?_
  have wijl := wrapI (n := (i : Int) + j + l) (by omega) (by omega)
  by_cases hlt3 : i + j + l < n
  case neg =>
    have g3 : ¬ (i : Int) + j + l ≤ (n : Int) - 1 := by omega
    simp [q_impl_axioms_3, g3, wij, wijl]
    refine hK7 _ _ fun e he => ?_
    simp at he
    simp [he, wrapI (n := (j : Int) + 1) (by omega) (by omega)]
    refine hK3 _ _ _ (by omega) ⟨j + 1, rfl, by omega, rfl, rfl, fun b c h1 h2 => ?_⟩
    by_cases h : b = j
    · subst h; exact hC c (by omega) h2
    · exact hB b c (by omega) h2
  have g3 : (i : Int) + j + l ≤ (n : Int) - 1 := by omega
  simp [q_impl_axioms_3, g3, wij, wijl]
  refine s_impl_defects D5 hN hr hm hm2 hN1 hN2 hlt3 ?_
  have hiff := ass_iff hm hN (b := j) (c := l) (hr i hlt).1 hlt3
  by_cases hc : AssL m n T i j l = AssR m n T i j l
  · have hc' := hiff.1 hc
    simp [hc', wrapI (n := (l : Int) + 1) (by omega) (by omega)]
    refine hK6 _ _ _ (by omega) ⟨l + 1, rfl, by omega, rfl, rfl, fun c h1 h2 => ?_⟩
    by_cases h : c = l
    · subst h; exact hc
    · exact hC c (by omega) h2
  · have hc' : ¬ (dL m n T i j l (n - l) - dR m n T i j l (n - i)) % m = 0 := fun h => hc (hiff.2 h)
    simp only [bin_neq, bindO_some, hc', decide_false, Bool.not_false, condM_true, i6]
    simp [rowV, rowFill, reps]
    refine newB_i fun b9 h9 eb9 en9 eh9 eB9 => ?_
    refine hK8 _ _ fun e he => ?_
    simp at he
    refine hK5 _ _ fun e2 he2 => ?_
    simp at he2
    refine hK2 _ _ fun e3 he3 => ?_
    simp at he3
    rw [he3, he2, he]
    exact hR _ _ _ _ (E5.trans eh9) ⟨fun h => (by cases h), fun h => (hc (h.2.2 i j l (by omega))).elim⟩

open Classical in
theorem s_impl_IsLaw {m : Int} {A : Option Addr} {Rr : Nat → Option Addr} {T : List (List Int)} {n c : Nat} {h : Hp} {R : Value → Hp → Prop} (hT : RT h A Rr T) (hn : n = T.length) (hl : n ≤ 1000000) (hrl : ∀ i, i < T.length → (row T i).length ≤ 1000000)
    (hR : ∀ h', HE h h' → R (.bool (decide (LawT m T))) h') : CallW FF n_impl_IsLaw [sv m A n c] h R := by
  subst hn
  refine w_impl_IsLaw ?_
  simp [p_impl_IsLaw]
  refine newB_i fun b h1 eb en eh eB => ?_
  have bx := box2 eB
  simp [bx]
  refine s_impl_IsPlane (hT.mono eh) rfl hl hrl fun h2 e2 => ?_
  have bx := box2 (e2.to eB (by omega))
  by_cases hp : IsP m T
  · have hp2 := hp
    obtain ⟨q1, q2, q3⟩ := hp2
    simp [hp, bx]
    refine s_impl_axioms (hT.mono (eh.trans e2)) rfl rfl q3 (by omega) (by omega) (by omega) (by omega) fun h3 A' n' c' e3 hi => ?_
    have : (LawT m T) ↔ A' = none := ⟨fun h => hi.2 h.2, fun h => ⟨hp, hi.1 h⟩⟩
    have h4 := hR _ ((eh.trans e2).trans e3)
    cases A' with
    | none => simpa [this] using h4
    | some a => simpa [this] using h4
  · have : ¬ LawT m T := fun h => hp h.1
    have h4 := hR _ (eh.trans e2)
    simpa [hp, this] using h4

/-! tests of lists of series -/
theorem s_IndexFuncS {A : Option Addr} {L : List Ser} {n c : Nat} {fv : Value} {p : Ser → Bool} {h : Hp} {R : Value → Hp → Prop} (hr : RS h A L) (hn : n = L.length) (hl : n ≤ 1000000) (hf : ∀ x ∈ L, FnB h fv (sv x.m x.A x.xs.length x.c) (p x))
    (hR : ∀ h' k, HE h h' → (0 ≤ k ↔ ∃ x ∈ L, p x = true) → R (i6 k) h') : CallW FF n_slices_IndexFunc_Limpl_Series_impl_Series [.slice A n c, fv] h R := by
  subst hn
  refine w_slices_IndexFunc_Limpl_Series_impl_Series ?_
  simp [p_slices_IndexFunc_Limpl_Series_impl_Series]
  refine LP2 (fun d vs h' => ∃ i : Nat, d = L.length - i ∧ i ≤ L.length ∧ HE h h' ∧ vs = [.slice A L.length c, fv, i6 L.length, i6 i] ∧ ∀ j (hj : j < L.length), j < i → p L[j] = false) ?_ _ _ _ ⟨0, rfl, by omega, HE.refl _, rfl, fun j _ hj => by omega⟩
  rintro d vs h1 ⟨i, rfl, hi, e1, rfl, hF⟩ K K1 K2 hK hK1 hK2
  refine wl_slices_IndexFunc_Limpl_Series_impl_Series_0 ?_
  by_cases hlt : i < L.length
  · have r := (hr.mono e1).at c (e := i) rfl rfl (List.getElem?_eq_getElem hlt)
    simp [q_slices_IndexFunc_Limpl_Series_impl_Series_0, hlt, r]
    refine hf _ (List.getElem_mem hlt) _ _ e1 fun h2 e2 => ?_
    cases hp : p L[i] with
    | true =>
      simp
      refine hK2 _ _ fun e he => ?_
      simp at he; rw [he]
      exact hR _ _ (e1.trans e2) ⟨fun _ => ⟨_, List.getElem_mem hlt, hp⟩, fun _ => by omega⟩
    | false =>
      simp [wrapI (n := (i : Int) + 1) (by omega) (by omega)]
      exact hK _ _ _ (by omega) ⟨i + 1, rfl, by omega, e1.trans e2, rfl, fun j hj hji => by
        by_cases h : j = i
        · subst h; exact hp
        · exact hF j hj (by omega)⟩
  · simp [q_slices_IndexFunc_Limpl_Series_impl_Series_0, hlt]
    refine hK1 _ _ fun e => hR _ _ e1 ⟨fun h => by omega, fun ⟨x, hx, hp⟩ => ?_⟩
    obtain ⟨j, hj, rfl⟩ := List.getElem_of_mem hx
    have := hF j hj (by omega)
    rw [hp] at this; cases this

theorem s_allS {A : Option Addr} {L : List Ser} {n c : Nat} {g : FuncId} {fs cs : Array Value} {p : Ser → Bool} {h : Hp} {R : Value → Hp → Prop} (hr : RS h A L) (hn : n = L.length) (hl : n ≤ 1000000) (hf : ∀ x ∈ L, FnB h (.func (.func g) fs cs) (sv x.m x.A x.xs.length x.c) (p x))
    (hR : ∀ h', HE h h' → R (.bool (L.all p)) h') : CallW FF n_impl_all_impl_Series [.slice A n c, .func (.func g) fs cs] h R := by
  refine w_impl_all_impl_Series ?_
  simp [p_impl_all_impl_Series]
  refine newB_i fun b h1 eb en eh eB => ?_
  refine w_slices_ContainsFunc_Limpl_Series_impl_Series ?_
  refine s_IndexFuncS (p := fun x => !p x) (hr.mono eh) hn hl ?_ ?_
  · intro x hx h2 R2 e2 hR2
    simp
    refine w_impl_all_impl_Series__c1 ?_
    simp [p_impl_all_impl_Series__c1]
    refine newB_i fun b3 h3 eb3 en3 eh3 eB3 => ?_
    have E3 := e2.trans eh3
    simp only [box1 (E3.to eB (by omega)), bindO_some, box2 eB3]
    refine hf x hx _ _ (eh.trans E3) fun h4 e4 => ?_
    simp
    exact hR2 _ (eh3.trans e4)
  · intro h2 k e2 hk
    simp
    have : (L.all p) = !decide (0 ≤ k) := by
      rw [Bool.eq_iff_iff]
      simp only [List.all_eq_true, Bool.not_eq_true', decide_eq_false_iff_not]
      rw [hk]
      constructor
      · rintro h ⟨x, hx, hp⟩; have := h x hx; simp [this] at hp
      · intro h x hx
        cases hp : p x with
        | true => rfl
        | false => exact (h ⟨x, hx, by simp [hp]⟩).elim
    have h3 := hR _ (eh.trans e2)
    rw [this] at h3; simpa using h3
end XM
