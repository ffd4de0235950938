/- What is proved at the end: for every input FnMultiples returns true and its argument reads as it did; without condition. Part 7 of 7. -/
import Derived.Test.YtannhbjgabcjgaaGreatXf
import Derived.Below
import Derived.Test.YtannhbjgabcjgaaGreatRows
import Derived.WalkKit
import Derived.ProofKit
import Derived.OpenShut
import Derived.ShutString
import Derived.ChangeOld
import Derived.SizedLaws

/- From a run of the abstract machine over a slice of bytes to a call of the model. -/
namespace XM
open Go

/-- The cells behind a slice of bytes. -/
def IsRow (w : World) (a : Option Addr) (len cap : Nat) (zs : List Int) : Prop :=
  (a = none ∧ len = 0 ∧ cap = 0 ∧ zs = []) ∨
  ∃ x, a = some x ∧ len ≤ cap ∧ cap ≤ maxLen ∧ zs.length = cap ∧ (∀ i, i < zs.length → w.cell? (x.add i) = some (.int .u8 (zs.getD i 0))) ∧ ∀ n ∈ zs, (Lit.int .u8 n).wf = true

theorem bytes_of {zs : List Int} (h : ∀ n ∈ zs, (Lit.int .u8 n).wf = true) (k : Nat) : Bytes ((zs.take k).map fun z => .int .u8 z) := by
  intro i v hv
  rw [List.getElem?_map, Option.map_eq_some_iff] at hv
  obtain ⟨z, hz, rfl⟩ := hv
  have hm : z ∈ zs := List.mem_of_mem_take (List.mem_of_getElem? hz)
  have hw := h z hm
  have e1 : IntKind.u8.min = 0 := by decide
  have e2 : IntKind.u8.max = 255 := by decide
  simp only [Lit.wf, e1, e2, Bool.and_eq_true, decide_eq_true_eq] at hw
  exact ⟨z, hw.1, by omega, rfl⟩

theorem bytes_run {P : Program} (hm : P.follows .mixedOrders = true) {f : FuncId}
    (hrun : ∀ (h : Hp) (CA : Option Addr) (vs : List Value) (n c : Nat), RV h CA vs → n = vs.length → Bytes vs → CallW (compiled P) f [.slice CA n c] h fun v _ => v = .bool true)
    {w : World} {a : Option Addr} {len cap : Nat} {zs : List Int} (hr : IsRow w a len cap zs) :
    Calls P f #[.slice a len cap] w fun e w' => e = .returned (.bool true) ∧ Go.RowKit.Below w.heap.size w w' := by
  have fin : ∀ (ρ : Ren) (h : Hp) (CA : Option Addr), (∀ b x, h.bk b = some x → x.rw = false) → HR ρ (live h) w → (∀ b, h.nx ≤ b → ρ b = none) → WF h →
      VR ρ (.slice CA len 1) (.slice a len cap) → (∃ vs : List Value, RV h CA vs ∧ len = vs.length ∧ Bytes vs) →
      Calls P f #[.slice a len cap] w fun e w' => e = .returned (.bool true) ∧ Go.RowKit.Below w.heap.size w w' := by
    rintro ρ h CA hro hH hfr hwf hv ⟨vs, h1, h2, h3⟩
    obtain ⟨v, h', hev, rfl⟩ := hrun h CA vs len 1 h1 h2 h3
    refine ((call_sound hm (hev fun _ => undef)).2 ρ w [.slice a len cap] (LR.cons hv (LR.nil ρ)) hH (fun b hb _ => hfr b hb) hwf).mono ?_
    rintro e w1 ⟨v', ρ', rfl, hv', _, hE⟩
    cases hv'
    exact ⟨rfl, hE.same.1, hE.same.2.1, hE.same.2.2, hE.size, fun k hk => hE.frame k hk fun _ b x L hx hrw _ => by rw [hro b x hx] at hrw; cases hrw⟩
  have nil : len = 0 → cap = 0 → Calls P f #[.slice a len cap] w fun e w' => e = .returned (.bool true) ∧ Go.RowKit.Below w.heap.size w w' := by
    rintro rfl rfl
    refine fin (fun _ => none) ⟨fun _ => none, 0⟩ (a.map fun _ => ⟨0, 0, none⟩) (fun b x (hx : none = some x) => nomatch hx) ⟨fun b x (hx : none = some x) => (nomatch hx), fun b1 x1 b2 x2 L1 L2 (h1 : none = some x1) => (nomatch h1), fun b x (hx : none = some x) => nomatch hx⟩
      (fun _ _ => rfl) (fun _ _ => rfl) (.sliceZ (by cases a <;> rfl)) ⟨[], fun hl => absurd hl (by simp), rfl, fun i v hv => by simp at hv⟩
  rcases hr with ⟨rfl, rfl, rfl, rfl⟩ | ⟨x, rfl, hl, hm2, hz, hcell, hwz⟩
  · exact nil rfl rfl
  · rcases Nat.eq_zero_or_pos cap with h0 | hpos
    · exact nil (by omega) h0
    · have c0 := hcell 0 (by omega)
      have hadd : x.add 0 = x := rfl
      rw [hadd] at c0
      have hsp : x.spot = none := by
        cases hs : x.spot with
        | none => rfl
        | some s =>
          unfold World.cell? at c0
          rw [hs] at c0
          split at c0 <;> simp at c0
      have hlt : x.block < w.heap.size := by
        rcases Nat.lt_or_ge x.block w.heap.size with h | h
        · exact h
        · unfold World.cell? at c0; rw [Array.getElem?_eq_none h] at c0; cases c0
      have hx : ∀ i, x.add i = ⟨x.block, x.off + i, none⟩ := by
        intro i
        unfold Addr.add
        split
        · rename_i h; subst h; cases x; simp_all
        · rfl
      have hbk : ∀ {b : Nat} {y : Blk}, (if b = 0 then some (⟨zs.map fun z => .int .u8 z, 0, false⟩ : Blk) else none) = some y → b = 0 ∧ y = ⟨zs.map fun z => .int .u8 z, 0, false⟩ := by
        intro b y h
        split at h
        · cases h; exact ⟨by assumption, rfl⟩
        · cases h
      have hxe : x = ⟨x.block, x.off + 0, none⟩ := by cases x; simp_all
      refine fin (fun b => if b = 0 then some ⟨x.block, x.off, 0, false⟩ else none) ⟨fun b => if b = 0 then some ⟨zs.map fun z => .int .u8 z, 0, false⟩ else none, 1⟩ (some ⟨0, 0, none⟩) (fun b y hy => by
          rw [(hbk hy).2]) ⟨fun b y hy => ?_, fun b1 x1 b2 x2 L1 L2 h1 _ hrw => ?_, fun b y hy => ?_⟩ (fun b hb => by rw [if_neg (by simp at hb; omega)]) (fun b hb => by simp only; rw [if_neg (by simp at hb; omega)]) ?_
        ⟨(zs.take len).map fun z => .int .u8 z, fun _ => ⟨0, 0, _, rfl, by simp, rfl, fun i v hv => ?_⟩, by simp; omega, bytes_of hwz len⟩
      · obtain ⟨rfl, rfl⟩ := hbk hy
        refine ⟨⟨x.block, x.off, 0, false⟩, rfl, hlt, rfl, fun i v hv => ?_, fun h => by cases h⟩
        simp only [List.getElem?_map, Option.map_eq_some_iff] at hv
        obtain ⟨z, hz1, rfl⟩ := hv
        have hi : i < zs.length := (List.getElem?_eq_some_iff.1 hz1).1
        have := hcell i hi
        rw [hx i, List.getD_eq_getElem?_getD, hz1] at this
        exact ⟨_, this, .int _ _⟩
      · obtain ⟨rfl, rfl⟩ := hbk h1; cases hrw
      · obtain ⟨rfl, rfl⟩ := hbk hy
        rw [List.all_eq_true]
        intro v hv
        simp only [List.mem_map] at hv
        obtain ⟨z, _, rfl⟩ := hv
        rfl
      · rw [hxe]
        exact VR.slice (L := ⟨x.block, x.off, 0, false⟩) rfl hl (fun h => by cases h)
      · rw [List.getElem?_map, Option.map_eq_some_iff] at hv
        obtain ⟨z, hz1, rfl⟩ := hv
        have hi := (List.getElem?_eq_some_iff.1 hz1).1
        rw [List.getElem?_take] at hz1
        split at hz1
        · simp only [Nat.zero_add, List.getElem?_map, hz1, Option.map_some]
        · cases hz1

end XM

/- The row FnMultiplesSaid. -/
namespace Go.Proofs.YtannhbjgabcjgaaGreat.fnMultiples
open Go.ChangeShapes Go.WideShapes Go.ChangeAt Go.RowKit
set_option linter.unusedVariables false
theorem own : ownKnob Tryz.prog.godebug = none := by kernel_rfl
theorem laidOut : laidOutB Tryz.prog = true := by kernel_rfl
theorem mixed : Tryz.prog.follows .mixedOrders = true := by kernel_rfl
set_option maxRecDepth 100000 in
theorem lifted (os : Os) (started : os.Started) (H : Type) (enc : TypeId × Value → H) :
    ReturnsInHanded {} Tryz.checked os 3 .any (Rows.fnMultiplesSpec.pre6 enc Tryz.prog Tryz.f3 Rows.fnMultiplesRow.domain false) (Rows.fnMultiplesSpec.post enc Tryz.prog Tryz.f3 false true false false) := by
  refine returnsInHanded_of_change_sized (C := Tryz.checked) own started (by kernel_rfl) Tryz.func3
    (ChangeSpec.witness6 (enc := enc) (C := Tryz.checked) false ⟨#[], #[.slice none 0 0], []⟩ 8 (by kernel_rfl) (by kernel_rfl) (by kernel_rfl) (by kernel_rfl)) ?_
  intro W base args ds gs before hval0 hW hcnd hsz0 _
  have hval : ∀ (j : Nat) t v, Tryz.f3.params[j]? = some t → args[j]? = some v → Value.okWide Tryz.prog W .any base t v := hval0
  have hW' := hW
  obtain ⟨p, q, hA0, hV, rfl, hfz, hnd⟩ := hW
  have hA : DataW.TrodAll enc Tryz.prog W 0 (fun _ => true) true Tryz.f3.params.toList args.toList ds p := hA0
  rw [Tryz.params3] at hA hval
  obtain ⟨v0, vs0, d0, ds0, p0, q0, hargs, rfl, rfl, h0, r0⟩ := trodAll_cons hA
  obtain ⟨rfl, rfl, rfl⟩ := trodAll_nil r0
  obtain rfl : args = #[v0] := by cases args; simp_all
  obtain ⟨rfl, rfl⟩ := trodVars_none hV
  obtain ⟨a0, len0, cap0, rfl⟩ := okWide_slice Tryz.underlying22 (hval 0 22 v0 rfl rfl)
  have k0 := h0
  have lt0 : ∀ x ∈ p0, x.block < W.heap.size := by obtain ⟨m, hm⟩ := k0; exact DataW.trod_lt m _ _ _ hm
  obtain ⟨z0, w0⟩ : ∃ zs, XM.IsRow W a0 len0 cap0 zs := by
    obtain ⟨fuel, hf⟩ := h0
    rcases open_ints Tryz.underlying22 Tryz.underlying5 (by kernel_rfl) hf with ⟨hcs, _⟩ | ⟨x, l, c, zs, hcs, _, hl, hm, hz, _, hcell, hwz⟩
    · simp [Value.cells] at hcs
      obtain ⟨rfl, rfl, rfl⟩ := hcs
      exact ⟨[], .inl ⟨rfl, rfl, rfl, rfl⟩⟩
    · simp [Value.cells] at hcs
      obtain ⟨rfl, rfl, rfl⟩ := hcs
      exact ⟨zs, .inr ⟨_, rfl, hl, hm, by simpa using hz, hcell, hwz⟩⟩
  clear hA0 hval0 hsz0
  refine (XM.bytes_run (P := Tryz.prog) (f := 3) mixed (fun h CA vs n c h1 h2 h3 => XM.s_laws_FnMultiples h1 h2 h3 fun _ _ => rfl) w0).mono fun e W' ⟨he, bel⟩ => ?_
  subst he
  exact ⟨_, rfl, _, _, _, [], _, [], hW', trodAll_mk1 (shut_bool Tryz.underlying4 _), (trodAll_cons_mk (Below.trod laidOut (by kernel_rfl) (of_decide_eq_true (by kernel_rfl)) k0 bel lt0) trodAll_mk0), rfl, bel.frame _, fun h => by cases h⟩
theorem over : Rows.fnMultiplesRow.holds Tryz.pinned (OpenSpec.ofChange Rows.fnMultiplesSpec) :=
  OpenClaim.holds_of_wide 3 Tryz.f3 rfl rfl rfl rfl rfl rfl rfl ⟨rfl, rfl, rfl, rfl, rfl⟩ rfl rfl rfl rfl rfl (by kernel_rfl) Tryz.func3 (by kernel_rfl)
    (of_decide_eq_true (by kernel_rfl)) (by unfold Func.isWrapper; first | (rw [if_pos (by decide +kernel)]; kernel_rfl) | (rw [if_neg (by decide +kernel)]; exact ⟨rfl, rfl⟩))
    (fun os started H enc _ => lifted os started H enc)
theorem proved : Rows.FnMultiplesSaid := over
end Go.Proofs.YtannhbjgabcjgaaGreat.fnMultiples
namespace Go.Proofs.YtannhbjgabcjgaaGreat
/-- The row, under a short name, for the claim. -/
theorem fnMultiples_holds : Rows.FnMultiplesSaid := fnMultiples.proved
end Go.Proofs.YtannhbjgabcjgaaGreat
