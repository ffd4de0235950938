/- What is proved at the end: for every input FnPointSums returns true and its argument reads as it did; without condition. Part 2 of 7. -/
import Derived.Test.YtiicfnongikeeaaGreatXa
import Derived.KernelRfl
import Derived.Test.YtiicfnongikeeaaGreatProg

set_option linter.unusedSimpArgs false
set_option linter.unusedVariables false
/- The code of the abstract machine with remarks for the proofs, and what it comes to as a formula that computes. -/
namespace XM
open Go

/-- Code with remarks: which temporaries a loop reads and leaves, by which exits it ends, and where two ways join. -/
inductive YC where
  | skip
  | region (held : Bool) (ops : List XOper)
  | regionG (ops : List XOper)
  | seq (a b : YC)
  | join (ins : List Nat) (a b : YC)
  | cond (c : XO) (a b : YC)
  | block (id : Nat) (b : YC)
  | loop (ins : List Nat) (xs : List (Exit × List Nat)) (b : YC)
  | exit (id : Nat)
  | ret

def YC.er : YC → XC
  | .skip => .skip
  | .region held ops => .region held ops
  | .regionG ops => .region true ops
  | .seq a b => .seq a.er b.er
  | .join _ a b => .seq a.er b.er
  | .cond c a b => .cond c a.er b.er
  | .block id b => .block id b.er
  | .loop _ _ b => .loop b.er
  | .exit id => .exit id
  | .ret => .ret

def condM (v : Value) (A B : Prop) : Prop :=
  match v with
  | .bool true => A
  | .bool false => B
  | _ => False
structure newB (h : Hp) (x : Blk) (K : Nat → Hp → Prop) : Prop where
  ok : K h.nx (h.new x)
def bindVH (o : Option (Value × Hp)) (K : Value → Hp → Prop) : Prop :=
  match o with
  | some p => K p.1 p.2
  | none => False
def boxV (w : Nat) (v : Value) : Option (List Value) := if v.cells.toList.length = w ∧ v.cells.toList.all one = true then some v.cells.toList else none
def makN : Value → Option Nat
  | .int _ i => if 0 ≤ i ∧ i ≤ sizeMax then some i.toNat else none
  | _ => none
def rowV (w l : Nat) (z : List Value) (ps : List (Nat × Value)) : Option (List Value) := (rowFill w (reps l z) ps).bind fun cs => if cs.all one = true then some cs else none
def inP (P : Nat → Prop) : Value → Prop
  | .pointer (some a) => P a.block
  | _ => True
def inB (n : Nat) : Value → Prop := inP fun b => b < n
def keepP (P : Nat → Prop) (h h' : Hp) : Prop := ∀ b, P b → h'.bk b = h.bk b
def keepB (n : Nat) (h h' : Hp) : Prop := ∀ b, b < n → h'.bk b = h.bk b

def exEq : Exit → Exit → Bool
  | .exit a, .exit b => Nat.beq a b
  | .ret, .ret => true
  | _, _ => false
abbrev Kont := List Value → Hp → Prop
def sel : List (Exit × List Nat × Kont) → Exit → St → Prop
  | [], _ => fun _ => False
  | (x, o, K) :: r, y => match exEq x y with | true => fun s => K (o.map s.env) s.h | false => sel r y

/-- What two ways come to where they join. -/
def JN (A : Kont → Prop) (B : Kont) : Prop := ∃ K : Kont, (∀ vs h, K vs h → B vs h) ∧ A K

section
variable (F : FuncId → Option XFunc)

def VP (p : XP) (d : Option Nat) (Q : St → Prop) (s : St) : Prop :=
  match p with
  | .move x => Q ⟨put s.env d (x.ev s.env), s.h⟩
  | .pick c a b => condM (c.ev s.env) (Q ⟨put s.env d (a.ev s.env), s.h⟩) (Q ⟨put s.env d (b.ev s.env), s.h⟩)
  | .mkfunc f first caps => Q ⟨put s.env d (.func (.func f) (first.map (·.ev s.env)).toArray (caps.map (·.ev s.env)).toArray), s.h⟩
  | p => bindO (p.ev s.env) fun v => Q ⟨put s.env d v, s.h⟩

def VK (k : XK) (d : Option Nat) (Q : St → Prop) (s : St) : Prop :=
  match k with
  | .p p => VP p d Q s
  | .load sz g x => bindO (ldV sz g s.h (x.ev s.env)) fun v => Q ⟨put s.env d v, s.h⟩
  | .box e w x => bindO (boxV w (x.ev s.env)) fun cs => newB s.h ⟨cs, e, true⟩ fun b h' => Q ⟨put s.env d (.pointer (some ⟨b, 0, none⟩)), h'⟩
  | .mkrow e w l z ps => bindO (rowV w l z (ps.map fun q => (q.1, q.2.ev s.env))) fun cs => newB s.h ⟨cs, e, true⟩ fun b h' => Q ⟨put s.env d (.slice (some ⟨b, 0, none⟩) l w), h'⟩
  | .make e w _ z n => bindO (makN (n.ev s.env)) fun n => newB s.h ⟨reps n z, e, true⟩ fun b h' => Q ⟨put s.env d (.slice (some ⟨b, 0, none⟩) n w), h'⟩
  | .store sz x v => bindO (storeV sz s.h (v.ev s.env) (x.ev s.env)) fun h' => Q ⟨put s.env d undef, h'⟩
  | .append e w _ t x => bindVH (appendV e w s.h (t.ev s.env) (x.ev s.env)) fun v h' => Q ⟨put s.env d v, h'⟩
  | .copy e w t x => bindVH (copyV e w s.h (t.ev s.env) (x.ev s.env)) fun v h' => Q ⟨put s.env d v, h'⟩
  | .call f args => CallV F (f.ev s.env) (args.map (·.ev s.env)) s.h fun v h' => Q ⟨put s.env d v, h'⟩

/-- In a region that is held: loads are of old blocks, and old blocks are kept. -/
def VKK (P : Nat → Prop) (k : XK) (d : Option Nat) (Q : St → Prop) (s : St) : Prop :=
  match k with
  | .load sz g x => inP P (x.ev s.env) ∧ bindO (ldV sz g s.h (x.ev s.env)) fun v => Q ⟨put s.env d v, s.h⟩
  | .store sz x v => bindO (storeV sz s.h (v.ev s.env) (x.ev s.env)) fun h' => keepP P s.h h' ∧ Q ⟨put s.env d undef, h'⟩
  | .append e w _ t x => bindVH (appendV e w s.h (t.ev s.env) (x.ev s.env)) fun v h' => keepP P s.h h' ∧ Q ⟨put s.env d v, h'⟩
  | .copy e w t x => bindVH (copyV e w s.h (t.ev s.env) (x.ev s.env)) fun v h' => keepP P s.h h' ∧ Q ⟨put s.env d v, h'⟩
  | .call f args => CallV F (f.ev s.env) (args.map (·.ev s.env)) s.h fun v h' => keepP P s.h h' ∧ Q ⟨put s.env d v, h'⟩
  | k => VK F k d Q s

def VG (A : (St → Prop) → St → Prop) (d : Option Nat) (g : Option (Nat × Bool)) (Q : St → Prop) (s : St) : Prop :=
  match g with
  | none => A Q s
  | some (g, true) => condM (s.env g) (A Q ⟨put s.env (some g) (.bool true), s.h⟩) (Q ⟨put (put s.env (some g) (.bool false)) d undef, s.h⟩)
  | some (g, false) => condM (s.env g) (Q ⟨put (put s.env (some g) (.bool true)) d undef, s.h⟩) (A Q ⟨put s.env (some g) (.bool false), s.h⟩)

def VOps : List XOper → (St → Prop) → St → Prop
  | [], Q, s => Q s
  | ⟨d, k, g, _⟩ :: r, Q, s => VG (fun Q s => VK F k d Q s) d g (fun s' => VOps r Q s') s

/-- An operation of such a region, which may be of those that matter. -/
def VKc (P : Nat → Prop) (k : XK) (d : Option Nat) (c : Bool) (Q : St → Prop) (s : St) : Prop :=
  match c with
  | true => VKK F P k d Q s
  | false => VK F k d Q s

def VOpsK (P : Nat → Prop) : List XOper → (St → Prop) → St → Prop
  | [], Q, s => Q s
  | ⟨d, k, g, c⟩ :: r, Q, s => VG (VKc F P k d c) d g (fun s' => VOpsK P r Q s') s

/-- A loop, from the values of the temporaries it reads to those it leaves. -/
def LP (b : XC) (ins : List Nat) (Ks : List (Exit × List Nat × Kont)) (vs : List Value) (h : Hp) : Prop :=
  ∀ e : Env, ins.map e = vs → LoopW F b (fun x s => sel Ks x s) ⟨e, h⟩

def V : YC → (Exit → St → Prop) → St → Prop
  | .skip, Q, s => Q .normal s
  | .region false ops, Q, s => VOps F ops (Q .normal) s
  | .region true ops, Q, s => VOpsK F (fun b => b < s.h.nx) ops (Q .normal) s
  | .regionG ops, Q, s => ∃ P : Nat → Prop, (∀ b, P b → b < s.h.nx) ∧ VOpsK F P ops (Q .normal) s
  | .seq a b, Q, s => V a (thenW (V b Q) Q) s
  | .join ins a b, Q, s => JN (fun K => V a (thenW (fun s' => K (ins.map s'.env) s'.h) Q) s) (fun vs h' => ∀ e' : Env, ins.map e' = vs → V b Q ⟨e', h'⟩)
  | .cond c a b, Q, s => condM (c.ev s.env) (V a Q s) (V b Q s)
  | .block id b, Q, s => V b (fun x s' => Q (catchX id x) s') s
  | .loop ins xs b, Q, s => LP F b.er ins (xs.map fun x => (x.1, x.2, fun vs h' => ∀ e' : Env, x.2.map e' = vs → Q x.1 ⟨e', h'⟩)) (ins.map s.env) s.h
  | .exit id, Q, s => Q (.exit id) s
  | .ret, Q, s => Q .ret s

/-- How a round of a loop ends. -/
def qsel (ins : List Nat) (K : Kont) (Ks : List (Exit × List Nat × Kont)) (x : Exit) (s : St) : Prop :=
  match x with
  | .normal => K (ins.map s.env) s.h
  | x => sel Ks x s
def resC (e : Env) (h : Hp) : List XR → (List Value → Prop) → Prop
  | [], K => K []
  | .tmp t :: r, K => resC e h r fun vs => K (e t :: vs)
  | .cell t sz g :: r, K => bindO (ldV sz g h (e t)) fun v => resC e h r fun vs => K (v :: vs)
def tupV : List Value → Value
  | [v] => v
  | vs => .tuple vs.toArray
/-- How a function ends. -/
def finV (res : List XR) (R : Value → Hp → Prop) (x : Exit) (s : St) : Prop :=
  match x with
  | .normal => resC s.env s.h res fun vs => R (tupV vs) s.h
  | .ret => resC s.env s.h res fun vs => R (tupV vs) s.h
  | _ => False
end

theorem put_same {e : Env} {g : Nat} {v : Value} (h : e g = v) : put e (some g) v = e := by
  funext t; rw [put_app]; split
  · rename_i ht; rw [ht, h]
  · rfl

theorem condM_cases {v : Value} {A B : Prop} (h : condM v A B) : (v = .bool true ∧ A) ∨ (v = .bool false ∧ B) := by
  unfold condM at h; split at h
  · exact .inl ⟨rfl, h⟩
  · exact .inr ⟨rfl, h⟩
  · exact h.elim

theorem bindO_some_iff {α : Type} {o : Option α} {K : α → Prop} : bindO o K ↔ ∃ v, o = some v ∧ K v := by rw [← ex_bindO]

section
variable {F : FuncId → Option XFunc}

theorem VP_W {p : XP} {d : Option Nat} {Q : St → Prop} {s : St} (h : VP p d Q s) : ∃ v, p.ev s.env = some v ∧ Q ⟨put s.env d v, s.h⟩ := by
  cases p with
  | move x => exact ⟨_, rfl, h⟩
  | pick c a b =>
    rcases condM_cases h with ⟨h1, h2⟩ | ⟨h1, h2⟩
    · exact ⟨_, by rw [ev_pick, h1]; rfl, h2⟩
    · exact ⟨_, by rw [ev_pick, h1]; rfl, h2⟩
  | mkfunc f first caps => exact ⟨_, rfl, h⟩
  | _ => exact bindO_some_iff.1 h

theorem VK_W {k : XK} {d : Option Nat} {Q Q' : St → Prop} {s : St} (h : VK F k d Q s) (hq : ∀ s', Q s' → Q' s') : WK F k d Q' s := by
  cases k with
  | p p => obtain ⟨v, h1, h2⟩ := VP_W h; exact ⟨v, h1, hq _ h2⟩
  | load sz g x => rw [WK_load]; obtain ⟨v, h1, h2⟩ := bindO_some_iff.1 h; exact bindO_some_iff.2 ⟨v, h1, hq _ h2⟩
  | box e w x =>
    rw [WK_box]; obtain ⟨cs, h1, h2⟩ := bindO_some_iff.1 h
    unfold boxV at h1; split at h1
    · rename_i hc; cases h1; exact ⟨hc, hq _ h2.ok⟩
    · cases h1
  | mkrow e w l z ps =>
    rw [WK_mkrow]; obtain ⟨cs, h1, h2⟩ := bindO_some_iff.1 h
    unfold rowV at h1
    obtain ⟨cs', h3, h4⟩ := Option.bind_eq_some_iff.1 h1
    split at h4
    · rename_i ho; cases h4; exact bindO_some_iff.2 ⟨_, h3, ho, hq _ h2.ok⟩
    · cases h4
  | make e w b z n =>
    rw [WK_make]; obtain ⟨n', h1, h2⟩ := bindO_some_iff.1 h
    unfold makN at h1; split at h1
    · rename_i kk i hn
      split at h1
      · rename_i hc; cases h1
        refine bindO_some_iff.2 ⟨(.slice (some ⟨s.h.nx, 0, none⟩) i.toNat w, s.h.new ⟨reps i.toNat z, e, true⟩), ?_, hq _ h2.ok⟩
        rw [hn]; exact if_pos hc
      · cases h1
    · cases h1
  | store sz x v => rw [WK_store]; obtain ⟨v, h1, h2⟩ := bindO_some_iff.1 h; exact bindO_some_iff.2 ⟨v, h1, hq _ h2⟩
  | append e w b t x =>
    rw [WK_append]
    unfold VK bindVH at h; simp only at h
    split at h
    · rename_i p hp; exact bindO_some_iff.2 ⟨p, hp, hq _ h⟩
    · exact h.elim
  | copy e w t x =>
    rw [WK_copy]
    unfold VK bindVH at h; simp only at h
    split at h
    · rename_i p hp; exact bindO_some_iff.2 ⟨p, hp, hq _ h⟩
    · exact h.elim
  | call f args =>
    unfold VK CallV at h; unfold WK CallV; simp only at h ⊢
    split at h
    · rename_i g first caps hf; exact h.mono fun v h' hh => hq _ hh
    · exact h.elim

theorem VKK_W {P : Nat → Prop} {k : XK} {d : Option Nat} {Q Q' : St → Prop} {s : St} (h : VKK F P k d Q s) (hq : ∀ s', (k.isEff = true → keepP P s.h s'.h) → Q s' → Q' s') :
    (∀ b, ldBlock s.env k = some b → P b) ∧ WK F k d Q' s := by
  cases k with
  | load sz g x =>
    obtain ⟨h0, h⟩ := h
    refine ⟨fun b hb => ?_, ?_⟩
    · simp only [ldBlock] at hb
      split at hb
      · rename_i a ha; cases hb; rw [ha] at h0; exact h0
      · cases hb
    · exact VK_W (k := .load sz g x) (Q := Q) h fun s' hs => hq s' (fun hh => by cases hh) hs
  | store sz x v =>
    refine ⟨fun b hb => (by cases hb), ?_⟩
    exact VK_W (k := .store sz x v) (Q := fun s' => keepP P s.h s'.h ∧ Q s') h fun s' hs => hq s' (fun _ => hs.1) hs.2
  | append e w b t x =>
    refine ⟨fun b hb => (by cases hb), ?_⟩
    exact VK_W (k := .append e w b t x) (Q := fun s' => keepP P s.h s'.h ∧ Q s') h fun s' hs => hq s' (fun _ => hs.1) hs.2
  | copy e w t x =>
    refine ⟨fun b hb => (by cases hb), ?_⟩
    exact VK_W (k := .copy e w t x) (Q := fun s' => keepP P s.h s'.h ∧ Q s') h fun s' hs => hq s' (fun _ => hs.1) hs.2
  | call f args =>
    refine ⟨fun b hb => (by cases hb), ?_⟩
    exact VK_W (k := .call f args) (Q := fun s' => keepP P s.h s'.h ∧ Q s') h fun s' hs => hq s' (fun _ => hs.1) hs.2
  | _ => exact ⟨fun b hb => by (simp [ldBlock] at hb), VK_W (Q := Q) h fun s' hs => hq s' (fun hh => by cases hh) hs⟩

theorem VG_W {A : (St → Prop) → St → Prop} {d : Option Nat} {k : XK} {g : Option (Nat × Bool)} {c : Bool} {Q Q' : St → Prop} {s : St} (h : VG A d g Q s)
    (hA : wanted s.env g → A Q s → WK F k d Q' s) (hN : ∀ e', unwanted s.env g → Q ⟨e', s.h⟩ → Q' ⟨e', s.h⟩) : WOp F ⟨d, k, g, c⟩ Q' s := by
  unfold VG at h
  split at h
  · exact hA trivial h
  · rename_i g
    rcases condM_cases h with ⟨h1, h2⟩ | ⟨h1, h2⟩
    · rw [put_same h1] at h2; exact ⟨true, h1, by rw [if_pos rfl]; exact hA h1 h2⟩
    · rw [put_same h1] at h2; exact ⟨false, h1, by rw [if_neg (by simp)]; exact hN _ h1 h2⟩
  · rename_i g
    rcases condM_cases h with ⟨h1, h2⟩ | ⟨h1, h2⟩
    · rw [put_same h1] at h2; exact ⟨true, h1, by rw [if_neg (by simp)]; exact hN _ h1 h2⟩
    · rw [put_same h1] at h2; exact ⟨false, h1, by rw [if_pos rfl]; exact hA h1 h2⟩

theorem VOps_W {Q Q' : St → Prop} (hq : ∀ s, Q s → Q' s) : ∀ {ops : List XOper} {s : St}, VOps F ops Q s → WOps F ops Q' s
  | [], s, h => hq s h
  | ⟨d, k, g, c⟩ :: r, s, h => VG_W (A := fun Q s => VK F k d Q s) h (fun _ hA => VK_W hA fun s' hs => VOps_W hq hs) fun e' _ hs => VOps_W hq hs

theorem VOpsK_W {P : Nat → Prop} {Q Q' : St → Prop} (hq : ∀ s, Q s → Q' s) : ∀ {ops : List XOper} {s : St}, VOpsK F P ops Q s → WOpsK F P ops Q' s
  | [], s, h => hq s h
  | ⟨d, k, g, c⟩ :: r, s, h => by
    have key : wanted s.env g → (VKc F P k d c) (fun s' => VOpsK F P r Q s') s →
        (c = true → ∀ b, ldBlock s.env k = some b → P b) ∧ WK F k d (fun s' => (c = true → k.isEff = true → ∀ b, P b → s'.h.bk b = s.h.bk b) ∧ WOpsK F P r Q' s') s := by
      intro hw hA
      cases c with
      | true =>
        obtain ⟨h1, h2⟩ := VKK_W (Q := fun s' => VOpsK F P r Q s') (Q' := fun s' => (true = true → k.isEff = true → ∀ b, P b → s'.h.bk b = s.h.bk b) ∧ WOpsK F P r Q' s') hA
          fun s' hk hs => ⟨fun _ he => hk he, VOpsK_W hq hs⟩
        exact ⟨fun _ => h1, h2⟩
      | false => exact ⟨fun hc => (Bool.noConfusion hc), VK_W (Q := fun s' => VOpsK F P r Q s') hA fun s' hs => ⟨fun hc => (Bool.noConfusion hc), VOpsK_W hq hs⟩⟩
    refine ⟨fun hc b hw hb => ?_, ?_⟩
    · have h' : VG (VKc F P k d c) d g (fun s' => VOpsK F P r Q s') s := h
      unfold VG at h'
      split at h'
      · exact (key hw h').1 hc b hb
      · rename_i g
        have hw' : s.env g = .bool true := hw
        rcases condM_cases h' with ⟨h1, h2⟩ | ⟨h1, h2⟩
        · rw [put_same h1] at h2; exact (key hw h2).1 hc b hb
        · rw [hw'] at h1; cases h1
      · rename_i g
        have hw' : s.env g = .bool false := hw
        rcases condM_cases h' with ⟨h1, h2⟩ | ⟨h1, h2⟩
        · rw [hw'] at h1; cases h1
        · rw [put_same h1] at h2; exact (key hw h2).1 hc b hb
    · exact VG_W (A := VKc F P k d c) h (fun hw hA => (key hw hA).2) fun e' _ hs => ⟨fun _ _ _ _ => rfl, VOpsK_W hq hs⟩

theorem exEq_eq {x y : Exit} (h : exEq x y = true) : x = y := by
  cases x <;> cases y <;> simp_all [exEq]

theorem sel_map {xs : List (Exit × List Nat)} {Q : Exit → St → Prop} {y : Exit} {s : St} :
    sel (xs.map fun x => (x.1, x.2, fun vs h' => ∀ e' : Env, x.2.map e' = vs → Q x.1 ⟨e', h'⟩)) y s → Q y s := by
  induction xs with
  | nil => intro hh; exact hh.elim
  | cons x r ih =>
    intro hh
    simp only [List.map, sel] at hh
    cases he : exEq x.1 y with
    | true => rw [he] at hh; rw [exEq_eq he] at hh; exact hh s.env rfl
    | false => rw [he] at hh; exact ih hh

theorem V_W {c : YC} : ∀ {Q Q' : Exit → St → Prop} {s : St}, (∀ x s, Q x s → Q' x s) → V F c Q s → W F c.er Q' s := by
  induction c with
  | skip => intro Q Q' s hq h; exact hq _ _ h
  | region held ops =>
    intro Q Q' s hq h
    cases held with
    | false => exact VOps_W (hq .normal) h
    | true => exact ⟨fun b => b < s.h.nx, fun b hb => hb, VOpsK_W (hq .normal) h⟩
  | regionG ops =>
    intro Q Q' s hq h
    obtain ⟨P, hP, h⟩ := h
    exact ⟨P, hP, VOpsK_W (hq .normal) h⟩
  | seq a b iha ihb =>
    intro Q Q' s hq h
    refine iha (Q := thenW (V F b Q) Q) (fun x s hx => ?_) h
    cases x with
    | normal => exact ihb hq hx
    | _ => exact hq _ _ hx
  | join ins a b iha ihb =>
    intro Q Q' s hq h
    obtain ⟨K, hK, h⟩ := h
    refine iha (Q := thenW (fun s' => K (ins.map s'.env) s'.h) Q) (fun x s hx => ?_) h
    cases x with
    | normal => exact ihb hq (hK _ _ hx s.env rfl)
    | _ => exact hq _ _ hx
  | cond c a b iha ihb =>
    intro Q Q' s hq h
    rcases condM_cases h with ⟨h1, h2⟩ | ⟨h1, h2⟩
    · exact ⟨true, h1, by rw [if_pos rfl]; exact iha hq h2⟩
    · exact ⟨false, h1, by rw [if_neg (by simp)]; exact ihb hq h2⟩
  | block id b ih => intro Q Q' s hq h; exact ih (Q := fun x s' => Q (catchX id x) s') (fun x s hx => hq _ _ hx) h
  | loop ins xs b ih =>
    intro Q Q' s hq h
    exact W_mono_loop (h s.env rfl) fun x s' hs => hq _ _ (sel_map hs)
  | exit id => intro Q Q' s hq h; exact hq _ _ h
  | ret => intro Q Q' s hq h; exact hq _ _ h

theorem resC_map {e : Env} {h : Hp} : ∀ {res : List XR} {K : List Value → Prop}, resC e h res K → ∃ vs, res.mapM (fun r => XR.ev e h r) = some vs ∧ vs.length = res.length ∧ K vs
  | [], K, hk => ⟨[], rfl, rfl, hk⟩
  | .tmp t :: r, K, hk => by
    obtain ⟨vs, h1, h2, h3⟩ := resC_map (res := r) hk
    have h0' : XR.ev e h (.tmp t) = some (e t) := rfl
    exact ⟨e t :: vs, by simp [List.mapM_cons, h0', h1], by simp [h2], h3⟩
  | .cell t sz g :: r, K, hk => by
    obtain ⟨v, h0, hk⟩ := bindO_some_iff.1 hk
    obtain ⟨vs, h1, h2, h3⟩ := resC_map (res := r) hk
    have h0' : XR.ev e h (.cell t sz g) = some v := h0
    exact ⟨v :: vs, by simp [List.mapM_cons, h0', h1], by simp [h2], h3⟩

theorem resC_resV {e : Env} {h : Hp} {res : List XR} {R : Value → Prop} (hk : resC e h res fun vs => R (tupV vs)) : bindO (resV e h res) R := by
  obtain ⟨vs, h1, h2, h3⟩ := resC_map hk
  refine bindO_some_iff.2 ⟨tupV vs, ?_, h3⟩
  match res, vs, h1, h2 with
  | [], [], h1, _ => rfl
  | [r], [v], h1, _ =>
    simp only [resV, tupV]
    cases hr : XR.ev e h r with
    | none => simp [List.mapM_cons, hr] at h1
    | some u => simp [List.mapM_cons, hr] at h1; rw [h1]
  | r :: r2 :: rs, v :: v2 :: vs, h1, _ =>
    simp only [resV, tupV, h1, Option.map_some]

theorem callV_fin {f : FuncId} {args : List Value} {h : Hp} {R : Value → Hp → Prop} {nt : Nat} {y : YC} {res : List XR} (hf : F f = some ⟨nt, y.er, res⟩)
    (hw : V F y (finV res R) ⟨argEnv args, h⟩) : CallW F f args h R := by
  refine callW_fin hf (V_W (fun x s hx => ?_) hw)
  cases x <;> first | exact ⟨.inl rfl, resC_resV hx⟩ | exact ⟨.inr rfl, resC_resV hx⟩ | exact hx.elim

/-- A loop, by what holds ahead of each round: d falls. -/
theorem LP_intro {b : YC} {ins : List Nat} {Ks : List (Exit × List Nat × Kont)} (I : Nat → Kont)
    (hr : ∀ (d : Nat) (vs : List Value) (h : Hp), I d vs h → ∀ K : Kont, (∀ d' vs' h', d' < d → I d' vs' h' → K vs' h') → ∀ e : Env, ins.map e = vs → V F b (qsel ins K Ks) ⟨e, h⟩) :
    ∀ d vs h, I d vs h → LP F b.er ins Ks vs h := by
  intro d vs h hI e he
  refine loopN (F := F) (b := b.er) (Q := fun x s => sel Ks x s) (fun d s => I d (ins.map s.env) s.h) (fun d s hI => ?_) d ⟨e, h⟩ (by simpa [he] using hI)
  refine V_W ?_ (hr d _ _ hI (fun vs' h' => ∃ d', d' < d ∧ I d' vs' h') (fun d' vs' h' h1 h2 => ⟨d', h1, h2⟩) s.env rfl)
  intro x s' hx
  cases x <;> exact hx

/-- The same for a loop with one exit, whose sequel is closed. -/
theorem LP1 {b : YC} {ins o1 : List Nat} {x1 : Exit} {K1 : Kont} (I : Nat → Kont)
    (hr : ∀ (d : Nat) (vs : List Value) (h : Hp), I d vs h → ∀ K K1' : Kont, (∀ d' vs' h', d' < d → I d' vs' h' → K vs' h') → (∀ vs' h', K1 vs' h' → K1' vs' h') →
      ∀ e : Env, ins.map e = vs → V F b (qsel ins K [(x1, o1, K1')]) ⟨e, h⟩) :
    ∀ d vs h, I d vs h → LP F b.er ins [(x1, o1, K1)] vs h :=
  LP_intro I fun d vs h hI K hK => hr d vs h hI K K1 hK fun _ _ hh => hh

theorem LP2 {b : YC} {ins o1 o2 : List Nat} {x1 x2 : Exit} {K1 K2 : Kont} (I : Nat → Kont)
    (hr : ∀ (d : Nat) (vs : List Value) (h : Hp), I d vs h → ∀ K K1' K2' : Kont, (∀ d' vs' h', d' < d → I d' vs' h' → K vs' h') → (∀ vs' h', K1 vs' h' → K1' vs' h') → (∀ vs' h', K2 vs' h' → K2' vs' h') →
      ∀ e : Env, ins.map e = vs → V F b (qsel ins K [(x1, o1, K1'), (x2, o2, K2')]) ⟨e, h⟩) :
    ∀ d vs h, I d vs h → LP F b.er ins [(x1, o1, K1), (x2, o2, K2)] vs h :=
  LP_intro I fun d vs h hI K hK => hr d vs h hI K K1 K2 hK (fun _ _ hh => hh) fun _ _ hh => hh
end

/-! simp rules for the formulas -/
@[congr] theorem condM_congr {v v' : Value} {A B : Prop} (h : v = v') : condM v A B = condM v' A B := by rw [h]
@[simp ↓] theorem condM_true (A B : Prop) : condM (.bool true) A B = A := propext Iff.rfl
@[simp ↓] theorem condM_false (A B : Prop) : condM (.bool false) A B = B := propext Iff.rfl
@[simp ↓] theorem condM_not (t : Bool) (A B : Prop) : condM (.bool (!t)) A B = condM (.bool t) B A := by cases t <;> rfl
theorem condM_dec {c : Prop} [Decidable c] {A B : Prop} (h1 : c → A) (h2 : ¬ c → B) : condM (.bool (decide c)) A B := by
  by_cases h : c
  · simp only [h, decide_true, condM_true]; exact h1 h
  · simp only [h, decide_false, condM_false]; exact h2 h
theorem condM_bool {t : Bool} {A B : Prop} (h1 : t = true → A) (h2 : t = false → B) : condM (.bool t) A B := by cases t <;> simp_all
@[congr] theorem newB_congr {h h' : Hp} {x x' : Blk} {K : Nat → Hp → Prop} (e1 : h = h') (e2 : x = x') : newB h x K = newB h' x' K := by rw [e1, e2]
@[congr] theorem bindVH_congr {o o' : Option (Value × Hp)} {K : Value → Hp → Prop} (h : o = o') : bindVH o K = bindVH o' K := by rw [h]
@[simp ↓] theorem bindVH_some (v : Value) (h : Hp) (K : Value → Hp → Prop) : bindVH (some (v, h)) K = K v h := propext Iff.rfl
@[congr] theorem LP_congr {F : FuncId → Option XFunc} {b : XC} {ins : List Nat} {Ks : List (Exit × List Nat × Kont)} {vs vs' : List Value} {h h' : Hp} (e1 : vs = vs') (e2 : h = h') : LP F b ins Ks vs h = LP F b ins Ks vs' h' := by rw [e1, e2]
theorem JN_congr' {A : Kont → Prop} {B : Kont} : JN A B = JN A B := rfl
@[simp] theorem boxV_int (k : IntKind) (a : Int) : boxV 1 (.int k a) = some [.int k a] := by simp [boxV]
@[simp] theorem boxV_bool (a : Bool) : boxV 1 (.bool a) = some [.bool a] := by simp [boxV]
@[simp] theorem boxV_slice (A : Option Addr) (n c : Nat) : boxV 1 (.slice A n c) = some [.slice A n c] := by simp [boxV]
@[simp] theorem boxV_ptr (A : Option Addr) : boxV 1 (.pointer A) = some [.pointer A] := by simp [boxV]
@[simp] theorem boxV_func (f : Fn) (x y : Array Value) : boxV 1 (.func f x y) = some [.func f x y] := by simp [boxV]
theorem boxV_agg2 {a b : Value} (ha : one a = true) (hb : one b = true) : boxV 2 (.agg #[a, b]) = some [a, b] := by simp [boxV, ha, hb]
@[simp] theorem boxV_is (k : IntKind) (a : Int) (A : Option Addr) (n c : Nat) : boxV 2 (.agg #[.int k a, .slice A n c]) = some [.int k a, .slice A n c] := boxV_agg2 rfl rfl
theorem makN_nat {k : IntKind} {e : Int} {n : Nat} (h : e = n) (hn : n ≤ sizeMax) : makN (.int k e) = some n := by subst h; simp [makN, hn]
@[simp] theorem inB_ptr (n : Nat) (a : Addr) : inB n (.pointer (some a)) = (a.block < n) := rfl
@[simp] theorem inP_ptr (P : Nat → Prop) (a : Addr) : inP P (.pointer (some a)) = P a.block := rfl
theorem newB_ex {h : Hp} {x : Blk} {K : Nat → Hp → Prop} (hk : ∀ b h', b = h.nx → h' = h.new x → K b h') : newB h x K := ⟨hk _ _ rfl rfl⟩
end XM

/- Lists of numbers and tables in the abstract heap. -/
namespace XM
open Go

/-- What stood before stands. -/
structure HE (h h' : Hp) : Prop where
  nx : h.nx ≤ h'.nx
  bk : ∀ b, b < h.nx → h'.bk b = h.bk b

theorem HE.refl (h : Hp) : HE h h := ⟨Nat.le_refl _, fun _ _ => rfl⟩
@[simp] theorem HE_refl (h : Hp) : HE h h := HE.refl h
theorem HE.trans {h h' h'' : Hp} (a : HE h h') (b : HE h' h'') : HE h h'' := ⟨Nat.le_trans a.nx b.nx, fun c hc => (b.bk c (Nat.lt_of_lt_of_le hc a.nx)).trans (a.bk c hc)⟩
@[simp] theorem HE_new {h h' : Hp} (x : Blk) (e : HE h h') : HE h (h'.new x) :=
  ⟨Nat.le_succ_of_le e.nx, fun b hb => by rw [new_bk, if_neg (by have := e.nx; omega)]; exact e.bk b hb⟩
@[simp] theorem HE_set {h h' : Hp} {b : Nat} (x : Option Blk) (e : HE h h') (hb : h.nx ≤ b) : HE h (h'.set b x) :=
  ⟨e.nx, fun c hc => by rw [set_bk, if_neg (by omega)]; exact e.bk c hc⟩

def gt (xs : List Int) (i : Nat) : Int := xs.getD i 0
def row (T : List (List Int)) (i : Nat) : List Int := T.getD i []
def mapI (xs : List Int) : List Value := xs.map (.int .i64 ·)

@[simp] theorem mapI_len (xs : List Int) : (mapI xs).length = xs.length := by simp [mapI]
@[simp] theorem mapI_nil : mapI [] = [] := rfl
theorem mapI_get {xs : List Int} {i : Nat} (h : i < xs.length) : (mapI xs)[i]? = some (.int .i64 (gt xs i)) := by simp [mapI, gt, h]
theorem gt_get {xs : List Int} {i : Nat} (h : i < xs.length) : gt xs i = xs[i] := by simp [gt, h]
theorem gt_mem {xs : List Int} {i : Nat} (h : i < xs.length) : gt xs i ∈ xs := by rw [gt_get h]; exact List.getElem_mem h
theorem gt_out {xs : List Int} {i : Nat} (h : xs.length ≤ i) : gt xs i = 0 := by simp [gt, List.getElem?_eq_none h]
theorem gt_set {xs : List Int} {i j : Nat} {v : Int} : gt (xs.set i v) j = if i = j ∧ i < xs.length then v else gt xs j := by
  unfold gt
  simp only [List.getD_eq_getElem?_getD, List.getElem?_set]
  by_cases h : i = j
  · subst h
    by_cases h2 : i < xs.length
    · simp [h2]
    · simp [h2]
  · simp [h]
theorem gt_append {xs ys : List Int} {i : Nat} : gt (xs ++ ys) i = if i < xs.length then gt xs i else gt ys (i - xs.length) := by
  unfold gt
  simp only [List.getD_eq_getElem?_getD, List.getElem?_append]
  split <;> rfl
theorem gt_ext {xs ys : List Int} (h : xs.length = ys.length) (hg : ∀ i, i < xs.length → gt xs i = gt ys i) : xs = ys := by
  apply List.ext_getElem h
  intro i h1 h2
  have := hg i h1
  rw [gt_get h1, gt_get h2] at this
  exact this
theorem mapI_one (xs : List Int) : (mapI xs).all one = true := by simp [mapI, one]
theorem mapI_append (xs ys : List Int) : mapI (xs ++ ys) = mapI xs ++ mapI ys := by simp [mapI]
theorem mapI_snoc (xs : List Int) (v : Int) : mapI xs ++ [.int .i64 v] = mapI (xs ++ [v]) := by simp [mapI]
theorem mapI_rep (n : Nat) : reps n [.int .i64 0] = mapI (List.replicate n 0) := by
  induction n with
  | zero => rfl
  | succ n ih =>
    have : reps (n + 1) [Value.int .i64 0] = [.int .i64 0] ++ reps n [.int .i64 0] := by simp [reps, List.replicate_succ]
    rw [this, ih]; simp [mapI, List.replicate_succ]
theorem splice_one {cs : List Value} {i : Nat} {v : Value} (h : i < cs.length) : splice cs i [v] = cs.set i v := by
  rw [List.set_eq_take_append_cons_drop, if_pos h]; simp [splice]
theorem mapI_set (xs : List Int) (i : Nat) (v : Int) : (mapI xs).set i (.int .i64 v) = mapI (xs.set i v) := by simp [mapI, List.map_set]
theorem splice_mapI {xs : List Int} {i : Nat} {v : Int} (h : i < xs.length) : splice (mapI xs) i [.int .i64 v] = mapI (xs.set i v) := by
  rw [splice_one (by simpa using h), mapI_set]

/-- The address of a slice's i-th element of w cells. -/
def elp (A : Option Addr) (w i : Nat) : Value := .pointer (A.map fun a => ⟨a.block, a.off + i * w, none⟩)

/-- A slice of one-cell elements that is only read: what it holds, in this heap. -/
def RV (h : Hp) (A : Option Addr) (vs : List Value) : Prop :=
  0 < vs.length → ∃ b o x, A = some ⟨b, o, none⟩ ∧ b < h.nx ∧ h.bk b = some x ∧ ∀ (i : Nat) (v : Value), vs[i]? = some v → x.cells[o + i]? = some v

theorem RV.mono {h h' : Hp} {A : Option Addr} {vs : List Value} (r : RV h A vs) (e : HE h h') : RV h' A vs := by
  intro hl
  obtain ⟨b, o, x, h1, h2, h3, h4⟩ := r hl
  exact ⟨b, o, x, h1, Nat.lt_of_lt_of_le h2 e.nx, (e.bk b h2).trans h3, h4⟩

theorem idx_nat {i n : Nat} (h : i < n) : idx (i : Int) n = some i := by
  unfold idx; rw [if_pos (by omega)]; simp

theorem RV.rd {h : Hp} {A : Option Addr} {vs : List Value} (r : RV h A vs) {e : Int} {i n c : Nat} {k : IntKind} {v : Value} (he : e = i) (hn : n = vs.length) (hv : vs[i]? = some v) :
    indexAddrV 1 (.slice A n c) (.int k e) = some (elp A 1 i) ∧ ∀ h', HE h h' → ldV 1 false h' (elp A 1 i) = some v := by
  have hi : i < vs.length := (List.getElem?_eq_some_iff.1 hv).1
  obtain ⟨b, o, x, rfl, h2, h3, h4⟩ := r (by omega)
  subst he; subst hn
  refine ⟨by simp [indexAddrV, idx_nat hi, elp, addOff], fun h' hE => ?_⟩
  have h5 := h4 i v hv
  have h6 : o + i < x.cells.length := (List.getElem?_eq_some_iff.1 h5).1
  simp only [elp, Option.map_some, Nat.mul_one, ldV_ptr, hE.bk b h2, h3, Option.bind_some]
  rw [if_pos (by omega)]
  simpa using h5

theorem RV.inb {h h' : Hp} {A : Option Addr} {vs : List Value} (r : RV h A vs) (e : HE h h') {i : Nat} (hi : i < vs.length) : inB h'.nx (elp A 1 i) := by
  obtain ⟨b, o, x, rfl, h2, h3, h4⟩ := r (by omega)
  have := e.nx
  show b < h'.nx
  omega

def RI (h : Hp) (A : Option Addr) (xs : List Int) : Prop := RV h A (mapI xs)
theorem RI.mono {h h' : Hp} {A : Option Addr} {xs : List Int} (r : RI h A xs) (e : HE h h') : RI h' A xs := RV.mono r e
theorem RI.nil (h : Hp) (A : Option Addr) : RI h A [] := fun hl => by simp at hl
theorem RI.rd {h : Hp} {A : Option Addr} {xs : List Int} (r : RI h A xs) {e : Int} {i n c : Nat} {k : IntKind} (he : e = i) (hn : n = xs.length) (hi : i < xs.length) :
    indexAddrV 1 (.slice A n c) (.int k e) = some (elp A 1 i) ∧ ∀ h', HE h h' → ldV 1 false h' (elp A 1 i) = some (.int .i64 (gt xs i)) :=
  RV.rd (vs := mapI xs) r he (by simpa using hn) (mapI_get hi)

theorem RI.inb {h h' : Hp} {A : Option Addr} {xs : List Int} (r : RI h A xs) (e : HE h h') {i : Nat} (hi : i < xs.length) : inB h'.nx (elp A 1 i) := RV.inb r e (by simpa using hi)

/-- The headers of a table's rows. -/
def rowsV (R : Nat → Option Addr) (T : List (List Int)) : List Value := (List.range T.length).map fun i => .slice (R i) (row T i).length 1
@[simp] theorem rowsV_len (R : Nat → Option Addr) (T : List (List Int)) : (rowsV R T).length = T.length := by simp [rowsV]
theorem rowsV_get {R : Nat → Option Addr} {T : List (List Int)} {i : Nat} (h : i < T.length) : (rowsV R T)[i]? = some (.slice (R i) (row T i).length 1) := by simp [rowsV, h]

structure RT (h : Hp) (A : Option Addr) (R : Nat → Option Addr) (T : List (List Int)) : Prop where
  top : RV h A (rowsV R T)
  rows : ∀ i, i < T.length → RI h (R i) (row T i)

theorem RT.mono {h h' : Hp} {A : Option Addr} {R : Nat → Option Addr} {T : List (List Int)} (r : RT h A R T) (e : HE h h') : RT h' A R T := ⟨r.top.mono e, fun i hi => (r.rows i hi).mono e⟩
theorem RT.rd {h : Hp} {A : Option Addr} {R : Nat → Option Addr} {T : List (List Int)} (r : RT h A R T) {e : Int} {i n c : Nat} {k : IntKind} (he : e = i) (hn : n = T.length) (hi : i < T.length) :
    indexAddrV 1 (.slice A n c) (.int k e) = some (elp A 1 i) ∧ ∀ h', HE h h' → ldV 1 false h' (elp A 1 i) = some (.slice (R i) (row T i).length 1) :=
  RV.rd r.top he (by simpa using hn) (rowsV_get hi)

theorem RT.inb {h h' : Hp} {A : Option Addr} {R : Nat → Option Addr} {T : List (List Int)} (r : RT h A R T) (e : HE h h') {i : Nat} (hi : i < T.length) : inB h'.nx (elp A 1 i) := RV.inb r.top e (by simpa using hi)

/-- A slice whose block is known. -/
theorem RV.of_block {h : Hp} {b : Nat} {x : Blk} {vs : List Value} (hb : b < h.nx) (hx : h.bk b = some x) (hc : x.cells = vs) : RV h (some ⟨b, 0, none⟩) vs :=
  fun _ => ⟨b, 0, x, rfl, hb, hx, fun i v hv => by rw [hc, Nat.zero_add]; exact hv⟩
theorem RI.of_block {h : Hp} {b : Nat} {xs : List Int} {t : TypeId} {rw_ : Bool} (hb : b < h.nx) (hx : h.bk b = some ⟨mapI xs, t, rw_⟩) : RI h (some ⟨b, 0, none⟩) xs := RV.of_block hb hx rfl

/-- A list of numbers in memory of its own. -/
def FI (ty : TypeId) (h h' : Hp) (v : Value) (xs : List Int) : Prop :=
  ∃ b, v = .slice (some ⟨b, 0, none⟩) xs.length 1 ∧ h.nx ≤ b ∧ b < h'.nx ∧ h'.bk b = some ⟨mapI xs, ty, true⟩

theorem FI.ri {ty : TypeId} {h h' : Hp} {v : Value} {xs : List Int} (f : FI ty h h' v xs) : ∃ b, v = .slice (some ⟨b, 0, none⟩) xs.length 1 ∧ RI h' (some ⟨b, 0, none⟩) xs := by
  obtain ⟨b, h1, h2, h3, h4⟩ := f
  exact ⟨b, h1, RI.of_block h3 h4⟩

theorem RV.cells {h h' : Hp} {A : Option Addr} {vs : List Value} (r : RV h A vs) (e : HE h h') {n c : Nat} (hn : n = vs.length) : (n = 0 → A = none ∨ True) → h'.cellsOf 1 (.slice A n c) = some vs := by
  intro _
  subst hn
  by_cases h0 : vs.length = 0
  · have : vs = [] := List.eq_nil_of_length_eq_zero h0
    subst this
    cases A <;> simp [Hp.cellsOf]
  · obtain ⟨b, o, x, rfl, h2, h3, h4⟩ := r (by omega)
    have hlen : o + vs.length ≤ x.cells.length := by
      have h5 := h4 (vs.length - 1) vs[vs.length - 1] (by simp [show vs.length - 1 < vs.length by omega])
      have := (List.getElem?_eq_some_iff.1 h5).1
      omega
    simp only [Hp.cellsOf, if_neg h0, e.bk b h2, h3, Option.bind_some, Nat.mul_one]
    rw [if_pos hlen]
    congr 1
    apply List.ext_getElem?
    intro i
    rw [List.getElem?_take]
    split
    · rename_i hi
      rw [List.getElem?_drop, List.getElem?_eq_getElem hi]
      exact h4 i _ (List.getElem?_eq_getElem hi)
    · rename_i hi; exact (List.getElem?_eq_none (by omega)).symm

/-- Appending to a row of the function's own. -/
theorem appendV_own {y : TypeId} {h : Hp} {b n c m : Nat} {vs us : List Value} {B : Option Addr} (hb : h.bk b = some ⟨vs, y, true⟩) (hn : n = vs.length) (hu : h.cellsOf 1 (.slice B m c) = some us) (hm : m = us.length) (h0 : 0 < m)
    (hmax : n + m ≤ sizeMax) : appendV y 1 h (.slice (some ⟨b, 0, none⟩) n 1) (.slice B m c) = some (.slice (some ⟨h.nx, 0, none⟩) (n + m) 1, (h.set b none).new ⟨vs ++ us, y, true⟩) := by
  subst hn
  have hne : ¬ (vs = [] ∧ m = 0) := fun h => by omega
  simp [appendV, XK.eff, hne, hu, hb, hmax]

theorem appendV_push {y y' : TypeId} {h : Hp} {b n : Nat} {vs : List Value} (hb : h.bk b = some ⟨vs, y, true⟩) (hlt : b < h.nx) (hn : n = vs.length) (hmax : n + 1 ≤ sizeMax) (v : Value) :
    appendV y 1 (h.new ⟨[v], y', true⟩) (.slice (some ⟨b, 0, none⟩) n 1) (.slice (some ⟨h.nx, 0, none⟩) 1 1) =
      some (.slice (some ⟨h.nx + 1, 0, none⟩) (n + 1) 1, ((h.new ⟨[v], y', true⟩).set b none).new ⟨vs ++ [v], y, true⟩) := by
  have h1 : (h.new ⟨[v], y', true⟩).bk b = some ⟨vs, y, true⟩ := by rw [new_bk, if_neg (by omega)]; exact hb
  have h2 : (h.new ⟨[v], y', true⟩).cellsOf 1 (.slice (some ⟨h.nx, 0, none⟩) 1 1) = some [v] := by simp [Hp.cellsOf]
  rw [appendV_own h1 hn h2 rfl (by omega) hmax]; rfl

@[simp] theorem makeV_int (y : TypeId) (w : Nat) (z : List Value) (h : Hp) (k : IntKind) (n : Int) : makeV y w z h (.int k n) =
    if 0 ≤ n ∧ n ≤ sizeMax then some (.slice (some ⟨h.nx, 0, none⟩) n.toNat w, h.new ⟨reps n.toNat z, y, true⟩) else none := rfl

@[simp] theorem rowFill_nil (w : Nat) (cs : List Value) : rowFill w cs [] = some cs := rfl
@[simp] theorem reps_zero (z : List Value) : reps 0 z = [] := rfl
@[simp] theorem reps_one' (z : List Value) : reps 1 z = z := by simp [reps]
@[simp] theorem rowFill_one (z : Value) (k : IntKind) (a : Int) : rowFill 1 [z] [(0, .int k a)] = some [.int k a] := by simp [rowFill]
@[simp] theorem rowFill_oneS (z : Value) (A : Option Addr) (n c : Nat) : rowFill 1 [z] [(0, .slice A n c)] = some [.slice A n c] := by simp [rowFill]
@[simp] theorem rowFill_oneA (z z' a b : Value) : rowFill 2 [z, z'] [(0, .agg #[a, b])] = some [a, b] := by simp [rowFill]

/-- A new block: what follows of it. -/
theorem newB_i {h : Hp} {x : Blk} {K : Nat → Hp → Prop} (hk : ∀ b h', b = h.nx → h'.nx = h.nx + 1 → HE h h' → h'.bk b = some x → K b h') : newB h x K :=
  ⟨hk _ _ rfl rfl ⟨Nat.le_succ _, fun b hb => by rw [new_bk, if_neg (by omega)]⟩ (by simp)⟩

/-- One block is changed. -/
structure Upd (b : Nat) (x : Option Blk) (h h' : Hp) : Prop where
  nx : h'.nx = h.nx
  bk : h'.bk b = x
  ot : ∀ c, c ≠ b → h'.bk c = h.bk c

theorem Upd.he {b : Nat} {x : Option Blk} {h0 h h' : Hp} (u : Upd b x h h') (e : HE h0 h) (hb : h0.nx ≤ b) : HE h0 h' :=
  ⟨by rw [u.nx]; exact e.nx, fun c hc => by rw [u.ot c (by omega)]; exact e.bk c hc⟩

theorem Upd.keep {b n : Nat} {x : Option Blk} {h h' : Hp} (u : Upd b x h h') (hb : n ≤ b) : keepB n h h' := fun c hc => u.ot c (by omega)
theorem HE.keep {h h' : Hp} (e : HE h h') : keepB h.nx h h' := fun c hc => e.bk c hc
theorem HE.keep' {h h' : Hp} {n : Nat} (e : HE h h') (hn : n ≤ h.nx) : keepB n h h' := fun c hc => e.bk c (by omega)
theorem keepB_refl (n : Nat) (h : Hp) : keepB n h h := fun _ _ => rfl

theorem store1 {h : Hp} {b o : Nat} {x : Blk} {v : Value} {K : Hp → Prop} (hb : h.bk b = some x) (ho : o < x.cells.length) (hw : x.rw = true) (hv : v.cells.toList = [v]) (h1 : one v = true)
    (hk : ∀ h', Upd b (some ⟨x.cells.set o v, x.elem, true⟩) h h' → K h') : bindO (storeV 1 h v (.pointer (some ⟨b, o, none⟩))) K := by
  have e : storeV 1 h v (.pointer (some ⟨b, o, none⟩)) = some (h.set b (some ⟨x.cells.set o v, x.elem, true⟩)) := by
    rw [storeV_ptr, hb]; simp only [Option.bind_some, hv]
    rw [if_pos ⟨rfl, by simp [h1], by omega, hw⟩, splice_one ho]
  rw [e]; exact hk _ ⟨rfl, by simp, fun c hc => by rw [set_bk, if_neg hc]⟩

/-- A number is stored in a list of the function's own. -/
theorem storeI {h : Hp} {b i : Nat} {y : TypeId} {xs : List Int} {v : Int} {K : Hp → Prop} (hb : h.bk b = some ⟨mapI xs, y, true⟩) (hi : i < xs.length)
    (hk : ∀ h', Upd b (some ⟨mapI (xs.set i v), y, true⟩) h h' → K h') : bindO (storeV 1 h (.int .i64 v) (.pointer (some ⟨b, i, none⟩))) K :=
  store1 hb (by simpa using hi) rfl rfl rfl fun h' u => hk h' (by rw [mapI_set] at u; exact u)

/-- The whole of a box is stored. -/
theorem storeBox2 {h : Hp} {b : Nat} {x : Blk} {v0 v1 : Value} {K : Hp → Prop} (hb : h.bk b = some x) (hl : x.cells.length = 2) (hw : x.rw = true) (h0 : one v0 = true) (h1 : one v1 = true)
    (hk : ∀ h', Upd b (some ⟨[v0, v1], x.elem, true⟩) h h' → K h') : bindO (storeV 2 h (.agg #[v0, v1]) (.pointer (some ⟨b, 0, none⟩))) K := by
  have e : storeV 2 h (.agg #[v0, v1]) (.pointer (some ⟨b, 0, none⟩)) = some (h.set b (some ⟨[v0, v1], x.elem, true⟩)) := by
    have hs : splice x.cells 0 [v0, v1] = [v0, v1] := by simp [splice, List.drop_eq_nil_of_le, hl]
    rw [storeV_ptr, hb]
    simp [h0, h1, hl, hw, hs]
  rw [e]; exact hk _ ⟨rfl, by simp, fun c hc => by rw [set_bk, if_neg hc]⟩

/-- Reading a list of the function's own. -/
theorem ownRd {h : Hp} {b i n c : Nat} {y : TypeId} {xs : List Int} (hb : h.bk b = some ⟨mapI xs, y, true⟩) (hi : i < xs.length) : ldV 1 false h (.pointer (some ⟨b, i, none⟩)) = some (.int .i64 (gt xs i)) := by
  rw [ldV_ptr, hb]; simp only [Option.bind_some, mapI_len]
  rw [if_pos (by omega)]; simpa using mapI_get hi
theorem ixOwn {b i n c : Nat} {k : IntKind} {e : Int} (he : e = i) (hi : i < n) : indexAddrV 1 (.slice (some ⟨b, 0, none⟩) n c) (.int k e) = some (.pointer (some ⟨b, i, none⟩)) := by
  subst he; simp [indexAddrV, idx_nat hi, addOff]
/-- A box of two cells. -/
theorem box2 {h : Hp} {b : Nat} {v0 v1 : Value} {y : TypeId} (hb : h.bk b = some ⟨[v0, v1], y, true⟩) :
    ldV 2 true h (.pointer (some ⟨b, 0, none⟩)) = some (.agg #[v0, v1]) ∧ ldV 1 false h (.pointer (some ⟨b, 0, none⟩)) = some v0 ∧ ldV 1 false h (.pointer (some ⟨b, 1, none⟩)) = some v1 := by
  refine ⟨?_, ?_, ?_⟩ <;> rw [ldV_ptr, hb] <;> simp

/-- A list was moved to a new block, with more at its end. -/
structure App (b b' : Nat) (x : Blk) (h h' : Hp) : Prop where
  ge : h.nx ≤ b'
  lt : b' < h'.nx
  bk : h'.bk b' = some x
  ot : ∀ c, c < h.nx → c ≠ b → h'.bk c = h.bk c

theorem App.he {b b' : Nat} {x : Blk} {h0 h h' : Hp} (u : App b b' x h h') (e : HE h0 h) (hb : h0.nx ≤ b) : HE h0 h' :=
  ⟨by have := u.ge; have := u.lt; have := e.nx; omega, fun c hc => by rw [u.ot c (by have := e.nx; omega) (by omega)]; exact e.bk c hc⟩

/-- One element is put at the end. -/
theorem push1 {h : Hp} {b n : Nat} {y y' : TypeId} {vs : List Value} {v : Value} {K : Value → Hp → Prop} (hb : h.bk b = some ⟨vs, y, true⟩) (hlt : b < h.nx) (hn : n = vs.length) (hmax : n + 1 ≤ sizeMax)
    (hk : ∀ b' h', App b b' ⟨vs ++ [v], y, true⟩ h h' → K (.slice (some ⟨b', 0, none⟩) (n + 1) 1) h') :
    newB h ⟨[v], y', true⟩ fun b1 h1 => bindVH (appendV y 1 h1 (.slice (some ⟨b, 0, none⟩) n 1) (.slice (some ⟨b1, 0, none⟩) 1 1)) K := by
  refine ⟨?_⟩
  show bindVH (appendV y 1 (h.new ⟨[v], y', true⟩) (.slice (some ⟨b, 0, none⟩) n 1) (.slice (some ⟨h.nx, 0, none⟩) 1 1)) K
  rw [appendV_push hb hlt hn hmax v, bindVH_some]
  refine hk _ _ ⟨by omega, by simp, by simp, fun c hc hne => ?_⟩
  rw [new_bk, if_neg (by simp; omega), set_bk, if_neg hne, new_bk, if_neg (by omega)]

theorem pushI {h : Hp} {b n : Nat} {y y' : TypeId} {xs : List Int} {v : Int} {K : Value → Hp → Prop} (hb : h.bk b = some ⟨mapI xs, y, true⟩) (hlt : b < h.nx) (hn : n = xs.length) (hmax : n + 1 ≤ sizeMax)
    (hk : ∀ b' h', App b b' ⟨mapI (xs ++ [v]), y, true⟩ h h' → K (.slice (some ⟨b', 0, none⟩) (n + 1) 1) h') :
    newB h ⟨[.int .i64 v], y', true⟩ fun b1 h1 => bindVH (appendV y 1 h1 (.slice (some ⟨b, 0, none⟩) n 1) (.slice (some ⟨b1, 0, none⟩) 1 1)) K :=
  push1 hb hlt (by simpa using hn) hmax fun b' h' u => hk b' h' (by rw [← mapI_snoc]; exact u)

@[simp] theorem rowV_nil (w : Nat) (z : List Value) : rowV w 0 z [] = some [] := by simp [rowV]
@[simp] theorem rowV_int (z : Value) (k : IntKind) (a : Int) : rowV 1 1 [z] [(0, .int k a)] = some [.int k a] := by simp [rowV]
@[simp] theorem rowV_slice (z : Value) (A : Option Addr) (n c : Nat) : rowV 1 1 [z] [(0, .slice A n c)] = some [.slice A n c] := by simp [rowV]
end XM

/- Sums and lists of numbers modulo M, in plain Lean. -/
namespace XM

/-- f 0 + .. + f (n - 1). -/
def sm : Nat → (Nat → Int) → Int
  | 0, _ => 0
  | n + 1, f => sm n f + f n

theorem sm_succ (n : Nat) (f : Nat → Int) : sm (n + 1) f = sm n f + f n := rfl
theorem sm_congr {n : Nat} {f g : Nat → Int} (h : ∀ i, i < n → f i = g i) : sm n f = sm n g := by
  induction n with
  | zero => rfl
  | succ n ih => rw [sm_succ, sm_succ, ih fun i hi => h i (by omega), h n (by omega)]
theorem sm_zero {n : Nat} {f : Nat → Int} (h : ∀ i, i < n → f i = 0) : sm n f = 0 := by
  induction n with
  | zero => rfl
  | succ n ih => rw [sm_succ, ih fun i hi => h i (by omega), h n (by omega)]; rfl
theorem sm_more {n m : Nat} {f : Nat → Int} (h : n ≤ m) (hz : ∀ i, n ≤ i → i < m → f i = 0) : sm m f = sm n f := by
  induction m with
  | zero => have : n = 0 := by omega
            subst this; rfl
  | succ m ih =>
    by_cases hn : n = m + 1
    · subst hn; rfl
    · rw [sm_succ, ih (by omega) fun i h1 h2 => hz i h1 (by omega), hz m (by omega) (by omega), Int.add_zero]

def tab (n : Nat) (f : Nat → Int) : List Int := (List.range n).map f
@[simp] theorem tab_len (n : Nat) (f : Nat → Int) : (tab n f).length = n := by simp [tab]
theorem gt_tab {n i : Nat} {f : Nat → Int} (h : i < n) : gt (tab n f) i = f i := by simp [gt, tab, h]
theorem gt_tab' {n i : Nat} {f : Nat → Int} : gt (tab n f) i = if i < n then f i else 0 := by
  split
  · rename_i h; exact gt_tab h
  · exact gt_out (by simp; omega)
theorem eq_tab {n : Nat} {xs : List Int} {f : Nat → Int} (hl : xs.length = n) (h : ∀ i, i < n → gt xs i = f i) : xs = tab n f :=
  gt_ext (by simp [hl]) fun i hi => by rw [gt_tab (by omega)]; exact h i (by omega)
theorem tab_congr {n : Nat} {f g : Nat → Int} (h : ∀ i, i < n → f i = g i) : tab n f = tab n g := by
  unfold tab; exact List.map_congr_left fun i hi => h i (by simpa using hi)
theorem tab_self (xs : List Int) : tab xs.length (gt xs) = xs := (eq_tab rfl fun _ _ => rfl).symm
theorem rep_tab (n : Nat) : List.replicate n (0 : Int) = tab n fun _ => 0 := eq_tab (by simp) fun i hi => by simp [gt, hi]

/-- All numbers of a list are numbers modulo m. -/
def Nums (m : Int) (xs : List Int) : Prop := ∀ x ∈ xs, 0 ≤ x ∧ x < m
instance (m : Int) (xs : List Int) : Decidable (Nums m xs) := inferInstanceAs (Decidable (∀ x ∈ xs, 0 ≤ x ∧ x < m))
theorem Nums.gt {m : Int} {xs : List Int} (hn : Nums m xs) {i : Nat} (hi : i < xs.length) : 0 ≤ gt xs i ∧ gt xs i < m := hn _ (gt_mem hi)
theorem Nums.gt0 {m : Int} {xs : List Int} (hn : Nums m xs) (hm : 0 < m) (i : Nat) : 0 ≤ XM.gt xs i ∧ XM.gt xs i < m := by
  by_cases hi : i < xs.length
  · exact hn.gt hi
  · rw [gt_out (by omega)]; omega
theorem nums_iff {m : Int} {xs : List Int} : Nums m xs ↔ ∀ i, i < xs.length → 0 ≤ gt xs i ∧ gt xs i < m := by
  refine ⟨fun h i hi => h.gt hi, fun h x hx => ?_⟩
  obtain ⟨i, hi, rfl⟩ := List.getElem_of_mem hx
  have := h i hi; rwa [gt_get hi] at this
theorem nums_take {m : Int} {xs : List Int} {i : Nat} (hi : i < xs.length) : Nums m (xs.take (i + 1)) ↔ Nums m (xs.take i) ∧ (0 ≤ XM.gt xs i ∧ XM.gt xs i < m) := by
  rw [List.take_succ_eq_append_getElem hi, gt_get hi]
  simp only [Nums, List.mem_append, List.mem_singleton]
  constructor
  · intro h; exact ⟨fun x hx => h x (.inl hx), h _ (.inr rfl)⟩
  · rintro ⟨h1, h2⟩ x (hx | rfl)
    · exact h1 x hx
    · exact h2
theorem nums_tab {m : Int} (hm : 0 < m) {n : Nat} {f : Nat → Int} : Nums m (tab n fun i => f i % m) := by
  rw [nums_iff]; intro i hi
  rw [gt_tab (by simpa using hi)]
  exact ⟨Int.emod_nonneg _ (by omega), Int.emod_lt_of_pos _ hm⟩
theorem mod_bd {m : Int} (hm : 0 < m) (x : Int) : 0 ≤ x % m ∧ x % m < m := ⟨Int.emod_nonneg _ (by omega), Int.emod_lt_of_pos _ hm⟩

/-- Products of numbers stay small. -/
theorem mul_bd {m a b : Int} (hm2 : m ≤ 3000000000) (ha : 0 ≤ a ∧ a < m) (hb : 0 ≤ b ∧ b < m) : 0 ≤ a * b ∧ a * b ≤ 9000000000000000000 := by
  refine ⟨Int.mul_nonneg ha.1 hb.1, ?_⟩
  have h1 : a * b ≤ a * 3000000000 := Int.mul_le_mul_of_nonneg_left (by omega) ha.1
  omega

/-- The coefficient at n of a product. -/
def cv (a b : List Int) (n : Nat) : Int := sm (n + 1) fun i => gt a i * gt b (n - i)
/-- The product of two lists of coefficients, with n coefficients. -/
def mulL (m : Int) (n : Nat) (a b : List Int) : List Int := tab n fun k => cv a b k % m
def addL (m : Int) (a b : List Int) : List Int := tab a.length fun i => (gt a i + gt b i) % m
def scaleL (m c : Int) (a : List Int) : List Int := tab a.length fun i => (c * gt a i) % m
@[simp] theorem mulL_len (m : Int) (n : Nat) (a b : List Int) : (mulL m n a b).length = n := by simp [mulL]
@[simp] theorem addL_len (m : Int) (a b : List Int) : (addL m a b).length = a.length := by simp [addL]
@[simp] theorem scaleL_len (m c : Int) (a : List Int) : (scaleL m c a).length = a.length := by simp [scaleL]

/-- The part of a product's coefficient that the first i factors give. -/
def ps (a b : List Int) (i n : Nat) : Int := sm i fun j => if j ≤ n then gt a j * gt b (n - j) else 0
theorem ps_zero (a b : List Int) (n : Nat) : ps a b 0 n = 0 := rfl
theorem ps_succ (a b : List Int) (i n : Nat) : ps a b (i + 1) n = ps a b i n + if i ≤ n then gt a i * gt b (n - i) else 0 := rfl
theorem ps_full {a b : List Int} {i n : Nat} (h : ∀ j, i ≤ j → j ≤ n → gt a j = 0) : ps a b i n = cv a b n := by
  unfold ps cv
  rcases Nat.le_total i (n + 1) with hi | hi
  · rw [sm_more hi (f := fun j => gt a j * gt b (n - j)) fun j h1 h2 => by simp [h j h1 (by omega)]]
    exact sm_congr fun j hj => by rw [if_pos (by omega)]
  · rw [sm_more hi fun j h1 h2 => by rw [if_neg (by omega)]]
    exact sm_congr fun j hj => by rw [if_pos (by omega)]

end XM

/- The numbers of functions and types in this translation, and the program. -/
namespace XM
open Go
/-- The program of this seat. -/
noncomputable abbrev PP : Program := Go.Proofs.Tryz.prog
noncomputable abbrev FF : FuncId → Option XFunc := compiled PP
def n_gosem_cut : FuncId := 1
def n_gosem_cut_init : FuncId := 2
def n_laws_FnPointSums : FuncId := 3
def n_laws_big : FuncId := 4
def n_spec_DrawSumOfPoints : FuncId := 5
def n_impl_SumOfPoints : FuncId := 6
def n_spec_SumOfPoints : FuncId := 7
def n_laws_likeInts : FuncId := 8
def n_spec_DrawOppositePoint : FuncId := 9
def n_impl_OppositePoint : FuncId := 10
def n_spec_OppositePoint : FuncId := 11
def n_impl_OrderOfPointUnder : FuncId := 12
def n_spec_OrderOfPointUnder : FuncId := 13
def n_spec_DrawMultipleOfPoint : FuncId := 14
def n_impl_MultipleOfPoint : FuncId := 15
def n_spec_MultipleOfPoint : FuncId := 16
def n_impl_MultiplicativeLaw : FuncId := 17
def n_impl_MultiplySeries : FuncId := 18
def n_spec_l16Draw : FuncId := 19
def n_impl_pointed : FuncId := 20
def n_impl_Plane_cut : FuncId := 21
def n_impl_Plane_curves : FuncId := 22
def n_impl_curveOf : FuncId := 23
def n_spec_l16Code : FuncId := 24
def n_spec_l01Own : FuncId := 25
def n_spec_l16Add : FuncId := 26
def n_spec_l16Cut : FuncId := 27
def n_spec_l16Multiple : FuncId := 28
def n_impl_countAtMost : FuncId := 29
def n_impl_factors : FuncId := 30
def n_impl_Plane_kills : FuncId := 31
def n_spec_l16Size : FuncId := 32
def n_spec_l16Primes : FuncId := 33
def n_spec_l16Zero : FuncId := 34
def n_spec_l01From : FuncId := 35
def n_spec_l01Pick : FuncId := 36
def n_impl_in : FuncId := 37
def n_impl_copyOf_int64 : FuncId := 38
def n_impl_Plane_multiple : FuncId := 39
def n_spec_l01In : FuncId := 40
def n_impl_standard : FuncId := 41
def n_impl_variables : FuncId := 42
def n_impl_Plane_plus : FuncId := 43
def n_impl_Plane_times : FuncId := 44
def n_impl_Plane_scaled : FuncId := 45
def n_impl_bothSeries : FuncId := 46
def n_impl_Series_times : FuncId := 47
def n_spec_l04Spoil : FuncId := 48
def n_spec_l01Next : FuncId := 49
def n_impl_IsLaw : FuncId := 50
def n_impl_Plane_degree : FuncId := 51
def n_impl_all_int64 : FuncId := 52
def n_impl_pointed_c1 : FuncId := 53
def n_impl_isNumber : FuncId := 54
def n_impl_emptyPlane : FuncId := 55
def n_impl_Series_constant : FuncId := 56
def n_impl_Series_powers : FuncId := 57
def n_impl_Series_plus : FuncId := 58
def n_impl_Series_scaled : FuncId := 59
def n_spec_l04Is : FuncId := 60
def n_spec_l16Point : FuncId := 61
def n_spec_l03Put : FuncId := 62
def n_spec_l03Make : FuncId := 63
def n_spec_l03Cut : FuncId := 64
def n_spec_l04Multiple : FuncId := 65
def n_impl_Series_same : FuncId := 66
def n_impl_zero : FuncId := 67
def n_impl_Plane_opposite : FuncId := 68
def n_impl_IsModulus : FuncId := 69
def n_impl_standard_c1 : FuncId := 70
def n_impl_variable : FuncId := 71
def n_impl_onAxis : FuncId := 72
def n_impl_Plane_mapped : FuncId := 73
def n_impl_Plane_plus_c1 : FuncId := 74
def n_impl_mul : FuncId := 75
def n_impl_Plane_scaled_c1 : FuncId := 76
def n_impl_mod : FuncId := 77
def n_impl_IsSeries : FuncId := 78
def n_impl_Series_alike : FuncId := 79
def n_impl_Series_degree : FuncId := 80
def n_spec_l04Draw : FuncId := 81
def n_impl_IsPlane : FuncId := 82
def n_impl_axioms : FuncId := 83
def n_slices_ContainsFunc_Lint64_int64 : FuncId := 84
def n_impl_all_int64__c1 : FuncId := 85
def n_spec_l03Is : FuncId := 86
def n_spec_l04Fault : FuncId := 87
def n_spec_l03Degree : FuncId := 88
def n_spec_l01Numbers : FuncId := 89
def n_spec_l03Powers : FuncId := 90
def n_spec_l02Add : FuncId := 91
def n_spec_l02Scale : FuncId := 92
def n_spec_l02Times : FuncId := 93
def n_spec_l04Opposite : FuncId := 94
def n_slices_Equal_Lint64_int64 : FuncId := 95
def n_impl_Plane_inverse : FuncId := 96
def n_impl_Series_compose : FuncId := 97
def n_math_bits_Mul64 : FuncId := 98
def n_math_bits_Div64 : FuncId := 99
def n_impl_IsSeries_c1 : FuncId := 100
def n_spec_l04With : FuncId := 101
def n_spec_l04DrawModulus : FuncId := 102
def n_impl_IsPlane_c1 : FuncId := 103
def n_impl_defectsOf : FuncId := 104
def n_slices_IndexFunc_Lint64_int64 : FuncId := 105
def n_spec_l01Modulus : FuncId := 106
def n_spec_l03After : FuncId := 107
def n_spec_l04Column : FuncId := 108
def n_spec_l02Compose : FuncId := 109
def n_spec_l04Inverse : FuncId := 110
def n_math_bits_LeadingZeros64 : FuncId := 111
def n_spec_l08Any : FuncId := 112
def n_spec_l06Conjugate : FuncId := 113
def n_spec_l04DrawCurve : FuncId := 114
def n_impl_Plane_powers : FuncId := 115
def n_impl_defectsOf_c1 : FuncId := 116
def n_spec_l03Zero : FuncId := 117
def n_spec_l03Times : FuncId := 118
def n_math_bits_Len64 : FuncId := 119
def n_spec_l08Multiplicative : FuncId := 120
def n_spec_l08Tangent : FuncId := 121
def n_spec_l08Euler : FuncId := 122
def n_spec_l08Weierstrass : FuncId := 123
def n_spec_l08DrawList : FuncId := 124
def n_spec_l02Reverse : FuncId := 125
def n_spec_l03Both2 : FuncId := 126
def n_impl_Plane_number : FuncId := 127
def n_spec_l08Root : FuncId := 128
def n_spec_l08Series : FuncId := 129
def n_spec_l03Add : FuncId := 130
def n_spec_l03Scale : FuncId := 131
def n_spec_l03Turn : FuncId := 132
def n_spec_l02Inverse : FuncId := 133
def n_spec_l01Inv : FuncId := 134
def n_spec_l03Both : FuncId := 135
def n_spec_l01Mod : FuncId := 136
def y_t_int64 : TypeId := 2
def y_t_int : TypeId := 3
def y_t_LLint64 : TypeId := 24
def y_t_impl_Plane : TypeId := 26
def y_t_Lint64 : TypeId := 27
def y_t_impl_Series : TypeId := 44
def y_t_func_int64_bool : TypeId := 82
def y_t_spec_l01Source : TypeId := 95
def y_t_Limpl_Plane : TypeId := 127
/-! Short words for the code. -/
namespace Z
instance (n : Nat) : OfNat XO n := ⟨.t n⟩
def k (n : Int) : XO := .c (.int .i64 n)
def o (d : Nat) (x : XK) : XOper := ⟨some d, x, none, false⟩
def p (d : Nat) (x : XP) : XOper := ⟨some d, .p x, none, false⟩
def m (d s : Nat) : XOper := ⟨some d, .p (.move (.t s)), none, false⟩
def mc (d : Nat) (s : XO) : XOper := ⟨some d, .p (.move s), none, false⟩
def e (x : XK) : XOper := ⟨none, x, none, false⟩
def cl (f : FuncId) (xs : List XO) : XK := .call (.c (.func (.func f) #[] #[])) xs
end Z
end XM

/- Functions of the translation in the code of the abstract machine. -/
namespace XM
open Go Z
def y_gosem_cut_init : YC :=
  .region false [o 0 (cl n_gosem_cut [])]
theorem c_gosem_cut_init : FF n_gosem_cut_init = some ⟨1, y_gosem_cut_init.er, []⟩ := by kernel_rfl
def p_gosem_cut_init (h : Hp) (R : Value → Hp → Prop) : Prop :=
  CallW FF n_gosem_cut [] h fun v0 h1 => R (.tuple #[]) h1
theorem w_gosem_cut_init {h : Hp} {R : Value → Hp → Prop} (H : p_gosem_cut_init  h R) : CallW FF n_gosem_cut_init [] h R := callV_fin c_gosem_cut_init (Eq.mp (by kernel_rfl) H)
def l_laws_FnPointSums_0 : YC :=
  .seq (.seq (.region false [m 160 29,
  m 161 27,
  p 162 (.len  161),
  p 163 (.bin .lss 160 162)])
 (.cond 163
 (.skip)
 (.exit 0)))
 (.seq (.block 1
 (.seq (.region false [m 166 27,
  m 167 29,
  p 168 (.indexAddr 1 166 167),
  o 169 (.load 1 false 168),
  p 170 (.bin .neq 169 (k 0))])
 (.cond 170
 (.seq (.region false [mc 2 (.c (.bool false))])
 (.ret))
 (.skip))))
 (.region false [m 164 29,
  p 165 (.bin .add 164 (k 1)),
  m 29 165]))
def q_laws_FnPointSums_0 (a3 a4 a5 a6 a7 a10 a11 a16 a17 a27 a29 : Value) (h : Hp) (K K0 K1 : Kont) : Prop :=
  bindO (lenV  a27) fun v162 => bindO (binV .lss a29 v162) fun v163 => condM v163 (bindO (indexAddrV 1 a27 a29) fun v168 => bindO (ldV 1 false h v168) fun v169 => bindO (binV .neq v169 (.int .i64 0)) fun v170 => condM v170 (K1 [(.bool false)] h) (bindO (binV .add a29 (.int .i64 1)) fun v165 => K [a3, a4, a5, a6, a7, a10, a11, a16, a17, a27, v165] h)) (K0 [a3, a4, a5, a6, a7, a10, a11, a16, a17] h)
theorem wl_laws_FnPointSums_0 {a3 a4 a5 a6 a7 a10 a11 a16 a17 a27 a29 : Value} {h : Hp} {K K0 K1 : Kont} (H : q_laws_FnPointSums_0 a3 a4 a5 a6 a7 a10 a11 a16 a17 a27 a29 h K K0 K1) : ∀ e : Env, [e 3, e 4, e 5, e 6, e 7, e 10, e 11, e 16, e 17, e 27, e 29] = [a3, a4, a5, a6, a7, a10, a11, a16, a17, a27, a29] → V FF l_laws_FnPointSums_0 (qsel [3, 4, 5, 6, 7, 10, 11, 16, 17, 27, 29] K [(.exit 0, [3, 4, 5, 6, 7, 10, 11, 16, 17], K0), (.ret, [2], K1)]) ⟨e, h⟩ := by
  intro e he; cases he; exact Eq.mp (by kernel_rfl) H
def l_laws_FnPointSums_1 : YC :=
  .seq (.seq (.region false [m 180 33,
  m 181 11,
  p 182 (.len  181),
  p 183 (.bin .lss 180 182)])
 (.cond 183
 (.skip)
 (.exit 2)))
 (.seq (.block 3
 (.region false [m 186 32,
  p 187 (.fieldAddr 0 10),
  o 188 (.load 1 false 187),
  p 189 (.bin .mul 186 188),
  m 32 189]))
 (.region false [m 184 33,
  p 185 (.bin .add 184 (k 1)),
  m 33 185]))
def q_laws_FnPointSums_1 (a3 a4 a5 a6 a7 a10 a11 a16 a30 a31 a32 a33 : Value) (h : Hp) (K K0 : Kont) : Prop :=
  bindO (lenV  a11) fun v182 => bindO (binV .lss a33 v182) fun v183 => condM v183 (bindO (fieldAddrV 0 a10) fun v187 => bindO (ldV 1 false h v187) fun v188 => bindO (binV .mul a32 v188) fun v189 => bindO (binV .add a33 (.int .i64 1)) fun v185 => K [a3, a4, a5, a6, a7, a10, a11, a16, a30, a31, v189, v185] h) (K0 [a3, a4, a5, a6, a7, a16, a30, a31, a32] h)
theorem wl_laws_FnPointSums_1 {a3 a4 a5 a6 a7 a10 a11 a16 a30 a31 a32 a33 : Value} {h : Hp} {K K0 : Kont} (H : q_laws_FnPointSums_1 a3 a4 a5 a6 a7 a10 a11 a16 a30 a31 a32 a33 h K K0) : ∀ e : Env, [e 3, e 4, e 5, e 6, e 7, e 10, e 11, e 16, e 30, e 31, e 32, e 33] = [a3, a4, a5, a6, a7, a10, a11, a16, a30, a31, a32, a33] → V FF l_laws_FnPointSums_1 (qsel [3, 4, 5, 6, 7, 10, 11, 16, 30, 31, 32, 33] K [(.exit 2, [3, 4, 5, 6, 7, 16, 30, 31, 32], K0)]) ⟨e, h⟩ := by
  intro e he; cases he; exact Eq.mp (by kernel_rfl) H
def l_laws_FnPointSums_2 : YC :=
  .seq (.seq (.region false [m 202 34,
  m 203 30,
  p 204 (.len  203),
  p 205 (.bin .lss 202 204)])
 (.cond 205
 (.skip)
 (.exit 4)))
 (.seq (.block 5
 (.seq (.region false [m 208 30,
  m 209 34,
  p 210 (.indexAddr 1 208 209),
  o 211 (.load 1 false 210),
  p 212 (.bin .neq 211 (k 0))])
 (.cond 212
 (.seq (.region false [mc 2 (.c (.bool false))])
 (.ret))
 (.skip))))
 (.region false [m 206 34,
  p 207 (.bin .add 206 (k 1)),
  m 34 207]))
def q_laws_FnPointSums_2 (a3 a4 a5 a6 a7 a30 a34 : Value) (h : Hp) (K K0 K1 : Kont) : Prop :=
  bindO (lenV  a30) fun v204 => bindO (binV .lss a34 v204) fun v205 => condM v205 (bindO (indexAddrV 1 a30 a34) fun v210 => bindO (ldV 1 false h v210) fun v211 => bindO (binV .neq v211 (.int .i64 0)) fun v212 => condM v212 (K1 [(.bool false)] h) (bindO (binV .add a34 (.int .i64 1)) fun v207 => K [a3, a4, a5, a6, a7, a30, v207] h)) (K0 [a3, a4, a5, a6, a7] h)
theorem wl_laws_FnPointSums_2 {a3 a4 a5 a6 a7 a30 a34 : Value} {h : Hp} {K K0 K1 : Kont} (H : q_laws_FnPointSums_2 a3 a4 a5 a6 a7 a30 a34 h K K0 K1) : ∀ e : Env, [e 3, e 4, e 5, e 6, e 7, e 30, e 34] = [a3, a4, a5, a6, a7, a30, a34] → V FF l_laws_FnPointSums_2 (qsel [3, 4, 5, 6, 7, 30, 34] K [(.exit 4, [3, 4, 5, 6, 7], K0), (.ret, [2], K1)]) ⟨e, h⟩ := by
  intro e he; cases he; exact Eq.mp (by kernel_rfl) H
def y_laws_FnPointSums : YC :=
  .seq (.region false [mc 2 (.c (.bool false))])
 (.seq (.seq (.region false [m 43 0,
  o 44 (cl n_laws_big [43])])
 (.cond 44
 (.seq (.region false [mc 2 (.c (.bool true))])
 (.ret))
 (.skip)))
 (.seq (.region false [m 46 0,
  o 47 (cl n_spec_DrawSumOfPoints [46]),
  m 45 47,
  p 48 (.extract 45 0),
  p 49 (.extract 45 1),
  p 50 (.extract 45 2),
  o 3 (.box y_t_impl_Plane 2 (.c (.agg #[.int .i64 0, .slice none 0 0]))),
  e (.store 2 3 48),
  m 4 49,
  m 5 50])
 (.seq (.region false [o 52 (.load 2 true 3),
  m 53 4,
  m 54 5,
  o 55 (cl n_impl_SumOfPoints [52, 53, 54]),
  m 51 55,
  p 56 (.extract 51 0),
  p 57 (.extract 51 1),
  m 6 56,
  m 7 57])
 (.seq (.seq (.region false [o 59 (.load 2 true 3),
  m 60 4,
  m 61 5,
  o 62 (cl n_spec_SumOfPoints [59, 60, 61]),
  m 58 62,
  p 63 (.extract 58 0),
  p 64 (.extract 58 1),
  m 8 63,
  m 9 64])
 (.seq (.region false [m 65 7,
  m 66 9,
  p 67 (.bin .neq 65 66),
  m 68 67,
  ⟨some 69, .p (.move  6), some (68, false), false⟩,
  ⟨some 70, .p (.move  8), some (68, false), false⟩,
  ⟨some 71, cl n_laws_likeInts [69, 70], some (68, false), false⟩,
  ⟨some 72, .p (.un .not 71), some (68, false), false⟩,
  p 73 (.pick  68 (.c (.bool true)) 72)])
 (.cond 73
 (.seq (.region false [mc 2 (.c (.bool false))])
 (.ret))
 (.skip))))
 (.seq (.region false [m 75 0,
  o 76 (cl n_spec_DrawOppositePoint [75]),
  m 74 76,
  p 77 (.extract 74 0),
  p 78 (.extract 74 1),
  o 10 (.box y_t_impl_Plane 2 (.c (.agg #[.int .i64 0, .slice none 0 0]))),
  e (.store 2 10 77),
  m 11 78])
 (.seq (.region false [o 80 (.load 2 true 10),
  m 81 11,
  o 82 (cl n_impl_OppositePoint [80, 81]),
  m 79 82,
  p 83 (.extract 79 0),
  p 84 (.extract 79 1),
  m 12 83,
  m 13 84])
 (.seq (.seq (.region false [o 86 (.load 2 true 10),
  m 87 11,
  o 88 (cl n_spec_OppositePoint [86, 87]),
  m 85 88,
  p 89 (.extract 85 0),
  p 90 (.extract 85 1),
  m 14 89,
  m 15 90])
 (.seq (.region false [m 91 13,
  m 92 15,
  p 93 (.bin .neq 91 92),
  m 94 93,
  ⟨some 95, .p (.move  12), some (94, false), false⟩,
  ⟨some 96, .p (.move  14), some (94, false), false⟩,
  ⟨some 97, cl n_laws_likeInts [95, 96], some (94, false), false⟩,
  ⟨some 98, .p (.un .not 97), some (94, false), false⟩,
  p 99 (.pick  94 (.c (.bool true)) 98)])
 (.cond 99
 (.seq (.region false [mc 2 (.c (.bool false))])
 (.ret))
 (.skip))))
 (.seq (.region false [o 101 (.load 2 true 10),
  m 102 11,
  o 103 (cl n_impl_OrderOfPointUnder [101, 102]),
  m 100 103,
  p 104 (.extract 100 0),
  p 105 (.extract 100 1),
  m 16 104,
  m 17 105])
 (.seq (.seq (.region false [o 107 (.load 2 true 10),
  m 108 11,
  o 109 (cl n_spec_OrderOfPointUnder [107, 108]),
  m 106 109,
  p 110 (.extract 106 0),
  p 111 (.extract 106 1),
  m 18 110,
  m 19 111])
 (.seq (.region false [m 112 17,
  m 113 19,
  p 114 (.bin .neq 112 113),
  m 115 114,
  ⟨some 116, .p (.move  16), some (115, false), false⟩,
  ⟨some 117, .p (.move  18), some (115, false), false⟩,
  ⟨some 118, .p (.bin .neq 116 117), some (115, false), false⟩,
  p 119 (.pick  115 (.c (.bool true)) 118)])
 (.cond 119
 (.seq (.region false [mc 2 (.c (.bool false))])
 (.ret))
 (.skip))))
 (.seq (.region false [m 121 0,
  o 122 (cl n_spec_DrawMultipleOfPoint [121]),
  m 120 122,
  p 123 (.extract 120 0),
  p 124 (.extract 120 1),
  p 125 (.extract 120 2),
  o 20 (.box y_t_impl_Plane 2 (.c (.agg #[.int .i64 0, .slice none 0 0]))),
  e (.store 2 20 123),
  m 21 124,
  m 22 125])
 (.seq (.region false [o 127 (.load 2 true 20),
  m 128 21,
  m 129 22,
  o 130 (cl n_impl_MultipleOfPoint [127, 128, 129]),
  m 126 130,
  p 131 (.extract 126 0),
  p 132 (.extract 126 1),
  m 23 131,
  m 24 132])
 (.seq (.seq (.region false [o 134 (.load 2 true 20),
  m 135 21,
  m 136 22,
  o 137 (cl n_spec_MultipleOfPoint [134, 135, 136]),
  m 133 137,
  p 138 (.extract 133 0),
  p 139 (.extract 133 1),
  m 25 138,
  m 26 139])
 (.seq (.region false [m 140 24,
  m 141 26,
  p 142 (.bin .neq 140 141),
  m 143 142,
  ⟨some 144, .p (.move  23), some (143, false), false⟩,
  ⟨some 145, .p (.move  25), some (143, false), false⟩,
  ⟨some 146, cl n_laws_likeInts [144, 145], some (143, false), false⟩,
  ⟨some 147, .p (.un .not 146), some (143, false), false⟩,
  p 148 (.pick  143 (.c (.bool true)) 147)])
 (.cond 148
 (.seq (.region false [mc 2 (.c (.bool false))])
 (.ret))
 (.skip))))
 (.join [3, 4, 5, 6, 7, 10, 11, 16, 17] (.seq (.region false [m 149 13,
  p 150 (.bin .eql 149 (k 0))])
 (.cond 150
 (.seq (.region false [o 152 (.load 2 true 10),
  m 153 11,
  m 154 12,
  o 155 (cl n_impl_SumOfPoints [152, 153, 154]),
  m 151 155,
  p 156 (.extract 151 0),
  p 157 (.extract 151 1),
  m 27 156,
  m 28 157])
 (.seq (.seq (.region false [m 158 28,
  p 159 (.bin .neq 158 (k 0))])
 (.cond 159
 (.seq (.region false [mc 2 (.c (.bool false))])
 (.ret))
 (.skip)))
 (.seq (.region false [mc 29 (k 0)])
 (.block 0
 (.loop [3, 4, 5, 6, 7, 10, 11, 16, 17, 27, 29] [(.exit 0, [3, 4, 5, 6, 7, 10, 11, 16, 17]), (.ret, [2])] l_laws_FnPointSums_0)))))
 (.skip)))
 (.join [3, 4, 5, 6, 7] (.seq (.region false [m 171 17,
  p 172 (.bin .eql 171 (k 0))])
 (.cond 172
 (.seq (.region false [o 174 (.load 2 true 10),
  m 175 16,
  m 176 11,
  o 177 (cl n_impl_MultipleOfPoint [174, 175, 176]),
  m 173 177,
  p 178 (.extract 173 0),
  p 179 (.extract 173 1),
  m 30 178,
  m 31 179])
 (.seq (.region false [mc 32 (k 1)])
 (.seq (.seq (.region false [mc 33 (k 0)])
 (.block 2
 (.loop [3, 4, 5, 6, 7, 10, 11, 16, 30, 31, 32, 33] [(.exit 2, [3, 4, 5, 6, 7, 16, 30, 31, 32])] l_laws_FnPointSums_1)))
 (.seq (.seq (.region false [m 190 31,
  p 191 (.bin .neq 190 (k 0)),
  m 192 191,
  ⟨some 193, .p (.move  16), some (192, false), false⟩,
  ⟨some 194, .p (.bin .lss 193 (k 1)), some (192, false), false⟩,
  p 195 (.pick  192 (.c (.bool true)) 194),
  m 196 195,
  ⟨some 197, .p (.move  32), some (196, false), false⟩,
  ⟨some 198, .p (.move  16), some (196, false), false⟩,
  ⟨some 199, .p (.bin .rem 197 198), some (196, false), false⟩,
  ⟨some 200, .p (.bin .neq 199 (k 0)), some (196, false), false⟩,
  p 201 (.pick  196 (.c (.bool true)) 200)])
 (.cond 201
 (.seq (.region false [mc 2 (.c (.bool false))])
 (.ret))
 (.skip)))
 (.seq (.region false [mc 34 (k 0)])
 (.block 4
 (.loop [3, 4, 5, 6, 7, 30, 34] [(.exit 4, [3, 4, 5, 6, 7]), (.ret, [2])] l_laws_FnPointSums_2)))))))
 (.skip)))
 (.seq (.seq (.region false [m 213 7,
  p 214 (.bin .neq 213 (k 0))])
 (.cond 214
 (.seq (.region false [m 215 6,
  p 216 (.len  215),
  p 217 (.bin .eql 216 (k 0)),
  m 2 217])
 (.ret))
 (.skip)))
 (.seq (.region false [o 219 (.load 2 true 3),
  m 220 5,
  m 221 4,
  o 222 (cl n_impl_SumOfPoints [219, 220, 221]),
  m 218 222,
  p 223 (.extract 218 0),
  p 224 (.extract 218 1),
  m 35 223,
  m 36 224])
 (.seq (.seq (.region false [m 225 36,
  p 226 (.bin .neq 225 (k 0)),
  m 227 226,
  ⟨some 228, .p (.move  35), some (227, false), false⟩,
  ⟨some 229, .p (.move  6), some (227, false), false⟩,
  ⟨some 230, cl n_laws_likeInts [228, 229], some (227, false), false⟩,
  ⟨some 231, .p (.un .not 230), some (227, false), false⟩,
  p 232 (.pick  227 (.c (.bool true)) 231)])
 (.cond 232
 (.seq (.region false [mc 2 (.c (.bool false))])
 (.ret))
 (.skip)))
 (.seq (.region false [p 234 (.fieldAddr 0 3),
  o 235 (.load 1 false 234),
  m 236 4,
  p 237 (.len  236),
  o 238 (cl n_impl_MultiplicativeLaw [235, 237, (k 1)]),
  m 233 238,
  p 239 (.extract 233 0),
  p 240 (.extract 233 1),
  o 37 (.box y_t_impl_Plane 2 (.c (.agg #[.int .i64 0, .slice none 0 0]))),
  e (.store 2 37 239),
  m 38 240])
 (.seq (.region false [o 242 (.load 2 true 37),
  m 243 4,
  m 244 5,
  o 245 (cl n_impl_SumOfPoints [242, 243, 244]),
  m 241 245,
  p 246 (.extract 241 0),
  p 247 (.extract 241 1),
  m 39 246,
  m 40 247])
 (.seq (.region true [p 249 (.fieldAddr 0 3),
  ⟨some 250, .load 1 false 249, none, true⟩,
  o 251 (.mkrow y_t_int64 1 1 [.int .i64 0] [(0, (k 1))]),
  m 252 4,
  ⟨some 253, .append y_t_int64 1 8 251 252, none, true⟩,
  p 254 (.build [.int .i64 0, .slice none 0 0] [(0, 1, 250), (1, 1, 253)]),
  p 255 (.fieldAddr 0 3),
  ⟨some 256, .load 1 false 255, none, true⟩,
  o 257 (.mkrow y_t_int64 1 1 [.int .i64 0] [(0, (k 1))]),
  m 258 5,
  ⟨some 259, .append y_t_int64 1 8 257 258, none, true⟩,
  p 260 (.build [.int .i64 0, .slice none 0 0] [(0, 1, 256), (1, 1, 259)]),
  o 261 (cl n_impl_MultiplySeries [254, 260]),
  m 248 261,
  p 262 (.extract 248 0),
  p 263 (.extract 248 1),
  o 41 (.box y_t_impl_Series 2 (.c (.agg #[.int .i64 0, .slice none 0 0]))),
  e (.store 2 41 262),
  m 42 263])
 (.seq (.region true [m 264 38,
  p 265 (.bin .eql 264 (k 0)),
  m 266 265,
  ⟨some 267, .p (.move  40), some (266, true), false⟩,
  ⟨some 268, .p (.bin .eql 267 (k 0)), some (266, true), false⟩,
  p 269 (.pick  266 268 (.c (.bool false))),
  m 270 269,
  ⟨some 271, .p (.move  42), some (270, true), false⟩,
  ⟨some 272, .p (.bin .eql 271 (k 0)), some (270, true), false⟩,
  p 273 (.pick  270 272 (.c (.bool false))),
  m 274 273,
  ⟨some 275, .mkrow y_t_int64 1 1 [.int .i64 0] [(0, (k 1))], some (274, true), false⟩,
  ⟨some 276, .p (.move  39), some (274, true), false⟩,
  ⟨some 277, .append y_t_int64 1 8 275 276, some (274, true), true⟩,
  ⟨some 278, .p (.fieldAddr 1 41), some (274, true), false⟩,
  ⟨some 279, .load 1 false 278, some (274, true), true⟩,
  ⟨some 280, cl n_laws_likeInts [277, 279], some (274, true), false⟩,
  p 281 (.pick  274 280 (.c (.bool false))),
  m 2 281])
 (.ret))))))))))))))))))))))
theorem c_laws_FnPointSums : FF n_laws_FnPointSums = some ⟨282, y_laws_FnPointSums.er, [.tmp 2]⟩ := by kernel_rfl
def p_laws_FnPointSums (a0 : Value) (h : Hp) (R : Value → Hp → Prop) : Prop :=
  CallW FF n_laws_big [a0] h fun v44 h1 => condM v44 (R (.bool true) h1) (CallW FF n_spec_DrawSumOfPoints [a0] h1 fun v47 h2 => bindO (extractV 0 v47) fun v48 => bindO (extractV 1 v47) fun v49 => bindO (extractV 2 v47) fun v50 => bindO (boxV 2 (.agg #[.int .i64 0, .slice none 0 0])) fun c3 => newB h2 ⟨c3, y_t_impl_Plane, true⟩ fun b3 h3 => bindO (storeV 2 h3 v48 (.pointer (some ⟨b3, 0, none⟩))) fun h4 => bindO (ldV 2 true h4 (.pointer (some ⟨b3, 0, none⟩))) fun v52 => CallW FF n_impl_SumOfPoints [v52, v49, v50] h4 fun v55 h5 => bindO (extractV 0 v55) fun v56 => bindO (extractV 1 v55) fun v57 => bindO (ldV 2 true h5 (.pointer (some ⟨b3, 0, none⟩))) fun v59 => CallW FF n_spec_SumOfPoints [v59, v49, v50] h5 fun v62 h6 => bindO (extractV 0 v62) fun v63 => bindO (extractV 1 v62) fun v64 => bindO (binV .neq v57 v64) fun v67 => condM v67 (R (.bool false) h6) (CallW FF n_laws_likeInts [v56, v63] h6 fun v71 h7 => bindO (unV .not v71) fun v72 => condM v72 (R (.bool false) h7) (CallW FF n_spec_DrawOppositePoint [a0] h7 fun v76 h8 => bindO (extractV 0 v76) fun v77 => bindO (extractV 1 v76) fun v78 => bindO (boxV 2 (.agg #[.int .i64 0, .slice none 0 0])) fun c10 => newB h8 ⟨c10, y_t_impl_Plane, true⟩ fun b10 h9 => bindO (storeV 2 h9 v77 (.pointer (some ⟨b10, 0, none⟩))) fun h10 => bindO (ldV 2 true h10 (.pointer (some ⟨b10, 0, none⟩))) fun v80 => CallW FF n_impl_OppositePoint [v80, v78] h10 fun v82 h11 => bindO (extractV 0 v82) fun v83 => bindO (extractV 1 v82) fun v84 => bindO (ldV 2 true h11 (.pointer (some ⟨b10, 0, none⟩))) fun v86 => CallW FF n_spec_OppositePoint [v86, v78] h11 fun v88 h12 => bindO (extractV 0 v88) fun v89 => bindO (extractV 1 v88) fun v90 => bindO (binV .neq v84 v90) fun v93 => condM v93 (R (.bool false) h12) (CallW FF n_laws_likeInts [v83, v89] h12 fun v97 h13 => bindO (unV .not v97) fun v98 => condM v98 (R (.bool false) h13) (bindO (ldV 2 true h13 (.pointer (some ⟨b10, 0, none⟩))) fun v101 => CallW FF n_impl_OrderOfPointUnder [v101, v78] h13 fun v103 h14 => bindO (extractV 0 v103) fun v104 => bindO (extractV 1 v103) fun v105 => bindO (ldV 2 true h14 (.pointer (some ⟨b10, 0, none⟩))) fun v107 => CallW FF n_spec_OrderOfPointUnder [v107, v78] h14 fun v109 h15 => bindO (extractV 0 v109) fun v110 => bindO (extractV 1 v109) fun v111 => bindO (binV .neq v105 v111) fun v114 => condM v114 (R (.bool false) h15) (bindO (binV .neq v104 v110) fun v118 => condM v118 (R (.bool false) h15) (CallW FF n_spec_DrawMultipleOfPoint [a0] h15 fun v122 h16 => bindO (extractV 0 v122) fun v123 => bindO (extractV 1 v122) fun v124 => bindO (extractV 2 v122) fun v125 => bindO (boxV 2 (.agg #[.int .i64 0, .slice none 0 0])) fun c20 => newB h16 ⟨c20, y_t_impl_Plane, true⟩ fun b20 h17 => bindO (storeV 2 h17 v123 (.pointer (some ⟨b20, 0, none⟩))) fun h18 => bindO (ldV 2 true h18 (.pointer (some ⟨b20, 0, none⟩))) fun v127 => CallW FF n_impl_MultipleOfPoint [v127, v124, v125] h18 fun v130 h19 => bindO (extractV 0 v130) fun v131 => bindO (extractV 1 v130) fun v132 => bindO (ldV 2 true h19 (.pointer (some ⟨b20, 0, none⟩))) fun v134 => CallW FF n_spec_MultipleOfPoint [v134, v124, v125] h19 fun v137 h20 => bindO (extractV 0 v137) fun v138 => bindO (extractV 1 v137) fun v139 => bindO (binV .neq v132 v139) fun v142 => condM v142 (R (.bool false) h20) (CallW FF n_laws_likeInts [v131, v138] h20 fun v146 h21 => bindO (unV .not v146) fun v147 => condM v147 (R (.bool false) h21) (JN (fun J => bindO (binV .eql v84 (.int .i64 0)) fun v150 => condM v150 (bindO (ldV 2 true h21 (.pointer (some ⟨b10, 0, none⟩))) fun v152 => CallW FF n_impl_SumOfPoints [v152, v78, v83] h21 fun v155 h22 => bindO (extractV 0 v155) fun v156 => bindO (extractV 1 v155) fun v157 => bindO (binV .neq v157 (.int .i64 0)) fun v159 => condM v159 (R (.bool false) h22) (LP FF (YC.er l_laws_FnPointSums_0) [3, 4, 5, 6, 7, 10, 11, 16, 17, 27, 29] [(.exit 0, [3, 4, 5, 6, 7, 10, 11, 16, 17], fun vs h23 => ∀ e : Env, [e 3, e 4, e 5, e 6, e 7, e 10, e 11, e 16, e 17] = vs → J [(e 3), (e 4), (e 5), (e 6), (e 7), (e 10), (e 11), (e 16), (e 17)] h23), (.ret, [2], fun vs h23 => ∀ e : Env, [e 2] = vs → R (e 2) h23)] [(.pointer (some ⟨b3, 0, none⟩)), v49, v50, v56, v57, (.pointer (some ⟨b10, 0, none⟩)), v78, v104, v105, v156, (.int .i64 0)] h22)) (J [(.pointer (some ⟨b3, 0, none⟩)), v49, v50, v56, v57, (.pointer (some ⟨b10, 0, none⟩)), v78, v104, v105] h21)) fun vs h22 => ∀ e : Env, [e 3, e 4, e 5, e 6, e 7, e 10, e 11, e 16, e 17] = vs → JN (fun J => bindO (binV .eql (e 17) (.int .i64 0)) fun v172 => condM v172 (bindO (ldV 2 true h22 (e 10)) fun v174 => CallW FF n_impl_MultipleOfPoint [v174, (e 16), (e 11)] h22 fun v177 h23 => bindO (extractV 0 v177) fun v178 => bindO (extractV 1 v177) fun v179 => LP FF (YC.er l_laws_FnPointSums_1) [3, 4, 5, 6, 7, 10, 11, 16, 30, 31, 32, 33] [(.exit 2, [3, 4, 5, 6, 7, 16, 30, 31, 32], fun vs_1 h24 => ∀ e_1 : Env, [e_1 3, e_1 4, e_1 5, e_1 6, e_1 7, e_1 16, e_1 30, e_1 31, e_1 32] = vs_1 → bindO (binV .neq (e_1 31) (.int .i64 0)) fun v191 => condM v191 (R (.bool false) h24) (bindO (binV .lss (e_1 16) (.int .i64 1)) fun v194 => condM v194 (R (.bool false) h24) (bindO (binV .rem (e_1 32) (e_1 16)) fun v199 => bindO (binV .neq v199 (.int .i64 0)) fun v200 => condM v200 (R (.bool false) h24) (LP FF (YC.er l_laws_FnPointSums_2) [3, 4, 5, 6, 7, 30, 34] [(.exit 4, [3, 4, 5, 6, 7], fun vs_2 h25 => ∀ e_2 : Env, [e_2 3, e_2 4, e_2 5, e_2 6, e_2 7] = vs_2 → J [(e_2 3), (e_2 4), (e_2 5), (e_2 6), (e_2 7)] h25), (.ret, [2], fun vs_2 h25 => ∀ e_2 : Env, [e_2 2] = vs_2 → R (e_2 2) h25)] [(e_1 3), (e_1 4), (e_1 5), (e_1 6), (e_1 7), (e_1 30), (.int .i64 0)] h24))))] [(e 3), (e 4), (e 5), (e 6), (e 7), (e 10), (e 11), (e 16), v178, v179, (.int .i64 1), (.int .i64 0)] h23) (J [(e 3), (e 4), (e 5), (e 6), (e 7)] h22)) fun vs_1 h23 => ∀ e_1 : Env, [e_1 3, e_1 4, e_1 5, e_1 6, e_1 7] = vs_1 → bindO (binV .neq (e_1 7) (.int .i64 0)) fun v214 => condM v214 (bindO (lenV  (e_1 6)) fun v216 => bindO (binV .eql v216 (.int .i64 0)) fun v217 => R v217 h23) (bindO (ldV 2 true h23 (e_1 3)) fun v219 => CallW FF n_impl_SumOfPoints [v219, (e_1 5), (e_1 4)] h23 fun v222 h24 => bindO (extractV 0 v222) fun v223 => bindO (extractV 1 v222) fun v224 => bindO (binV .neq v224 (.int .i64 0)) fun v226 => condM v226 (R (.bool false) h24) (CallW FF n_laws_likeInts [v223, (e_1 6)] h24 fun v230 h25 => bindO (unV .not v230) fun v231 => condM v231 (R (.bool false) h25) (bindO (fieldAddrV 0 (e_1 3)) fun v234 => bindO (ldV 1 false h25 v234) fun v235 => bindO (lenV  (e_1 4)) fun v237 => CallW FF n_impl_MultiplicativeLaw [v235, v237, (.int .i64 1)] h25 fun v238 h26 => bindO (extractV 0 v238) fun v239 => bindO (extractV 1 v238) fun v240 => bindO (boxV 2 (.agg #[.int .i64 0, .slice none 0 0])) fun c37 => newB h26 ⟨c37, y_t_impl_Plane, true⟩ fun b37 h27 => bindO (storeV 2 h27 v239 (.pointer (some ⟨b37, 0, none⟩))) fun h28 => bindO (ldV 2 true h28 (.pointer (some ⟨b37, 0, none⟩))) fun v242 => CallW FF n_impl_SumOfPoints [v242, (e_1 4), (e_1 5)] h28 fun v245 h29 => bindO (extractV 0 v245) fun v246 => bindO (extractV 1 v245) fun v247 => bindO (fieldAddrV 0 (e_1 3)) fun v249 => inB h29.nx v249 ∧ (bindO (ldV 1 false h29 v249) fun v250 => bindO (rowV 1 1 [.int .i64 0] [(0, (.int .i64 1))]) fun c251 => newB h29 ⟨c251, y_t_int64, true⟩ fun b251 h30 => bindVH (appendV y_t_int64 1 h30 (.slice (some ⟨b251, 0, none⟩) 1 1) (e_1 4)) fun v253 h31 => keepB h29.nx h30 h31 ∧ (bindO ((fillX [.int .i64 0, .slice none 0 0] [(0, 1, v250), (1, 1, v253)]).map fun cs => Value.agg cs.toArray) fun v254 => bindO (fieldAddrV 0 (e_1 3)) fun v255 => inB h29.nx v255 ∧ (bindO (ldV 1 false h31 v255) fun v256 => bindO (rowV 1 1 [.int .i64 0] [(0, (.int .i64 1))]) fun c257 => newB h31 ⟨c257, y_t_int64, true⟩ fun b257 h32 => bindVH (appendV y_t_int64 1 h32 (.slice (some ⟨b257, 0, none⟩) 1 1) (e_1 5)) fun v259 h33 => keepB h29.nx h32 h33 ∧ (bindO ((fillX [.int .i64 0, .slice none 0 0] [(0, 1, v256), (1, 1, v259)]).map fun cs => Value.agg cs.toArray) fun v260 => CallW FF n_impl_MultiplySeries [v254, v260] h33 fun v261 h34 => bindO (extractV 0 v261) fun v262 => bindO (extractV 1 v261) fun v263 => bindO (boxV 2 (.agg #[.int .i64 0, .slice none 0 0])) fun c41 => newB h34 ⟨c41, y_t_impl_Series, true⟩ fun b41 h35 => bindO (storeV 2 h35 v262 (.pointer (some ⟨b41, 0, none⟩))) fun h36 => bindO (binV .eql v240 (.int .i64 0)) fun v265 => condM v265 (bindO (binV .eql v247 (.int .i64 0)) fun v268 => condM v268 (bindO (binV .eql v263 (.int .i64 0)) fun v272 => condM v272 (bindO (rowV 1 1 [.int .i64 0] [(0, (.int .i64 1))]) fun c275 => newB h36 ⟨c275, y_t_int64, true⟩ fun b275 h37 => bindVH (appendV y_t_int64 1 h37 (.slice (some ⟨b275, 0, none⟩) 1 1) v246) fun v277 h38 => keepB h36.nx h37 h38 ∧ (bindO (fieldAddrV 1 (.pointer (some ⟨b41, 0, none⟩))) fun v278 => inB h36.nx v278 ∧ (bindO (ldV 1 false h38 v278) fun v279 => CallW FF n_laws_likeInts [v277, v279] h38 fun v280 h39 => R v280 h39))) (R (.bool false) h36)) (R (.bool false) h36)) (R (.bool false) h36)))))))))))))))))
theorem w_laws_FnPointSums {a0 : Value} {h : Hp} {R : Value → Hp → Prop} (H : p_laws_FnPointSums a0 h R) : CallW FF n_laws_FnPointSums [a0] h R := callV_fin c_laws_FnPointSums (Eq.mp (by kernel_rfl) H)
def y_laws_big : YC :=
  .seq (.region false [mc 2 (.c (.bool false))])
 (.seq (.region false [m 3 0,
  p 4 (.len  3),
  p 5 (.bin .gtr 4 (k 4096)),
  m 2 5])
 (.ret))
theorem c_laws_big : FF n_laws_big = some ⟨6, y_laws_big.er, [.tmp 2]⟩ := by kernel_rfl
def p_laws_big (a0 : Value) (h : Hp) (R : Value → Hp → Prop) : Prop :=
  bindO (lenV  a0) fun v4 => bindO (binV .gtr v4 (.int .i64 4096)) fun v5 => R v5 h
theorem w_laws_big {a0 : Value} {h : Hp} {R : Value → Hp → Prop} (H : p_laws_big a0 h R) : CallW FF n_laws_big [a0] h R := callV_fin c_laws_big (Eq.mp (by kernel_rfl) H)
def y_spec_DrawSumOfPoints : YC :=
  .seq (.region false [o 2 (.box y_t_impl_Plane 2 (.c (.agg #[.int .i64 0, .slice none 0 0]))),
  mc 3 (.c (.slice none 0 0)),
  mc 4 (.c (.slice none 0 0))])
 (.seq (.region false [m 8 0,
  o 9 (cl n_spec_l16Draw [8, (k 2)]),
  m 7 9,
  p 10 (.extract 7 0),
  p 11 (.extract 7 1),
  o 5 (.box y_t_impl_Plane 2 (.c (.agg #[.int .i64 0, .slice none 0 0]))),
  e (.store 2 5 10),
  m 6 11])
 (.seq (.regionG [o 12 (.load 2 true 5),
  m 13 6,
  p 14 (.indexAddr 1 13 (k 0)),
  ⟨some 15, .load 1 false 14, none, true⟩,
  m 16 6,
  p 17 (.indexAddr 1 16 (k 1)),
  ⟨some 18, .load 1 false 17, none, true⟩,
  ⟨none, .store 2 2 12, none, true⟩,
  m 3 15,
  m 4 18])
 (.ret)))
theorem c_spec_DrawSumOfPoints : FF n_spec_DrawSumOfPoints = some ⟨19, y_spec_DrawSumOfPoints.er, [.cell 2 2 true, .tmp 3, .tmp 4]⟩ := by kernel_rfl
def p_spec_DrawSumOfPoints (a0 : Value) (h : Hp) (R : Value → Hp → Prop) : Prop :=
  bindO (boxV 2 (.agg #[.int .i64 0, .slice none 0 0])) fun c2 => newB h ⟨c2, y_t_impl_Plane, true⟩ fun b2 h1 => CallW FF n_spec_l16Draw [a0, (.int .i64 2)] h1 fun v9 h2 => bindO (extractV 0 v9) fun v10 => bindO (extractV 1 v9) fun v11 => bindO (boxV 2 (.agg #[.int .i64 0, .slice none 0 0])) fun c5 => newB h2 ⟨c5, y_t_impl_Plane, true⟩ fun b5 h3 => bindO (storeV 2 h3 v10 (.pointer (some ⟨b5, 0, none⟩))) fun h4 => ∃ P : Nat → Prop, (∀ b, P b → b < h4.nx) ∧ (bindO (ldV 2 true h4 (.pointer (some ⟨b5, 0, none⟩))) fun v12 => bindO (indexAddrV 1 v11 (.int .i64 0)) fun v14 => inP P v14 ∧ (bindO (ldV 1 false h4 v14) fun v15 => bindO (indexAddrV 1 v11 (.int .i64 1)) fun v17 => inP P v17 ∧ (bindO (ldV 1 false h4 v17) fun v18 => bindO (storeV 2 h4 v12 (.pointer (some ⟨b2, 0, none⟩))) fun h5 => keepP P h4 h5 ∧ (bindO (ldV 2 true h5 (.pointer (some ⟨b2, 0, none⟩))) fun r2 => R (.tuple #[r2, v15, v18]) h5))))
theorem w_spec_DrawSumOfPoints {a0 : Value} {h : Hp} {R : Value → Hp → Prop} (H : p_spec_DrawSumOfPoints a0 h R) : CallW FF n_spec_DrawSumOfPoints [a0] h R := callV_fin c_spec_DrawSumOfPoints (Eq.mp (by kernel_rfl) H)
def y_impl_SumOfPoints : YC :=
  .seq (.region false [o 3 (.box y_t_impl_Plane 2 0),
  mc 6 (.c (.slice none 0 0)),
  mc 7 (k 0)])
 (.seq (.seq (.region false [o 10 (.load 2 true 3),
  m 11 1,
  p 12 (.len  11),
  m 13 1,
  m 14 2,
  o 15 (.mkrow y_t_Lint64 1 2 [.slice none 0 0] [(0, 13), (1, 14)]),
  o 16 (cl n_impl_pointed [10, 12, 15]),
  m 8 16])
 (.seq (.region false [m 17 8,
  p 18 (.bin .neq 17 (k 0))])
 (.cond 18
 (.seq (.region false [m 19 8,
  mc 6 (.c (.slice none 0 0)),
  m 7 19])
 (.ret))
 (.skip))))
 (.seq (.region false [o 20 (.load 2 true 3),
  m 21 1,
  p 22 (.len  21),
  o 23 (cl n_impl_Plane_cut [20, 22]),
  o 9 (.box y_t_impl_Plane 2 (.c (.agg #[.int .i64 0, .slice none 0 0]))),
  e (.store 2 9 23)])
 (.seq (.region true [⟨some 24, .load 2 true 9, none, true⟩,
  p 25 (.fieldAddr 0 3),
  o 26 (.load 1 false 25),
  m 27 1,
  ⟨some 28, cl n_impl_curveOf [26, 27], none, true⟩,
  p 29 (.fieldAddr 0 3),
  ⟨some 30, .load 1 false 29, none, true⟩,
  m 31 2,
  ⟨some 32, cl n_impl_curveOf [30, 31], none, true⟩,
  o 33 (cl n_impl_Plane_curves [24, 28, 32]),
  p 34 (.field 1 1 false 33),
  p 35 (.slice 1 34 (some (k 1)) none),
  m 6 35,
  mc 7 (k 0)])
 (.ret))))
theorem c_impl_SumOfPoints : FF n_impl_SumOfPoints = some ⟨36, y_impl_SumOfPoints.er, [.tmp 6, .tmp 7]⟩ := by kernel_rfl
def p_impl_SumOfPoints (a0 a1 a2 : Value) (h : Hp) (R : Value → Hp → Prop) : Prop :=
  bindO (boxV 2 a0) fun c3 => newB h ⟨c3, y_t_impl_Plane, true⟩ fun b3 h1 => bindO (ldV 2 true h1 (.pointer (some ⟨b3, 0, none⟩))) fun v10 => bindO (lenV  a1) fun v12 => bindO (rowV 1 2 [.slice none 0 0] [(0, a1), (1, a2)]) fun c15 => newB h1 ⟨c15, y_t_Lint64, true⟩ fun b15 h2 => CallW FF n_impl_pointed [v10, v12, (.slice (some ⟨b15, 0, none⟩) 2 1)] h2 fun v16 h3 => bindO (binV .neq v16 (.int .i64 0)) fun v18 => condM v18 (R (.tuple #[(.slice none 0 0), v16]) h3) (bindO (ldV 2 true h3 (.pointer (some ⟨b3, 0, none⟩))) fun v20 => bindO (lenV  a1) fun v22 => CallW FF n_impl_Plane_cut [v20, v22] h3 fun v23 h4 => bindO (boxV 2 (.agg #[.int .i64 0, .slice none 0 0])) fun c9 => newB h4 ⟨c9, y_t_impl_Plane, true⟩ fun b9 h5 => bindO (storeV 2 h5 v23 (.pointer (some ⟨b9, 0, none⟩))) fun h6 => inB h6.nx (.pointer (some ⟨b9, 0, none⟩)) ∧ (bindO (ldV 2 true h6 (.pointer (some ⟨b9, 0, none⟩))) fun v24 => bindO (fieldAddrV 0 (.pointer (some ⟨b3, 0, none⟩))) fun v25 => bindO (ldV 1 false h6 v25) fun v26 => CallW FF n_impl_curveOf [v26, a1] h6 fun v28 h7 => keepB h6.nx h6 h7 ∧ (bindO (fieldAddrV 0 (.pointer (some ⟨b3, 0, none⟩))) fun v29 => inB h6.nx v29 ∧ (bindO (ldV 1 false h7 v29) fun v30 => CallW FF n_impl_curveOf [v30, a2] h7 fun v32 h8 => keepB h6.nx h7 h8 ∧ (CallW FF n_impl_Plane_curves [v24, v28, v32] h8 fun v33 h9 => bindO (fieldV 1 1 false v33) fun v34 => bindO (sliceV 1 (some (.int .i64 1)) none v34) fun v35 => R (.tuple #[v35, (.int .i64 0)]) h9)))))
theorem w_impl_SumOfPoints {a0 a1 a2 : Value} {h : Hp} {R : Value → Hp → Prop} (H : p_impl_SumOfPoints a0 a1 a2 h R) : CallW FF n_impl_SumOfPoints [a0, a1, a2] h R := callV_fin c_impl_SumOfPoints (Eq.mp (by kernel_rfl) H)
def y_spec_SumOfPoints : YC :=
  .seq (.region false [o 3 (.box y_t_impl_Plane 2 0),
  mc 6 (.c (.slice none 0 0)),
  mc 7 (k 0)])
 (.seq (.seq (.region false [o 9 (.load 2 true 3),
  m 10 1,
  m 11 2,
  o 12 (.mkrow y_t_Lint64 1 2 [.slice none 0 0] [(0, 10), (1, 11)]),
  o 13 (cl n_spec_l16Code [9, 12]),
  m 8 13])
 (.seq (.region false [m 14 8,
  p 15 (.bin .neq 14 (k 0))])
 (.cond 15
 (.seq (.region false [m 16 8,
  mc 6 (.c (.slice none 0 0)),
  m 7 16])
 (.ret))
 (.skip))))
 (.seq (.region false [o 17 (.load 2 true 3),
  m 18 1,
  p 19 (.len  18),
  o 20 (cl n_spec_l16Cut [17, 19]),
  m 21 1,
  m 22 2,
  o 23 (cl n_spec_l16Add [20, 21, 22]),
  o 24 (cl n_spec_l01Own [23]),
  m 6 24,
  mc 7 (k 0)])
 (.ret)))
theorem c_spec_SumOfPoints : FF n_spec_SumOfPoints = some ⟨25, y_spec_SumOfPoints.er, [.tmp 6, .tmp 7]⟩ := by kernel_rfl
def p_spec_SumOfPoints (a0 a1 a2 : Value) (h : Hp) (R : Value → Hp → Prop) : Prop :=
  bindO (boxV 2 a0) fun c3 => newB h ⟨c3, y_t_impl_Plane, true⟩ fun b3 h1 => bindO (ldV 2 true h1 (.pointer (some ⟨b3, 0, none⟩))) fun v9 => bindO (rowV 1 2 [.slice none 0 0] [(0, a1), (1, a2)]) fun c12 => newB h1 ⟨c12, y_t_Lint64, true⟩ fun b12 h2 => CallW FF n_spec_l16Code [v9, (.slice (some ⟨b12, 0, none⟩) 2 1)] h2 fun v13 h3 => bindO (binV .neq v13 (.int .i64 0)) fun v15 => condM v15 (R (.tuple #[(.slice none 0 0), v13]) h3) (bindO (ldV 2 true h3 (.pointer (some ⟨b3, 0, none⟩))) fun v17 => bindO (lenV  a1) fun v19 => CallW FF n_spec_l16Cut [v17, v19] h3 fun v20 h4 => CallW FF n_spec_l16Add [v20, a1, a2] h4 fun v23 h5 => CallW FF n_spec_l01Own [v23] h5 fun v24 h6 => R (.tuple #[v24, (.int .i64 0)]) h6)
theorem w_spec_SumOfPoints {a0 a1 a2 : Value} {h : Hp} {R : Value → Hp → Prop} (H : p_spec_SumOfPoints a0 a1 a2 h R) : CallW FF n_spec_SumOfPoints [a0, a1, a2] h R := callV_fin c_spec_SumOfPoints (Eq.mp (by kernel_rfl) H)
def l_laws_likeInts_0 : YC :=
  .seq (.seq (.region false [m 11 5,
  m 12 0,
  p 13 (.len  12),
  p 14 (.bin .lss 11 13)])
 (.cond 14
 (.skip)
 (.exit 0)))
 (.seq (.block 1
 (.seq (.region false [m 17 0,
  m 18 5,
  p 19 (.indexAddr 1 17 18),
  o 20 (.load 1 false 19),
  m 21 1,
  m 22 5,
  p 23 (.indexAddr 1 21 22),
  o 24 (.load 1 false 23),
  p 25 (.bin .neq 20 24)])
 (.cond 25
 (.seq (.region false [mc 4 (.c (.bool false))])
 (.ret))
 (.skip))))
 (.region false [m 15 5,
  p 16 (.bin .add 15 (k 1)),
  m 5 16]))
def q_laws_likeInts_0 (a0 a1 a5 : Value) (h : Hp) (K K0 K1 : Kont) : Prop :=
  bindO (lenV  a0) fun v13 => bindO (binV .lss a5 v13) fun v14 => condM v14 (bindO (indexAddrV 1 a0 a5) fun v19 => bindO (ldV 1 false h v19) fun v20 => bindO (indexAddrV 1 a1 a5) fun v23 => bindO (ldV 1 false h v23) fun v24 => bindO (binV .neq v20 v24) fun v25 => condM v25 (K1 [(.bool false)] h) (bindO (binV .add a5 (.int .i64 1)) fun v16 => K [a0, a1, v16] h)) (K0 [] h)
theorem wl_laws_likeInts_0 {a0 a1 a5 : Value} {h : Hp} {K K0 K1 : Kont} (H : q_laws_likeInts_0 a0 a1 a5 h K K0 K1) : ∀ e : Env, [e 0, e 1, e 5] = [a0, a1, a5] → V FF l_laws_likeInts_0 (qsel [0, 1, 5] K [(.exit 0, [], K0), (.ret, [4], K1)]) ⟨e, h⟩ := by
  intro e he; cases he; exact Eq.mp (by kernel_rfl) H
def y_laws_likeInts : YC :=
  .seq (.region false [mc 4 (.c (.bool false))])
 (.seq (.seq (.region false [m 6 0,
  p 7 (.len  6),
  m 8 1,
  p 9 (.len  8),
  p 10 (.bin .neq 7 9)])
 (.cond 10
 (.seq (.region false [mc 4 (.c (.bool false))])
 (.ret))
 (.skip)))
 (.seq (.seq (.region false [mc 5 (k 0)])
 (.block 0
 (.loop [0, 1, 5] [(.exit 0, []), (.ret, [4])] l_laws_likeInts_0)))
 (.seq (.region false [mc 4 (.c (.bool true))])
 (.ret))))
theorem c_laws_likeInts : FF n_laws_likeInts = some ⟨26, y_laws_likeInts.er, [.tmp 4]⟩ := by kernel_rfl
def p_laws_likeInts (a0 a1 : Value) (h : Hp) (R : Value → Hp → Prop) : Prop :=
  bindO (lenV  a0) fun v7 => bindO (lenV  a1) fun v9 => bindO (binV .neq v7 v9) fun v10 => condM v10 (R (.bool false) h) (LP FF (YC.er l_laws_likeInts_0) [0, 1, 5] [(.exit 0, [], fun vs h1 => ∀ e : Env, [] = vs → R (.bool true) h1), (.ret, [4], fun vs h1 => ∀ e : Env, [e 4] = vs → R (e 4) h1)] [a0, a1, (.int .i64 0)] h)
theorem w_laws_likeInts {a0 a1 : Value} {h : Hp} {R : Value → Hp → Prop} (H : p_laws_likeInts a0 a1 h R) : CallW FF n_laws_likeInts [a0, a1] h R := callV_fin c_laws_likeInts (Eq.mp (by kernel_rfl) H)
def y_spec_DrawOppositePoint : YC :=
  .seq (.region false [o 2 (.box y_t_impl_Plane 2 (.c (.agg #[.int .i64 0, .slice none 0 0]))),
  mc 3 (.c (.slice none 0 0))])
 (.seq (.region false [m 7 0,
  o 8 (cl n_spec_l16Draw [7, (k 1)]),
  m 6 8,
  p 9 (.extract 6 0),
  p 10 (.extract 6 1),
  o 4 (.box y_t_impl_Plane 2 (.c (.agg #[.int .i64 0, .slice none 0 0]))),
  e (.store 2 4 9),
  m 5 10])
 (.seq (.regionG [o 11 (.load 2 true 4),
  m 12 5,
  p 13 (.indexAddr 1 12 (k 0)),
  ⟨some 14, .load 1 false 13, none, true⟩,
  ⟨none, .store 2 2 11, none, true⟩,
  m 3 14])
 (.ret)))
theorem c_spec_DrawOppositePoint : FF n_spec_DrawOppositePoint = some ⟨15, y_spec_DrawOppositePoint.er, [.cell 2 2 true, .tmp 3]⟩ := by kernel_rfl
def p_spec_DrawOppositePoint (a0 : Value) (h : Hp) (R : Value → Hp → Prop) : Prop :=
  bindO (boxV 2 (.agg #[.int .i64 0, .slice none 0 0])) fun c2 => newB h ⟨c2, y_t_impl_Plane, true⟩ fun b2 h1 => CallW FF n_spec_l16Draw [a0, (.int .i64 1)] h1 fun v8 h2 => bindO (extractV 0 v8) fun v9 => bindO (extractV 1 v8) fun v10 => bindO (boxV 2 (.agg #[.int .i64 0, .slice none 0 0])) fun c4 => newB h2 ⟨c4, y_t_impl_Plane, true⟩ fun b4 h3 => bindO (storeV 2 h3 v9 (.pointer (some ⟨b4, 0, none⟩))) fun h4 => ∃ P : Nat → Prop, (∀ b, P b → b < h4.nx) ∧ (bindO (ldV 2 true h4 (.pointer (some ⟨b4, 0, none⟩))) fun v11 => bindO (indexAddrV 1 v10 (.int .i64 0)) fun v13 => inP P v13 ∧ (bindO (ldV 1 false h4 v13) fun v14 => bindO (storeV 2 h4 v11 (.pointer (some ⟨b2, 0, none⟩))) fun h5 => keepP P h4 h5 ∧ (bindO (ldV 2 true h5 (.pointer (some ⟨b2, 0, none⟩))) fun r2 => R (.tuple #[r2, v14]) h5)))
theorem w_spec_DrawOppositePoint {a0 : Value} {h : Hp} {R : Value → Hp → Prop} (H : p_spec_DrawOppositePoint a0 h R) : CallW FF n_spec_DrawOppositePoint [a0] h R := callV_fin c_spec_DrawOppositePoint (Eq.mp (by kernel_rfl) H)
def y_impl_OppositePoint : YC :=
  .seq (.region false [o 2 (.box y_t_impl_Plane 2 0),
  mc 4 (.c (.slice none 0 0)),
  mc 5 (k 0)])
 (.seq (.region false [o 6 (.load 2 true 2),
  m 7 1,
  o 8 (cl n_impl_MultipleOfPoint [6, (k (-1)), 7]),
  p 9 (.extract 8 0),
  p 10 (.extract 8 1),
  m 4 9,
  m 5 10])
 (.ret))
theorem c_impl_OppositePoint : FF n_impl_OppositePoint = some ⟨11, y_impl_OppositePoint.er, [.tmp 4, .tmp 5]⟩ := by kernel_rfl
def p_impl_OppositePoint (a0 a1 : Value) (h : Hp) (R : Value → Hp → Prop) : Prop :=
  bindO (boxV 2 a0) fun c2 => newB h ⟨c2, y_t_impl_Plane, true⟩ fun b2 h1 => bindO (ldV 2 true h1 (.pointer (some ⟨b2, 0, none⟩))) fun v6 => CallW FF n_impl_MultipleOfPoint [v6, (.int .i64 (-1)), a1] h1 fun v8 h2 => bindO (extractV 0 v8) fun v9 => bindO (extractV 1 v8) fun v10 => R (.tuple #[v9, v10]) h2
theorem w_impl_OppositePoint {a0 a1 : Value} {h : Hp} {R : Value → Hp → Prop} (H : p_impl_OppositePoint a0 a1 h R) : CallW FF n_impl_OppositePoint [a0, a1] h R := callV_fin c_impl_OppositePoint (Eq.mp (by kernel_rfl) H)
def y_spec_OppositePoint : YC :=
  .seq (.region false [o 2 (.box y_t_impl_Plane 2 0),
  mc 4 (.c (.slice none 0 0)),
  mc 5 (k 0)])
 (.seq (.seq (.region false [o 7 (.load 2 true 2),
  m 8 1,
  o 9 (.mkrow y_t_Lint64 1 1 [.slice none 0 0] [(0, 8)]),
  o 10 (cl n_spec_l16Code [7, 9]),
  m 6 10])
 (.seq (.region false [m 11 6,
  p 12 (.bin .neq 11 (k 0))])
 (.cond 12
 (.seq (.region false [m 13 6,
  mc 4 (.c (.slice none 0 0)),
  m 5 13])
 (.ret))
 (.skip))))
 (.seq (.region false [o 14 (.load 2 true 2),
  m 15 1,
  p 16 (.len  15),
  o 17 (cl n_spec_l16Cut [14, 16]),
  m 18 1,
  o 19 (cl n_spec_l16Multiple [17, (k (-1)), 18]),
  o 20 (cl n_spec_l01Own [19]),
  m 4 20,
  mc 5 (k 0)])
 (.ret)))
theorem c_spec_OppositePoint : FF n_spec_OppositePoint = some ⟨21, y_spec_OppositePoint.er, [.tmp 4, .tmp 5]⟩ := by kernel_rfl
def p_spec_OppositePoint (a0 a1 : Value) (h : Hp) (R : Value → Hp → Prop) : Prop :=
  bindO (boxV 2 a0) fun c2 => newB h ⟨c2, y_t_impl_Plane, true⟩ fun b2 h1 => bindO (ldV 2 true h1 (.pointer (some ⟨b2, 0, none⟩))) fun v7 => bindO (rowV 1 1 [.slice none 0 0] [(0, a1)]) fun c9 => newB h1 ⟨c9, y_t_Lint64, true⟩ fun b9 h2 => CallW FF n_spec_l16Code [v7, (.slice (some ⟨b9, 0, none⟩) 1 1)] h2 fun v10 h3 => bindO (binV .neq v10 (.int .i64 0)) fun v12 => condM v12 (R (.tuple #[(.slice none 0 0), v10]) h3) (bindO (ldV 2 true h3 (.pointer (some ⟨b2, 0, none⟩))) fun v14 => bindO (lenV  a1) fun v16 => CallW FF n_spec_l16Cut [v14, v16] h3 fun v17 h4 => CallW FF n_spec_l16Multiple [v17, (.int .i64 (-1)), a1] h4 fun v19 h5 => CallW FF n_spec_l01Own [v19] h5 fun v20 h6 => R (.tuple #[v20, (.int .i64 0)]) h6)
theorem w_spec_OppositePoint {a0 a1 : Value} {h : Hp} {R : Value → Hp → Prop} (H : p_spec_OppositePoint a0 a1 h R) : CallW FF n_spec_OppositePoint [a0, a1] h R := callV_fin c_spec_OppositePoint (Eq.mp (by kernel_rfl) H)
def l_impl_OrderOfPointUnder_0 : YC :=
  .seq (.seq (.region false [m 44 7,
  m 45 11,
  p 46 (.indexAddr 1 45 (k 0)),
  o 47 (.load 1 false 46),
  p 48 (.bin .rem 44 47),
  p 49 (.bin .eql 48 (k 0)),
  m 50 49,
  ⟨some 51, .load 2 true 8, some (50, true), false⟩,
  ⟨some 52, .p (.move  7), some (50, true), false⟩,
  ⟨some 53, .p (.move  11), some (50, true), false⟩,
  ⟨some 54, .p (.indexAddr 1 53 (k 0)), some (50, true), false⟩,
  ⟨some 55, .load 1 false 54, some (50, true), false⟩,
  ⟨some 56, .p (.bin .quo 52 55), some (50, true), false⟩,
  ⟨some 57, .load 2 true 9, some (50, true), false⟩,
  ⟨some 58, cl n_impl_Plane_kills [51, 56, 57], some (50, true), false⟩,
  p 59 (.pick  50 58 (.c (.bool false)))])
 (.cond 59
 (.skip)
 (.exit 2)))
 (.block 3
 (.region false [m 60 7,
  m 61 11,
  p 62 (.indexAddr 1 61 (k 0)),
  o 63 (.load 1 false 62),
  p 64 (.bin .quo 60 63),
  m 7 64]))
def q_impl_OrderOfPointUnder_0 (a7 a8 a9 a11 a38 a39 a40 : Value) (h : Hp) (K K0 : Kont) : Prop :=
  bindO (indexAddrV 1 a11 (.int .i64 0)) fun v46 => bindO (ldV 1 false h v46) fun v47 => bindO (binV .rem a7 v47) fun v48 => bindO (binV .eql v48 (.int .i64 0)) fun v49 => condM v49 (bindO (ldV 2 true h a8) fun v51 => bindO (indexAddrV 1 a11 (.int .i64 0)) fun v54 => bindO (ldV 1 false h v54) fun v55 => bindO (binV .quo a7 v55) fun v56 => bindO (ldV 2 true h a9) fun v57 => CallW FF n_impl_Plane_kills [v51, v56, v57] h fun v58 h1 => condM v58 (bindO (indexAddrV 1 a11 (.int .i64 0)) fun v62 => bindO (ldV 1 false h1 v62) fun v63 => bindO (binV .quo a7 v63) fun v64 => K [v64, a8, a9, a11, a38, a39, a40] h1) (K0 [a7, a8, a9, a38, a39, a40] h1)) (K0 [a7, a8, a9, a38, a39, a40] h)
theorem wl_impl_OrderOfPointUnder_0 {a7 a8 a9 a11 a38 a39 a40 : Value} {h : Hp} {K K0 : Kont} (H : q_impl_OrderOfPointUnder_0 a7 a8 a9 a11 a38 a39 a40 h K K0) : ∀ e : Env, [e 7, e 8, e 9, e 11, e 38, e 39, e 40] = [a7, a8, a9, a11, a38, a39, a40] → V FF l_impl_OrderOfPointUnder_0 (qsel [7, 8, 9, 11, 38, 39, 40] K [(.exit 2, [7, 8, 9, 38, 39, 40], K0)]) ⟨e, h⟩ := by
  intro e he; cases he; exact Eq.mp (by kernel_rfl) H
def l_impl_OrderOfPointUnder_1 : YC :=
  .seq (.region false [p 41 (.bin .lss 40 39)])
 (.seq (.cond 41
 (.skip)
 (.exit 0))
 (.seq (.block 1
 (.seq (.region false [p 42 (.indexAddr 1 38 40),
  o 43 (.load 1 false 42),
  m 11 43])
 (.block 2
 (.loop [7, 8, 9, 11, 38, 39, 40] [(.exit 2, [7, 8, 9, 38, 39, 40])] l_impl_OrderOfPointUnder_0))))
 (.region false [p 65 (.bin .add 40 (k 1)),
  m 40 65])))
def q_impl_OrderOfPointUnder_1 (a7 a8 a9 a38 a39 a40 : Value) (h : Hp) (K K0 : Kont) : Prop :=
  bindO (binV .lss a40 a39) fun v41 => condM v41 (bindO (indexAddrV 1 a38 a40) fun v42 => bindO (ldV 1 false h v42) fun v43 => LP FF (YC.er l_impl_OrderOfPointUnder_0) [7, 8, 9, 11, 38, 39, 40] [(.exit 2, [7, 8, 9, 38, 39, 40], fun vs h1 => ∀ e : Env, [e 7, e 8, e 9, e 38, e 39, e 40] = vs → bindO (binV .add (e 40) (.int .i64 1)) fun v65 => K [(e 7), (e 8), (e 9), (e 38), (e 39), v65] h1)] [a7, a8, a9, v43, a38, a39, a40] h) (K0 [a7] h)
theorem wl_impl_OrderOfPointUnder_1 {a7 a8 a9 a38 a39 a40 : Value} {h : Hp} {K K0 : Kont} (H : q_impl_OrderOfPointUnder_1 a7 a8 a9 a38 a39 a40 h K K0) : ∀ e : Env, [e 7, e 8, e 9, e 38, e 39, e 40] = [a7, a8, a9, a38, a39, a40] → V FF l_impl_OrderOfPointUnder_1 (qsel [7, 8, 9, 38, 39, 40] K [(.exit 0, [7], K0)]) ⟨e, h⟩ := by
  intro e he; cases he; exact Eq.mp (by kernel_rfl) H
def y_impl_OrderOfPointUnder : YC :=
  .seq (.region false [o 2 (.box y_t_impl_Plane 2 0),
  mc 4 (k 0),
  mc 5 (k 0)])
 (.seq (.seq (.region false [o 12 (.load 2 true 2),
  m 13 1,
  p 14 (.len  13),
  m 15 1,
  o 16 (.mkrow y_t_Lint64 1 1 [.slice none 0 0] [(0, 15)]),
  o 17 (cl n_impl_pointed [12, 14, 16]),
  m 6 17])
 (.seq (.region false [m 18 6,
  p 19 (.bin .neq 18 (k 0))])
 (.cond 19
 (.seq (.region false [m 20 6,
  mc 4 (k 0),
  m 5 20])
 (.ret))
 (.skip))))
 (.seq (.region false [p 21 (.fieldAddr 0 2),
  o 22 (.load 1 false 21),
  m 23 1,
  p 24 (.len  23),
  o 25 (cl n_impl_countAtMost [22, 24, (k 1000000000000)]),
  m 7 25])
 (.seq (.seq (.region false [m 26 7,
  p 27 (.bin .gtr 26 (k 1000000000000))])
 (.cond 27
 (.seq (.region false [mc 4 (k 0),
  mc 5 (k 3)])
 (.ret))
 (.skip)))
 (.seq (.region true [o 28 (.load 2 true 2),
  m 29 1,
  p 30 (.len  29),
  ⟨some 31, cl n_impl_Plane_cut [28, 30], none, true⟩,
  p 32 (.fieldAddr 0 2),
  ⟨some 33, .load 1 false 32, none, true⟩,
  m 34 1,
  o 35 (cl n_impl_curveOf [33, 34]),
  o 8 (.box y_t_impl_Plane 2 (.c (.agg #[.int .i64 0, .slice none 0 0]))),
  o 9 (.box y_t_impl_Series 2 (.c (.agg #[.int .i64 0, .slice none 0 0]))),
  e (.store 2 8 31),
  e (.store 2 9 35)])
 (.seq (.seq (.region false [p 36 (.fieldAddr 0 2),
  o 37 (.load 1 false 36),
  o 38 (cl n_impl_factors [37]),
  p 39 (.len  38),
  mc 40 (k 0)])
 (.block 0
 (.loop [7, 8, 9, 38, 39, 40] [(.exit 0, [7])] l_impl_OrderOfPointUnder_1)))
 (.seq (.region false [m 66 7,
  m 4 66,
  mc 5 (k 0)])
 (.ret)))))))
theorem c_impl_OrderOfPointUnder : FF n_impl_OrderOfPointUnder = some ⟨67, y_impl_OrderOfPointUnder.er, [.tmp 4, .tmp 5]⟩ := by kernel_rfl
def p_impl_OrderOfPointUnder (a0 a1 : Value) (h : Hp) (R : Value → Hp → Prop) : Prop :=
  bindO (boxV 2 a0) fun c2 => newB h ⟨c2, y_t_impl_Plane, true⟩ fun b2 h1 => bindO (ldV 2 true h1 (.pointer (some ⟨b2, 0, none⟩))) fun v12 => bindO (lenV  a1) fun v14 => bindO (rowV 1 1 [.slice none 0 0] [(0, a1)]) fun c16 => newB h1 ⟨c16, y_t_Lint64, true⟩ fun b16 h2 => CallW FF n_impl_pointed [v12, v14, (.slice (some ⟨b16, 0, none⟩) 1 1)] h2 fun v17 h3 => bindO (binV .neq v17 (.int .i64 0)) fun v19 => condM v19 (R (.tuple #[(.int .i64 0), v17]) h3) (bindO (fieldAddrV 0 (.pointer (some ⟨b2, 0, none⟩))) fun v21 => bindO (ldV 1 false h3 v21) fun v22 => bindO (lenV  a1) fun v24 => CallW FF n_impl_countAtMost [v22, v24, (.int .i64 1000000000000)] h3 fun v25 h4 => bindO (binV .gtr v25 (.int .i64 1000000000000)) fun v27 => condM v27 (R (.tuple #[(.int .i64 0), (.int .i64 3)]) h4) (bindO (ldV 2 true h4 (.pointer (some ⟨b2, 0, none⟩))) fun v28 => bindO (lenV  a1) fun v30 => CallW FF n_impl_Plane_cut [v28, v30] h4 fun v31 h5 => keepB h4.nx h4 h5 ∧ (bindO (fieldAddrV 0 (.pointer (some ⟨b2, 0, none⟩))) fun v32 => inB h4.nx v32 ∧ (bindO (ldV 1 false h5 v32) fun v33 => CallW FF n_impl_curveOf [v33, a1] h5 fun v35 h6 => bindO (boxV 2 (.agg #[.int .i64 0, .slice none 0 0])) fun c8 => newB h6 ⟨c8, y_t_impl_Plane, true⟩ fun b8 h7 => bindO (boxV 2 (.agg #[.int .i64 0, .slice none 0 0])) fun c9 => newB h7 ⟨c9, y_t_impl_Series, true⟩ fun b9 h8 => bindO (storeV 2 h8 v31 (.pointer (some ⟨b8, 0, none⟩))) fun h9 => bindO (storeV 2 h9 v35 (.pointer (some ⟨b9, 0, none⟩))) fun h10 => bindO (fieldAddrV 0 (.pointer (some ⟨b2, 0, none⟩))) fun v36 => bindO (ldV 1 false h10 v36) fun v37 => CallW FF n_impl_factors [v37] h10 fun v38 h11 => bindO (lenV  v38) fun v39 => LP FF (YC.er l_impl_OrderOfPointUnder_1) [7, 8, 9, 38, 39, 40] [(.exit 0, [7], fun vs h12 => ∀ e : Env, [e 7] = vs → R (.tuple #[(e 7), (.int .i64 0)]) h12)] [v25, (.pointer (some ⟨b8, 0, none⟩)), (.pointer (some ⟨b9, 0, none⟩)), v38, v39, (.int .i64 0)] h11))))
theorem w_impl_OrderOfPointUnder {a0 a1 : Value} {h : Hp} {R : Value → Hp → Prop} (H : p_impl_OrderOfPointUnder a0 a1 h R) : CallW FF n_impl_OrderOfPointUnder [a0, a1] h R := callV_fin c_impl_OrderOfPointUnder (Eq.mp (by kernel_rfl) H)
def l_spec_OrderOfPointUnder_0 : YC :=
  .seq (.seq (.region false [m 38 7,
  m 39 9,
  m 40 10,
  p 41 (.indexAddr 1 39 40),
  o 42 (.load 1 false 41),
  p 43 (.bin .rem 38 42),
  p 44 (.bin .eql 43 (k 0)),
  m 45 44,
  ⟨some 46, .load 2 true 8, some (45, true), false⟩,
  ⟨some 47, .p (.move  7), some (45, true), false⟩,
  ⟨some 48, .p (.move  9), some (45, true), false⟩,
  ⟨some 49, .p (.move  10), some (45, true), false⟩,
  ⟨some 50, .p (.indexAddr 1 48 49), some (45, true), false⟩,
  ⟨some 51, .load 1 false 50, some (45, true), false⟩,
  ⟨some 52, .p (.bin .quo 47 51), some (45, true), false⟩,
  ⟨some 53, .p (.move  1), some (45, true), false⟩,
  ⟨some 54, cl n_spec_l16Multiple [46, 52, 53], some (45, true), false⟩,
  ⟨some 55, cl n_spec_l16Zero [54], some (45, true), false⟩,
  p 56 (.pick  45 55 (.c (.bool false)))])
 (.cond 56
 (.skip)
 (.exit 2)))
 (.block 3
 (.region false [m 57 7,
  m 58 9,
  m 59 10,
  p 60 (.indexAddr 1 58 59),
  o 61 (.load 1 false 60),
  p 62 (.bin .quo 57 61),
  m 7 62]))
def q_spec_OrderOfPointUnder_0 (a1 a7 a8 a9 a10 : Value) (h : Hp) (K K0 : Kont) : Prop :=
  bindO (indexAddrV 1 a9 a10) fun v41 => bindO (ldV 1 false h v41) fun v42 => bindO (binV .rem a7 v42) fun v43 => bindO (binV .eql v43 (.int .i64 0)) fun v44 => condM v44 (bindO (ldV 2 true h a8) fun v46 => bindO (indexAddrV 1 a9 a10) fun v50 => bindO (ldV 1 false h v50) fun v51 => bindO (binV .quo a7 v51) fun v52 => CallW FF n_spec_l16Multiple [v46, v52, a1] h fun v54 h1 => CallW FF n_spec_l16Zero [v54] h1 fun v55 h2 => condM v55 (bindO (indexAddrV 1 a9 a10) fun v60 => bindO (ldV 1 false h2 v60) fun v61 => bindO (binV .quo a7 v61) fun v62 => K [a1, v62, a8, a9, a10] h2) (K0 [a1, a7, a8, a9, a10] h2)) (K0 [a1, a7, a8, a9, a10] h)
theorem wl_spec_OrderOfPointUnder_0 {a1 a7 a8 a9 a10 : Value} {h : Hp} {K K0 : Kont} (H : q_spec_OrderOfPointUnder_0 a1 a7 a8 a9 a10 h K K0) : ∀ e : Env, [e 1, e 7, e 8, e 9, e 10] = [a1, a7, a8, a9, a10] → V FF l_spec_OrderOfPointUnder_0 (qsel [1, 7, 8, 9, 10] K [(.exit 2, [1, 7, 8, 9, 10], K0)]) ⟨e, h⟩ := by
  intro e he; cases he; exact Eq.mp (by kernel_rfl) H
def l_spec_OrderOfPointUnder_1 : YC :=
  .seq (.seq (.region false [m 32 10,
  m 33 9,
  p 34 (.len  33),
  p 35 (.bin .lss 32 34)])
 (.cond 35
 (.skip)
 (.exit 0)))
 (.seq (.block 1
 (.block 2
 (.loop [1, 7, 8, 9, 10] [(.exit 2, [1, 7, 8, 9, 10])] l_spec_OrderOfPointUnder_0)))
 (.region false [m 36 10,
  p 37 (.bin .add 36 (k 1)),
  m 10 37]))
def q_spec_OrderOfPointUnder_1 (a1 a7 a8 a9 a10 : Value) (h : Hp) (K K0 : Kont) : Prop :=
  bindO (lenV  a9) fun v34 => bindO (binV .lss a10 v34) fun v35 => condM v35 (LP FF (YC.er l_spec_OrderOfPointUnder_0) [1, 7, 8, 9, 10] [(.exit 2, [1, 7, 8, 9, 10], fun vs h1 => ∀ e : Env, [e 1, e 7, e 8, e 9, e 10] = vs → bindO (binV .add (e 10) (.int .i64 1)) fun v37 => K [(e 1), (e 7), (e 8), (e 9), v37] h1)] [a1, a7, a8, a9, a10] h) (K0 [a7] h)
theorem wl_spec_OrderOfPointUnder_1 {a1 a7 a8 a9 a10 : Value} {h : Hp} {K K0 : Kont} (H : q_spec_OrderOfPointUnder_1 a1 a7 a8 a9 a10 h K K0) : ∀ e : Env, [e 1, e 7, e 8, e 9, e 10] = [a1, a7, a8, a9, a10] → V FF l_spec_OrderOfPointUnder_1 (qsel [1, 7, 8, 9, 10] K [(.exit 0, [7], K0)]) ⟨e, h⟩ := by
  intro e he; cases he; exact Eq.mp (by kernel_rfl) H
def y_spec_OrderOfPointUnder : YC :=
  .seq (.region false [o 2 (.box y_t_impl_Plane 2 0),
  mc 4 (k 0),
  mc 5 (k 0)])
 (.seq (.seq (.region false [o 11 (.load 2 true 2),
  m 12 1,
  o 13 (.mkrow y_t_Lint64 1 1 [.slice none 0 0] [(0, 12)]),
  o 14 (cl n_spec_l16Code [11, 13]),
  m 6 14])
 (.seq (.region false [m 15 6,
  p 16 (.bin .neq 15 (k 0))])
 (.cond 16
 (.seq (.region false [m 17 6,
  mc 4 (k 0),
  m 5 17])
 (.ret))
 (.skip))))
 (.seq (.region false [p 18 (.fieldAddr 0 2),
  o 19 (.load 1 false 18),
  m 20 1,
  p 21 (.len  20),
  o 22 (cl n_spec_l16Size [19, 21, (k 1000000000000)]),
  m 7 22])
 (.seq (.seq (.region false [m 23 7,
  p 24 (.bin .gtr 23 (k 1000000000000))])
 (.cond 24
 (.seq (.region false [mc 4 (k 0),
  mc 5 (k 3)])
 (.ret))
 (.skip)))
 (.seq (.region true [o 25 (.load 2 true 2),
  m 26 1,
  p 27 (.len  26),
  ⟨some 28, cl n_spec_l16Cut [25, 27], none, true⟩,
  p 29 (.fieldAddr 0 2),
  ⟨some 30, .load 1 false 29, none, true⟩,
  o 31 (cl n_spec_l16Primes [30]),
  o 8 (.box y_t_impl_Plane 2 (.c (.agg #[.int .i64 0, .slice none 0 0]))),
  e (.store 2 8 28),
  m 9 31])
 (.seq (.seq (.region false [mc 10 (k 0)])
 (.block 0
 (.loop [1, 7, 8, 9, 10] [(.exit 0, [7])] l_spec_OrderOfPointUnder_1)))
 (.seq (.region false [m 63 7,
  m 4 63,
  mc 5 (k 0)])
 (.ret)))))))
theorem c_spec_OrderOfPointUnder : FF n_spec_OrderOfPointUnder = some ⟨64, y_spec_OrderOfPointUnder.er, [.tmp 4, .tmp 5]⟩ := by kernel_rfl
def p_spec_OrderOfPointUnder (a0 a1 : Value) (h : Hp) (R : Value → Hp → Prop) : Prop :=
  bindO (boxV 2 a0) fun c2 => newB h ⟨c2, y_t_impl_Plane, true⟩ fun b2 h1 => bindO (ldV 2 true h1 (.pointer (some ⟨b2, 0, none⟩))) fun v11 => bindO (rowV 1 1 [.slice none 0 0] [(0, a1)]) fun c13 => newB h1 ⟨c13, y_t_Lint64, true⟩ fun b13 h2 => CallW FF n_spec_l16Code [v11, (.slice (some ⟨b13, 0, none⟩) 1 1)] h2 fun v14 h3 => bindO (binV .neq v14 (.int .i64 0)) fun v16 => condM v16 (R (.tuple #[(.int .i64 0), v14]) h3) (bindO (fieldAddrV 0 (.pointer (some ⟨b2, 0, none⟩))) fun v18 => bindO (ldV 1 false h3 v18) fun v19 => bindO (lenV  a1) fun v21 => CallW FF n_spec_l16Size [v19, v21, (.int .i64 1000000000000)] h3 fun v22 h4 => bindO (binV .gtr v22 (.int .i64 1000000000000)) fun v24 => condM v24 (R (.tuple #[(.int .i64 0), (.int .i64 3)]) h4) (bindO (ldV 2 true h4 (.pointer (some ⟨b2, 0, none⟩))) fun v25 => bindO (lenV  a1) fun v27 => CallW FF n_spec_l16Cut [v25, v27] h4 fun v28 h5 => keepB h4.nx h4 h5 ∧ (bindO (fieldAddrV 0 (.pointer (some ⟨b2, 0, none⟩))) fun v29 => inB h4.nx v29 ∧ (bindO (ldV 1 false h5 v29) fun v30 => CallW FF n_spec_l16Primes [v30] h5 fun v31 h6 => bindO (boxV 2 (.agg #[.int .i64 0, .slice none 0 0])) fun c8 => newB h6 ⟨c8, y_t_impl_Plane, true⟩ fun b8 h7 => bindO (storeV 2 h7 v28 (.pointer (some ⟨b8, 0, none⟩))) fun h8 => LP FF (YC.er l_spec_OrderOfPointUnder_1) [1, 7, 8, 9, 10] [(.exit 0, [7], fun vs h9 => ∀ e : Env, [e 7] = vs → R (.tuple #[(e 7), (.int .i64 0)]) h9)] [a1, v22, (.pointer (some ⟨b8, 0, none⟩)), v31, (.int .i64 0)] h8))))
theorem w_spec_OrderOfPointUnder {a0 a1 : Value} {h : Hp} {R : Value → Hp → Prop} (H : p_spec_OrderOfPointUnder a0 a1 h R) : CallW FF n_spec_OrderOfPointUnder [a0, a1] h R := callV_fin c_spec_OrderOfPointUnder (Eq.mp (by kernel_rfl) H)
def y_spec_DrawMultipleOfPoint : YC :=
  .seq (.region false [o 2 (.box y_t_impl_Plane 2 (.c (.agg #[.int .i64 0, .slice none 0 0]))),
  mc 3 (k 0),
  mc 4 (.c (.slice none 0 0))])
 (.seq (.region false [m 8 0,
  o 9 (cl n_spec_l01From [8]),
  m 5 9])
 (.seq (.region false [m 11 0,
  o 12 (cl n_spec_l16Draw [11, (k 1)]),
  m 10 12,
  p 13 (.extract 10 0),
  p 14 (.extract 10 1),
  o 6 (.box y_t_impl_Plane 2 (.c (.agg #[.int .i64 0, .slice none 0 0]))),
  e (.store 2 6 13),
  m 7 14])
 (.seq (.regionG [⟨some 15, .load 2 true 6, none, true⟩,
  m 16 5,
  o 17 (.mkrow y_t_int64 1 8 [.int .i64 0] [(0, (k 0)), (1, (k 1)), (2, (k (-1))), (3, (k 2)), (4, (k 6)), (5, (k 1000000007)), (6, (k 1000000000000)), (7, (k (-1000000000001)))]),
  ⟨some 18, cl n_spec_l01Pick [16, 17], none, true⟩,
  m 19 7,
  p 20 (.indexAddr 1 19 (k 0)),
  ⟨some 21, .load 1 false 20, none, true⟩,
  ⟨none, .store 2 2 15, none, true⟩,
  m 3 18,
  m 4 21])
 (.ret))))
theorem c_spec_DrawMultipleOfPoint : FF n_spec_DrawMultipleOfPoint = some ⟨22, y_spec_DrawMultipleOfPoint.er, [.cell 2 2 true, .tmp 3, .tmp 4]⟩ := by kernel_rfl
def p_spec_DrawMultipleOfPoint (a0 : Value) (h : Hp) (R : Value → Hp → Prop) : Prop :=
  bindO (boxV 2 (.agg #[.int .i64 0, .slice none 0 0])) fun c2 => newB h ⟨c2, y_t_impl_Plane, true⟩ fun b2 h1 => CallW FF n_spec_l01From [a0] h1 fun v9 h2 => CallW FF n_spec_l16Draw [a0, (.int .i64 1)] h2 fun v12 h3 => bindO (extractV 0 v12) fun v13 => bindO (extractV 1 v12) fun v14 => bindO (boxV 2 (.agg #[.int .i64 0, .slice none 0 0])) fun c6 => newB h3 ⟨c6, y_t_impl_Plane, true⟩ fun b6 h4 => bindO (storeV 2 h4 v13 (.pointer (some ⟨b6, 0, none⟩))) fun h5 => ∃ P : Nat → Prop, (∀ b, P b → b < h5.nx) ∧ (inP P (.pointer (some ⟨b6, 0, none⟩)) ∧ (bindO (ldV 2 true h5 (.pointer (some ⟨b6, 0, none⟩))) fun v15 => bindO (rowV 1 8 [.int .i64 0] [(0, (.int .i64 0)), (1, (.int .i64 1)), (2, (.int .i64 (-1))), (3, (.int .i64 2)), (4, (.int .i64 6)), (5, (.int .i64 1000000007)), (6, (.int .i64 1000000000000)), (7, (.int .i64 (-1000000000001)))]) fun c17 => newB h5 ⟨c17, y_t_int64, true⟩ fun b17 h6 => CallW FF n_spec_l01Pick [v9, (.slice (some ⟨b17, 0, none⟩) 8 1)] h6 fun v18 h7 => keepP P h6 h7 ∧ (bindO (indexAddrV 1 v14 (.int .i64 0)) fun v20 => inP P v20 ∧ (bindO (ldV 1 false h7 v20) fun v21 => bindO (storeV 2 h7 v15 (.pointer (some ⟨b2, 0, none⟩))) fun h8 => keepP P h7 h8 ∧ (bindO (ldV 2 true h8 (.pointer (some ⟨b2, 0, none⟩))) fun r2 => R (.tuple #[r2, v18, v21]) h8)))))
theorem w_spec_DrawMultipleOfPoint {a0 : Value} {h : Hp} {R : Value → Hp → Prop} (H : p_spec_DrawMultipleOfPoint a0 h R) : CallW FF n_spec_DrawMultipleOfPoint [a0] h R := callV_fin c_spec_DrawMultipleOfPoint (Eq.mp (by kernel_rfl) H)
def y_impl_MultipleOfPoint : YC :=
  .seq (.region false [o 3 (.box y_t_impl_Plane 2 0),
  mc 6 (.c (.slice none 0 0)),
  mc 7 (k 0)])
 (.seq (.region false [o 9 (.load 2 true 3),
  m 10 2,
  p 11 (.len  10),
  m 12 2,
  o 13 (.mkrow y_t_Lint64 1 1 [.slice none 0 0] [(0, 12)]),
  o 14 (cl n_impl_pointed [9, 11, 13]),
  m 8 14])
 (.seq (.block 0
 (.seq (.region false [m 16 8,
  p 17 (.bin .neq 16 (k 0)),
  m 15 17])
 (.cond 15
 (.seq (.region false [m 18 8,
  mc 6 (.c (.slice none 0 0)),
  m 7 18])
 (.ret))
 (.seq (.region false [m 20 1,
  o 21 (cl n_impl_in [20, (k (-1000000000000)), (k 1000000000000)]),
  p 22 (.un .not 21),
  m 19 22])
 (.cond 19
 (.seq (.region false [mc 6 (.c (.slice none 0 0)),
  mc 7 (k 2)])
 (.ret))
 (.skip))))))
 (.seq (.region true [o 23 (.load 2 true 3),
  m 24 2,
  p 25 (.len  24),
  ⟨some 26, cl n_impl_Plane_cut [23, 25], none, true⟩,
  m 27 1,
  p 28 (.fieldAddr 0 3),
  ⟨some 29, .load 1 false 28, none, true⟩,
  m 30 2,
  o 31 (cl n_impl_curveOf [29, 30]),
  o 32 (cl n_impl_Plane_multiple [26, 27, 31]),
  p 33 (.field 1 1 false 32),
  p 34 (.slice 1 33 (some (k 1)) none),
  o 35 (cl n_impl_copyOf_int64 [34]),
  m 6 35,
  mc 7 (k 0)])
 (.ret))))
theorem c_impl_MultipleOfPoint : FF n_impl_MultipleOfPoint = some ⟨36, y_impl_MultipleOfPoint.er, [.tmp 6, .tmp 7]⟩ := by kernel_rfl
def p_impl_MultipleOfPoint (a0 a1 a2 : Value) (h : Hp) (R : Value → Hp → Prop) : Prop :=
  bindO (boxV 2 a0) fun c3 => newB h ⟨c3, y_t_impl_Plane, true⟩ fun b3 h1 => bindO (ldV 2 true h1 (.pointer (some ⟨b3, 0, none⟩))) fun v9 => bindO (lenV  a2) fun v11 => bindO (rowV 1 1 [.slice none 0 0] [(0, a2)]) fun c13 => newB h1 ⟨c13, y_t_Lint64, true⟩ fun b13 h2 => CallW FF n_impl_pointed [v9, v11, (.slice (some ⟨b13, 0, none⟩) 1 1)] h2 fun v14 h3 => bindO (binV .neq v14 (.int .i64 0)) fun v17 => condM v17 (R (.tuple #[(.slice none 0 0), v14]) h3) (CallW FF n_impl_in [a1, (.int .i64 (-1000000000000)), (.int .i64 1000000000000)] h3 fun v21 h4 => bindO (unV .not v21) fun v22 => condM v22 (R (.tuple #[(.slice none 0 0), (.int .i64 2)]) h4) (bindO (ldV 2 true h4 (.pointer (some ⟨b3, 0, none⟩))) fun v23 => bindO (lenV  a2) fun v25 => CallW FF n_impl_Plane_cut [v23, v25] h4 fun v26 h5 => keepB h4.nx h4 h5 ∧ (bindO (fieldAddrV 0 (.pointer (some ⟨b3, 0, none⟩))) fun v28 => inB h4.nx v28 ∧ (bindO (ldV 1 false h5 v28) fun v29 => CallW FF n_impl_curveOf [v29, a2] h5 fun v31 h6 => CallW FF n_impl_Plane_multiple [v26, a1, v31] h6 fun v32 h7 => bindO (fieldV 1 1 false v32) fun v33 => bindO (sliceV 1 (some (.int .i64 1)) none v33) fun v34 => CallW FF n_impl_copyOf_int64 [v34] h7 fun v35 h8 => R (.tuple #[v35, (.int .i64 0)]) h8))))
theorem w_impl_MultipleOfPoint {a0 a1 a2 : Value} {h : Hp} {R : Value → Hp → Prop} (H : p_impl_MultipleOfPoint a0 a1 a2 h R) : CallW FF n_impl_MultipleOfPoint [a0, a1, a2] h R := callV_fin c_impl_MultipleOfPoint (Eq.mp (by kernel_rfl) H)
def y_spec_MultipleOfPoint : YC :=
  .seq (.region false [o 3 (.box y_t_impl_Plane 2 0),
  mc 6 (.c (.slice none 0 0)),
  mc 7 (k 0)])
 (.seq (.region false [o 9 (.load 2 true 3),
  m 10 2,
  o 11 (.mkrow y_t_Lint64 1 1 [.slice none 0 0] [(0, 10)]),
  o 12 (cl n_spec_l16Code [9, 11]),
  m 8 12])
 (.join [1, 2, 3, 8] (.seq (.region false [m 13 8,
  p 14 (.bin .eql 13 (k 0)),
  m 15 14,
  ⟨some 16, .p (.move  1), some (15, true), false⟩,
  ⟨some 17, cl n_spec_l01In [16, (k (-1000000000000)), (k 1000000000000)], some (15, true), false⟩,
  ⟨some 18, .p (.un .not 17), some (15, true), false⟩,
  p 19 (.pick  15 18 (.c (.bool false)))])
 (.cond 19
 (.region false [mc 8 (k 2)])
 (.skip)))
 (.seq (.seq (.region false [m 20 8,
  p 21 (.bin .neq 20 (k 0))])
 (.cond 21
 (.seq (.region false [m 22 8,
  mc 6 (.c (.slice none 0 0)),
  m 7 22])
 (.ret))
 (.skip)))
 (.seq (.region false [o 23 (.load 2 true 3),
  m 24 2,
  p 25 (.len  24),
  o 26 (cl n_spec_l16Cut [23, 25]),
  m 27 1,
  m 28 2,
  o 29 (cl n_spec_l16Multiple [26, 27, 28]),
  o 30 (cl n_spec_l01Own [29]),
  m 6 30,
  mc 7 (k 0)])
 (.ret)))))
theorem c_spec_MultipleOfPoint : FF n_spec_MultipleOfPoint = some ⟨31, y_spec_MultipleOfPoint.er, [.tmp 6, .tmp 7]⟩ := by kernel_rfl
def p_spec_MultipleOfPoint (a0 a1 a2 : Value) (h : Hp) (R : Value → Hp → Prop) : Prop :=
  bindO (boxV 2 a0) fun c3 => newB h ⟨c3, y_t_impl_Plane, true⟩ fun b3 h1 => bindO (ldV 2 true h1 (.pointer (some ⟨b3, 0, none⟩))) fun v9 => bindO (rowV 1 1 [.slice none 0 0] [(0, a2)]) fun c11 => newB h1 ⟨c11, y_t_Lint64, true⟩ fun b11 h2 => CallW FF n_spec_l16Code [v9, (.slice (some ⟨b11, 0, none⟩) 1 1)] h2 fun v12 h3 => JN (fun J => bindO (binV .eql v12 (.int .i64 0)) fun v14 => condM v14 (CallW FF n_spec_l01In [a1, (.int .i64 (-1000000000000)), (.int .i64 1000000000000)] h3 fun v17 h4 => bindO (unV .not v17) fun v18 => condM v18 (J [a1, a2, (.pointer (some ⟨b3, 0, none⟩)), (.int .i64 2)] h4) (J [a1, a2, (.pointer (some ⟨b3, 0, none⟩)), v12] h4)) (J [a1, a2, (.pointer (some ⟨b3, 0, none⟩)), v12] h3)) fun vs h4 => ∀ e : Env, [e 1, e 2, e 3, e 8] = vs → bindO (binV .neq (e 8) (.int .i64 0)) fun v21 => condM v21 (R (.tuple #[(.slice none 0 0), (e 8)]) h4) (bindO (ldV 2 true h4 (e 3)) fun v23 => bindO (lenV  (e 2)) fun v25 => CallW FF n_spec_l16Cut [v23, v25] h4 fun v26 h5 => CallW FF n_spec_l16Multiple [v26, (e 1), (e 2)] h5 fun v29 h6 => CallW FF n_spec_l01Own [v29] h6 fun v30 h7 => R (.tuple #[v30, (.int .i64 0)]) h7)
theorem w_spec_MultipleOfPoint {a0 a1 a2 : Value} {h : Hp} {R : Value → Hp → Prop} (H : p_spec_MultipleOfPoint a0 a1 a2 h R) : CallW FF n_spec_MultipleOfPoint [a0, a1, a2] h R := callV_fin c_spec_MultipleOfPoint (Eq.mp (by kernel_rfl) H)
def y_impl_MultiplicativeLaw : YC :=
  .seq (.region false [o 6 (.box y_t_impl_Plane 2 (.c (.agg #[.int .i64 0, .slice none 0 0]))),
  mc 7 (k 0)])
 (.seq (.seq (.region false [m 11 0,
  m 12 1,
  m 13 2,
  o 14 (.mkrow y_t_int64 1 1 [.int .i64 0] [(0, 13)]),
  o 15 (cl n_impl_standard [11, 12, 14]),
  m 8 15])
 (.seq (.region false [m 16 8,
  p 17 (.bin .neq 16 (k 0))])
 (.cond 17
 (.seq (.region false [p 18 (.build [.int .i64 0, .slice none 0 0] []),
  m 19 8,
  e (.store 2 6 18),
  m 7 19])
 (.ret))
 (.skip))))
 (.seq (.region false [m 21 0,
  m 22 1,
  o 23 (cl n_impl_variables [21, 22]),
  m 20 23,
  p 24 (.extract 20 0),
  p 25 (.extract 20 1),
  o 9 (.box y_t_impl_Plane 2 (.c (.agg #[.int .i64 0, .slice none 0 0]))),
  o 10 (.box y_t_impl_Plane 2 (.c (.agg #[.int .i64 0, .slice none 0 0]))),
  e (.store 2 9 24),
  e (.store 2 10 25)])
 (.seq (.region true [o 26 (.load 2 true 9),
  o 27 (.load 2 true 10),
  ⟨some 28, cl n_impl_Plane_plus [26, 27], none, true⟩,
  ⟨some 29, .load 2 true 9, none, true⟩,
  ⟨some 30, .load 2 true 10, none, true⟩,
  o 31 (cl n_impl_Plane_times [29, 30]),
  m 32 2,
  o 33 (cl n_impl_Plane_scaled [31, 32]),
  o 34 (cl n_impl_Plane_plus [28, 33]),
  e (.store 2 6 34),
  mc 7 (k 0)])
 (.ret))))
theorem c_impl_MultiplicativeLaw : FF n_impl_MultiplicativeLaw = some ⟨35, y_impl_MultiplicativeLaw.er, [.cell 6 2 true, .tmp 7]⟩ := by kernel_rfl
def p_impl_MultiplicativeLaw (a0 a1 a2 : Value) (h : Hp) (R : Value → Hp → Prop) : Prop :=
  bindO (boxV 2 (.agg #[.int .i64 0, .slice none 0 0])) fun c6 => newB h ⟨c6, y_t_impl_Plane, true⟩ fun b6 h1 => bindO (rowV 1 1 [.int .i64 0] [(0, a2)]) fun c14 => newB h1 ⟨c14, y_t_int64, true⟩ fun b14 h2 => CallW FF n_impl_standard [a0, a1, (.slice (some ⟨b14, 0, none⟩) 1 1)] h2 fun v15 h3 => bindO (binV .neq v15 (.int .i64 0)) fun v17 => condM v17 (bindO ((fillX [.int .i64 0, .slice none 0 0] []).map fun cs => Value.agg cs.toArray) fun v18 => bindO (storeV 2 h3 v18 (.pointer (some ⟨b6, 0, none⟩))) fun h4 => bindO (ldV 2 true h4 (.pointer (some ⟨b6, 0, none⟩))) fun r6 => R (.tuple #[r6, v15]) h4) (CallW FF n_impl_variables [a0, a1] h3 fun v23 h4 => bindO (extractV 0 v23) fun v24 => bindO (extractV 1 v23) fun v25 => bindO (boxV 2 (.agg #[.int .i64 0, .slice none 0 0])) fun c9 => newB h4 ⟨c9, y_t_impl_Plane, true⟩ fun b9 h5 => bindO (boxV 2 (.agg #[.int .i64 0, .slice none 0 0])) fun c10 => newB h5 ⟨c10, y_t_impl_Plane, true⟩ fun b10 h6 => bindO (storeV 2 h6 v24 (.pointer (some ⟨b9, 0, none⟩))) fun h7 => bindO (storeV 2 h7 v25 (.pointer (some ⟨b10, 0, none⟩))) fun h8 => bindO (ldV 2 true h8 (.pointer (some ⟨b9, 0, none⟩))) fun v26 => bindO (ldV 2 true h8 (.pointer (some ⟨b10, 0, none⟩))) fun v27 => CallW FF n_impl_Plane_plus [v26, v27] h8 fun v28 h9 => keepB h8.nx h8 h9 ∧ (inB h8.nx (.pointer (some ⟨b9, 0, none⟩)) ∧ (bindO (ldV 2 true h9 (.pointer (some ⟨b9, 0, none⟩))) fun v29 => inB h8.nx (.pointer (some ⟨b10, 0, none⟩)) ∧ (bindO (ldV 2 true h9 (.pointer (some ⟨b10, 0, none⟩))) fun v30 => CallW FF n_impl_Plane_times [v29, v30] h9 fun v31 h10 => CallW FF n_impl_Plane_scaled [v31, a2] h10 fun v33 h11 => CallW FF n_impl_Plane_plus [v28, v33] h11 fun v34 h12 => bindO (storeV 2 h12 v34 (.pointer (some ⟨b6, 0, none⟩))) fun h13 => bindO (ldV 2 true h13 (.pointer (some ⟨b6, 0, none⟩))) fun r6 => R (.tuple #[r6, (.int .i64 0)]) h13))))
theorem w_impl_MultiplicativeLaw {a0 a1 a2 : Value} {h : Hp} {R : Value → Hp → Prop} (H : p_impl_MultiplicativeLaw a0 a1 a2 h R) : CallW FF n_impl_MultiplicativeLaw [a0, a1, a2] h R := callV_fin c_impl_MultiplicativeLaw (Eq.mp (by kernel_rfl) H)
def y_impl_MultiplySeries : YC :=
  .seq (.region false [o 2 (.box y_t_impl_Series 2 0),
  o 3 (.box y_t_impl_Series 2 1),
  o 4 (.box y_t_impl_Series 2 (.c (.agg #[.int .i64 0, .slice none 0 0]))),
  mc 5 (k 0)])
 (.seq (.seq (.region false [o 7 (.load 2 true 2),
  o 8 (.load 2 true 3),
  o 9 (cl n_impl_bothSeries [7, 8]),
  m 6 9])
 (.seq (.region false [m 10 6,
  p 11 (.bin .neq 10 (k 0))])
 (.cond 11
 (.seq (.region false [p 12 (.build [.int .i64 0, .slice none 0 0] []),
  m 13 6,
  e (.store 2 4 12),
  m 5 13])
 (.ret))
 (.skip))))
 (.seq (.region false [o 14 (.load 2 true 2),
  o 15 (.load 2 true 3),
  o 16 (cl n_impl_Series_times [14, 15]),
  e (.store 2 4 16),
  mc 5 (k 0)])
 (.ret)))
theorem c_impl_MultiplySeries : FF n_impl_MultiplySeries = some ⟨17, y_impl_MultiplySeries.er, [.cell 4 2 true, .tmp 5]⟩ := by kernel_rfl
def p_impl_MultiplySeries (a0 a1 : Value) (h : Hp) (R : Value → Hp → Prop) : Prop :=
  bindO (boxV 2 a0) fun c2 => newB h ⟨c2, y_t_impl_Series, true⟩ fun b2 h1 => bindO (boxV 2 a1) fun c3 => newB h1 ⟨c3, y_t_impl_Series, true⟩ fun b3 h2 => bindO (boxV 2 (.agg #[.int .i64 0, .slice none 0 0])) fun c4 => newB h2 ⟨c4, y_t_impl_Series, true⟩ fun b4 h3 => bindO (ldV 2 true h3 (.pointer (some ⟨b2, 0, none⟩))) fun v7 => bindO (ldV 2 true h3 (.pointer (some ⟨b3, 0, none⟩))) fun v8 => CallW FF n_impl_bothSeries [v7, v8] h3 fun v9 h4 => bindO (binV .neq v9 (.int .i64 0)) fun v11 => condM v11 (bindO ((fillX [.int .i64 0, .slice none 0 0] []).map fun cs => Value.agg cs.toArray) fun v12 => bindO (storeV 2 h4 v12 (.pointer (some ⟨b4, 0, none⟩))) fun h5 => bindO (ldV 2 true h5 (.pointer (some ⟨b4, 0, none⟩))) fun r4 => R (.tuple #[r4, v9]) h5) (bindO (ldV 2 true h4 (.pointer (some ⟨b2, 0, none⟩))) fun v14 => bindO (ldV 2 true h4 (.pointer (some ⟨b3, 0, none⟩))) fun v15 => CallW FF n_impl_Series_times [v14, v15] h4 fun v16 h5 => bindO (storeV 2 h5 v16 (.pointer (some ⟨b4, 0, none⟩))) fun h6 => bindO (ldV 2 true h6 (.pointer (some ⟨b4, 0, none⟩))) fun r4 => R (.tuple #[r4, (.int .i64 0)]) h6)
theorem w_impl_MultiplySeries {a0 a1 : Value} {h : Hp} {R : Value → Hp → Prop} (H : p_impl_MultiplySeries a0 a1 h R) : CallW FF n_impl_MultiplySeries [a0, a1] h R := callV_fin c_impl_MultiplySeries (Eq.mp (by kernel_rfl) H)
def l_spec_l16Draw_0 : YC :=
  .seq (.seq (.region false [m 28 10,
  p 29 (.len  28),
  m 30 9,
  p 31 (.bin .lss 29 30)])
 (.cond 31
 (.skip)
 (.exit 2)))
 (.block 3
 (.regionG [m 32 10,
  m 33 6,
  p 34 (.fieldAddr 0 7),
  ⟨some 35, .load 1 false 34, none, true⟩,
  p 36 (.mx  (k 1) 35),
  m 37 6,
  ⟨some 38, cl n_spec_l01Next [37, (k 200)], none, true⟩,
  p 39 (.bin .quo 38 (k 199)),
  p 40 (.bin .add 36 39),
  o 41 (cl n_spec_l01Next [33, 40]),
  o 42 (.mkrow y_t_int64 1 1 [.int .i64 0] [(0, 41)]),
  o 43 (.append y_t_int64 1 8 32 42),
  m 10 43]))
def q_spec_l16Draw_0 (a1 a4 a6 a7 a8 a9 a10 : Value) (h : Hp) (K K0 : Kont) : Prop :=
  bindO (lenV  a10) fun v29 => bindO (binV .lss v29 a9) fun v31 => condM v31 (∃ P : Nat → Prop, (∀ b, P b → b < h.nx) ∧ (bindO (fieldAddrV 0 a7) fun v34 => inP P v34 ∧ (bindO (ldV 1 false h v34) fun v35 => bindO (mxV  (.int .i64 1) v35) fun v36 => CallW FF n_spec_l01Next [a6, (.int .i64 200)] h fun v38 h1 => keepP P h h1 ∧ (bindO (binV .quo v38 (.int .i64 199)) fun v39 => bindO (binV .add v36 v39) fun v40 => CallW FF n_spec_l01Next [a6, v40] h1 fun v41 h2 => bindO (rowV 1 1 [.int .i64 0] [(0, v41)]) fun c42 => newB h2 ⟨c42, y_t_int64, true⟩ fun b42 h3 => bindVH (appendV y_t_int64 1 h3 a10 (.slice (some ⟨b42, 0, none⟩) 1 1)) fun v43 h4 => K [a1, a4, a6, a7, a8, a9, v43] h4)))) (K0 [a1, a4, a6, a7, a8, a9, a10] h)
theorem wl_spec_l16Draw_0 {a1 a4 a6 a7 a8 a9 a10 : Value} {h : Hp} {K K0 : Kont} (H : q_spec_l16Draw_0 a1 a4 a6 a7 a8 a9 a10 h K K0) : ∀ e : Env, [e 1, e 4, e 6, e 7, e 8, e 9, e 10] = [a1, a4, a6, a7, a8, a9, a10] → V FF l_spec_l16Draw_0 (qsel [1, 4, 6, 7, 8, 9, 10] K [(.exit 2, [1, 4, 6, 7, 8, 9, 10], K0)]) ⟨e, h⟩ := by
  intro e he; cases he; exact Eq.mp (by kernel_rfl) H
def l_spec_l16Draw_1 : YC :=
  .seq (.seq (.region false [m 23 1,
  p 24 (.bin .gtr 23 (k 0))])
 (.cond 24
 (.skip)
 (.exit 0)))
 (.seq (.block 1
 (.seq (.region false [o 27 (.mkrow y_t_int64 1 0 [.int .i64 0] []),
  m 10 27])
 (.seq (.block 2
 (.loop [1, 4, 6, 7, 8, 9, 10] [(.exit 2, [1, 4, 6, 7, 8, 9, 10])] l_spec_l16Draw_0))
 (.seq (.seq (.region false [m 44 6,
  o 45 (cl n_spec_l01Next [44, (k 60)]),
  p 46 (.bin .eql 45 (k 0))])
 (.cond 46
 (.region false [m 47 10,
  o 48 (.mkrow y_t_int64 1 1 [.int .i64 0] [(0, (k 0))]),
  o 49 (.append y_t_int64 1 8 47 48),
  m 10 49])
 (.skip)))
 (.region false [m 50 8,
  m 51 10,
  o 52 (.mkrow y_t_Lint64 1 1 [.slice none 0 0] [(0, 51)]),
  o 53 (.append y_t_Lint64 1 24 50 52),
  m 8 53])))))
 (.region false [m 25 1,
  p 26 (.bin .sub 25 (k 1)),
  m 1 26]))
def q_spec_l16Draw_1 (a1 a4 a6 a7 a8 a9 : Value) (h : Hp) (K K0 : Kont) : Prop :=
  bindO (binV .gtr a1 (.int .i64 0)) fun v24 => condM v24 (bindO (rowV 1 0 [.int .i64 0] []) fun c27 => newB h ⟨c27, y_t_int64, true⟩ fun b27 h1 => LP FF (YC.er l_spec_l16Draw_0) [1, 4, 6, 7, 8, 9, 10] [(.exit 2, [1, 4, 6, 7, 8, 9, 10], fun vs h2 => ∀ e : Env, [e 1, e 4, e 6, e 7, e 8, e 9, e 10] = vs → CallW FF n_spec_l01Next [(e 6), (.int .i64 60)] h2 fun v45 h3 => bindO (binV .eql v45 (.int .i64 0)) fun v46 => condM v46 (bindO (rowV 1 1 [.int .i64 0] [(0, (.int .i64 0))]) fun c48 => newB h3 ⟨c48, y_t_int64, true⟩ fun b48 h4 => bindVH (appendV y_t_int64 1 h4 (e 10) (.slice (some ⟨b48, 0, none⟩) 1 1)) fun v49 h5 => bindO (rowV 1 1 [.slice none 0 0] [(0, v49)]) fun c52 => newB h5 ⟨c52, y_t_Lint64, true⟩ fun b52 h6 => bindVH (appendV y_t_Lint64 1 h6 (e 8) (.slice (some ⟨b52, 0, none⟩) 1 1)) fun v53 h7 => bindO (binV .sub (e 1) (.int .i64 1)) fun v26 => K [v26, (e 4), (e 6), (e 7), v53, (e 9)] h7) (bindO (rowV 1 1 [.slice none 0 0] [(0, (e 10))]) fun c52 => newB h3 ⟨c52, y_t_Lint64, true⟩ fun b52 h4 => bindVH (appendV y_t_Lint64 1 h4 (e 8) (.slice (some ⟨b52, 0, none⟩) 1 1)) fun v53 h5 => bindO (binV .sub (e 1) (.int .i64 1)) fun v26 => K [v26, (e 4), (e 6), (e 7), v53, (e 9)] h5))] [a1, a4, a6, a7, a8, a9, (.slice (some ⟨b27, 0, none⟩) 0 1)] h1) (K0 [a4, a7, a8] h)
theorem wl_spec_l16Draw_1 {a1 a4 a6 a7 a8 a9 : Value} {h : Hp} {K K0 : Kont} (H : q_spec_l16Draw_1 a1 a4 a6 a7 a8 a9 h K K0) : ∀ e : Env, [e 1, e 4, e 6, e 7, e 8, e 9] = [a1, a4, a6, a7, a8, a9] → V FF l_spec_l16Draw_1 (qsel [1, 4, 6, 7, 8, 9] K [(.exit 0, [4, 7, 8], K0)]) ⟨e, h⟩ := by
  intro e he; cases he; exact Eq.mp (by kernel_rfl) H
def y_spec_l16Draw : YC :=
  .seq (.region false [o 4 (.box y_t_impl_Plane 2 (.c (.agg #[.int .i64 0, .slice none 0 0]))),
  mc 5 (.c (.slice none 0 0))])
 (.seq (.region false [m 11 0,
  o 12 (cl n_spec_l01From [11]),
  m 6 12])
 (.seq (.region false [m 13 6,
  o 14 (cl n_spec_l04Spoil [13]),
  o 15 (.mkrow y_t_Lint64 1 0 [.slice none 0 0] []),
  o 7 (.box y_t_impl_Plane 2 (.c (.agg #[.int .i64 0, .slice none 0 0]))),
  e (.store 2 7 14),
  m 8 15])
 (.seq (.region false [m 16 6,
  p 17 (.fieldAddr 1 7),
  o 18 (.load 1 false 17),
  p 19 (.len  18),
  p 20 (.bin .sub 19 (k 1)),
  o 21 (cl n_spec_l01Next [16, 20]),
  p 22 (.bin .add (k 1) 21),
  m 9 22])
 (.seq (.block 0
 (.loop [1, 4, 6, 7, 8, 9] [(.exit 0, [4, 7, 8])] l_spec_l16Draw_1))
 (.seq (.region false [o 54 (.load 2 true 7),
  m 55 8,
  e (.store 2 4 54),
  m 5 55])
 (.ret))))))
theorem c_spec_l16Draw : FF n_spec_l16Draw = some ⟨56, y_spec_l16Draw.er, [.cell 4 2 true, .tmp 5]⟩ := by kernel_rfl
def p_spec_l16Draw (a0 a1 : Value) (h : Hp) (R : Value → Hp → Prop) : Prop :=
  bindO (boxV 2 (.agg #[.int .i64 0, .slice none 0 0])) fun c4 => newB h ⟨c4, y_t_impl_Plane, true⟩ fun b4 h1 => CallW FF n_spec_l01From [a0] h1 fun v12 h2 => CallW FF n_spec_l04Spoil [v12] h2 fun v14 h3 => bindO (rowV 1 0 [.slice none 0 0] []) fun c15 => newB h3 ⟨c15, y_t_Lint64, true⟩ fun b15 h4 => bindO (boxV 2 (.agg #[.int .i64 0, .slice none 0 0])) fun c7 => newB h4 ⟨c7, y_t_impl_Plane, true⟩ fun b7 h5 => bindO (storeV 2 h5 v14 (.pointer (some ⟨b7, 0, none⟩))) fun h6 => bindO (fieldAddrV 1 (.pointer (some ⟨b7, 0, none⟩))) fun v17 => bindO (ldV 1 false h6 v17) fun v18 => bindO (lenV  v18) fun v19 => bindO (binV .sub v19 (.int .i64 1)) fun v20 => CallW FF n_spec_l01Next [v12, v20] h6 fun v21 h7 => bindO (binV .add (.int .i64 1) v21) fun v22 => LP FF (YC.er l_spec_l16Draw_1) [1, 4, 6, 7, 8, 9] [(.exit 0, [4, 7, 8], fun vs h8 => ∀ e : Env, [e 4, e 7, e 8] = vs → bindO (ldV 2 true h8 (e 7)) fun v54 => bindO (storeV 2 h8 v54 (e 4)) fun h9 => bindO (ldV 2 true h9 (e 4)) fun r4 => R (.tuple #[r4, (e 8)]) h9)] [a1, (.pointer (some ⟨b4, 0, none⟩)), v12, (.pointer (some ⟨b7, 0, none⟩)), (.slice (some ⟨b15, 0, none⟩) 0 1), v22] h7
theorem w_spec_l16Draw {a0 a1 : Value} {h : Hp} {R : Value → Hp → Prop} (H : p_spec_l16Draw a0 a1 h R) : CallW FF n_spec_l16Draw [a0, a1] h R := callV_fin c_spec_l16Draw (Eq.mp (by kernel_rfl) H)
def l_impl_pointed_0 : YC :=
  .seq (.region false [p 22 (.bin .lss 21 20)])
 (.seq (.cond 22
 (.skip)
 (.exit 1))
 (.seq (.block 2
 (.seq (.region false [p 23 (.indexAddr 1 19 21),
  o 24 (.load 1 false 23),
  m 8 24])
 (.seq (.region false [m 25 8,
  p 26 (.len  25),
  m 27 1,
  p 28 (.bin .neq 26 27),
  m 29 28,
  ⟨some 30, .p (.move  8), some (29, false), false⟩,
  ⟨some 31, .p (.mkfunc n_impl_pointed_c1 [] [3]), some (29, false), false⟩,
  ⟨some 32, cl n_impl_all_int64 [30, 31], some (29, false), false⟩,
  ⟨some 33, .p (.un .not 32), some (29, false), false⟩,
  p 34 (.pick  29 (.c (.bool true)) 33)])
 (.cond 34
 (.seq (.region false [mc 6 (k 2)])
 (.ret))
 (.skip)))))
 (.region false [p 35 (.bin .add 21 (k 1)),
  m 21 35])))
def q_impl_pointed_0 (a1 a3 a19 a20 a21 : Value) (h : Hp) (K K0 K1 : Kont) : Prop :=
  bindO (binV .lss a21 a20) fun v22 => condM v22 (bindO (indexAddrV 1 a19 a21) fun v23 => bindO (ldV 1 false h v23) fun v24 => bindO (lenV  v24) fun v26 => bindO (binV .neq v26 a1) fun v28 => condM v28 (K1 [(.int .i64 2)] h) (CallW FF n_impl_all_int64 [v24, (.func (.func n_impl_pointed_c1) #[] #[a3])] h fun v32 h1 => bindO (unV .not v32) fun v33 => condM v33 (K1 [(.int .i64 2)] h1) (bindO (binV .add a21 (.int .i64 1)) fun v35 => K [a1, a3, a19, a20, v35] h1))) (K0 [] h)
theorem wl_impl_pointed_0 {a1 a3 a19 a20 a21 : Value} {h : Hp} {K K0 K1 : Kont} (H : q_impl_pointed_0 a1 a3 a19 a20 a21 h K K0 K1) : ∀ e : Env, [e 1, e 3, e 19, e 20, e 21] = [a1, a3, a19, a20, a21] → V FF l_impl_pointed_0 (qsel [1, 3, 19, 20, 21] K [(.exit 1, [], K0), (.ret, [6], K1)]) ⟨e, h⟩ := by
  intro e he; cases he; exact Eq.mp (by kernel_rfl) H
def y_impl_pointed : YC :=
  .seq (.region false [o 3 (.box y_t_impl_Plane 2 0),
  mc 6 (k 0)])
 (.seq (.block 0
 (.seq (.region false [o 10 (.load 2 true 3),
  o 11 (cl n_impl_IsLaw [10]),
  p 12 (.un .not 11),
  m 9 12])
 (.cond 9
 (.seq (.region false [mc 6 (k 1)])
 (.ret))
 (.seq (.region false [m 14 1,
  o 15 (.load 2 true 3),
  o 16 (cl n_impl_Plane_degree [15]),
  o 17 (cl n_impl_in [14, (k 1), 16]),
  p 18 (.un .not 17),
  m 13 18])
 (.cond 13
 (.seq (.region false [mc 6 (k 2)])
 (.ret))
 (.skip))))))
 (.seq (.seq (.region false [m 19 2,
  p 20 (.len  19),
  mc 21 (k 0)])
 (.block 1
 (.loop [1, 3, 19, 20, 21] [(.exit 1, []), (.ret, [6])] l_impl_pointed_0)))
 (.seq (.region false [mc 6 (k 0)])
 (.ret))))
theorem c_impl_pointed : FF n_impl_pointed = some ⟨36, y_impl_pointed.er, [.tmp 6]⟩ := by kernel_rfl
def p_impl_pointed (a0 a1 a2 : Value) (h : Hp) (R : Value → Hp → Prop) : Prop :=
  bindO (boxV 2 a0) fun c3 => newB h ⟨c3, y_t_impl_Plane, true⟩ fun b3 h1 => bindO (ldV 2 true h1 (.pointer (some ⟨b3, 0, none⟩))) fun v10 => CallW FF n_impl_IsLaw [v10] h1 fun v11 h2 => bindO (unV .not v11) fun v12 => condM v12 (R (.int .i64 1) h2) (bindO (ldV 2 true h2 (.pointer (some ⟨b3, 0, none⟩))) fun v15 => CallW FF n_impl_Plane_degree [v15] h2 fun v16 h3 => CallW FF n_impl_in [a1, (.int .i64 1), v16] h3 fun v17 h4 => bindO (unV .not v17) fun v18 => condM v18 (R (.int .i64 2) h4) (bindO (lenV  a2) fun v20 => LP FF (YC.er l_impl_pointed_0) [1, 3, 19, 20, 21] [(.exit 1, [], fun vs h5 => ∀ e : Env, [] = vs → R (.int .i64 0) h5), (.ret, [6], fun vs h5 => ∀ e : Env, [e 6] = vs → R (e 6) h5)] [a1, (.pointer (some ⟨b3, 0, none⟩)), a2, v20, (.int .i64 0)] h4))
theorem w_impl_pointed {a0 a1 a2 : Value} {h : Hp} {R : Value → Hp → Prop} (H : p_impl_pointed a0 a1 a2 h R) : CallW FF n_impl_pointed [a0, a1, a2] h R := callV_fin c_impl_pointed (Eq.mp (by kernel_rfl) H)
def l_impl_Plane_cut_0 : YC :=
  .seq (.region false [p 16 (.bin .lss 15 14)])
 (.seq (.cond 16
 (.skip)
 (.exit 0))
 (.seq (.block 1
 (.seq (.region false [m 17 15,
  p 18 (.indexAddr 1 13 15),
  o 19 (.load 1 false 18),
  m 6 17,
  m 7 19])
 (.region false [m 20 7,
  p 21 (.fieldAddr 1 2),
  o 22 (.load 1 false 21),
  m 23 6,
  p 24 (.indexAddr 1 22 23),
  o 25 (.load 1 false 24),
  o 26 (.copy y_t_int64 1 20 25)])))
 (.region false [p 27 (.bin .add 15 (k 1)),
  m 15 27])))
def q_impl_Plane_cut_0 (a2 a4 a5 a13 a14 a15 : Value) (h : Hp) (K K0 : Kont) : Prop :=
  bindO (binV .lss a15 a14) fun v16 => condM v16 (bindO (indexAddrV 1 a13 a15) fun v18 => bindO (ldV 1 false h v18) fun v19 => bindO (fieldAddrV 1 a2) fun v21 => bindO (ldV 1 false h v21) fun v22 => bindO (indexAddrV 1 v22 a15) fun v24 => bindO (ldV 1 false h v24) fun v25 => bindVH (copyV y_t_int64 1 h v19 v25) fun v26 h1 => bindO (binV .add a15 (.int .i64 1)) fun v27 => K [a2, a4, a5, a13, a14, v27] h1) (K0 [a4, a5] h)
theorem wl_impl_Plane_cut_0 {a2 a4 a5 a13 a14 a15 : Value} {h : Hp} {K K0 : Kont} (H : q_impl_Plane_cut_0 a2 a4 a5 a13 a14 a15 h K K0) : ∀ e : Env, [e 2, e 4, e 5, e 13, e 14, e 15] = [a2, a4, a5, a13, a14, a15] → V FF l_impl_Plane_cut_0 (qsel [2, 4, 5, 13, 14, 15] K [(.exit 0, [4, 5], K0)]) ⟨e, h⟩ := by
  intro e he; cases he; exact Eq.mp (by kernel_rfl) H
def y_impl_Plane_cut : YC :=
  .seq (.region false [o 2 (.box y_t_impl_Plane 2 0),
  o 4 (.box y_t_impl_Plane 2 (.c (.agg #[.int .i64 0, .slice none 0 0])))])
 (.seq (.region false [p 8 (.fieldAddr 0 2),
  o 9 (.load 1 false 8),
  m 10 1,
  o 11 (cl n_impl_emptyPlane [9, 10]),
  o 5 (.box y_t_impl_Plane 2 (.c (.agg #[.int .i64 0, .slice none 0 0]))),
  e (.store 2 5 11)])
 (.seq (.seq (.region false [p 12 (.fieldAddr 1 5),
  o 13 (.load 1 false 12),
  p 14 (.len  13),
  mc 15 (k 0)])
 (.block 0
 (.loop [2, 4, 5, 13, 14, 15] [(.exit 0, [4, 5])] l_impl_Plane_cut_0)))
 (.seq (.region false [o 28 (.load 2 true 5),
  e (.store 2 4 28)])
 (.ret))))
theorem c_impl_Plane_cut : FF n_impl_Plane_cut = some ⟨29, y_impl_Plane_cut.er, [.cell 4 2 true]⟩ := by kernel_rfl
def p_impl_Plane_cut (a0 a1 : Value) (h : Hp) (R : Value → Hp → Prop) : Prop :=
  bindO (boxV 2 a0) fun c2 => newB h ⟨c2, y_t_impl_Plane, true⟩ fun b2 h1 => bindO (boxV 2 (.agg #[.int .i64 0, .slice none 0 0])) fun c4 => newB h1 ⟨c4, y_t_impl_Plane, true⟩ fun b4 h2 => bindO (fieldAddrV 0 (.pointer (some ⟨b2, 0, none⟩))) fun v8 => bindO (ldV 1 false h2 v8) fun v9 => CallW FF n_impl_emptyPlane [v9, a1] h2 fun v11 h3 => bindO (boxV 2 (.agg #[.int .i64 0, .slice none 0 0])) fun c5 => newB h3 ⟨c5, y_t_impl_Plane, true⟩ fun b5 h4 => bindO (storeV 2 h4 v11 (.pointer (some ⟨b5, 0, none⟩))) fun h5 => bindO (fieldAddrV 1 (.pointer (some ⟨b5, 0, none⟩))) fun v12 => bindO (ldV 1 false h5 v12) fun v13 => bindO (lenV  v13) fun v14 => LP FF (YC.er l_impl_Plane_cut_0) [2, 4, 5, 13, 14, 15] [(.exit 0, [4, 5], fun vs h6 => ∀ e : Env, [e 4, e 5] = vs → bindO (ldV 2 true h6 (e 5)) fun v28 => bindO (storeV 2 h6 v28 (e 4)) fun h7 => bindO (ldV 2 true h7 (e 4)) fun r4 => R r4 h7)] [(.pointer (some ⟨b2, 0, none⟩)), (.pointer (some ⟨b4, 0, none⟩)), (.pointer (some ⟨b5, 0, none⟩)), v13, v14, (.int .i64 0)] h5
theorem w_impl_Plane_cut {a0 a1 : Value} {h : Hp} {R : Value → Hp → Prop} (H : p_impl_Plane_cut a0 a1 h R) : CallW FF n_impl_Plane_cut [a0, a1] h R := callV_fin c_impl_Plane_cut (Eq.mp (by kernel_rfl) H)
def l_impl_Plane_curves_0 : YC :=
  .seq (.region false [p 31 (.bin .lss 30 29)])
 (.seq (.cond 31
 (.skip)
 (.exit 2))
 (.seq (.block 3
 (.seq (.region false [m 32 30,
  p 33 (.indexAddr 1 28 30),
  o 34 (.load 1 false 33),
  m 12 32,
  m 13 34])
 (.seq (.region false [m 35 13,
  p 36 (.bin .neq 35 (k 0))])
 (.cond 36
 (.region true [⟨some 37, .load 2 true 7, none, true⟩,
  m 38 8,
  m 39 10,
  p 40 (.indexAddr 2 38 39),
  o 41 (.load 2 true 40),
  m 42 9,
  m 43 12,
  p 44 (.indexAddr 2 42 43),
  o 45 (.load 2 true 44),
  ⟨some 46, cl n_impl_Series_times [41, 45], none, true⟩,
  m 47 13,
  ⟨some 48, cl n_impl_Series_scaled [46, 47], none, true⟩,
  o 49 (cl n_impl_Series_plus [37, 48]),
  e (.store 2 7 49)])
 (.skip)))))
 (.region false [p 50 (.bin .add 30 (k 1)),
  m 30 50])))
def q_impl_Plane_curves_0 (a6 a7 a8 a9 a10 a21 a22 a23 a28 a29 a30 : Value) (h : Hp) (K K0 : Kont) : Prop :=
  bindO (binV .lss a30 a29) fun v31 => condM v31 (bindO (indexAddrV 1 a28 a30) fun v33 => bindO (ldV 1 false h v33) fun v34 => bindO (binV .neq v34 (.int .i64 0)) fun v36 => condM v36 (inB h.nx a7 ∧ (bindO (ldV 2 true h a7) fun v37 => bindO (indexAddrV 2 a8 a10) fun v40 => bindO (ldV 2 true h v40) fun v41 => bindO (indexAddrV 2 a9 a30) fun v44 => bindO (ldV 2 true h v44) fun v45 => CallW FF n_impl_Series_times [v41, v45] h fun v46 h1 => keepB h.nx h h1 ∧ (CallW FF n_impl_Series_scaled [v46, v34] h1 fun v48 h2 => keepB h.nx h1 h2 ∧ (CallW FF n_impl_Series_plus [v37, v48] h2 fun v49 h3 => bindO (storeV 2 h3 v49 a7) fun h4 => bindO (binV .add a30 (.int .i64 1)) fun v50 => K [a6, a7, a8, a9, a10, a21, a22, a23, a28, a29, v50] h4)))) (bindO (binV .add a30 (.int .i64 1)) fun v50 => K [a6, a7, a8, a9, a10, a21, a22, a23, a28, a29, v50] h)) (K0 [a6, a7, a8, a9, a21, a22, a23] h)
theorem wl_impl_Plane_curves_0 {a6 a7 a8 a9 a10 a21 a22 a23 a28 a29 a30 : Value} {h : Hp} {K K0 : Kont} (H : q_impl_Plane_curves_0 a6 a7 a8 a9 a10 a21 a22 a23 a28 a29 a30 h K K0) : ∀ e : Env, [e 6, e 7, e 8, e 9, e 10, e 21, e 22, e 23, e 28, e 29, e 30] = [a6, a7, a8, a9, a10, a21, a22, a23, a28, a29, a30] → V FF l_impl_Plane_curves_0 (qsel [6, 7, 8, 9, 10, 21, 22, 23, 28, 29, 30] K [(.exit 2, [6, 7, 8, 9, 21, 22, 23], K0)]) ⟨e, h⟩ := by
  intro e he; cases he; exact Eq.mp (by kernel_rfl) H
def l_impl_Plane_curves_1 : YC :=
  .seq (.region false [p 24 (.bin .lss 23 22)])
 (.seq (.cond 24
 (.skip)
 (.exit 0))
 (.seq (.block 1
 (.seq (.region false [m 25 23,
  p 26 (.indexAddr 1 21 23),
  o 27 (.load 1 false 26),
  m 10 25,
  m 11 27])
 (.seq (.region false [m 28 11,
  p 29 (.len  28),
  mc 30 (k 0)])
 (.block 2
 (.loop [6, 7, 8, 9, 10, 21, 22, 23, 28, 29, 30] [(.exit 2, [6, 7, 8, 9, 21, 22, 23])] l_impl_Plane_curves_0)))))
 (.region false [p 51 (.bin .add 23 (k 1)),
  m 23 51])))
def q_impl_Plane_curves_1 (a6 a7 a8 a9 a21 a22 a23 : Value) (h : Hp) (K K0 : Kont) : Prop :=
  bindO (binV .lss a23 a22) fun v24 => condM v24 (bindO (indexAddrV 1 a21 a23) fun v26 => bindO (ldV 1 false h v26) fun v27 => bindO (lenV  v27) fun v29 => LP FF (YC.er l_impl_Plane_curves_0) [6, 7, 8, 9, 10, 21, 22, 23, 28, 29, 30] [(.exit 2, [6, 7, 8, 9, 21, 22, 23], fun vs h1 => ∀ e : Env, [e 6, e 7, e 8, e 9, e 21, e 22, e 23] = vs → bindO (binV .add (e 23) (.int .i64 1)) fun v51 => K [(e 6), (e 7), (e 8), (e 9), (e 21), (e 22), v51] h1)] [a6, a7, a8, a9, a23, a21, a22, a23, v27, v29, (.int .i64 0)] h) (K0 [a6, a7] h)
theorem wl_impl_Plane_curves_1 {a6 a7 a8 a9 a21 a22 a23 : Value} {h : Hp} {K K0 : Kont} (H : q_impl_Plane_curves_1 a6 a7 a8 a9 a21 a22 a23 h K K0) : ∀ e : Env, [e 6, e 7, e 8, e 9, e 21, e 22, e 23] = [a6, a7, a8, a9, a21, a22, a23] → V FF l_impl_Plane_curves_1 (qsel [6, 7, 8, 9, 21, 22, 23] K [(.exit 0, [6, 7], K0)]) ⟨e, h⟩ := by
  intro e he; cases he; exact Eq.mp (by kernel_rfl) H
def y_impl_Plane_curves : YC :=
  .seq (.region false [o 3 (.box y_t_impl_Plane 2 0),
  o 4 (.box y_t_impl_Series 2 1),
  o 5 (.box y_t_impl_Series 2 2),
  o 6 (.box y_t_impl_Series 2 (.c (.agg #[.int .i64 0, .slice none 0 0])))])
 (.seq (.region true [o 14 (.load 2 true 4),
  ⟨some 15, cl n_impl_Series_constant [14, (k 0)], none, true⟩,
  ⟨some 16, .load 2 true 4, none, true⟩,
  ⟨some 17, cl n_impl_Series_powers [16], none, true⟩,
  ⟨some 18, .load 2 true 5, none, true⟩,
  o 19 (cl n_impl_Series_powers [18]),
  o 7 (.box y_t_impl_Series 2 (.c (.agg #[.int .i64 0, .slice none 0 0]))),
  e (.store 2 7 15),
  m 8 17,
  m 9 19])
 (.seq (.seq (.region false [p 20 (.fieldAddr 1 3),
  o 21 (.load 1 false 20),
  p 22 (.len  21),
  mc 23 (k 0)])
 (.block 0
 (.loop [6, 7, 8, 9, 21, 22, 23] [(.exit 0, [6, 7])] l_impl_Plane_curves_1)))
 (.seq (.region false [o 52 (.load 2 true 7),
  e (.store 2 6 52)])
 (.ret))))
theorem c_impl_Plane_curves : FF n_impl_Plane_curves = some ⟨53, y_impl_Plane_curves.er, [.cell 6 2 true]⟩ := by kernel_rfl
def p_impl_Plane_curves (a0 a1 a2 : Value) (h : Hp) (R : Value → Hp → Prop) : Prop :=
  bindO (boxV 2 a0) fun c3 => newB h ⟨c3, y_t_impl_Plane, true⟩ fun b3 h1 => bindO (boxV 2 a1) fun c4 => newB h1 ⟨c4, y_t_impl_Series, true⟩ fun b4 h2 => bindO (boxV 2 a2) fun c5 => newB h2 ⟨c5, y_t_impl_Series, true⟩ fun b5 h3 => bindO (boxV 2 (.agg #[.int .i64 0, .slice none 0 0])) fun c6 => newB h3 ⟨c6, y_t_impl_Series, true⟩ fun b6 h4 => bindO (ldV 2 true h4 (.pointer (some ⟨b4, 0, none⟩))) fun v14 => CallW FF n_impl_Series_constant [v14, (.int .i64 0)] h4 fun v15 h5 => keepB h4.nx h4 h5 ∧ (inB h4.nx (.pointer (some ⟨b4, 0, none⟩)) ∧ (bindO (ldV 2 true h5 (.pointer (some ⟨b4, 0, none⟩))) fun v16 => CallW FF n_impl_Series_powers [v16] h5 fun v17 h6 => keepB h4.nx h5 h6 ∧ (inB h4.nx (.pointer (some ⟨b5, 0, none⟩)) ∧ (bindO (ldV 2 true h6 (.pointer (some ⟨b5, 0, none⟩))) fun v18 => CallW FF n_impl_Series_powers [v18] h6 fun v19 h7 => bindO (boxV 2 (.agg #[.int .i64 0, .slice none 0 0])) fun c7 => newB h7 ⟨c7, y_t_impl_Series, true⟩ fun b7 h8 => bindO (storeV 2 h8 v15 (.pointer (some ⟨b7, 0, none⟩))) fun h9 => bindO (fieldAddrV 1 (.pointer (some ⟨b3, 0, none⟩))) fun v20 => bindO (ldV 1 false h9 v20) fun v21 => bindO (lenV  v21) fun v22 => LP FF (YC.er l_impl_Plane_curves_1) [6, 7, 8, 9, 21, 22, 23] [(.exit 0, [6, 7], fun vs h10 => ∀ e : Env, [e 6, e 7] = vs → bindO (ldV 2 true h10 (e 7)) fun v52 => bindO (storeV 2 h10 v52 (e 6)) fun h11 => bindO (ldV 2 true h11 (e 6)) fun r6 => R r6 h11)] [(.pointer (some ⟨b6, 0, none⟩)), (.pointer (some ⟨b7, 0, none⟩)), v17, v19, v21, v22, (.int .i64 0)] h9))))
theorem w_impl_Plane_curves {a0 a1 a2 : Value} {h : Hp} {R : Value → Hp → Prop} (H : p_impl_Plane_curves a0 a1 a2 h R) : CallW FF n_impl_Plane_curves [a0, a1, a2] h R := callV_fin c_impl_Plane_curves (Eq.mp (by kernel_rfl) H)
def y_impl_curveOf : YC :=
  .seq (.region false [o 4 (.box y_t_impl_Series 2 (.c (.agg #[.int .i64 0, .slice none 0 0])))])
 (.seq (.region false [m 5 0,
  o 6 (.mkrow y_t_int64 1 1 [.int .i64 0] [(0, (k 0))]),
  m 7 1,
  o 8 (.append y_t_int64 1 8 6 7),
  p 9 (.build [.int .i64 0, .slice none 0 0] [(0, 1, 5), (1, 1, 8)]),
  e (.store 2 4 9)])
 (.ret))
theorem c_impl_curveOf : FF n_impl_curveOf = some ⟨10, y_impl_curveOf.er, [.cell 4 2 true]⟩ := by kernel_rfl
def p_impl_curveOf (a0 a1 : Value) (h : Hp) (R : Value → Hp → Prop) : Prop :=
  bindO (boxV 2 (.agg #[.int .i64 0, .slice none 0 0])) fun c4 => newB h ⟨c4, y_t_impl_Series, true⟩ fun b4 h1 => bindO (rowV 1 1 [.int .i64 0] [(0, (.int .i64 0))]) fun c6 => newB h1 ⟨c6, y_t_int64, true⟩ fun b6 h2 => bindVH (appendV y_t_int64 1 h2 (.slice (some ⟨b6, 0, none⟩) 1 1) a1) fun v8 h3 => bindO ((fillX [.int .i64 0, .slice none 0 0] [(0, 1, a0), (1, 1, v8)]).map fun cs => Value.agg cs.toArray) fun v9 => bindO (storeV 2 h3 v9 (.pointer (some ⟨b4, 0, none⟩))) fun h4 => bindO (ldV 2 true h4 (.pointer (some ⟨b4, 0, none⟩))) fun r4 => R r4 h4
theorem w_impl_curveOf {a0 a1 : Value} {h : Hp} {R : Value → Hp → Prop} (H : p_impl_curveOf a0 a1 h R) : CallW FF n_impl_curveOf [a0, a1] h R := callV_fin c_impl_curveOf (Eq.mp (by kernel_rfl) H)
def l_spec_l16Code_0 : YC :=
  .seq (.seq (.region false [m 9 5,
  m 10 1,
  p 11 (.len  10),
  p 12 (.bin .lss 9 11)])
 (.cond 12
 (.skip)
 (.exit 0)))
 (.seq (.block 1
 (.seq (.region false [o 15 (.load 2 true 2),
  m 16 1,
  m 17 5,
  p 18 (.indexAddr 1 16 17),
  o 19 (.load 1 false 18),
  o 20 (cl n_spec_l16Point [15, 19]),
  p 21 (.un .not 20),
  m 22 21,
  ⟨some 23, .p (.move  1), some (22, false), false⟩,
  ⟨some 24, .p (.move  5), some (22, false), false⟩,
  ⟨some 25, .p (.indexAddr 1 23 24), some (22, false), false⟩,
  ⟨some 26, .load 1 false 25, some (22, false), false⟩,
  ⟨some 27, .p (.len  26), some (22, false), false⟩,
  ⟨some 28, .p (.move  1), some (22, false), false⟩,
  ⟨some 29, .p (.indexAddr 1 28 (k 0)), some (22, false), false⟩,
  ⟨some 30, .load 1 false 29, some (22, false), false⟩,
  ⟨some 31, .p (.len  30), some (22, false), false⟩,
  ⟨some 32, .p (.bin .neq 27 31), some (22, false), false⟩,
  p 33 (.pick  22 (.c (.bool true)) 32)])
 (.cond 33
 (.seq (.region false [mc 4 (k 2)])
 (.ret))
 (.skip))))
 (.region false [m 13 5,
  p 14 (.bin .add 13 (k 1)),
  m 5 14]))
def q_spec_l16Code_0 (a1 a2 a5 : Value) (h : Hp) (K K0 K1 : Kont) : Prop :=
  bindO (lenV  a1) fun v11 => bindO (binV .lss a5 v11) fun v12 => condM v12 (bindO (ldV 2 true h a2) fun v15 => bindO (indexAddrV 1 a1 a5) fun v18 => bindO (ldV 1 false h v18) fun v19 => CallW FF n_spec_l16Point [v15, v19] h fun v20 h1 => bindO (unV .not v20) fun v21 => condM v21 (K1 [(.int .i64 2)] h1) (bindO (indexAddrV 1 a1 a5) fun v25 => bindO (ldV 1 false h1 v25) fun v26 => bindO (lenV  v26) fun v27 => bindO (indexAddrV 1 a1 (.int .i64 0)) fun v29 => bindO (ldV 1 false h1 v29) fun v30 => bindO (lenV  v30) fun v31 => bindO (binV .neq v27 v31) fun v32 => condM v32 (K1 [(.int .i64 2)] h1) (bindO (binV .add a5 (.int .i64 1)) fun v14 => K [a1, a2, v14] h1))) (K0 [] h)
theorem wl_spec_l16Code_0 {a1 a2 a5 : Value} {h : Hp} {K K0 K1 : Kont} (H : q_spec_l16Code_0 a1 a2 a5 h K K0 K1) : ∀ e : Env, [e 1, e 2, e 5] = [a1, a2, a5] → V FF l_spec_l16Code_0 (qsel [1, 2, 5] K [(.exit 0, [], K0), (.ret, [4], K1)]) ⟨e, h⟩ := by
  intro e he; cases he; exact Eq.mp (by kernel_rfl) H
def y_spec_l16Code : YC :=
  .seq (.region false [o 2 (.box y_t_impl_Plane 2 0),
  mc 4 (k 0)])
 (.seq (.seq (.region false [o 6 (.load 2 true 2),
  o 7 (cl n_spec_l04Is [6]),
  p 8 (.un .not 7)])
 (.cond 8
 (.seq (.region false [mc 4 (k 1)])
 (.ret))
 (.skip)))
 (.seq (.seq (.region false [mc 5 (k 0)])
 (.block 0
 (.loop [1, 2, 5] [(.exit 0, []), (.ret, [4])] l_spec_l16Code_0)))
 (.seq (.region false [mc 4 (k 0)])
 (.ret))))
theorem c_spec_l16Code : FF n_spec_l16Code = some ⟨34, y_spec_l16Code.er, [.tmp 4]⟩ := by kernel_rfl
def p_spec_l16Code (a0 a1 : Value) (h : Hp) (R : Value → Hp → Prop) : Prop :=
  bindO (boxV 2 a0) fun c2 => newB h ⟨c2, y_t_impl_Plane, true⟩ fun b2 h1 => bindO (ldV 2 true h1 (.pointer (some ⟨b2, 0, none⟩))) fun v6 => CallW FF n_spec_l04Is [v6] h1 fun v7 h2 => bindO (unV .not v7) fun v8 => condM v8 (R (.int .i64 1) h2) (LP FF (YC.er l_spec_l16Code_0) [1, 2, 5] [(.exit 0, [], fun vs h3 => ∀ e : Env, [] = vs → R (.int .i64 0) h3), (.ret, [4], fun vs h3 => ∀ e : Env, [e 4] = vs → R (e 4) h3)] [a1, (.pointer (some ⟨b2, 0, none⟩)), (.int .i64 0)] h2)
theorem w_spec_l16Code {a0 a1 : Value} {h : Hp} {R : Value → Hp → Prop} (H : p_spec_l16Code a0 a1 h R) : CallW FF n_spec_l16Code [a0, a1] h R := callV_fin c_spec_l16Code (Eq.mp (by kernel_rfl) H)
def y_spec_l01Own : YC :=
  .seq (.region false [mc 2 (.c (.slice none 0 0))])
 (.seq (.region false [o 3 (.mkrow y_t_int64 1 0 [.int .i64 0] []),
  m 4 0,
  o 5 (.append y_t_int64 1 8 3 4),
  m 2 5])
 (.ret))
theorem c_spec_l01Own : FF n_spec_l01Own = some ⟨6, y_spec_l01Own.er, [.tmp 2]⟩ := by kernel_rfl
def p_spec_l01Own (a0 : Value) (h : Hp) (R : Value → Hp → Prop) : Prop :=
  bindO (rowV 1 0 [.int .i64 0] []) fun c3 => newB h ⟨c3, y_t_int64, true⟩ fun b3 h1 => bindVH (appendV y_t_int64 1 h1 (.slice (some ⟨b3, 0, none⟩) 0 1) a0) fun v5 h2 => R v5 h2
theorem w_spec_l01Own {a0 : Value} {h : Hp} {R : Value → Hp → Prop} (H : p_spec_l01Own a0 h R) : CallW FF n_spec_l01Own [a0] h R := callV_fin c_spec_l01Own (Eq.mp (by kernel_rfl) H)
def y_spec_l16Add : YC :=
  .seq (.region false [o 3 (.box y_t_impl_Plane 2 0),
  mc 6 (.c (.slice none 0 0))])
 (.seq (.region true [p 7 (.fieldAddr 0 3),
  ⟨some 8, .load 1 false 7, none, true⟩,
  p 9 (.fieldAddr 1 3),
  ⟨some 10, .load 1 false 9, none, true⟩,
  o 11 (.mkrow y_t_int64 1 1 [.int .i64 0] [(0, (k 0))]),
  m 12 1,
  ⟨some 13, .append y_t_int64 1 8 11 12, none, true⟩,
  o 14 (.mkrow y_t_int64 1 1 [.int .i64 0] [(0, (k 0))]),
  m 15 2,
  ⟨some 16, .append y_t_int64 1 8 14 15, none, true⟩,
  o 17 (cl n_spec_l03Put [8, 10, 13, 16]),
  p 18 (.slice 1 17 (some (k 1)) none),
  m 6 18])
 (.ret))
theorem c_spec_l16Add : FF n_spec_l16Add = some ⟨19, y_spec_l16Add.er, [.tmp 6]⟩ := by kernel_rfl
def p_spec_l16Add (a0 a1 a2 : Value) (h : Hp) (R : Value → Hp → Prop) : Prop :=
  bindO (boxV 2 a0) fun c3 => newB h ⟨c3, y_t_impl_Plane, true⟩ fun b3 h1 => bindO (fieldAddrV 0 (.pointer (some ⟨b3, 0, none⟩))) fun v7 => inB h1.nx v7 ∧ (bindO (ldV 1 false h1 v7) fun v8 => bindO (fieldAddrV 1 (.pointer (some ⟨b3, 0, none⟩))) fun v9 => inB h1.nx v9 ∧ (bindO (ldV 1 false h1 v9) fun v10 => bindO (rowV 1 1 [.int .i64 0] [(0, (.int .i64 0))]) fun c11 => newB h1 ⟨c11, y_t_int64, true⟩ fun b11 h2 => bindVH (appendV y_t_int64 1 h2 (.slice (some ⟨b11, 0, none⟩) 1 1) a1) fun v13 h3 => keepB h1.nx h2 h3 ∧ (bindO (rowV 1 1 [.int .i64 0] [(0, (.int .i64 0))]) fun c14 => newB h3 ⟨c14, y_t_int64, true⟩ fun b14 h4 => bindVH (appendV y_t_int64 1 h4 (.slice (some ⟨b14, 0, none⟩) 1 1) a2) fun v16 h5 => keepB h1.nx h4 h5 ∧ (CallW FF n_spec_l03Put [v8, v10, v13, v16] h5 fun v17 h6 => bindO (sliceV 1 (some (.int .i64 1)) none v17) fun v18 => R v18 h6))))
theorem w_spec_l16Add {a0 a1 a2 : Value} {h : Hp} {R : Value → Hp → Prop} (H : p_spec_l16Add a0 a1 a2 h R) : CallW FF n_spec_l16Add [a0, a1, a2] h R := callV_fin c_spec_l16Add (Eq.mp (by kernel_rfl) H)
def y_spec_l16Cut : YC :=
  .seq (.region false [o 2 (.box y_t_impl_Plane 2 0),
  o 4 (.box y_t_impl_Plane 2 (.c (.agg #[.int .i64 0, .slice none 0 0])))])
 (.seq (.region true [p 5 (.fieldAddr 0 2),
  ⟨some 6, .load 1 false 5, none, true⟩,
  p 7 (.fieldAddr 1 2),
  o 8 (.load 1 false 7),
  m 9 1,
  ⟨some 10, cl n_spec_l03Cut [8, 9], none, true⟩,
  o 11 (cl n_spec_l03Make [6, 10]),
  e (.store 2 4 11)])
 (.ret))
theorem c_spec_l16Cut : FF n_spec_l16Cut = some ⟨12, y_spec_l16Cut.er, [.cell 4 2 true]⟩ := by kernel_rfl
def p_spec_l16Cut (a0 a1 : Value) (h : Hp) (R : Value → Hp → Prop) : Prop :=
  bindO (boxV 2 a0) fun c2 => newB h ⟨c2, y_t_impl_Plane, true⟩ fun b2 h1 => bindO (boxV 2 (.agg #[.int .i64 0, .slice none 0 0])) fun c4 => newB h1 ⟨c4, y_t_impl_Plane, true⟩ fun b4 h2 => bindO (fieldAddrV 0 (.pointer (some ⟨b2, 0, none⟩))) fun v5 => inB h2.nx v5 ∧ (bindO (ldV 1 false h2 v5) fun v6 => bindO (fieldAddrV 1 (.pointer (some ⟨b2, 0, none⟩))) fun v7 => bindO (ldV 1 false h2 v7) fun v8 => CallW FF n_spec_l03Cut [v8, a1] h2 fun v10 h3 => keepB h2.nx h2 h3 ∧ (CallW FF n_spec_l03Make [v6, v10] h3 fun v11 h4 => bindO (storeV 2 h4 v11 (.pointer (some ⟨b4, 0, none⟩))) fun h5 => bindO (ldV 2 true h5 (.pointer (some ⟨b4, 0, none⟩))) fun r4 => R r4 h5))
theorem w_spec_l16Cut {a0 a1 : Value} {h : Hp} {R : Value → Hp → Prop} (H : p_spec_l16Cut a0 a1 h R) : CallW FF n_spec_l16Cut [a0, a1] h R := callV_fin c_spec_l16Cut (Eq.mp (by kernel_rfl) H)
def y_spec_l16Multiple : YC :=
  .seq (.region false [o 3 (.box y_t_impl_Plane 2 0),
  mc 6 (.c (.slice none 0 0))])
 (.seq (.region true [⟨some 7, .load 2 true 3, none, true⟩,
  m 8 1,
  o 9 (.mkrow y_t_int64 1 1 [.int .i64 0] [(0, (k 0))]),
  m 10 2,
  ⟨some 11, .append y_t_int64 1 8 9 10, none, true⟩,
  o 12 (cl n_spec_l04Multiple [7, 8, 11]),
  p 13 (.slice 1 12 (some (k 1)) none),
  m 6 13])
 (.ret))
theorem c_spec_l16Multiple : FF n_spec_l16Multiple = some ⟨14, y_spec_l16Multiple.er, [.tmp 6]⟩ := by kernel_rfl
def p_spec_l16Multiple (a0 a1 a2 : Value) (h : Hp) (R : Value → Hp → Prop) : Prop :=
  bindO (boxV 2 a0) fun c3 => newB h ⟨c3, y_t_impl_Plane, true⟩ fun b3 h1 => inB h1.nx (.pointer (some ⟨b3, 0, none⟩)) ∧ (bindO (ldV 2 true h1 (.pointer (some ⟨b3, 0, none⟩))) fun v7 => bindO (rowV 1 1 [.int .i64 0] [(0, (.int .i64 0))]) fun c9 => newB h1 ⟨c9, y_t_int64, true⟩ fun b9 h2 => bindVH (appendV y_t_int64 1 h2 (.slice (some ⟨b9, 0, none⟩) 1 1) a2) fun v11 h3 => keepB h1.nx h2 h3 ∧ (CallW FF n_spec_l04Multiple [v7, a1, v11] h3 fun v12 h4 => bindO (sliceV 1 (some (.int .i64 1)) none v12) fun v13 => R v13 h4))
theorem w_spec_l16Multiple {a0 a1 a2 : Value} {h : Hp} {R : Value → Hp → Prop} (H : p_spec_l16Multiple a0 a1 a2 h R) : CallW FF n_spec_l16Multiple [a0, a1, a2] h R := callV_fin c_spec_l16Multiple (Eq.mp (by kernel_rfl) H)
def l_impl_countAtMost_0 : YC :=
  .seq (.region false [p 10 (.bin .lss 9 8)])
 (.seq (.cond 10
 (.skip)
 (.exit 0))
 (.seq (.block 1
 (.seq (.seq (.region false [m 11 7,
  m 12 2,
  m 13 0,
  p 14 (.bin .quo 12 13),
  p 15 (.bin .gtr 11 14)])
 (.cond 15
 (.seq (.region false [m 16 2,
  p 17 (.bin .add 16 (k 1)),
  m 6 17])
 (.ret))
 (.skip)))
 (.region false [m 18 7,
  m 19 0,
  p 20 (.bin .mul 18 19),
  m 7 20])))
 (.region false [p 21 (.bin .add 9 (k 1)),
  m 9 21])))
def q_impl_countAtMost_0 (a0 a2 a7 a8 a9 : Value) (h : Hp) (K K0 K1 : Kont) : Prop :=
  bindO (binV .lss a9 a8) fun v10 => condM v10 (bindO (binV .quo a2 a0) fun v14 => bindO (binV .gtr a7 v14) fun v15 => condM v15 (bindO (binV .add a2 (.int .i64 1)) fun v17 => K1 [v17] h) (bindO (binV .mul a7 a0) fun v20 => bindO (binV .add a9 (.int .i64 1)) fun v21 => K [a0, a2, v20, a8, v21] h)) (K0 [a7] h)
theorem wl_impl_countAtMost_0 {a0 a2 a7 a8 a9 : Value} {h : Hp} {K K0 K1 : Kont} (H : q_impl_countAtMost_0 a0 a2 a7 a8 a9 h K K0 K1) : ∀ e : Env, [e 0, e 2, e 7, e 8, e 9] = [a0, a2, a7, a8, a9] → V FF l_impl_countAtMost_0 (qsel [0, 2, 7, 8, 9] K [(.exit 0, [7], K0), (.ret, [6], K1)]) ⟨e, h⟩ := by
  intro e he; cases he; exact Eq.mp (by kernel_rfl) H
def y_impl_countAtMost : YC :=
  .seq (.region false [mc 6 (k 0)])
 (.seq (.region false [mc 7 (k 1)])
 (.seq (.seq (.region false [m 8 1,
  mc 9 (k 0)])
 (.block 0
 (.loop [0, 2, 7, 8, 9] [(.exit 0, [7]), (.ret, [6])] l_impl_countAtMost_0)))
 (.seq (.region false [m 22 7,
  m 6 22])
 (.ret))))
theorem c_impl_countAtMost : FF n_impl_countAtMost = some ⟨23, y_impl_countAtMost.er, [.tmp 6]⟩ := by kernel_rfl
def p_impl_countAtMost (a0 a1 a2 : Value) (h : Hp) (R : Value → Hp → Prop) : Prop :=
  LP FF (YC.er l_impl_countAtMost_0) [0, 2, 7, 8, 9] [(.exit 0, [7], fun vs h1 => ∀ e : Env, [e 7] = vs → R (e 7) h1), (.ret, [6], fun vs h1 => ∀ e : Env, [e 6] = vs → R (e 6) h1)] [a0, a2, (.int .i64 1), a1, (.int .i64 0)] h
theorem w_impl_countAtMost {a0 a1 a2 : Value} {h : Hp} {R : Value → Hp → Prop} (H : p_impl_countAtMost a0 a1 a2 h R) : CallW FF n_impl_countAtMost [a0, a1, a2] h R := callV_fin c_impl_countAtMost (Eq.mp (by kernel_rfl) H)
def l_impl_factors_0 : YC :=
  .seq (.seq (.region false [m 17 0,
  m 18 4,
  p 19 (.bin .rem 17 18),
  p 20 (.bin .eql 19 (k 0))])
 (.cond 20
 (.skip)
 (.exit 2)))
 (.seq (.block 3
 (.region false [m 24 5,
  p 25 (.bin .add 24 (k 1)),
  m 5 25]))
 (.region false [m 21 0,
  m 22 4,
  p 23 (.bin .quo 21 22),
  m 0 23]))
def q_impl_factors_0 (a0 a3 a4 a5 : Value) (h : Hp) (K K0 : Kont) : Prop :=
  bindO (binV .rem a0 a4) fun v19 => bindO (binV .eql v19 (.int .i64 0)) fun v20 => condM v20 (bindO (binV .add a5 (.int .i64 1)) fun v25 => bindO (binV .quo a0 a4) fun v23 => K [v23, a3, a4, v25] h) (K0 [a0, a3, a4, a5] h)
theorem wl_impl_factors_0 {a0 a3 a4 a5 : Value} {h : Hp} {K K0 : Kont} (H : q_impl_factors_0 a0 a3 a4 a5 h K K0) : ∀ e : Env, [e 0, e 3, e 4, e 5] = [a0, a3, a4, a5] → V FF l_impl_factors_0 (qsel [0, 3, 4, 5] K [(.exit 2, [0, 3, 4, 5], K0)]) ⟨e, h⟩ := by
  intro e he; cases he; exact Eq.mp (by kernel_rfl) H
def l_impl_factors_1 : YC :=
  .seq (.seq (.region false [m 7 0,
  p 8 (.bin .gtr 7 (k 1))])
 (.cond 8
 (.skip)
 (.exit 0)))
 (.seq (.block 1
 (.join [0, 3, 4] (.seq (.region false [m 11 4,
  m 12 4,
  p 13 (.bin .mul 11 12),
  m 14 0,
  p 15 (.bin .gtr 13 14)])
 (.cond 15
 (.region false [m 16 0,
  m 4 16])
 (.skip)))
 (.seq (.region false [mc 5 (k 0)])
 (.seq (.block 2
 (.loop [0, 3, 4, 5] [(.exit 2, [0, 3, 4, 5])] l_impl_factors_0))
 (.seq (.region false [m 26 5,
  p 27 (.bin .gtr 26 (k 0))])
 (.cond 27
 (.region false [m 28 3,
  m 29 4,
  m 30 5,
  o 31 (.mkrow y_t_int64 1 2 [.int .i64 0] [(0, 29), (1, 30)]),
  o 32 (.mkrow y_t_Lint64 1 1 [.slice none 0 0] [(0, 31)]),
  o 33 (.append y_t_Lint64 1 24 28 32),
  m 3 33])
 (.skip)))))))
 (.region false [m 9 4,
  p 10 (.bin .add 9 (k 1)),
  m 4 10]))
def q_impl_factors_1 (a0 a3 a4 : Value) (h : Hp) (K K0 : Kont) : Prop :=
  bindO (binV .gtr a0 (.int .i64 1)) fun v8 => condM v8 (JN (fun J => bindO (binV .mul a4 a4) fun v13 => bindO (binV .gtr v13 a0) fun v15 => condM v15 (J [a0, a3, a0] h) (J [a0, a3, a4] h)) fun vs h1 => ∀ e : Env, [e 0, e 3, e 4] = vs → LP FF (YC.er l_impl_factors_0) [0, 3, 4, 5] [(.exit 2, [0, 3, 4, 5], fun vs_1 h2 => ∀ e_1 : Env, [e_1 0, e_1 3, e_1 4, e_1 5] = vs_1 → bindO (binV .gtr (e_1 5) (.int .i64 0)) fun v27 => condM v27 (bindO (rowV 1 2 [.int .i64 0] [(0, (e_1 4)), (1, (e_1 5))]) fun c31 => newB h2 ⟨c31, y_t_int64, true⟩ fun b31 h3 => bindO (rowV 1 1 [.slice none 0 0] [(0, (.slice (some ⟨b31, 0, none⟩) 2 1))]) fun c32 => newB h3 ⟨c32, y_t_Lint64, true⟩ fun b32 h4 => bindVH (appendV y_t_Lint64 1 h4 (e_1 3) (.slice (some ⟨b32, 0, none⟩) 1 1)) fun v33 h5 => bindO (binV .add (e_1 4) (.int .i64 1)) fun v10 => K [(e_1 0), v33, v10] h5) (bindO (binV .add (e_1 4) (.int .i64 1)) fun v10 => K [(e_1 0), (e_1 3), v10] h2))] [(e 0), (e 3), (e 4), (.int .i64 0)] h1) (K0 [a3] h)
theorem wl_impl_factors_1 {a0 a3 a4 : Value} {h : Hp} {K K0 : Kont} (H : q_impl_factors_1 a0 a3 a4 h K K0) : ∀ e : Env, [e 0, e 3, e 4] = [a0, a3, a4] → V FF l_impl_factors_1 (qsel [0, 3, 4] K [(.exit 0, [3], K0)]) ⟨e, h⟩ := by
  intro e he; cases he; exact Eq.mp (by kernel_rfl) H
def y_impl_factors : YC :=
  .seq (.region false [mc 2 (.c (.slice none 0 0))])
 (.seq (.region false [o 6 (.mkrow y_t_Lint64 1 0 [.slice none 0 0] []),
  m 3 6])
 (.seq (.seq (.region false [mc 4 (k 2)])
 (.block 0
 (.loop [0, 3, 4] [(.exit 0, [3])] l_impl_factors_1)))
 (.seq (.region false [m 34 3,
  m 2 34])
 (.ret))))
theorem c_impl_factors : FF n_impl_factors = some ⟨35, y_impl_factors.er, [.tmp 2]⟩ := by kernel_rfl
def p_impl_factors (a0 : Value) (h : Hp) (R : Value → Hp → Prop) : Prop :=
  bindO (rowV 1 0 [.slice none 0 0] []) fun c6 => newB h ⟨c6, y_t_Lint64, true⟩ fun b6 h1 => LP FF (YC.er l_impl_factors_1) [0, 3, 4] [(.exit 0, [3], fun vs h2 => ∀ e : Env, [e 3] = vs → R (e 3) h2)] [a0, (.slice (some ⟨b6, 0, none⟩) 0 1), (.int .i64 2)] h1
theorem w_impl_factors {a0 : Value} {h : Hp} {R : Value → Hp → Prop} (H : p_impl_factors a0 h R) : CallW FF n_impl_factors [a0] h R := callV_fin c_impl_factors (Eq.mp (by kernel_rfl) H)
def y_impl_Plane_kills : YC :=
  .seq (.region false [o 3 (.box y_t_impl_Plane 2 0),
  o 5 (.box y_t_impl_Series 2 2),
  mc 6 (.c (.bool false))])
 (.seq (.region true [o 7 (.load 2 true 3),
  m 8 1,
  o 9 (.load 2 true 5),
  ⟨some 10, cl n_impl_Plane_multiple [7, 8, 9], none, true⟩,
  p 11 (.fieldAddr 0 3),
  ⟨some 12, .load 1 false 11, none, true⟩,
  ⟨some 13, .load 2 true 3, none, true⟩,
  ⟨some 14, cl n_impl_Plane_degree [13], none, true⟩,
  o 15 (cl n_impl_zero [12, 14]),
  o 16 (cl n_impl_Series_same [10, 15]),
  m 6 16])
 (.ret))
theorem c_impl_Plane_kills : FF n_impl_Plane_kills = some ⟨17, y_impl_Plane_kills.er, [.tmp 6]⟩ := by kernel_rfl
def p_impl_Plane_kills (a0 a1 a2 : Value) (h : Hp) (R : Value → Hp → Prop) : Prop :=
  bindO (boxV 2 a0) fun c3 => newB h ⟨c3, y_t_impl_Plane, true⟩ fun b3 h1 => bindO (boxV 2 a2) fun c5 => newB h1 ⟨c5, y_t_impl_Series, true⟩ fun b5 h2 => bindO (ldV 2 true h2 (.pointer (some ⟨b3, 0, none⟩))) fun v7 => bindO (ldV 2 true h2 (.pointer (some ⟨b5, 0, none⟩))) fun v9 => CallW FF n_impl_Plane_multiple [v7, a1, v9] h2 fun v10 h3 => keepB h2.nx h2 h3 ∧ (bindO (fieldAddrV 0 (.pointer (some ⟨b3, 0, none⟩))) fun v11 => inB h2.nx v11 ∧ (bindO (ldV 1 false h3 v11) fun v12 => inB h2.nx (.pointer (some ⟨b3, 0, none⟩)) ∧ (bindO (ldV 2 true h3 (.pointer (some ⟨b3, 0, none⟩))) fun v13 => CallW FF n_impl_Plane_degree [v13] h3 fun v14 h4 => keepB h2.nx h3 h4 ∧ (CallW FF n_impl_zero [v12, v14] h4 fun v15 h5 => CallW FF n_impl_Series_same [v10, v15] h5 fun v16 h6 => R v16 h6))))
theorem w_impl_Plane_kills {a0 a1 a2 : Value} {h : Hp} {R : Value → Hp → Prop} (H : p_impl_Plane_kills a0 a1 a2 h R) : CallW FF n_impl_Plane_kills [a0, a1, a2] h R := callV_fin c_impl_Plane_kills (Eq.mp (by kernel_rfl) H)
def l_spec_l16Size_0 : YC :=
  .seq (.seq (.region false [m 8 1,
  p 9 (.bin .gtr 8 (k 0))])
 (.cond 9
 (.skip)
 (.exit 0)))
 (.seq (.block 1
 (.seq (.region false [m 12 7,
  m 13 0,
  p 14 (.bin .mul 12 13),
  m 7 14])
 (.seq (.region false [m 15 7,
  m 16 2,
  p 17 (.bin .gtr 15 16)])
 (.cond 17
 (.seq (.region false [m 18 2,
  p 19 (.bin .add 18 (k 1)),
  m 6 19])
 (.ret))
 (.skip)))))
 (.region false [m 10 1,
  p 11 (.bin .sub 10 (k 1)),
  m 1 11]))
def q_spec_l16Size_0 (a0 a1 a2 a7 : Value) (h : Hp) (K K0 K1 : Kont) : Prop :=
  bindO (binV .gtr a1 (.int .i64 0)) fun v9 => condM v9 (bindO (binV .mul a7 a0) fun v14 => bindO (binV .gtr v14 a2) fun v17 => condM v17 (bindO (binV .add a2 (.int .i64 1)) fun v19 => K1 [v19] h) (bindO (binV .sub a1 (.int .i64 1)) fun v11 => K [a0, v11, a2, v14] h)) (K0 [a7] h)
theorem wl_spec_l16Size_0 {a0 a1 a2 a7 : Value} {h : Hp} {K K0 K1 : Kont} (H : q_spec_l16Size_0 a0 a1 a2 a7 h K K0 K1) : ∀ e : Env, [e 0, e 1, e 2, e 7] = [a0, a1, a2, a7] → V FF l_spec_l16Size_0 (qsel [0, 1, 2, 7] K [(.exit 0, [7], K0), (.ret, [6], K1)]) ⟨e, h⟩ := by
  intro e he; cases he; exact Eq.mp (by kernel_rfl) H
def y_spec_l16Size : YC :=
  .seq (.region false [mc 6 (k 0)])
 (.seq (.region false [mc 7 (k 1)])
 (.seq (.block 0
 (.loop [0, 1, 2, 7] [(.exit 0, [7]), (.ret, [6])] l_spec_l16Size_0))
 (.seq (.region false [m 20 7,
  m 6 20])
 (.ret))))
theorem c_spec_l16Size : FF n_spec_l16Size = some ⟨21, y_spec_l16Size.er, [.tmp 6]⟩ := by kernel_rfl
def p_spec_l16Size (a0 a1 a2 : Value) (h : Hp) (R : Value → Hp → Prop) : Prop :=
  LP FF (YC.er l_spec_l16Size_0) [0, 1, 2, 7] [(.exit 0, [7], fun vs h1 => ∀ e : Env, [e 7] = vs → R (e 7) h1), (.ret, [6], fun vs h1 => ∀ e : Env, [e 6] = vs → R (e 6) h1)] [a0, a1, a2, (.int .i64 1)] h
theorem w_spec_l16Size {a0 a1 a2 : Value} {h : Hp} {R : Value → Hp → Prop} (H : p_spec_l16Size a0 a1 a2 h R) : CallW FF n_spec_l16Size [a0, a1, a2] h R := callV_fin c_spec_l16Size (Eq.mp (by kernel_rfl) H)
def l_spec_l16Primes_0 : YC :=
  .seq (.seq (.region false [m 18 0,
  m 19 4,
  p 20 (.bin .rem 18 19),
  p 21 (.bin .eql 20 (k 0))])
 (.cond 21
 (.skip)
 (.exit 2)))
 (.block 3
 (.region false [m 22 0,
  m 23 4,
  p 24 (.bin .quo 22 23),
  m 0 24]))
def q_spec_l16Primes_0 (a0 a3 a4 : Value) (h : Hp) (K K0 : Kont) : Prop :=
  bindO (binV .rem a0 a4) fun v20 => bindO (binV .eql v20 (.int .i64 0)) fun v21 => condM v21 (bindO (binV .quo a0 a4) fun v24 => K [v24, a3, a4] h) (K0 [a0, a3, a4] h)
theorem wl_spec_l16Primes_0 {a0 a3 a4 : Value} {h : Hp} {K K0 : Kont} (H : q_spec_l16Primes_0 a0 a3 a4 h K K0) : ∀ e : Env, [e 0, e 3, e 4] = [a0, a3, a4] → V FF l_spec_l16Primes_0 (qsel [0, 3, 4] K [(.exit 2, [0, 3, 4], K0)]) ⟨e, h⟩ := by
  intro e he; cases he; exact Eq.mp (by kernel_rfl) H
def l_spec_l16Primes_1 : YC :=
  .seq (.seq (.region false [m 6 0,
  p 7 (.bin .gtr 6 (k 1))])
 (.cond 7
 (.skip)
 (.exit 0)))
 (.seq (.block 1
 (.join [0, 3, 4] (.seq (.region false [m 10 0,
  m 11 4,
  p 12 (.bin .rem 10 11),
  p 13 (.bin .eql 12 (k 0))])
 (.cond 13
 (.region false [m 14 3,
  m 15 4,
  o 16 (.mkrow y_t_int64 1 1 [.int .i64 0] [(0, 15)]),
  o 17 (.append y_t_int64 1 8 14 16),
  m 3 17])
 (.skip)))
 (.block 2
 (.loop [0, 3, 4] [(.exit 2, [0, 3, 4])] l_spec_l16Primes_0))))
 (.region false [m 8 4,
  p 9 (.bin .add 8 (k 1)),
  m 4 9]))
def q_spec_l16Primes_1 (a0 a3 a4 : Value) (h : Hp) (K K0 : Kont) : Prop :=
  bindO (binV .gtr a0 (.int .i64 1)) fun v7 => condM v7 (JN (fun J => bindO (binV .rem a0 a4) fun v12 => bindO (binV .eql v12 (.int .i64 0)) fun v13 => condM v13 (bindO (rowV 1 1 [.int .i64 0] [(0, a4)]) fun c16 => newB h ⟨c16, y_t_int64, true⟩ fun b16 h1 => bindVH (appendV y_t_int64 1 h1 a3 (.slice (some ⟨b16, 0, none⟩) 1 1)) fun v17 h2 => J [a0, v17, a4] h2) (J [a0, a3, a4] h)) fun vs h1 => ∀ e : Env, [e 0, e 3, e 4] = vs → LP FF (YC.er l_spec_l16Primes_0) [0, 3, 4] [(.exit 2, [0, 3, 4], fun vs_1 h2 => ∀ e_1 : Env, [e_1 0, e_1 3, e_1 4] = vs_1 → bindO (binV .add (e_1 4) (.int .i64 1)) fun v9 => K [(e_1 0), (e_1 3), v9] h2)] [(e 0), (e 3), (e 4)] h1) (K0 [a3] h)
theorem wl_spec_l16Primes_1 {a0 a3 a4 : Value} {h : Hp} {K K0 : Kont} (H : q_spec_l16Primes_1 a0 a3 a4 h K K0) : ∀ e : Env, [e 0, e 3, e 4] = [a0, a3, a4] → V FF l_spec_l16Primes_1 (qsel [0, 3, 4] K [(.exit 0, [3], K0)]) ⟨e, h⟩ := by
  intro e he; cases he; exact Eq.mp (by kernel_rfl) H
def y_spec_l16Primes : YC :=
  .seq (.region false [mc 2 (.c (.slice none 0 0))])
 (.seq (.region false [o 5 (.mkrow y_t_int64 1 0 [.int .i64 0] []),
  m 3 5])
 (.seq (.seq (.region false [mc 4 (k 2)])
 (.block 0
 (.loop [0, 3, 4] [(.exit 0, [3])] l_spec_l16Primes_1)))
 (.seq (.region false [m 25 3,
  m 2 25])
 (.ret))))
theorem c_spec_l16Primes : FF n_spec_l16Primes = some ⟨26, y_spec_l16Primes.er, [.tmp 2]⟩ := by kernel_rfl
def p_spec_l16Primes (a0 : Value) (h : Hp) (R : Value → Hp → Prop) : Prop :=
  bindO (rowV 1 0 [.int .i64 0] []) fun c5 => newB h ⟨c5, y_t_int64, true⟩ fun b5 h1 => LP FF (YC.er l_spec_l16Primes_1) [0, 3, 4] [(.exit 0, [3], fun vs h2 => ∀ e : Env, [e 3] = vs → R (e 3) h2)] [a0, (.slice (some ⟨b5, 0, none⟩) 0 1), (.int .i64 2)] h1
theorem w_spec_l16Primes {a0 : Value} {h : Hp} {R : Value → Hp → Prop} (H : p_spec_l16Primes a0 h R) : CallW FF n_spec_l16Primes [a0] h R := callV_fin c_spec_l16Primes (Eq.mp (by kernel_rfl) H)
def l_spec_l16Zero_0 : YC :=
  .seq (.seq (.region false [m 4 3,
  m 5 0,
  p 6 (.len  5),
  p 7 (.bin .lss 4 6)])
 (.cond 7
 (.skip)
 (.exit 0)))
 (.seq (.block 1
 (.seq (.region false [m 10 0,
  m 11 3,
  p 12 (.indexAddr 1 10 11),
  o 13 (.load 1 false 12),
  p 14 (.bin .neq 13 (k 0))])
 (.cond 14
 (.seq (.region false [mc 2 (.c (.bool false))])
 (.ret))
 (.skip))))
 (.region false [m 8 3,
  p 9 (.bin .add 8 (k 1)),
  m 3 9]))
def q_spec_l16Zero_0 (a0 a3 : Value) (h : Hp) (K K0 K1 : Kont) : Prop :=
  bindO (lenV  a0) fun v6 => bindO (binV .lss a3 v6) fun v7 => condM v7 (bindO (indexAddrV 1 a0 a3) fun v12 => bindO (ldV 1 false h v12) fun v13 => bindO (binV .neq v13 (.int .i64 0)) fun v14 => condM v14 (K1 [(.bool false)] h) (bindO (binV .add a3 (.int .i64 1)) fun v9 => K [a0, v9] h)) (K0 [] h)
theorem wl_spec_l16Zero_0 {a0 a3 : Value} {h : Hp} {K K0 K1 : Kont} (H : q_spec_l16Zero_0 a0 a3 h K K0 K1) : ∀ e : Env, [e 0, e 3] = [a0, a3] → V FF l_spec_l16Zero_0 (qsel [0, 3] K [(.exit 0, [], K0), (.ret, [2], K1)]) ⟨e, h⟩ := by
  intro e he; cases he; exact Eq.mp (by kernel_rfl) H
def y_spec_l16Zero : YC :=
  .seq (.region false [mc 2 (.c (.bool false))])
 (.seq (.seq (.region false [mc 3 (k 0)])
 (.block 0
 (.loop [0, 3] [(.exit 0, []), (.ret, [2])] l_spec_l16Zero_0)))
 (.seq (.region false [mc 2 (.c (.bool true))])
 (.ret)))
theorem c_spec_l16Zero : FF n_spec_l16Zero = some ⟨15, y_spec_l16Zero.er, [.tmp 2]⟩ := by kernel_rfl
def p_spec_l16Zero (a0 : Value) (h : Hp) (R : Value → Hp → Prop) : Prop :=
  LP FF (YC.er l_spec_l16Zero_0) [0, 3] [(.exit 0, [], fun vs h1 => ∀ e : Env, [] = vs → R (.bool true) h1), (.ret, [2], fun vs h1 => ∀ e : Env, [e 2] = vs → R (e 2) h1)] [a0, (.int .i64 0)] h
theorem w_spec_l16Zero {a0 : Value} {h : Hp} {R : Value → Hp → Prop} (H : p_spec_l16Zero a0 h R) : CallW FF n_spec_l16Zero [a0] h R := callV_fin c_spec_l16Zero (Eq.mp (by kernel_rfl) H)
def l_spec_l01From_0 : YC :=
  .seq (.seq (.region false [m 12 4,
  m 13 0,
  p 14 (.len  13),
  p 15 (.bin .lss 12 14),
  m 16 15,
  ⟨some 17, .p (.move  4), some (16, true), false⟩,
  ⟨some 18, .p (.bin .lss 17 (k 4096)), some (16, true), false⟩,
  p 19 (.pick  16 18 (.c (.bool false)))])
 (.cond 19
 (.skip)
 (.exit 0)))
 (.seq (.block 1
 (.region false [m 22 3,
  m 23 3,
  p 24 (.nilCheck  23),
  p 25 (.fieldAddr 2 24),
  o 26 (.load 1 false 25),
  p 27 (.bin .mul 26 (.c (.int .u64 1099511628211))),
  m 28 0,
  m 29 4,
  p 30 (.indexAddr 1 28 29),
  o 31 (.load 1 false 30),
  p 32 (.conv .u64 31),
  p 33 (.bin .add 27 32),
  p 34 (.bin .add 33 (.c (.int .u64 11))),
  p 35 (.nilCheck  22),
  p 36 (.fieldAddr 2 35),
  e (.store 1 36 34)]))
 (.region false [m 20 4,
  p 21 (.bin .add 20 (k 1)),
  m 4 21]))
def q_spec_l01From_0 (a0 a3 a4 : Value) (h : Hp) (K K0 : Kont) : Prop :=
  bindO (lenV  a0) fun v14 => bindO (binV .lss a4 v14) fun v15 => condM v15 (bindO (binV .lss a4 (.int .i64 4096)) fun v18 => condM v18 (bindO (nilCheckV  a3) fun v24 => bindO (fieldAddrV 2 v24) fun v25 => bindO (ldV 1 false h v25) fun v26 => bindO (binV .mul v26 (.int .u64 1099511628211)) fun v27 => bindO (indexAddrV 1 a0 a4) fun v30 => bindO (ldV 1 false h v30) fun v31 => bindO (convV .u64 v31) fun v32 => bindO (binV .add v27 v32) fun v33 => bindO (binV .add v33 (.int .u64 11)) fun v34 => bindO (nilCheckV  a3) fun v35 => bindO (fieldAddrV 2 v35) fun v36 => bindO (storeV 1 h v34 v36) fun h1 => bindO (binV .add a4 (.int .i64 1)) fun v21 => K [a0, a3, v21] h1) (K0 [a3] h)) (K0 [a3] h)
theorem wl_spec_l01From_0 {a0 a3 a4 : Value} {h : Hp} {K K0 : Kont} (H : q_spec_l01From_0 a0 a3 a4 h K K0) : ∀ e : Env, [e 0, e 3, e 4] = [a0, a3, a4] → V FF l_spec_l01From_0 (qsel [0, 3, 4] K [(.exit 0, [3], K0)]) ⟨e, h⟩ := by
  intro e he; cases he; exact Eq.mp (by kernel_rfl) H
def y_spec_l01From : YC :=
  .seq (.region false [mc 2 (.c (.pointer none))])
 (.seq (.region false [m 5 0,
  m 6 0,
  p 7 (.len  6),
  p 8 (.conv .u64 7),
  p 9 (.bin .add (.c (.int .u64 5113)) 8),
  p 10 (.build [.slice none 0 0, .int .i64 0, .int .u64 0] [(0, 1, 5), (2, 1, 9)]),
  o 11 (.box y_t_spec_l01Source 3 10),
  m 3 11])
 (.seq (.seq (.region false [mc 4 (k 0)])
 (.block 0
 (.loop [0, 3, 4] [(.exit 0, [3])] l_spec_l01From_0)))
 (.seq (.region false [m 37 3,
  m 2 37])
 (.ret))))
theorem c_spec_l01From : FF n_spec_l01From = some ⟨38, y_spec_l01From.er, [.tmp 2]⟩ := by kernel_rfl
def p_spec_l01From (a0 : Value) (h : Hp) (R : Value → Hp → Prop) : Prop :=
  bindO (lenV  a0) fun v7 => bindO (convV .u64 v7) fun v8 => bindO (binV .add (.int .u64 5113) v8) fun v9 => bindO ((fillX [.slice none 0 0, .int .i64 0, .int .u64 0] [(0, 1, a0), (2, 1, v9)]).map fun cs => Value.agg cs.toArray) fun v10 => bindO (boxV 3 v10) fun c11 => newB h ⟨c11, y_t_spec_l01Source, true⟩ fun b11 h1 => LP FF (YC.er l_spec_l01From_0) [0, 3, 4] [(.exit 0, [3], fun vs h2 => ∀ e : Env, [e 3] = vs → R (e 3) h2)] [a0, (.pointer (some ⟨b11, 0, none⟩)), (.int .i64 0)] h1
theorem w_spec_l01From {a0 : Value} {h : Hp} {R : Value → Hp → Prop} (H : p_spec_l01From a0 h R) : CallW FF n_spec_l01From [a0] h R := callV_fin c_spec_l01From (Eq.mp (by kernel_rfl) H)
def y_spec_l01Pick : YC :=
  .seq (.region false [mc 4 (k 0)])
 (.seq (.region false [m 5 1,
  m 6 0,
  m 7 1,
  p 8 (.len  7),
  o 9 (cl n_spec_l01Next [6, 8]),
  p 10 (.indexAddr 1 5 9),
  o 11 (.load 1 false 10),
  m 4 11])
 (.ret))
theorem c_spec_l01Pick : FF n_spec_l01Pick = some ⟨12, y_spec_l01Pick.er, [.tmp 4]⟩ := by kernel_rfl
def p_spec_l01Pick (a0 a1 : Value) (h : Hp) (R : Value → Hp → Prop) : Prop :=
  bindO (lenV  a1) fun v8 => CallW FF n_spec_l01Next [a0, v8] h fun v9 h1 => bindO (indexAddrV 1 a1 v9) fun v10 => bindO (ldV 1 false h1 v10) fun v11 => R v11 h1
theorem w_spec_l01Pick {a0 a1 : Value} {h : Hp} {R : Value → Hp → Prop} (H : p_spec_l01Pick a0 a1 h R) : CallW FF n_spec_l01Pick [a0, a1] h R := callV_fin c_spec_l01Pick (Eq.mp (by kernel_rfl) H)
def y_impl_in : YC :=
  .seq (.region false [mc 6 (.c (.bool false))])
 (.seq (.region false [m 7 0,
  m 8 1,
  p 9 (.bin .geq 7 8),
  m 10 9,
  ⟨some 11, .p (.move  0), some (10, true), false⟩,
  ⟨some 12, .p (.move  2), some (10, true), false⟩,
  ⟨some 13, .p (.bin .leq 11 12), some (10, true), false⟩,
  p 14 (.pick  10 13 (.c (.bool false))),
  m 6 14])
 (.ret))
theorem c_impl_in : FF n_impl_in = some ⟨15, y_impl_in.er, [.tmp 6]⟩ := by kernel_rfl
def p_impl_in (a0 a1 a2 : Value) (h : Hp) (R : Value → Hp → Prop) : Prop :=
  bindO (binV .geq a0 a1) fun v9 => condM v9 (bindO (binV .leq a0 a2) fun v13 => R v13 h) (R (.bool false) h)
theorem w_impl_in {a0 a1 a2 : Value} {h : Hp} {R : Value → Hp → Prop} (H : p_impl_in a0 a1 a2 h R) : CallW FF n_impl_in [a0, a1, a2] h R := callV_fin c_impl_in (Eq.mp (by kernel_rfl) H)
def y_impl_copyOf_int64 : YC :=
  .seq (.region false [mc 2 (.c (.slice none 0 0))])
 (.seq (.region false [o 3 (.mkrow y_t_int64 1 0 [.int .i64 0] []),
  m 4 0,
  o 5 (.append y_t_int64 1 8 3 4),
  m 2 5])
 (.ret))
theorem c_impl_copyOf_int64 : FF n_impl_copyOf_int64 = some ⟨6, y_impl_copyOf_int64.er, [.tmp 2]⟩ := by kernel_rfl
def p_impl_copyOf_int64 (a0 : Value) (h : Hp) (R : Value → Hp → Prop) : Prop :=
  bindO (rowV 1 0 [.int .i64 0] []) fun c3 => newB h ⟨c3, y_t_int64, true⟩ fun b3 h1 => bindVH (appendV y_t_int64 1 h1 (.slice (some ⟨b3, 0, none⟩) 0 1) a0) fun v5 h2 => R v5 h2
theorem w_impl_copyOf_int64 {a0 : Value} {h : Hp} {R : Value → Hp → Prop} (H : p_impl_copyOf_int64 a0 h R) : CallW FF n_impl_copyOf_int64 [a0] h R := callV_fin c_impl_copyOf_int64 (Eq.mp (by kernel_rfl) H)
def l_impl_Plane_multiple_0 : YC :=
  .seq (.seq (.region false [m 22 1,
  p 23 (.bin .gtr 22 (k 0))])
 (.cond 23
 (.skip)
 (.exit 0)))
 (.seq (.block 1
 (.join [1, 3, 5, 6, 7] (.seq (.region false [m 26 1,
  p 27 (.bin .rem 26 (k 2)),
  p 28 (.bin .eql 27 (k 1))])
 (.cond 28
 (.region false [o 29 (.load 2 true 3),
  o 30 (.load 2 true 7),
  o 31 (.load 2 true 5),
  o 32 (cl n_impl_Plane_curves [29, 30, 31]),
  e (.store 2 7 32)])
 (.skip)))
 (.region false [o 33 (.load 2 true 3),
  o 34 (.load 2 true 5),
  o 35 (.load 2 true 5),
  o 36 (cl n_impl_Plane_curves [33, 34, 35]),
  e (.store 2 5 36)])))
 (.region false [m 24 1,
  p 25 (.bin .quo 24 (k 2)),
  m 1 25]))
def q_impl_Plane_multiple_0 (a1 a3 a5 a6 a7 : Value) (h : Hp) (K K0 : Kont) : Prop :=
  bindO (binV .gtr a1 (.int .i64 0)) fun v23 => condM v23 (JN (fun J => bindO (binV .rem a1 (.int .i64 2)) fun v27 => bindO (binV .eql v27 (.int .i64 1)) fun v28 => condM v28 (bindO (ldV 2 true h a3) fun v29 => bindO (ldV 2 true h a7) fun v30 => bindO (ldV 2 true h a5) fun v31 => CallW FF n_impl_Plane_curves [v29, v30, v31] h fun v32 h1 => bindO (storeV 2 h1 v32 a7) fun h2 => J [a1, a3, a5, a6, a7] h2) (J [a1, a3, a5, a6, a7] h)) fun vs h1 => ∀ e : Env, [e 1, e 3, e 5, e 6, e 7] = vs → bindO (ldV 2 true h1 (e 3)) fun v33 => bindO (ldV 2 true h1 (e 5)) fun v34 => bindO (ldV 2 true h1 (e 5)) fun v35 => CallW FF n_impl_Plane_curves [v33, v34, v35] h1 fun v36 h2 => bindO (storeV 2 h2 v36 (e 5)) fun h3 => bindO (binV .quo (e 1) (.int .i64 2)) fun v25 => K [v25, (e 3), (e 5), (e 6), (e 7)] h3) (K0 [a6, a7] h)
theorem wl_impl_Plane_multiple_0 {a1 a3 a5 a6 a7 : Value} {h : Hp} {K K0 : Kont} (H : q_impl_Plane_multiple_0 a1 a3 a5 a6 a7 h K K0) : ∀ e : Env, [e 1, e 3, e 5, e 6, e 7] = [a1, a3, a5, a6, a7] → V FF l_impl_Plane_multiple_0 (qsel [1, 3, 5, 6, 7] K [(.exit 0, [6, 7], K0)]) ⟨e, h⟩ := by
  intro e he; cases he; exact Eq.mp (by kernel_rfl) H
def y_impl_Plane_multiple : YC :=
  .seq (.region false [o 3 (.box y_t_impl_Plane 2 0),
  o 5 (.box y_t_impl_Series 2 2),
  o 6 (.box y_t_impl_Series 2 (.c (.agg #[.int .i64 0, .slice none 0 0])))])
 (.seq (.seq (.region false [m 8 1,
  p 9 (.bin .lss 8 (k 0))])
 (.cond 9
 (.seq (.region true [⟨some 10, .load 2 true 3, none, true⟩,
  o 11 (.load 2 true 3),
  m 12 1,
  p 13 (.un .neg 12),
  o 14 (.load 2 true 5),
  ⟨some 15, cl n_impl_Plane_multiple [11, 13, 14], none, true⟩,
  o 16 (cl n_impl_Plane_opposite [10, 15]),
  e (.store 2 6 16)])
 (.ret))
 (.skip)))
 (.seq (.region true [p 17 (.fieldAddr 0 3),
  ⟨some 18, .load 1 false 17, none, true⟩,
  o 19 (.load 2 true 3),
  ⟨some 20, cl n_impl_Plane_degree [19], none, true⟩,
  o 21 (cl n_impl_zero [18, 20]),
  o 7 (.box y_t_impl_Series 2 (.c (.agg #[.int .i64 0, .slice none 0 0]))),
  e (.store 2 7 21)])
 (.seq (.block 0
 (.loop [1, 3, 5, 6, 7] [(.exit 0, [6, 7])] l_impl_Plane_multiple_0))
 (.seq (.region false [o 37 (.load 2 true 7),
  e (.store 2 6 37)])
 (.ret)))))
theorem c_impl_Plane_multiple : FF n_impl_Plane_multiple = some ⟨38, y_impl_Plane_multiple.er, [.cell 6 2 true]⟩ := by kernel_rfl
def p_impl_Plane_multiple (a0 a1 a2 : Value) (h : Hp) (R : Value → Hp → Prop) : Prop :=
  bindO (boxV 2 a0) fun c3 => newB h ⟨c3, y_t_impl_Plane, true⟩ fun b3 h1 => bindO (boxV 2 a2) fun c5 => newB h1 ⟨c5, y_t_impl_Series, true⟩ fun b5 h2 => bindO (boxV 2 (.agg #[.int .i64 0, .slice none 0 0])) fun c6 => newB h2 ⟨c6, y_t_impl_Series, true⟩ fun b6 h3 => bindO (binV .lss a1 (.int .i64 0)) fun v9 => condM v9 (inB h3.nx (.pointer (some ⟨b3, 0, none⟩)) ∧ (bindO (ldV 2 true h3 (.pointer (some ⟨b3, 0, none⟩))) fun v10 => bindO (ldV 2 true h3 (.pointer (some ⟨b3, 0, none⟩))) fun v11 => bindO (unV .neg a1) fun v13 => bindO (ldV 2 true h3 (.pointer (some ⟨b5, 0, none⟩))) fun v14 => CallW FF n_impl_Plane_multiple [v11, v13, v14] h3 fun v15 h4 => keepB h3.nx h3 h4 ∧ (CallW FF n_impl_Plane_opposite [v10, v15] h4 fun v16 h5 => bindO (storeV 2 h5 v16 (.pointer (some ⟨b6, 0, none⟩))) fun h6 => bindO (ldV 2 true h6 (.pointer (some ⟨b6, 0, none⟩))) fun r6 => R r6 h6))) (bindO (fieldAddrV 0 (.pointer (some ⟨b3, 0, none⟩))) fun v17 => inB h3.nx v17 ∧ (bindO (ldV 1 false h3 v17) fun v18 => bindO (ldV 2 true h3 (.pointer (some ⟨b3, 0, none⟩))) fun v19 => CallW FF n_impl_Plane_degree [v19] h3 fun v20 h4 => keepB h3.nx h3 h4 ∧ (CallW FF n_impl_zero [v18, v20] h4 fun v21 h5 => bindO (boxV 2 (.agg #[.int .i64 0, .slice none 0 0])) fun c7 => newB h5 ⟨c7, y_t_impl_Series, true⟩ fun b7 h6 => bindO (storeV 2 h6 v21 (.pointer (some ⟨b7, 0, none⟩))) fun h7 => LP FF (YC.er l_impl_Plane_multiple_0) [1, 3, 5, 6, 7] [(.exit 0, [6, 7], fun vs h8 => ∀ e : Env, [e 6, e 7] = vs → bindO (ldV 2 true h8 (e 7)) fun v37 => bindO (storeV 2 h8 v37 (e 6)) fun h9 => bindO (ldV 2 true h9 (e 6)) fun r6 => R r6 h9)] [a1, (.pointer (some ⟨b3, 0, none⟩)), (.pointer (some ⟨b5, 0, none⟩)), (.pointer (some ⟨b6, 0, none⟩)), (.pointer (some ⟨b7, 0, none⟩))] h7)))
theorem w_impl_Plane_multiple {a0 a1 a2 : Value} {h : Hp} {R : Value → Hp → Prop} (H : p_impl_Plane_multiple a0 a1 a2 h R) : CallW FF n_impl_Plane_multiple [a0, a1, a2] h R := callV_fin c_impl_Plane_multiple (Eq.mp (by kernel_rfl) H)
def y_spec_l01In : YC :=
  .seq (.region false [mc 6 (.c (.bool false))])
 (.seq (.region false [m 7 0,
  m 8 1,
  p 9 (.bin .geq 7 8),
  m 10 9,
  ⟨some 11, .p (.move  0), some (10, true), false⟩,
  ⟨some 12, .p (.move  2), some (10, true), false⟩,
  ⟨some 13, .p (.bin .leq 11 12), some (10, true), false⟩,
  p 14 (.pick  10 13 (.c (.bool false))),
  m 6 14])
 (.ret))
theorem c_spec_l01In : FF n_spec_l01In = some ⟨15, y_spec_l01In.er, [.tmp 6]⟩ := by kernel_rfl
def p_spec_l01In (a0 a1 a2 : Value) (h : Hp) (R : Value → Hp → Prop) : Prop :=
  bindO (binV .geq a0 a1) fun v9 => condM v9 (bindO (binV .leq a0 a2) fun v13 => R v13 h) (R (.bool false) h)
theorem w_spec_l01In {a0 a1 a2 : Value} {h : Hp} {R : Value → Hp → Prop} (H : p_spec_l01In a0 a1 a2 h R) : CallW FF n_spec_l01In [a0, a1, a2] h R := callV_fin c_spec_l01In (Eq.mp (by kernel_rfl) H)
def y_impl_standard : YC :=
  .seq (.region false [o 3 (.box y_t_int64 1 0),
  mc 6 (k 0)])
 (.seq (.seq (.region false [o 7 (.load 1 false 3),
  o 8 (cl n_impl_IsModulus [7]),
  p 9 (.un .not 8),
  m 10 9,
  ⟨some 11, .p (.move  1), some (10, false), false⟩,
  ⟨some 12, cl n_impl_in [11, (k 1), (k 10)], some (10, false), false⟩,
  ⟨some 13, .p (.un .not 12), some (10, false), false⟩,
  p 14 (.pick  10 (.c (.bool true)) 13),
  m 15 14,
  ⟨some 16, .p (.move  2), some (15, false), false⟩,
  ⟨some 17, .p (.mkfunc n_impl_standard_c1 [] [3]), some (15, false), false⟩,
  ⟨some 18, cl n_impl_all_int64 [16, 17], some (15, false), false⟩,
  ⟨some 19, .p (.un .not 18), some (15, false), false⟩,
  p 20 (.pick  15 (.c (.bool true)) 19)])
 (.cond 20
 (.seq (.region false [mc 6 (k 2)])
 (.ret))
 (.skip)))
 (.seq (.region false [mc 6 (k 0)])
 (.ret)))
theorem c_impl_standard : FF n_impl_standard = some ⟨21, y_impl_standard.er, [.tmp 6]⟩ := by kernel_rfl
def p_impl_standard (a0 a1 a2 : Value) (h : Hp) (R : Value → Hp → Prop) : Prop :=
  bindO (boxV 1 a0) fun c3 => newB h ⟨c3, y_t_int64, true⟩ fun b3 h1 => bindO (ldV 1 false h1 (.pointer (some ⟨b3, 0, none⟩))) fun v7 => CallW FF n_impl_IsModulus [v7] h1 fun v8 h2 => bindO (unV .not v8) fun v9 => condM v9 (R (.int .i64 2) h2) (CallW FF n_impl_in [a1, (.int .i64 1), (.int .i64 10)] h2 fun v12 h3 => bindO (unV .not v12) fun v13 => condM v13 (R (.int .i64 2) h3) (CallW FF n_impl_all_int64 [a2, (.func (.func n_impl_standard_c1) #[] #[(.pointer (some ⟨b3, 0, none⟩))])] h3 fun v18 h4 => bindO (unV .not v18) fun v19 => condM v19 (R (.int .i64 2) h4) (R (.int .i64 0) h4)))
theorem w_impl_standard {a0 a1 a2 : Value} {h : Hp} {R : Value → Hp → Prop} (H : p_impl_standard a0 a1 a2 h R) : CallW FF n_impl_standard [a0, a1, a2] h R := callV_fin c_impl_standard (Eq.mp (by kernel_rfl) H)
def y_impl_variables : YC :=
  .seq (.region false [o 4 (.box y_t_impl_Plane 2 (.c (.agg #[.int .i64 0, .slice none 0 0]))),
  o 5 (.box y_t_impl_Plane 2 (.c (.agg #[.int .i64 0, .slice none 0 0])))])
 (.seq (.region false [m 7 0,
  m 8 1,
  o 9 (cl n_impl_variable [7, 8]),
  o 6 (.box y_t_impl_Series 2 (.c (.agg #[.int .i64 0, .slice none 0 0]))),
  e (.store 2 6 9)])
 (.seq (.region true [o 10 (.load 2 true 6),
  ⟨some 11, cl n_impl_onAxis [10, (k 0)], none, true⟩,
  ⟨some 12, .load 2 true 6, none, true⟩,
  o 13 (cl n_impl_onAxis [12, (k 1)]),
  e (.store 2 4 11),
  e (.store 2 5 13)])
 (.ret)))
theorem c_impl_variables : FF n_impl_variables = some ⟨14, y_impl_variables.er, [.cell 4 2 true, .cell 5 2 true]⟩ := by kernel_rfl
def p_impl_variables (a0 a1 : Value) (h : Hp) (R : Value → Hp → Prop) : Prop :=
  bindO (boxV 2 (.agg #[.int .i64 0, .slice none 0 0])) fun c4 => newB h ⟨c4, y_t_impl_Plane, true⟩ fun b4 h1 => bindO (boxV 2 (.agg #[.int .i64 0, .slice none 0 0])) fun c5 => newB h1 ⟨c5, y_t_impl_Plane, true⟩ fun b5 h2 => CallW FF n_impl_variable [a0, a1] h2 fun v9 h3 => bindO (boxV 2 (.agg #[.int .i64 0, .slice none 0 0])) fun c6 => newB h3 ⟨c6, y_t_impl_Series, true⟩ fun b6 h4 => bindO (storeV 2 h4 v9 (.pointer (some ⟨b6, 0, none⟩))) fun h5 => bindO (ldV 2 true h5 (.pointer (some ⟨b6, 0, none⟩))) fun v10 => CallW FF n_impl_onAxis [v10, (.int .i64 0)] h5 fun v11 h6 => keepB h5.nx h5 h6 ∧ (inB h5.nx (.pointer (some ⟨b6, 0, none⟩)) ∧ (bindO (ldV 2 true h6 (.pointer (some ⟨b6, 0, none⟩))) fun v12 => CallW FF n_impl_onAxis [v12, (.int .i64 1)] h6 fun v13 h7 => bindO (storeV 2 h7 v11 (.pointer (some ⟨b4, 0, none⟩))) fun h8 => bindO (storeV 2 h8 v13 (.pointer (some ⟨b5, 0, none⟩))) fun h9 => bindO (ldV 2 true h9 (.pointer (some ⟨b4, 0, none⟩))) fun r4 => bindO (ldV 2 true h9 (.pointer (some ⟨b5, 0, none⟩))) fun r5 => R (.tuple #[r4, r5]) h9))
theorem w_impl_variables {a0 a1 : Value} {h : Hp} {R : Value → Hp → Prop} (H : p_impl_variables a0 a1 h R) : CallW FF n_impl_variables [a0, a1] h R := callV_fin c_impl_variables (Eq.mp (by kernel_rfl) H)
def y_impl_Plane_plus : YC :=
  .seq (.region false [o 2 (.box y_t_impl_Plane 2 0),
  o 3 (.box y_t_impl_Plane 2 1),
  o 4 (.box y_t_impl_Plane 2 (.c (.agg #[.int .i64 0, .slice none 0 0])))])
 (.seq (.region false [o 5 (.load 2 true 2),
  p 6 (.mkfunc n_impl_Plane_plus_c1 [] [2, 3]),
  o 7 (cl n_impl_Plane_mapped [5, 6]),
  e (.store 2 4 7)])
 (.ret))
theorem c_impl_Plane_plus : FF n_impl_Plane_plus = some ⟨8, y_impl_Plane_plus.er, [.cell 4 2 true]⟩ := by kernel_rfl
def p_impl_Plane_plus (a0 a1 : Value) (h : Hp) (R : Value → Hp → Prop) : Prop :=
  bindO (boxV 2 a0) fun c2 => newB h ⟨c2, y_t_impl_Plane, true⟩ fun b2 h1 => bindO (boxV 2 a1) fun c3 => newB h1 ⟨c3, y_t_impl_Plane, true⟩ fun b3 h2 => bindO (boxV 2 (.agg #[.int .i64 0, .slice none 0 0])) fun c4 => newB h2 ⟨c4, y_t_impl_Plane, true⟩ fun b4 h3 => bindO (ldV 2 true h3 (.pointer (some ⟨b2, 0, none⟩))) fun v5 => CallW FF n_impl_Plane_mapped [v5, (.func (.func n_impl_Plane_plus_c1) #[] #[(.pointer (some ⟨b2, 0, none⟩)), (.pointer (some ⟨b3, 0, none⟩))])] h3 fun v7 h4 => bindO (storeV 2 h4 v7 (.pointer (some ⟨b4, 0, none⟩))) fun h5 => bindO (ldV 2 true h5 (.pointer (some ⟨b4, 0, none⟩))) fun r4 => R r4 h5
theorem w_impl_Plane_plus {a0 a1 : Value} {h : Hp} {R : Value → Hp → Prop} (H : p_impl_Plane_plus a0 a1 h R) : CallW FF n_impl_Plane_plus [a0, a1] h R := callV_fin c_impl_Plane_plus (Eq.mp (by kernel_rfl) H)
def l_impl_Plane_times_0 : YC :=
  .seq (.region false [p 63 (.bin .lss 62 61)])
 (.seq (.cond 63
 (.skip)
 (.exit 6))
 (.seq (.block 7
 (.seq (.region false [m 64 62,
  p 65 (.indexAddr 1 60 62),
  o 66 (.load 1 false 65),
  m 12 64,
  m 13 66])
 (.region true [p 67 (.fieldAddr 1 5),
  ⟨some 68, .load 1 false 67, none, true⟩,
  m 69 7,
  m 70 11,
  p 71 (.bin .add 69 70),
  p 72 (.indexAddr 1 68 71),
  ⟨some 73, .load 1 false 72, none, true⟩,
  m 74 9,
  m 75 12,
  p 76 (.bin .add 74 75),
  p 77 (.fieldAddr 1 5),
  ⟨some 78, .load 1 false 77, none, true⟩,
  m 79 7,
  m 80 11,
  p 81 (.bin .add 79 80),
  p 82 (.indexAddr 1 78 81),
  ⟨some 83, .load 1 false 82, none, true⟩,
  m 84 9,
  m 85 12,
  p 86 (.bin .add 84 85),
  p 87 (.indexAddr 1 83 86),
  ⟨some 88, .load 1 false 87, none, true⟩,
  p 89 (.fieldAddr 0 2),
  o 90 (.load 1 false 89),
  m 91 10,
  m 92 13,
  ⟨some 93, cl n_impl_mul [90, 91, 92], none, true⟩,
  p 94 (.bin .add 88 93),
  p 95 (.fieldAddr 0 2),
  ⟨some 96, .load 1 false 95, none, true⟩,
  p 97 (.bin .rem 94 96),
  p 98 (.indexAddr 1 73 76),
  e (.store 1 98 97)])))
 (.region false [p 99 (.bin .add 62 (k 1)),
  m 62 99])))
def q_impl_Plane_times_0 (a2 a3 a4 a5 a6 a7 a9 a10 a11 a22 a23 a24 a29 a30 a31 a60 a61 a62 : Value) (h : Hp) (K K0 : Kont) : Prop :=
  bindO (binV .lss a62 a61) fun v63 => condM v63 (bindO (indexAddrV 1 a60 a62) fun v65 => bindO (ldV 1 false h v65) fun v66 => bindO (fieldAddrV 1 a5) fun v67 => inB h.nx v67 ∧ (bindO (ldV 1 false h v67) fun v68 => bindO (binV .add a7 a11) fun v71 => bindO (indexAddrV 1 v68 v71) fun v72 => inB h.nx v72 ∧ (bindO (ldV 1 false h v72) fun v73 => bindO (binV .add a9 a62) fun v76 => bindO (fieldAddrV 1 a5) fun v77 => inB h.nx v77 ∧ (bindO (ldV 1 false h v77) fun v78 => bindO (binV .add a7 a11) fun v81 => bindO (indexAddrV 1 v78 v81) fun v82 => inB h.nx v82 ∧ (bindO (ldV 1 false h v82) fun v83 => bindO (binV .add a9 a62) fun v86 => bindO (indexAddrV 1 v83 v86) fun v87 => inB h.nx v87 ∧ (bindO (ldV 1 false h v87) fun v88 => bindO (fieldAddrV 0 a2) fun v89 => bindO (ldV 1 false h v89) fun v90 => CallW FF n_impl_mul [v90, a10, v66] h fun v93 h1 => keepB h.nx h h1 ∧ (bindO (binV .add v88 v93) fun v94 => bindO (fieldAddrV 0 a2) fun v95 => inB h.nx v95 ∧ (bindO (ldV 1 false h1 v95) fun v96 => bindO (binV .rem v94 v96) fun v97 => bindO (indexAddrV 1 v73 v76) fun v98 => bindO (storeV 1 h1 v97 v98) fun h2 => bindO (binV .add a62 (.int .i64 1)) fun v99 => K [a2, a3, a4, a5, a6, a7, a9, a10, a11, a22, a23, a24, a29, a30, a31, a60, a61, v99] h2)))))))) (K0 [a2, a3, a4, a5, a6, a7, a9, a10, a11, a22, a23, a24, a29, a30, a31] h)
theorem wl_impl_Plane_times_0 {a2 a3 a4 a5 a6 a7 a9 a10 a11 a22 a23 a24 a29 a30 a31 a60 a61 a62 : Value} {h : Hp} {K K0 : Kont} (H : q_impl_Plane_times_0 a2 a3 a4 a5 a6 a7 a9 a10 a11 a22 a23 a24 a29 a30 a31 a60 a61 a62 h K K0) : ∀ e : Env, [e 2, e 3, e 4, e 5, e 6, e 7, e 9, e 10, e 11, e 22, e 23, e 24, e 29, e 30, e 31, e 60, e 61, e 62] = [a2, a3, a4, a5, a6, a7, a9, a10, a11, a22, a23, a24, a29, a30, a31, a60, a61, a62] → V FF l_impl_Plane_times_0 (qsel [2, 3, 4, 5, 6, 7, 9, 10, 11, 22, 23, 24, 29, 30, 31, 60, 61, 62] K [(.exit 6, [2, 3, 4, 5, 6, 7, 9, 10, 11, 22, 23, 24, 29, 30, 31], K0)]) ⟨e, h⟩ := by
  intro e he; cases he; exact Eq.mp (by kernel_rfl) H
def l_impl_Plane_times_1 : YC :=
  .seq (.seq (.region false [m 38 7,
  m 39 9,
  p 40 (.bin .add 38 39),
  m 41 11,
  p 42 (.bin .add 40 41),
  m 43 6,
  p 44 (.bin .leq 42 43)])
 (.cond 44
 (.skip)
 (.exit 4)))
 (.seq (.block 5
 (.seq (.region false [p 47 (.fieldAddr 1 3),
  o 48 (.load 1 false 47),
  m 49 11,
  p 50 (.indexAddr 1 48 49),
  o 51 (.load 1 false 50),
  m 52 6,
  m 53 7,
  p 54 (.bin .sub 52 53),
  m 55 9,
  p 56 (.bin .sub 54 55),
  m 57 11,
  p 58 (.bin .sub 56 57),
  p 59 (.bin .add 58 (k 1)),
  p 60 (.slice 1 51 none (some 59)),
  p 61 (.len  60),
  mc 62 (k 0)])
 (.block 6
 (.loop [2, 3, 4, 5, 6, 7, 9, 10, 11, 22, 23, 24, 29, 30, 31, 60, 61, 62] [(.exit 6, [2, 3, 4, 5, 6, 7, 9, 10, 11, 22, 23, 24, 29, 30, 31])] l_impl_Plane_times_0))))
 (.region false [m 45 11,
  p 46 (.bin .add 45 (k 1)),
  m 11 46]))
def q_impl_Plane_times_1 (a2 a3 a4 a5 a6 a7 a9 a10 a11 a22 a23 a24 a29 a30 a31 : Value) (h : Hp) (K K0 : Kont) : Prop :=
  bindO (binV .add a7 a9) fun v40 => bindO (binV .add v40 a11) fun v42 => bindO (binV .leq v42 a6) fun v44 => condM v44 (bindO (fieldAddrV 1 a3) fun v47 => bindO (ldV 1 false h v47) fun v48 => bindO (indexAddrV 1 v48 a11) fun v50 => bindO (ldV 1 false h v50) fun v51 => bindO (binV .sub a6 a7) fun v54 => bindO (binV .sub v54 a9) fun v56 => bindO (binV .sub v56 a11) fun v58 => bindO (binV .add v58 (.int .i64 1)) fun v59 => bindO (sliceV 1 none (some v59) v51) fun v60 => bindO (lenV  v60) fun v61 => LP FF (YC.er l_impl_Plane_times_0) [2, 3, 4, 5, 6, 7, 9, 10, 11, 22, 23, 24, 29, 30, 31, 60, 61, 62] [(.exit 6, [2, 3, 4, 5, 6, 7, 9, 10, 11, 22, 23, 24, 29, 30, 31], fun vs h1 => ∀ e : Env, [e 2, e 3, e 4, e 5, e 6, e 7, e 9, e 10, e 11, e 22, e 23, e 24, e 29, e 30, e 31] = vs → bindO (binV .add (e 11) (.int .i64 1)) fun v46 => K [(e 2), (e 3), (e 4), (e 5), (e 6), (e 7), (e 9), (e 10), v46, (e 22), (e 23), (e 24), (e 29), (e 30), (e 31)] h1)] [a2, a3, a4, a5, a6, a7, a9, a10, a11, a22, a23, a24, a29, a30, a31, v60, v61, (.int .i64 0)] h) (K0 [a2, a3, a4, a5, a6, a7, a22, a23, a24, a29, a30, a31] h)
theorem wl_impl_Plane_times_1 {a2 a3 a4 a5 a6 a7 a9 a10 a11 a22 a23 a24 a29 a30 a31 : Value} {h : Hp} {K K0 : Kont} (H : q_impl_Plane_times_1 a2 a3 a4 a5 a6 a7 a9 a10 a11 a22 a23 a24 a29 a30 a31 h K K0) : ∀ e : Env, [e 2, e 3, e 4, e 5, e 6, e 7, e 9, e 10, e 11, e 22, e 23, e 24, e 29, e 30, e 31] = [a2, a3, a4, a5, a6, a7, a9, a10, a11, a22, a23, a24, a29, a30, a31] → V FF l_impl_Plane_times_1 (qsel [2, 3, 4, 5, 6, 7, 9, 10, 11, 22, 23, 24, 29, 30, 31] K [(.exit 4, [2, 3, 4, 5, 6, 7, 22, 23, 24, 29, 30, 31], K0)]) ⟨e, h⟩ := by
  intro e he; cases he; exact Eq.mp (by kernel_rfl) H
def l_impl_Plane_times_2 : YC :=
  .seq (.region false [p 32 (.bin .lss 31 30)])
 (.seq (.cond 32
 (.skip)
 (.exit 2))
 (.seq (.block 3
 (.seq (.region false [m 33 31,
  p 34 (.indexAddr 1 29 31),
  o 35 (.load 1 false 34),
  m 9 33,
  m 10 35])
 (.seq (.seq (.region false [m 36 10,
  p 37 (.bin .eql 36 (k 0))])
 (.cond 37
 (.exit 3)
 (.skip)))
 (.seq (.region false [mc 11 (k 0)])
 (.block 4
 (.loop [2, 3, 4, 5, 6, 7, 9, 10, 11, 22, 23, 24, 29, 30, 31] [(.exit 4, [2, 3, 4, 5, 6, 7, 22, 23, 24, 29, 30, 31])] l_impl_Plane_times_1))))))
 (.region false [p 100 (.bin .add 31 (k 1)),
  m 31 100])))
def q_impl_Plane_times_2 (a2 a3 a4 a5 a6 a7 a22 a23 a24 a29 a30 a31 : Value) (h : Hp) (K K0 : Kont) : Prop :=
  bindO (binV .lss a31 a30) fun v32 => condM v32 (bindO (indexAddrV 1 a29 a31) fun v34 => bindO (ldV 1 false h v34) fun v35 => bindO (binV .eql v35 (.int .i64 0)) fun v37 => condM v37 (bindO (binV .add a31 (.int .i64 1)) fun v100 => K [a2, a3, a4, a5, a6, a7, a22, a23, a24, a29, a30, v100] h) (LP FF (YC.er l_impl_Plane_times_1) [2, 3, 4, 5, 6, 7, 9, 10, 11, 22, 23, 24, 29, 30, 31] [(.exit 4, [2, 3, 4, 5, 6, 7, 22, 23, 24, 29, 30, 31], fun vs h1 => ∀ e : Env, [e 2, e 3, e 4, e 5, e 6, e 7, e 22, e 23, e 24, e 29, e 30, e 31] = vs → bindO (binV .add (e 31) (.int .i64 1)) fun v100 => K [(e 2), (e 3), (e 4), (e 5), (e 6), (e 7), (e 22), (e 23), (e 24), (e 29), (e 30), v100] h1)] [a2, a3, a4, a5, a6, a7, a31, v35, (.int .i64 0), a22, a23, a24, a29, a30, a31] h)) (K0 [a2, a3, a4, a5, a6, a22, a23, a24] h)
theorem wl_impl_Plane_times_2 {a2 a3 a4 a5 a6 a7 a22 a23 a24 a29 a30 a31 : Value} {h : Hp} {K K0 : Kont} (H : q_impl_Plane_times_2 a2 a3 a4 a5 a6 a7 a22 a23 a24 a29 a30 a31 h K K0) : ∀ e : Env, [e 2, e 3, e 4, e 5, e 6, e 7, e 22, e 23, e 24, e 29, e 30, e 31] = [a2, a3, a4, a5, a6, a7, a22, a23, a24, a29, a30, a31] → V FF l_impl_Plane_times_2 (qsel [2, 3, 4, 5, 6, 7, 22, 23, 24, 29, 30, 31] K [(.exit 2, [2, 3, 4, 5, 6, 22, 23, 24], K0)]) ⟨e, h⟩ := by
  intro e he; cases he; exact Eq.mp (by kernel_rfl) H
def l_impl_Plane_times_3 : YC :=
  .seq (.region false [p 25 (.bin .lss 24 23)])
 (.seq (.cond 25
 (.skip)
 (.exit 0))
 (.seq (.block 1
 (.seq (.region false [m 26 24,
  p 27 (.indexAddr 1 22 24),
  o 28 (.load 1 false 27),
  m 7 26,
  m 8 28])
 (.seq (.region false [m 29 8,
  p 30 (.len  29),
  mc 31 (k 0)])
 (.block 2
 (.loop [2, 3, 4, 5, 6, 7, 22, 23, 24, 29, 30, 31] [(.exit 2, [2, 3, 4, 5, 6, 22, 23, 24])] l_impl_Plane_times_2)))))
 (.region false [p 101 (.bin .add 24 (k 1)),
  m 24 101])))
def q_impl_Plane_times_3 (a2 a3 a4 a5 a6 a22 a23 a24 : Value) (h : Hp) (K K0 : Kont) : Prop :=
  bindO (binV .lss a24 a23) fun v25 => condM v25 (bindO (indexAddrV 1 a22 a24) fun v27 => bindO (ldV 1 false h v27) fun v28 => bindO (lenV  v28) fun v30 => LP FF (YC.er l_impl_Plane_times_2) [2, 3, 4, 5, 6, 7, 22, 23, 24, 29, 30, 31] [(.exit 2, [2, 3, 4, 5, 6, 22, 23, 24], fun vs h1 => ∀ e : Env, [e 2, e 3, e 4, e 5, e 6, e 22, e 23, e 24] = vs → bindO (binV .add (e 24) (.int .i64 1)) fun v101 => K [(e 2), (e 3), (e 4), (e 5), (e 6), (e 22), (e 23), v101] h1)] [a2, a3, a4, a5, a6, a24, a22, a23, a24, v28, v30, (.int .i64 0)] h) (K0 [a4, a5] h)
theorem wl_impl_Plane_times_3 {a2 a3 a4 a5 a6 a22 a23 a24 : Value} {h : Hp} {K K0 : Kont} (H : q_impl_Plane_times_3 a2 a3 a4 a5 a6 a22 a23 a24 h K K0) : ∀ e : Env, [e 2, e 3, e 4, e 5, e 6, e 22, e 23, e 24] = [a2, a3, a4, a5, a6, a22, a23, a24] → V FF l_impl_Plane_times_3 (qsel [2, 3, 4, 5, 6, 22, 23, 24] K [(.exit 0, [4, 5], K0)]) ⟨e, h⟩ := by
  intro e he; cases he; exact Eq.mp (by kernel_rfl) H
def y_impl_Plane_times : YC :=
  .seq (.region false [o 2 (.box y_t_impl_Plane 2 0),
  o 3 (.box y_t_impl_Plane 2 1),
  o 4 (.box y_t_impl_Plane 2 (.c (.agg #[.int .i64 0, .slice none 0 0])))])
 (.seq (.region true [p 14 (.fieldAddr 0 2),
  ⟨some 15, .load 1 false 14, none, true⟩,
  o 16 (.load 2 true 2),
  ⟨some 17, cl n_impl_Plane_degree [16], none, true⟩,
  o 18 (cl n_impl_emptyPlane [15, 17]),
  o 5 (.box y_t_impl_Plane 2 (.c (.agg #[.int .i64 0, .slice none 0 0]))),
  e (.store 2 5 18)])
 (.seq (.region false [o 19 (.load 2 true 2),
  o 20 (cl n_impl_Plane_degree [19]),
  m 6 20])
 (.seq (.seq (.region false [p 21 (.fieldAddr 1 2),
  o 22 (.load 1 false 21),
  p 23 (.len  22),
  mc 24 (k 0)])
 (.block 0
 (.loop [2, 3, 4, 5, 6, 22, 23, 24] [(.exit 0, [4, 5])] l_impl_Plane_times_3)))
 (.seq (.region false [o 102 (.load 2 true 5),
  e (.store 2 4 102)])
 (.ret)))))
theorem c_impl_Plane_times : FF n_impl_Plane_times = some ⟨103, y_impl_Plane_times.er, [.cell 4 2 true]⟩ := by kernel_rfl
def p_impl_Plane_times (a0 a1 : Value) (h : Hp) (R : Value → Hp → Prop) : Prop :=
  bindO (boxV 2 a0) fun c2 => newB h ⟨c2, y_t_impl_Plane, true⟩ fun b2 h1 => bindO (boxV 2 a1) fun c3 => newB h1 ⟨c3, y_t_impl_Plane, true⟩ fun b3 h2 => bindO (boxV 2 (.agg #[.int .i64 0, .slice none 0 0])) fun c4 => newB h2 ⟨c4, y_t_impl_Plane, true⟩ fun b4 h3 => bindO (fieldAddrV 0 (.pointer (some ⟨b2, 0, none⟩))) fun v14 => inB h3.nx v14 ∧ (bindO (ldV 1 false h3 v14) fun v15 => bindO (ldV 2 true h3 (.pointer (some ⟨b2, 0, none⟩))) fun v16 => CallW FF n_impl_Plane_degree [v16] h3 fun v17 h4 => keepB h3.nx h3 h4 ∧ (CallW FF n_impl_emptyPlane [v15, v17] h4 fun v18 h5 => bindO (boxV 2 (.agg #[.int .i64 0, .slice none 0 0])) fun c5 => newB h5 ⟨c5, y_t_impl_Plane, true⟩ fun b5 h6 => bindO (storeV 2 h6 v18 (.pointer (some ⟨b5, 0, none⟩))) fun h7 => bindO (ldV 2 true h7 (.pointer (some ⟨b2, 0, none⟩))) fun v19 => CallW FF n_impl_Plane_degree [v19] h7 fun v20 h8 => bindO (fieldAddrV 1 (.pointer (some ⟨b2, 0, none⟩))) fun v21 => bindO (ldV 1 false h8 v21) fun v22 => bindO (lenV  v22) fun v23 => LP FF (YC.er l_impl_Plane_times_3) [2, 3, 4, 5, 6, 22, 23, 24] [(.exit 0, [4, 5], fun vs h9 => ∀ e : Env, [e 4, e 5] = vs → bindO (ldV 2 true h9 (e 5)) fun v102 => bindO (storeV 2 h9 v102 (e 4)) fun h10 => bindO (ldV 2 true h10 (e 4)) fun r4 => R r4 h10)] [(.pointer (some ⟨b2, 0, none⟩)), (.pointer (some ⟨b3, 0, none⟩)), (.pointer (some ⟨b4, 0, none⟩)), (.pointer (some ⟨b5, 0, none⟩)), v20, v22, v23, (.int .i64 0)] h8))
theorem w_impl_Plane_times {a0 a1 : Value} {h : Hp} {R : Value → Hp → Prop} (H : p_impl_Plane_times a0 a1 h R) : CallW FF n_impl_Plane_times [a0, a1] h R := callV_fin c_impl_Plane_times (Eq.mp (by kernel_rfl) H)
def y_impl_Plane_scaled : YC :=
  .seq (.region false [o 2 (.box y_t_impl_Plane 2 0),
  o 3 (.box y_t_int64 1 1),
  o 4 (.box y_t_impl_Plane 2 (.c (.agg #[.int .i64 0, .slice none 0 0])))])
 (.seq (.region false [o 5 (.load 2 true 2),
  p 6 (.mkfunc n_impl_Plane_scaled_c1 [] [2, 3]),
  o 7 (cl n_impl_Plane_mapped [5, 6]),
  e (.store 2 4 7)])
 (.ret))
theorem c_impl_Plane_scaled : FF n_impl_Plane_scaled = some ⟨8, y_impl_Plane_scaled.er, [.cell 4 2 true]⟩ := by kernel_rfl
def p_impl_Plane_scaled (a0 a1 : Value) (h : Hp) (R : Value → Hp → Prop) : Prop :=
  bindO (boxV 2 a0) fun c2 => newB h ⟨c2, y_t_impl_Plane, true⟩ fun b2 h1 => bindO (boxV 1 a1) fun c3 => newB h1 ⟨c3, y_t_int64, true⟩ fun b3 h2 => bindO (boxV 2 (.agg #[.int .i64 0, .slice none 0 0])) fun c4 => newB h2 ⟨c4, y_t_impl_Plane, true⟩ fun b4 h3 => bindO (ldV 2 true h3 (.pointer (some ⟨b2, 0, none⟩))) fun v5 => CallW FF n_impl_Plane_mapped [v5, (.func (.func n_impl_Plane_scaled_c1) #[] #[(.pointer (some ⟨b2, 0, none⟩)), (.pointer (some ⟨b3, 0, none⟩))])] h3 fun v7 h4 => bindO (storeV 2 h4 v7 (.pointer (some ⟨b4, 0, none⟩))) fun h5 => bindO (ldV 2 true h5 (.pointer (some ⟨b4, 0, none⟩))) fun r4 => R r4 h5
theorem w_impl_Plane_scaled {a0 a1 : Value} {h : Hp} {R : Value → Hp → Prop} (H : p_impl_Plane_scaled a0 a1 h R) : CallW FF n_impl_Plane_scaled [a0, a1] h R := callV_fin c_impl_Plane_scaled (Eq.mp (by kernel_rfl) H)
def y_impl_bothSeries : YC :=
  .seq (.region false [o 2 (.box y_t_impl_Series 2 0),
  o 3 (.box y_t_impl_Series 2 1),
  mc 4 (k 0)])
 (.seq (.block 0
 (.join [2, 3, 5] (.region false [o 6 (.load 2 true 2),
  o 7 (cl n_impl_IsSeries [6]),
  p 8 (.un .not 7),
  m 9 8,
  ⟨some 10, .load 2 true 3, some (9, false), false⟩,
  ⟨some 11, cl n_impl_IsSeries [10], some (9, false), false⟩,
  ⟨some 12, .p (.un .not 11), some (9, false), false⟩,
  p 13 (.pick  9 (.c (.bool true)) 12),
  m 5 13])
 (.cond 5
 (.seq (.region false [mc 4 (k 1)])
 (.ret))
 (.seq (.region false [o 15 (.load 2 true 2),
  o 16 (.load 2 true 3),
  o 17 (cl n_impl_Series_alike [15, 16]),
  p 18 (.un .not 17),
  m 14 18])
 (.cond 14
 (.seq (.region false [mc 4 (k 2)])
 (.ret))
 (.skip))))))
 (.seq (.region false [mc 4 (k 0)])
 (.ret)))
theorem c_impl_bothSeries : FF n_impl_bothSeries = some ⟨19, y_impl_bothSeries.er, [.tmp 4]⟩ := by kernel_rfl
def p_impl_bothSeries (a0 a1 : Value) (h : Hp) (R : Value → Hp → Prop) : Prop :=
  bindO (boxV 2 a0) fun c2 => newB h ⟨c2, y_t_impl_Series, true⟩ fun b2 h1 => bindO (boxV 2 a1) fun c3 => newB h1 ⟨c3, y_t_impl_Series, true⟩ fun b3 h2 => JN (fun J => bindO (ldV 2 true h2 (.pointer (some ⟨b2, 0, none⟩))) fun v6 => CallW FF n_impl_IsSeries [v6] h2 fun v7 h3 => bindO (unV .not v7) fun v8 => condM v8 (J [(.pointer (some ⟨b2, 0, none⟩)), (.pointer (some ⟨b3, 0, none⟩)), (.bool true)] h3) (bindO (ldV 2 true h3 (.pointer (some ⟨b3, 0, none⟩))) fun v10 => CallW FF n_impl_IsSeries [v10] h3 fun v11 h4 => bindO (unV .not v11) fun v12 => J [(.pointer (some ⟨b2, 0, none⟩)), (.pointer (some ⟨b3, 0, none⟩)), v12] h4)) fun vs h3 => ∀ e : Env, [e 2, e 3, e 5] = vs → condM (e 5) (R (.int .i64 1) h3) (bindO (ldV 2 true h3 (e 2)) fun v15 => bindO (ldV 2 true h3 (e 3)) fun v16 => CallW FF n_impl_Series_alike [v15, v16] h3 fun v17 h4 => bindO (unV .not v17) fun v18 => condM v18 (R (.int .i64 2) h4) (R (.int .i64 0) h4))
theorem w_impl_bothSeries {a0 a1 : Value} {h : Hp} {R : Value → Hp → Prop} (H : p_impl_bothSeries a0 a1 h R) : CallW FF n_impl_bothSeries [a0, a1] h R := callV_fin c_impl_bothSeries (Eq.mp (by kernel_rfl) H)
end XM
