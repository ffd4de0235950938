/- What is proved at the end: for every input FnMultiples returns true and its argument reads as it did; without condition. Part 2 of 7. -/
import Derived.Test.YtannhbjgabcjgaaGreatXa
import Derived.KernelRfl
import Derived.Test.YtannhbjgabcjgaaGreatProg

/- The code of the abstract machine with remarks for the proofs, and what it comes to as a formula that computes. -/
namespace XM
open Go

/-- Code with remarks: which temporaries a loop reads and leaves, by which exits it ends, and where two ways join. -/
inductive YC where
  | skip
  | region (held : Bool) (ops : List XOper)
  | regionG (ops : List XOper)
  | seq (a b : YC)
  | join (ins : List Nat) (a b : YC)
  | cond (c : XO) (a b : YC)
  | block (id : Nat) (b : YC)
  | loop (ins : List Nat) (xs : List (Exit × List Nat)) (b : YC)
  | exit (id : Nat)
  | ret

def YC.er : YC → XC
  | .skip => .skip
  | .region held ops => .region held ops
  | .regionG ops => .region true ops
  | .seq a b => .seq a.er b.er
  | .join _ a b => .seq a.er b.er
  | .cond c a b => .cond c a.er b.er
  | .block id b => .block id b.er
  | .loop _ _ b => .loop b.er
  | .exit id => .exit id
  | .ret => .ret

def condM (v : Value) (A B : Prop) : Prop :=
  match v with
  | .bool true => A
  | .bool false => B
  | _ => False
structure newB (h : Hp) (x : Blk) (K : Nat → Hp → Prop) : Prop where
  ok : K h.nx (h.new x)
def bindVH (o : Option (Value × Hp)) (K : Value → Hp → Prop) : Prop :=
  match o with
  | some p => K p.1 p.2
  | none => False
def boxV (w : Nat) (v : Value) : Option (List Value) := if v.cells.toList.length = w ∧ v.cells.toList.all one = true then some v.cells.toList else none
def makN : Value → Option Nat
  | .int _ i => if 0 ≤ i ∧ i ≤ sizeMax then some i.toNat else none
  | _ => none
def rowV (w l : Nat) (z : List Value) (ps : List (Nat × Value)) : Option (List Value) := (rowFill w (reps l z) ps).bind fun cs => if cs.all one = true then some cs else none
def inP (P : Nat → Prop) : Value → Prop
  | .pointer (some a) => P a.block
  | _ => True
def inB (n : Nat) : Value → Prop := inP fun b => b < n
def keepP (P : Nat → Prop) (h h' : Hp) : Prop := ∀ b, P b → h'.bk b = h.bk b
def keepB (n : Nat) (h h' : Hp) : Prop := ∀ b, b < n → h'.bk b = h.bk b

def exEq : Exit → Exit → Bool
  | .exit a, .exit b => Nat.beq a b
  | .ret, .ret => true
  | _, _ => false
abbrev Kont := List Value → Hp → Prop
def sel : List (Exit × List Nat × Kont) → Exit → St → Prop
  | [], _ => fun _ => False
  | (x, o, K) :: r, y => match exEq x y with | true => fun s => K (o.map s.env) s.h | false => sel r y

/-- What two ways come to where they join. -/
def JN (A : Kont → Prop) (B : Kont) : Prop := ∃ K : Kont, (∀ vs h, K vs h → B vs h) ∧ A K

section
variable (F : FuncId → Option XFunc)

def VP (p : XP) (d : Option Nat) (Q : St → Prop) (s : St) : Prop :=
  match p with
  | .move x => Q ⟨put s.env d (x.ev s.env), s.h⟩
  | .pick c a b => condM (c.ev s.env) (Q ⟨put s.env d (a.ev s.env), s.h⟩) (Q ⟨put s.env d (b.ev s.env), s.h⟩)
  | .mkfunc f first caps => Q ⟨put s.env d (.func (.func f) (first.map (·.ev s.env)).toArray (caps.map (·.ev s.env)).toArray), s.h⟩
  | p => bindO (p.ev s.env) fun v => Q ⟨put s.env d v, s.h⟩

def VK (k : XK) (d : Option Nat) (Q : St → Prop) (s : St) : Prop :=
  match k with
  | .p p => VP p d Q s
  | .load sz g x => bindO (ldV sz g s.h (x.ev s.env)) fun v => Q ⟨put s.env d v, s.h⟩
  | .box e w x => bindO (boxV w (x.ev s.env)) fun cs => newB s.h ⟨cs, e, true⟩ fun b h' => Q ⟨put s.env d (.pointer (some ⟨b, 0, none⟩)), h'⟩
  | .mkrow e w l z ps => bindO (rowV w l z (ps.map fun q => (q.1, q.2.ev s.env))) fun cs => newB s.h ⟨cs, e, true⟩ fun b h' => Q ⟨put s.env d (.slice (some ⟨b, 0, none⟩) l w), h'⟩
  | .make e w _ z n => bindO (makN (n.ev s.env)) fun n => newB s.h ⟨reps n z, e, true⟩ fun b h' => Q ⟨put s.env d (.slice (some ⟨b, 0, none⟩) n w), h'⟩
  | .store sz x v => bindO (storeV sz s.h (v.ev s.env) (x.ev s.env)) fun h' => Q ⟨put s.env d undef, h'⟩
  | .append e w _ t x => bindVH (appendV e w s.h (t.ev s.env) (x.ev s.env)) fun v h' => Q ⟨put s.env d v, h'⟩
  | .copy e w t x => bindVH (copyV e w s.h (t.ev s.env) (x.ev s.env)) fun v h' => Q ⟨put s.env d v, h'⟩
  | .call f args => CallV F (f.ev s.env) (args.map (·.ev s.env)) s.h fun v h' => Q ⟨put s.env d v, h'⟩

/-- In a region that is held: loads are of old blocks, and old blocks are kept. -/
def VKK (P : Nat → Prop) (k : XK) (d : Option Nat) (Q : St → Prop) (s : St) : Prop :=
  match k with
  | .load sz g x => inP P (x.ev s.env) ∧ bindO (ldV sz g s.h (x.ev s.env)) fun v => Q ⟨put s.env d v, s.h⟩
  | .store sz x v => bindO (storeV sz s.h (v.ev s.env) (x.ev s.env)) fun h' => keepP P s.h h' ∧ Q ⟨put s.env d undef, h'⟩
  | .append e w _ t x => bindVH (appendV e w s.h (t.ev s.env) (x.ev s.env)) fun v h' => keepP P s.h h' ∧ Q ⟨put s.env d v, h'⟩
  | .copy e w t x => bindVH (copyV e w s.h (t.ev s.env) (x.ev s.env)) fun v h' => keepP P s.h h' ∧ Q ⟨put s.env d v, h'⟩
  | .call f args => CallV F (f.ev s.env) (args.map (·.ev s.env)) s.h fun v h' => keepP P s.h h' ∧ Q ⟨put s.env d v, h'⟩
  | k => VK F k d Q s

def VG (A : (St → Prop) → St → Prop) (d : Option Nat) (g : Option (Nat × Bool)) (Q : St → Prop) (s : St) : Prop :=
  match g with
  | none => A Q s
  | some (g, true) => condM (s.env g) (A Q ⟨put s.env (some g) (.bool true), s.h⟩) (Q ⟨put (put s.env (some g) (.bool false)) d undef, s.h⟩)
  | some (g, false) => condM (s.env g) (Q ⟨put (put s.env (some g) (.bool true)) d undef, s.h⟩) (A Q ⟨put s.env (some g) (.bool false), s.h⟩)

def VOps : List XOper → (St → Prop) → St → Prop
  | [], Q, s => Q s
  | ⟨d, k, g, _⟩ :: r, Q, s => VG (fun Q s => VK F k d Q s) d g (fun s' => VOps r Q s') s

/-- An operation of such a region, which may be of those that matter. -/
def VKc (P : Nat → Prop) (k : XK) (d : Option Nat) (c : Bool) (Q : St → Prop) (s : St) : Prop :=
  match c with
  | true => VKK F P k d Q s
  | false => VK F k d Q s

def VOpsK (P : Nat → Prop) : List XOper → (St → Prop) → St → Prop
  | [], Q, s => Q s
  | ⟨d, k, g, c⟩ :: r, Q, s => VG (VKc F P k d c) d g (fun s' => VOpsK P r Q s') s

/-- A loop, from the values of the temporaries it reads to those it leaves. -/
def LP (b : XC) (ins : List Nat) (Ks : List (Exit × List Nat × Kont)) (vs : List Value) (h : Hp) : Prop :=
  ∀ e : Env, ins.map e = vs → LoopW F b (fun x s => sel Ks x s) ⟨e, h⟩

def V : YC → (Exit → St → Prop) → St → Prop
  | .skip, Q, s => Q .normal s
  | .region false ops, Q, s => VOps F ops (Q .normal) s
  | .region true ops, Q, s => VOpsK F (fun b => b < s.h.nx) ops (Q .normal) s
  | .regionG ops, Q, s => ∃ P : Nat → Prop, (∀ b, P b → b < s.h.nx) ∧ VOpsK F P ops (Q .normal) s
  | .seq a b, Q, s => V a (thenW (V b Q) Q) s
  | .join ins a b, Q, s => JN (fun K => V a (thenW (fun s' => K (ins.map s'.env) s'.h) Q) s) (fun vs h' => ∀ e' : Env, ins.map e' = vs → V b Q ⟨e', h'⟩)
  | .cond c a b, Q, s => condM (c.ev s.env) (V a Q s) (V b Q s)
  | .block id b, Q, s => V b (fun x s' => Q (catchX id x) s') s
  | .loop ins xs b, Q, s => LP F b.er ins (xs.map fun x => (x.1, x.2, fun vs h' => ∀ e' : Env, x.2.map e' = vs → Q x.1 ⟨e', h'⟩)) (ins.map s.env) s.h
  | .exit id, Q, s => Q (.exit id) s
  | .ret, Q, s => Q .ret s

/-- How a round of a loop ends. -/
def qsel (ins : List Nat) (K : Kont) (Ks : List (Exit × List Nat × Kont)) (x : Exit) (s : St) : Prop :=
  match x with
  | .normal => K (ins.map s.env) s.h
  | x => sel Ks x s
def resC (e : Env) (h : Hp) : List XR → (List Value → Prop) → Prop
  | [], K => K []
  | .tmp t :: r, K => resC e h r fun vs => K (e t :: vs)
  | .cell t sz g :: r, K => bindO (ldV sz g h (e t)) fun v => resC e h r fun vs => K (v :: vs)
def tupV : List Value → Value
  | [v] => v
  | vs => .tuple vs.toArray
/-- How a function ends. -/
def finV (res : List XR) (R : Value → Hp → Prop) (x : Exit) (s : St) : Prop :=
  match x with
  | .normal => resC s.env s.h res fun vs => R (tupV vs) s.h
  | .ret => resC s.env s.h res fun vs => R (tupV vs) s.h
  | _ => False
end

theorem put_same {e : Env} {g : Nat} {v : Value} (h : e g = v) : put e (some g) v = e := by
  funext t; rw [put_app]; split
  · rename_i ht; rw [ht, h]
  · rfl

theorem condM_cases {v : Value} {A B : Prop} (h : condM v A B) : (v = .bool true ∧ A) ∨ (v = .bool false ∧ B) := by
  unfold condM at h; split at h
  · exact .inl ⟨rfl, h⟩
  · exact .inr ⟨rfl, h⟩
  · exact h.elim

theorem bindO_some_iff {α : Type} {o : Option α} {K : α → Prop} : bindO o K ↔ ∃ v, o = some v ∧ K v := by rw [← ex_bindO]

section
variable {F : FuncId → Option XFunc}

theorem VP_W {p : XP} {d : Option Nat} {Q : St → Prop} {s : St} (h : VP p d Q s) : ∃ v, p.ev s.env = some v ∧ Q ⟨put s.env d v, s.h⟩ := by
  cases p with
  | move x => exact ⟨_, rfl, h⟩
  | pick c a b =>
    rcases condM_cases h with ⟨h1, h2⟩ | ⟨h1, h2⟩
    · exact ⟨_, by rw [ev_pick, h1]; rfl, h2⟩
    · exact ⟨_, by rw [ev_pick, h1]; rfl, h2⟩
  | mkfunc f first caps => exact ⟨_, rfl, h⟩
  | _ => exact bindO_some_iff.1 h

theorem VK_W {k : XK} {d : Option Nat} {Q Q' : St → Prop} {s : St} (h : VK F k d Q s) (hq : ∀ s', Q s' → Q' s') : WK F k d Q' s := by
  cases k with
  | p p => obtain ⟨v, h1, h2⟩ := VP_W h; exact ⟨v, h1, hq _ h2⟩
  | load sz g x => rw [WK_load]; obtain ⟨v, h1, h2⟩ := bindO_some_iff.1 h; exact bindO_some_iff.2 ⟨v, h1, hq _ h2⟩
  | box e w x =>
    rw [WK_box]; obtain ⟨cs, h1, h2⟩ := bindO_some_iff.1 h
    unfold boxV at h1; split at h1
    · rename_i hc; cases h1; exact ⟨hc, hq _ h2.ok⟩
    · cases h1
  | mkrow e w l z ps =>
    rw [WK_mkrow]; obtain ⟨cs, h1, h2⟩ := bindO_some_iff.1 h
    unfold rowV at h1
    obtain ⟨cs', h3, h4⟩ := Option.bind_eq_some_iff.1 h1
    split at h4
    · rename_i ho; cases h4; exact bindO_some_iff.2 ⟨_, h3, ho, hq _ h2.ok⟩
    · cases h4
  | make e w b z n =>
    rw [WK_make]; obtain ⟨n', h1, h2⟩ := bindO_some_iff.1 h
    unfold makN at h1; split at h1
    · rename_i kk i hn
      split at h1
      · rename_i hc; cases h1
        refine bindO_some_iff.2 ⟨(.slice (some ⟨s.h.nx, 0, none⟩) i.toNat w, s.h.new ⟨reps i.toNat z, e, true⟩), ?_, hq _ h2.ok⟩
        rw [hn]; exact if_pos hc
      · cases h1
    · cases h1
  | store sz x v => rw [WK_store]; obtain ⟨v, h1, h2⟩ := bindO_some_iff.1 h; exact bindO_some_iff.2 ⟨v, h1, hq _ h2⟩
  | append e w b t x =>
    rw [WK_append]
    unfold VK bindVH at h; simp only at h
    split at h
    · rename_i p hp; exact bindO_some_iff.2 ⟨p, hp, hq _ h⟩
    · exact h.elim
  | copy e w t x =>
    rw [WK_copy]
    unfold VK bindVH at h; simp only at h
    split at h
    · rename_i p hp; exact bindO_some_iff.2 ⟨p, hp, hq _ h⟩
    · exact h.elim
  | call f args =>
    unfold VK CallV at h; unfold WK CallV; simp only at h ⊢
    split at h
    · rename_i g first caps hf; exact h.mono fun v h' hh => hq _ hh
    · exact h.elim

theorem VKK_W {P : Nat → Prop} {k : XK} {d : Option Nat} {Q Q' : St → Prop} {s : St} (h : VKK F P k d Q s) (hq : ∀ s', (k.isEff = true → keepP P s.h s'.h) → Q s' → Q' s') :
    (∀ b, ldBlock s.env k = some b → P b) ∧ WK F k d Q' s := by
  cases k with
  | load sz g x =>
    obtain ⟨h0, h⟩ := h
    refine ⟨fun b hb => ?_, ?_⟩
    · simp only [ldBlock] at hb
      split at hb
      · rename_i a ha; cases hb; rw [ha] at h0; exact h0
      · cases hb
    · exact VK_W (k := .load sz g x) (Q := Q) h fun s' hs => hq s' (fun hh => by cases hh) hs
  | store sz x v =>
    refine ⟨fun b hb => (by cases hb), ?_⟩
    exact VK_W (k := .store sz x v) (Q := fun s' => keepP P s.h s'.h ∧ Q s') h fun s' hs => hq s' (fun _ => hs.1) hs.2
  | append e w b t x =>
    refine ⟨fun b hb => (by cases hb), ?_⟩
    exact VK_W (k := .append e w b t x) (Q := fun s' => keepP P s.h s'.h ∧ Q s') h fun s' hs => hq s' (fun _ => hs.1) hs.2
  | copy e w t x =>
    refine ⟨fun b hb => (by cases hb), ?_⟩
    exact VK_W (k := .copy e w t x) (Q := fun s' => keepP P s.h s'.h ∧ Q s') h fun s' hs => hq s' (fun _ => hs.1) hs.2
  | call f args =>
    refine ⟨fun b hb => (by cases hb), ?_⟩
    exact VK_W (k := .call f args) (Q := fun s' => keepP P s.h s'.h ∧ Q s') h fun s' hs => hq s' (fun _ => hs.1) hs.2
  | _ => exact ⟨fun b hb => by (simp [ldBlock] at hb), VK_W (Q := Q) h fun s' hs => hq s' (fun hh => by cases hh) hs⟩

theorem VG_W {A : (St → Prop) → St → Prop} {d : Option Nat} {k : XK} {g : Option (Nat × Bool)} {c : Bool} {Q Q' : St → Prop} {s : St} (h : VG A d g Q s)
    (hA : wanted s.env g → A Q s → WK F k d Q' s) (hN : ∀ e', unwanted s.env g → Q ⟨e', s.h⟩ → Q' ⟨e', s.h⟩) : WOp F ⟨d, k, g, c⟩ Q' s := by
  unfold VG at h
  split at h
  · exact hA trivial h
  · rename_i g
    rcases condM_cases h with ⟨h1, h2⟩ | ⟨h1, h2⟩
    · rw [put_same h1] at h2; exact ⟨true, h1, by rw [if_pos rfl]; exact hA h1 h2⟩
    · rw [put_same h1] at h2; exact ⟨false, h1, by rw [if_neg (by simp)]; exact hN _ h1 h2⟩
  · rename_i g
    rcases condM_cases h with ⟨h1, h2⟩ | ⟨h1, h2⟩
    · rw [put_same h1] at h2; exact ⟨true, h1, by rw [if_neg (by simp)]; exact hN _ h1 h2⟩
    · rw [put_same h1] at h2; exact ⟨false, h1, by rw [if_pos rfl]; exact hA h1 h2⟩

theorem VOps_W {Q Q' : St → Prop} (hq : ∀ s, Q s → Q' s) : ∀ {ops : List XOper} {s : St}, VOps F ops Q s → WOps F ops Q' s
  | [], s, h => hq s h
  | ⟨d, k, g, c⟩ :: r, s, h => VG_W (A := fun Q s => VK F k d Q s) h (fun _ hA => VK_W hA fun s' hs => VOps_W hq hs) fun e' _ hs => VOps_W hq hs

theorem VOpsK_W {P : Nat → Prop} {Q Q' : St → Prop} (hq : ∀ s, Q s → Q' s) : ∀ {ops : List XOper} {s : St}, VOpsK F P ops Q s → WOpsK F P ops Q' s
  | [], s, h => hq s h
  | ⟨d, k, g, c⟩ :: r, s, h => by
    have key : wanted s.env g → (VKc F P k d c) (fun s' => VOpsK F P r Q s') s →
        (c = true → ∀ b, ldBlock s.env k = some b → P b) ∧ WK F k d (fun s' => (c = true → k.isEff = true → ∀ b, P b → s'.h.bk b = s.h.bk b) ∧ WOpsK F P r Q' s') s := by
      intro hw hA
      cases c with
      | true =>
        obtain ⟨h1, h2⟩ := VKK_W (Q := fun s' => VOpsK F P r Q s') (Q' := fun s' => (true = true → k.isEff = true → ∀ b, P b → s'.h.bk b = s.h.bk b) ∧ WOpsK F P r Q' s') hA
          fun s' hk hs => ⟨fun _ he => hk he, VOpsK_W hq hs⟩
        exact ⟨fun _ => h1, h2⟩
      | false => exact ⟨fun hc => (Bool.noConfusion hc), VK_W (Q := fun s' => VOpsK F P r Q s') hA fun s' hs => ⟨fun hc => (Bool.noConfusion hc), VOpsK_W hq hs⟩⟩
    refine ⟨fun hc b hw hb => ?_, ?_⟩
    · have h' : VG (VKc F P k d c) d g (fun s' => VOpsK F P r Q s') s := h
      unfold VG at h'
      split at h'
      · exact (key hw h').1 hc b hb
      · rename_i g
        have hw' : s.env g = .bool true := hw
        rcases condM_cases h' with ⟨h1, h2⟩ | ⟨h1, h2⟩
        · rw [put_same h1] at h2; exact (key hw h2).1 hc b hb
        · rw [hw'] at h1; cases h1
      · rename_i g
        have hw' : s.env g = .bool false := hw
        rcases condM_cases h' with ⟨h1, h2⟩ | ⟨h1, h2⟩
        · rw [hw'] at h1; cases h1
        · rw [put_same h1] at h2; exact (key hw h2).1 hc b hb
    · exact VG_W (A := VKc F P k d c) h (fun hw hA => (key hw hA).2) fun e' _ hs => ⟨fun _ _ _ _ => rfl, VOpsK_W hq hs⟩

theorem exEq_eq {x y : Exit} (h : exEq x y = true) : x = y := by
  cases x <;> cases y <;> simp_all [exEq]

theorem sel_map {xs : List (Exit × List Nat)} {Q : Exit → St → Prop} {y : Exit} {s : St} :
    sel (xs.map fun x => (x.1, x.2, fun vs h' => ∀ e' : Env, x.2.map e' = vs → Q x.1 ⟨e', h'⟩)) y s → Q y s := by
  induction xs with
  | nil => intro hh; exact hh.elim
  | cons x r ih =>
    intro hh
    simp only [List.map, sel] at hh
    cases he : exEq x.1 y with
    | true => rw [he] at hh; rw [exEq_eq he] at hh; exact hh s.env rfl
    | false => rw [he] at hh; exact ih hh

theorem V_W {c : YC} : ∀ {Q Q' : Exit → St → Prop} {s : St}, (∀ x s, Q x s → Q' x s) → V F c Q s → W F c.er Q' s := by
  induction c with
  | skip => intro Q Q' s hq h; exact hq _ _ h
  | region held ops =>
    intro Q Q' s hq h
    cases held with
    | false => exact VOps_W (hq .normal) h
    | true => exact ⟨fun b => b < s.h.nx, fun b hb => hb, VOpsK_W (hq .normal) h⟩
  | regionG ops =>
    intro Q Q' s hq h
    obtain ⟨P, hP, h⟩ := h
    exact ⟨P, hP, VOpsK_W (hq .normal) h⟩
  | seq a b iha ihb =>
    intro Q Q' s hq h
    refine iha (Q := thenW (V F b Q) Q) (fun x s hx => ?_) h
    cases x with
    | normal => exact ihb hq hx
    | _ => exact hq _ _ hx
  | join ins a b iha ihb =>
    intro Q Q' s hq h
    obtain ⟨K, hK, h⟩ := h
    refine iha (Q := thenW (fun s' => K (ins.map s'.env) s'.h) Q) (fun x s hx => ?_) h
    cases x with
    | normal => exact ihb hq (hK _ _ hx s.env rfl)
    | _ => exact hq _ _ hx
  | cond c a b iha ihb =>
    intro Q Q' s hq h
    rcases condM_cases h with ⟨h1, h2⟩ | ⟨h1, h2⟩
    · exact ⟨true, h1, by rw [if_pos rfl]; exact iha hq h2⟩
    · exact ⟨false, h1, by rw [if_neg (by simp)]; exact ihb hq h2⟩
  | block id b ih => intro Q Q' s hq h; exact ih (Q := fun x s' => Q (catchX id x) s') (fun x s hx => hq _ _ hx) h
  | loop ins xs b ih =>
    intro Q Q' s hq h
    exact W_mono_loop (h s.env rfl) fun x s' hs => hq _ _ (sel_map hs)
  | exit id => intro Q Q' s hq h; exact hq _ _ h
  | ret => intro Q Q' s hq h; exact hq _ _ h

theorem resC_map {e : Env} {h : Hp} : ∀ {res : List XR} {K : List Value → Prop}, resC e h res K → ∃ vs, res.mapM (fun r => XR.ev e h r) = some vs ∧ vs.length = res.length ∧ K vs
  | [], K, hk => ⟨[], rfl, rfl, hk⟩
  | .tmp t :: r, K, hk => by
    obtain ⟨vs, h1, h2, h3⟩ := resC_map (res := r) hk
    have h0' : XR.ev e h (.tmp t) = some (e t) := rfl
    exact ⟨e t :: vs, by simp [List.mapM_cons, h0', h1], by simp [h2], h3⟩
  | .cell t sz g :: r, K, hk => by
    obtain ⟨v, h0, hk⟩ := bindO_some_iff.1 hk
    obtain ⟨vs, h1, h2, h3⟩ := resC_map (res := r) hk
    have h0' : XR.ev e h (.cell t sz g) = some v := h0
    exact ⟨v :: vs, by simp [List.mapM_cons, h0', h1], by simp [h2], h3⟩

theorem resC_resV {e : Env} {h : Hp} {res : List XR} {R : Value → Prop} (hk : resC e h res fun vs => R (tupV vs)) : bindO (resV e h res) R := by
  obtain ⟨vs, h1, h2, h3⟩ := resC_map hk
  refine bindO_some_iff.2 ⟨tupV vs, ?_, h3⟩
  match res, vs, h1, h2 with
  | [], [], h1, _ => rfl
  | [r], [v], h1, _ =>
    simp only [resV, tupV]
    cases hr : XR.ev e h r with
    | none => simp [List.mapM_cons, hr] at h1
    | some u => simp [List.mapM_cons, hr] at h1; rw [h1]
  | r :: r2 :: rs, v :: v2 :: vs, h1, _ =>
    simp only [resV, tupV, h1, Option.map_some]

theorem callV_fin {f : FuncId} {args : List Value} {h : Hp} {R : Value → Hp → Prop} {nt : Nat} {y : YC} {res : List XR} (hf : F f = some ⟨nt, y.er, res⟩)
    (hw : V F y (finV res R) ⟨argEnv args, h⟩) : CallW F f args h R := by
  refine callW_fin hf (V_W (fun x s hx => ?_) hw)
  cases x <;> first | exact ⟨.inl rfl, resC_resV hx⟩ | exact ⟨.inr rfl, resC_resV hx⟩ | exact hx.elim

/-- A loop, by what holds ahead of each round: d falls. -/
theorem LP_intro {b : YC} {ins : List Nat} {Ks : List (Exit × List Nat × Kont)} (I : Nat → Kont)
    (hr : ∀ (d : Nat) (vs : List Value) (h : Hp), I d vs h → ∀ K : Kont, (∀ d' vs' h', d' < d → I d' vs' h' → K vs' h') → ∀ e : Env, ins.map e = vs → V F b (qsel ins K Ks) ⟨e, h⟩) :
    ∀ d vs h, I d vs h → LP F b.er ins Ks vs h := by
  intro d vs h hI e he
  refine loopN (F := F) (b := b.er) (Q := fun x s => sel Ks x s) (fun d s => I d (ins.map s.env) s.h) (fun d s hI => ?_) d ⟨e, h⟩ (by simpa [he] using hI)
  refine V_W ?_ (hr d _ _ hI (fun vs' h' => ∃ d', d' < d ∧ I d' vs' h') (fun d' vs' h' h1 h2 => ⟨d', h1, h2⟩) s.env rfl)
  intro x s' hx
  cases x <;> exact hx

/-- The same for a loop with one exit, whose sequel is closed. -/
theorem LP1 {b : YC} {ins o1 : List Nat} {x1 : Exit} {K1 : Kont} (I : Nat → Kont)
    (hr : ∀ (d : Nat) (vs : List Value) (h : Hp), I d vs h → ∀ K K1' : Kont, (∀ d' vs' h', d' < d → I d' vs' h' → K vs' h') → (∀ vs' h', K1 vs' h' → K1' vs' h') →
      ∀ e : Env, ins.map e = vs → V F b (qsel ins K [(x1, o1, K1')]) ⟨e, h⟩) :
    ∀ d vs h, I d vs h → LP F b.er ins [(x1, o1, K1)] vs h :=
  LP_intro I fun d vs h hI K hK => hr d vs h hI K K1 hK fun _ _ hh => hh

theorem LP2 {b : YC} {ins o1 o2 : List Nat} {x1 x2 : Exit} {K1 K2 : Kont} (I : Nat → Kont)
    (hr : ∀ (d : Nat) (vs : List Value) (h : Hp), I d vs h → ∀ K K1' K2' : Kont, (∀ d' vs' h', d' < d → I d' vs' h' → K vs' h') → (∀ vs' h', K1 vs' h' → K1' vs' h') → (∀ vs' h', K2 vs' h' → K2' vs' h') →
      ∀ e : Env, ins.map e = vs → V F b (qsel ins K [(x1, o1, K1'), (x2, o2, K2')]) ⟨e, h⟩) :
    ∀ d vs h, I d vs h → LP F b.er ins [(x1, o1, K1), (x2, o2, K2)] vs h :=
  LP_intro I fun d vs h hI K hK => hr d vs h hI K K1 K2 hK (fun _ _ hh => hh) fun _ _ hh => hh
end

/-! simp rules for the formulas -/
@[congr] theorem condM_congr {v v' : Value} {A B : Prop} (h : v = v') : condM v A B = condM v' A B := by rw [h]
@[simp ↓] theorem condM_true (A B : Prop) : condM (.bool true) A B = A := propext Iff.rfl
@[simp ↓] theorem condM_false (A B : Prop) : condM (.bool false) A B = B := propext Iff.rfl
@[simp ↓] theorem condM_not (t : Bool) (A B : Prop) : condM (.bool (!t)) A B = condM (.bool t) B A := by cases t <;> rfl
theorem condM_dec {c : Prop} [Decidable c] {A B : Prop} (h1 : c → A) (h2 : ¬ c → B) : condM (.bool (decide c)) A B := by
  by_cases h : c
  · simp only [h, decide_true, condM_true]; exact h1 h
  · simp only [h, decide_false, condM_false]; exact h2 h
theorem condM_bool {t : Bool} {A B : Prop} (h1 : t = true → A) (h2 : t = false → B) : condM (.bool t) A B := by cases t <;> simp_all
@[congr] theorem newB_congr {h h' : Hp} {x x' : Blk} {K : Nat → Hp → Prop} (e1 : h = h') (e2 : x = x') : newB h x K = newB h' x' K := by rw [e1, e2]
@[congr] theorem bindVH_congr {o o' : Option (Value × Hp)} {K : Value → Hp → Prop} (h : o = o') : bindVH o K = bindVH o' K := by rw [h]
@[simp ↓] theorem bindVH_some (v : Value) (h : Hp) (K : Value → Hp → Prop) : bindVH (some (v, h)) K = K v h := propext Iff.rfl
@[congr] theorem LP_congr {F : FuncId → Option XFunc} {b : XC} {ins : List Nat} {Ks : List (Exit × List Nat × Kont)} {vs vs' : List Value} {h h' : Hp} (e1 : vs = vs') (e2 : h = h') : LP F b ins Ks vs h = LP F b ins Ks vs' h' := by rw [e1, e2]
theorem JN_congr' {A : Kont → Prop} {B : Kont} : JN A B = JN A B := rfl
@[simp] theorem boxV_int (k : IntKind) (a : Int) : boxV 1 (.int k a) = some [.int k a] := by simp [boxV]
@[simp] theorem boxV_bool (a : Bool) : boxV 1 (.bool a) = some [.bool a] := by simp [boxV]
@[simp] theorem boxV_slice (A : Option Addr) (n c : Nat) : boxV 1 (.slice A n c) = some [.slice A n c] := by simp [boxV]
@[simp] theorem boxV_ptr (A : Option Addr) : boxV 1 (.pointer A) = some [.pointer A] := by simp [boxV]
@[simp] theorem boxV_func (f : Fn) (x y : Array Value) : boxV 1 (.func f x y) = some [.func f x y] := by simp [boxV]
theorem boxV_agg2 {a b : Value} (ha : one a = true) (hb : one b = true) : boxV 2 (.agg #[a, b]) = some [a, b] := by simp [boxV, ha, hb]
@[simp] theorem boxV_is (k : IntKind) (a : Int) (A : Option Addr) (n c : Nat) : boxV 2 (.agg #[.int k a, .slice A n c]) = some [.int k a, .slice A n c] := boxV_agg2 rfl rfl
theorem makN_nat {k : IntKind} {e : Int} {n : Nat} (h : e = n) (hn : n ≤ sizeMax) : makN (.int k e) = some n := by subst h; simp [makN, hn]
@[simp] theorem inB_ptr (n : Nat) (a : Addr) : inB n (.pointer (some a)) = (a.block < n) := rfl
@[simp] theorem inP_ptr (P : Nat → Prop) (a : Addr) : inP P (.pointer (some a)) = P a.block := rfl
theorem newB_ex {h : Hp} {x : Blk} {K : Nat → Hp → Prop} (hk : ∀ b h', b = h.nx → h' = h.new x → K b h') : newB h x K := ⟨hk _ _ rfl rfl⟩
end XM

/- Lists of numbers and tables in the abstract heap. -/
namespace XM
open Go

/-- What stood before stands. -/
structure HE (h h' : Hp) : Prop where
  nx : h.nx ≤ h'.nx
  bk : ∀ b, b < h.nx → h'.bk b = h.bk b

theorem HE.refl (h : Hp) : HE h h := ⟨Nat.le_refl _, fun _ _ => rfl⟩
@[simp] theorem HE_refl (h : Hp) : HE h h := HE.refl h
theorem HE.trans {h h' h'' : Hp} (a : HE h h') (b : HE h' h'') : HE h h'' := ⟨Nat.le_trans a.nx b.nx, fun c hc => (b.bk c (Nat.lt_of_lt_of_le hc a.nx)).trans (a.bk c hc)⟩
@[simp] theorem HE_new {h h' : Hp} (x : Blk) (e : HE h h') : HE h (h'.new x) :=
  ⟨Nat.le_succ_of_le e.nx, fun b hb => by rw [new_bk, if_neg (by have := e.nx; omega)]; exact e.bk b hb⟩
@[simp] theorem HE_set {h h' : Hp} {b : Nat} (x : Option Blk) (e : HE h h') (hb : h.nx ≤ b) : HE h (h'.set b x) :=
  ⟨e.nx, fun c hc => by rw [set_bk, if_neg (by omega)]; exact e.bk c hc⟩

def gt (xs : List Int) (i : Nat) : Int := xs.getD i 0
def row (T : List (List Int)) (i : Nat) : List Int := T.getD i []
def mapI (xs : List Int) : List Value := xs.map (.int .i64 ·)

@[simp] theorem mapI_len (xs : List Int) : (mapI xs).length = xs.length := by simp [mapI]
@[simp] theorem mapI_nil : mapI [] = [] := rfl
theorem mapI_get {xs : List Int} {i : Nat} (h : i < xs.length) : (mapI xs)[i]? = some (.int .i64 (gt xs i)) := by simp [mapI, gt, h]
theorem gt_get {xs : List Int} {i : Nat} (h : i < xs.length) : gt xs i = xs[i] := by simp [gt, h]
theorem gt_mem {xs : List Int} {i : Nat} (h : i < xs.length) : gt xs i ∈ xs := by rw [gt_get h]; exact List.getElem_mem h
theorem gt_out {xs : List Int} {i : Nat} (h : xs.length ≤ i) : gt xs i = 0 := by simp [gt, List.getElem?_eq_none h]
theorem gt_set {xs : List Int} {i j : Nat} {v : Int} : gt (xs.set i v) j = if i = j ∧ i < xs.length then v else gt xs j := by
  unfold gt
  simp only [List.getD_eq_getElem?_getD, List.getElem?_set]
  by_cases h : i = j
  · subst h
    by_cases h2 : i < xs.length
    · simp [h2]
    · simp [h2]
  · simp [h]
theorem gt_append {xs ys : List Int} {i : Nat} : gt (xs ++ ys) i = if i < xs.length then gt xs i else gt ys (i - xs.length) := by
  unfold gt
  simp only [List.getD_eq_getElem?_getD, List.getElem?_append]
  split <;> rfl
theorem gt_ext {xs ys : List Int} (h : xs.length = ys.length) (hg : ∀ i, i < xs.length → gt xs i = gt ys i) : xs = ys := by
  apply List.ext_getElem h
  intro i h1 h2
  have := hg i h1
  rw [gt_get h1, gt_get h2] at this
  exact this
theorem mapI_one (xs : List Int) : (mapI xs).all one = true := by simp [mapI, one]
theorem mapI_append (xs ys : List Int) : mapI (xs ++ ys) = mapI xs ++ mapI ys := by simp [mapI]
theorem mapI_snoc (xs : List Int) (v : Int) : mapI xs ++ [.int .i64 v] = mapI (xs ++ [v]) := by simp [mapI]
theorem mapI_rep (n : Nat) : reps n [.int .i64 0] = mapI (List.replicate n 0) := by
  induction n with
  | zero => rfl
  | succ n ih =>
    have : reps (n + 1) [Value.int .i64 0] = [.int .i64 0] ++ reps n [.int .i64 0] := by simp [reps, List.replicate_succ]
    rw [this, ih]; simp [mapI, List.replicate_succ]
theorem splice_one {cs : List Value} {i : Nat} {v : Value} (h : i < cs.length) : splice cs i [v] = cs.set i v := by
  rw [List.set_eq_take_append_cons_drop, if_pos h]; simp [splice]
theorem mapI_set (xs : List Int) (i : Nat) (v : Int) : (mapI xs).set i (.int .i64 v) = mapI (xs.set i v) := by simp [mapI, List.map_set]
theorem splice_mapI {xs : List Int} {i : Nat} {v : Int} (h : i < xs.length) : splice (mapI xs) i [.int .i64 v] = mapI (xs.set i v) := by
  rw [splice_one (by simpa using h), mapI_set]

/-- The address of a slice's i-th element of w cells. -/
def elp (A : Option Addr) (w i : Nat) : Value := .pointer (A.map fun a => ⟨a.block, a.off + i * w, none⟩)

/-- A slice of one-cell elements that is only read: what it holds, in this heap. -/
def RV (h : Hp) (A : Option Addr) (vs : List Value) : Prop :=
  0 < vs.length → ∃ b o x, A = some ⟨b, o, none⟩ ∧ b < h.nx ∧ h.bk b = some x ∧ ∀ (i : Nat) (v : Value), vs[i]? = some v → x.cells[o + i]? = some v

theorem RV.mono {h h' : Hp} {A : Option Addr} {vs : List Value} (r : RV h A vs) (e : HE h h') : RV h' A vs := by
  intro hl
  obtain ⟨b, o, x, h1, h2, h3, h4⟩ := r hl
  exact ⟨b, o, x, h1, Nat.lt_of_lt_of_le h2 e.nx, (e.bk b h2).trans h3, h4⟩

theorem idx_nat {i n : Nat} (h : i < n) : idx (i : Int) n = some i := by
  unfold idx; rw [if_pos (by omega)]; simp

theorem RV.rd {h : Hp} {A : Option Addr} {vs : List Value} (r : RV h A vs) {e : Int} {i n c : Nat} {k : IntKind} {v : Value} (he : e = i) (hn : n = vs.length) (hv : vs[i]? = some v) :
    indexAddrV 1 (.slice A n c) (.int k e) = some (elp A 1 i) ∧ ∀ h', HE h h' → ldV 1 false h' (elp A 1 i) = some v := by
  have hi : i < vs.length := (List.getElem?_eq_some_iff.1 hv).1
  obtain ⟨b, o, x, rfl, h2, h3, h4⟩ := r (by omega)
  subst he; subst hn
  refine ⟨by simp [indexAddrV, idx_nat hi, elp, addOff], fun h' hE => ?_⟩
  have h5 := h4 i v hv
  have h6 : o + i < x.cells.length := (List.getElem?_eq_some_iff.1 h5).1
  simp only [elp, Option.map_some, Nat.mul_one, ldV_ptr, hE.bk b h2, h3, Option.bind_some]
  rw [if_pos (by omega)]
  simpa using h5

theorem RV.inb {h h' : Hp} {A : Option Addr} {vs : List Value} (r : RV h A vs) (e : HE h h') {i : Nat} (hi : i < vs.length) : inB h'.nx (elp A 1 i) := by
  obtain ⟨b, o, x, rfl, h2, h3, h4⟩ := r (by omega)
  have := e.nx
  show b < h'.nx
  omega

def RI (h : Hp) (A : Option Addr) (xs : List Int) : Prop := RV h A (mapI xs)
theorem RI.mono {h h' : Hp} {A : Option Addr} {xs : List Int} (r : RI h A xs) (e : HE h h') : RI h' A xs := RV.mono r e
theorem RI.nil (h : Hp) (A : Option Addr) : RI h A [] := fun hl => by simp at hl
theorem RI.rd {h : Hp} {A : Option Addr} {xs : List Int} (r : RI h A xs) {e : Int} {i n c : Nat} {k : IntKind} (he : e = i) (hn : n = xs.length) (hi : i < xs.length) :
    indexAddrV 1 (.slice A n c) (.int k e) = some (elp A 1 i) ∧ ∀ h', HE h h' → ldV 1 false h' (elp A 1 i) = some (.int .i64 (gt xs i)) :=
  RV.rd (vs := mapI xs) r he (by simpa using hn) (mapI_get hi)

theorem RI.inb {h h' : Hp} {A : Option Addr} {xs : List Int} (r : RI h A xs) (e : HE h h') {i : Nat} (hi : i < xs.length) : inB h'.nx (elp A 1 i) := RV.inb r e (by simpa using hi)

/-- The headers of a table's rows. -/
def rowsV (R : Nat → Option Addr) (T : List (List Int)) : List Value := (List.range T.length).map fun i => .slice (R i) (row T i).length 1
@[simp] theorem rowsV_len (R : Nat → Option Addr) (T : List (List Int)) : (rowsV R T).length = T.length := by simp [rowsV]
theorem rowsV_get {R : Nat → Option Addr} {T : List (List Int)} {i : Nat} (h : i < T.length) : (rowsV R T)[i]? = some (.slice (R i) (row T i).length 1) := by simp [rowsV, h]

structure RT (h : Hp) (A : Option Addr) (R : Nat → Option Addr) (T : List (List Int)) : Prop where
  top : RV h A (rowsV R T)
  rows : ∀ i, i < T.length → RI h (R i) (row T i)

theorem RT.mono {h h' : Hp} {A : Option Addr} {R : Nat → Option Addr} {T : List (List Int)} (r : RT h A R T) (e : HE h h') : RT h' A R T := ⟨r.top.mono e, fun i hi => (r.rows i hi).mono e⟩
theorem RT.rd {h : Hp} {A : Option Addr} {R : Nat → Option Addr} {T : List (List Int)} (r : RT h A R T) {e : Int} {i n c : Nat} {k : IntKind} (he : e = i) (hn : n = T.length) (hi : i < T.length) :
    indexAddrV 1 (.slice A n c) (.int k e) = some (elp A 1 i) ∧ ∀ h', HE h h' → ldV 1 false h' (elp A 1 i) = some (.slice (R i) (row T i).length 1) :=
  RV.rd r.top he (by simpa using hn) (rowsV_get hi)

theorem RT.inb {h h' : Hp} {A : Option Addr} {R : Nat → Option Addr} {T : List (List Int)} (r : RT h A R T) (e : HE h h') {i : Nat} (hi : i < T.length) : inB h'.nx (elp A 1 i) := RV.inb r.top e (by simpa using hi)

/-- A slice whose block is known. -/
theorem RV.of_block {h : Hp} {b : Nat} {x : Blk} {vs : List Value} (hb : b < h.nx) (hx : h.bk b = some x) (hc : x.cells = vs) : RV h (some ⟨b, 0, none⟩) vs :=
  fun _ => ⟨b, 0, x, rfl, hb, hx, fun i v hv => by rw [hc, Nat.zero_add]; exact hv⟩
theorem RI.of_block {h : Hp} {b : Nat} {xs : List Int} {t : TypeId} {rw_ : Bool} (hb : b < h.nx) (hx : h.bk b = some ⟨mapI xs, t, rw_⟩) : RI h (some ⟨b, 0, none⟩) xs := RV.of_block hb hx rfl

/-- A list of numbers in memory of its own. -/
def FI (ty : TypeId) (h h' : Hp) (v : Value) (xs : List Int) : Prop :=
  ∃ b, v = .slice (some ⟨b, 0, none⟩) xs.length 1 ∧ h.nx ≤ b ∧ b < h'.nx ∧ h'.bk b = some ⟨mapI xs, ty, true⟩

theorem FI.ri {ty : TypeId} {h h' : Hp} {v : Value} {xs : List Int} (f : FI ty h h' v xs) : ∃ b, v = .slice (some ⟨b, 0, none⟩) xs.length 1 ∧ RI h' (some ⟨b, 0, none⟩) xs := by
  obtain ⟨b, h1, h2, h3, h4⟩ := f
  exact ⟨b, h1, RI.of_block h3 h4⟩

theorem RV.cells {h h' : Hp} {A : Option Addr} {vs : List Value} (r : RV h A vs) (e : HE h h') {n c : Nat} (hn : n = vs.length) : (n = 0 → A = none ∨ True) → h'.cellsOf 1 (.slice A n c) = some vs := by
  intro _
  subst hn
  by_cases h0 : vs.length = 0
  · have : vs = [] := List.eq_nil_of_length_eq_zero h0
    subst this
    cases A <;> simp [Hp.cellsOf]
  · obtain ⟨b, o, x, rfl, h2, h3, h4⟩ := r (by omega)
    have hlen : o + vs.length ≤ x.cells.length := by
      have h5 := h4 (vs.length - 1) vs[vs.length - 1] (by simp [show vs.length - 1 < vs.length by omega])
      have := (List.getElem?_eq_some_iff.1 h5).1
      omega
    simp only [Hp.cellsOf, if_neg h0, e.bk b h2, h3, Option.bind_some, Nat.mul_one]
    rw [if_pos hlen]
    congr 1
    apply List.ext_getElem?
    intro i
    rw [List.getElem?_take]
    split
    · rename_i hi
      rw [List.getElem?_drop, List.getElem?_eq_getElem hi]
      exact h4 i _ (List.getElem?_eq_getElem hi)
    · rename_i hi; exact (List.getElem?_eq_none (by omega)).symm

/-- Appending to a row of the function's own. -/
theorem appendV_own {y : TypeId} {h : Hp} {b n c m : Nat} {vs us : List Value} {B : Option Addr} (hb : h.bk b = some ⟨vs, y, true⟩) (hn : n = vs.length) (hu : h.cellsOf 1 (.slice B m c) = some us) (hm : m = us.length) (h0 : 0 < m)
    (hmax : n + m ≤ sizeMax) : appendV y 1 h (.slice (some ⟨b, 0, none⟩) n 1) (.slice B m c) = some (.slice (some ⟨h.nx, 0, none⟩) (n + m) 1, (h.set b none).new ⟨vs ++ us, y, true⟩) := by
  subst hn
  have hne : ¬ (vs = [] ∧ m = 0) := fun h => by omega
  simp [appendV, XK.eff, hne, hu, hb, hmax]

theorem appendV_push {y y' : TypeId} {h : Hp} {b n : Nat} {vs : List Value} (hb : h.bk b = some ⟨vs, y, true⟩) (hlt : b < h.nx) (hn : n = vs.length) (hmax : n + 1 ≤ sizeMax) (v : Value) :
    appendV y 1 (h.new ⟨[v], y', true⟩) (.slice (some ⟨b, 0, none⟩) n 1) (.slice (some ⟨h.nx, 0, none⟩) 1 1) =
      some (.slice (some ⟨h.nx + 1, 0, none⟩) (n + 1) 1, ((h.new ⟨[v], y', true⟩).set b none).new ⟨vs ++ [v], y, true⟩) := by
  have h1 : (h.new ⟨[v], y', true⟩).bk b = some ⟨vs, y, true⟩ := by rw [new_bk, if_neg (by omega)]; exact hb
  have h2 : (h.new ⟨[v], y', true⟩).cellsOf 1 (.slice (some ⟨h.nx, 0, none⟩) 1 1) = some [v] := by simp [Hp.cellsOf]
  rw [appendV_own h1 hn h2 rfl (by omega) hmax]; rfl

@[simp] theorem makeV_int (y : TypeId) (w : Nat) (z : List Value) (h : Hp) (k : IntKind) (n : Int) : makeV y w z h (.int k n) =
    if 0 ≤ n ∧ n ≤ sizeMax then some (.slice (some ⟨h.nx, 0, none⟩) n.toNat w, h.new ⟨reps n.toNat z, y, true⟩) else none := rfl

@[simp] theorem rowFill_nil (w : Nat) (cs : List Value) : rowFill w cs [] = some cs := rfl
@[simp] theorem reps_zero (z : List Value) : reps 0 z = [] := rfl
@[simp] theorem reps_one' (z : List Value) : reps 1 z = z := by simp [reps]
@[simp] theorem rowFill_one (z : Value) (k : IntKind) (a : Int) : rowFill 1 [z] [(0, .int k a)] = some [.int k a] := by simp [rowFill]
@[simp] theorem rowFill_oneS (z : Value) (A : Option Addr) (n c : Nat) : rowFill 1 [z] [(0, .slice A n c)] = some [.slice A n c] := by simp [rowFill]
@[simp] theorem rowFill_oneA (z z' a b : Value) : rowFill 2 [z, z'] [(0, .agg #[a, b])] = some [a, b] := by simp [rowFill]

/-- A new block: what follows of it. -/
theorem newB_i {h : Hp} {x : Blk} {K : Nat → Hp → Prop} (hk : ∀ b h', b = h.nx → h'.nx = h.nx + 1 → HE h h' → h'.bk b = some x → K b h') : newB h x K :=
  ⟨hk _ _ rfl rfl ⟨Nat.le_succ _, fun b hb => by rw [new_bk, if_neg (by omega)]⟩ (by simp)⟩

/-- One block is changed. -/
structure Upd (b : Nat) (x : Option Blk) (h h' : Hp) : Prop where
  nx : h'.nx = h.nx
  bk : h'.bk b = x
  ot : ∀ c, c ≠ b → h'.bk c = h.bk c

theorem Upd.he {b : Nat} {x : Option Blk} {h0 h h' : Hp} (u : Upd b x h h') (e : HE h0 h) (hb : h0.nx ≤ b) : HE h0 h' :=
  ⟨by rw [u.nx]; exact e.nx, fun c hc => by rw [u.ot c (by omega)]; exact e.bk c hc⟩

theorem Upd.keep {b n : Nat} {x : Option Blk} {h h' : Hp} (u : Upd b x h h') (hb : n ≤ b) : keepB n h h' := fun c hc => u.ot c (by omega)
theorem HE.keep {h h' : Hp} (e : HE h h') : keepB h.nx h h' := fun c hc => e.bk c hc
theorem HE.keep' {h h' : Hp} {n : Nat} (e : HE h h') (hn : n ≤ h.nx) : keepB n h h' := fun c hc => e.bk c (by omega)
theorem keepB_refl (n : Nat) (h : Hp) : keepB n h h := fun _ _ => rfl

theorem store1 {h : Hp} {b o : Nat} {x : Blk} {v : Value} {K : Hp → Prop} (hb : h.bk b = some x) (ho : o < x.cells.length) (hw : x.rw = true) (hv : v.cells.toList = [v]) (h1 : one v = true)
    (hk : ∀ h', Upd b (some ⟨x.cells.set o v, x.elem, true⟩) h h' → K h') : bindO (storeV 1 h v (.pointer (some ⟨b, o, none⟩))) K := by
  have e : storeV 1 h v (.pointer (some ⟨b, o, none⟩)) = some (h.set b (some ⟨x.cells.set o v, x.elem, true⟩)) := by
    rw [storeV_ptr, hb]; simp only [Option.bind_some, hv]
    rw [if_pos ⟨rfl, by simp [h1], by omega, hw⟩, splice_one ho]
  rw [e]; exact hk _ ⟨rfl, by simp, fun c hc => by rw [set_bk, if_neg hc]⟩

/-- A number is stored in a list of the function's own. -/
theorem storeI {h : Hp} {b i : Nat} {y : TypeId} {xs : List Int} {v : Int} {K : Hp → Prop} (hb : h.bk b = some ⟨mapI xs, y, true⟩) (hi : i < xs.length)
    (hk : ∀ h', Upd b (some ⟨mapI (xs.set i v), y, true⟩) h h' → K h') : bindO (storeV 1 h (.int .i64 v) (.pointer (some ⟨b, i, none⟩))) K :=
  store1 hb (by simpa using hi) rfl rfl rfl fun h' u => hk h' (by rw [mapI_set] at u; exact u)

/-- The whole of a box is stored. -/
theorem storeBox2 {h : Hp} {b : Nat} {x : Blk} {v0 v1 : Value} {K : Hp → Prop} (hb : h.bk b = some x) (hl : x.cells.length = 2) (hw : x.rw = true) (h0 : one v0 = true) (h1 : one v1 = true)
    (hk : ∀ h', Upd b (some ⟨[v0, v1], x.elem, true⟩) h h' → K h') : bindO (storeV 2 h (.agg #[v0, v1]) (.pointer (some ⟨b, 0, none⟩))) K := by
  have e : storeV 2 h (.agg #[v0, v1]) (.pointer (some ⟨b, 0, none⟩)) = some (h.set b (some ⟨[v0, v1], x.elem, true⟩)) := by
    have hs : splice x.cells 0 [v0, v1] = [v0, v1] := by simp [splice, List.drop_eq_nil_of_le, hl]
    rw [storeV_ptr, hb]
    simp [h0, h1, hl, hw, hs]
  rw [e]; exact hk _ ⟨rfl, by simp, fun c hc => by rw [set_bk, if_neg hc]⟩

/-- Reading a list of the function's own. -/
theorem ownRd {h : Hp} {b i n c : Nat} {y : TypeId} {xs : List Int} (hb : h.bk b = some ⟨mapI xs, y, true⟩) (hi : i < xs.length) : ldV 1 false h (.pointer (some ⟨b, i, none⟩)) = some (.int .i64 (gt xs i)) := by
  rw [ldV_ptr, hb]; simp only [Option.bind_some, mapI_len]
  rw [if_pos (by omega)]; simpa using mapI_get hi
theorem ixOwn {b i n c : Nat} {k : IntKind} {e : Int} (he : e = i) (hi : i < n) : indexAddrV 1 (.slice (some ⟨b, 0, none⟩) n c) (.int k e) = some (.pointer (some ⟨b, i, none⟩)) := by
  subst he; simp [indexAddrV, idx_nat hi, addOff]
/-- A box of two cells. -/
theorem box2 {h : Hp} {b : Nat} {v0 v1 : Value} {y : TypeId} (hb : h.bk b = some ⟨[v0, v1], y, true⟩) :
    ldV 2 true h (.pointer (some ⟨b, 0, none⟩)) = some (.agg #[v0, v1]) ∧ ldV 1 false h (.pointer (some ⟨b, 0, none⟩)) = some v0 ∧ ldV 1 false h (.pointer (some ⟨b, 1, none⟩)) = some v1 := by
  refine ⟨?_, ?_, ?_⟩ <;> rw [ldV_ptr, hb] <;> simp

/-- A list was moved to a new block, with more at its end. -/
structure App (b b' : Nat) (x : Blk) (h h' : Hp) : Prop where
  ge : h.nx ≤ b'
  lt : b' < h'.nx
  bk : h'.bk b' = some x
  ot : ∀ c, c < h.nx → c ≠ b → h'.bk c = h.bk c

theorem App.he {b b' : Nat} {x : Blk} {h0 h h' : Hp} (u : App b b' x h h') (e : HE h0 h) (hb : h0.nx ≤ b) : HE h0 h' :=
  ⟨by have := u.ge; have := u.lt; have := e.nx; omega, fun c hc => by rw [u.ot c (by have := e.nx; omega) (by omega)]; exact e.bk c hc⟩

/-- One element is put at the end. -/
theorem push1 {h : Hp} {b n : Nat} {y y' : TypeId} {vs : List Value} {v : Value} {K : Value → Hp → Prop} (hb : h.bk b = some ⟨vs, y, true⟩) (hlt : b < h.nx) (hn : n = vs.length) (hmax : n + 1 ≤ sizeMax)
    (hk : ∀ b' h', App b b' ⟨vs ++ [v], y, true⟩ h h' → K (.slice (some ⟨b', 0, none⟩) (n + 1) 1) h') :
    newB h ⟨[v], y', true⟩ fun b1 h1 => bindVH (appendV y 1 h1 (.slice (some ⟨b, 0, none⟩) n 1) (.slice (some ⟨b1, 0, none⟩) 1 1)) K := by
  refine ⟨?_⟩
  show bindVH (appendV y 1 (h.new ⟨[v], y', true⟩) (.slice (some ⟨b, 0, none⟩) n 1) (.slice (some ⟨h.nx, 0, none⟩) 1 1)) K
  rw [appendV_push hb hlt hn hmax v, bindVH_some]
  refine hk _ _ ⟨by omega, by simp, by simp, fun c hc hne => ?_⟩
  rw [new_bk, if_neg (by simp; omega), set_bk, if_neg hne, new_bk, if_neg (by omega)]

theorem pushI {h : Hp} {b n : Nat} {y y' : TypeId} {xs : List Int} {v : Int} {K : Value → Hp → Prop} (hb : h.bk b = some ⟨mapI xs, y, true⟩) (hlt : b < h.nx) (hn : n = xs.length) (hmax : n + 1 ≤ sizeMax)
    (hk : ∀ b' h', App b b' ⟨mapI (xs ++ [v]), y, true⟩ h h' → K (.slice (some ⟨b', 0, none⟩) (n + 1) 1) h') :
    newB h ⟨[.int .i64 v], y', true⟩ fun b1 h1 => bindVH (appendV y 1 h1 (.slice (some ⟨b, 0, none⟩) n 1) (.slice (some ⟨b1, 0, none⟩) 1 1)) K :=
  push1 hb hlt (by simpa using hn) hmax fun b' h' u => hk b' h' (by rw [← mapI_snoc]; exact u)

@[simp] theorem rowV_nil (w : Nat) (z : List Value) : rowV w 0 z [] = some [] := by simp [rowV]
@[simp] theorem rowV_int (z : Value) (k : IntKind) (a : Int) : rowV 1 1 [z] [(0, .int k a)] = some [.int k a] := by simp [rowV]
@[simp] theorem rowV_slice (z : Value) (A : Option Addr) (n c : Nat) : rowV 1 1 [z] [(0, .slice A n c)] = some [.slice A n c] := by simp [rowV]
end XM

/- Sums and lists of numbers modulo M, in plain Lean. -/
namespace XM

/-- f 0 + .. + f (n - 1). -/
def sm : Nat → (Nat → Int) → Int
  | 0, _ => 0
  | n + 1, f => sm n f + f n

theorem sm_succ (n : Nat) (f : Nat → Int) : sm (n + 1) f = sm n f + f n := rfl
theorem sm_congr {n : Nat} {f g : Nat → Int} (h : ∀ i, i < n → f i = g i) : sm n f = sm n g := by
  induction n with
  | zero => rfl
  | succ n ih => rw [sm_succ, sm_succ, ih fun i hi => h i (by omega), h n (by omega)]
theorem sm_zero {n : Nat} {f : Nat → Int} (h : ∀ i, i < n → f i = 0) : sm n f = 0 := by
  induction n with
  | zero => rfl
  | succ n ih => rw [sm_succ, ih fun i hi => h i (by omega), h n (by omega)]; rfl
theorem sm_more {n m : Nat} {f : Nat → Int} (h : n ≤ m) (hz : ∀ i, n ≤ i → i < m → f i = 0) : sm m f = sm n f := by
  induction m with
  | zero => have : n = 0 := by omega
            subst this; rfl
  | succ m ih =>
    by_cases hn : n = m + 1
    · subst hn; rfl
    · rw [sm_succ, ih (by omega) fun i h1 h2 => hz i h1 (by omega), hz m (by omega) (by omega), Int.add_zero]

def tab (n : Nat) (f : Nat → Int) : List Int := (List.range n).map f
@[simp] theorem tab_len (n : Nat) (f : Nat → Int) : (tab n f).length = n := by simp [tab]
theorem gt_tab {n i : Nat} {f : Nat → Int} (h : i < n) : gt (tab n f) i = f i := by simp [gt, tab, h]
theorem gt_tab' {n i : Nat} {f : Nat → Int} : gt (tab n f) i = if i < n then f i else 0 := by
  split
  · rename_i h; exact gt_tab h
  · exact gt_out (by simp; omega)
theorem eq_tab {n : Nat} {xs : List Int} {f : Nat → Int} (hl : xs.length = n) (h : ∀ i, i < n → gt xs i = f i) : xs = tab n f :=
  gt_ext (by simp [hl]) fun i hi => by rw [gt_tab (by omega)]; exact h i (by omega)
theorem tab_congr {n : Nat} {f g : Nat → Int} (h : ∀ i, i < n → f i = g i) : tab n f = tab n g := by
  unfold tab; exact List.map_congr_left fun i hi => h i (by simpa using hi)
theorem tab_self (xs : List Int) : tab xs.length (gt xs) = xs := (eq_tab rfl fun _ _ => rfl).symm
theorem rep_tab (n : Nat) : List.replicate n (0 : Int) = tab n fun _ => 0 := eq_tab (by simp) fun i hi => by simp [gt, hi]

/-- All numbers of a list are numbers modulo m. -/
def Nums (m : Int) (xs : List Int) : Prop := ∀ x ∈ xs, 0 ≤ x ∧ x < m
instance (m : Int) (xs : List Int) : Decidable (Nums m xs) := inferInstanceAs (Decidable (∀ x ∈ xs, 0 ≤ x ∧ x < m))
theorem Nums.gt {m : Int} {xs : List Int} (hn : Nums m xs) {i : Nat} (hi : i < xs.length) : 0 ≤ gt xs i ∧ gt xs i < m := hn _ (gt_mem hi)
theorem Nums.gt0 {m : Int} {xs : List Int} (hn : Nums m xs) (hm : 0 < m) (i : Nat) : 0 ≤ XM.gt xs i ∧ XM.gt xs i < m := by
  by_cases hi : i < xs.length
  · exact hn.gt hi
  · rw [gt_out (by omega)]; omega
theorem nums_iff {m : Int} {xs : List Int} : Nums m xs ↔ ∀ i, i < xs.length → 0 ≤ gt xs i ∧ gt xs i < m := by
  refine ⟨fun h i hi => h.gt hi, fun h x hx => ?_⟩
  obtain ⟨i, hi, rfl⟩ := List.getElem_of_mem hx
  have := h i hi; rwa [gt_get hi] at this
theorem nums_take {m : Int} {xs : List Int} {i : Nat} (hi : i < xs.length) : Nums m (xs.take (i + 1)) ↔ Nums m (xs.take i) ∧ (0 ≤ XM.gt xs i ∧ XM.gt xs i < m) := by
  rw [List.take_succ_eq_append_getElem hi, gt_get hi]
  simp only [Nums, List.mem_append, List.mem_singleton]
  constructor
  · intro h; exact ⟨fun x hx => h x (.inl hx), h _ (.inr rfl)⟩
  · rintro ⟨h1, h2⟩ x (hx | rfl)
    · exact h1 x hx
    · exact h2
theorem nums_tab {m : Int} (hm : 0 < m) {n : Nat} {f : Nat → Int} : Nums m (tab n fun i => f i % m) := by
  rw [nums_iff]; intro i hi
  rw [gt_tab (by simpa using hi)]
  exact ⟨Int.emod_nonneg _ (by omega), Int.emod_lt_of_pos _ hm⟩
theorem mod_bd {m : Int} (hm : 0 < m) (x : Int) : 0 ≤ x % m ∧ x % m < m := ⟨Int.emod_nonneg _ (by omega), Int.emod_lt_of_pos _ hm⟩

/-- Products of numbers stay small. -/
theorem mul_bd {m a b : Int} (hm2 : m ≤ 3000000000) (ha : 0 ≤ a ∧ a < m) (hb : 0 ≤ b ∧ b < m) : 0 ≤ a * b ∧ a * b ≤ 9000000000000000000 := by
  refine ⟨Int.mul_nonneg ha.1 hb.1, ?_⟩
  have h1 : a * b ≤ a * 3000000000 := Int.mul_le_mul_of_nonneg_left (by omega) ha.1
  omega

/-- The coefficient at n of a product. -/
def cv (a b : List Int) (n : Nat) : Int := sm (n + 1) fun i => gt a i * gt b (n - i)
/-- The product of two lists of coefficients, with n coefficients. -/
def mulL (m : Int) (n : Nat) (a b : List Int) : List Int := tab n fun k => cv a b k % m
def addL (m : Int) (a b : List Int) : List Int := tab a.length fun i => (gt a i + gt b i) % m
def scaleL (m c : Int) (a : List Int) : List Int := tab a.length fun i => (c * gt a i) % m
@[simp] theorem mulL_len (m : Int) (n : Nat) (a b : List Int) : (mulL m n a b).length = n := by simp [mulL]
@[simp] theorem addL_len (m : Int) (a b : List Int) : (addL m a b).length = a.length := by simp [addL]
@[simp] theorem scaleL_len (m c : Int) (a : List Int) : (scaleL m c a).length = a.length := by simp [scaleL]

/-- The part of a product's coefficient that the first i factors give. -/
def ps (a b : List Int) (i n : Nat) : Int := sm i fun j => if j ≤ n then gt a j * gt b (n - j) else 0
theorem ps_zero (a b : List Int) (n : Nat) : ps a b 0 n = 0 := rfl
theorem ps_succ (a b : List Int) (i n : Nat) : ps a b (i + 1) n = ps a b i n + if i ≤ n then gt a i * gt b (n - i) else 0 := rfl
theorem ps_full {a b : List Int} {i n : Nat} (h : ∀ j, i ≤ j → j ≤ n → gt a j = 0) : ps a b i n = cv a b n := by
  unfold ps cv
  rcases Nat.le_total i (n + 1) with hi | hi
  · rw [sm_more hi (f := fun j => gt a j * gt b (n - j)) fun j h1 h2 => by simp [h j h1 (by omega)]]
    exact sm_congr fun j hj => by rw [if_pos (by omega)]
  · rw [sm_more hi fun j h1 h2 => by rw [if_neg (by omega)]]
    exact sm_congr fun j hj => by rw [if_pos (by omega)]

end XM

/- The numbers of functions and types in this translation, and the program. -/
namespace XM
open Go
/-- The program of this seat. -/
noncomputable abbrev PP : Program := Go.Proofs.Tryz.prog
noncomputable abbrev FF : FuncId → Option XFunc := compiled PP
def n_gosem_cut : FuncId := 1
def n_gosem_cut_init : FuncId := 2
def n_laws_FnMultiples : FuncId := 3
def n_laws_big : FuncId := 4
def n_spec_DrawMultipleOf : FuncId := 5
def n_impl_MultipleOf : FuncId := 6
def n_spec_MultipleOf : FuncId := 7
def n_laws_series9 : FuncId := 8
def n_spec_DrawMultipleUnder : FuncId := 9
def n_impl_MultipleUnder : FuncId := 10
def n_spec_MultipleUnder : FuncId := 11
def n_impl_InverseOfLaw : FuncId := 12
def n_spec_InverseOfLaw : FuncId := 13
def n_impl_OppositeUnder : FuncId := 14
def n_impl_SumUnder : FuncId := 15
def n_laws_roll : FuncId := 16
def n_laws_dice_below : FuncId := 17
def n_spec_l01From : FuncId := 18
def n_spec_l04Spoil : FuncId := 19
def n_spec_l01Pick : FuncId := 20
def n_impl_IsLaw : FuncId := 21
def n_impl_isMultiple : FuncId := 22
def n_impl_Plane_multiple : FuncId := 23
def n_impl_variable : FuncId := 24
def n_impl_Plane_degree : FuncId := 25
def n_spec_l04Is : FuncId := 26
def n_spec_l01In : FuncId := 27
def n_spec_l02Make : FuncId := 28
def n_spec_l04Of : FuncId := 29
def n_laws_likeInts : FuncId := 30
def n_spec_l04Curves : FuncId := 31
def n_impl_curved : FuncId := 32
def n_spec_l04Code : FuncId := 33
def n_spec_l04Multiple : FuncId := 34
def n_impl_Plane_inverse : FuncId := 35
def n_spec_l04Inverse : FuncId := 36
def n_impl_Plane_opposite : FuncId := 37
def n_impl_Plane_curves : FuncId := 38
def n_spec_l04Draw : FuncId := 39
def n_spec_l01Next : FuncId := 40
def n_impl_IsPlane : FuncId := 41
def n_impl_axioms : FuncId := 42
def n_impl_in : FuncId := 43
def n_impl_zero : FuncId := 44
def n_spec_l03Is : FuncId := 45
def n_spec_l04Fault : FuncId := 46
def n_impl_all_impl_Series : FuncId := 47
def n_impl_IsSeries : FuncId := 48
def n_impl_Plane_isCurveOf : FuncId := 49
def n_spec_l02Is : FuncId := 50
def n_spec_l02Curve : FuncId := 51
def n_spec_l04Opposite : FuncId := 52
def n_spec_l03Put : FuncId := 53
def n_impl_mod : FuncId := 54
def n_impl_Series_compose : FuncId := 55
def n_impl_Series_constant : FuncId := 56
def n_impl_Series_powers : FuncId := 57
def n_impl_Series_plus : FuncId := 58
def n_impl_Series_times : FuncId := 59
def n_impl_Series_scaled : FuncId := 60
def n_spec_l04With : FuncId := 61
def n_spec_l04DrawModulus : FuncId := 62
def n_impl_IsModulus : FuncId := 63
def n_impl_all_int64 : FuncId := 64
def n_impl_IsPlane_c1 : FuncId := 65
def n_impl_isNumber : FuncId := 66
def n_impl_defectsOf : FuncId := 67
def n_spec_l01Modulus : FuncId := 68
def n_spec_l01Numbers : FuncId := 69
def n_spec_l03After : FuncId := 70
def n_spec_l04Column : FuncId := 71
def n_slices_ContainsFunc_Limpl_Series_impl_Series : FuncId := 72
def n_impl_all_impl_Series__c1 : FuncId := 73
def n_impl_Series_degree : FuncId := 74
def n_impl_IsSeries_c1 : FuncId := 75
def n_impl_Plane_fits : FuncId := 76
def n_spec_l02Compose : FuncId := 77
def n_spec_l03Powers : FuncId := 78
def n_spec_l02Add : FuncId := 79
def n_spec_l02Scale : FuncId := 80
def n_spec_l02Times : FuncId := 81
def n_impl_mul : FuncId := 82
def n_spec_l08Any : FuncId := 83
def n_spec_l06Conjugate : FuncId := 84
def n_spec_l04DrawCurve : FuncId := 85
def n_spec_l03Make : FuncId := 86
def n_slices_ContainsFunc_Lint64_int64 : FuncId := 87
def n_impl_all_int64__c1 : FuncId := 88
def n_impl_Plane_powers : FuncId := 89
def n_impl_defectsOf_c1 : FuncId := 90
def n_spec_l03Zero : FuncId := 91
def n_spec_l03Times : FuncId := 92
def n_slices_IndexFunc_Limpl_Series_impl_Series : FuncId := 93
def n_math_bits_Mul64 : FuncId := 94
def n_math_bits_Div64 : FuncId := 95
def n_spec_l08Multiplicative : FuncId := 96
def n_spec_l08Tangent : FuncId := 97
def n_spec_l08Euler : FuncId := 98
def n_spec_l08Weierstrass : FuncId := 99
def n_spec_l08DrawList : FuncId := 100
def n_spec_l02Reverse : FuncId := 101
def n_spec_l03Both2 : FuncId := 102
def n_slices_IndexFunc_Lint64_int64 : FuncId := 103
def n_impl_Plane_number : FuncId := 104
def n_impl_Plane_times : FuncId := 105
def n_math_bits_LeadingZeros64 : FuncId := 106
def n_spec_l08Root : FuncId := 107
def n_spec_l08Series : FuncId := 108
def n_spec_l03Add : FuncId := 109
def n_spec_l03Scale : FuncId := 110
def n_spec_l03Turn : FuncId := 111
def n_spec_l02Inverse : FuncId := 112
def n_spec_l01Inv : FuncId := 113
def n_spec_l03Both : FuncId := 114
def n_impl_emptyPlane : FuncId := 115
def n_math_bits_Len64 : FuncId := 116
def n_spec_l01Mod : FuncId := 117
def y_t_int64 : TypeId := 2
def y_t_int : TypeId := 3
def y_t_LLint64 : TypeId := 24
def y_t_impl_Plane : TypeId := 26
def y_t_Lint64 : TypeId := 29
def y_t_impl_Series : TypeId := 31
def y_t_func_int64_bool : TypeId := 50
def y_t_laws_dice_68 : TypeId := 68
def y_t_spec_l01Source_71 : TypeId := 71
def y_t_func_impl_Series_bool : TypeId := 74
def y_t_Limpl_Plane : TypeId := 99
end XM

/- Functions of the translation in the code of the abstract machine. -/
namespace XM
open Go
def y_gosem_cut_init : YC :=
  .region false [⟨some 0, .call (.c (.func (.func n_gosem_cut) #[] #[])) [], none, false⟩]
theorem c_gosem_cut_init : FF n_gosem_cut_init = some ⟨1, y_gosem_cut_init.er, []⟩ := by kernel_rfl
def p_gosem_cut_init (h : Hp) (R : Value → Hp → Prop) : Prop :=
  CallW FF n_gosem_cut [] h fun v0 h1 => R (.tuple #[]) h1
theorem w_gosem_cut_init {h : Hp} {R : Value → Hp → Prop} (H : p_gosem_cut_init  h R) : CallW FF n_gosem_cut_init [] h R := callV_fin c_gosem_cut_init (Eq.mp (by kernel_rfl) H)
def l_laws_FnMultiples_0 : YC :=
  .seq (.seq (.region false [⟨some 137, .p (.move  (.t 24)), none, false⟩,
     ⟨some 138, .p (.fieldAddr 1 (.t 22)), none, false⟩,
     ⟨some 139, .load 1 false (.t 138), none, false⟩,
     ⟨some 140, .p (.len  (.t 139)), none, false⟩,
     ⟨some 141, .p (.bin .lss (.t 137) (.t 140)), none, false⟩])
   (.cond (.t 141)
    (.skip)
    (.exit 0)))
  (.seq (.block 1
    (.seq (.region false [⟨some 144, .p (.fieldAddr 1 (.t 22)), none, false⟩,
       ⟨some 145, .load 1 false (.t 144), none, false⟩,
       ⟨some 146, .p (.move  (.t 24)), none, false⟩,
       ⟨some 147, .p (.indexAddr 1 (.t 145) (.t 146)), none, false⟩,
       ⟨some 148, .load 1 false (.t 147), none, false⟩,
       ⟨some 149, .p (.bin .neq (.t 148) (.c (.int .i64 0))), none, false⟩])
     (.cond (.t 149)
      (.seq (.region false [⟨some 2, .p (.move  (.c (.bool false))), none, false⟩])
       (.ret))
      (.skip))))
   (.region false [⟨some 142, .p (.move  (.t 24)), none, false⟩,
     ⟨some 143, .p (.bin .add (.t 142) (.c (.int .i64 1))), none, false⟩,
     ⟨some 24, .p (.move  (.t 143)), none, false⟩]))
def q_laws_FnMultiples_0 (a0 a3 a4 a5 a6 a22 a24 : Value) (h : Hp) (K K0 K1 : Kont) : Prop :=
  bindO (fieldAddrV 1 a22) fun v138 => bindO (ldV 1 false h v138) fun v139 => bindO (lenV  v139) fun v140 => bindO (binV .lss a24 v140) fun v141 => condM v141 (bindO (fieldAddrV 1 a22) fun v144 => bindO (ldV 1 false h v144) fun v145 => bindO (indexAddrV 1 v145 a24) fun v147 => bindO (ldV 1 false h v147) fun v148 => bindO (binV .neq v148 (.int .i64 0)) fun v149 => condM v149 (K1 [(.bool false)] h) (bindO (binV .add a24 (.int .i64 1)) fun v143 => K [a0, a3, a4, a5, a6, a22, v143] h)) (K0 [a0, a3, a4, a5, a6] h)
theorem wl_laws_FnMultiples_0 {a0 a3 a4 a5 a6 a22 a24 : Value} {h : Hp} {K K0 K1 : Kont} (H : q_laws_FnMultiples_0 a0 a3 a4 a5 a6 a22 a24 h K K0 K1) : ∀ e : Env, [e 0, e 3, e 4, e 5, e 6, e 22, e 24] = [a0, a3, a4, a5, a6, a22, a24] → V FF l_laws_FnMultiples_0 (qsel [0, 3, 4, 5, 6, 22, 24] K [(.exit 0, [0, 3, 4, 5, 6], K0), (.ret, [2], K1)]) ⟨e, h⟩ := by
  intro e he; cases he; exact Eq.mp (by kernel_rfl) H
def y_laws_FnMultiples : YC :=
  .seq (.region false [⟨some 2, .p (.move  (.c (.bool false))), none, false⟩])
  (.seq (.seq (.region false [⟨some 40, .p (.move  (.t 0)), none, false⟩,
      ⟨some 41, .call (.c (.func (.func n_laws_big) #[] #[])) [(.t 40)], none, false⟩])
    (.cond (.t 41)
     (.seq (.region false [⟨some 2, .p (.move  (.c (.bool true))), none, false⟩])
      (.ret))
     (.skip)))
   (.seq (.region false [⟨some 43, .p (.move  (.t 0)), none, false⟩,
      ⟨some 44, .call (.c (.func (.func n_spec_DrawMultipleOf) #[] #[])) [(.t 43)], none, false⟩,
      ⟨some 42, .p (.move  (.t 44)), none, false⟩,
      ⟨some 45, .p (.extract (.t 42) 0), none, false⟩,
      ⟨some 46, .p (.extract (.t 42) 1), none, false⟩,
      ⟨some 3, .box y_t_impl_Plane 2 (.c (.agg #[.int .i64 0, .slice none 0 0])), none, false⟩,
      ⟨none, .store 2 (.t 3) (.t 45), none, false⟩,
      ⟨some 4, .p (.move  (.t 46)), none, false⟩])
    (.seq (.region false [⟨some 48, .load 2 true (.t 3), none, false⟩,
       ⟨some 49, .p (.move  (.t 4)), none, false⟩,
       ⟨some 50, .call (.c (.func (.func n_impl_MultipleOf) #[] #[])) [(.t 48), (.t 49)], none, false⟩,
       ⟨some 47, .p (.move  (.t 50)), none, false⟩,
       ⟨some 51, .p (.extract (.t 47) 0), none, false⟩,
       ⟨some 52, .p (.extract (.t 47) 1), none, false⟩,
       ⟨some 5, .box y_t_impl_Series 2 (.c (.agg #[.int .i64 0, .slice none 0 0])), none, false⟩,
       ⟨none, .store 2 (.t 5) (.t 51), none, false⟩,
       ⟨some 6, .p (.move  (.t 52)), none, false⟩])
     (.seq (.seq (.region false [⟨some 54, .load 2 true (.t 3), none, false⟩,
         ⟨some 55, .p (.move  (.t 4)), none, false⟩,
         ⟨some 56, .call (.c (.func (.func n_spec_MultipleOf) #[] #[])) [(.t 54), (.t 55)], none, false⟩,
         ⟨some 53, .p (.move  (.t 56)), none, false⟩,
         ⟨some 57, .p (.extract (.t 53) 0), none, false⟩,
         ⟨some 58, .p (.extract (.t 53) 1), none, false⟩,
         ⟨some 7, .box y_t_impl_Series 2 (.c (.agg #[.int .i64 0, .slice none 0 0])), none, false⟩,
         ⟨none, .store 2 (.t 7) (.t 57), none, false⟩,
         ⟨some 8, .p (.move  (.t 58)), none, false⟩])
       (.seq (.region false [⟨some 59, .p (.move  (.t 6)), none, false⟩,
          ⟨some 60, .p (.move  (.t 8)), none, false⟩,
          ⟨some 61, .p (.bin .neq (.t 59) (.t 60)), none, false⟩,
          ⟨some 62, .p (.move  (.t 61)), none, false⟩,
          ⟨some 63, .load 2 true (.t 5), some (62, false), false⟩,
          ⟨some 64, .load 2 true (.t 7), some (62, false), false⟩,
          ⟨some 65, .call (.c (.func (.func n_laws_series9) #[] #[])) [(.t 63), (.t 64)], some (62, false), false⟩,
          ⟨some 66, .p (.un .not (.t 65)), some (62, false), false⟩,
          ⟨some 67, .p (.pick  (.t 62) (.c (.bool true)) (.t 66)), none, false⟩])
        (.cond (.t 67)
         (.seq (.region false [⟨some 2, .p (.move  (.c (.bool false))), none, false⟩])
          (.ret))
         (.skip))))
      (.seq (.region false [⟨some 69, .p (.move  (.t 0)), none, false⟩,
         ⟨some 70, .call (.c (.func (.func n_spec_DrawMultipleUnder) #[] #[])) [(.t 69)], none, false⟩,
         ⟨some 68, .p (.move  (.t 70)), none, false⟩,
         ⟨some 71, .p (.extract (.t 68) 0), none, false⟩,
         ⟨some 72, .p (.extract (.t 68) 1), none, false⟩,
         ⟨some 73, .p (.extract (.t 68) 2), none, false⟩,
         ⟨some 9, .box y_t_impl_Plane 2 (.c (.agg #[.int .i64 0, .slice none 0 0])), none, false⟩,
         ⟨some 11, .box y_t_impl_Series 2 (.c (.agg #[.int .i64 0, .slice none 0 0])), none, false⟩,
         ⟨none, .store 2 (.t 9) (.t 71), none, false⟩,
         ⟨some 10, .p (.move  (.t 72)), none, false⟩,
         ⟨none, .store 2 (.t 11) (.t 73), none, false⟩])
       (.seq (.region false [⟨some 75, .load 2 true (.t 9), none, false⟩,
          ⟨some 76, .p (.move  (.t 10)), none, false⟩,
          ⟨some 77, .load 2 true (.t 11), none, false⟩,
          ⟨some 78, .call (.c (.func (.func n_impl_MultipleUnder) #[] #[])) [(.t 75), (.t 76), (.t 77)], none, false⟩,
          ⟨some 74, .p (.move  (.t 78)), none, false⟩,
          ⟨some 79, .p (.extract (.t 74) 0), none, false⟩,
          ⟨some 80, .p (.extract (.t 74) 1), none, false⟩,
          ⟨some 12, .box y_t_impl_Series 2 (.c (.agg #[.int .i64 0, .slice none 0 0])), none, false⟩,
          ⟨none, .store 2 (.t 12) (.t 79), none, false⟩,
          ⟨some 13, .p (.move  (.t 80)), none, false⟩])
        (.seq (.seq (.region false [⟨some 82, .load 2 true (.t 9), none, false⟩,
            ⟨some 83, .p (.move  (.t 10)), none, false⟩,
            ⟨some 84, .load 2 true (.t 11), none, false⟩,
            ⟨some 85, .call (.c (.func (.func n_spec_MultipleUnder) #[] #[])) [(.t 82), (.t 83), (.t 84)], none, false⟩,
            ⟨some 81, .p (.move  (.t 85)), none, false⟩,
            ⟨some 86, .p (.extract (.t 81) 0), none, false⟩,
            ⟨some 87, .p (.extract (.t 81) 1), none, false⟩,
            ⟨some 14, .box y_t_impl_Series 2 (.c (.agg #[.int .i64 0, .slice none 0 0])), none, false⟩,
            ⟨none, .store 2 (.t 14) (.t 86), none, false⟩,
            ⟨some 15, .p (.move  (.t 87)), none, false⟩])
          (.seq (.region false [⟨some 88, .p (.move  (.t 13)), none, false⟩,
             ⟨some 89, .p (.move  (.t 15)), none, false⟩,
             ⟨some 90, .p (.bin .neq (.t 88) (.t 89)), none, false⟩,
             ⟨some 91, .p (.move  (.t 90)), none, false⟩,
             ⟨some 92, .load 2 true (.t 12), some (91, false), false⟩,
             ⟨some 93, .load 2 true (.t 14), some (91, false), false⟩,
             ⟨some 94, .call (.c (.func (.func n_laws_series9) #[] #[])) [(.t 92), (.t 93)], some (91, false), false⟩,
             ⟨some 95, .p (.un .not (.t 94)), some (91, false), false⟩,
             ⟨some 96, .p (.pick  (.t 91) (.c (.bool true)) (.t 95)), none, false⟩])
           (.cond (.t 96)
            (.seq (.region false [⟨some 2, .p (.move  (.c (.bool false))), none, false⟩])
             (.ret))
            (.skip))))
         (.seq (.region false [⟨some 98, .load 2 true (.t 3), none, false⟩,
            ⟨some 99, .call (.c (.func (.func n_impl_InverseOfLaw) #[] #[])) [(.t 98)], none, false⟩,
            ⟨some 97, .p (.move  (.t 99)), none, false⟩,
            ⟨some 100, .p (.extract (.t 97) 0), none, false⟩,
            ⟨some 101, .p (.extract (.t 97) 1), none, false⟩,
            ⟨some 16, .box y_t_impl_Series 2 (.c (.agg #[.int .i64 0, .slice none 0 0])), none, false⟩,
            ⟨none, .store 2 (.t 16) (.t 100), none, false⟩,
            ⟨some 17, .p (.move  (.t 101)), none, false⟩])
          (.seq (.seq (.region false [⟨some 103, .load 2 true (.t 3), none, false⟩,
              ⟨some 104, .call (.c (.func (.func n_spec_InverseOfLaw) #[] #[])) [(.t 103)], none, false⟩,
              ⟨some 102, .p (.move  (.t 104)), none, false⟩,
              ⟨some 105, .p (.extract (.t 102) 0), none, false⟩,
              ⟨some 106, .p (.extract (.t 102) 1), none, false⟩,
              ⟨some 18, .box y_t_impl_Series 2 (.c (.agg #[.int .i64 0, .slice none 0 0])), none, false⟩,
              ⟨none, .store 2 (.t 18) (.t 105), none, false⟩,
              ⟨some 19, .p (.move  (.t 106)), none, false⟩])
            (.seq (.region false [⟨some 107, .p (.move  (.t 17)), none, false⟩,
               ⟨some 108, .p (.move  (.t 19)), none, false⟩,
               ⟨some 109, .p (.bin .neq (.t 107) (.t 108)), none, false⟩,
               ⟨some 110, .p (.move  (.t 109)), none, false⟩,
               ⟨some 111, .load 2 true (.t 16), some (110, false), false⟩,
               ⟨some 112, .load 2 true (.t 18), some (110, false), false⟩,
               ⟨some 113, .call (.c (.func (.func n_laws_series9) #[] #[])) [(.t 111), (.t 112)], some (110, false), false⟩,
               ⟨some 114, .p (.un .not (.t 113)), some (110, false), false⟩,
               ⟨some 115, .p (.pick  (.t 110) (.c (.bool true)) (.t 114)), none, false⟩])
             (.cond (.t 115)
              (.seq (.region false [⟨some 2, .p (.move  (.c (.bool false))), none, false⟩])
               (.ret))
              (.skip))))
           (.join [0, 3, 4, 5, 6] (.seq (.region false [⟨some 116, .p (.move  (.t 13)), none, false⟩,
               ⟨some 117, .p (.bin .eql (.t 116) (.c (.int .i64 0))), none, false⟩])
             (.cond (.t 117)
              (.seq (.region false [⟨some 119, .load 2 true (.t 9), none, false⟩,
                 ⟨some 120, .load 2 true (.t 11), none, false⟩,
                 ⟨some 121, .call (.c (.func (.func n_impl_OppositeUnder) #[] #[])) [(.t 119), (.t 120)], none, false⟩,
                 ⟨some 118, .p (.move  (.t 121)), none, false⟩,
                 ⟨some 122, .p (.extract (.t 118) 0), none, false⟩,
                 ⟨some 123, .p (.extract (.t 118) 1), none, false⟩,
                 ⟨some 20, .box y_t_impl_Series 2 (.c (.agg #[.int .i64 0, .slice none 0 0])), none, false⟩,
                 ⟨none, .store 2 (.t 20) (.t 122), none, false⟩,
                 ⟨some 21, .p (.move  (.t 123)), none, false⟩])
               (.seq (.region false [⟨some 125, .load 2 true (.t 9), none, false⟩,
                  ⟨some 126, .load 2 true (.t 11), none, false⟩,
                  ⟨some 127, .load 2 true (.t 20), none, false⟩,
                  ⟨some 128, .call (.c (.func (.func n_impl_SumUnder) #[] #[])) [(.t 125), (.t 126), (.t 127)], none, false⟩,
                  ⟨some 124, .p (.move  (.t 128)), none, false⟩,
                  ⟨some 129, .p (.extract (.t 124) 0), none, false⟩,
                  ⟨some 130, .p (.extract (.t 124) 1), none, false⟩,
                  ⟨some 22, .box y_t_impl_Series 2 (.c (.agg #[.int .i64 0, .slice none 0 0])), none, false⟩,
                  ⟨none, .store 2 (.t 22) (.t 129), none, false⟩,
                  ⟨some 23, .p (.move  (.t 130)), none, false⟩])
                (.seq (.seq (.region false [⟨some 131, .p (.move  (.t 21)), none, false⟩,
                    ⟨some 132, .p (.bin .neq (.t 131) (.c (.int .i64 0))), none, false⟩,
                    ⟨some 133, .p (.move  (.t 132)), none, false⟩,
                    ⟨some 134, .p (.move  (.t 23)), some (133, false), false⟩,
                    ⟨some 135, .p (.bin .neq (.t 134) (.c (.int .i64 0))), some (133, false), false⟩,
                    ⟨some 136, .p (.pick  (.t 133) (.c (.bool true)) (.t 135)), none, false⟩])
                  (.cond (.t 136)
                   (.seq (.region false [⟨some 2, .p (.move  (.c (.bool false))), none, false⟩])
                    (.ret))
                   (.skip)))
                 (.seq (.region false [⟨some 24, .p (.move  (.c (.int .i64 0))), none, false⟩])
                  (.block 0
                   (.loop [0, 3, 4, 5, 6, 22, 24] [(.exit 0, [0, 3, 4, 5, 6]), (.ret, [2])] l_laws_FnMultiples_0))))))
              (.skip)))
            (.seq (.seq (.region false [⟨some 150, .p (.move  (.t 6)), none, false⟩,
                ⟨some 151, .p (.bin .neq (.t 150) (.c (.int .i64 0))), none, false⟩])
              (.cond (.t 151)
               (.seq (.region false [⟨some 152, .p (.fieldAddr 1 (.t 5)), none, false⟩,
                  ⟨some 153, .load 1 false (.t 152), none, false⟩,
                  ⟨some 154, .p (.len  (.t 153)), none, false⟩,
                  ⟨some 155, .p (.bin .eql (.t 154) (.c (.int .i64 0))), none, false⟩,
                  ⟨some 2, .p (.move  (.t 155)), none, false⟩])
                (.ret))
               (.skip)))
             (.seq (.seq (.region false [⟨some 156, .p (.fieldAddr 1 (.t 5)), none, false⟩,
                 ⟨some 157, .load 1 false (.t 156), none, false⟩,
                 ⟨some 158, .p (.indexAddr 1 (.t 157) (.c (.int .i64 0))), none, false⟩,
                 ⟨some 159, .load 1 false (.t 158), none, false⟩,
                 ⟨some 160, .p (.bin .neq (.t 159) (.c (.int .i64 0))), none, false⟩,
                 ⟨some 161, .p (.move  (.t 160)), none, false⟩,
                 ⟨some 162, .p (.fieldAddr 1 (.t 5)), some (161, false), false⟩,
                 ⟨some 163, .load 1 false (.t 162), some (161, false), false⟩,
                 ⟨some 164, .p (.indexAddr 1 (.t 163) (.c (.int .i64 1))), some (161, false), false⟩,
                 ⟨some 165, .load 1 false (.t 164), some (161, false), false⟩,
                 ⟨some 166, .p (.move  (.t 4)), some (161, false), false⟩,
                 ⟨some 167, .p (.fieldAddr 0 (.t 3)), some (161, false), false⟩,
                 ⟨some 168, .load 1 false (.t 167), some (161, false), false⟩,
                 ⟨some 169, .p (.bin .rem (.t 166) (.t 168)), some (161, false), false⟩,
                 ⟨some 170, .p (.fieldAddr 0 (.t 3)), some (161, false), false⟩,
                 ⟨some 171, .load 1 false (.t 170), some (161, false), false⟩,
                 ⟨some 172, .p (.bin .add (.t 169) (.t 171)), some (161, false), false⟩,
                 ⟨some 173, .p (.fieldAddr 0 (.t 3)), some (161, false), false⟩,
                 ⟨some 174, .load 1 false (.t 173), some (161, false), false⟩,
                 ⟨some 175, .p (.bin .rem (.t 172) (.t 174)), some (161, false), false⟩,
                 ⟨some 176, .p (.bin .neq (.t 165) (.t 175)), some (161, false), false⟩,
                 ⟨some 177, .p (.pick  (.t 161) (.c (.bool true)) (.t 176)), none, false⟩])
               (.cond (.t 177)
                (.seq (.region false [⟨some 2, .p (.move  (.c (.bool false))), none, false⟩])
                 (.ret))
                (.skip)))
              (.seq (.region false [⟨some 178, .p (.move  (.t 0)), none, false⟩,
                 ⟨some 179, .call (.c (.func (.func n_laws_roll) #[] #[])) [(.t 178), (.c (.int .u64 7002))], none, false⟩,
                 ⟨some 25, .p (.move  (.t 179)), none, false⟩])
               (.seq (.region false [⟨some 180, .p (.move  (.t 25)), none, false⟩,
                  ⟨some 181, .call (.c (.func (.func n_laws_dice_below) #[] #[])) [(.t 180), (.c (.int .i64 60))], none, false⟩,
                  ⟨some 182, .p (.bin .sub (.t 181) (.c (.int .i64 20))), none, false⟩,
                  ⟨some 183, .p (.move  (.t 25)), none, false⟩,
                  ⟨some 184, .call (.c (.func (.func n_laws_dice_below) #[] #[])) [(.t 183), (.c (.int .i64 60))], none, false⟩,
                  ⟨some 185, .p (.bin .sub (.t 184) (.c (.int .i64 20))), none, false⟩,
                  ⟨some 26, .p (.move  (.t 182)), none, false⟩,
                  ⟨some 27, .p (.move  (.t 185)), none, false⟩])
                (.seq (.region false [⟨some 187, .load 2 true (.t 3), none, false⟩,
                   ⟨some 188, .p (.move  (.t 26)), none, false⟩,
                   ⟨some 189, .call (.c (.func (.func n_impl_MultipleOf) #[] #[])) [(.t 187), (.t 188)], none, false⟩,
                   ⟨some 186, .p (.move  (.t 189)), none, false⟩,
                   ⟨some 190, .p (.extract (.t 186) 0), none, false⟩,
                   ⟨some 191, .p (.extract (.t 186) 1), none, false⟩,
                   ⟨some 28, .box y_t_impl_Series 2 (.c (.agg #[.int .i64 0, .slice none 0 0])), none, false⟩,
                   ⟨none, .store 2 (.t 28) (.t 190), none, false⟩,
                   ⟨some 29, .p (.move  (.t 191)), none, false⟩])
                 (.seq (.region false [⟨some 193, .load 2 true (.t 3), none, false⟩,
                    ⟨some 194, .p (.move  (.t 27)), none, false⟩,
                    ⟨some 195, .call (.c (.func (.func n_impl_MultipleOf) #[] #[])) [(.t 193), (.t 194)], none, false⟩,
                    ⟨some 192, .p (.move  (.t 195)), none, false⟩,
                    ⟨some 196, .p (.extract (.t 192) 0), none, false⟩,
                    ⟨some 197, .p (.extract (.t 192) 1), none, false⟩,
                    ⟨some 30, .box y_t_impl_Series 2 (.c (.agg #[.int .i64 0, .slice none 0 0])), none, false⟩,
                    ⟨none, .store 2 (.t 30) (.t 196), none, false⟩,
                    ⟨some 31, .p (.move  (.t 197)), none, false⟩])
                  (.seq (.region false [⟨some 199, .load 2 true (.t 3), none, false⟩,
                     ⟨some 200, .p (.move  (.t 26)), none, false⟩,
                     ⟨some 201, .p (.move  (.t 27)), none, false⟩,
                     ⟨some 202, .p (.bin .add (.t 200) (.t 201)), none, false⟩,
                     ⟨some 203, .call (.c (.func (.func n_impl_MultipleOf) #[] #[])) [(.t 199), (.t 202)], none, false⟩,
                     ⟨some 198, .p (.move  (.t 203)), none, false⟩,
                     ⟨some 204, .p (.extract (.t 198) 0), none, false⟩,
                     ⟨some 205, .p (.extract (.t 198) 1), none, false⟩,
                     ⟨some 32, .box y_t_impl_Series 2 (.c (.agg #[.int .i64 0, .slice none 0 0])), none, false⟩,
                     ⟨none, .store 2 (.t 32) (.t 204), none, false⟩,
                     ⟨some 33, .p (.move  (.t 205)), none, false⟩])
                   (.seq (.region false [⟨some 207, .load 2 true (.t 3), none, false⟩,
                      ⟨some 208, .load 2 true (.t 28), none, false⟩,
                      ⟨some 209, .load 2 true (.t 30), none, false⟩,
                      ⟨some 210, .call (.c (.func (.func n_impl_SumUnder) #[] #[])) [(.t 207), (.t 208), (.t 209)], none, false⟩,
                      ⟨some 206, .p (.move  (.t 210)), none, false⟩,
                      ⟨some 211, .p (.extract (.t 206) 0), none, false⟩,
                      ⟨some 212, .p (.extract (.t 206) 1), none, false⟩,
                      ⟨some 34, .box y_t_impl_Series 2 (.c (.agg #[.int .i64 0, .slice none 0 0])), none, false⟩,
                      ⟨none, .store 2 (.t 34) (.t 211), none, false⟩,
                      ⟨some 35, .p (.move  (.t 212)), none, false⟩])
                    (.seq (.region false [⟨some 214, .load 2 true (.t 3), none, false⟩,
                       ⟨some 215, .p (.move  (.t 26)), none, false⟩,
                       ⟨some 216, .p (.move  (.t 27)), none, false⟩,
                       ⟨some 217, .p (.bin .mul (.t 215) (.t 216)), none, false⟩,
                       ⟨some 218, .call (.c (.func (.func n_impl_MultipleOf) #[] #[])) [(.t 214), (.t 217)], none, false⟩,
                       ⟨some 213, .p (.move  (.t 218)), none, false⟩,
                       ⟨some 219, .p (.extract (.t 213) 0), none, false⟩,
                       ⟨some 220, .p (.extract (.t 213) 1), none, false⟩,
                       ⟨some 36, .box y_t_impl_Series 2 (.c (.agg #[.int .i64 0, .slice none 0 0])), none, false⟩,
                       ⟨none, .store 2 (.t 36) (.t 219), none, false⟩,
                       ⟨some 37, .p (.move  (.t 220)), none, false⟩])
                     (.seq (.region false [⟨some 222, .load 2 true (.t 3), none, false⟩,
                        ⟨some 223, .p (.move  (.t 26)), none, false⟩,
                        ⟨some 224, .load 2 true (.t 30), none, false⟩,
                        ⟨some 225, .call (.c (.func (.func n_impl_MultipleUnder) #[] #[])) [(.t 222), (.t 223), (.t 224)], none, false⟩,
                        ⟨some 221, .p (.move  (.t 225)), none, false⟩,
                        ⟨some 226, .p (.extract (.t 221) 0), none, false⟩,
                        ⟨some 227, .p (.extract (.t 221) 1), none, false⟩,
                        ⟨some 38, .box y_t_impl_Series 2 (.c (.agg #[.int .i64 0, .slice none 0 0])), none, false⟩,
                        ⟨none, .store 2 (.t 38) (.t 226), none, false⟩,
                        ⟨some 39, .p (.move  (.t 227)), none, false⟩])
                      (.seq (.region false [⟨some 228, .p (.move  (.t 29)), none, false⟩,
                         ⟨some 229, .p (.bin .eql (.t 228) (.c (.int .i64 0))), none, false⟩,
                         ⟨some 230, .p (.move  (.t 229)), none, false⟩,
                         ⟨some 231, .p (.move  (.t 31)), some (230, true), false⟩,
                         ⟨some 232, .p (.bin .eql (.t 231) (.c (.int .i64 0))), some (230, true), false⟩,
                         ⟨some 233, .p (.pick  (.t 230) (.t 232) (.c (.bool false))), none, false⟩,
                         ⟨some 234, .p (.move  (.t 233)), none, false⟩,
                         ⟨some 235, .p (.move  (.t 33)), some (234, true), false⟩,
                         ⟨some 236, .p (.bin .eql (.t 235) (.c (.int .i64 0))), some (234, true), false⟩,
                         ⟨some 237, .p (.pick  (.t 234) (.t 236) (.c (.bool false))), none, false⟩,
                         ⟨some 238, .p (.move  (.t 237)), none, false⟩,
                         ⟨some 239, .p (.move  (.t 35)), some (238, true), false⟩,
                         ⟨some 240, .p (.bin .eql (.t 239) (.c (.int .i64 0))), some (238, true), false⟩,
                         ⟨some 241, .p (.pick  (.t 238) (.t 240) (.c (.bool false))), none, false⟩,
                         ⟨some 242, .p (.move  (.t 241)), none, false⟩,
                         ⟨some 243, .p (.move  (.t 37)), some (242, true), false⟩,
                         ⟨some 244, .p (.bin .eql (.t 243) (.c (.int .i64 0))), some (242, true), false⟩,
                         ⟨some 245, .p (.pick  (.t 242) (.t 244) (.c (.bool false))), none, false⟩,
                         ⟨some 246, .p (.move  (.t 245)), none, false⟩,
                         ⟨some 247, .p (.move  (.t 39)), some (246, true), false⟩,
                         ⟨some 248, .p (.bin .eql (.t 247) (.c (.int .i64 0))), some (246, true), false⟩,
                         ⟨some 249, .p (.pick  (.t 246) (.t 248) (.c (.bool false))), none, false⟩,
                         ⟨some 250, .p (.move  (.t 249)), none, false⟩,
                         ⟨some 251, .load 2 true (.t 32), some (250, true), false⟩,
                         ⟨some 252, .load 2 true (.t 34), some (250, true), false⟩,
                         ⟨some 253, .call (.c (.func (.func n_laws_series9) #[] #[])) [(.t 251), (.t 252)], some (250, true), false⟩,
                         ⟨some 254, .p (.pick  (.t 250) (.t 253) (.c (.bool false))), none, false⟩,
                         ⟨some 255, .p (.move  (.t 254)), none, false⟩,
                         ⟨some 256, .load 2 true (.t 36), some (255, true), false⟩,
                         ⟨some 257, .load 2 true (.t 38), some (255, true), false⟩,
                         ⟨some 258, .call (.c (.func (.func n_laws_series9) #[] #[])) [(.t 256), (.t 257)], some (255, true), false⟩,
                         ⟨some 259, .p (.pick  (.t 255) (.t 258) (.c (.bool false))), none, false⟩,
                         ⟨some 2, .p (.move  (.t 259)), none, false⟩])
                       (.ret))))))))))))))))))))))
theorem c_laws_FnMultiples : FF n_laws_FnMultiples = some ⟨260, y_laws_FnMultiples.er, [.tmp 2]⟩ := by kernel_rfl
def p_laws_FnMultiples (a0 : Value) (h : Hp) (R : Value → Hp → Prop) : Prop :=
  CallW FF n_laws_big [a0] h fun v41 h1 => condM v41 (R (.bool true) h1) (CallW FF n_spec_DrawMultipleOf [a0] h1 fun v44 h2 => bindO (extractV 0 v44) fun v45 => bindO (extractV 1 v44) fun v46 => bindO (boxV 2 (.agg #[.int .i64 0, .slice none 0 0])) fun c3 => newB h2 ⟨c3, y_t_impl_Plane, true⟩ fun b3 h3 => bindO (storeV 2 h3 v45 (.pointer (some ⟨b3, 0, none⟩))) fun h4 => bindO (ldV 2 true h4 (.pointer (some ⟨b3, 0, none⟩))) fun v48 => CallW FF n_impl_MultipleOf [v48, v46] h4 fun v50 h5 => bindO (extractV 0 v50) fun v51 => bindO (extractV 1 v50) fun v52 => bindO (boxV 2 (.agg #[.int .i64 0, .slice none 0 0])) fun c5 => newB h5 ⟨c5, y_t_impl_Series, true⟩ fun b5 h6 => bindO (storeV 2 h6 v51 (.pointer (some ⟨b5, 0, none⟩))) fun h7 => bindO (ldV 2 true h7 (.pointer (some ⟨b3, 0, none⟩))) fun v54 => CallW FF n_spec_MultipleOf [v54, v46] h7 fun v56 h8 => bindO (extractV 0 v56) fun v57 => bindO (extractV 1 v56) fun v58 => bindO (boxV 2 (.agg #[.int .i64 0, .slice none 0 0])) fun c7 => newB h8 ⟨c7, y_t_impl_Series, true⟩ fun b7 h9 => bindO (storeV 2 h9 v57 (.pointer (some ⟨b7, 0, none⟩))) fun h10 => bindO (binV .neq v52 v58) fun v61 => condM v61 (R (.bool false) h10) (bindO (ldV 2 true h10 (.pointer (some ⟨b5, 0, none⟩))) fun v63 => bindO (ldV 2 true h10 (.pointer (some ⟨b7, 0, none⟩))) fun v64 => CallW FF n_laws_series9 [v63, v64] h10 fun v65 h11 => bindO (unV .not v65) fun v66 => condM v66 (R (.bool false) h11) (CallW FF n_spec_DrawMultipleUnder [a0] h11 fun v70 h12 => bindO (extractV 0 v70) fun v71 => bindO (extractV 1 v70) fun v72 => bindO (extractV 2 v70) fun v73 => bindO (boxV 2 (.agg #[.int .i64 0, .slice none 0 0])) fun c9 => newB h12 ⟨c9, y_t_impl_Plane, true⟩ fun b9 h13 => bindO (boxV 2 (.agg #[.int .i64 0, .slice none 0 0])) fun c11 => newB h13 ⟨c11, y_t_impl_Series, true⟩ fun b11 h14 => bindO (storeV 2 h14 v71 (.pointer (some ⟨b9, 0, none⟩))) fun h15 => bindO (storeV 2 h15 v73 (.pointer (some ⟨b11, 0, none⟩))) fun h16 => bindO (ldV 2 true h16 (.pointer (some ⟨b9, 0, none⟩))) fun v75 => bindO (ldV 2 true h16 (.pointer (some ⟨b11, 0, none⟩))) fun v77 => CallW FF n_impl_MultipleUnder [v75, v72, v77] h16 fun v78 h17 => bindO (extractV 0 v78) fun v79 => bindO (extractV 1 v78) fun v80 => bindO (boxV 2 (.agg #[.int .i64 0, .slice none 0 0])) fun c12 => newB h17 ⟨c12, y_t_impl_Series, true⟩ fun b12 h18 => bindO (storeV 2 h18 v79 (.pointer (some ⟨b12, 0, none⟩))) fun h19 => bindO (ldV 2 true h19 (.pointer (some ⟨b9, 0, none⟩))) fun v82 => bindO (ldV 2 true h19 (.pointer (some ⟨b11, 0, none⟩))) fun v84 => CallW FF n_spec_MultipleUnder [v82, v72, v84] h19 fun v85 h20 => bindO (extractV 0 v85) fun v86 => bindO (extractV 1 v85) fun v87 => bindO (boxV 2 (.agg #[.int .i64 0, .slice none 0 0])) fun c14 => newB h20 ⟨c14, y_t_impl_Series, true⟩ fun b14 h21 => bindO (storeV 2 h21 v86 (.pointer (some ⟨b14, 0, none⟩))) fun h22 => bindO (binV .neq v80 v87) fun v90 => condM v90 (R (.bool false) h22) (bindO (ldV 2 true h22 (.pointer (some ⟨b12, 0, none⟩))) fun v92 => bindO (ldV 2 true h22 (.pointer (some ⟨b14, 0, none⟩))) fun v93 => CallW FF n_laws_series9 [v92, v93] h22 fun v94 h23 => bindO (unV .not v94) fun v95 => condM v95 (R (.bool false) h23) (bindO (ldV 2 true h23 (.pointer (some ⟨b3, 0, none⟩))) fun v98 => CallW FF n_impl_InverseOfLaw [v98] h23 fun v99 h24 => bindO (extractV 0 v99) fun v100 => bindO (extractV 1 v99) fun v101 => bindO (boxV 2 (.agg #[.int .i64 0, .slice none 0 0])) fun c16 => newB h24 ⟨c16, y_t_impl_Series, true⟩ fun b16 h25 => bindO (storeV 2 h25 v100 (.pointer (some ⟨b16, 0, none⟩))) fun h26 => bindO (ldV 2 true h26 (.pointer (some ⟨b3, 0, none⟩))) fun v103 => CallW FF n_spec_InverseOfLaw [v103] h26 fun v104 h27 => bindO (extractV 0 v104) fun v105 => bindO (extractV 1 v104) fun v106 => bindO (boxV 2 (.agg #[.int .i64 0, .slice none 0 0])) fun c18 => newB h27 ⟨c18, y_t_impl_Series, true⟩ fun b18 h28 => bindO (storeV 2 h28 v105 (.pointer (some ⟨b18, 0, none⟩))) fun h29 => bindO (binV .neq v101 v106) fun v109 => condM v109 (R (.bool false) h29) (bindO (ldV 2 true h29 (.pointer (some ⟨b16, 0, none⟩))) fun v111 => bindO (ldV 2 true h29 (.pointer (some ⟨b18, 0, none⟩))) fun v112 => CallW FF n_laws_series9 [v111, v112] h29 fun v113 h30 => bindO (unV .not v113) fun v114 => condM v114 (R (.bool false) h30) (JN (fun J => bindO (binV .eql v80 (.int .i64 0)) fun v117 => condM v117 (bindO (ldV 2 true h30 (.pointer (some ⟨b9, 0, none⟩))) fun v119 => bindO (ldV 2 true h30 (.pointer (some ⟨b11, 0, none⟩))) fun v120 => CallW FF n_impl_OppositeUnder [v119, v120] h30 fun v121 h31 => bindO (extractV 0 v121) fun v122 => bindO (extractV 1 v121) fun v123 => bindO (boxV 2 (.agg #[.int .i64 0, .slice none 0 0])) fun c20 => newB h31 ⟨c20, y_t_impl_Series, true⟩ fun b20 h32 => bindO (storeV 2 h32 v122 (.pointer (some ⟨b20, 0, none⟩))) fun h33 => bindO (ldV 2 true h33 (.pointer (some ⟨b9, 0, none⟩))) fun v125 => bindO (ldV 2 true h33 (.pointer (some ⟨b11, 0, none⟩))) fun v126 => bindO (ldV 2 true h33 (.pointer (some ⟨b20, 0, none⟩))) fun v127 => CallW FF n_impl_SumUnder [v125, v126, v127] h33 fun v128 h34 => bindO (extractV 0 v128) fun v129 => bindO (extractV 1 v128) fun v130 => bindO (boxV 2 (.agg #[.int .i64 0, .slice none 0 0])) fun c22 => newB h34 ⟨c22, y_t_impl_Series, true⟩ fun b22 h35 => bindO (storeV 2 h35 v129 (.pointer (some ⟨b22, 0, none⟩))) fun h36 => bindO (binV .neq v123 (.int .i64 0)) fun v132 => condM v132 (R (.bool false) h36) (bindO (binV .neq v130 (.int .i64 0)) fun v135 => condM v135 (R (.bool false) h36) (LP FF (YC.er l_laws_FnMultiples_0) [0, 3, 4, 5, 6, 22, 24] [(.exit 0, [0, 3, 4, 5, 6], fun vs h37 => ∀ e : Env, [e 0, e 3, e 4, e 5, e 6] = vs → J [(e 0), (e 3), (e 4), (e 5), (e 6)] h37), (.ret, [2], fun vs h37 => ∀ e : Env, [e 2] = vs → R (e 2) h37)] [a0, (.pointer (some ⟨b3, 0, none⟩)), v46, (.pointer (some ⟨b5, 0, none⟩)), v52, (.pointer (some ⟨b22, 0, none⟩)), (.int .i64 0)] h36))) (J [a0, (.pointer (some ⟨b3, 0, none⟩)), v46, (.pointer (some ⟨b5, 0, none⟩)), v52] h30)) fun vs h31 => ∀ e : Env, [e 0, e 3, e 4, e 5, e 6] = vs → bindO (binV .neq (e 6) (.int .i64 0)) fun v151 => condM v151 (bindO (fieldAddrV 1 (e 5)) fun v152 => bindO (ldV 1 false h31 v152) fun v153 => bindO (lenV  v153) fun v154 => bindO (binV .eql v154 (.int .i64 0)) fun v155 => R v155 h31) (bindO (fieldAddrV 1 (e 5)) fun v156 => bindO (ldV 1 false h31 v156) fun v157 => bindO (indexAddrV 1 v157 (.int .i64 0)) fun v158 => bindO (ldV 1 false h31 v158) fun v159 => bindO (binV .neq v159 (.int .i64 0)) fun v160 => condM v160 (R (.bool false) h31) (bindO (fieldAddrV 1 (e 5)) fun v162 => bindO (ldV 1 false h31 v162) fun v163 => bindO (indexAddrV 1 v163 (.int .i64 1)) fun v164 => bindO (ldV 1 false h31 v164) fun v165 => bindO (fieldAddrV 0 (e 3)) fun v167 => bindO (ldV 1 false h31 v167) fun v168 => bindO (binV .rem (e 4) v168) fun v169 => bindO (fieldAddrV 0 (e 3)) fun v170 => bindO (ldV 1 false h31 v170) fun v171 => bindO (binV .add v169 v171) fun v172 => bindO (fieldAddrV 0 (e 3)) fun v173 => bindO (ldV 1 false h31 v173) fun v174 => bindO (binV .rem v172 v174) fun v175 => bindO (binV .neq v165 v175) fun v176 => condM v176 (R (.bool false) h31) (CallW FF n_laws_roll [(e 0), (.int .u64 7002)] h31 fun v179 h32 => CallW FF n_laws_dice_below [v179, (.int .i64 60)] h32 fun v181 h33 => bindO (binV .sub v181 (.int .i64 20)) fun v182 => CallW FF n_laws_dice_below [v179, (.int .i64 60)] h33 fun v184 h34 => bindO (binV .sub v184 (.int .i64 20)) fun v185 => bindO (ldV 2 true h34 (e 3)) fun v187 => CallW FF n_impl_MultipleOf [v187, v182] h34 fun v189 h35 => bindO (extractV 0 v189) fun v190 => bindO (extractV 1 v189) fun v191 => bindO (boxV 2 (.agg #[.int .i64 0, .slice none 0 0])) fun c28 => newB h35 ⟨c28, y_t_impl_Series, true⟩ fun b28 h36 => bindO (storeV 2 h36 v190 (.pointer (some ⟨b28, 0, none⟩))) fun h37 => bindO (ldV 2 true h37 (e 3)) fun v193 => CallW FF n_impl_MultipleOf [v193, v185] h37 fun v195 h38 => bindO (extractV 0 v195) fun v196 => bindO (extractV 1 v195) fun v197 => bindO (boxV 2 (.agg #[.int .i64 0, .slice none 0 0])) fun c30 => newB h38 ⟨c30, y_t_impl_Series, true⟩ fun b30 h39 => bindO (storeV 2 h39 v196 (.pointer (some ⟨b30, 0, none⟩))) fun h40 => bindO (ldV 2 true h40 (e 3)) fun v199 => bindO (binV .add v182 v185) fun v202 => CallW FF n_impl_MultipleOf [v199, v202] h40 fun v203 h41 => bindO (extractV 0 v203) fun v204 => bindO (extractV 1 v203) fun v205 => bindO (boxV 2 (.agg #[.int .i64 0, .slice none 0 0])) fun c32 => newB h41 ⟨c32, y_t_impl_Series, true⟩ fun b32 h42 => bindO (storeV 2 h42 v204 (.pointer (some ⟨b32, 0, none⟩))) fun h43 => bindO (ldV 2 true h43 (e 3)) fun v207 => bindO (ldV 2 true h43 (.pointer (some ⟨b28, 0, none⟩))) fun v208 => bindO (ldV 2 true h43 (.pointer (some ⟨b30, 0, none⟩))) fun v209 => CallW FF n_impl_SumUnder [v207, v208, v209] h43 fun v210 h44 => bindO (extractV 0 v210) fun v211 => bindO (extractV 1 v210) fun v212 => bindO (boxV 2 (.agg #[.int .i64 0, .slice none 0 0])) fun c34 => newB h44 ⟨c34, y_t_impl_Series, true⟩ fun b34 h45 => bindO (storeV 2 h45 v211 (.pointer (some ⟨b34, 0, none⟩))) fun h46 => bindO (ldV 2 true h46 (e 3)) fun v214 => bindO (binV .mul v182 v185) fun v217 => CallW FF n_impl_MultipleOf [v214, v217] h46 fun v218 h47 => bindO (extractV 0 v218) fun v219 => bindO (extractV 1 v218) fun v220 => bindO (boxV 2 (.agg #[.int .i64 0, .slice none 0 0])) fun c36 => newB h47 ⟨c36, y_t_impl_Series, true⟩ fun b36 h48 => bindO (storeV 2 h48 v219 (.pointer (some ⟨b36, 0, none⟩))) fun h49 => bindO (ldV 2 true h49 (e 3)) fun v222 => bindO (ldV 2 true h49 (.pointer (some ⟨b30, 0, none⟩))) fun v224 => CallW FF n_impl_MultipleUnder [v222, v182, v224] h49 fun v225 h50 => bindO (extractV 0 v225) fun v226 => bindO (extractV 1 v225) fun v227 => bindO (boxV 2 (.agg #[.int .i64 0, .slice none 0 0])) fun c38 => newB h50 ⟨c38, y_t_impl_Series, true⟩ fun b38 h51 => bindO (storeV 2 h51 v226 (.pointer (some ⟨b38, 0, none⟩))) fun h52 => bindO (binV .eql v191 (.int .i64 0)) fun v229 => condM v229 (bindO (binV .eql v197 (.int .i64 0)) fun v232 => condM v232 (bindO (binV .eql v205 (.int .i64 0)) fun v236 => condM v236 (bindO (binV .eql v212 (.int .i64 0)) fun v240 => condM v240 (bindO (binV .eql v220 (.int .i64 0)) fun v244 => condM v244 (bindO (binV .eql v227 (.int .i64 0)) fun v248 => condM v248 (bindO (ldV 2 true h52 (.pointer (some ⟨b32, 0, none⟩))) fun v251 => bindO (ldV 2 true h52 (.pointer (some ⟨b34, 0, none⟩))) fun v252 => CallW FF n_laws_series9 [v251, v252] h52 fun v253 h53 => condM v253 (bindO (ldV 2 true h53 (.pointer (some ⟨b36, 0, none⟩))) fun v256 => bindO (ldV 2 true h53 (.pointer (some ⟨b38, 0, none⟩))) fun v257 => CallW FF n_laws_series9 [v256, v257] h53 fun v258 h54 => R v258 h54) (R (.bool false) h53)) (R (.bool false) h52)) (R (.bool false) h52)) (R (.bool false) h52)) (R (.bool false) h52)) (R (.bool false) h52)) (R (.bool false) h52)))))))))))
theorem w_laws_FnMultiples {a0 : Value} {h : Hp} {R : Value → Hp → Prop} (H : p_laws_FnMultiples a0 h R) : CallW FF n_laws_FnMultiples [a0] h R := callV_fin c_laws_FnMultiples (Eq.mp (by kernel_rfl) H)
def y_laws_big : YC :=
  .seq (.region false [⟨some 2, .p (.move  (.c (.bool false))), none, false⟩])
  (.seq (.region false [⟨some 3, .p (.move  (.t 0)), none, false⟩,
     ⟨some 4, .p (.len  (.t 3)), none, false⟩,
     ⟨some 5, .p (.bin .gtr (.t 4) (.c (.int .i64 4096))), none, false⟩,
     ⟨some 2, .p (.move  (.t 5)), none, false⟩])
   (.ret))
theorem c_laws_big : FF n_laws_big = some ⟨6, y_laws_big.er, [.tmp 2]⟩ := by kernel_rfl
def p_laws_big (a0 : Value) (h : Hp) (R : Value → Hp → Prop) : Prop :=
  bindO (lenV  a0) fun v4 => bindO (binV .gtr v4 (.int .i64 4096)) fun v5 => R v5 h
theorem w_laws_big {a0 : Value} {h : Hp} {R : Value → Hp → Prop} (H : p_laws_big a0 h R) : CallW FF n_laws_big [a0] h R := callV_fin c_laws_big (Eq.mp (by kernel_rfl) H)
def y_spec_DrawMultipleOf : YC :=
  .seq (.region false [⟨some 2, .box y_t_impl_Plane 2 (.c (.agg #[.int .i64 0, .slice none 0 0])), none, false⟩,
    ⟨some 3, .p (.move  (.c (.int .i64 0))), none, false⟩])
  (.seq (.region false [⟨some 5, .p (.move  (.t 0)), none, false⟩,
     ⟨some 6, .call (.c (.func (.func n_spec_l01From) #[] #[])) [(.t 5)], none, false⟩,
     ⟨some 4, .p (.move  (.t 6)), none, false⟩])
   (.seq (.region false [⟨some 7, .p (.move  (.t 4)), none, false⟩,
      ⟨some 8, .call (.c (.func (.func n_spec_l04Spoil) #[] #[])) [(.t 7)], none, false⟩,
      ⟨some 9, .p (.move  (.t 4)), none, false⟩,
      ⟨some 10, .mkrow y_t_int64 1 11 [.int .i64 0] [(0, (.c (.int .i64 0))), (1, (.c (.int .i64 1))), (2, (.c (.int .i64 (-1)))), (3, (.c (.int .i64 2))), (4, (.c (.int .i64 3))), (5, (.c (.int .i64 5))), (6, (.c (.int .i64 7))), (7, (.c (.int .i64 12))), (8, (.c (.int .i64 (-7)))), (9, (.c (.int .i64 1000000))), (10, (.c (.int .i64 1000001)))], none, false⟩,
      ⟨some 11, .call (.c (.func (.func n_spec_l01Pick) #[] #[])) [(.t 9), (.t 10)], none, false⟩,
      ⟨none, .store 2 (.t 2) (.t 8), none, false⟩,
      ⟨some 3, .p (.move  (.t 11)), none, false⟩])
    (.ret)))
theorem c_spec_DrawMultipleOf : FF n_spec_DrawMultipleOf = some ⟨12, y_spec_DrawMultipleOf.er, [.cell 2 2 true, .tmp 3]⟩ := by kernel_rfl
def p_spec_DrawMultipleOf (a0 : Value) (h : Hp) (R : Value → Hp → Prop) : Prop :=
  bindO (boxV 2 (.agg #[.int .i64 0, .slice none 0 0])) fun c2 => newB h ⟨c2, y_t_impl_Plane, true⟩ fun b2 h1 => CallW FF n_spec_l01From [a0] h1 fun v6 h2 => CallW FF n_spec_l04Spoil [v6] h2 fun v8 h3 => bindO (rowV 1 11 [.int .i64 0] [(0, (.int .i64 0)), (1, (.int .i64 1)), (2, (.int .i64 (-1))), (3, (.int .i64 2)), (4, (.int .i64 3)), (5, (.int .i64 5)), (6, (.int .i64 7)), (7, (.int .i64 12)), (8, (.int .i64 (-7))), (9, (.int .i64 1000000)), (10, (.int .i64 1000001))]) fun c10 => newB h3 ⟨c10, y_t_int64, true⟩ fun b10 h4 => CallW FF n_spec_l01Pick [v6, (.slice (some ⟨b10, 0, none⟩) 11 1)] h4 fun v11 h5 => bindO (storeV 2 h5 v8 (.pointer (some ⟨b2, 0, none⟩))) fun h6 => bindO (ldV 2 true h6 (.pointer (some ⟨b2, 0, none⟩))) fun r2 => R (.tuple #[r2, v11]) h6
theorem w_spec_DrawMultipleOf {a0 : Value} {h : Hp} {R : Value → Hp → Prop} (H : p_spec_DrawMultipleOf a0 h R) : CallW FF n_spec_DrawMultipleOf [a0] h R := callV_fin c_spec_DrawMultipleOf (Eq.mp (by kernel_rfl) H)
def y_impl_MultipleOf : YC :=
  .seq (.region false [⟨some 2, .box y_t_impl_Plane 2 (.t 0), none, false⟩,
    ⟨some 4, .box y_t_impl_Series 2 (.c (.agg #[.int .i64 0, .slice none 0 0])), none, false⟩,
    ⟨some 5, .p (.move  (.c (.int .i64 0))), none, false⟩])
  (.seq (.block 0
    (.seq (.region false [⟨some 7, .load 2 true (.t 2), none, false⟩,
       ⟨some 8, .call (.c (.func (.func n_impl_IsLaw) #[] #[])) [(.t 7)], none, false⟩,
       ⟨some 9, .p (.un .not (.t 8)), none, false⟩,
       ⟨some 6, .p (.move  (.t 9)), none, false⟩])
     (.cond (.t 6)
      (.seq (.region false [⟨some 10, .p (.build [.int .i64 0, .slice none 0 0] []), none, false⟩,
         ⟨none, .store 2 (.t 4) (.t 10), none, false⟩,
         ⟨some 5, .p (.move  (.c (.int .i64 1))), none, false⟩])
       (.ret))
      (.seq (.region false [⟨some 12, .p (.move  (.t 1)), none, false⟩,
         ⟨some 13, .call (.c (.func (.func n_impl_isMultiple) #[] #[])) [(.t 12)], none, false⟩,
         ⟨some 14, .p (.un .not (.t 13)), none, false⟩,
         ⟨some 11, .p (.move  (.t 14)), none, false⟩])
       (.cond (.t 11)
        (.seq (.region false [⟨some 15, .p (.build [.int .i64 0, .slice none 0 0] []), none, false⟩,
           ⟨none, .store 2 (.t 4) (.t 15), none, false⟩,
           ⟨some 5, .p (.move  (.c (.int .i64 2))), none, false⟩])
         (.ret))
        (.skip))))))
   (.seq (.region true [⟨some 16, .load 2 true (.t 2), none, true⟩,
      ⟨some 17, .p (.move  (.t 1)), none, false⟩,
      ⟨some 18, .p (.fieldAddr 0 (.t 2)), none, false⟩,
      ⟨some 19, .load 1 false (.t 18), none, true⟩,
      ⟨some 20, .load 2 true (.t 2), none, false⟩,
      ⟨some 21, .call (.c (.func (.func n_impl_Plane_degree) #[] #[])) [(.t 20)], none, true⟩,
      ⟨some 22, .call (.c (.func (.func n_impl_variable) #[] #[])) [(.t 19), (.t 21)], none, true⟩,
      ⟨some 23, .call (.c (.func (.func n_impl_Plane_multiple) #[] #[])) [(.t 16), (.t 17), (.t 22)], none, false⟩,
      ⟨none, .store 2 (.t 4) (.t 23), none, false⟩,
      ⟨some 5, .p (.move  (.c (.int .i64 0))), none, false⟩])
    (.ret)))
theorem c_impl_MultipleOf : FF n_impl_MultipleOf = some ⟨24, y_impl_MultipleOf.er, [.cell 4 2 true, .tmp 5]⟩ := by kernel_rfl
def p_impl_MultipleOf (a0 a1 : Value) (h : Hp) (R : Value → Hp → Prop) : Prop :=
  bindO (boxV 2 a0) fun c2 => newB h ⟨c2, y_t_impl_Plane, true⟩ fun b2 h1 => bindO (boxV 2 (.agg #[.int .i64 0, .slice none 0 0])) fun c4 => newB h1 ⟨c4, y_t_impl_Series, true⟩ fun b4 h2 => bindO (ldV 2 true h2 (.pointer (some ⟨b2, 0, none⟩))) fun v7 => CallW FF n_impl_IsLaw [v7] h2 fun v8 h3 => bindO (unV .not v8) fun v9 => condM v9 (bindO ((fillX [.int .i64 0, .slice none 0 0] []).map fun cs => Value.agg cs.toArray) fun v10 => bindO (storeV 2 h3 v10 (.pointer (some ⟨b4, 0, none⟩))) fun h4 => bindO (ldV 2 true h4 (.pointer (some ⟨b4, 0, none⟩))) fun r4 => R (.tuple #[r4, (.int .i64 1)]) h4) (CallW FF n_impl_isMultiple [a1] h3 fun v13 h4 => bindO (unV .not v13) fun v14 => condM v14 (bindO ((fillX [.int .i64 0, .slice none 0 0] []).map fun cs => Value.agg cs.toArray) fun v15 => bindO (storeV 2 h4 v15 (.pointer (some ⟨b4, 0, none⟩))) fun h5 => bindO (ldV 2 true h5 (.pointer (some ⟨b4, 0, none⟩))) fun r4 => R (.tuple #[r4, (.int .i64 2)]) h5) (inB h4.nx (.pointer (some ⟨b2, 0, none⟩)) ∧ (bindO (ldV 2 true h4 (.pointer (some ⟨b2, 0, none⟩))) fun v16 => bindO (fieldAddrV 0 (.pointer (some ⟨b2, 0, none⟩))) fun v18 => inB h4.nx v18 ∧ (bindO (ldV 1 false h4 v18) fun v19 => bindO (ldV 2 true h4 (.pointer (some ⟨b2, 0, none⟩))) fun v20 => CallW FF n_impl_Plane_degree [v20] h4 fun v21 h5 => keepB h4.nx h4 h5 ∧ (CallW FF n_impl_variable [v19, v21] h5 fun v22 h6 => keepB h4.nx h5 h6 ∧ (CallW FF n_impl_Plane_multiple [v16, a1, v22] h6 fun v23 h7 => bindO (storeV 2 h7 v23 (.pointer (some ⟨b4, 0, none⟩))) fun h8 => bindO (ldV 2 true h8 (.pointer (some ⟨b4, 0, none⟩))) fun r4 => R (.tuple #[r4, (.int .i64 0)]) h8))))))
theorem w_impl_MultipleOf {a0 a1 : Value} {h : Hp} {R : Value → Hp → Prop} (H : p_impl_MultipleOf a0 a1 h R) : CallW FF n_impl_MultipleOf [a0, a1] h R := callV_fin c_impl_MultipleOf (Eq.mp (by kernel_rfl) H)
def y_spec_MultipleOf : YC :=
  .seq (.region false [⟨some 2, .box y_t_impl_Plane 2 (.t 0), none, false⟩,
    ⟨some 4, .box y_t_impl_Series 2 (.c (.agg #[.int .i64 0, .slice none 0 0])), none, false⟩,
    ⟨some 5, .p (.move  (.c (.int .i64 0))), none, false⟩])
  (.seq (.block 0
    (.seq (.region false [⟨some 7, .load 2 true (.t 2), none, false⟩,
       ⟨some 8, .call (.c (.func (.func n_spec_l04Is) #[] #[])) [(.t 7)], none, false⟩,
       ⟨some 9, .p (.un .not (.t 8)), none, false⟩,
       ⟨some 6, .p (.move  (.t 9)), none, false⟩])
     (.cond (.t 6)
      (.seq (.region false [⟨some 10, .p (.build [.int .i64 0, .slice none 0 0] []), none, false⟩,
         ⟨none, .store 2 (.t 4) (.t 10), none, false⟩,
         ⟨some 5, .p (.move  (.c (.int .i64 1))), none, false⟩])
       (.ret))
      (.seq (.region false [⟨some 12, .p (.move  (.t 1)), none, false⟩,
         ⟨some 13, .call (.c (.func (.func n_spec_l01In) #[] #[])) [(.t 12), (.c (.int .i64 (-1000000))), (.c (.int .i64 1000000))], none, false⟩,
         ⟨some 14, .p (.un .not (.t 13)), none, false⟩,
         ⟨some 11, .p (.move  (.t 14)), none, false⟩])
       (.cond (.t 11)
        (.seq (.region false [⟨some 15, .p (.build [.int .i64 0, .slice none 0 0] []), none, false⟩,
           ⟨none, .store 2 (.t 4) (.t 15), none, false⟩,
           ⟨some 5, .p (.move  (.c (.int .i64 2))), none, false⟩])
         (.ret))
        (.skip))))))
   (.seq (.region true [⟨some 16, .p (.fieldAddr 0 (.t 2)), none, false⟩,
      ⟨some 17, .load 1 false (.t 16), none, true⟩,
      ⟨some 18, .load 2 true (.t 2), none, false⟩,
      ⟨some 19, .p (.move  (.t 1)), none, false⟩,
      ⟨some 20, .call (.c (.func (.func n_spec_l04Of) #[] #[])) [(.t 18), (.t 19)], none, true⟩,
      ⟨some 21, .call (.c (.func (.func n_spec_l02Make) #[] #[])) [(.t 17), (.t 20)], none, false⟩,
      ⟨none, .store 2 (.t 4) (.t 21), none, false⟩,
      ⟨some 5, .p (.move  (.c (.int .i64 0))), none, false⟩])
    (.ret)))
theorem c_spec_MultipleOf : FF n_spec_MultipleOf = some ⟨22, y_spec_MultipleOf.er, [.cell 4 2 true, .tmp 5]⟩ := by kernel_rfl
def p_spec_MultipleOf (a0 a1 : Value) (h : Hp) (R : Value → Hp → Prop) : Prop :=
  bindO (boxV 2 a0) fun c2 => newB h ⟨c2, y_t_impl_Plane, true⟩ fun b2 h1 => bindO (boxV 2 (.agg #[.int .i64 0, .slice none 0 0])) fun c4 => newB h1 ⟨c4, y_t_impl_Series, true⟩ fun b4 h2 => bindO (ldV 2 true h2 (.pointer (some ⟨b2, 0, none⟩))) fun v7 => CallW FF n_spec_l04Is [v7] h2 fun v8 h3 => bindO (unV .not v8) fun v9 => condM v9 (bindO ((fillX [.int .i64 0, .slice none 0 0] []).map fun cs => Value.agg cs.toArray) fun v10 => bindO (storeV 2 h3 v10 (.pointer (some ⟨b4, 0, none⟩))) fun h4 => bindO (ldV 2 true h4 (.pointer (some ⟨b4, 0, none⟩))) fun r4 => R (.tuple #[r4, (.int .i64 1)]) h4) (CallW FF n_spec_l01In [a1, (.int .i64 (-1000000)), (.int .i64 1000000)] h3 fun v13 h4 => bindO (unV .not v13) fun v14 => condM v14 (bindO ((fillX [.int .i64 0, .slice none 0 0] []).map fun cs => Value.agg cs.toArray) fun v15 => bindO (storeV 2 h4 v15 (.pointer (some ⟨b4, 0, none⟩))) fun h5 => bindO (ldV 2 true h5 (.pointer (some ⟨b4, 0, none⟩))) fun r4 => R (.tuple #[r4, (.int .i64 2)]) h5) (bindO (fieldAddrV 0 (.pointer (some ⟨b2, 0, none⟩))) fun v16 => inB h4.nx v16 ∧ (bindO (ldV 1 false h4 v16) fun v17 => bindO (ldV 2 true h4 (.pointer (some ⟨b2, 0, none⟩))) fun v18 => CallW FF n_spec_l04Of [v18, a1] h4 fun v20 h5 => keepB h4.nx h4 h5 ∧ (CallW FF n_spec_l02Make [v17, v20] h5 fun v21 h6 => bindO (storeV 2 h6 v21 (.pointer (some ⟨b4, 0, none⟩))) fun h7 => bindO (ldV 2 true h7 (.pointer (some ⟨b4, 0, none⟩))) fun r4 => R (.tuple #[r4, (.int .i64 0)]) h7))))
theorem w_spec_MultipleOf {a0 a1 : Value} {h : Hp} {R : Value → Hp → Prop} (H : p_spec_MultipleOf a0 a1 h R) : CallW FF n_spec_MultipleOf [a0, a1] h R := callV_fin c_spec_MultipleOf (Eq.mp (by kernel_rfl) H)
def y_laws_series9 : YC :=
  .seq (.region false [⟨some 2, .box y_t_impl_Series 2 (.t 0), none, false⟩,
    ⟨some 3, .box y_t_impl_Series 2 (.t 1), none, false⟩,
    ⟨some 4, .p (.move  (.c (.bool false))), none, false⟩])
  (.seq (.region false [⟨some 5, .p (.fieldAddr 0 (.t 2)), none, false⟩,
     ⟨some 6, .load 1 false (.t 5), none, false⟩,
     ⟨some 7, .p (.fieldAddr 0 (.t 3)), none, false⟩,
     ⟨some 8, .load 1 false (.t 7), none, false⟩,
     ⟨some 9, .p (.bin .eql (.t 6) (.t 8)), none, false⟩,
     ⟨some 10, .p (.move  (.t 9)), none, false⟩,
     ⟨some 11, .p (.fieldAddr 1 (.t 2)), some (10, true), false⟩,
     ⟨some 12, .load 1 false (.t 11), some (10, true), false⟩,
     ⟨some 13, .p (.fieldAddr 1 (.t 3)), some (10, true), false⟩,
     ⟨some 14, .load 1 false (.t 13), some (10, true), false⟩,
     ⟨some 15, .call (.c (.func (.func n_laws_likeInts) #[] #[])) [(.t 12), (.t 14)], some (10, true), false⟩,
     ⟨some 16, .p (.pick  (.t 10) (.t 15) (.c (.bool false))), none, false⟩,
     ⟨some 4, .p (.move  (.t 16)), none, false⟩])
   (.ret))
theorem c_laws_series9 : FF n_laws_series9 = some ⟨17, y_laws_series9.er, [.tmp 4]⟩ := by kernel_rfl
def p_laws_series9 (a0 a1 : Value) (h : Hp) (R : Value → Hp → Prop) : Prop :=
  bindO (boxV 2 a0) fun c2 => newB h ⟨c2, y_t_impl_Series, true⟩ fun b2 h1 => bindO (boxV 2 a1) fun c3 => newB h1 ⟨c3, y_t_impl_Series, true⟩ fun b3 h2 => bindO (fieldAddrV 0 (.pointer (some ⟨b2, 0, none⟩))) fun v5 => bindO (ldV 1 false h2 v5) fun v6 => bindO (fieldAddrV 0 (.pointer (some ⟨b3, 0, none⟩))) fun v7 => bindO (ldV 1 false h2 v7) fun v8 => bindO (binV .eql v6 v8) fun v9 => condM v9 (bindO (fieldAddrV 1 (.pointer (some ⟨b2, 0, none⟩))) fun v11 => bindO (ldV 1 false h2 v11) fun v12 => bindO (fieldAddrV 1 (.pointer (some ⟨b3, 0, none⟩))) fun v13 => bindO (ldV 1 false h2 v13) fun v14 => CallW FF n_laws_likeInts [v12, v14] h2 fun v15 h3 => R v15 h3) (R (.bool false) h2)
theorem w_laws_series9 {a0 a1 : Value} {h : Hp} {R : Value → Hp → Prop} (H : p_laws_series9 a0 a1 h R) : CallW FF n_laws_series9 [a0, a1] h R := callV_fin c_laws_series9 (Eq.mp (by kernel_rfl) H)
def y_spec_DrawMultipleUnder : YC :=
  .seq (.region false [⟨some 2, .box y_t_impl_Plane 2 (.c (.agg #[.int .i64 0, .slice none 0 0])), none, false⟩,
    ⟨some 3, .p (.move  (.c (.int .i64 0))), none, false⟩,
    ⟨some 4, .box y_t_impl_Series 2 (.c (.agg #[.int .i64 0, .slice none 0 0])), none, false⟩])
  (.seq (.region false [⟨some 8, .p (.move  (.t 0)), none, false⟩,
     ⟨some 9, .call (.c (.func (.func n_spec_l01From) #[] #[])) [(.t 8)], none, false⟩,
     ⟨some 5, .p (.move  (.t 9)), none, false⟩])
   (.seq (.region false [⟨some 11, .p (.move  (.t 0)), none, false⟩,
      ⟨some 12, .call (.c (.func (.func n_spec_l04Curves) #[] #[])) [(.t 11), (.c (.int .i64 1))], none, false⟩,
      ⟨some 10, .p (.move  (.t 12)), none, false⟩,
      ⟨some 13, .p (.extract (.t 10) 0), none, false⟩,
      ⟨some 14, .p (.extract (.t 10) 1), none, false⟩,
      ⟨some 6, .box y_t_impl_Plane 2 (.c (.agg #[.int .i64 0, .slice none 0 0])), none, false⟩,
      ⟨none, .store 2 (.t 6) (.t 13), none, false⟩,
      ⟨some 7, .p (.move  (.t 14)), none, false⟩])
    (.seq (.regionG [⟨some 15, .load 2 true (.t 6), none, true⟩,
       ⟨some 16, .p (.move  (.t 5)), none, false⟩,
       ⟨some 17, .mkrow y_t_int64 1 10 [.int .i64 0] [(0, (.c (.int .i64 0))), (1, (.c (.int .i64 1))), (2, (.c (.int .i64 (-1)))), (3, (.c (.int .i64 2))), (4, (.c (.int .i64 3))), (5, (.c (.int .i64 5))), (6, (.c (.int .i64 12))), (7, (.c (.int .i64 (-7)))), (8, (.c (.int .i64 1000000))), (9, (.c (.int .i64 (-1000001))))], none, false⟩,
       ⟨some 18, .call (.c (.func (.func n_spec_l01Pick) #[] #[])) [(.t 16), (.t 17)], none, true⟩,
       ⟨some 19, .p (.move  (.t 7)), none, false⟩,
       ⟨some 20, .p (.indexAddr 2 (.t 19) (.c (.int .i64 0))), none, false⟩,
       ⟨some 21, .load 2 true (.t 20), none, true⟩,
       ⟨none, .store 2 (.t 2) (.t 15), none, true⟩,
       ⟨some 3, .p (.move  (.t 18)), none, false⟩,
       ⟨none, .store 2 (.t 4) (.t 21), none, false⟩])
     (.ret))))
theorem c_spec_DrawMultipleUnder : FF n_spec_DrawMultipleUnder = some ⟨22, y_spec_DrawMultipleUnder.er, [.cell 2 2 true, .tmp 3, .cell 4 2 true]⟩ := by kernel_rfl
def p_spec_DrawMultipleUnder (a0 : Value) (h : Hp) (R : Value → Hp → Prop) : Prop :=
  bindO (boxV 2 (.agg #[.int .i64 0, .slice none 0 0])) fun c2 => newB h ⟨c2, y_t_impl_Plane, true⟩ fun b2 h1 => bindO (boxV 2 (.agg #[.int .i64 0, .slice none 0 0])) fun c4 => newB h1 ⟨c4, y_t_impl_Series, true⟩ fun b4 h2 => CallW FF n_spec_l01From [a0] h2 fun v9 h3 => CallW FF n_spec_l04Curves [a0, (.int .i64 1)] h3 fun v12 h4 => bindO (extractV 0 v12) fun v13 => bindO (extractV 1 v12) fun v14 => bindO (boxV 2 (.agg #[.int .i64 0, .slice none 0 0])) fun c6 => newB h4 ⟨c6, y_t_impl_Plane, true⟩ fun b6 h5 => bindO (storeV 2 h5 v13 (.pointer (some ⟨b6, 0, none⟩))) fun h6 => ∃ P : Nat → Prop, (∀ b, P b → b < h6.nx) ∧ (inP P (.pointer (some ⟨b6, 0, none⟩)) ∧ (bindO (ldV 2 true h6 (.pointer (some ⟨b6, 0, none⟩))) fun v15 => bindO (rowV 1 10 [.int .i64 0] [(0, (.int .i64 0)), (1, (.int .i64 1)), (2, (.int .i64 (-1))), (3, (.int .i64 2)), (4, (.int .i64 3)), (5, (.int .i64 5)), (6, (.int .i64 12)), (7, (.int .i64 (-7))), (8, (.int .i64 1000000)), (9, (.int .i64 (-1000001)))]) fun c17 => newB h6 ⟨c17, y_t_int64, true⟩ fun b17 h7 => CallW FF n_spec_l01Pick [v9, (.slice (some ⟨b17, 0, none⟩) 10 1)] h7 fun v18 h8 => keepP P h7 h8 ∧ (bindO (indexAddrV 2 v14 (.int .i64 0)) fun v20 => inP P v20 ∧ (bindO (ldV 2 true h8 v20) fun v21 => bindO (storeV 2 h8 v15 (.pointer (some ⟨b2, 0, none⟩))) fun h9 => keepP P h8 h9 ∧ (bindO (storeV 2 h9 v21 (.pointer (some ⟨b4, 0, none⟩))) fun h10 => bindO (ldV 2 true h10 (.pointer (some ⟨b2, 0, none⟩))) fun r2 => bindO (ldV 2 true h10 (.pointer (some ⟨b4, 0, none⟩))) fun r4 => R (.tuple #[r2, v18, r4]) h10)))))
theorem w_spec_DrawMultipleUnder {a0 : Value} {h : Hp} {R : Value → Hp → Prop} (H : p_spec_DrawMultipleUnder a0 h R) : CallW FF n_spec_DrawMultipleUnder [a0] h R := callV_fin c_spec_DrawMultipleUnder (Eq.mp (by kernel_rfl) H)
def y_impl_MultipleUnder : YC :=
  .seq (.region false [⟨some 3, .box y_t_impl_Plane 2 (.t 0), none, false⟩,
    ⟨some 5, .box y_t_impl_Series 2 (.t 2), none, false⟩,
    ⟨some 6, .box y_t_impl_Series 2 (.c (.agg #[.int .i64 0, .slice none 0 0])), none, false⟩,
    ⟨some 7, .p (.move  (.c (.int .i64 0))), none, false⟩])
  (.seq (.region false [⟨some 9, .load 2 true (.t 3), none, false⟩,
     ⟨some 10, .load 2 true (.t 5), none, false⟩,
     ⟨some 11, .mkrow y_t_impl_Series 2 1 [.int .i64 0, .slice none 0 0] [(0, (.t 10))], none, false⟩,
     ⟨some 12, .call (.c (.func (.func n_impl_curved) #[] #[])) [(.t 9), (.t 11)], none, false⟩,
     ⟨some 8, .p (.move  (.t 12)), none, false⟩])
   (.seq (.block 0
     (.seq (.region false [⟨some 14, .p (.move  (.t 8)), none, false⟩,
        ⟨some 15, .p (.bin .neq (.t 14) (.c (.int .i64 0))), none, false⟩,
        ⟨some 13, .p (.move  (.t 15)), none, false⟩])
      (.cond (.t 13)
       (.seq (.region false [⟨some 16, .p (.build [.int .i64 0, .slice none 0 0] []), none, false⟩,
          ⟨some 17, .p (.move  (.t 8)), none, false⟩,
          ⟨none, .store 2 (.t 6) (.t 16), none, false⟩,
          ⟨some 7, .p (.move  (.t 17)), none, false⟩])
        (.ret))
       (.seq (.region false [⟨some 19, .p (.move  (.t 1)), none, false⟩,
          ⟨some 20, .call (.c (.func (.func n_impl_isMultiple) #[] #[])) [(.t 19)], none, false⟩,
          ⟨some 21, .p (.un .not (.t 20)), none, false⟩,
          ⟨some 18, .p (.move  (.t 21)), none, false⟩])
        (.cond (.t 18)
         (.seq (.region false [⟨some 22, .p (.build [.int .i64 0, .slice none 0 0] []), none, false⟩,
            ⟨none, .store 2 (.t 6) (.t 22), none, false⟩,
            ⟨some 7, .p (.move  (.c (.int .i64 2))), none, false⟩])
          (.ret))
         (.skip))))))
    (.seq (.region false [⟨some 23, .load 2 true (.t 3), none, false⟩,
       ⟨some 24, .p (.move  (.t 1)), none, false⟩,
       ⟨some 25, .load 2 true (.t 5), none, false⟩,
       ⟨some 26, .call (.c (.func (.func n_impl_Plane_multiple) #[] #[])) [(.t 23), (.t 24), (.t 25)], none, false⟩,
       ⟨none, .store 2 (.t 6) (.t 26), none, false⟩,
       ⟨some 7, .p (.move  (.c (.int .i64 0))), none, false⟩])
     (.ret))))
theorem c_impl_MultipleUnder : FF n_impl_MultipleUnder = some ⟨27, y_impl_MultipleUnder.er, [.cell 6 2 true, .tmp 7]⟩ := by kernel_rfl
def p_impl_MultipleUnder (a0 a1 a2 : Value) (h : Hp) (R : Value → Hp → Prop) : Prop :=
  bindO (boxV 2 a0) fun c3 => newB h ⟨c3, y_t_impl_Plane, true⟩ fun b3 h1 => bindO (boxV 2 a2) fun c5 => newB h1 ⟨c5, y_t_impl_Series, true⟩ fun b5 h2 => bindO (boxV 2 (.agg #[.int .i64 0, .slice none 0 0])) fun c6 => newB h2 ⟨c6, y_t_impl_Series, true⟩ fun b6 h3 => bindO (ldV 2 true h3 (.pointer (some ⟨b3, 0, none⟩))) fun v9 => bindO (ldV 2 true h3 (.pointer (some ⟨b5, 0, none⟩))) fun v10 => bindO (rowV 2 1 [.int .i64 0, .slice none 0 0] [(0, v10)]) fun c11 => newB h3 ⟨c11, y_t_impl_Series, true⟩ fun b11 h4 => CallW FF n_impl_curved [v9, (.slice (some ⟨b11, 0, none⟩) 1 2)] h4 fun v12 h5 => bindO (binV .neq v12 (.int .i64 0)) fun v15 => condM v15 (bindO ((fillX [.int .i64 0, .slice none 0 0] []).map fun cs => Value.agg cs.toArray) fun v16 => bindO (storeV 2 h5 v16 (.pointer (some ⟨b6, 0, none⟩))) fun h6 => bindO (ldV 2 true h6 (.pointer (some ⟨b6, 0, none⟩))) fun r6 => R (.tuple #[r6, v12]) h6) (CallW FF n_impl_isMultiple [a1] h5 fun v20 h6 => bindO (unV .not v20) fun v21 => condM v21 (bindO ((fillX [.int .i64 0, .slice none 0 0] []).map fun cs => Value.agg cs.toArray) fun v22 => bindO (storeV 2 h6 v22 (.pointer (some ⟨b6, 0, none⟩))) fun h7 => bindO (ldV 2 true h7 (.pointer (some ⟨b6, 0, none⟩))) fun r6 => R (.tuple #[r6, (.int .i64 2)]) h7) (bindO (ldV 2 true h6 (.pointer (some ⟨b3, 0, none⟩))) fun v23 => bindO (ldV 2 true h6 (.pointer (some ⟨b5, 0, none⟩))) fun v25 => CallW FF n_impl_Plane_multiple [v23, a1, v25] h6 fun v26 h7 => bindO (storeV 2 h7 v26 (.pointer (some ⟨b6, 0, none⟩))) fun h8 => bindO (ldV 2 true h8 (.pointer (some ⟨b6, 0, none⟩))) fun r6 => R (.tuple #[r6, (.int .i64 0)]) h8))
theorem w_impl_MultipleUnder {a0 a1 a2 : Value} {h : Hp} {R : Value → Hp → Prop} (H : p_impl_MultipleUnder a0 a1 a2 h R) : CallW FF n_impl_MultipleUnder [a0, a1, a2] h R := callV_fin c_impl_MultipleUnder (Eq.mp (by kernel_rfl) H)
def y_spec_MultipleUnder : YC :=
  .seq (.region false [⟨some 3, .box y_t_impl_Plane 2 (.t 0), none, false⟩,
    ⟨some 5, .box y_t_impl_Series 2 (.t 2), none, false⟩,
    ⟨some 6, .box y_t_impl_Series 2 (.c (.agg #[.int .i64 0, .slice none 0 0])), none, false⟩,
    ⟨some 7, .p (.move  (.c (.int .i64 0))), none, false⟩])
  (.seq (.region false [⟨some 9, .load 2 true (.t 3), none, false⟩,
     ⟨some 10, .load 2 true (.t 5), none, false⟩,
     ⟨some 11, .mkrow y_t_impl_Series 2 1 [.int .i64 0, .slice none 0 0] [(0, (.t 10))], none, false⟩,
     ⟨some 12, .call (.c (.func (.func n_spec_l04Code) #[] #[])) [(.t 9), (.t 11)], none, false⟩,
     ⟨some 8, .p (.move  (.t 12)), none, false⟩])
   (.join [1, 3, 5, 6, 8] (.seq (.region false [⟨some 13, .p (.move  (.t 8)), none, false⟩,
       ⟨some 14, .p (.bin .eql (.t 13) (.c (.int .i64 0))), none, false⟩,
       ⟨some 15, .p (.move  (.t 14)), none, false⟩,
       ⟨some 16, .p (.move  (.t 1)), some (15, true), false⟩,
       ⟨some 17, .call (.c (.func (.func n_spec_l01In) #[] #[])) [(.t 16), (.c (.int .i64 (-1000000))), (.c (.int .i64 1000000))], some (15, true), false⟩,
       ⟨some 18, .p (.un .not (.t 17)), some (15, true), false⟩,
       ⟨some 19, .p (.pick  (.t 15) (.t 18) (.c (.bool false))), none, false⟩])
     (.cond (.t 19)
      (.region false [⟨some 8, .p (.move  (.c (.int .i64 2))), none, false⟩])
      (.skip)))
    (.seq (.seq (.region false [⟨some 20, .p (.move  (.t 8)), none, false⟩,
        ⟨some 21, .p (.bin .neq (.t 20) (.c (.int .i64 0))), none, false⟩])
      (.cond (.t 21)
       (.seq (.region false [⟨some 22, .p (.build [.int .i64 0, .slice none 0 0] []), none, false⟩,
          ⟨some 23, .p (.move  (.t 8)), none, false⟩,
          ⟨none, .store 2 (.t 6) (.t 22), none, false⟩,
          ⟨some 7, .p (.move  (.t 23)), none, false⟩])
        (.ret))
       (.skip)))
     (.seq (.region true [⟨some 24, .p (.fieldAddr 0 (.t 3)), none, false⟩,
        ⟨some 25, .load 1 false (.t 24), none, true⟩,
        ⟨some 26, .load 2 true (.t 3), none, false⟩,
        ⟨some 27, .p (.move  (.t 1)), none, false⟩,
        ⟨some 28, .p (.fieldAddr 1 (.t 5)), none, false⟩,
        ⟨some 29, .load 1 false (.t 28), none, false⟩,
        ⟨some 30, .call (.c (.func (.func n_spec_l04Multiple) #[] #[])) [(.t 26), (.t 27), (.t 29)], none, true⟩,
        ⟨some 31, .call (.c (.func (.func n_spec_l02Make) #[] #[])) [(.t 25), (.t 30)], none, false⟩,
        ⟨none, .store 2 (.t 6) (.t 31), none, false⟩,
        ⟨some 7, .p (.move  (.c (.int .i64 0))), none, false⟩])
      (.ret)))))
theorem c_spec_MultipleUnder : FF n_spec_MultipleUnder = some ⟨32, y_spec_MultipleUnder.er, [.cell 6 2 true, .tmp 7]⟩ := by kernel_rfl
def p_spec_MultipleUnder (a0 a1 a2 : Value) (h : Hp) (R : Value → Hp → Prop) : Prop :=
  bindO (boxV 2 a0) fun c3 => newB h ⟨c3, y_t_impl_Plane, true⟩ fun b3 h1 => bindO (boxV 2 a2) fun c5 => newB h1 ⟨c5, y_t_impl_Series, true⟩ fun b5 h2 => bindO (boxV 2 (.agg #[.int .i64 0, .slice none 0 0])) fun c6 => newB h2 ⟨c6, y_t_impl_Series, true⟩ fun b6 h3 => bindO (ldV 2 true h3 (.pointer (some ⟨b3, 0, none⟩))) fun v9 => bindO (ldV 2 true h3 (.pointer (some ⟨b5, 0, none⟩))) fun v10 => bindO (rowV 2 1 [.int .i64 0, .slice none 0 0] [(0, v10)]) fun c11 => newB h3 ⟨c11, y_t_impl_Series, true⟩ fun b11 h4 => CallW FF n_spec_l04Code [v9, (.slice (some ⟨b11, 0, none⟩) 1 2)] h4 fun v12 h5 => JN (fun J => bindO (binV .eql v12 (.int .i64 0)) fun v14 => condM v14 (CallW FF n_spec_l01In [a1, (.int .i64 (-1000000)), (.int .i64 1000000)] h5 fun v17 h6 => bindO (unV .not v17) fun v18 => condM v18 (J [a1, (.pointer (some ⟨b3, 0, none⟩)), (.pointer (some ⟨b5, 0, none⟩)), (.pointer (some ⟨b6, 0, none⟩)), (.int .i64 2)] h6) (J [a1, (.pointer (some ⟨b3, 0, none⟩)), (.pointer (some ⟨b5, 0, none⟩)), (.pointer (some ⟨b6, 0, none⟩)), v12] h6)) (J [a1, (.pointer (some ⟨b3, 0, none⟩)), (.pointer (some ⟨b5, 0, none⟩)), (.pointer (some ⟨b6, 0, none⟩)), v12] h5)) fun vs h6 => ∀ e : Env, [e 1, e 3, e 5, e 6, e 8] = vs → bindO (binV .neq (e 8) (.int .i64 0)) fun v21 => condM v21 (bindO ((fillX [.int .i64 0, .slice none 0 0] []).map fun cs => Value.agg cs.toArray) fun v22 => bindO (storeV 2 h6 v22 (e 6)) fun h7 => bindO (ldV 2 true h7 (e 6)) fun r6 => R (.tuple #[r6, (e 8)]) h7) (bindO (fieldAddrV 0 (e 3)) fun v24 => inB h6.nx v24 ∧ (bindO (ldV 1 false h6 v24) fun v25 => bindO (ldV 2 true h6 (e 3)) fun v26 => bindO (fieldAddrV 1 (e 5)) fun v28 => bindO (ldV 1 false h6 v28) fun v29 => CallW FF n_spec_l04Multiple [v26, (e 1), v29] h6 fun v30 h7 => keepB h6.nx h6 h7 ∧ (CallW FF n_spec_l02Make [v25, v30] h7 fun v31 h8 => bindO (storeV 2 h8 v31 (e 6)) fun h9 => bindO (ldV 2 true h9 (e 6)) fun r6 => R (.tuple #[r6, (.int .i64 0)]) h9)))
theorem w_spec_MultipleUnder {a0 a1 a2 : Value} {h : Hp} {R : Value → Hp → Prop} (H : p_spec_MultipleUnder a0 a1 a2 h R) : CallW FF n_spec_MultipleUnder [a0, a1, a2] h R := callV_fin c_spec_MultipleUnder (Eq.mp (by kernel_rfl) H)
def y_impl_InverseOfLaw : YC :=
  .seq (.region false [⟨some 1, .box y_t_impl_Plane 2 (.t 0), none, false⟩,
    ⟨some 2, .box y_t_impl_Series 2 (.c (.agg #[.int .i64 0, .slice none 0 0])), none, false⟩,
    ⟨some 3, .p (.move  (.c (.int .i64 0))), none, false⟩])
  (.seq (.seq (.region false [⟨some 4, .load 2 true (.t 1), none, false⟩,
      ⟨some 5, .call (.c (.func (.func n_impl_IsLaw) #[] #[])) [(.t 4)], none, false⟩,
      ⟨some 6, .p (.un .not (.t 5)), none, false⟩])
    (.cond (.t 6)
     (.seq (.region false [⟨some 7, .p (.build [.int .i64 0, .slice none 0 0] []), none, false⟩,
        ⟨none, .store 2 (.t 2) (.t 7), none, false⟩,
        ⟨some 3, .p (.move  (.c (.int .i64 1))), none, false⟩])
      (.ret))
     (.skip)))
   (.seq (.region false [⟨some 8, .load 2 true (.t 1), none, false⟩,
      ⟨some 9, .call (.c (.func (.func n_impl_Plane_inverse) #[] #[])) [(.t 8)], none, false⟩,
      ⟨none, .store 2 (.t 2) (.t 9), none, false⟩,
      ⟨some 3, .p (.move  (.c (.int .i64 0))), none, false⟩])
    (.ret)))
theorem c_impl_InverseOfLaw : FF n_impl_InverseOfLaw = some ⟨10, y_impl_InverseOfLaw.er, [.cell 2 2 true, .tmp 3]⟩ := by kernel_rfl
def p_impl_InverseOfLaw (a0 : Value) (h : Hp) (R : Value → Hp → Prop) : Prop :=
  bindO (boxV 2 a0) fun c1 => newB h ⟨c1, y_t_impl_Plane, true⟩ fun b1 h1 => bindO (boxV 2 (.agg #[.int .i64 0, .slice none 0 0])) fun c2 => newB h1 ⟨c2, y_t_impl_Series, true⟩ fun b2 h2 => bindO (ldV 2 true h2 (.pointer (some ⟨b1, 0, none⟩))) fun v4 => CallW FF n_impl_IsLaw [v4] h2 fun v5 h3 => bindO (unV .not v5) fun v6 => condM v6 (bindO ((fillX [.int .i64 0, .slice none 0 0] []).map fun cs => Value.agg cs.toArray) fun v7 => bindO (storeV 2 h3 v7 (.pointer (some ⟨b2, 0, none⟩))) fun h4 => bindO (ldV 2 true h4 (.pointer (some ⟨b2, 0, none⟩))) fun r2 => R (.tuple #[r2, (.int .i64 1)]) h4) (bindO (ldV 2 true h3 (.pointer (some ⟨b1, 0, none⟩))) fun v8 => CallW FF n_impl_Plane_inverse [v8] h3 fun v9 h4 => bindO (storeV 2 h4 v9 (.pointer (some ⟨b2, 0, none⟩))) fun h5 => bindO (ldV 2 true h5 (.pointer (some ⟨b2, 0, none⟩))) fun r2 => R (.tuple #[r2, (.int .i64 0)]) h5)
theorem w_impl_InverseOfLaw {a0 : Value} {h : Hp} {R : Value → Hp → Prop} (H : p_impl_InverseOfLaw a0 h R) : CallW FF n_impl_InverseOfLaw [a0] h R := callV_fin c_impl_InverseOfLaw (Eq.mp (by kernel_rfl) H)
def y_spec_InverseOfLaw : YC :=
  .seq (.region false [⟨some 1, .box y_t_impl_Plane 2 (.t 0), none, false⟩,
    ⟨some 2, .box y_t_impl_Series 2 (.c (.agg #[.int .i64 0, .slice none 0 0])), none, false⟩,
    ⟨some 3, .p (.move  (.c (.int .i64 0))), none, false⟩])
  (.seq (.seq (.region false [⟨some 4, .load 2 true (.t 1), none, false⟩,
      ⟨some 5, .call (.c (.func (.func n_spec_l04Is) #[] #[])) [(.t 4)], none, false⟩,
      ⟨some 6, .p (.un .not (.t 5)), none, false⟩])
    (.cond (.t 6)
     (.seq (.region false [⟨some 7, .p (.build [.int .i64 0, .slice none 0 0] []), none, false⟩,
        ⟨none, .store 2 (.t 2) (.t 7), none, false⟩,
        ⟨some 3, .p (.move  (.c (.int .i64 1))), none, false⟩])
      (.ret))
     (.skip)))
   (.seq (.region true [⟨some 8, .p (.fieldAddr 0 (.t 1)), none, false⟩,
      ⟨some 9, .load 1 false (.t 8), none, true⟩,
      ⟨some 10, .load 2 true (.t 1), none, false⟩,
      ⟨some 11, .call (.c (.func (.func n_spec_l04Inverse) #[] #[])) [(.t 10)], none, true⟩,
      ⟨some 12, .call (.c (.func (.func n_spec_l02Make) #[] #[])) [(.t 9), (.t 11)], none, false⟩,
      ⟨none, .store 2 (.t 2) (.t 12), none, false⟩,
      ⟨some 3, .p (.move  (.c (.int .i64 0))), none, false⟩])
    (.ret)))
theorem c_spec_InverseOfLaw : FF n_spec_InverseOfLaw = some ⟨13, y_spec_InverseOfLaw.er, [.cell 2 2 true, .tmp 3]⟩ := by kernel_rfl
def p_spec_InverseOfLaw (a0 : Value) (h : Hp) (R : Value → Hp → Prop) : Prop :=
  bindO (boxV 2 a0) fun c1 => newB h ⟨c1, y_t_impl_Plane, true⟩ fun b1 h1 => bindO (boxV 2 (.agg #[.int .i64 0, .slice none 0 0])) fun c2 => newB h1 ⟨c2, y_t_impl_Series, true⟩ fun b2 h2 => bindO (ldV 2 true h2 (.pointer (some ⟨b1, 0, none⟩))) fun v4 => CallW FF n_spec_l04Is [v4] h2 fun v5 h3 => bindO (unV .not v5) fun v6 => condM v6 (bindO ((fillX [.int .i64 0, .slice none 0 0] []).map fun cs => Value.agg cs.toArray) fun v7 => bindO (storeV 2 h3 v7 (.pointer (some ⟨b2, 0, none⟩))) fun h4 => bindO (ldV 2 true h4 (.pointer (some ⟨b2, 0, none⟩))) fun r2 => R (.tuple #[r2, (.int .i64 1)]) h4) (bindO (fieldAddrV 0 (.pointer (some ⟨b1, 0, none⟩))) fun v8 => inB h3.nx v8 ∧ (bindO (ldV 1 false h3 v8) fun v9 => bindO (ldV 2 true h3 (.pointer (some ⟨b1, 0, none⟩))) fun v10 => CallW FF n_spec_l04Inverse [v10] h3 fun v11 h4 => keepB h3.nx h3 h4 ∧ (CallW FF n_spec_l02Make [v9, v11] h4 fun v12 h5 => bindO (storeV 2 h5 v12 (.pointer (some ⟨b2, 0, none⟩))) fun h6 => bindO (ldV 2 true h6 (.pointer (some ⟨b2, 0, none⟩))) fun r2 => R (.tuple #[r2, (.int .i64 0)]) h6)))
theorem w_spec_InverseOfLaw {a0 : Value} {h : Hp} {R : Value → Hp → Prop} (H : p_spec_InverseOfLaw a0 h R) : CallW FF n_spec_InverseOfLaw [a0] h R := callV_fin c_spec_InverseOfLaw (Eq.mp (by kernel_rfl) H)
def y_impl_OppositeUnder : YC :=
  .seq (.region false [⟨some 2, .box y_t_impl_Plane 2 (.t 0), none, false⟩,
    ⟨some 3, .box y_t_impl_Series 2 (.t 1), none, false⟩,
    ⟨some 4, .box y_t_impl_Series 2 (.c (.agg #[.int .i64 0, .slice none 0 0])), none, false⟩,
    ⟨some 5, .p (.move  (.c (.int .i64 0))), none, false⟩])
  (.seq (.seq (.region false [⟨some 7, .load 2 true (.t 2), none, false⟩,
      ⟨some 8, .load 2 true (.t 3), none, false⟩,
      ⟨some 9, .mkrow y_t_impl_Series 2 1 [.int .i64 0, .slice none 0 0] [(0, (.t 8))], none, false⟩,
      ⟨some 10, .call (.c (.func (.func n_impl_curved) #[] #[])) [(.t 7), (.t 9)], none, false⟩,
      ⟨some 6, .p (.move  (.t 10)), none, false⟩])
    (.seq (.region false [⟨some 11, .p (.move  (.t 6)), none, false⟩,
       ⟨some 12, .p (.bin .neq (.t 11) (.c (.int .i64 0))), none, false⟩])
     (.cond (.t 12)
      (.seq (.region false [⟨some 13, .p (.build [.int .i64 0, .slice none 0 0] []), none, false⟩,
         ⟨some 14, .p (.move  (.t 6)), none, false⟩,
         ⟨none, .store 2 (.t 4) (.t 13), none, false⟩,
         ⟨some 5, .p (.move  (.t 14)), none, false⟩])
       (.ret))
      (.skip))))
   (.seq (.region false [⟨some 15, .load 2 true (.t 2), none, false⟩,
      ⟨some 16, .load 2 true (.t 3), none, false⟩,
      ⟨some 17, .call (.c (.func (.func n_impl_Plane_opposite) #[] #[])) [(.t 15), (.t 16)], none, false⟩,
      ⟨none, .store 2 (.t 4) (.t 17), none, false⟩,
      ⟨some 5, .p (.move  (.c (.int .i64 0))), none, false⟩])
    (.ret)))
theorem c_impl_OppositeUnder : FF n_impl_OppositeUnder = some ⟨18, y_impl_OppositeUnder.er, [.cell 4 2 true, .tmp 5]⟩ := by kernel_rfl
def p_impl_OppositeUnder (a0 a1 : Value) (h : Hp) (R : Value → Hp → Prop) : Prop :=
  bindO (boxV 2 a0) fun c2 => newB h ⟨c2, y_t_impl_Plane, true⟩ fun b2 h1 => bindO (boxV 2 a1) fun c3 => newB h1 ⟨c3, y_t_impl_Series, true⟩ fun b3 h2 => bindO (boxV 2 (.agg #[.int .i64 0, .slice none 0 0])) fun c4 => newB h2 ⟨c4, y_t_impl_Series, true⟩ fun b4 h3 => bindO (ldV 2 true h3 (.pointer (some ⟨b2, 0, none⟩))) fun v7 => bindO (ldV 2 true h3 (.pointer (some ⟨b3, 0, none⟩))) fun v8 => bindO (rowV 2 1 [.int .i64 0, .slice none 0 0] [(0, v8)]) fun c9 => newB h3 ⟨c9, y_t_impl_Series, true⟩ fun b9 h4 => CallW FF n_impl_curved [v7, (.slice (some ⟨b9, 0, none⟩) 1 2)] h4 fun v10 h5 => bindO (binV .neq v10 (.int .i64 0)) fun v12 => condM v12 (bindO ((fillX [.int .i64 0, .slice none 0 0] []).map fun cs => Value.agg cs.toArray) fun v13 => bindO (storeV 2 h5 v13 (.pointer (some ⟨b4, 0, none⟩))) fun h6 => bindO (ldV 2 true h6 (.pointer (some ⟨b4, 0, none⟩))) fun r4 => R (.tuple #[r4, v10]) h6) (bindO (ldV 2 true h5 (.pointer (some ⟨b2, 0, none⟩))) fun v15 => bindO (ldV 2 true h5 (.pointer (some ⟨b3, 0, none⟩))) fun v16 => CallW FF n_impl_Plane_opposite [v15, v16] h5 fun v17 h6 => bindO (storeV 2 h6 v17 (.pointer (some ⟨b4, 0, none⟩))) fun h7 => bindO (ldV 2 true h7 (.pointer (some ⟨b4, 0, none⟩))) fun r4 => R (.tuple #[r4, (.int .i64 0)]) h7)
theorem w_impl_OppositeUnder {a0 a1 : Value} {h : Hp} {R : Value → Hp → Prop} (H : p_impl_OppositeUnder a0 a1 h R) : CallW FF n_impl_OppositeUnder [a0, a1] h R := callV_fin c_impl_OppositeUnder (Eq.mp (by kernel_rfl) H)
def y_impl_SumUnder : YC :=
  .seq (.region false [⟨some 3, .box y_t_impl_Plane 2 (.t 0), none, false⟩,
    ⟨some 4, .box y_t_impl_Series 2 (.t 1), none, false⟩,
    ⟨some 5, .box y_t_impl_Series 2 (.t 2), none, false⟩,
    ⟨some 6, .box y_t_impl_Series 2 (.c (.agg #[.int .i64 0, .slice none 0 0])), none, false⟩,
    ⟨some 7, .p (.move  (.c (.int .i64 0))), none, false⟩])
  (.seq (.seq (.region false [⟨some 9, .load 2 true (.t 3), none, false⟩,
      ⟨some 10, .load 2 true (.t 4), none, false⟩,
      ⟨some 11, .load 2 true (.t 5), none, false⟩,
      ⟨some 12, .mkrow y_t_impl_Series 2 2 [.int .i64 0, .slice none 0 0] [(0, (.t 10)), (1, (.t 11))], none, false⟩,
      ⟨some 13, .call (.c (.func (.func n_impl_curved) #[] #[])) [(.t 9), (.t 12)], none, false⟩,
      ⟨some 8, .p (.move  (.t 13)), none, false⟩])
    (.seq (.region false [⟨some 14, .p (.move  (.t 8)), none, false⟩,
       ⟨some 15, .p (.bin .neq (.t 14) (.c (.int .i64 0))), none, false⟩])
     (.cond (.t 15)
      (.seq (.region false [⟨some 16, .p (.build [.int .i64 0, .slice none 0 0] []), none, false⟩,
         ⟨some 17, .p (.move  (.t 8)), none, false⟩,
         ⟨none, .store 2 (.t 6) (.t 16), none, false⟩,
         ⟨some 7, .p (.move  (.t 17)), none, false⟩])
       (.ret))
      (.skip))))
   (.seq (.region false [⟨some 18, .load 2 true (.t 3), none, false⟩,
      ⟨some 19, .load 2 true (.t 4), none, false⟩,
      ⟨some 20, .load 2 true (.t 5), none, false⟩,
      ⟨some 21, .call (.c (.func (.func n_impl_Plane_curves) #[] #[])) [(.t 18), (.t 19), (.t 20)], none, false⟩,
      ⟨none, .store 2 (.t 6) (.t 21), none, false⟩,
      ⟨some 7, .p (.move  (.c (.int .i64 0))), none, false⟩])
    (.ret)))
theorem c_impl_SumUnder : FF n_impl_SumUnder = some ⟨22, y_impl_SumUnder.er, [.cell 6 2 true, .tmp 7]⟩ := by kernel_rfl
def p_impl_SumUnder (a0 a1 a2 : Value) (h : Hp) (R : Value → Hp → Prop) : Prop :=
  bindO (boxV 2 a0) fun c3 => newB h ⟨c3, y_t_impl_Plane, true⟩ fun b3 h1 => bindO (boxV 2 a1) fun c4 => newB h1 ⟨c4, y_t_impl_Series, true⟩ fun b4 h2 => bindO (boxV 2 a2) fun c5 => newB h2 ⟨c5, y_t_impl_Series, true⟩ fun b5 h3 => bindO (boxV 2 (.agg #[.int .i64 0, .slice none 0 0])) fun c6 => newB h3 ⟨c6, y_t_impl_Series, true⟩ fun b6 h4 => bindO (ldV 2 true h4 (.pointer (some ⟨b3, 0, none⟩))) fun v9 => bindO (ldV 2 true h4 (.pointer (some ⟨b4, 0, none⟩))) fun v10 => bindO (ldV 2 true h4 (.pointer (some ⟨b5, 0, none⟩))) fun v11 => bindO (rowV 2 2 [.int .i64 0, .slice none 0 0] [(0, v10), (1, v11)]) fun c12 => newB h4 ⟨c12, y_t_impl_Series, true⟩ fun b12 h5 => CallW FF n_impl_curved [v9, (.slice (some ⟨b12, 0, none⟩) 2 2)] h5 fun v13 h6 => bindO (binV .neq v13 (.int .i64 0)) fun v15 => condM v15 (bindO ((fillX [.int .i64 0, .slice none 0 0] []).map fun cs => Value.agg cs.toArray) fun v16 => bindO (storeV 2 h6 v16 (.pointer (some ⟨b6, 0, none⟩))) fun h7 => bindO (ldV 2 true h7 (.pointer (some ⟨b6, 0, none⟩))) fun r6 => R (.tuple #[r6, v13]) h7) (bindO (ldV 2 true h6 (.pointer (some ⟨b3, 0, none⟩))) fun v18 => bindO (ldV 2 true h6 (.pointer (some ⟨b4, 0, none⟩))) fun v19 => bindO (ldV 2 true h6 (.pointer (some ⟨b5, 0, none⟩))) fun v20 => CallW FF n_impl_Plane_curves [v18, v19, v20] h6 fun v21 h7 => bindO (storeV 2 h7 v21 (.pointer (some ⟨b6, 0, none⟩))) fun h8 => bindO (ldV 2 true h8 (.pointer (some ⟨b6, 0, none⟩))) fun r6 => R (.tuple #[r6, (.int .i64 0)]) h8)
theorem w_impl_SumUnder {a0 a1 a2 : Value} {h : Hp} {R : Value → Hp → Prop} (H : p_impl_SumUnder a0 a1 a2 h R) : CallW FF n_impl_SumUnder [a0, a1, a2] h R := callV_fin c_impl_SumUnder (Eq.mp (by kernel_rfl) H)
def l_laws_roll_0 : YC :=
  .seq (.seq (.region false [⟨some 16, .p (.move  (.t 6)), none, false⟩,
     ⟨some 17, .p (.move  (.t 0)), none, false⟩,
     ⟨some 18, .p (.len  (.t 17)), none, false⟩,
     ⟨some 19, .p (.bin .lss (.t 16) (.t 18)), none, false⟩])
   (.cond (.t 19)
    (.skip)
    (.exit 0)))
  (.seq (.block 1
    (.region false [⟨some 22, .p (.move  (.t 5)), none, false⟩,
      ⟨some 23, .p (.move  (.t 5)), none, false⟩,
      ⟨some 24, .p (.nilCheck  (.t 23)), none, false⟩,
      ⟨some 25, .p (.fieldAddr 2 (.t 24)), none, false⟩,
      ⟨some 26, .load 1 false (.t 25), none, false⟩,
      ⟨some 27, .p (.bin .mul (.t 26) (.c (.int .u64 1099511628211))), none, false⟩,
      ⟨some 28, .p (.move  (.t 0)), none, false⟩,
      ⟨some 29, .p (.move  (.t 6)), none, false⟩,
      ⟨some 30, .p (.indexAddr 1 (.t 28) (.t 29)), none, false⟩,
      ⟨some 31, .load 1 false (.t 30), none, false⟩,
      ⟨some 32, .p (.conv .u64 (.t 31)), none, false⟩,
      ⟨some 33, .p (.bin .add (.t 27) (.t 32)), none, false⟩,
      ⟨some 34, .p (.bin .add (.t 33) (.c (.int .u64 5))), none, false⟩,
      ⟨some 35, .p (.nilCheck  (.t 22)), none, false⟩,
      ⟨some 36, .p (.fieldAddr 2 (.t 35)), none, false⟩,
      ⟨none, .store 1 (.t 36) (.t 34), none, false⟩]))
   (.region false [⟨some 20, .p (.move  (.t 6)), none, false⟩,
     ⟨some 21, .p (.bin .add (.t 20) (.c (.int .i64 1))), none, false⟩,
     ⟨some 6, .p (.move  (.t 21)), none, false⟩]))
def q_laws_roll_0 (a0 a5 a6 : Value) (h : Hp) (K K0 : Kont) : Prop :=
  bindO (lenV  a0) fun v18 => bindO (binV .lss a6 v18) fun v19 => condM v19 (bindO (nilCheckV  a5) fun v24 => bindO (fieldAddrV 2 v24) fun v25 => bindO (ldV 1 false h v25) fun v26 => bindO (binV .mul v26 (.int .u64 1099511628211)) fun v27 => bindO (indexAddrV 1 a0 a6) fun v30 => bindO (ldV 1 false h v30) fun v31 => bindO (convV .u64 v31) fun v32 => bindO (binV .add v27 v32) fun v33 => bindO (binV .add v33 (.int .u64 5)) fun v34 => bindO (nilCheckV  a5) fun v35 => bindO (fieldAddrV 2 v35) fun v36 => bindO (storeV 1 h v34 v36) fun h1 => bindO (binV .add a6 (.int .i64 1)) fun v21 => K [a0, a5, v21] h1) (K0 [a5] h)
theorem wl_laws_roll_0 {a0 a5 a6 : Value} {h : Hp} {K K0 : Kont} (H : q_laws_roll_0 a0 a5 a6 h K K0) : ∀ e : Env, [e 0, e 5, e 6] = [a0, a5, a6] → V FF l_laws_roll_0 (qsel [0, 5, 6] K [(.exit 0, [5], K0)]) ⟨e, h⟩ := by
  intro e he; cases he; exact Eq.mp (by kernel_rfl) H
def y_laws_roll : YC :=
  .seq (.region false [⟨some 4, .p (.move  (.c (.pointer none))), none, false⟩])
  (.seq (.region false [⟨some 7, .p (.move  (.t 0)), none, false⟩,
     ⟨some 8, .p (.move  (.t 1)), none, false⟩,
     ⟨some 9, .p (.bin .mul (.t 8) (.c (.int .u64 6257))), none, false⟩,
     ⟨some 10, .p (.move  (.t 0)), none, false⟩,
     ⟨some 11, .p (.len  (.t 10)), none, false⟩,
     ⟨some 12, .p (.conv .u64 (.t 11)), none, false⟩,
     ⟨some 13, .p (.bin .add (.t 9) (.t 12)), none, false⟩,
     ⟨some 14, .p (.build [.slice none 0 0, .int .i64 0, .int .u64 0] [(0, 1, (.t 7)), (2, 1, (.t 13))]), none, false⟩,
     ⟨some 15, .box y_t_laws_dice_68 3 (.t 14), none, false⟩,
     ⟨some 5, .p (.move  (.t 15)), none, false⟩])
   (.seq (.seq (.region false [⟨some 6, .p (.move  (.c (.int .i64 0))), none, false⟩])
     (.block 0
      (.loop [0, 5, 6] [(.exit 0, [5])] l_laws_roll_0)))
    (.seq (.region false [⟨some 37, .p (.move  (.t 5)), none, false⟩,
       ⟨some 4, .p (.move  (.t 37)), none, false⟩])
     (.ret))))
theorem c_laws_roll : FF n_laws_roll = some ⟨38, y_laws_roll.er, [.tmp 4]⟩ := by kernel_rfl
def p_laws_roll (a0 a1 : Value) (h : Hp) (R : Value → Hp → Prop) : Prop :=
  bindO (binV .mul a1 (.int .u64 6257)) fun v9 => bindO (lenV  a0) fun v11 => bindO (convV .u64 v11) fun v12 => bindO (binV .add v9 v12) fun v13 => bindO ((fillX [.slice none 0 0, .int .i64 0, .int .u64 0] [(0, 1, a0), (2, 1, v13)]).map fun cs => Value.agg cs.toArray) fun v14 => bindO (boxV 3 v14) fun c15 => newB h ⟨c15, y_t_laws_dice_68, true⟩ fun b15 h1 => LP FF (YC.er l_laws_roll_0) [0, 5, 6] [(.exit 0, [5], fun vs h2 => ∀ e : Env, [e 5] = vs → R (e 5) h2)] [a0, (.pointer (some ⟨b15, 0, none⟩)), (.int .i64 0)] h1
theorem w_laws_roll {a0 a1 : Value} {h : Hp} {R : Value → Hp → Prop} (H : p_laws_roll a0 a1 h R) : CallW FF n_laws_roll [a0, a1] h R := callV_fin c_laws_roll (Eq.mp (by kernel_rfl) H)
def y_laws_dice_below : YC :=
  .seq (.region false [⟨some 4, .p (.move  (.c (.int .i64 0))), none, false⟩])
  (.seq (.seq (.region false [⟨some 6, .p (.move  (.t 1)), none, false⟩,
      ⟨some 7, .p (.bin .lss (.t 6) (.c (.int .i64 1))), none, false⟩])
    (.cond (.t 7)
     (.seq (.region false [⟨some 4, .p (.move  (.c (.int .i64 0))), none, false⟩])
      (.ret))
     (.skip)))
   (.seq (.region false [⟨some 8, .p (.move  (.t 0)), none, false⟩,
      ⟨some 9, .p (.move  (.t 0)), none, false⟩,
      ⟨some 10, .p (.nilCheck  (.t 9)), none, false⟩,
      ⟨some 11, .p (.fieldAddr 2 (.t 10)), none, false⟩,
      ⟨some 12, .load 1 false (.t 11), none, false⟩,
      ⟨some 13, .p (.bin .mul (.t 12) (.c (.int .u64 6364136223846793005))), none, false⟩,
      ⟨some 14, .p (.bin .add (.t 13) (.c (.int .u64 1442695040888963407))), none, false⟩,
      ⟨some 15, .p (.nilCheck  (.t 8)), none, false⟩,
      ⟨some 16, .p (.fieldAddr 2 (.t 15)), none, false⟩,
      ⟨none, .store 1 (.t 16) (.t 14), none, false⟩])
    (.seq (.region false [⟨some 17, .p (.move  (.t 0)), none, false⟩,
       ⟨some 18, .p (.nilCheck  (.t 17)), none, false⟩,
       ⟨some 19, .p (.fieldAddr 2 (.t 18)), none, false⟩,
       ⟨some 20, .load 1 false (.t 19), none, false⟩,
       ⟨some 21, .p (.bin .shr (.t 20) (.c (.int .u64 33))), none, false⟩,
       ⟨some 22, .p (.bin .and (.t 21) (.c (.int .u64 16777215))), none, false⟩,
       ⟨some 23, .p (.conv .i64 (.t 22)), none, false⟩,
       ⟨some 5, .p (.move  (.t 23)), none, false⟩])
     (.seq (.seq (.region false [⟨some 24, .p (.move  (.t 0)), none, false⟩,
         ⟨some 25, .p (.nilCheck  (.t 24)), none, false⟩,
         ⟨some 26, .p (.fieldAddr 1 (.t 25)), none, false⟩,
         ⟨some 27, .load 1 false (.t 26), none, false⟩,
         ⟨some 28, .p (.move  (.t 0)), none, false⟩,
         ⟨some 29, .p (.nilCheck  (.t 28)), none, false⟩,
         ⟨some 30, .p (.fieldAddr 0 (.t 29)), none, false⟩,
         ⟨some 31, .load 1 false (.t 30), none, false⟩,
         ⟨some 32, .p (.len  (.t 31)), none, false⟩,
         ⟨some 33, .p (.bin .lss (.t 27) (.t 32)), none, false⟩])
       (.cond (.t 33)
        (.seq (.region false [⟨some 34, .p (.move  (.t 5)), none, false⟩,
           ⟨some 35, .p (.move  (.t 0)), none, false⟩,
           ⟨some 36, .p (.nilCheck  (.t 35)), none, false⟩,
           ⟨some 37, .p (.fieldAddr 0 (.t 36)), none, false⟩,
           ⟨some 38, .load 1 false (.t 37), none, false⟩,
           ⟨some 39, .p (.move  (.t 0)), none, false⟩,
           ⟨some 40, .p (.nilCheck  (.t 39)), none, false⟩,
           ⟨some 41, .p (.fieldAddr 1 (.t 40)), none, false⟩,
           ⟨some 42, .load 1 false (.t 41), none, false⟩,
           ⟨some 43, .p (.indexAddr 1 (.t 38) (.t 42)), none, false⟩,
           ⟨some 44, .load 1 false (.t 43), none, false⟩,
           ⟨some 45, .p (.conv .i64 (.t 44)), none, false⟩,
           ⟨some 46, .p (.bin .add (.t 34) (.t 45)), none, false⟩,
           ⟨some 5, .p (.move  (.t 46)), none, false⟩])
         (.region false [⟨some 47, .p (.move  (.t 0)), none, false⟩,
           ⟨some 48, .p (.move  (.t 0)), none, false⟩,
           ⟨some 49, .p (.nilCheck  (.t 48)), none, false⟩,
           ⟨some 50, .p (.fieldAddr 1 (.t 49)), none, false⟩,
           ⟨some 51, .load 1 false (.t 50), none, false⟩,
           ⟨some 52, .p (.bin .add (.t 51) (.c (.int .i64 1))), none, false⟩,
           ⟨some 53, .p (.nilCheck  (.t 47)), none, false⟩,
           ⟨some 54, .p (.fieldAddr 1 (.t 53)), none, false⟩,
           ⟨none, .store 1 (.t 54) (.t 52), none, false⟩]))
        (.skip)))
      (.seq (.region false [⟨some 55, .p (.move  (.t 5)), none, false⟩,
         ⟨some 56, .p (.move  (.t 1)), none, false⟩,
         ⟨some 57, .p (.bin .rem (.t 55) (.t 56)), none, false⟩,
         ⟨some 4, .p (.move  (.t 57)), none, false⟩])
       (.ret))))))
theorem c_laws_dice_below : FF n_laws_dice_below = some ⟨58, y_laws_dice_below.er, [.tmp 4]⟩ := by kernel_rfl
def p_laws_dice_below (a0 a1 : Value) (h : Hp) (R : Value → Hp → Prop) : Prop :=
  bindO (binV .lss a1 (.int .i64 1)) fun v7 => condM v7 (R (.int .i64 0) h) (bindO (nilCheckV  a0) fun v10 => bindO (fieldAddrV 2 v10) fun v11 => bindO (ldV 1 false h v11) fun v12 => bindO (binV .mul v12 (.int .u64 6364136223846793005)) fun v13 => bindO (binV .add v13 (.int .u64 1442695040888963407)) fun v14 => bindO (nilCheckV  a0) fun v15 => bindO (fieldAddrV 2 v15) fun v16 => bindO (storeV 1 h v14 v16) fun h1 => bindO (nilCheckV  a0) fun v18 => bindO (fieldAddrV 2 v18) fun v19 => bindO (ldV 1 false h1 v19) fun v20 => bindO (binV .shr v20 (.int .u64 33)) fun v21 => bindO (binV .and v21 (.int .u64 16777215)) fun v22 => bindO (convV .i64 v22) fun v23 => bindO (nilCheckV  a0) fun v25 => bindO (fieldAddrV 1 v25) fun v26 => bindO (ldV 1 false h1 v26) fun v27 => bindO (nilCheckV  a0) fun v29 => bindO (fieldAddrV 0 v29) fun v30 => bindO (ldV 1 false h1 v30) fun v31 => bindO (lenV  v31) fun v32 => bindO (binV .lss v27 v32) fun v33 => condM v33 (bindO (nilCheckV  a0) fun v36 => bindO (fieldAddrV 0 v36) fun v37 => bindO (ldV 1 false h1 v37) fun v38 => bindO (nilCheckV  a0) fun v40 => bindO (fieldAddrV 1 v40) fun v41 => bindO (ldV 1 false h1 v41) fun v42 => bindO (indexAddrV 1 v38 v42) fun v43 => bindO (ldV 1 false h1 v43) fun v44 => bindO (convV .i64 v44) fun v45 => bindO (binV .add v23 v45) fun v46 => bindO (nilCheckV  a0) fun v49 => bindO (fieldAddrV 1 v49) fun v50 => bindO (ldV 1 false h1 v50) fun v51 => bindO (binV .add v51 (.int .i64 1)) fun v52 => bindO (nilCheckV  a0) fun v53 => bindO (fieldAddrV 1 v53) fun v54 => bindO (storeV 1 h1 v52 v54) fun h2 => bindO (binV .rem v46 a1) fun v57 => R v57 h2) (bindO (binV .rem v23 a1) fun v57 => R v57 h1))
theorem w_laws_dice_below {a0 a1 : Value} {h : Hp} {R : Value → Hp → Prop} (H : p_laws_dice_below a0 a1 h R) : CallW FF n_laws_dice_below [a0, a1] h R := callV_fin c_laws_dice_below (Eq.mp (by kernel_rfl) H)
def l_spec_l01From_0 : YC :=
  .seq (.seq (.region false [⟨some 12, .p (.move  (.t 4)), none, false⟩,
     ⟨some 13, .p (.move  (.t 0)), none, false⟩,
     ⟨some 14, .p (.len  (.t 13)), none, false⟩,
     ⟨some 15, .p (.bin .lss (.t 12) (.t 14)), none, false⟩,
     ⟨some 16, .p (.move  (.t 15)), none, false⟩,
     ⟨some 17, .p (.move  (.t 4)), some (16, true), false⟩,
     ⟨some 18, .p (.bin .lss (.t 17) (.c (.int .i64 4096))), some (16, true), false⟩,
     ⟨some 19, .p (.pick  (.t 16) (.t 18) (.c (.bool false))), none, false⟩])
   (.cond (.t 19)
    (.skip)
    (.exit 0)))
  (.seq (.block 1
    (.region false [⟨some 22, .p (.move  (.t 3)), none, false⟩,
      ⟨some 23, .p (.move  (.t 3)), none, false⟩,
      ⟨some 24, .p (.nilCheck  (.t 23)), none, false⟩,
      ⟨some 25, .p (.fieldAddr 2 (.t 24)), none, false⟩,
      ⟨some 26, .load 1 false (.t 25), none, false⟩,
      ⟨some 27, .p (.bin .mul (.t 26) (.c (.int .u64 1099511628211))), none, false⟩,
      ⟨some 28, .p (.move  (.t 0)), none, false⟩,
      ⟨some 29, .p (.move  (.t 4)), none, false⟩,
      ⟨some 30, .p (.indexAddr 1 (.t 28) (.t 29)), none, false⟩,
      ⟨some 31, .load 1 false (.t 30), none, false⟩,
      ⟨some 32, .p (.conv .u64 (.t 31)), none, false⟩,
      ⟨some 33, .p (.bin .add (.t 27) (.t 32)), none, false⟩,
      ⟨some 34, .p (.bin .add (.t 33) (.c (.int .u64 11))), none, false⟩,
      ⟨some 35, .p (.nilCheck  (.t 22)), none, false⟩,
      ⟨some 36, .p (.fieldAddr 2 (.t 35)), none, false⟩,
      ⟨none, .store 1 (.t 36) (.t 34), none, false⟩]))
   (.region false [⟨some 20, .p (.move  (.t 4)), none, false⟩,
     ⟨some 21, .p (.bin .add (.t 20) (.c (.int .i64 1))), none, false⟩,
     ⟨some 4, .p (.move  (.t 21)), none, false⟩]))
def q_spec_l01From_0 (a0 a3 a4 : Value) (h : Hp) (K K0 : Kont) : Prop :=
  bindO (lenV  a0) fun v14 => bindO (binV .lss a4 v14) fun v15 => condM v15 (bindO (binV .lss a4 (.int .i64 4096)) fun v18 => condM v18 (bindO (nilCheckV  a3) fun v24 => bindO (fieldAddrV 2 v24) fun v25 => bindO (ldV 1 false h v25) fun v26 => bindO (binV .mul v26 (.int .u64 1099511628211)) fun v27 => bindO (indexAddrV 1 a0 a4) fun v30 => bindO (ldV 1 false h v30) fun v31 => bindO (convV .u64 v31) fun v32 => bindO (binV .add v27 v32) fun v33 => bindO (binV .add v33 (.int .u64 11)) fun v34 => bindO (nilCheckV  a3) fun v35 => bindO (fieldAddrV 2 v35) fun v36 => bindO (storeV 1 h v34 v36) fun h1 => bindO (binV .add a4 (.int .i64 1)) fun v21 => K [a0, a3, v21] h1) (K0 [a3] h)) (K0 [a3] h)
theorem wl_spec_l01From_0 {a0 a3 a4 : Value} {h : Hp} {K K0 : Kont} (H : q_spec_l01From_0 a0 a3 a4 h K K0) : ∀ e : Env, [e 0, e 3, e 4] = [a0, a3, a4] → V FF l_spec_l01From_0 (qsel [0, 3, 4] K [(.exit 0, [3], K0)]) ⟨e, h⟩ := by
  intro e he; cases he; exact Eq.mp (by kernel_rfl) H
def y_spec_l01From : YC :=
  .seq (.region false [⟨some 2, .p (.move  (.c (.pointer none))), none, false⟩])
  (.seq (.region false [⟨some 5, .p (.move  (.t 0)), none, false⟩,
     ⟨some 6, .p (.move  (.t 0)), none, false⟩,
     ⟨some 7, .p (.len  (.t 6)), none, false⟩,
     ⟨some 8, .p (.conv .u64 (.t 7)), none, false⟩,
     ⟨some 9, .p (.bin .add (.c (.int .u64 5113)) (.t 8)), none, false⟩,
     ⟨some 10, .p (.build [.slice none 0 0, .int .i64 0, .int .u64 0] [(0, 1, (.t 5)), (2, 1, (.t 9))]), none, false⟩,
     ⟨some 11, .box y_t_spec_l01Source_71 3 (.t 10), none, false⟩,
     ⟨some 3, .p (.move  (.t 11)), none, false⟩])
   (.seq (.seq (.region false [⟨some 4, .p (.move  (.c (.int .i64 0))), none, false⟩])
     (.block 0
      (.loop [0, 3, 4] [(.exit 0, [3])] l_spec_l01From_0)))
    (.seq (.region false [⟨some 37, .p (.move  (.t 3)), none, false⟩,
       ⟨some 2, .p (.move  (.t 37)), none, false⟩])
     (.ret))))
theorem c_spec_l01From : FF n_spec_l01From = some ⟨38, y_spec_l01From.er, [.tmp 2]⟩ := by kernel_rfl
def p_spec_l01From (a0 : Value) (h : Hp) (R : Value → Hp → Prop) : Prop :=
  bindO (lenV  a0) fun v7 => bindO (convV .u64 v7) fun v8 => bindO (binV .add (.int .u64 5113) v8) fun v9 => bindO ((fillX [.slice none 0 0, .int .i64 0, .int .u64 0] [(0, 1, a0), (2, 1, v9)]).map fun cs => Value.agg cs.toArray) fun v10 => bindO (boxV 3 v10) fun c11 => newB h ⟨c11, y_t_spec_l01Source_71, true⟩ fun b11 h1 => LP FF (YC.er l_spec_l01From_0) [0, 3, 4] [(.exit 0, [3], fun vs h2 => ∀ e : Env, [e 3] = vs → R (e 3) h2)] [a0, (.pointer (some ⟨b11, 0, none⟩)), (.int .i64 0)] h1
theorem w_spec_l01From {a0 : Value} {h : Hp} {R : Value → Hp → Prop} (H : p_spec_l01From a0 h R) : CallW FF n_spec_l01From [a0] h R := callV_fin c_spec_l01From (Eq.mp (by kernel_rfl) H)
def y_spec_l04Spoil : YC :=
  .seq (.region false [⟨some 2, .box y_t_impl_Plane 2 (.c (.agg #[.int .i64 0, .slice none 0 0])), none, false⟩])
  (.seq (.region false [⟨some 7, .p (.move  (.t 0)), none, false⟩,
     ⟨some 8, .call (.c (.func (.func n_spec_l04Draw) #[] #[])) [(.t 7)], none, false⟩,
     ⟨some 3, .box y_t_impl_Plane 2 (.c (.agg #[.int .i64 0, .slice none 0 0])), none, false⟩,
     ⟨none, .store 2 (.t 3) (.t 8), none, false⟩])
   (.seq (.region false [⟨some 9, .p (.fieldAddr 1 (.t 3)), none, false⟩,
      ⟨some 10, .load 1 false (.t 9), none, false⟩,
      ⟨some 11, .p (.len  (.t 10)), none, false⟩,
      ⟨some 4, .p (.move  (.t 11)), none, false⟩])
    (.seq (.region false [⟨some 12, .p (.move  (.t 0)), none, false⟩,
       ⟨some 13, .p (.move  (.t 4)), none, false⟩,
       ⟨some 14, .call (.c (.func (.func n_spec_l01Next) #[] #[])) [(.t 12), (.t 13)], none, false⟩,
       ⟨some 5, .p (.move  (.t 14)), none, false⟩])
     (.seq (.region false [⟨some 15, .p (.fieldAddr 1 (.t 3)), none, false⟩,
        ⟨some 16, .load 1 false (.t 15), none, false⟩,
        ⟨some 17, .p (.move  (.t 5)), none, false⟩,
        ⟨some 18, .p (.indexAddr 1 (.t 16) (.t 17)), none, false⟩,
        ⟨some 19, .load 1 false (.t 18), none, false⟩,
        ⟨some 6, .p (.move  (.t 19)), none, false⟩])
      (.seq (.seq (.region false [⟨some 20, .p (.move  (.t 0)), none, false⟩,
          ⟨some 21, .call (.c (.func (.func n_spec_l01Next) #[] #[])) [(.t 20), (.c (.int .i64 24))], none, false⟩])
        (.block 0
         (.seq (.region false [⟨some 23, .p (.bin .eql (.t 21) (.c (.int .i64 0))), none, false⟩,
            ⟨some 22, .p (.move  (.t 23)), none, false⟩])
          (.cond (.t 22)
           (.regionG [⟨some 24, .p (.move  (.t 6)), none, false⟩,
             ⟨some 25, .p (.move  (.t 0)), none, false⟩,
             ⟨some 26, .p (.move  (.t 6)), none, false⟩,
             ⟨some 27, .p (.len  (.t 26)), none, false⟩,
             ⟨some 28, .call (.c (.func (.func n_spec_l01Next) #[] #[])) [(.t 25), (.t 27)], none, true⟩,
             ⟨some 29, .p (.move  (.t 0)), none, false⟩,
             ⟨some 30, .p (.fieldAddr 0 (.t 3)), none, false⟩,
             ⟨some 31, .load 1 false (.t 30), none, true⟩,
             ⟨some 32, .p (.bin .add (.t 31) (.c (.int .i64 1))), none, false⟩,
             ⟨some 33, .call (.c (.func (.func n_spec_l01Next) #[] #[])) [(.t 29), (.t 32)], none, false⟩,
             ⟨some 34, .p (.indexAddr 1 (.t 24) (.t 28)), none, false⟩,
             ⟨none, .store 1 (.t 34) (.t 33), none, false⟩])
           (.seq (.region false [⟨some 36, .p (.bin .eql (.t 21) (.c (.int .i64 1))), none, false⟩,
              ⟨some 35, .p (.move  (.t 36)), none, false⟩])
            (.cond (.t 35)
             (.region false [⟨some 37, .p (.move  (.t 0)), none, false⟩,
               ⟨some 38, .mkrow y_t_int64 1 3 [.int .i64 0] [(0, (.c (.int .i64 1))), (1, (.c (.int .i64 10001))), (2, (.c (.int .i64 2)))], none, false⟩,
               ⟨some 39, .call (.c (.func (.func n_spec_l01Pick) #[] #[])) [(.t 37), (.t 38)], none, false⟩,
               ⟨some 40, .p (.fieldAddr 0 (.t 3)), none, false⟩,
               ⟨none, .store 1 (.t 40) (.t 39), none, false⟩])
             (.seq (.region false [⟨some 42, .p (.bin .eql (.t 21) (.c (.int .i64 2))), none, false⟩,
                ⟨some 41, .p (.move  (.t 42)), none, false⟩])
              (.cond (.t 41)
               (.region false [⟨some 43, .p (.fieldAddr 1 (.t 3)), none, false⟩,
                 ⟨some 44, .load 1 false (.t 43), none, false⟩,
                 ⟨some 45, .p (.slice 1 (.t 44) (some (.c (.int .i64 1))) none), none, false⟩,
                 ⟨some 46, .p (.fieldAddr 1 (.t 3)), none, false⟩,
                 ⟨none, .store 1 (.t 46) (.t 45), none, false⟩])
               (.seq (.region false [⟨some 48, .p (.bin .eql (.t 21) (.c (.int .i64 3))), none, false⟩,
                  ⟨some 47, .p (.move  (.t 48)), none, false⟩])
                (.cond (.t 47)
                 (.region false [⟨some 49, .p (.fieldAddr 1 (.t 3)), none, false⟩,
                   ⟨none, .store 1 (.t 49) (.c (.slice none 0 0)), none, false⟩])
                 (.skip)))))))))))
       (.seq (.region false [⟨some 50, .load 2 true (.t 3), none, false⟩,
          ⟨none, .store 2 (.t 2) (.t 50), none, false⟩])
        (.ret)))))))
theorem c_spec_l04Spoil : FF n_spec_l04Spoil = some ⟨51, y_spec_l04Spoil.er, [.cell 2 2 true]⟩ := by kernel_rfl
def p_spec_l04Spoil (a0 : Value) (h : Hp) (R : Value → Hp → Prop) : Prop :=
  bindO (boxV 2 (.agg #[.int .i64 0, .slice none 0 0])) fun c2 => newB h ⟨c2, y_t_impl_Plane, true⟩ fun b2 h1 => CallW FF n_spec_l04Draw [a0] h1 fun v8 h2 => bindO (boxV 2 (.agg #[.int .i64 0, .slice none 0 0])) fun c3 => newB h2 ⟨c3, y_t_impl_Plane, true⟩ fun b3 h3 => bindO (storeV 2 h3 v8 (.pointer (some ⟨b3, 0, none⟩))) fun h4 => bindO (fieldAddrV 1 (.pointer (some ⟨b3, 0, none⟩))) fun v9 => bindO (ldV 1 false h4 v9) fun v10 => bindO (lenV  v10) fun v11 => CallW FF n_spec_l01Next [a0, v11] h4 fun v14 h5 => bindO (fieldAddrV 1 (.pointer (some ⟨b3, 0, none⟩))) fun v15 => bindO (ldV 1 false h5 v15) fun v16 => bindO (indexAddrV 1 v16 v14) fun v18 => bindO (ldV 1 false h5 v18) fun v19 => CallW FF n_spec_l01Next [a0, (.int .i64 24)] h5 fun v21 h6 => bindO (binV .eql v21 (.int .i64 0)) fun v23 => condM v23 (∃ P : Nat → Prop, (∀ b, P b → b < h6.nx) ∧ (bindO (lenV  v19) fun v27 => CallW FF n_spec_l01Next [a0, v27] h6 fun v28 h7 => keepP P h6 h7 ∧ (bindO (fieldAddrV 0 (.pointer (some ⟨b3, 0, none⟩))) fun v30 => inP P v30 ∧ (bindO (ldV 1 false h7 v30) fun v31 => bindO (binV .add v31 (.int .i64 1)) fun v32 => CallW FF n_spec_l01Next [a0, v32] h7 fun v33 h8 => bindO (indexAddrV 1 v19 v28) fun v34 => bindO (storeV 1 h8 v33 v34) fun h9 => bindO (ldV 2 true h9 (.pointer (some ⟨b3, 0, none⟩))) fun v50 => bindO (storeV 2 h9 v50 (.pointer (some ⟨b2, 0, none⟩))) fun h10 => bindO (ldV 2 true h10 (.pointer (some ⟨b2, 0, none⟩))) fun r2 => R r2 h10)))) (bindO (binV .eql v21 (.int .i64 1)) fun v36 => condM v36 (bindO (rowV 1 3 [.int .i64 0] [(0, (.int .i64 1)), (1, (.int .i64 10001)), (2, (.int .i64 2))]) fun c38 => newB h6 ⟨c38, y_t_int64, true⟩ fun b38 h7 => CallW FF n_spec_l01Pick [a0, (.slice (some ⟨b38, 0, none⟩) 3 1)] h7 fun v39 h8 => bindO (fieldAddrV 0 (.pointer (some ⟨b3, 0, none⟩))) fun v40 => bindO (storeV 1 h8 v39 v40) fun h9 => bindO (ldV 2 true h9 (.pointer (some ⟨b3, 0, none⟩))) fun v50 => bindO (storeV 2 h9 v50 (.pointer (some ⟨b2, 0, none⟩))) fun h10 => bindO (ldV 2 true h10 (.pointer (some ⟨b2, 0, none⟩))) fun r2 => R r2 h10) (bindO (binV .eql v21 (.int .i64 2)) fun v42 => condM v42 (bindO (fieldAddrV 1 (.pointer (some ⟨b3, 0, none⟩))) fun v43 => bindO (ldV 1 false h6 v43) fun v44 => bindO (sliceV 1 (some (.int .i64 1)) none v44) fun v45 => bindO (fieldAddrV 1 (.pointer (some ⟨b3, 0, none⟩))) fun v46 => bindO (storeV 1 h6 v45 v46) fun h7 => bindO (ldV 2 true h7 (.pointer (some ⟨b3, 0, none⟩))) fun v50 => bindO (storeV 2 h7 v50 (.pointer (some ⟨b2, 0, none⟩))) fun h8 => bindO (ldV 2 true h8 (.pointer (some ⟨b2, 0, none⟩))) fun r2 => R r2 h8) (bindO (binV .eql v21 (.int .i64 3)) fun v48 => condM v48 (bindO (fieldAddrV 1 (.pointer (some ⟨b3, 0, none⟩))) fun v49 => bindO (storeV 1 h6 (.slice none 0 0) v49) fun h7 => bindO (ldV 2 true h7 (.pointer (some ⟨b3, 0, none⟩))) fun v50 => bindO (storeV 2 h7 v50 (.pointer (some ⟨b2, 0, none⟩))) fun h8 => bindO (ldV 2 true h8 (.pointer (some ⟨b2, 0, none⟩))) fun r2 => R r2 h8) (bindO (ldV 2 true h6 (.pointer (some ⟨b3, 0, none⟩))) fun v50 => bindO (storeV 2 h6 v50 (.pointer (some ⟨b2, 0, none⟩))) fun h7 => bindO (ldV 2 true h7 (.pointer (some ⟨b2, 0, none⟩))) fun r2 => R r2 h7))))
theorem w_spec_l04Spoil {a0 : Value} {h : Hp} {R : Value → Hp → Prop} (H : p_spec_l04Spoil a0 h R) : CallW FF n_spec_l04Spoil [a0] h R := callV_fin c_spec_l04Spoil (Eq.mp (by kernel_rfl) H)
def y_spec_l01Pick : YC :=
  .seq (.region false [⟨some 4, .p (.move  (.c (.int .i64 0))), none, false⟩])
  (.seq (.region false [⟨some 5, .p (.move  (.t 1)), none, false⟩,
     ⟨some 6, .p (.move  (.t 0)), none, false⟩,
     ⟨some 7, .p (.move  (.t 1)), none, false⟩,
     ⟨some 8, .p (.len  (.t 7)), none, false⟩,
     ⟨some 9, .call (.c (.func (.func n_spec_l01Next) #[] #[])) [(.t 6), (.t 8)], none, false⟩,
     ⟨some 10, .p (.indexAddr 1 (.t 5) (.t 9)), none, false⟩,
     ⟨some 11, .load 1 false (.t 10), none, false⟩,
     ⟨some 4, .p (.move  (.t 11)), none, false⟩])
   (.ret))
theorem c_spec_l01Pick : FF n_spec_l01Pick = some ⟨12, y_spec_l01Pick.er, [.tmp 4]⟩ := by kernel_rfl
def p_spec_l01Pick (a0 a1 : Value) (h : Hp) (R : Value → Hp → Prop) : Prop :=
  bindO (lenV  a1) fun v8 => CallW FF n_spec_l01Next [a0, v8] h fun v9 h1 => bindO (indexAddrV 1 a1 v9) fun v10 => bindO (ldV 1 false h1 v10) fun v11 => R v11 h1
theorem w_spec_l01Pick {a0 a1 : Value} {h : Hp} {R : Value → Hp → Prop} (H : p_spec_l01Pick a0 a1 h R) : CallW FF n_spec_l01Pick [a0, a1] h R := callV_fin c_spec_l01Pick (Eq.mp (by kernel_rfl) H)
def y_impl_IsLaw : YC :=
  .seq (.region false [⟨some 1, .box y_t_impl_Plane 2 (.t 0), none, false⟩,
    ⟨some 2, .p (.move  (.c (.bool false))), none, false⟩])
  (.seq (.region false [⟨some 3, .load 2 true (.t 1), none, false⟩,
     ⟨some 4, .call (.c (.func (.func n_impl_IsPlane) #[] #[])) [(.t 3)], none, false⟩,
     ⟨some 5, .p (.move  (.t 4)), none, false⟩,
     ⟨some 6, .load 2 true (.t 1), some (5, true), false⟩,
     ⟨some 7, .call (.c (.func (.func n_impl_axioms) #[] #[])) [(.t 6)], some (5, true), false⟩,
     ⟨some 8, .p (.isNil false (.t 7)), some (5, true), false⟩,
     ⟨some 9, .p (.pick  (.t 5) (.t 8) (.c (.bool false))), none, false⟩,
     ⟨some 2, .p (.move  (.t 9)), none, false⟩])
   (.ret))
theorem c_impl_IsLaw : FF n_impl_IsLaw = some ⟨10, y_impl_IsLaw.er, [.tmp 2]⟩ := by kernel_rfl
def p_impl_IsLaw (a0 : Value) (h : Hp) (R : Value → Hp → Prop) : Prop :=
  bindO (boxV 2 a0) fun c1 => newB h ⟨c1, y_t_impl_Plane, true⟩ fun b1 h1 => bindO (ldV 2 true h1 (.pointer (some ⟨b1, 0, none⟩))) fun v3 => CallW FF n_impl_IsPlane [v3] h1 fun v4 h2 => condM v4 (bindO (ldV 2 true h2 (.pointer (some ⟨b1, 0, none⟩))) fun v6 => CallW FF n_impl_axioms [v6] h2 fun v7 h3 => bindO (isNilV false v7) fun v8 => R v8 h3) (R (.bool false) h2)
theorem w_impl_IsLaw {a0 : Value} {h : Hp} {R : Value → Hp → Prop} (H : p_impl_IsLaw a0 h R) : CallW FF n_impl_IsLaw [a0] h R := callV_fin c_impl_IsLaw (Eq.mp (by kernel_rfl) H)
def y_impl_isMultiple : YC :=
  .seq (.region false [⟨some 2, .p (.move  (.c (.bool false))), none, false⟩])
  (.seq (.region false [⟨some 3, .p (.move  (.t 0)), none, false⟩,
     ⟨some 4, .call (.c (.func (.func n_impl_in) #[] #[])) [(.t 3), (.c (.int .i64 (-1000000))), (.c (.int .i64 1000000))], none, false⟩,
     ⟨some 2, .p (.move  (.t 4)), none, false⟩])
   (.ret))
theorem c_impl_isMultiple : FF n_impl_isMultiple = some ⟨5, y_impl_isMultiple.er, [.tmp 2]⟩ := by kernel_rfl
def p_impl_isMultiple (a0 : Value) (h : Hp) (R : Value → Hp → Prop) : Prop :=
  CallW FF n_impl_in [a0, (.int .i64 (-1000000)), (.int .i64 1000000)] h fun v4 h1 => R v4 h1
theorem w_impl_isMultiple {a0 : Value} {h : Hp} {R : Value → Hp → Prop} (H : p_impl_isMultiple a0 h R) : CallW FF n_impl_isMultiple [a0] h R := callV_fin c_impl_isMultiple (Eq.mp (by kernel_rfl) H)
def l_impl_Plane_multiple_0 : YC :=
  .seq (.seq (.region false [⟨some 22, .p (.move  (.t 1)), none, false⟩,
     ⟨some 23, .p (.bin .gtr (.t 22) (.c (.int .i64 0))), none, false⟩])
   (.cond (.t 23)
    (.skip)
    (.exit 0)))
  (.seq (.block 1
    (.join [1, 3, 5, 6, 7] (.seq (.region false [⟨some 26, .p (.move  (.t 1)), none, false⟩,
        ⟨some 27, .p (.bin .rem (.t 26) (.c (.int .i64 2))), none, false⟩,
        ⟨some 28, .p (.bin .eql (.t 27) (.c (.int .i64 1))), none, false⟩])
      (.cond (.t 28)
       (.region false [⟨some 29, .load 2 true (.t 3), none, false⟩,
         ⟨some 30, .load 2 true (.t 7), none, false⟩,
         ⟨some 31, .load 2 true (.t 5), none, false⟩,
         ⟨some 32, .call (.c (.func (.func n_impl_Plane_curves) #[] #[])) [(.t 29), (.t 30), (.t 31)], none, false⟩,
         ⟨none, .store 2 (.t 7) (.t 32), none, false⟩])
       (.skip)))
     (.region false [⟨some 33, .load 2 true (.t 3), none, false⟩,
       ⟨some 34, .load 2 true (.t 5), none, false⟩,
       ⟨some 35, .load 2 true (.t 5), none, false⟩,
       ⟨some 36, .call (.c (.func (.func n_impl_Plane_curves) #[] #[])) [(.t 33), (.t 34), (.t 35)], none, false⟩,
       ⟨none, .store 2 (.t 5) (.t 36), none, false⟩])))
   (.region false [⟨some 24, .p (.move  (.t 1)), none, false⟩,
     ⟨some 25, .p (.bin .quo (.t 24) (.c (.int .i64 2))), none, false⟩,
     ⟨some 1, .p (.move  (.t 25)), none, false⟩]))
def q_impl_Plane_multiple_0 (a1 a3 a5 a6 a7 : Value) (h : Hp) (K K0 : Kont) : Prop :=
  bindO (binV .gtr a1 (.int .i64 0)) fun v23 => condM v23 (JN (fun J => bindO (binV .rem a1 (.int .i64 2)) fun v27 => bindO (binV .eql v27 (.int .i64 1)) fun v28 => condM v28 (bindO (ldV 2 true h a3) fun v29 => bindO (ldV 2 true h a7) fun v30 => bindO (ldV 2 true h a5) fun v31 => CallW FF n_impl_Plane_curves [v29, v30, v31] h fun v32 h1 => bindO (storeV 2 h1 v32 a7) fun h2 => J [a1, a3, a5, a6, a7] h2) (J [a1, a3, a5, a6, a7] h)) fun vs h1 => ∀ e : Env, [e 1, e 3, e 5, e 6, e 7] = vs → bindO (ldV 2 true h1 (e 3)) fun v33 => bindO (ldV 2 true h1 (e 5)) fun v34 => bindO (ldV 2 true h1 (e 5)) fun v35 => CallW FF n_impl_Plane_curves [v33, v34, v35] h1 fun v36 h2 => bindO (storeV 2 h2 v36 (e 5)) fun h3 => bindO (binV .quo (e 1) (.int .i64 2)) fun v25 => K [v25, (e 3), (e 5), (e 6), (e 7)] h3) (K0 [a6, a7] h)
theorem wl_impl_Plane_multiple_0 {a1 a3 a5 a6 a7 : Value} {h : Hp} {K K0 : Kont} (H : q_impl_Plane_multiple_0 a1 a3 a5 a6 a7 h K K0) : ∀ e : Env, [e 1, e 3, e 5, e 6, e 7] = [a1, a3, a5, a6, a7] → V FF l_impl_Plane_multiple_0 (qsel [1, 3, 5, 6, 7] K [(.exit 0, [6, 7], K0)]) ⟨e, h⟩ := by
  intro e he; cases he; exact Eq.mp (by kernel_rfl) H
def y_impl_Plane_multiple : YC :=
  .seq (.region false [⟨some 3, .box y_t_impl_Plane 2 (.t 0), none, false⟩,
    ⟨some 5, .box y_t_impl_Series 2 (.t 2), none, false⟩,
    ⟨some 6, .box y_t_impl_Series 2 (.c (.agg #[.int .i64 0, .slice none 0 0])), none, false⟩])
  (.seq (.seq (.region false [⟨some 8, .p (.move  (.t 1)), none, false⟩,
      ⟨some 9, .p (.bin .lss (.t 8) (.c (.int .i64 0))), none, false⟩])
    (.cond (.t 9)
     (.seq (.region true [⟨some 10, .load 2 true (.t 3), none, true⟩,
        ⟨some 11, .load 2 true (.t 3), none, false⟩,
        ⟨some 12, .p (.move  (.t 1)), none, false⟩,
        ⟨some 13, .p (.un .neg (.t 12)), none, false⟩,
        ⟨some 14, .load 2 true (.t 5), none, false⟩,
        ⟨some 15, .call (.c (.func (.func n_impl_Plane_multiple) #[] #[])) [(.t 11), (.t 13), (.t 14)], none, true⟩,
        ⟨some 16, .call (.c (.func (.func n_impl_Plane_opposite) #[] #[])) [(.t 10), (.t 15)], none, false⟩,
        ⟨none, .store 2 (.t 6) (.t 16), none, false⟩])
      (.ret))
     (.skip)))
   (.seq (.region true [⟨some 17, .p (.fieldAddr 0 (.t 3)), none, false⟩,
      ⟨some 18, .load 1 false (.t 17), none, true⟩,
      ⟨some 19, .load 2 true (.t 3), none, false⟩,
      ⟨some 20, .call (.c (.func (.func n_impl_Plane_degree) #[] #[])) [(.t 19)], none, true⟩,
      ⟨some 21, .call (.c (.func (.func n_impl_zero) #[] #[])) [(.t 18), (.t 20)], none, false⟩,
      ⟨some 7, .box y_t_impl_Series 2 (.c (.agg #[.int .i64 0, .slice none 0 0])), none, false⟩,
      ⟨none, .store 2 (.t 7) (.t 21), none, false⟩])
    (.seq (.block 0
      (.loop [1, 3, 5, 6, 7] [(.exit 0, [6, 7])] l_impl_Plane_multiple_0))
     (.seq (.region false [⟨some 37, .load 2 true (.t 7), none, false⟩,
        ⟨none, .store 2 (.t 6) (.t 37), none, false⟩])
      (.ret)))))
theorem c_impl_Plane_multiple : FF n_impl_Plane_multiple = some ⟨38, y_impl_Plane_multiple.er, [.cell 6 2 true]⟩ := by kernel_rfl
def p_impl_Plane_multiple (a0 a1 a2 : Value) (h : Hp) (R : Value → Hp → Prop) : Prop :=
  bindO (boxV 2 a0) fun c3 => newB h ⟨c3, y_t_impl_Plane, true⟩ fun b3 h1 => bindO (boxV 2 a2) fun c5 => newB h1 ⟨c5, y_t_impl_Series, true⟩ fun b5 h2 => bindO (boxV 2 (.agg #[.int .i64 0, .slice none 0 0])) fun c6 => newB h2 ⟨c6, y_t_impl_Series, true⟩ fun b6 h3 => bindO (binV .lss a1 (.int .i64 0)) fun v9 => condM v9 (inB h3.nx (.pointer (some ⟨b3, 0, none⟩)) ∧ (bindO (ldV 2 true h3 (.pointer (some ⟨b3, 0, none⟩))) fun v10 => bindO (ldV 2 true h3 (.pointer (some ⟨b3, 0, none⟩))) fun v11 => bindO (unV .neg a1) fun v13 => bindO (ldV 2 true h3 (.pointer (some ⟨b5, 0, none⟩))) fun v14 => CallW FF n_impl_Plane_multiple [v11, v13, v14] h3 fun v15 h4 => keepB h3.nx h3 h4 ∧ (CallW FF n_impl_Plane_opposite [v10, v15] h4 fun v16 h5 => bindO (storeV 2 h5 v16 (.pointer (some ⟨b6, 0, none⟩))) fun h6 => bindO (ldV 2 true h6 (.pointer (some ⟨b6, 0, none⟩))) fun r6 => R r6 h6))) (bindO (fieldAddrV 0 (.pointer (some ⟨b3, 0, none⟩))) fun v17 => inB h3.nx v17 ∧ (bindO (ldV 1 false h3 v17) fun v18 => bindO (ldV 2 true h3 (.pointer (some ⟨b3, 0, none⟩))) fun v19 => CallW FF n_impl_Plane_degree [v19] h3 fun v20 h4 => keepB h3.nx h3 h4 ∧ (CallW FF n_impl_zero [v18, v20] h4 fun v21 h5 => bindO (boxV 2 (.agg #[.int .i64 0, .slice none 0 0])) fun c7 => newB h5 ⟨c7, y_t_impl_Series, true⟩ fun b7 h6 => bindO (storeV 2 h6 v21 (.pointer (some ⟨b7, 0, none⟩))) fun h7 => LP FF (YC.er l_impl_Plane_multiple_0) [1, 3, 5, 6, 7] [(.exit 0, [6, 7], fun vs h8 => ∀ e : Env, [e 6, e 7] = vs → bindO (ldV 2 true h8 (e 7)) fun v37 => bindO (storeV 2 h8 v37 (e 6)) fun h9 => bindO (ldV 2 true h9 (e 6)) fun r6 => R r6 h9)] [a1, (.pointer (some ⟨b3, 0, none⟩)), (.pointer (some ⟨b5, 0, none⟩)), (.pointer (some ⟨b6, 0, none⟩)), (.pointer (some ⟨b7, 0, none⟩))] h7)))
theorem w_impl_Plane_multiple {a0 a1 a2 : Value} {h : Hp} {R : Value → Hp → Prop} (H : p_impl_Plane_multiple a0 a1 a2 h R) : CallW FF n_impl_Plane_multiple [a0, a1, a2] h R := callV_fin c_impl_Plane_multiple (Eq.mp (by kernel_rfl) H)
def y_impl_variable : YC :=
  .seq (.region false [⟨some 4, .box y_t_impl_Series 2 (.c (.agg #[.int .i64 0, .slice none 0 0])), none, false⟩])
  (.seq (.region false [⟨some 6, .p (.move  (.t 0)), none, false⟩,
     ⟨some 7, .p (.move  (.t 1)), none, false⟩,
     ⟨some 8, .call (.c (.func (.func n_impl_zero) #[] #[])) [(.t 6), (.t 7)], none, false⟩,
     ⟨some 5, .box y_t_impl_Series 2 (.c (.agg #[.int .i64 0, .slice none 0 0])), none, false⟩,
     ⟨none, .store 2 (.t 5) (.t 8), none, false⟩])
   (.seq (.region false [⟨some 9, .p (.fieldAddr 1 (.t 5)), none, false⟩,
      ⟨some 10, .load 1 false (.t 9), none, false⟩,
      ⟨some 11, .p (.indexAddr 1 (.t 10) (.c (.int .i64 1))), none, false⟩,
      ⟨none, .store 1 (.t 11) (.c (.int .i64 1)), none, false⟩])
    (.seq (.region false [⟨some 12, .load 2 true (.t 5), none, false⟩,
       ⟨none, .store 2 (.t 4) (.t 12), none, false⟩])
     (.ret))))
theorem c_impl_variable : FF n_impl_variable = some ⟨13, y_impl_variable.er, [.cell 4 2 true]⟩ := by kernel_rfl
def p_impl_variable (a0 a1 : Value) (h : Hp) (R : Value → Hp → Prop) : Prop :=
  bindO (boxV 2 (.agg #[.int .i64 0, .slice none 0 0])) fun c4 => newB h ⟨c4, y_t_impl_Series, true⟩ fun b4 h1 => CallW FF n_impl_zero [a0, a1] h1 fun v8 h2 => bindO (boxV 2 (.agg #[.int .i64 0, .slice none 0 0])) fun c5 => newB h2 ⟨c5, y_t_impl_Series, true⟩ fun b5 h3 => bindO (storeV 2 h3 v8 (.pointer (some ⟨b5, 0, none⟩))) fun h4 => bindO (fieldAddrV 1 (.pointer (some ⟨b5, 0, none⟩))) fun v9 => bindO (ldV 1 false h4 v9) fun v10 => bindO (indexAddrV 1 v10 (.int .i64 1)) fun v11 => bindO (storeV 1 h4 (.int .i64 1) v11) fun h5 => bindO (ldV 2 true h5 (.pointer (some ⟨b5, 0, none⟩))) fun v12 => bindO (storeV 2 h5 v12 (.pointer (some ⟨b4, 0, none⟩))) fun h6 => bindO (ldV 2 true h6 (.pointer (some ⟨b4, 0, none⟩))) fun r4 => R r4 h6
theorem w_impl_variable {a0 a1 : Value} {h : Hp} {R : Value → Hp → Prop} (H : p_impl_variable a0 a1 h R) : CallW FF n_impl_variable [a0, a1] h R := callV_fin c_impl_variable (Eq.mp (by kernel_rfl) H)
def y_impl_Plane_degree : YC :=
  .seq (.region false [⟨some 1, .box y_t_impl_Plane 2 (.t 0), none, false⟩,
    ⟨some 2, .p (.move  (.c (.int .i64 0))), none, false⟩])
  (.seq (.region false [⟨some 3, .p (.fieldAddr 1 (.t 1)), none, false⟩,
     ⟨some 4, .load 1 false (.t 3), none, false⟩,
     ⟨some 5, .p (.len  (.t 4)), none, false⟩,
     ⟨some 6, .p (.bin .sub (.t 5) (.c (.int .i64 1))), none, false⟩,
     ⟨some 2, .p (.move  (.t 6)), none, false⟩])
   (.ret))
theorem c_impl_Plane_degree : FF n_impl_Plane_degree = some ⟨7, y_impl_Plane_degree.er, [.tmp 2]⟩ := by kernel_rfl
def p_impl_Plane_degree (a0 : Value) (h : Hp) (R : Value → Hp → Prop) : Prop :=
  bindO (boxV 2 a0) fun c1 => newB h ⟨c1, y_t_impl_Plane, true⟩ fun b1 h1 => bindO (fieldAddrV 1 (.pointer (some ⟨b1, 0, none⟩))) fun v3 => bindO (ldV 1 false h1 v3) fun v4 => bindO (lenV  v4) fun v5 => bindO (binV .sub v5 (.int .i64 1)) fun v6 => R v6 h1
theorem w_impl_Plane_degree {a0 : Value} {h : Hp} {R : Value → Hp → Prop} (H : p_impl_Plane_degree a0 h R) : CallW FF n_impl_Plane_degree [a0] h R := callV_fin c_impl_Plane_degree (Eq.mp (by kernel_rfl) H)
def y_spec_l04Is : YC :=
  .seq (.region false [⟨some 1, .box y_t_impl_Plane 2 (.t 0), none, false⟩,
    ⟨some 2, .p (.move  (.c (.bool false))), none, false⟩])
  (.seq (.region false [⟨some 3, .load 2 true (.t 1), none, false⟩,
     ⟨some 4, .call (.c (.func (.func n_spec_l03Is) #[] #[])) [(.t 3)], none, false⟩,
     ⟨some 5, .p (.move  (.t 4)), none, false⟩,
     ⟨some 6, .load 2 true (.t 1), some (5, true), false⟩,
     ⟨some 7, .call (.c (.func (.func n_spec_l04Fault) #[] #[])) [(.t 6)], some (5, true), false⟩,
     ⟨some 8, .p (.len  (.t 7)), some (5, true), false⟩,
     ⟨some 9, .p (.bin .eql (.t 8) (.c (.int .i64 0))), some (5, true), false⟩,
     ⟨some 10, .p (.pick  (.t 5) (.t 9) (.c (.bool false))), none, false⟩,
     ⟨some 2, .p (.move  (.t 10)), none, false⟩])
   (.ret))
theorem c_spec_l04Is : FF n_spec_l04Is = some ⟨11, y_spec_l04Is.er, [.tmp 2]⟩ := by kernel_rfl
def p_spec_l04Is (a0 : Value) (h : Hp) (R : Value → Hp → Prop) : Prop :=
  bindO (boxV 2 a0) fun c1 => newB h ⟨c1, y_t_impl_Plane, true⟩ fun b1 h1 => bindO (ldV 2 true h1 (.pointer (some ⟨b1, 0, none⟩))) fun v3 => CallW FF n_spec_l03Is [v3] h1 fun v4 h2 => condM v4 (bindO (ldV 2 true h2 (.pointer (some ⟨b1, 0, none⟩))) fun v6 => CallW FF n_spec_l04Fault [v6] h2 fun v7 h3 => bindO (lenV  v7) fun v8 => bindO (binV .eql v8 (.int .i64 0)) fun v9 => R v9 h3) (R (.bool false) h2)
theorem w_spec_l04Is {a0 : Value} {h : Hp} {R : Value → Hp → Prop} (H : p_spec_l04Is a0 h R) : CallW FF n_spec_l04Is [a0] h R := callV_fin c_spec_l04Is (Eq.mp (by kernel_rfl) H)
def y_spec_l01In : YC :=
  .seq (.region false [⟨some 6, .p (.move  (.c (.bool false))), none, false⟩])
  (.seq (.region false [⟨some 7, .p (.move  (.t 0)), none, false⟩,
     ⟨some 8, .p (.move  (.t 1)), none, false⟩,
     ⟨some 9, .p (.bin .geq (.t 7) (.t 8)), none, false⟩,
     ⟨some 10, .p (.move  (.t 9)), none, false⟩,
     ⟨some 11, .p (.move  (.t 0)), some (10, true), false⟩,
     ⟨some 12, .p (.move  (.t 2)), some (10, true), false⟩,
     ⟨some 13, .p (.bin .leq (.t 11) (.t 12)), some (10, true), false⟩,
     ⟨some 14, .p (.pick  (.t 10) (.t 13) (.c (.bool false))), none, false⟩,
     ⟨some 6, .p (.move  (.t 14)), none, false⟩])
   (.ret))
theorem c_spec_l01In : FF n_spec_l01In = some ⟨15, y_spec_l01In.er, [.tmp 6]⟩ := by kernel_rfl
def p_spec_l01In (a0 a1 a2 : Value) (h : Hp) (R : Value → Hp → Prop) : Prop :=
  bindO (binV .geq a0 a1) fun v9 => condM v9 (bindO (binV .leq a0 a2) fun v13 => R v13 h) (R (.bool false) h)
theorem w_spec_l01In {a0 a1 a2 : Value} {h : Hp} {R : Value → Hp → Prop} (H : p_spec_l01In a0 a1 a2 h R) : CallW FF n_spec_l01In [a0, a1, a2] h R := callV_fin c_spec_l01In (Eq.mp (by kernel_rfl) H)
def y_spec_l02Make : YC :=
  .seq (.region false [⟨some 4, .box y_t_impl_Series 2 (.c (.agg #[.int .i64 0, .slice none 0 0])), none, false⟩])
  (.seq (.region false [⟨some 5, .p (.move  (.t 0)), none, false⟩,
     ⟨some 6, .p (.move  (.t 1)), none, false⟩,
     ⟨some 7, .p (.build [.int .i64 0, .slice none 0 0] [(0, 1, (.t 5)), (1, 1, (.t 6))]), none, false⟩,
     ⟨none, .store 2 (.t 4) (.t 7), none, false⟩])
   (.ret))
theorem c_spec_l02Make : FF n_spec_l02Make = some ⟨8, y_spec_l02Make.er, [.cell 4 2 true]⟩ := by kernel_rfl
def p_spec_l02Make (a0 a1 : Value) (h : Hp) (R : Value → Hp → Prop) : Prop :=
  bindO (boxV 2 (.agg #[.int .i64 0, .slice none 0 0])) fun c4 => newB h ⟨c4, y_t_impl_Series, true⟩ fun b4 h1 => bindO ((fillX [.int .i64 0, .slice none 0 0] [(0, 1, a0), (1, 1, a1)]).map fun cs => Value.agg cs.toArray) fun v7 => bindO (storeV 2 h1 v7 (.pointer (some ⟨b4, 0, none⟩))) fun h2 => bindO (ldV 2 true h2 (.pointer (some ⟨b4, 0, none⟩))) fun r4 => R r4 h2
theorem w_spec_l02Make {a0 a1 : Value} {h : Hp} {R : Value → Hp → Prop} (H : p_spec_l02Make a0 a1 h R) : CallW FF n_spec_l02Make [a0, a1] h R := callV_fin c_spec_l02Make (Eq.mp (by kernel_rfl) H)
def y_spec_l04Of : YC :=
  .seq (.region false [⟨some 2, .box y_t_impl_Plane 2 (.t 0), none, false⟩,
    ⟨some 4, .p (.move  (.c (.slice none 0 0))), none, false⟩])
  (.seq (.region false [⟨some 6, .p (.fieldAddr 1 (.t 2)), none, false⟩,
     ⟨some 7, .load 1 false (.t 6), none, false⟩,
     ⟨some 8, .p (.len  (.t 7)), none, false⟩,
     ⟨some 9, .make y_t_int64 1 8 [.int .i64 0] (.t 8), none, false⟩,
     ⟨some 5, .p (.move  (.t 9)), none, false⟩])
   (.seq (.region false [⟨some 10, .p (.move  (.t 5)), none, false⟩,
      ⟨some 11, .p (.indexAddr 1 (.t 10) (.c (.int .i64 1))), none, false⟩,
      ⟨none, .store 1 (.t 11) (.c (.int .i64 1)), none, false⟩])
    (.seq (.region false [⟨some 12, .load 2 true (.t 2), none, false⟩,
       ⟨some 13, .p (.move  (.t 1)), none, false⟩,
       ⟨some 14, .p (.move  (.t 5)), none, false⟩,
       ⟨some 15, .call (.c (.func (.func n_spec_l04Multiple) #[] #[])) [(.t 12), (.t 13), (.t 14)], none, false⟩,
       ⟨some 4, .p (.move  (.t 15)), none, false⟩])
     (.ret))))
theorem c_spec_l04Of : FF n_spec_l04Of = some ⟨16, y_spec_l04Of.er, [.tmp 4]⟩ := by kernel_rfl
def p_spec_l04Of (a0 a1 : Value) (h : Hp) (R : Value → Hp → Prop) : Prop :=
  bindO (boxV 2 a0) fun c2 => newB h ⟨c2, y_t_impl_Plane, true⟩ fun b2 h1 => bindO (fieldAddrV 1 (.pointer (some ⟨b2, 0, none⟩))) fun v6 => bindO (ldV 1 false h1 v6) fun v7 => bindO (lenV  v7) fun v8 => bindO (makN v8) fun c9 => newB h1 ⟨reps c9 [.int .i64 0], y_t_int64, true⟩ fun b9 h2 => bindO (indexAddrV 1 (.slice (some ⟨b9, 0, none⟩) c9 1) (.int .i64 1)) fun v11 => bindO (storeV 1 h2 (.int .i64 1) v11) fun h3 => bindO (ldV 2 true h3 (.pointer (some ⟨b2, 0, none⟩))) fun v12 => CallW FF n_spec_l04Multiple [v12, a1, (.slice (some ⟨b9, 0, none⟩) c9 1)] h3 fun v15 h4 => R v15 h4
theorem w_spec_l04Of {a0 a1 : Value} {h : Hp} {R : Value → Hp → Prop} (H : p_spec_l04Of a0 a1 h R) : CallW FF n_spec_l04Of [a0, a1] h R := callV_fin c_spec_l04Of (Eq.mp (by kernel_rfl) H)
def l_laws_likeInts_0 : YC :=
  .seq (.seq (.region false [⟨some 11, .p (.move  (.t 5)), none, false⟩,
     ⟨some 12, .p (.move  (.t 0)), none, false⟩,
     ⟨some 13, .p (.len  (.t 12)), none, false⟩,
     ⟨some 14, .p (.bin .lss (.t 11) (.t 13)), none, false⟩])
   (.cond (.t 14)
    (.skip)
    (.exit 0)))
  (.seq (.block 1
    (.seq (.region false [⟨some 17, .p (.move  (.t 0)), none, false⟩,
       ⟨some 18, .p (.move  (.t 5)), none, false⟩,
       ⟨some 19, .p (.indexAddr 1 (.t 17) (.t 18)), none, false⟩,
       ⟨some 20, .load 1 false (.t 19), none, false⟩,
       ⟨some 21, .p (.move  (.t 1)), none, false⟩,
       ⟨some 22, .p (.move  (.t 5)), none, false⟩,
       ⟨some 23, .p (.indexAddr 1 (.t 21) (.t 22)), none, false⟩,
       ⟨some 24, .load 1 false (.t 23), none, false⟩,
       ⟨some 25, .p (.bin .neq (.t 20) (.t 24)), none, false⟩])
     (.cond (.t 25)
      (.seq (.region false [⟨some 4, .p (.move  (.c (.bool false))), none, false⟩])
       (.ret))
      (.skip))))
   (.region false [⟨some 15, .p (.move  (.t 5)), none, false⟩,
     ⟨some 16, .p (.bin .add (.t 15) (.c (.int .i64 1))), none, false⟩,
     ⟨some 5, .p (.move  (.t 16)), none, false⟩]))
def q_laws_likeInts_0 (a0 a1 a5 : Value) (h : Hp) (K K0 K1 : Kont) : Prop :=
  bindO (lenV  a0) fun v13 => bindO (binV .lss a5 v13) fun v14 => condM v14 (bindO (indexAddrV 1 a0 a5) fun v19 => bindO (ldV 1 false h v19) fun v20 => bindO (indexAddrV 1 a1 a5) fun v23 => bindO (ldV 1 false h v23) fun v24 => bindO (binV .neq v20 v24) fun v25 => condM v25 (K1 [(.bool false)] h) (bindO (binV .add a5 (.int .i64 1)) fun v16 => K [a0, a1, v16] h)) (K0 [] h)
theorem wl_laws_likeInts_0 {a0 a1 a5 : Value} {h : Hp} {K K0 K1 : Kont} (H : q_laws_likeInts_0 a0 a1 a5 h K K0 K1) : ∀ e : Env, [e 0, e 1, e 5] = [a0, a1, a5] → V FF l_laws_likeInts_0 (qsel [0, 1, 5] K [(.exit 0, [], K0), (.ret, [4], K1)]) ⟨e, h⟩ := by
  intro e he; cases he; exact Eq.mp (by kernel_rfl) H
def y_laws_likeInts : YC :=
  .seq (.region false [⟨some 4, .p (.move  (.c (.bool false))), none, false⟩])
  (.seq (.seq (.region false [⟨some 6, .p (.move  (.t 0)), none, false⟩,
      ⟨some 7, .p (.len  (.t 6)), none, false⟩,
      ⟨some 8, .p (.move  (.t 1)), none, false⟩,
      ⟨some 9, .p (.len  (.t 8)), none, false⟩,
      ⟨some 10, .p (.bin .neq (.t 7) (.t 9)), none, false⟩])
    (.cond (.t 10)
     (.seq (.region false [⟨some 4, .p (.move  (.c (.bool false))), none, false⟩])
      (.ret))
     (.skip)))
   (.seq (.seq (.region false [⟨some 5, .p (.move  (.c (.int .i64 0))), none, false⟩])
     (.block 0
      (.loop [0, 1, 5] [(.exit 0, []), (.ret, [4])] l_laws_likeInts_0)))
    (.seq (.region false [⟨some 4, .p (.move  (.c (.bool true))), none, false⟩])
     (.ret))))
theorem c_laws_likeInts : FF n_laws_likeInts = some ⟨26, y_laws_likeInts.er, [.tmp 4]⟩ := by kernel_rfl
def p_laws_likeInts (a0 a1 : Value) (h : Hp) (R : Value → Hp → Prop) : Prop :=
  bindO (lenV  a0) fun v7 => bindO (lenV  a1) fun v9 => bindO (binV .neq v7 v9) fun v10 => condM v10 (R (.bool false) h) (LP FF (YC.er l_laws_likeInts_0) [0, 1, 5] [(.exit 0, [], fun vs h1 => ∀ e : Env, [] = vs → R (.bool true) h1), (.ret, [4], fun vs h1 => ∀ e : Env, [e 4] = vs → R (e 4) h1)] [a0, a1, (.int .i64 0)] h)
theorem w_laws_likeInts {a0 a1 : Value} {h : Hp} {R : Value → Hp → Prop} (H : p_laws_likeInts a0 a1 h R) : CallW FF n_laws_likeInts [a0, a1] h R := callV_fin c_laws_likeInts (Eq.mp (by kernel_rfl) H)
def l_spec_l04Curves_0 : YC :=
  .seq (.seq (.region false [⟨some 24, .p (.move  (.t 10)), none, false⟩,
     ⟨some 25, .p (.fieldAddr 1 (.t 7)), none, false⟩,
     ⟨some 26, .load 1 false (.t 25), none, false⟩,
     ⟨some 27, .p (.len  (.t 26)), none, false⟩,
     ⟨some 28, .p (.bin .lss (.t 24) (.t 27)), none, false⟩])
   (.cond (.t 28)
    (.skip)
    (.exit 2)))
  (.seq (.block 3
    (.regionG [⟨some 31, .p (.fieldAddr 1 (.t 9)), none, false⟩,
      ⟨some 32, .load 1 false (.t 31), none, true⟩,
      ⟨some 33, .p (.move  (.t 6)), none, false⟩,
      ⟨some 34, .p (.fieldAddr 0 (.t 7)), none, false⟩,
      ⟨some 35, .load 1 false (.t 34), none, false⟩,
      ⟨some 36, .p (.mx  (.c (.int .i64 1)) (.t 35)), none, false⟩,
      ⟨some 37, .call (.c (.func (.func n_spec_l01Next) #[] #[])) [(.t 33), (.t 36)], none, true⟩,
      ⟨some 38, .mkrow y_t_int64 1 1 [.int .i64 0] [(0, (.t 37))], none, false⟩,
      ⟨some 39, .append y_t_int64 1 8 (.t 32) (.t 38), none, false⟩,
      ⟨some 40, .p (.fieldAddr 1 (.t 9)), none, false⟩,
      ⟨none, .store 1 (.t 40) (.t 39), none, false⟩]))
   (.region false [⟨some 29, .p (.move  (.t 10)), none, false⟩,
     ⟨some 30, .p (.bin .add (.t 29) (.c (.int .i64 1))), none, false⟩,
     ⟨some 10, .p (.move  (.t 30)), none, false⟩]))
def q_spec_l04Curves_0 (a1 a4 a6 a7 a8 a9 a10 : Value) (h : Hp) (K K0 : Kont) : Prop :=
  bindO (fieldAddrV 1 a7) fun v25 => bindO (ldV 1 false h v25) fun v26 => bindO (lenV  v26) fun v27 => bindO (binV .lss a10 v27) fun v28 => condM v28 (∃ P : Nat → Prop, (∀ b, P b → b < h.nx) ∧ (bindO (fieldAddrV 1 a9) fun v31 => inP P v31 ∧ (bindO (ldV 1 false h v31) fun v32 => bindO (fieldAddrV 0 a7) fun v34 => bindO (ldV 1 false h v34) fun v35 => bindO (mxV  (.int .i64 1) v35) fun v36 => CallW FF n_spec_l01Next [a6, v36] h fun v37 h1 => keepP P h h1 ∧ (bindO (rowV 1 1 [.int .i64 0] [(0, v37)]) fun c38 => newB h1 ⟨c38, y_t_int64, true⟩ fun b38 h2 => bindVH (appendV y_t_int64 1 h2 v32 (.slice (some ⟨b38, 0, none⟩) 1 1)) fun v39 h3 => bindO (fieldAddrV 1 a9) fun v40 => bindO (storeV 1 h3 v39 v40) fun h4 => bindO (binV .add a10 (.int .i64 1)) fun v30 => K [a1, a4, a6, a7, a8, a9, v30] h4)))) (K0 [a1, a4, a6, a7, a8, a9] h)
theorem wl_spec_l04Curves_0 {a1 a4 a6 a7 a8 a9 a10 : Value} {h : Hp} {K K0 : Kont} (H : q_spec_l04Curves_0 a1 a4 a6 a7 a8 a9 a10 h K K0) : ∀ e : Env, [e 1, e 4, e 6, e 7, e 8, e 9, e 10] = [a1, a4, a6, a7, a8, a9, a10] → V FF l_spec_l04Curves_0 (qsel [1, 4, 6, 7, 8, 9, 10] K [(.exit 2, [1, 4, 6, 7, 8, 9], K0)]) ⟨e, h⟩ := by
  intro e he; cases he; exact Eq.mp (by kernel_rfl) H
def l_spec_l04Curves_1 : YC :=
  .seq (.seq (.region false [⟨some 16, .p (.move  (.t 1)), none, false⟩,
     ⟨some 17, .p (.bin .gtr (.t 16) (.c (.int .i64 0))), none, false⟩])
   (.cond (.t 17)
    (.skip)
    (.exit 0)))
  (.seq (.block 1
    (.seq (.region false [⟨some 20, .p (.fieldAddr 0 (.t 7)), none, false⟩,
       ⟨some 21, .load 1 false (.t 20), none, false⟩,
       ⟨some 22, .mkrow y_t_int64 1 1 [.int .i64 0] [(0, (.c (.int .i64 0)))], none, false⟩,
       ⟨some 23, .p (.build [.int .i64 0, .slice none 0 0] [(0, 1, (.t 21)), (1, 1, (.t 22))]), none, false⟩,
       ⟨some 9, .box y_t_impl_Series 2 (.c (.agg #[.int .i64 0, .slice none 0 0])), none, false⟩,
       ⟨none, .store 2 (.t 9) (.t 23), none, false⟩])
     (.seq (.seq (.region false [⟨some 10, .p (.move  (.c (.int .i64 1))), none, false⟩])
       (.block 2
        (.loop [1, 4, 6, 7, 8, 9, 10] [(.exit 2, [1, 4, 6, 7, 8, 9])] l_spec_l04Curves_0)))
      (.seq (.seq (.region false [⟨some 41, .p (.move  (.t 6)), none, false⟩,
          ⟨some 42, .call (.c (.func (.func n_spec_l01Next) #[] #[])) [(.t 41), (.c (.int .i64 40))], none, false⟩])
        (.block 4
         (.seq (.region false [⟨some 44, .p (.bin .eql (.t 42) (.c (.int .i64 0))), none, false⟩,
            ⟨some 43, .p (.move  (.t 44)), none, false⟩])
          (.cond (.t 43)
           (.region false [⟨some 45, .p (.fieldAddr 1 (.t 9)), none, false⟩,
             ⟨some 46, .load 1 false (.t 45), none, false⟩,
             ⟨some 47, .p (.indexAddr 1 (.t 46) (.c (.int .i64 0))), none, false⟩,
             ⟨none, .store 1 (.t 47) (.c (.int .i64 1)), none, false⟩])
           (.seq (.region false [⟨some 49, .p (.bin .eql (.t 42) (.c (.int .i64 1))), none, false⟩,
              ⟨some 48, .p (.move  (.t 49)), none, false⟩])
            (.cond (.t 48)
             (.region false [⟨some 50, .p (.fieldAddr 0 (.t 9)), none, false⟩,
               ⟨some 51, .load 1 false (.t 50), none, false⟩,
               ⟨some 52, .p (.bin .add (.t 51) (.c (.int .i64 1))), none, false⟩,
               ⟨some 53, .p (.fieldAddr 0 (.t 9)), none, false⟩,
               ⟨none, .store 1 (.t 53) (.t 52), none, false⟩])
             (.seq (.region false [⟨some 55, .p (.bin .eql (.t 42) (.c (.int .i64 2))), none, false⟩,
                ⟨some 54, .p (.move  (.t 55)), none, false⟩])
              (.cond (.t 54)
               (.region false [⟨some 56, .p (.fieldAddr 1 (.t 9)), none, false⟩,
                 ⟨some 57, .load 1 false (.t 56), none, false⟩,
                 ⟨some 58, .mkrow y_t_int64 1 1 [.int .i64 0] [(0, (.c (.int .i64 0)))], none, false⟩,
                 ⟨some 59, .append y_t_int64 1 8 (.t 57) (.t 58), none, false⟩,
                 ⟨some 60, .p (.fieldAddr 1 (.t 9)), none, false⟩,
                 ⟨none, .store 1 (.t 60) (.t 59), none, false⟩])
               (.skip)))))))))
       (.region false [⟨some 61, .p (.move  (.t 8)), none, false⟩,
         ⟨some 62, .load 2 true (.t 9), none, false⟩,
         ⟨some 63, .mkrow y_t_impl_Series 2 1 [.int .i64 0, .slice none 0 0] [(0, (.t 62))], none, false⟩,
         ⟨some 64, .append y_t_impl_Series 2 32 (.t 61) (.t 63), none, false⟩,
         ⟨some 8, .p (.move  (.t 64)), none, false⟩])))))
   (.region false [⟨some 18, .p (.move  (.t 1)), none, false⟩,
     ⟨some 19, .p (.bin .sub (.t 18) (.c (.int .i64 1))), none, false⟩,
     ⟨some 1, .p (.move  (.t 19)), none, false⟩]))
def q_spec_l04Curves_1 (a1 a4 a6 a7 a8 : Value) (h : Hp) (K K0 : Kont) : Prop :=
  bindO (binV .gtr a1 (.int .i64 0)) fun v17 => condM v17 (bindO (fieldAddrV 0 a7) fun v20 => bindO (ldV 1 false h v20) fun v21 => bindO (rowV 1 1 [.int .i64 0] [(0, (.int .i64 0))]) fun c22 => newB h ⟨c22, y_t_int64, true⟩ fun b22 h1 => bindO ((fillX [.int .i64 0, .slice none 0 0] [(0, 1, v21), (1, 1, (.slice (some ⟨b22, 0, none⟩) 1 1))]).map fun cs => Value.agg cs.toArray) fun v23 => bindO (boxV 2 (.agg #[.int .i64 0, .slice none 0 0])) fun c9 => newB h1 ⟨c9, y_t_impl_Series, true⟩ fun b9 h2 => bindO (storeV 2 h2 v23 (.pointer (some ⟨b9, 0, none⟩))) fun h3 => LP FF (YC.er l_spec_l04Curves_0) [1, 4, 6, 7, 8, 9, 10] [(.exit 2, [1, 4, 6, 7, 8, 9], fun vs h4 => ∀ e : Env, [e 1, e 4, e 6, e 7, e 8, e 9] = vs → CallW FF n_spec_l01Next [(e 6), (.int .i64 40)] h4 fun v42 h5 => bindO (binV .eql v42 (.int .i64 0)) fun v44 => condM v44 (bindO (fieldAddrV 1 (e 9)) fun v45 => bindO (ldV 1 false h5 v45) fun v46 => bindO (indexAddrV 1 v46 (.int .i64 0)) fun v47 => bindO (storeV 1 h5 (.int .i64 1) v47) fun h6 => bindO (ldV 2 true h6 (e 9)) fun v62 => bindO (rowV 2 1 [.int .i64 0, .slice none 0 0] [(0, v62)]) fun c63 => newB h6 ⟨c63, y_t_impl_Series, true⟩ fun b63 h7 => bindVH (appendV y_t_impl_Series 2 h7 (e 8) (.slice (some ⟨b63, 0, none⟩) 1 2)) fun v64 h8 => bindO (binV .sub (e 1) (.int .i64 1)) fun v19 => K [v19, (e 4), (e 6), (e 7), v64] h8) (bindO (binV .eql v42 (.int .i64 1)) fun v49 => condM v49 (bindO (fieldAddrV 0 (e 9)) fun v50 => bindO (ldV 1 false h5 v50) fun v51 => bindO (binV .add v51 (.int .i64 1)) fun v52 => bindO (fieldAddrV 0 (e 9)) fun v53 => bindO (storeV 1 h5 v52 v53) fun h6 => bindO (ldV 2 true h6 (e 9)) fun v62 => bindO (rowV 2 1 [.int .i64 0, .slice none 0 0] [(0, v62)]) fun c63 => newB h6 ⟨c63, y_t_impl_Series, true⟩ fun b63 h7 => bindVH (appendV y_t_impl_Series 2 h7 (e 8) (.slice (some ⟨b63, 0, none⟩) 1 2)) fun v64 h8 => bindO (binV .sub (e 1) (.int .i64 1)) fun v19 => K [v19, (e 4), (e 6), (e 7), v64] h8) (bindO (binV .eql v42 (.int .i64 2)) fun v55 => condM v55 (bindO (fieldAddrV 1 (e 9)) fun v56 => bindO (ldV 1 false h5 v56) fun v57 => bindO (rowV 1 1 [.int .i64 0] [(0, (.int .i64 0))]) fun c58 => newB h5 ⟨c58, y_t_int64, true⟩ fun b58 h6 => bindVH (appendV y_t_int64 1 h6 v57 (.slice (some ⟨b58, 0, none⟩) 1 1)) fun v59 h7 => bindO (fieldAddrV 1 (e 9)) fun v60 => bindO (storeV 1 h7 v59 v60) fun h8 => bindO (ldV 2 true h8 (e 9)) fun v62 => bindO (rowV 2 1 [.int .i64 0, .slice none 0 0] [(0, v62)]) fun c63 => newB h8 ⟨c63, y_t_impl_Series, true⟩ fun b63 h9 => bindVH (appendV y_t_impl_Series 2 h9 (e 8) (.slice (some ⟨b63, 0, none⟩) 1 2)) fun v64 h10 => bindO (binV .sub (e 1) (.int .i64 1)) fun v19 => K [v19, (e 4), (e 6), (e 7), v64] h10) (bindO (ldV 2 true h5 (e 9)) fun v62 => bindO (rowV 2 1 [.int .i64 0, .slice none 0 0] [(0, v62)]) fun c63 => newB h5 ⟨c63, y_t_impl_Series, true⟩ fun b63 h6 => bindVH (appendV y_t_impl_Series 2 h6 (e 8) (.slice (some ⟨b63, 0, none⟩) 1 2)) fun v64 h7 => bindO (binV .sub (e 1) (.int .i64 1)) fun v19 => K [v19, (e 4), (e 6), (e 7), v64] h7))))] [a1, a4, a6, a7, a8, (.pointer (some ⟨b9, 0, none⟩)), (.int .i64 1)] h3) (K0 [a4, a7, a8] h)
theorem wl_spec_l04Curves_1 {a1 a4 a6 a7 a8 : Value} {h : Hp} {K K0 : Kont} (H : q_spec_l04Curves_1 a1 a4 a6 a7 a8 h K K0) : ∀ e : Env, [e 1, e 4, e 6, e 7, e 8] = [a1, a4, a6, a7, a8] → V FF l_spec_l04Curves_1 (qsel [1, 4, 6, 7, 8] K [(.exit 0, [4, 7, 8], K0)]) ⟨e, h⟩ := by
  intro e he; cases he; exact Eq.mp (by kernel_rfl) H
def y_spec_l04Curves : YC :=
  .seq (.region false [⟨some 4, .box y_t_impl_Plane 2 (.c (.agg #[.int .i64 0, .slice none 0 0])), none, false⟩,
    ⟨some 5, .p (.move  (.c (.slice none 0 0))), none, false⟩])
  (.seq (.region false [⟨some 11, .p (.move  (.t 0)), none, false⟩,
     ⟨some 12, .call (.c (.func (.func n_spec_l01From) #[] #[])) [(.t 11)], none, false⟩,
     ⟨some 6, .p (.move  (.t 12)), none, false⟩])
   (.seq (.region false [⟨some 13, .p (.move  (.t 6)), none, false⟩,
      ⟨some 14, .call (.c (.func (.func n_spec_l04Spoil) #[] #[])) [(.t 13)], none, false⟩,
      ⟨some 15, .mkrow y_t_impl_Series 2 0 [.int .i64 0, .slice none 0 0] [], none, false⟩,
      ⟨some 7, .box y_t_impl_Plane 2 (.c (.agg #[.int .i64 0, .slice none 0 0])), none, false⟩,
      ⟨none, .store 2 (.t 7) (.t 14), none, false⟩,
      ⟨some 8, .p (.move  (.t 15)), none, false⟩])
    (.seq (.block 0
      (.loop [1, 4, 6, 7, 8] [(.exit 0, [4, 7, 8])] l_spec_l04Curves_1))
     (.seq (.region false [⟨some 65, .load 2 true (.t 7), none, false⟩,
        ⟨some 66, .p (.move  (.t 8)), none, false⟩,
        ⟨none, .store 2 (.t 4) (.t 65), none, false⟩,
        ⟨some 5, .p (.move  (.t 66)), none, false⟩])
      (.ret)))))
theorem c_spec_l04Curves : FF n_spec_l04Curves = some ⟨67, y_spec_l04Curves.er, [.cell 4 2 true, .tmp 5]⟩ := by kernel_rfl
def p_spec_l04Curves (a0 a1 : Value) (h : Hp) (R : Value → Hp → Prop) : Prop :=
  bindO (boxV 2 (.agg #[.int .i64 0, .slice none 0 0])) fun c4 => newB h ⟨c4, y_t_impl_Plane, true⟩ fun b4 h1 => CallW FF n_spec_l01From [a0] h1 fun v12 h2 => CallW FF n_spec_l04Spoil [v12] h2 fun v14 h3 => bindO (rowV 2 0 [.int .i64 0, .slice none 0 0] []) fun c15 => newB h3 ⟨c15, y_t_impl_Series, true⟩ fun b15 h4 => bindO (boxV 2 (.agg #[.int .i64 0, .slice none 0 0])) fun c7 => newB h4 ⟨c7, y_t_impl_Plane, true⟩ fun b7 h5 => bindO (storeV 2 h5 v14 (.pointer (some ⟨b7, 0, none⟩))) fun h6 => LP FF (YC.er l_spec_l04Curves_1) [1, 4, 6, 7, 8] [(.exit 0, [4, 7, 8], fun vs h7 => ∀ e : Env, [e 4, e 7, e 8] = vs → bindO (ldV 2 true h7 (e 7)) fun v65 => bindO (storeV 2 h7 v65 (e 4)) fun h8 => bindO (ldV 2 true h8 (e 4)) fun r4 => R (.tuple #[r4, (e 8)]) h8)] [a1, (.pointer (some ⟨b4, 0, none⟩)), v12, (.pointer (some ⟨b7, 0, none⟩)), (.slice (some ⟨b15, 0, none⟩) 0 2)] h6
theorem w_spec_l04Curves {a0 a1 : Value} {h : Hp} {R : Value → Hp → Prop} (H : p_spec_l04Curves a0 a1 h R) : CallW FF n_spec_l04Curves [a0, a1] h R := callV_fin c_spec_l04Curves (Eq.mp (by kernel_rfl) H)
def y_impl_curved : YC :=
  .seq (.region false [⟨some 2, .box y_t_impl_Plane 2 (.t 0), none, false⟩,
    ⟨some 4, .p (.move  (.c (.int .i64 0))), none, false⟩])
  (.seq (.block 0
    (.join [1, 2, 5] (.region false [⟨some 6, .load 2 true (.t 2), none, false⟩,
       ⟨some 7, .call (.c (.func (.func n_impl_IsLaw) #[] #[])) [(.t 6)], none, false⟩,
       ⟨some 8, .p (.un .not (.t 7)), none, false⟩,
       ⟨some 9, .p (.move  (.t 8)), none, false⟩,
       ⟨some 10, .p (.move  (.t 1)), some (9, false), false⟩,
       ⟨some 11, .call (.c (.func (.func n_impl_all_impl_Series) #[] #[])) [(.t 10), (.c (.func (.func n_impl_IsSeries) #[] #[]))], some (9, false), false⟩,
       ⟨some 12, .p (.un .not (.t 11)), some (9, false), false⟩,
       ⟨some 13, .p (.pick  (.t 9) (.c (.bool true)) (.t 12)), none, false⟩,
       ⟨some 5, .p (.move  (.t 13)), none, false⟩])
     (.cond (.t 5)
      (.seq (.region false [⟨some 4, .p (.move  (.c (.int .i64 1))), none, false⟩])
       (.ret))
      (.seq (.region false [⟨some 15, .p (.move  (.t 1)), none, false⟩,
         ⟨some 16, .load 2 true (.t 2), none, false⟩,
         ⟨some 17, .p (.mkfunc n_impl_Plane_isCurveOf [(.t 16)] []), none, false⟩,
         ⟨some 18, .call (.c (.func (.func n_impl_all_impl_Series) #[] #[])) [(.t 15), (.t 17)], none, false⟩,
         ⟨some 19, .p (.un .not (.t 18)), none, false⟩,
         ⟨some 14, .p (.move  (.t 19)), none, false⟩])
       (.cond (.t 14)
        (.seq (.region false [⟨some 4, .p (.move  (.c (.int .i64 2))), none, false⟩])
         (.ret))
        (.skip))))))
   (.seq (.region false [⟨some 4, .p (.move  (.c (.int .i64 0))), none, false⟩])
    (.ret)))
theorem c_impl_curved : FF n_impl_curved = some ⟨20, y_impl_curved.er, [.tmp 4]⟩ := by kernel_rfl
def p_impl_curved (a0 a1 : Value) (h : Hp) (R : Value → Hp → Prop) : Prop :=
  bindO (boxV 2 a0) fun c2 => newB h ⟨c2, y_t_impl_Plane, true⟩ fun b2 h1 => JN (fun J => bindO (ldV 2 true h1 (.pointer (some ⟨b2, 0, none⟩))) fun v6 => CallW FF n_impl_IsLaw [v6] h1 fun v7 h2 => bindO (unV .not v7) fun v8 => condM v8 (J [a1, (.pointer (some ⟨b2, 0, none⟩)), (.bool true)] h2) (CallW FF n_impl_all_impl_Series [a1, (.func (.func n_impl_IsSeries) #[] #[])] h2 fun v11 h3 => bindO (unV .not v11) fun v12 => J [a1, (.pointer (some ⟨b2, 0, none⟩)), v12] h3)) fun vs h2 => ∀ e : Env, [e 1, e 2, e 5] = vs → condM (e 5) (R (.int .i64 1) h2) (bindO (ldV 2 true h2 (e 2)) fun v16 => CallW FF n_impl_all_impl_Series [(e 1), (.func (.func n_impl_Plane_isCurveOf) #[v16] #[])] h2 fun v18 h3 => bindO (unV .not v18) fun v19 => condM v19 (R (.int .i64 2) h3) (R (.int .i64 0) h3))
theorem w_impl_curved {a0 a1 : Value} {h : Hp} {R : Value → Hp → Prop} (H : p_impl_curved a0 a1 h R) : CallW FF n_impl_curved [a0, a1] h R := callV_fin c_impl_curved (Eq.mp (by kernel_rfl) H)
def l_spec_l04Code_0 : YC :=
  .seq (.seq (.region false [⟨some 10, .p (.move  (.t 5)), none, false⟩,
     ⟨some 11, .p (.move  (.t 1)), none, false⟩,
     ⟨some 12, .p (.len  (.t 11)), none, false⟩,
     ⟨some 13, .p (.bin .lss (.t 10) (.t 12)), none, false⟩])
   (.cond (.t 13)
    (.skip)
    (.exit 0)))
  (.seq (.block 1
    (.seq (.region false [⟨some 16, .p (.move  (.t 1)), none, false⟩,
       ⟨some 17, .p (.move  (.t 5)), none, false⟩,
       ⟨some 18, .p (.indexAddr 2 (.t 16) (.t 17)), none, false⟩,
       ⟨some 19, .load 2 true (.t 18), none, false⟩,
       ⟨some 20, .call (.c (.func (.func n_spec_l02Is) #[] #[])) [(.t 19)], none, false⟩,
       ⟨some 21, .p (.un .not (.t 20)), none, false⟩])
     (.cond (.t 21)
      (.seq (.region false [⟨some 4, .p (.move  (.c (.int .i64 1))), none, false⟩])
       (.ret))
      (.skip))))
   (.region false [⟨some 14, .p (.move  (.t 5)), none, false⟩,
     ⟨some 15, .p (.bin .add (.t 14) (.c (.int .i64 1))), none, false⟩,
     ⟨some 5, .p (.move  (.t 15)), none, false⟩]))
def q_spec_l04Code_0 (a1 a2 a5 : Value) (h : Hp) (K K0 K1 : Kont) : Prop :=
  bindO (lenV  a1) fun v12 => bindO (binV .lss a5 v12) fun v13 => condM v13 (bindO (indexAddrV 2 a1 a5) fun v18 => bindO (ldV 2 true h v18) fun v19 => CallW FF n_spec_l02Is [v19] h fun v20 h1 => bindO (unV .not v20) fun v21 => condM v21 (K1 [(.int .i64 1)] h1) (bindO (binV .add a5 (.int .i64 1)) fun v15 => K [a1, a2, v15] h1)) (K0 [a1, a2] h)
theorem wl_spec_l04Code_0 {a1 a2 a5 : Value} {h : Hp} {K K0 K1 : Kont} (H : q_spec_l04Code_0 a1 a2 a5 h K K0 K1) : ∀ e : Env, [e 1, e 2, e 5] = [a1, a2, a5] → V FF l_spec_l04Code_0 (qsel [1, 2, 5] K [(.exit 0, [1, 2], K0), (.ret, [4], K1)]) ⟨e, h⟩ := by
  intro e he; cases he; exact Eq.mp (by kernel_rfl) H
def l_spec_l04Code_1 : YC :=
  .seq (.seq (.region false [⟨some 22, .p (.move  (.t 6)), none, false⟩,
     ⟨some 23, .p (.move  (.t 1)), none, false⟩,
     ⟨some 24, .p (.len  (.t 23)), none, false⟩,
     ⟨some 25, .p (.bin .lss (.t 22) (.t 24)), none, false⟩])
   (.cond (.t 25)
    (.skip)
    (.exit 2)))
  (.seq (.block 3
    (.seq (.region false [⟨some 28, .p (.move  (.t 1)), none, false⟩,
       ⟨some 29, .p (.move  (.t 6)), none, false⟩,
       ⟨some 30, .p (.indexAddr 2 (.t 28) (.t 29)), none, false⟩,
       ⟨some 31, .load 2 true (.t 30), none, false⟩,
       ⟨some 32, .call (.c (.func (.func n_spec_l02Curve) #[] #[])) [(.t 31)], none, false⟩,
       ⟨some 33, .p (.un .not (.t 32)), none, false⟩,
       ⟨some 34, .p (.move  (.t 33)), none, false⟩,
       ⟨some 35, .p (.move  (.t 1)), some (34, false), false⟩,
       ⟨some 36, .p (.move  (.t 6)), some (34, false), false⟩,
       ⟨some 37, .p (.indexAddr 2 (.t 35) (.t 36)), some (34, false), false⟩,
       ⟨some 38, .p (.fieldAddr 0 (.t 37)), some (34, false), false⟩,
       ⟨some 39, .load 1 false (.t 38), some (34, false), false⟩,
       ⟨some 40, .p (.fieldAddr 0 (.t 2)), some (34, false), false⟩,
       ⟨some 41, .load 1 false (.t 40), some (34, false), false⟩,
       ⟨some 42, .p (.bin .neq (.t 39) (.t 41)), some (34, false), false⟩,
       ⟨some 43, .p (.pick  (.t 34) (.c (.bool true)) (.t 42)), none, false⟩,
       ⟨some 44, .p (.move  (.t 43)), none, false⟩,
       ⟨some 45, .p (.move  (.t 1)), some (44, false), false⟩,
       ⟨some 46, .p (.move  (.t 6)), some (44, false), false⟩,
       ⟨some 47, .p (.indexAddr 2 (.t 45) (.t 46)), some (44, false), false⟩,
       ⟨some 48, .p (.fieldAddr 1 (.t 47)), some (44, false), false⟩,
       ⟨some 49, .load 1 false (.t 48), some (44, false), false⟩,
       ⟨some 50, .p (.len  (.t 49)), some (44, false), false⟩,
       ⟨some 51, .p (.fieldAddr 1 (.t 2)), some (44, false), false⟩,
       ⟨some 52, .load 1 false (.t 51), some (44, false), false⟩,
       ⟨some 53, .p (.len  (.t 52)), some (44, false), false⟩,
       ⟨some 54, .p (.bin .neq (.t 50) (.t 53)), some (44, false), false⟩,
       ⟨some 55, .p (.pick  (.t 44) (.c (.bool true)) (.t 54)), none, false⟩])
     (.cond (.t 55)
      (.seq (.region false [⟨some 4, .p (.move  (.c (.int .i64 2))), none, false⟩])
       (.ret))
      (.skip))))
   (.region false [⟨some 26, .p (.move  (.t 6)), none, false⟩,
     ⟨some 27, .p (.bin .add (.t 26) (.c (.int .i64 1))), none, false⟩,
     ⟨some 6, .p (.move  (.t 27)), none, false⟩]))
def q_spec_l04Code_1 (a1 a2 a6 : Value) (h : Hp) (K K0 K1 : Kont) : Prop :=
  bindO (lenV  a1) fun v24 => bindO (binV .lss a6 v24) fun v25 => condM v25 (bindO (indexAddrV 2 a1 a6) fun v30 => bindO (ldV 2 true h v30) fun v31 => CallW FF n_spec_l02Curve [v31] h fun v32 h1 => bindO (unV .not v32) fun v33 => condM v33 (K1 [(.int .i64 2)] h1) (bindO (indexAddrV 2 a1 a6) fun v37 => bindO (fieldAddrV 0 v37) fun v38 => bindO (ldV 1 false h1 v38) fun v39 => bindO (fieldAddrV 0 a2) fun v40 => bindO (ldV 1 false h1 v40) fun v41 => bindO (binV .neq v39 v41) fun v42 => condM v42 (K1 [(.int .i64 2)] h1) (bindO (indexAddrV 2 a1 a6) fun v47 => bindO (fieldAddrV 1 v47) fun v48 => bindO (ldV 1 false h1 v48) fun v49 => bindO (lenV  v49) fun v50 => bindO (fieldAddrV 1 a2) fun v51 => bindO (ldV 1 false h1 v51) fun v52 => bindO (lenV  v52) fun v53 => bindO (binV .neq v50 v53) fun v54 => condM v54 (K1 [(.int .i64 2)] h1) (bindO (binV .add a6 (.int .i64 1)) fun v27 => K [a1, a2, v27] h1)))) (K0 [] h)
theorem wl_spec_l04Code_1 {a1 a2 a6 : Value} {h : Hp} {K K0 K1 : Kont} (H : q_spec_l04Code_1 a1 a2 a6 h K K0 K1) : ∀ e : Env, [e 1, e 2, e 6] = [a1, a2, a6] → V FF l_spec_l04Code_1 (qsel [1, 2, 6] K [(.exit 2, [], K0), (.ret, [4], K1)]) ⟨e, h⟩ := by
  intro e he; cases he; exact Eq.mp (by kernel_rfl) H
def y_spec_l04Code : YC :=
  .seq (.region false [⟨some 2, .box y_t_impl_Plane 2 (.t 0), none, false⟩,
    ⟨some 4, .p (.move  (.c (.int .i64 0))), none, false⟩])
  (.seq (.seq (.region false [⟨some 7, .load 2 true (.t 2), none, false⟩,
      ⟨some 8, .call (.c (.func (.func n_spec_l04Is) #[] #[])) [(.t 7)], none, false⟩,
      ⟨some 9, .p (.un .not (.t 8)), none, false⟩])
    (.cond (.t 9)
     (.seq (.region false [⟨some 4, .p (.move  (.c (.int .i64 1))), none, false⟩])
      (.ret))
     (.skip)))
   (.seq (.seq (.region false [⟨some 5, .p (.move  (.c (.int .i64 0))), none, false⟩])
     (.block 0
      (.loop [1, 2, 5] [(.exit 0, [1, 2]), (.ret, [4])] l_spec_l04Code_0)))
    (.seq (.seq (.region false [⟨some 6, .p (.move  (.c (.int .i64 0))), none, false⟩])
      (.block 2
       (.loop [1, 2, 6] [(.exit 2, []), (.ret, [4])] l_spec_l04Code_1)))
     (.seq (.region false [⟨some 4, .p (.move  (.c (.int .i64 0))), none, false⟩])
      (.ret)))))
theorem c_spec_l04Code : FF n_spec_l04Code = some ⟨56, y_spec_l04Code.er, [.tmp 4]⟩ := by kernel_rfl
def p_spec_l04Code (a0 a1 : Value) (h : Hp) (R : Value → Hp → Prop) : Prop :=
  bindO (boxV 2 a0) fun c2 => newB h ⟨c2, y_t_impl_Plane, true⟩ fun b2 h1 => bindO (ldV 2 true h1 (.pointer (some ⟨b2, 0, none⟩))) fun v7 => CallW FF n_spec_l04Is [v7] h1 fun v8 h2 => bindO (unV .not v8) fun v9 => condM v9 (R (.int .i64 1) h2) (LP FF (YC.er l_spec_l04Code_0) [1, 2, 5] [(.exit 0, [1, 2], fun vs h3 => ∀ e : Env, [e 1, e 2] = vs → LP FF (YC.er l_spec_l04Code_1) [1, 2, 6] [(.exit 2, [], fun vs_1 h4 => ∀ e_1 : Env, [] = vs_1 → R (.int .i64 0) h4), (.ret, [4], fun vs_1 h4 => ∀ e_1 : Env, [e_1 4] = vs_1 → R (e_1 4) h4)] [(e 1), (e 2), (.int .i64 0)] h3), (.ret, [4], fun vs h3 => ∀ e : Env, [e 4] = vs → R (e 4) h3)] [a1, (.pointer (some ⟨b2, 0, none⟩)), (.int .i64 0)] h2)
theorem w_spec_l04Code {a0 a1 : Value} {h : Hp} {R : Value → Hp → Prop} (H : p_spec_l04Code a0 a1 h R) : CallW FF n_spec_l04Code [a0, a1] h R := callV_fin c_spec_l04Code (Eq.mp (by kernel_rfl) H)
end XM
