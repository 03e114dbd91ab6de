/- Lists of what functions answer; how a tree is read; a statement's step. -/
import Derived.Test.YtkkojdcchnailaaGreatDoorQGwN
namespace Go.Fw

/-! ### Whether a value is known as a literal makes no difference to what it stands for -/
def V.soft : V → V
  | .cons h t => .cons h.soft t.soft
  | .int _ k n => .int false k n
  | .bool _ b => .bool false b
  | .str _ s => .str false s
  | .agg cs => .agg cs.soft
  | .tup vs => .tup vs.soft
  | .ptr _ b es i o => .ptr false b es i o
  | .rptr _ es n get i o => .rptr false es n (fun j => (get j).soft) i o
  | .rsl _ es n get => .rsl false es n fun j => (get j).soft
  | .osl _ b es i n => .osl false b es i n
  | .osp _ b es i n c => .osp false b es i n c
  | .fn f a b => .fn f a.soft b.soft
  | .ifc _ b => .ifc false b
  | v => v
theorem R_soft {F : Nat → Prop} {w : World} : ∀ (v : V) (n : Nat) (m : Nat → Option Nat), (∀ x, R F w v.soft n m x ↔ R F w v n m x) ∧ (∀ xs, RL F w v.soft n m xs ↔ RL F w v n m xs) := by
  intro v
  induction v with
  | cons h t ih1 ih2 =>
    intro n m
    refine ⟨fun x => by simp only [V.soft, R], fun xs => ?_⟩
    simp only [V.soft, RL, (ih1 n m).1, (ih2 n m).2]
  | agg cs ih => intro n m; exact ⟨fun x => by simp only [V.soft, R, (ih n m).2], fun xs => by simp only [V.soft, RL]⟩
  | tup cs ih => intro n m; exact ⟨fun x => by simp only [V.soft, R, (ih n m).2], fun xs => by simp only [V.soft, RL]⟩
  | fn f a b ih1 ih2 => intro n m; exact ⟨fun x => by simp only [V.soft, R, (ih1 n m).2, (ih2 n m).2], fun xs => by simp only [V.soft, RL]⟩
  | rptr st es k get i o ih => intro n m; exact ⟨fun x => by simp only [V.soft, R, fun j => (ih j 0 fun _ => none).2], fun xs => by simp only [V.soft, RL]⟩
  | rsl st es k get ih => intro n m; exact ⟨fun x => by simp only [V.soft, R, fun j => (ih j 0 fun _ => none).2], fun xs => by simp only [V.soft, RL]⟩
  | _ => intro n m; exact ⟨fun x => by simp only [V.soft, R], fun xs => by simp only [V.soft, RL]⟩
theorem Meets.of_soft {P : Program} {g : FuncId} {args v : V} (h : Meets P g args.soft v) : Meets P g args v :=
  ⟨h.1, fun F w xs hfd hgl ha => h.2 F w xs hfd hgl (((R_soft args 0 _).2 _).2 ha)⟩

/-! ### Lists of what functions answer -/
structure Con where
  g : FuncId
  ans : V → Option Ans
  /-- It stands for calls of known arguments too. -/
  al : Bool := false
def Con.Ok (P : Program) (c : Con) : Prop :=
  ∀ args, match c.ans args with
    | some (.sure v) => Meets P c.g args v
    | some (.where_ p v) => p → Meets P c.g args v
    | none => True
def lookG : List Con → FuncId → V → Option Ans
  | [], _, _ => none
  | c :: l, g, args => bif Nat.beq g c.g then (match c.al with
      | true => c.ans args
      | false => bif args.known then none else c.ans args.soft) else lookG l g args
/-- All contracts of a list hold. -/
def AllOk (P : Program) : List Con → Prop
  | [] => True
  | c :: l => c.Ok P ∧ AllOk P l
/-- What is said of a loop. -/
structure Lp where
  f : FuncId
  id : Nat
  g : (B : Base) → St B → Tree (Ex × St B)
def Lp.Ok (P : Program) (l : Lp) : Prop := ∀ body, InFn P l.f body → firstRegion body = some l.id → LoopOk P body l.g
def lookL : List Lp → FuncId → Nat → Option ((B : Base) → St B → Tree (Ex × St B))
  | [], _, _ => none
  | c :: l, f, i => bif Nat.beq f c.f && Nat.beq i c.id then some c.g else lookL l f i
def AllLp (P : Program) : List Lp → Prop
  | [] => True
  | c :: l => c.Ok P ∧ AllLp P l
theorem lookL_ok {P : Program} : ∀ (l : List Lp), AllLp P l → ∀ f i g, lookL l f i = some g → ∀ body, InFn P f body → firstRegion body = some i → LoopOk P body g := by
  intro l
  induction l with
  | nil => intro _ f i g h; cases h
  | cons c l ih =>
    intro hl f i g h body hin hfr
    simp only [lookL] at h
    cases he : Nat.beq f c.f && Nat.beq i c.id
    · rw [he] at h; exact ih hl.2 f i g h body hin hfr
    · rw [he] at h
      simp only [Bool.and_eq_true] at he
      obtain rfl := Nat.eq_of_beq_eq_true he.1
      obtain rfl := Nat.eq_of_beq_eq_true he.2
      injection h with h
      subst h
      exact hl.1 body hin hfr
def namesOk (P : Program) : Bool := P.funcs.toList.all fun fn => !(fn.name == "runtime.NumGoroutine")
theorem env_ok {P : Program} (hm : P.follows .mixedOrders = true) (hn : namesOk P = true) {l : List Con} (h : AllOk P l) {ls : List Lp} (hls : AllLp P ls) (mg : Bool) : Env.Ok { P, Γ := lookG l, lp := lookL ls, mg } := by
  have key : ∀ (l : List Con), AllOk P l → ∀ g args, match lookG l g args with | some (.sure v) => Meets P g args v | some (.where_ p v) => p → Meets P g args v | none => True := by
    intro l
    induction l with
    | nil => intro _ g args; trivial
    | cons c l ih =>
      intro hl g args
      simp only [lookG]
      cases he : Nat.beq g c.g
      · exact ih hl.2 g args
      · obtain rfl := Nat.eq_of_beq_eq_true he
        simp only [cond_true]
        cases hal : c.al with
        | true => exact hl.1 args
        | false =>
          dsimp only
          cases hkn : args.known
          · simp only [cond_false]
            have := hl.1 args.soft
            cases hc : c.ans args.soft with
            | none => trivial
            | some a =>
              rw [hc] at this
              cases a with
              | sure v => exact Meets.of_soft this
              | where_ p v => exact fun hp => Meets.of_soft (this hp)
          · trivial
  refine ⟨hm, fun g fn hf => ?_, fun g args v h' => ?_, fun g args p v h' hp => ?_, fun f body g hin h' => ?_⟩
  · have hmem : fn ∈ P.funcs.toList := Array.mem_toList_iff.2 (Array.mem_of_getElem? hf)
    have := List.all_eq_true.1 hn fn hmem
    simpa using this
  · have := key l h g args; rw [show lookG l g args = _ from h'] at this; exact this
  · have := key l h g args; rw [show lookG l g args = _ from h'] at this; exact this hp
  · unfold loopOf at h'
    split at h'
    · rename_i i hi; exact lookL_ok ls hls f i g h' body hin hi
    · cases h'

/-! ### Reading a tree -/
theorem holds_leaf {α : Type} {P : Program} {a : α} {Q : α → Prop} : (Tree.leaf a).holds P Q ↔ Q a := Iff.rfl
theorem holds_node {α : Type} {P : Program} {b : Bool} {t f : Tree α} {Q : α → Prop} : (Tree.node b t f).holds P Q ↔ (b = true → t.holds P Q) ∧ (b = false → f.holds P Q) := Iff.rfl
theorem holds_need {α : Type} {P : Program} {p : Prop} {t : Tree α} {Q : α → Prop} : (Tree.need p t).holds P Q ↔ p ∧ t.holds P Q := Iff.rfl
theorem holds_stuck {α : Type} {P : Program} {Q : α → Prop} : (Tree.stuck : Tree α).holds P Q ↔ False := Iff.rfl

/-- A call whose tree is known. -/
theorem meets {E : Env} (hE : E.Ok) (k : Nat) {g : FuncId} {args v : V} {T : Tree V} (hhas : Has E.P g) (hT : evFn E k g args = T)
    (h : T.holds E.P fun r => r.soft.clean = true ∧ r.soft = v.soft) : Meets E.P g args v := by
  refine meets_of hE (k := k) hhas ?_
  rw [hT]
  refine Tree.holds_mono T (fun r hr F w n m x hx => ?_) h
  have h1 := ((R_soft r n m).1 x).2 hx
  have h2 := (R_clean r.soft hr.1 n 0 m (fun _ => none)).1 x h1
  rw [hr.2] at h2
  exact ((R_soft v 0 _).1 x).1 h2
theorem Has.of {P : Program} {g : FuncId} {fn : Func} {c : Code} (hn : namesOk P = true) (hf : P.funcs[g]? = some fn) (hb : fn.body = some c) : Has P g := by
  refine ⟨fn, c, hf, hb, ?_⟩
  have hmem : fn ∈ P.funcs.toList := Array.mem_toList_iff.2 (Array.mem_of_getElem? hf)
  have := List.all_eq_true.1 hn fn hmem
  simpa using this
end Go.Fw
