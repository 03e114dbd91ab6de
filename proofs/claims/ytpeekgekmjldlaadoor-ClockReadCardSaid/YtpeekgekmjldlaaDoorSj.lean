/- strings.Join and the search for a byte, as contracts of the evaluator. -/
import Derived.Test.YtpeekgekmjldlaaDoorSh
import Derived.Test.YtpeekgekmjldlaaDoorGase
namespace Go.Proofs.YtpeekgekmjldlaaDoor
open Go.Fw Go.RowKit
set_option maxRecDepth 100000

theorem later_of_below {F : Nat → Prop} {w w' : World} (h : Below w.heap.size w w') : Later F w F w' :=
  ⟨fun _ h => h, fun _ h => .inl h, h.block, h.size, fun hd B hB => Nat.lt_of_lt_of_le (hd B hB) h.size, ⟨h.os, h.tape, h.output⟩⟩

/-- Where a byte is first. -/
def ixb (c : UInt8) : List UInt8 → Int → Int
  | [], _ => -1
  | b :: l, i => bif Nat.beq b.toNat c.toNat then i else ixb c l (i + 1)
theorem indexByte_ge (c : UInt8) : ∀ l, -1 ≤ Lib.indexByte l c := by
  intro l
  induction l with
  | nil => simp [Lib.indexByte]
  | cons b l ih => unfold Lib.indexByte; split; omega; split <;> omega
theorem ixb_eq (c : UInt8) : ∀ l i, ixb c l i = if Lib.indexByte l c = -1 then -1 else i + Lib.indexByte l c := by
  intro l
  induction l with
  | nil => intro i; simp [ixb, Lib.indexByte]
  | cons b l ih =>
    intro i
    unfold ixb Lib.indexByte
    by_cases h : b = c
    · subst h; simp
    · have h1 : Nat.beq b.toNat c.toNat = false := by
        cases h2 : Nat.beq b.toNat c.toNat
        · rfl
        · exact absurd (UInt8.toNat_inj.1 (Nat.eq_of_beq_eq_true h2)) h
      rw [h1, ih]
      have := indexByte_ge c l
      by_cases h3 : Lib.indexByte l c = -1 <;> simp [h, h3] <;> omega
noncomputable def c_ixb : Con := { g := 127, al := true, ans := fun x => match x with
  | .cons (.str st s) (.cons (.int st' .u8 c) .nil) => some (.sure (.int (st && st') .i64 (ixb c.toNat.toUInt8 s 0)))
  | _ => none }
theorem c_ixb_ok : c_ixb.Ok P := by
  intro x
  dsimp only [c_ixb]
  split
  · rename_i h
    split at h
    · rename_i st s st' c
      injection h with h; injection h with h; subst h
      refine ⟨Has.of hn Tryd.func127 rfl, fun F w xs _ _ ha => ?_⟩
      simp only [RL, R] at ha
      obtain ⟨_, _, h1, rfl, _, _, rfl, rfl, rfl⟩ := ha
      have hx : xs = #[.string ⟨s.toArray⟩, .int .u8 c] := Array.toList_inj.1 h1
      subst hx
      refine (Tryd.stringslite_IndexByte ⟨s.toArray⟩ c w).mono fun e w' he => ?_
      obtain ⟨rfl, rfl⟩ := he
      refine ⟨_, F, rfl, Later.refl F w', ?_⟩
      simp only [R]
      rw [ixb_eq]
      congr 1
      split
      · rename_i h; exact h
      · omega
    · cases h
  · rename_i h
    split at h <;> cases h
  · trivial

def isText : V → Bool
  | .cons (.str true _) .nil => true
  | _ => false
def textOf : V → List UInt8
  | .cons (.str _ s) .nil => s
  | _ => []
def textsOf (get : Nat → V) (n : Nat) : List (List UInt8) := Nat.rec [] (fun j r => r ++ [textOf (get j)]) n
theorem textsOf_eq (get : Nat → V) : ∀ n, textsOf get n = (List.range n).map fun j => textOf (get j) := by
  intro n
  induction n with
  | zero => rfl
  | succ n ih => rw [List.range_succ, List.map_append, ← ih]; rfl
def tailB (sep : List UInt8) : List (List UInt8) → List UInt8
  | [] => []
  | y :: r => sep ++ (y ++ tailB sep r)
def joinB (sep : List UInt8) : List (List UInt8) → List UInt8
  | [] => []
  | x :: r => x ++ tailB sep r
theorem joinB_eq (sep : List UInt8) (xs : List (List UInt8)) : joinB sep xs = Lib.join xs sep := by
  cases xs with
  | nil => rfl
  | cons x r =>
    rw [Lib.join_cons]
    show x ++ _ = x ++ _
    congr 1
    induction r with
    | nil => rfl
    | cons y r ih => simp [Lib.joinTail, tailB] at ih ⊢; exact ih
noncomputable def c_join : Con := { g := 67, al := true, ans := fun x => match x with
  | .cons (.rsl st es n get) (.cons (.str st' sep) .nil) => bif (Nat.beq es 1 && (st && st')) && ((Nat.ble n 140737488355328 && allN n fun j => isText (get j)) && Nat.ble (joinB sep (textsOf get n)).length 140737488355328) then
      some (.sure (.str true (joinB sep (textsOf get n)))) else none
  | _ => none }
theorem allN_of {n : Nat} {f : Nat → Bool} : allN n f = true → ∀ j, j < n → f j = true := by
  induction n with
  | zero => intro _ j h; omega
  | succ n ih =>
    intro h j hj
    have h : (allN n f && f n) = true := h
    simp only [Bool.and_eq_true] at h
    rcases Nat.lt_or_ge j n with h' | h'
    · exact ih h.1 j h'
    · have : j = n := by omega
      subst this; exact h.2
theorem isText_eq {v : V} (h : isText v = true) : v = .cons (.str true (textOf v)) .nil := by
  cases v <;> try (cases h; done)
  rename_i a b
  cases a <;> try (cases h; done)
  rename_i st s
  cases st <;> try (cases h; done)
  cases b <;> first | rfl | cases h
theorem c_join_ok : c_join.Ok P := by
  intro x
  dsimp only [c_join]
  split
  · rename_i h
    split at h
    · rename_i st es n get st' sep
      generalize hb : ((Nat.beq es 1 && (st && st')) && ((Nat.ble n 140737488355328 && allN n fun j => isText (get j)) && Nat.ble (joinB sep (textsOf get n)).length 140737488355328)) = b at h
      cases b
      · cases h
      injection h with h; injection h with h; subst h
      simp only [Bool.and_eq_true] at hb
      obtain ⟨⟨h1, _⟩, ⟨h2, h3⟩, h4⟩ := hb
      obtain rfl := Nat.eq_of_beq_eq_true h1
      have h3 := allN_of h3
      have h2 := Nat.le_of_ble_eq_true h2
      have h4 := Nat.le_of_ble_eq_true h4
      refine ⟨Has.of hn Tryd.func67 rfl, fun F w xs _ _ ha => ?_⟩
      simp only [RL, R] at ha
      obtain ⟨_, _, h5, ⟨a, cap, rfl, hk, hrow⟩, _, _, rfl, rfl, rfl⟩ := ha
      have hx : xs = #[.slice a n cap, .string ⟨sep.toArray⟩] := Array.toList_inj.1 h5
      subst hx
      rcases hrow with rfl | ⟨B, off, rfl, hF, c, el, fr, hc, hr⟩
      · refine (Tryd.strings_Join_none a cap ⟨sep.toArray⟩ w).mono fun e w' he => ?_
        obtain ⟨rfl, rfl⟩ := he
        refine ⟨_, F, rfl, Later.refl F w', ?_⟩
        simp only [R]
        rfl
      · have hmap : ((textsOf get n).map fun s => (⟨s.toArray⟩ : ByteArray)).map (·.data.toList) = textsOf get n := by
          rw [List.map_map]
          exact (List.map_congr_left fun s _ => rfl).trans (List.map_id _)
        have hlen : ((textsOf get n).map fun s => (⟨s.toArray⟩ : ByteArray)).length = n := by rw [textsOf_eq]; simp
        have key := Tryd.strings_Join B off cap ((textsOf get n).map fun s => (⟨s.toArray⟩ : ByteArray)) ⟨sep.toArray⟩ w (fun j x hj => ?_) ?_ ?_ ?_ ?_
        · rw [hlen, hmap] at key
          refine key.mono fun e w' he => ?_
          obtain ⟨rfl, hbel⟩ := he
          refine ⟨_, F, rfl, later_of_below hbel, ?_⟩
          simp only [R]
          rw [joinB_eq]
        · have hjn : j < n := by
            rcases Nat.lt_or_ge j n with h | h
            · exact h
            · rw [List.getElem?_eq_none (by rw [hlen]; exact h)] at hj; cases hj
          rw [textsOf_eq, List.map_map, List.getElem?_map, List.getElem?_range hjn] at hj
          injection hj with hj
          subst hj
          obtain ⟨ys, g1, g2, g3⟩ := hr j hjn
          rw [isText_eq (h3 j hjn)] at g1
          simp only [RL, R] at g1
          obtain ⟨_, _, rfl, rfl, rfl⟩ := g1
          have g4 := g3 0 (by omega)
          rw [Nat.mul_one, Nat.add_zero] at g4
          simp only [World.cell?, hc, Option.isSome_none, Bool.false_eq_true, if_false]
          rw [g4]
          rfl
        · rcases Nat.lt_or_ge B w.heap.size with h | h
          · exact h
          · rw [Array.getElem?_eq_none h] at hc; cases hc
        · rw [hlen]; exact h2
        · rw [hlen]; exact hk
        · rw [hmap]
          show (Lib.join (textsOf get n) sep).length ≤ _
          rw [← joinB_eq]; exact h4
    · cases h
  · rename_i h
    split at h
    · rename_i st es n get st' sep
      generalize ((Nat.beq es 1 && (st && st')) && ((Nat.ble n 140737488355328 && allN n fun j => isText (get j)) && Nat.ble (joinB sep (textsOf get n)).length 140737488355328)) = b at h
      cases b <;> cases h
    · cases h
  · trivial
end Go.Proofs.YtpeekgekmjldlaaDoor
