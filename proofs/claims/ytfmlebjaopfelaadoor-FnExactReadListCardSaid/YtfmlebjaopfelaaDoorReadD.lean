/-
  What a text in decimal reads as: the library's reading and the reference's own give the same number of the same texts. No conditions.
-/
import Derived.Test.YtfmlebjaopfelaaDoorDec
import Derived.Lib.ParseIntBCases
namespace Go.Proofs.YtfmlebjaopfelaaDoor.Fl
open Go Go.RowKit

def isDig (c : UInt8) : Prop := 48 ≤ c.toNat ∧ c.toNat ≤ 57
instance (c : UInt8) : Decidable (isDig c) := inferInstanceAs (Decidable (_ ∧ _))

theorem dig_of (d : Nat) (h : d < 10) : (UInt8.ofNat (48 + d)).toNat = 48 + d := by
  rw [UInt8.toNat_ofNat']; omega

theorem decDigits_dig (u : Nat) : ∀ c ∈ Lib.decDigits u, isDig c := by
  induction u using Nat.strongRecOn with
  | _ u ih =>
    intro c hc
    rw [Lib.decDigits] at hc
    split at hc
    · rename_i h
      simp only [List.mem_singleton] at hc
      subst hc
      unfold isDig
      rw [dig_of u h]; omega
    · rename_i h
      rcases List.mem_append.1 hc with h1 | h1
      · exact ih (u / 10) (by omega) c h1
      · simp only [List.mem_singleton] at h1
        subst h1
        unfold isDig
        rw [dig_of (u % 10) (by omega)]; omega

theorem decDigits_cons (u : Nat) : ∃ c r, Lib.decDigits u = c :: r ∧ isDig c := by
  have hl := Lib.decDigits_length u
  have hp := Lib.nDigits_pos u
  cases h : Lib.decDigits u with
  | nil => rw [h] at hl; simp at hl; omega
  | cons c r => exact ⟨c, r, rfl, decDigits_dig u c (by rw [h]; simp)⟩

theorem decDigits_le (u : Nat) (h : u ≤ 1000000000000000) : Lib.nDigits u ≤ 16 := by
  have step : ∀ k u : Nat, u < 10 ^ (k + 1) → Lib.nDigits u ≤ k + 1 := by
    intro k
    induction k with
    | zero => intro u hu; rw [Lib.nDigits_small (by simpa using hu)]; exact Nat.le_refl _
    | succ k ih =>
      intro u hu
      by_cases hs : u < 10
      · rw [Lib.nDigits_small hs]; omega
      · rw [Lib.nDigits_big hs]
        have := ih (u / 10) (by rw [Nat.pow_succ] at hu; omega)
        omega
  exact step 15 u (by omega)

theorem parseM (u : Nat) : u ≤ 1000000000000000 → ∀ r, Lib.parseUintM (2 ^ 64 - 1) 0 (Lib.decDigits u ++ r) = Lib.parseUintM (2 ^ 64 - 1) u r := by
  induction u using Nat.strongRecOn with
  | _ u ih =>
    intro hu r
    rw [Lib.decDigits]
    split
    · rename_i h
      have e := dig_of u h
      rw [List.singleton_append, Lib.parseUintM, e, if_pos (by omega), if_neg (by omega), if_neg (by omega)]
      congr 1
      omega
    · rename_i h
      have e := dig_of (u % 10) (by omega)
      rw [List.append_assoc, ih (u / 10) (by omega) (by omega), List.singleton_append, Lib.parseUintM, e, if_pos (by omega), if_neg (by omega), if_neg (by omega)]
      congr 1
      omega

theorem parseU (u : Nat) (hu : u ≤ 1000000000000000) : Lib.parseUintB 64 (Lib.decDigits u) = .ok u := by
  obtain ⟨c, r, h, _⟩ := decDigits_cons u
  have := parseM u hu []
  rw [List.append_nil] at this
  unfold Lib.parseUintB
  rw [if_neg (by rw [h]; simp), this]
  rfl

theorem parseI (n : Int) (h0 : -1000000000000000 ≤ n) (h1 : n ≤ 1000000000000000) : Lib.parseIntB 64 (Lib.itoa n) = .ok n := by
  unfold Lib.itoa
  split
  · rename_i h
    rw [Lib.parseIntB_minus, parseU _ (by omega)]
    simp only [Lib.signedC]
    rw [if_neg (by omega)]
    congr 1
    omega
  · rename_i h
    obtain ⟨c, r, e, hc⟩ := decDigits_cons n.toNat
    have hp := parseU n.toNat (by omega)
    rw [e] at hp ⊢
    unfold isDig at hc
    rw [Lib.parseIntB_plain 64 c r (by omega) (by omega), hp]
    simp only [Lib.signlessC]
    rw [if_neg (by omega)]
    congr 1
    omega

/-- What the reference's loop makes of the digits. -/
def svN (l : List UInt8) : Nat := l.foldl (fun a c => if isDig c then 10 * a + (c.toNat - 48) else a) 0
theorem svN_snoc (l : List UInt8) (c : UInt8) : svN (l ++ [c]) = if isDig c then 10 * svN l + (c.toNat - 48) else svN l := by
  unfold svN; rw [List.foldl_append]; rfl
theorem fold_bd : ∀ (l : List UInt8) (a : Nat), l.foldl (fun a c => if isDig c then 10 * a + (c.toNat - 48) else a) a < (a + 1) * 10 ^ l.length
  | [], a => by simp
  | c :: l, a => by
    have ih := fold_bd l (if isDig c then 10 * a + (c.toNat - 48) else a)
    rw [List.foldl_cons, List.length_cons, Nat.pow_succ]
    refine Nat.lt_of_lt_of_le ih ?_
    have h1 : (if isDig c then 10 * a + (c.toNat - 48) else a) + 1 ≤ (a + 1) * 10 := by
      split
      · rename_i h; unfold isDig at h; omega
      · omega
    rw [Nat.mul_comm (10 ^ l.length) 10, ← Nat.mul_assoc]
    exact Nat.mul_le_mul_right _ h1
theorem svN_bd (l : List UInt8) : svN l < 10 ^ l.length := by
  have := fold_bd l 0
  unfold svN
  omega
theorem svN_dec (u : Nat) : svN (Lib.decDigits u) = u := by
  induction u using Nat.strongRecOn with
  | _ u ih =>
    rw [Lib.decDigits]
    split
    · rename_i h
      have e := dig_of u h
      show (if isDig _ then _ else _) = _
      rw [if_pos (by unfold isDig; rw [e]; omega), e]
      omega
    · rename_i h
      have e := dig_of (u % 10) (by omega)
      rw [svN_snoc, if_pos (by unfold isDig; rw [e]; omega), ih (u / 10) (by omega), e]
      omega
theorem svN_minus (l : List UInt8) : svN (45 :: l) = svN l := by
  unfold svN
  rw [List.foldl_cons, if_neg (by decide)]

/-- The number that the reference holds against the text. -/
def svI (l : List UInt8) : Int := if l.head? = some 45 then -(svN l : Int) else svN l
theorem svI_itoa (n : Int) : svI (Lib.itoa n) = n := by
  unfold Lib.itoa svI
  split
  · rename_i h
    rw [if_pos (show (45 :: Lib.decDigits n.natAbs).head? = some 45 from rfl), svN_minus, svN_dec]
    omega
  · rename_i h
    obtain ⟨c, r, e, hc⟩ := decDigits_cons n.toNat
    have hs := svN_dec n.toNat
    rw [if_neg (by rw [e]; simp only [List.head?_cons, Option.some.injEq]; rintro rfl; exact absurd hc (by decide)), hs]
    omega

/-- The number with a text, if there is one that is not too great. -/
def readI (l : List UInt8) : Option Int := if (-1000000000000000 ≤ svI l ∧ svI l ≤ 1000000000000000) ∧ Lib.itoa (svI l) = l then some (svI l) else none

theorem readI_of {n : Int} {l : List UInt8} (h0 : -1000000000000000 ≤ n) (h1 : n ≤ 1000000000000000) (h : Lib.itoa n = l) : readI l = some n := by
  subst h
  unfold readI
  rw [svI_itoa, if_pos ⟨⟨h0, h1⟩, rfl⟩]
theorem readI_some {n : Int} {l : List UInt8} (h : readI l = some n) : (-1000000000000000 ≤ n ∧ n ≤ 1000000000000000) ∧ Lib.itoa n = l := by
  unfold readI at h
  split at h
  · rename_i hc
    cases h
    exact hc
  · cases h
theorem readI_len {n : Int} {l : List UInt8} (h : readI l = some n) : 1 ≤ l.length ∧ l.length ≤ 17 := by
  obtain ⟨⟨h0, h1⟩, rfl⟩ := readI_some h
  unfold Lib.itoa
  split
  · have := Lib.decDigits_length n.natAbs
    have := decDigits_le n.natAbs (by omega)
    simp only [List.length_cons]
    omega
  · have := Lib.decDigits_length n.toNat
    have := decDigits_le n.toNat (by omega)
    have := Lib.nDigits_pos n.toNat
    omega
theorem readI_parse {n : Int} {l : List UInt8} (h : readI l = some n) : Lib.parseIntB 64 l = .ok n := by
  obtain ⟨⟨h0, h1⟩, rfl⟩ := readI_some h
  exact parseI n h0 h1

/-- What ReadDecimal returns. -/
def readV (l : List UInt8) : Value := match readI l with
  | some n => .tuple #[.int .i64 n, .bool true]
  | none => .tuple #[.int .i64 0, .bool false]
end Go.Proofs.YtfmlebjaopfelaaDoor.Fl
