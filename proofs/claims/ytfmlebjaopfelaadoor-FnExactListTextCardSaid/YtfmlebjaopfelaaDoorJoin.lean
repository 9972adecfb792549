/-
  Texts joined with commas. Conditions: those of the library's strings.Join.
-/
import Derived.Test.YtfmlebjaopfelaaDoorRows
import Derived.Test.YtfmlebjaopfelaaDoorFl
import Derived.Test.YtfmlebjaopfelaaDoorShelf
import Derived.WalkSpells
import Derived.Below
import Derived.Lib.Join
import Derived.Lib.SmallJoins
import Derived.Maps.AppendAt
namespace Go.Proofs.YtfmlebjaopfelaaDoor.Fl
open Go Go.RowKit

theorem ownsRow_below {B : Nat} {e : TypeId} {k : Nat} {v : Value} {n : Nat} {xs : List Value} {w w' : World} (h : w.ownsRow B e k v n xs) (hb : Below w.heap.size w w') : w'.ownsRow B e k v n xs :=
  h.kept (row := none) ⟨hb.os, hb.tape, hb.output, hb.size, fun j hj _ => hb.block j hj⟩ (by cases hv : v.ownBlock <;> simp)

theorem ownsRow_cap {B : Nat} {e : TypeId} {k g c : Nat} {n : Nat} {xs : List Value} {w : World} (h : w.ownsRow B e k (.slice (some ⟨g, 0, none⟩) n c) n xs) : n ≤ c := by
  rcases h.2 with ⟨h', _⟩ | ⟨g', cap', cur, h', _, _, hc, _⟩
  · simp at h'
  · simp only [Value.slice.injEq] at h'
    omega

theorem ownsRow_strings {B : Nat} {e : TypeId} {g c n : Nat} {xs : List ByteArray} {w : World} (h : w.ownsRow B e 1 (.slice (some ⟨g, 0, none⟩) n c) n (xs.map Value.string)) (hn : n = xs.length) : ∀ (j : Nat) x, xs[j]? = some x → w.cell? ⟨g, j, none⟩ = some (.string x) := by
  intro j x hx
  have hj : j < xs.length := (List.getElem?_eq_some_iff.1 hx).1
  rw [h.cellAt j (by omega)]
  simp [hx]

/-- Joined. -/
def joinB (xs : List ByteArray) : ByteArray := ⟨(Lib.join (xs.map (·.data.toList)) [44]).toArray⟩
/-- The text of a list of texts. -/
def listT (xs : List ByteArray) : ByteArray := if xs.length = 0 then ⟨#[110, 111, 110, 101]⟩ else joinB xs

/-- One more text behind the others. -/
theorem joinB_snoc (xs : List ByteArray) (y : ByteArray) (h : 0 < xs.length) : joinB (xs ++ [y]) = joinB xs ++ ((⟨#[44]⟩ : ByteArray) ++ y) := by
  cases xs with
  | nil => simp at h
  | cons x r =>
    obtain ⟨⟨l⟩⟩ := y
    unfold joinB
    simp only [List.cons_append, List.map_cons, List.map_append, List.map_nil]
    rw [Lib.join_cons, Lib.join_cons]
    apply ByteArray.ext
    apply Array.toList_inj.1
    simp [Lib.joinTail, ByteArray.data_append]

theorem joinB_one (y : ByteArray) : joinB [y] = y := by
  obtain ⟨⟨l⟩⟩ := y
  unfold joinB
  simp [Lib.join_one]

end Go.Proofs.YtfmlebjaopfelaaDoor.Fl
namespace Go.Proofs.YtfmlebjaopfelaaDoor
open Go.RowKit Go.Proofs.YtfmlebjaopfelaaDoor.Fl

theorem infoS : (Tryd.prog.info? 9).map (fun i => (i.zero, i.size, i.bytes)) = some (some (.string ByteArray.empty), 1, 16) := by kernel_rfl

/-- A text, and a world with new blocks alone. -/
def RetS (t : ByteArray) (w : World) (e : Ending) (w' : World) : Prop := e = .returned (.string t) ∧ Below w.heap.size w w'
def RetSB (t : ByteArray) (b : Bool) (w : World) (e : Ending) (w' : World) : Prop := e = .returned (.tuple #[.string t, .bool b]) ∧ Below w.heap.size w w'

theorem joined_any (g c : Nat) (xs : List ByteArray) (n : Nat) (w : World) (hn : n = xs.length) (hcells : ∀ (j : Nat) x, xs[j]? = some x → w.cell? ⟨g, j, none⟩ = some (.string x)) (hg : g < w.heap.size) (hcap : xs.length ≤ c) (hN : xs.length ≤ 1048576)
    (hlen : (joinB xs).size ≤ 140737488355328) : Calls Tryd.prog 47 #[.slice (some ⟨g, 0, none⟩) n c] w (RetS (listT xs) w) := by
  subst hn
  have Hc := hid hcells; clear hcells
  have hlen' : (Lib.join (xs.map (·.data.toList)) [44]).length ≤ 140737488355328 := by
    have e : (joinB xs).size = (Lib.join (xs.map (·.data.toList)) [44]).length := by simp [joinB, ByteArray.size]
    omega
  have Hl := hid hlen'; clear hlen' hlen
  by_cases h0 : xs.length = 0
  · have ht : listT xs = ⟨#[110, 111, 110, 101]⟩ := if_pos h0
    have Ht := hid ht; clear ht
    rw [h0]
    go_enter Tryd.func47, Tryd.ntmps47
    go_wp2_with fail
    go_ret
    exact ⟨by rw [Ht.out]; rfl, Below.refl _ _⟩
  · have ht : listT xs = joinB xs := if_neg h0
    have Ht := hid ht; clear ht
    have h0' : ¬ ((xs.length : Int) = 0) := by omega
    go_enter Tryd.func47, Tryd.ntmps47
    go_wp2_with (go_at_call 61; refine (Tryd.strings_Join g 0 c xs ⟨#[44]⟩ _ (by simpa using Hc.out) hg (by omega) hcap Hl.out).mono ?_; rintro e w' ⟨rfl, hb⟩)
    all_goals (go_ret; exact ⟨by rw [Ht.out]; rfl, hb⟩)
end Go.Proofs.YtfmlebjaopfelaaDoor
