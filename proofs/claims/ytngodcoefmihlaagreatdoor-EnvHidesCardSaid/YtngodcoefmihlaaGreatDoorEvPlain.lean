/-
  The plain law of hidden names: what the innermost environment that has a name tells. No program in sight. No condition.
-/
import Derived.Test.YtngodcoefmihlaaGreatDoorEvPlace
namespace Go.Proofs.YtngodcoefmihlaaGreatDoor

/-- What a list of names tells of a name. -/
def bfind (nm : ByteArray) : List Bnd → Option Nat
  | [] => none
  | b :: r => if b.nm.toList == nm.toList then some b.n else bfind nm r
/-- A name given a value: the first of that name is turned. -/
def bset (nm : ByteArray) (n : Nat) : List Bnd → List Bnd
  | [] => []
  | b :: r => if b.nm.toList == nm.toList then ⟨b.nm, 3, n⟩ :: r else b :: bset nm n r
theorem bset_length (nm : ByteArray) (n : Nat) : ∀ l, (bset nm n l).length = l.length
  | [] => rfl
  | b :: r => by
    unfold bset
    split
    · rfl
    · simp [bset_length nm n r]
theorem bfind_set_other (nm ask : ByteArray) (n : Nat) (h : (nm.toList == ask.toList) = false) : ∀ l, bfind ask (bset nm n l) = bfind ask l
  | [] => rfl
  | b :: r => by
    unfold bset
    split
    · rename_i hb
      have e : b.nm.toList = nm.toList := by simpa using hb
      have hb2 : (b.nm.toList == ask.toList) = false := by rw [e]; exact h
      simp [bfind, hb2]
    · simp [bfind, bfind_set_other nm ask n h r]
theorem bfind_set_same (nm ask : ByteArray) (n : Nat) (h : (nm.toList == ask.toList) = true) : ∀ l, (bix nm l).isSome = true → bfind ask (bset nm n l) = some n
  | [], hs => by simp [bix] at hs
  | b :: r, hs => by
    have e : nm.toList = ask.toList := by simpa using h
    unfold bset
    split
    · rename_i hb
      have hb2 : (b.nm.toList == ask.toList) = true := by rw [← e]; exact hb
      simp [bfind, hb2]
    · rename_i hb
      have hb2 : (b.nm.toList == ask.toList) = false := by rw [← e]; simpa using hb
      have hs2 : (bix nm r).isSome = true := by
        unfold bix at hs
        rw [if_neg hb] at hs
        simpa using hs
      simp [bfind, hb2, bfind_set_same nm ask n h r hs2]
theorem bix_append (nm : ByteArray) (k : Int) (n : Nat) : ∀ l, (bix nm (l ++ [⟨nm, k, n⟩])).isSome = true
  | [] => by simp [bix]
  | b :: r => by
    have ih := bix_append nm k n r
    simp only [List.cons_append, bix]
    split
    · rfl
    · simpa using ih
theorem bfind_append (ask nm : ByteArray) (k : Int) (n : Nat) (h : (nm.toList == ask.toList) = false) : ∀ l, bfind ask (l ++ [⟨nm, k, n⟩]) = bfind ask l
  | [] => by simp [bfind, h]
  | b :: r => by
    simp only [List.cons_append, bfind]
    rw [bfind_append ask nm k n h r]
theorem bfind_bix (ask : ByteArray) : ∀ l, (bfind ask l).isSome = (bix ask l).isSome
  | [] => rfl
  | b :: r => by
    unfold bfind bix
    split
    · rfl
    · rw [bfind_bix ask r]; simp
/-- What a chain of lists tells: the last that has the name. -/
def look (ask : ByteArray) : List (List Bnd) → Option Nat
  | [] => none
  | l :: r => (look ask r).or (bfind ask l)
theorem look_app (ask : ByteArray) (l : List Bnd) : ∀ L, look ask (L ++ [l]) = (bfind ask l).or (look ask L)
  | [] => by simp [look]
  | m :: r => by
    simp only [List.cons_append, look]
    rw [look_app ask l r, Option.or_assoc]
end Go.Proofs.YtngodcoefmihlaaGreatDoor
