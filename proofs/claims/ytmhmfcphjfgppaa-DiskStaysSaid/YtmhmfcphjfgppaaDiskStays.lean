/- DiskStays: small laws of its walks. -/
import Derived.Test.YtmhmfcphjfgppaaDiskLaw4
namespace Go.Proofs.Ytmhmfcphjfgppaa
open Go.RowKit Go.ChangeShapes Go.WideShapes

theorem str_idx (s : List UInt8) (ss : ByteArray) (h : strOf s = ss) (j : Nat) (hj : j < s.length) (hj' : j < ss.size) : ss[j] = s[j] := by
  subst h; rfl
theorem byte_1 (k : Nat) (h : k < 12) : ∃ c : UInt8, (1 + (k : Int)) = (c.toNat : Int) ∧ c.toNat ≤ 12 := by
  have : (UInt8.ofNat (1 + k)).toNat = 1 + k := by simp; omega
  exact ⟨UInt8.ofNat (1 + k), by rw [this]; omega, by omega⟩
theorem byte_100 (k : Nat) (h : k < 12) : ∃ c : UInt8, (100 + (k : Int)) = (c.toNat : Int) ∧ 100 ≤ c.toNat := by
  have : (UInt8.ofNat (100 + k)).toNat = 100 + k := by simp; omega
  exact ⟨UInt8.ofNat (100 + k), by rw [this]; omega, by omega⟩
end Go.Proofs.Ytmhmfcphjfgppaa
