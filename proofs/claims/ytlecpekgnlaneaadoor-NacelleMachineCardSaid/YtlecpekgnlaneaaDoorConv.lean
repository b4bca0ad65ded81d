/- What a conversion of bytes to a string gives, and when two such strings are one. -/
import Derived.Test.YtlecpekgnlaneaaDoorBytes
import Derived.Laws.BytesArg
namespace Go.Proofs.YtlecpekgnlaneaaDoor
open Go.RowKit Nac
/-- bytes as a string -/
def strB (l : List UInt8) : ByteArray := ⟨l.toArray⟩
theorem strB_inj (l m : List UInt8) : (strB l = strB m) ↔ l = m := by
  constructor
  · intro h
    have := congrArg ByteArray.data h
    simpa [strB] using this
  · rintro rfl; rfl
theorem strB_toList (l : List UInt8) : (strB l).toList = l := by
  show ByteArray.toList _ = _
  rw [ByteArray.toList_eq]
  rfl
theorem strNums (l : List UInt8) : strOfNums (l.map fun x => (x.toNat : Int)) = strB l := by
  unfold strOfNums strB
  congr 1
  congr 1
  rw [List.map_map]
  have : (fun n : Int => UInt8.ofNat n.toNat) ∘ (fun x : UInt8 => (x.toNat : Int)) = id := by
    funext x
    simp
  rw [this, List.map_id]
theorem run_conv (w : World) {B : Nat} {A : Option Addr} {l : List UInt8} (h : RB w B A l) (n c : Nat) (hn : n = l.length) :
    (convert 22 9 (.slice A n c)).run Tryd.prog w = .ok (.string (strB l)) w := by
  subst hn
  by_cases hl : l = []
  · subst hl
    cases A with
    | none => exact run_convert_bytes_nil w 22 5 Tryd.underlying22 Tryd.underlying5 _ _ 9 Tryd.underlying9
    | some a =>
      rw [run_convert_bytes_string w 22 9 5 (some a) _ c Tryd.underlying22 Tryd.underlying5 Tryd.underlying9,
        run_bytesToString w a _ c [] (by simp [loadCells, loadCellsFrom])]
      rfl
  · obtain ⟨b, o, rfl, _, hc⟩ := h hl
    have := run_convert_bytes_arg (P := Tryd.prog) w 22 5 Tryd.underlying22 Tryd.underlying5 b o l.length c (l.map fun x => (x.toNat : Int)) (by simp)
      (fun i hi => by rw [hc i hi]; simp [hi]) 9 Tryd.underlying9
    rw [this, strNums]
end Go.Proofs.YtlecpekgnlaneaaDoor
