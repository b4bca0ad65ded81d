/- OctetBack: what is put, and what is read. -/
import Derived.Test.YtpbalgnfeabhgaaDoorOctPuts
import Derived.Test.YtpbalgnfeabhgaaDoorOpenP
namespace Go.Proofs.YtpbalgnfeabhgaaDoor
open Go.RowKit Nac Nac.Crc
/-- the bytes of what is put -/
def enc (x : PutP) : List UInt8 := if x.text = true then textB x.s else putB x.n x.size
def encs (xs : List PutP) : List UInt8 := (xs.map enc).flatten
theorem enc_len (x : PutP) : (enc x).length ≤ 256 := by
  unfold enc
  split
  · unfold textB
    split
    · simp
    · simp; omega
  · unfold putB
    split
    · rw [lbs_length]; omega
    · simp
theorem encs_drop (xs : List PutP) (i : Nat) (h : i < xs.length) : encs (xs.drop i) = enc xs[i] ++ encs (xs.drop (i + 1)) := by
  unfold encs
  rw [List.drop_eq_getElem_cons h]
  rfl
theorem encs_take (xs : List PutP) (i : Nat) (h : i < xs.length) : encs (xs.take (i + 1)) = encs (xs.take i) ++ enc xs[i] := by
  unfold encs
  rw [List.take_succ_eq_append_getElem h, List.map_append, List.flatten_append]
  congr 1
  exact List.append_nil _
theorem encs_len (xs : List PutP) : (encs xs).length ≤ 256 * xs.length := by
  induction xs with
  | nil => simp [encs]
  | cons x xs ih =>
    have := enc_len x
    have e : encs (x :: xs) = enc x ++ encs xs := rfl
    rw [e, List.length_append, List.length_cons]
    omega
theorem num_ok (r : Rdr) (n k : Nat) (h1 : 1 ≤ k) (h8 : k ≤ 8) (hc : r.code = 0) (rest : List UInt8) (hd : r.l.drop r.pos = lbs n k ++ rest) : r.num k = ({ r with pos := r.pos + k }, n % 256 ^ k) := by
  have hlen : r.l.length - r.pos = k + rest.length := by
    have := congrArg List.length hd
    simpa [lbs_length] using this
  unfold Rdr.num
  rw [if_neg (by omega), Int.toNat_natCast]
  have ht : r.take k = ({ r with pos := r.pos + k }, some (lbs n k)) := by
    unfold Rdr.take
    rw [if_neg (by simpa using hc), if_neg (by unfold Rdr.left; omega), hd, List.take_left' (lbs_length k n)]
  rw [ht]
  show (_, le (lbs n k)) = _
  rw [le_lbs]
theorem drop_more {l a rest : List UInt8} {p : Nat} (h : l.drop p = a ++ rest) : l.drop (p + a.length) = rest := by
  rw [← List.drop_drop, h, List.drop_left]
end Go.Proofs.YtpbalgnfeabhgaaDoor
