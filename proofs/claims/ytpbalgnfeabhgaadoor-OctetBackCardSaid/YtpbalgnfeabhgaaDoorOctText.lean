/- octet.Text. -/
import Derived.Test.YtpbalgnfeabhgaaDoorOctEnd
import Derived.Lib.AppendStr
namespace Go.Proofs.YtpbalgnfeabhgaaDoor
open Go.RowKit Nac Nac.Crc
theorem strCells_bv (l : List UInt8) : Lib.strCells (strB l) = l.map bv := by
  simp [Lib.strCells, strB, bv]
/-- append of a text onto bytes of the call's own -/
theorem wpList_app_text (w : World) {ops : Array Oper} {rest : List Oper} {o : Oper} {a : Act} {Q : Exit → Act → World → Prop} (hgd : o.guard = none) (s x : Operand)
    (ho : o.op = .call { callee := .builtin .append, args := #[s, x], argTypes := #[25, 9] })
    (base : Nat) (A : Option Addr) (c : Nat) (l : List UInt8) (n : Nat) (hs : a.eval s = .slice A n c) (hn : n = l.length) (hown : OB w base A c l) (m : List UInt8) (hx : a.eval x = .string (strB m))
    (hbytes : l.length + m.length ≤ 140737488355328) (hbase : base ≤ w.heap.size)
    (h : ∀ A' c' L w', Hid (L = l ++ m) → OB w' base A' c' L → w.grownBy w' (A.map (·.block)) → wpList Tryd.prog ops Q rest (a.put o.dst (.slice A' L.length c')) w') : wpList Tryd.prog ops Q (o :: rest) a w := by
  subst hn
  obtain ⟨i, hi, hz, hs1, hb1⟩ := info_parts Tryd.infoByte
  have eb : Value.ownBlock (.slice A l.length c) = A.map (·.block) := by cases A <;> rfl
  have hsz : (strB m).size = m.length := rfl
  obtain ⟨v', w', hr, h2, h3, _⟩ := Lib.run_append_own_string (P := Tryd.prog) (w := w) base 25 9 o.type 5 i Tryd.underlying25 Tryd.underlying9 hi hz hs1 hb1 _ l.length (l.map bv) hown (strB m) (by rw [hsz]; unfold maxLen; omega) (by rw [hsz]; omega) hbase
  rw [strCells_bv, hsz] at h2
  obtain ⟨A', c', rfl⟩ := own_form w' h2
  rw [eb] at h3
  have hK := h A' c' (l ++ m) w' rfl (by unfold OB; rw [List.map_append, List.length_append]; exact h2) h3
  rw [List.length_append] at hK
  refine wpList_plain hgd fun K hKK => ?_
  unfold Oper.wp execOp
  simp only [ho, resolve, invoke, builtin, Sem.run_bind, Sem.run_pure, Result.andThen_ok, List.map_toArray, List.map_cons, List.map_nil, hs, hx, hr]
  exact hKK _ _ hK
def textB (l : List UInt8) : List UInt8 := if 255 < l.length then [] else UInt8.ofNat l.length :: l
theorem byte_small (n : Nat) (h : n ≤ 255) : bv (UInt8.ofNat n) = .int .u8 (n : Int) := by
  unfold bv
  rw [UInt8.toNat_ofNat', Nat.mod_eq_of_lt (by omega)]
set_option maxHeartbeats 1000000 in
theorem text_calls (w : World) (l : List UInt8) (h8 : l.length ≤ 140737488351232) :
    Calls Tryd.prog 12 #[.string (strB l)] w (RetOB w (textB l)) := by
  have hsz : (strB l).size = l.length := rfl
  by_cases hl : 255 < l.length
  · have ht : textB l = [] := if_pos hl
    have HT := Lib.hid ht
    clear ht
    go_enter Tryd.func12, Tryd.ntmps12
    go_wp2
    go_ret
    rw [HT.out]
    exact ⟨none, 0, rfl, OB.nil _ _, Below.refl _ _⟩
  · have ht : textB l = UInt8.ofNat l.length :: l := if_neg hl
    have HT := Lib.hid ht
    have hl2 : l.length ≤ 255 := by omega
    have hown := OB.new w (base := w.heap.size) (Nat.le_refl _) [UInt8.ofNat l.length] (by simp)
    rw [List.map_cons, List.map_nil, byte_small _ hl2] at hown
    have HO := Lib.hid hown
    have k1 : IntKind.u8.wrap (l.length : Int) = (l.length : Int) := by rw [IntKind.wrap_u8]; omega
    clear ht hl hown
    go_enter Tryd.func12, Tryd.ntmps12
    go_wp2_with (at_builtin; refine wpList_app_text _ rfl _ _ rfl w.heap.size (some ⟨w.heap.size, 0, none⟩) 1 [UInt8.ofNat l.length] _ rfl rfl HO.out l rfl (by simp; omega) (by simp) ?_)
    intro A' c' L w1 HL ho hg
    have HO1 := Lib.hid ho
    have HB : Hid (Below w.heap.size w w1) := ((Below.refl w.heap.size w).alloc (Nat.le_refl _) _).grown hg (by simp) (fun k e => by simp at e <;> omega)
    have HLT : Hid (L = textB l) := Lib.hid <| by rw [HT.out, HL.out]
    clear HL ho hg HO
    go_wp2
    go_ret
    rw [← HLT.out]
    exact ⟨A', c', rfl, HO1.out, HB.out⟩
end Go.Proofs.YtpbalgnfeabhgaaDoor
