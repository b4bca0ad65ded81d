/- Bundle 1 of the texts As, Post, Hdl, Com, CrcPlain, ShaPlain, ShaRot, Blk, Row, Cell1, ArrS, Mono, Val, Struct, Tail, PvmPlain, BoxF, PvmIns. -/
import Derived.Test.YtjfpoahmjgeogaaGreatDoorProg
import Derived.WalkKit
import Derived.LaidEql
import Derived.Stop.Asserts
import Derived.RowKitTokens
import Derived.ProofKit
import Derived.OpenShut
import Derived.ChangeSame
import Derived.WalkLawsBesides
import Derived.WalkSpells
import Derived.Deep.AppendLies
import Derived.Deep.Draws
import Derived.Laws.BitsAllLaws
import Derived.Lib.Hide
import Derived.Laws.ShiftsVarLaws
import Derived.Deep.MidRow
import Derived.OneCell
import Derived.Orders
import Derived.Shelf.Abstract
import Derived.IntWalk
/- errors.As at the target *fault.Fault, by its contracts (lines of the worked text ToyasAs turned to this). -/
namespace Go.Proofs.YtjfpoahmjgeogaaGreatDoor
open Go.RowKit Go.Extern.Stop Go.Stop Go.Extern

theorem as_nil (t : Value) (w : World) :
    Calls Tryz.prog 86 #[.nilIface, t] w fun e w' => e = .returned (.bool false) ∧ w' = w := by
  go_enter Tryz.func86, Tryz.ntmps86
  go_wp2
  go_ret
  exact ⟨rfl, rfl⟩

/-! the entries for internal/reflectlite, at this program s types -/
theorem Tryz.valueOf27 (t : Addr) (w : World) : (ReflectliteValue.unpack (.iface 173 (.pointer (some t)))).run Tryz.prog w
    = .ok (.agg #[.pointer (some ⟨5, 173, none⟩), .pointer (some ⟨w.heap.size, 0, none⟩), .int .u64 150]) (w.alloc (.cells #[.pointer (some t)] 173)) := by kernel_rfl
theorem Tryz.type27 (a : Addr) (w : World) : (ReflectliteValue.methodAny (ReflectliteValue.valueError "reflectlite.Value.Type" 0) (fun t _ _ _ => ReflectliteType.toType t) #[.agg #[.pointer (some ⟨5, 173, none⟩), .pointer (some a), .int .u64 150]]).run Tryz.prog w
    = .ok (.iface 213 (.agg #[.pointer (some ⟨5, 173, none⟩)])) w := by kernel_rfl
theorem Tryz.methodKind (h : Value) (w : World) : (Go.method 355 213 (.agg #[h]) "Kind").run Tryz.prog w = .ok (133, h) w := by kernel_rfl
theorem Tryz.kind27 (w : World) : ((ReflectliteType.abiMethod fun t => (fun a : Nat => Value.int IntKind.u8 (a : Int)) <$> Rtype.kind t) #[.pointer (some ⟨5, 173, none⟩)]).run Tryz.prog w = .ok (.int .u8 22) w := by kernel_rfl
theorem Tryz.kind25 (w : World) : ((ReflectliteType.abiMethod fun t => (fun a : Nat => Value.int IntKind.u8 (a : Int)) <$> Rtype.kind t) #[.pointer (some ⟨5, 131, none⟩)]).run Tryz.prog w = .ok (.int .u8 22) w := by kernel_rfl

/-! ### THE ENTRIES THAT READ OR WRITE MEMORY: laws with a premise on the cell (after Derived/Lib/ReflectliteSlice.lean's manner: each unfolding a lemma of its own, by rfl) -/
theorem rlm (z : Sem Value) (f : TypeId → Addr → Nat → Nat → Sem Value) (v : Value) :
    ReflectliteValue.method z f #[v] = (do match ← ReflectliteValue.parts v with | none => z | some (t, a, fl) => f t a fl (fl % 32)) := rfl
theorem Tryz.parts27 (a : Addr) (w : World) : (ReflectliteValue.parts (.agg #[.pointer (some ⟨5, 173, none⟩), .pointer (some a), .int .u64 150])).run Tryz.prog w = .ok (some (173, a, 150)) w := by kernel_rfl
theorem Tryz.isNil27 (a p : Addr) (W : World) (ha : W.cell? a = some (.pointer (some p))) :
    (ReflectliteValue.method (ReflectliteValue.valueError "reflectlite.Value.IsNil" 0) ReflectliteValue.isNil #[.agg #[.pointer (some ⟨5, 173, none⟩), .pointer (some a), .int .u64 150]]).run Tryz.prog W = .ok (.bool false) W := by
  rw [rlm]
  simp only [Sem.run_bind, Tryz.parts27, Result.andThen]
  simp [ReflectliteValue.isNil, loadVar, isAgg, underlying, Tryz.underlying173, ha, Result.andThen]

theorem Tryz.methodElem (h : Value) (w : World) : (Go.method 355 213 (.agg #[h]) "Elem").run Tryz.prog w = .ok (148, .agg #[h]) w := by kernel_rfl
theorem Tryz.methodImplements (h : Value) (w : World) : (Go.method 355 213 (.agg #[h]) "Implements").run Tryz.prog w = .ok (149, .agg #[h]) w := by kernel_rfl
theorem Tryz.methodAssignableTo (h : Value) (w : World) : (Go.method 355 213 (.agg #[h]) "AssignableTo").run Tryz.prog w = .ok (146, .agg #[h]) w := by kernel_rfl
theorem Tryz.elem27 (w : World) : (ReflectliteType.method ReflectliteType.elem #[.agg #[.pointer (some ⟨5, 173, none⟩)]]).run Tryz.prog w = .ok (.iface 213 (.agg #[.pointer (some ⟨5, 131, none⟩)])) w := by kernel_rfl
theorem Tryz.implements25 (w : World) : (ReflectliteType.relation "Implements" ReflectliteType.implements_ #[.agg #[.pointer (some ⟨5, 131, none⟩)], .iface 213 (.agg #[.pointer (some ⟨5, 41, none⟩)])]).run Tryz.prog w = .ok (.bool true) w := by kernel_rfl
theorem Tryz.typeOf25 (v : Value) (w : World) : (ReflectliteType.typeOf #[.iface 131 v]).run Tryz.prog w = .ok (.iface 213 (.agg #[.pointer (some ⟨5, 131, none⟩)])) w := by kernel_rfl
theorem Tryz.assignable25 (w : World) : (ReflectliteType.relation "AssignableTo" ReflectliteType.assignableTo #[.agg #[.pointer (some ⟨5, 131, none⟩)], .iface 213 (.agg #[.pointer (some ⟨5, 131, none⟩)])]).run Tryz.prog w = .ok (.bool true) w := by kernel_rfl
theorem Tryz.valueOf25 (e : Addr) (w : World) : (ReflectliteValue.unpack (.iface 131 (.pointer (some e)))).run Tryz.prog w
    = .ok (.agg #[.pointer (some ⟨5, 131, none⟩), .pointer (some ⟨w.heap.size, 0, none⟩), .int .u64 150]) (w.alloc (.cells #[.pointer (some e)] 131)) := by kernel_rfl

theorem Tryz.elemOf27 (w : World) : (Rtype.elem? 173).run Tryz.prog w = .ok (some 131) w := by kernel_rfl
theorem Tryz.mk25 (p : Addr) (w : World) : (ReflectliteValue.mk 131 p ReflectliteValue.flagAddr).run Tryz.prog w = .ok (.agg #[.pointer (some ⟨5, 131, none⟩), .pointer (some p), .int .u64 406]) w := by kernel_rfl
theorem Tryz.elemV27 (a p : Addr) (W : World) (ha : W.cell? a = some (.pointer (some p))) :
    (ReflectliteValue.method (ReflectliteValue.valueError "reflectlite.Value.Elem" 0) ReflectliteValue.elem #[.agg #[.pointer (some ⟨5, 173, none⟩), .pointer (some a), .int .u64 150]]).run Tryz.prog W
      = .ok (.agg #[.pointer (some ⟨5, 131, none⟩), .pointer (some p), .int .u64 406]) W := by
  rw [rlm]
  simp only [Sem.run_bind, Tryz.parts27, Result.andThen]
  simp [ReflectliteValue.elem, loadVar, isAgg, underlying, Tryz.underlying173, ha, Result.andThen, Tryz.elemOf27, Tryz.mk25]
theorem rls (v x : Value) : ReflectliteValue.set #[v, x] = (do
    let (some (dst, a, fl), some (src, b, _)) := (← ReflectliteValue.parts v, ← ReflectliteValue.parts x)
      | unsupported (.noEntry "extern/(internal/reflectlite.Value).Set.zeroValue")
    if fl / ReflectliteValue.flagAddr % 2 == 0 then unsupported (.noEntry "extern/(internal/reflectlite.Value).Set.unaddressable")
    let val ← loadVar src b
    if ← Rtype.directlyAssignable dst src then storeVar dst a val
    else if ← Rtype.implements dst src then
      if (← Rtype.kind src) == 20 then
        match val with
        | .nilIface => unsupported (.noEntry "extern/reflectlite: a nil value of one interface type handed on as a value of another")
        | _ => storeVar dst a val
      else storeVar dst a (.iface src val)
    else panicString ("reflectlite.Set: value of type " ++ (← Rtype.spelt src) ++ " is not assignable to type " ++ (← Rtype.spelt dst))
    pure (.tuple #[])) := rfl
theorem Tryz.parts25a (a : Addr) (w : World) : (ReflectliteValue.parts (.agg #[.pointer (some ⟨5, 131, none⟩), .pointer (some a), .int .u64 406])).run Tryz.prog w = .ok (some (131, a, 406)) w := by kernel_rfl
theorem Tryz.parts25 (a : Addr) (w : World) : (ReflectliteValue.parts (.agg #[.pointer (some ⟨5, 131, none⟩), .pointer (some a), .int .u64 150])).run Tryz.prog w = .ok (some (131, a, 150)) w := by kernel_rfl
theorem Tryz.direct25 (w : World) : (Rtype.directlyAssignable 131 131).run Tryz.prog w = .ok true w := by kernel_rfl
theorem Tryz.set25 (ta b e : Addr) (old : Value) (W : World) (hb : W.cell? b = some (.pointer (some e))) (ht : W.cell? ta = some old) (hf : W.frozen? ta = false) :
    (ReflectliteValue.set #[.agg #[.pointer (some ⟨5, 131, none⟩), .pointer (some ta), .int .u64 406], .agg #[.pointer (some ⟨5, 131, none⟩), .pointer (some b), .int .u64 150]]).run Tryz.prog W
      = .ok (.tuple #[]) (W.setCell ta (.pointer (some e))) := by
  rw [rls]
  simp only [Sem.run_bind, Tryz.parts25a, Tryz.parts25, Result.andThen]
  simp [ReflectliteValue.flagAddr, loadVar, isAgg, underlying, Tryz.underlying131, hb, Result.andThen, Tryz.direct25, storeVar, Value.cells, storeCells, Addr.add]
  rw [run_store Tryz.prog W ta _ _ (by rfl)]
  simp [ht, hf]

set_option maxHeartbeats 4000000 in
theorem as_hit (e t : Addr) (old : Value) (w : World) (hg : w.cell? ⟨3, 0, none⟩ = some (.iface 213 (.agg #[.pointer (some ⟨5, 41, none⟩)]))) (ht0 : w.cell? t = some old) (hf0 : w.frozen? t = false) :
    Calls Tryz.prog 86 #[.iface 131 (.pointer (some e)), .iface 173 (.pointer (some t))] w fun ev w' => ev = .returned (.bool true) ∧ w' = ((((w.alloc (.cells #[.pointer (some t)] 173)).alloc (.cells #[.pointer (some ⟨5, 173, none⟩), .pointer (some ⟨w.heap.size, 0, none⟩), .int .u64 150] 200)).alloc (.cells #[.pointer (some ⟨5, 173, none⟩), .pointer (some ⟨w.heap.size, 0, none⟩), .int .u64 150] 200)).alloc (.cells #[.pointer (some e)] 131)).setCell t (.pointer (some e)) := by
  have h6 := @run_callFunc_extern Tryz.prog 106 _ (fun args => ReflectliteValue.unpack (args.getD 0 (.tuple #[]))) Tryz.func106 (by kernel_rfl) (by kernel_rfl) (by kernel_rfl) (by kernel_rfl)
  have h7 := @run_callFunc_extern Tryz.prog 107 _ (ReflectliteValue.methodAny (ReflectliteValue.valueError "reflectlite.Value.Type" 0) (fun t _ _ _ => ReflectliteType.toType t)) Tryz.func107 (by kernel_rfl) (by kernel_rfl) (by kernel_rfl) (by kernel_rfl)
  have h8 := @run_callFunc_extern Tryz.prog 108 _ (ReflectliteValue.method (ReflectliteValue.valueError "reflectlite.Value.IsNil" 0) ReflectliteValue.isNil) Tryz.func108 (by kernel_rfl) (by kernel_rfl) (by kernel_rfl) (by kernel_rfl)
  have h27 := @run_callFunc_extern Tryz.prog 133 _ (ReflectliteType.abiMethod fun t => do pure (.int .u8 (← Rtype.kind t))) Tryz.func133 (by kernel_rfl) (by kernel_rfl) (by kernel_rfl) (by kernel_rfl)
  have h37 := @run_callFunc_extern Tryz.prog 148 _ (ReflectliteType.method ReflectliteType.elem) Tryz.func148 (by kernel_rfl) (by kernel_rfl) (by kernel_rfl) (by kernel_rfl)
  have h38 := @run_callFunc_extern Tryz.prog 149 _ (ReflectliteType.relation "Implements" ReflectliteType.implements_) Tryz.func149 (by kernel_rfl) (by kernel_rfl) (by kernel_rfl) (by kernel_rfl)
  have h10 := @run_callFunc_extern Tryz.prog 115 _ ReflectliteType.typeOf Tryz.func115 (by kernel_rfl) (by kernel_rfl) (by kernel_rfl) (by kernel_rfl)
  have h35 := @run_callFunc_extern Tryz.prog 146 _ (ReflectliteType.relation "AssignableTo" ReflectliteType.assignableTo) Tryz.func146 (by kernel_rfl) (by kernel_rfl) (by kernel_rfl) (by kernel_rfl)
  have h11 := @run_callFunc_extern Tryz.prog 116 _ (ReflectliteValue.method (ReflectliteValue.valueError "reflectlite.Value.Elem" 0) ReflectliteValue.elem) Tryz.func116 (by kernel_rfl) (by kernel_rfl) (by kernel_rfl) (by kernel_rfl)
  have h12 := @run_callFunc_extern Tryz.prog 117 _ ReflectliteValue.set Tryz.func117 (by kernel_rfl) (by kernel_rfl) (by kernel_rfl) (by kernel_rfl)
  have tO := Tryz.typeOf25
  have mA := Tryz.methodAssignableTo
  have a25 := Tryz.assignable25
  have v25 := Tryz.valueOf25
  have f6 := Tryz.valueOf27
  have f7 := Tryz.type27
  have mK := Tryz.methodKind
  have mE := Tryz.methodElem
  have mI := Tryz.methodImplements
  have k27 := Tryz.kind27
  have k25 := Tryz.kind25
  have e27 := Tryz.elem27
  have i25 := Tryz.implements25
  have n8 := Tryz.isNil27 ⟨w.heap.size, 0, none⟩ t ((w.alloc (.cells #[.pointer (some t)] 173)).alloc (.cells #[.pointer (some ⟨5, 173, none⟩), .pointer (some ⟨w.heap.size, 0, none⟩), .int .u64 150] 200)) (by simp)
  have hlt : 3 < w.heap.size := by
    rcases Nat.lt_or_ge 3 w.heap.size with h | h0
    · exact h
    · simp [World.cell?, Array.getElem?_eq_none h0] at hg
  have hg2 : ((w.alloc (.cells #[.pointer (some t)] 173)).alloc (.cells #[.pointer (some ⟨5, 173, none⟩), .pointer (some ⟨w.heap.size, 0, none⟩), .int .u64 150] 200)).cell? ⟨3, 0, none⟩ = some (.iface 213 (.agg #[.pointer (some ⟨5, 41, none⟩)])) := by
    rw [World.cell?_alloc_lt _ _ ⟨3, 0, none⟩ (by simp <;> omega), World.cell?_alloc_lt _ _ ⟨3, 0, none⟩ hlt]; exact hg
  have htl : t.block < w.heap.size := by
    rcases Nat.lt_or_ge t.block w.heap.size with h | h
    · exact h
    · simp [World.cell?, Array.getElem?_eq_none h] at ht0
  have el := Tryz.elemV27 ⟨w.heap.size, 0, none⟩ t (((w.alloc (.cells #[.pointer (some t)] 173)).alloc (.cells #[.pointer (some ⟨5, 173, none⟩), .pointer (some ⟨w.heap.size, 0, none⟩), .int .u64 150] 200)).alloc (.cells #[.pointer (some ⟨5, 173, none⟩), .pointer (some ⟨w.heap.size, 0, none⟩), .int .u64 150] 200)) (by rw [World.cell?_alloc_lt _ _ ⟨w.heap.size, 0, none⟩ (by simp; omega)]; simp)
  have st := Tryz.set25 t ⟨w.heap.size + 1 + 1 + 1, 0, none⟩ e old ((((w.alloc (.cells #[.pointer (some t)] 173)).alloc (.cells #[.pointer (some ⟨5, 173, none⟩), .pointer (some ⟨w.heap.size, 0, none⟩), .int .u64 150] 200)).alloc (.cells #[.pointer (some ⟨5, 173, none⟩), .pointer (some ⟨w.heap.size, 0, none⟩), .int .u64 150] 200)).alloc (.cells #[.pointer (some e)] 131))
    (by rw [World.cell?_alloc_at _ _ _ _ (by simp)]; rfl)
    (by rw [World.cell?_alloc_lt _ _ t (by simp; omega), World.cell?_alloc_lt _ _ t (by simp; omega), World.cell?_alloc_lt _ _ t (by simp; omega), World.cell?_alloc_lt _ _ t htl]; exact ht0)
    (by rw [World.frozen?_alloc_old _ _ t (by simp; omega), World.frozen?_alloc_old _ _ t (by simp; omega), World.frozen?_alloc_old _ _ t (by simp; omega), World.frozen?_alloc_old _ _ t (Nat.ne_of_lt htl)]; exact hf0)
  go_enter Tryz.func86, Tryz.ntmps86
  go_wp2
  refine wp_loop_rounds 1 ?_
  rw [rounds_succ]
  go_wp2
  go_ret
  exact ⟨rfl, rfl⟩
end Go.Proofs.YtjfpoahmjgeogaaGreatDoor
/- What every law's row asks behind the walk: it returned true, and nothing that was there when the call began has turned: so the arguments read as before. Over whatever program. -/
namespace Nac
open Go Go.RowKit Go.WideShapes Go.ChangeShapes
section
variable {H : Type} {enc : TypeId × Value → H} {P : Program}
theorem trodAll_stays {W W' : World} {base : Nat} {sp' : Nat → Bool} (hl : laidOutB P = true) : ∀ {ts : List TypeId} {vs : List Value} {ds : List (DataW H)} {ps : List MemPlace}, (∀ t ∈ ts, P.readableRec t = true ∧ t < P.types.size) →
    DataW.TrodAll enc P W base (fun _ => true) true ts vs ds ps → (∀ p ∈ ps, W.sameAt W' p) → (∀ p ∈ ps, sp' p.block = true) → DataW.TrodAll enc P W' base sp' true ts vs ds ps := by
  intro ts
  induction ts with
  | nil =>
    intro vs ds ps _ h _ _
    obtain ⟨rfl, rfl, rfl⟩ := trodAll_nil h
    exact trodAll_mk0
  | cons t ts ih =>
  intro vs ds ps ht h hs hp
  obtain ⟨v, vs', d, ds', p, q, rfl, rfl, rfl, h0, r0⟩ := trodAll_cons h
  obtain ⟨h1, h2⟩ := ht t (by simp)
  exact trodAll_cons_mk (WideElems.Trod_stays hl h1 h2 h0 (fun x hx => hs x (by simp [hx])) (fun x hx => hp x (by simp [hx])))
    (ih (fun t' ht' => ht t' (by simp [ht'])) r0 (fun x hx => hs x (by simp [hx])) (fun x hx => hp x (by simp [hx])))
theorem law_post {f : Func} {s : ChangeSpec} {apart fresh handsOn again : Bool} {W W' : World} {args : Array Value} {ds gs : List (DataW H)} {before : List MemPlace} {tb : TypeId}
    (hl : laidOutB P = true) (hts : ∀ t ∈ f.params.toList, P.readableRec t = true ∧ t < P.types.size)
    (hW : DataW.Whole enc P f.params.toList s.vars apart W args.toList ds gs before) (hv0 : s.vars = []) (hb : Below W.heap.size W W')
    (hr : f.resultTypes = #[tb]) (htb : P.underlying tb = some .bool)
    (hspec : (s.fn H ds).results = [.lit (.bool true)] ∧ (s.fn H ds).args = ds ∧ (s.fn H ds).vars = []) :
    s.post enc P f apart fresh handsOn again W args (.bool true) W' := by
  have hlt : ∀ p ∈ before, p.block < W.heap.size := fun p hp => hW.lt p hp
  have hW0 := hW
  obtain ⟨p, q, hA, hV, hps, hz, hn⟩ := hW
  rw [hv0] at hV
  obtain ⟨rfl, rfl⟩ := trodVars_none hV
  rw [List.append_nil] at hps
  subst hps
  have hsame : ∀ x ∈ before, W.sameAt W' x := fun x hx => hb.same (hlt x hx)
  have hargs : ∀ sp : Nat → Bool, (∀ x ∈ before, sp x.block = true) → DataW.TrodAll enc P W' 0 sp true f.params.toList args.toList (s.fn H (ds ++ [])).args before := by
    intro sp hsp
    rw [List.append_nil, hspec.2.1]
    exact trodAll_stays hl hts hA hsame hsp
  have hold : ∀ x ∈ before, (fun b => decide (b < W.heap.size)) x.block = true := fun x hx => by simpa using hlt x hx
  have hres : ∀ (b : Nat) (sp : Nat → Bool) (hd : Bool), DataW.TrodAll enc P W' b sp hd f.resultTypes.toList ((Value.bool true).resultList f.resultTypes.size) (s.fn H (ds ++ [])).results [] := by
    intro b sp hd
    rw [List.append_nil, hspec.1, hr]
    exact trodAll_cons_mk (shut_bool htb true) trodAll_mk0
  refine ⟨ds, [], before, [], before, [], hW0, hres _ _ _, hargs _ hold, ?_, World.keptBut_mono (fun x hx => ⟨hx, Or.inr (Or.inl hx)⟩) (hb.frame (· ∈ before)), fun _ => ?_⟩
  · rw [List.append_nil, hspec.2.2, hv0]; rfl
  · refine ⟨ok_one (P := P) hr rfl (okWide_bool_mk htb true), _, [], before, ⟨before, [], trodAll_append (hargs (fun _ => true) (fun _ _ => rfl)) (hres 0 (fun _ => true) true), ?_, by simp, ?_, hn⟩, fun x hx _ => hx⟩
    · rw [hv0]; rfl
    · intro b off hp
      rw [hb.frozen (p := ⟨b, off, none⟩) (hlt _ hp)]
      exact hz b off hp
end
end Nac
/- The handle of the type 'error' in its variable. -/
namespace Go.Proofs.YtjfpoahmjgeogaaGreatDoor
open Go.RowKit
def Hdl (w : World) : Prop := w.cell? ⟨3, 0, none⟩ = some (.iface 213 (.agg #[.pointer (some ⟨5, 41, none⟩)]))
theorem Hdl.lt {w : World} (h : Hdl w) : 3 < w.heap.size := by
  rcases Nat.lt_or_ge 3 w.heap.size with h' | h0
  · exact h'
  · simp [Hdl, World.cell?, Array.getElem?_eq_none h0] at h
theorem Hdl.below {w w' : World} {B : Nat} (h : Hdl w) (hb : Below B w w') (hB : 3 < B) : Hdl w' := (hb.cell (p := ⟨3, 0, none⟩) hB).trans h
end Go.Proofs.YtjfpoahmjgeogaaGreatDoor
/- Words of our own for bytes in memory, and small facts that the walks of this seat share. No program in sight. -/
namespace Nac
open Go Go.RowKit
def bv (x : UInt8) : Value := .int .u8 (x.toNat : Int)
def RB (w : World) (B : Nat) (A : Option Addr) (l : List UInt8) : Prop :=
  l ≠ [] → ∃ b o, A = some ⟨b, o, none⟩ ∧ b < B ∧ ∀ j (h : j < l.length), w.cell? ⟨b, o + j, none⟩ = some (.int .u8 ((l[j]).toNat : Int))
theorem RB.nil (w : World) (B : Nat) (A : Option Addr) : RB w B A [] := fun h => absurd rfl h
theorem RB.get {w : World} {B : Nat} {A : Option Addr} {l : List UInt8} (h : RB w B A l) {k : Nat} (hk : k < l.length) :
    ∃ b o, A = some ⟨b, o, none⟩ ∧ b < B ∧ w.cell? ⟨b, o + k, none⟩ = some (.int .u8 ((l[k]).toNat : Int)) := by
  obtain ⟨b, o, hA, hb, hc⟩ := h (by intro e; subst e; simp at hk)
  exact ⟨b, o, hA, hb, hc k hk⟩
theorem RB.keep {w w' : World} {B : Nat} {A : Option Addr} {l : List UInt8} (h : RB w B A l) (hk : ∀ p : Addr, p.block < B → w'.cell? p = w.cell? p) : RB w' B A l := fun hn => by
  obtain ⟨b, o, hA, hb, hc⟩ := h hn
  exact ⟨b, o, hA, hb, fun j hj => (hk _ hb).trans (hc j hj)⟩
theorem RB.below {w w' : World} {B : Nat} {A : Option Addr} {l : List UInt8} (h : RB w B A l) (hb : Below B w w') : RB w' B A l := h.keep fun _ hp => hb.cell hp
theorem RB.mono {w : World} {B B' : Nat} {A : Option Addr} {l : List UInt8} (h : RB w B A l) (hB : B ≤ B') : RB w B' A l := fun hn => by
  obtain ⟨b, o, hA, hb, hc⟩ := h hn
  exact ⟨b, o, hA, by omega, hc⟩
theorem RB.drop {w : World} {B b o : Nat} {l : List UInt8} (h : RB w B (some ⟨b, o, none⟩) l) (k : Nat) : RB w B (some ⟨b, o + k, none⟩) (l.drop k) := fun hn => by
  obtain ⟨b', o', hA, hb, hc⟩ := h (by rintro rfl; simp at hn)
  injection hA with hA
  injection hA with h1 h2
  subst h1
  subst h2
  refine ⟨b, o + k, rfl, hb, fun j hj => ?_⟩
  have := hc (k + j) (by simp at hj; omega)
  rw [List.getElem_drop, ← this, Nat.add_assoc]
theorem RB.take {w : World} {B : Nat} {A : Option Addr} {l : List UInt8} (h : RB w B A l) (k : Nat) : RB w B A (l.take k) := fun hn => by
  obtain ⟨b', o', hA, hb, hc⟩ := h (by rintro rfl; simp at hn)
  refine ⟨b', o', hA, hb, fun j hj => ?_⟩
  have := hc j (by simp at hj; omega)
  rw [List.getElem_take, ← this]
end Nac
namespace Nac.Crc
abbrev W32 := BitVec 32
def poly : W32 := 0x82f63b78#32
def step (r : W32) : W32 := (r >>> 1) ^^^ (if r.getLsbD 0 then poly else 0#32)
def steps : Nat → W32 → W32
  | 0, r => r
  | n + 1, r => steps n (step r)

theorem step_xor (a b : W32) : step (a ^^^ b) = step a ^^^ step b := by
  unfold step
  rw [BitVec.ushiftRight_xor_distrib, BitVec.getLsbD_xor]
  cases ha : a.getLsbD 0 <;> cases hb : b.getLsbD 0 <;> simp
  · ac_rfl
  · ac_rfl
  · have : (a >>> 1 ^^^ poly) ^^^ (b >>> 1 ^^^ poly) = (a >>> 1 ^^^ b >>> 1) ^^^ (poly ^^^ poly) := by ac_rfl
    rw [this, BitVec.xor_self, BitVec.xor_zero]
theorem steps_xor (n : Nat) : ∀ a b : W32, steps n (a ^^^ b) = steps n a ^^^ steps n b := by
  induction n with
  | zero => intro a b; rfl
  | succ n ih => intro a b; simp only [steps, step_xor, ih]
theorem steps_add (n m : Nat) : ∀ r, steps (n + m) r = steps m (steps n r) := by
  induction n with
  | zero => intro r; simp [steps]
  | succ n ih => intro r; rw [show n + 1 + m = (n + m) + 1 by omega]; simp only [steps, ih]

theorem steps_shift (n : Nat) : ∀ r : W32, (∀ i, i < n → r.getLsbD i = false) → steps n r = r >>> n := by
  induction n with
  | zero => intro r _; simp [steps]
  | succ n ih =>
  intro r h
  have h0 : step r = r >>> 1 := by unfold step; rw [h 0 (by omega)]; simp
  have := ih (r >>> 1) (fun i hi => by rw [BitVec.getLsbD_ushiftRight]; exact h _ (by omega))
  simp only [steps, h0, this]
  rw [← BitVec.shiftRight_add, Nat.add_comm]

def table : List Nat := [0, 274646895, 549293790, 820201905, 1098587580, 1361435347, 1640403810, 1905808397, 2197175160, 2460548119, 2722870694, 2987750089, 3280807620, 3553878443, 3811616794, 4084100981]
theorem table_eq : ∀ k : Fin 16, BitVec.ofNat 32 (table.getD k.val 0) = steps 4 (BitVec.ofNat 32 k.val) := by decide
theorem table_lt : ∀ k : Fin 16, table.getD k.val 0 < 4294967296 := by decide

theorem split16 (r : W32) : r = (r &&& ~~~ 15#32) ^^^ (r &&& 15#32) := by
  apply BitVec.eq_of_getLsbD_eq
  intro i hi
  simp only [BitVec.getLsbD_xor, BitVec.getLsbD_and, BitVec.getLsbD_not]
  cases r.getLsbD i <;> cases (15#32).getLsbD i <;> simp [hi]
theorem shift_low (r : W32) : (r &&& ~~~ 15#32) >>> 4 = r >>> 4 := by
  apply BitVec.eq_of_getLsbD_eq
  intro i hi
  simp only [BitVec.getLsbD_ushiftRight, BitVec.getLsbD_and, BitVec.getLsbD_not]
  have h15 : (15#32).getLsbD (4 + i) = false := by
    apply Nat.testBit_lt_two_pow
    exact Nat.lt_of_lt_of_le (show 15 < 2 ^ 4 by decide) (Nat.pow_le_pow_right (by decide) (by omega))
  rw [h15]
  by_cases h : 4 + i < 32
  · simp [h]
  · rw [BitVec.getLsbD_of_ge r _ (by omega)]; simp
theorem low_bits (r : W32) (i : Nat) (hi : i < 4) : (r &&& ~~~ 15#32).getLsbD i = false := by
  have h : (~~~ 15#32).getLsbD i = false := by
    have : i = 0 ∨ i = 1 ∨ i = 2 ∨ i = 3 := by omega
    rcases this with rfl | rfl | rfl | rfl <;> decide
  rw [BitVec.getLsbD_and, h, Bool.and_false]

theorem and15_lt (r : W32) : (r &&& 15#32).toNat < 16 := by
  rw [BitVec.toNat_and]
  exact Nat.lt_of_le_of_lt Nat.and_le_right (by decide)

def nib (r : W32) : W32 := (r >>> 4) ^^^ BitVec.ofNat 32 (table.getD (r &&& 15#32).toNat 0)
theorem nib_eq (r : W32) : nib r = steps 4 r := by
  have h1 : steps 4 r = steps 4 (r &&& ~~~ 15#32) ^^^ steps 4 (r &&& 15#32) := by
    rw [← steps_xor, ← split16]
  rw [h1, steps_shift 4 _ (low_bits r), shift_low]
  unfold nib
  congr 1
  have h := table_eq ⟨(r &&& 15#32).toNat, and15_lt r⟩
  simp only [BitVec.ofNat_toNat] at h
  simpa using h

def wide (x : UInt8) : W32 := BitVec.ofNat 32 x.toNat
def feed (r : W32) (x : UInt8) : W32 := steps 8 (r ^^^ wide x)
theorem feed_nib (r : W32) (x : UInt8) : nib (nib (r ^^^ wide x)) = feed r x := by
  rw [nib_eq, nib_eq, ← steps_add]; rfl

def reg (r : W32) (l : List UInt8) : W32 := l.foldl feed r
theorem reg_snoc (r : W32) (l : List UInt8) (x : UInt8) : reg r (l ++ [x]) = feed (reg r l) x := by simp [reg]

def on (sum : W32) (l : List UInt8) : W32 := ~~~ reg (~~~ sum) l
def of (l : List UInt8) : W32 := on 0#32 l
/-! numbers in bytes, the least significant one first -/
def le : List UInt8 → Nat
  | [] => 0
  | x :: l => x.toNat + 256 * le l
def lbs : Nat → Nat → List UInt8
  | _, 0 => []
  | n, k + 1 => UInt8.ofNat n :: lbs (n / 256) k
theorem lbs_length (k : Nat) : ∀ n, (lbs n k).length = k := by
  induction k with
  | zero => intro n; rfl
  | succ k ih => intro n; simp [lbs, ih]
theorem le_lbs (k : Nat) : ∀ n, le (lbs n k) = n % 256 ^ k := by
  induction k with
  | zero => intro n; simp [lbs, le, Nat.mod_one]
  | succ k ih =>
  intro n
  simp only [lbs, le, ih]
  rw [Nat.pow_succ, Nat.mul_comm (256 ^ k) 256, Nat.mod_mul]
  simp
theorem le_lt (l : List UInt8) : le l < 256 ^ l.length := by
  induction l with
  | nil => simp [le]
  | cons x l ih =>
  have := x.toNat_lt
  simp only [le, List.length_cons, Nat.pow_succ]
  omega
attribute [local irreducible] steps
def word (a b c d : UInt8) : W32 := wide a ^^^ wide b <<< 8 ^^^ wide c <<< 16 ^^^ wide d <<< 24
def good (l : List UInt8) : Bool := le (l.drop (l.length - 4)) == (of (l.take (l.length - 4))).toNat
def ones : W32 := 0xffffffff#32
theorem good_seal (b : List UInt8) : good (b ++ lbs (of b).toNat 4) = true := by
  unfold good
  have hl : (b ++ lbs (of b).toNat 4).length - 4 = b.length := by simp [lbs_length]
  rw [hl, List.drop_left, List.take_left, le_lbs, beq_iff_eq, Nat.mod_eq_of_lt]
  exact (of b).isLt
end Nac.Crc
/- SHA-256 over whole numbers, as the text of sha has it (its own operations on 32 bits). No program in sight. -/
namespace Nac.Sha
open Go Go.RowKit
abbrev W := Int
def xo (a b : Int) : Int := bits .xor .u32 a b
def an (a b : Int) : Int := bits .and .u32 a b
def orr (a b : Int) : Int := bits .or .u32 a b
def ad (a b : Int) : Int := IntKind.u32.wrap (a + b)
def sl (a n : Int) : Int := IntKind.u32.wrap (a * n)
def rotI (x : Int) (n : Nat) : Int := bits .or .u32 (x * 2 ^ (32 - n) % 4294967296) (x / 2 ^ (32 - (32 - n)))
theorem turn_by : ∀ n : Fin 32, 1 ≤ n.val → bits .and .u64 (IntKind.u64.wrap (-(n.val : Int))) 31 = ((32 - n.val : Nat) : Int) := by decide
structure S8 where
  a : Int
  b : Int
  c : Int
  d : Int
  e : Int
  f : Int
  g : Int
  h : Int
def S8.l (s : S8) : List Int := [s.a, s.b, s.c, s.d, s.e, s.f, s.g, s.h]
def ini : S8 := ⟨0x6a09e667, 0xbb67ae85, 0x3c6ef372, 0xa54ff53a, 0x510e527f, 0x9b05688c, 0x1f83d9ab, 0x5be0cd19⟩
def consts : List Int := [
  0x428a2f98, 0x71374491, 0xb5c0fbcf, 0xe9b5dba5, 0x3956c25b, 0x59f111f1, 0x923f82a4, 0xab1c5ed5,
  0xd807aa98, 0x12835b01, 0x243185be, 0x550c7dc3, 0x72be5d74, 0x80deb1fe, 0x9bdc06a7, 0xc19bf174,
  0xe49b69c1, 0xefbe4786, 0x0fc19dc6, 0x240ca1cc, 0x2de92c6f, 0x4a7484aa, 0x5cb0a9dc, 0x76f988da,
  0x983e5152, 0xa831c66d, 0xb00327c8, 0xbf597fc7, 0xc6e00bf3, 0xd5a79147, 0x06ca6351, 0x14292967,
  0x27b70a85, 0x2e1b2138, 0x4d2c6dfc, 0x53380d13, 0x650a7354, 0x766a0abb, 0x81c2c92e, 0x92722c85,
  0xa2bfe8a1, 0xa81a664b, 0xc24b8b70, 0xc76c51a3, 0xd192e819, 0xd6990624, 0xf40e3585, 0x106aa070,
  0x19a4c116, 0x1e376c08, 0x2748774c, 0x34b0bcb5, 0x391c0cb3, 0x4ed8aa4a, 0x5b9cca4f, 0x682e6ff3,
  0x748f82ee, 0x78a5636f, 0x84c87814, 0x8cc70208, 0x90befffa, 0xa4506ceb, 0xbef9a3f7, 0xc67178f2]
def byteI (b : List UInt8) (i : Nat) : Int := ((b.getD i 0).toNat : Int)
def wordI (x0 x1 x2 x3 : Int) : Int := orr (orr (orr (sl (IntKind.u32.wrap x0) 16777216) (sl (IntKind.u32.wrap x1) 65536)) (sl (IntKind.u32.wrap x2) 256)) (IntKind.u32.wrap x3)
def wordF (b : List UInt8) (t : Nat) : Int := wordI (byteI b (4 * t)) (byteI b (4 * t + 1)) (byteI b (4 * t + 2)) (byteI b (4 * t + 3))
def s0I (x : Int) : Int := xo (xo (rotI x 7) (rotI x 18)) (x / 8)
def s1I (y : Int) : Int := xo (xo (rotI y 17) (rotI y 19)) (y / 1024)
def nextI (x y w7 w16 : Int) : Int := ad (ad (ad (s1I y) w7) (s0I x)) w16
def nextW (w : List Int) : Int := nextI (w.getD (w.length - 15) 0) (w.getD (w.length - 2) 0) (w.getD (w.length - 7) 0) (w.getD (w.length - 16) 0)
def firstW (b : List UInt8) (n : Nat) : List Int := (List.range n).map (wordF b)
def moreW : Nat → List Int → List Int
  | 0, w => w
  | n + 1, w => moreW n (w ++ [nextW w])
theorem more_len : ∀ (n : Nat) (w : List Int), (moreW n w).length = w.length + n
  | 0, _ => rfl
  | n + 1, w => by
    show (moreW n (w ++ [nextW w])).length = _
    rw [more_len, List.length_append]
    show w.length + 1 + n = _
    omega
theorem more_snoc : ∀ (n : Nat) (w : List Int), moreW (n + 1) w = moreW n w ++ [nextW (moreW n w)]
  | 0, _ => rfl
  | n + 1, w => more_snoc n (w ++ [nextW w])
def wordsW (b : List UInt8) (t : Nat) : List Int := moreW (t - 16) (firstW b 16)
theorem words_len (b : List UInt8) {t : Nat} (h : 16 ≤ t) : (wordsW b t).length = t := by
  unfold wordsW
  rw [more_len]
  simp [firstW]
  omega
theorem words_snoc (b : List UInt8) {t : Nat} (h : 16 ≤ t) : wordsW b (t + 1) = wordsW b t ++ [nextW (wordsW b t)] := by
  unfold wordsW
  rw [show t + 1 - 16 = (t - 16) + 1 by omega, more_snoc]
def expandF (b : List UInt8) : List Int := wordsW b 64
theorem expand_len (b : List UInt8) : (expandF b).length = 64 := words_len b (by decide)
theorem first_snoc (b : List UInt8) (n : Nat) : firstW b (n + 1) = firstW b n ++ [wordF b n] := by
  unfold firstW
  rw [List.range_succ, List.map_append]
  rfl
def t1F (s : S8) (k w : Int) : Int := ad (ad (ad (ad s.h (xo (xo (rotI s.e 6) (rotI s.e 11)) (rotI s.e 25))) (orr (an s.e s.f) (an (bits .xor .u32 4294967295 s.e) s.g))) k) w
def t2F (s : S8) : Int := ad (xo (xo (rotI s.a 2) (rotI s.a 13)) (rotI s.a 22)) (orr (orr (an s.a s.b) (an s.a s.c)) (an s.b s.c))
def roundF (s : S8) (k w : Int) : S8 := ⟨ad (t1F s k w) (t2F s), s.a, s.b, s.c, ad s.d (t1F s k w), s.e, s.f, s.g⟩
def roundsF (w : List Int) : Nat → S8 → S8
  | 0, s => s
  | n + 1, s => roundF (roundsF w n s) (consts.getD n 0) (w.getD n 0)
def addS (s t : S8) : S8 := ⟨ad s.a t.a, ad s.b t.b, ad s.c t.c, ad s.d t.d, ad s.e t.e, ad s.f t.f, ad s.g t.g, ad s.h t.h⟩
def procF (s : S8) (b : List UInt8) : S8 := addS s (roundsF (expandF b) 64 s)
structure Hs where
  st : S8
  rest : List UInt8
  len : Nat
def newH : Hs := ⟨ini, List.replicate 64 0, 0⟩
def Hs.takes (h : Hs) (b : List UInt8) : Nat := min (64 - h.len % 64) b.length
def Hs.fed (h : Hs) (b : List UInt8) : List UInt8 := h.rest.take (h.len % 64) ++ b.take (h.takes b) ++ h.rest.drop (h.len % 64 + h.takes b)
def Hs.step (h : Hs) (b : List UInt8) : Hs := ⟨if h.len % 64 + h.takes b = 64 then procF h.st (h.fed b) else h.st, h.fed b, h.len + h.takes b⟩
def writeF : Nat → Hs → List UInt8 → Hs
  | 0, h, _ => h
  | f + 1, h, b => if b = [] then h else writeF f (h.step b) (b.drop (h.takes b))
def Hs.write (h : Hs) (b : List UInt8) : Hs := writeF b.length h b
theorem fed_len {h : Hs} {b : List UInt8} (hr : h.rest.length = 64) : (h.fed b).length = 64 := by
  unfold Hs.fed Hs.takes
  simp only [List.length_append, List.length_take, List.length_drop]
  omega
theorem write_step {h : Hs} {b : List UInt8} (hb : b ≠ []) : h.write b = (h.step b).write (b.drop (h.takes b)) := by
  have hpos : 0 < b.length := List.length_pos_iff.2 hb
  have ht : 0 < h.takes b := by unfold Hs.takes; have := Nat.mod_lt h.len (show 64 > 0 by decide); omega
  have key : ∀ (f f' : Nat) (h : Hs) (b : List UInt8), b.length ≤ f → b.length ≤ f' → writeF f h b = writeF f' h b := by
    intro f
    induction f with
    | zero =>
      intro f' h b h1 _
      have : b = [] := List.eq_nil_of_length_eq_zero (by omega)
      subst this
      cases f' <;> rfl
    | succ f ih =>
    intro f' h b h1 h2
    by_cases hb : b = []
    · subst hb
      cases f' <;> rfl
    · have hp : 0 < b.length := List.length_pos_iff.2 hb
      have ht : 0 < h.takes b := by unfold Hs.takes; have := Nat.mod_lt h.len (show 64 > 0 by decide); omega
      cases f' with
      | zero => omega
      | succ f' =>
        show (if b = [] then h else _) = (if b = [] then h else _)
        rw [if_neg hb, if_neg hb]
        exact ih f' _ _ (by rw [List.length_drop]; omega) (by rw [List.length_drop]; omega)
  unfold Hs.write
  obtain ⟨n, hn⟩ : ∃ n, b.length = n + 1 := ⟨b.length - 1, by omega⟩
  rw [hn]
  show (if b = [] then h else _) = _
  rw [if_neg hb]
  exact key _ _ _ _ (by rw [List.length_drop]; omega) (Nat.le_refl _)
def u8I (x : Int) : UInt8 := UInt8.ofNat (x % 256).toNat
def beW (x : Int) : List UInt8 := [u8I (x / 16777216), u8I (x / 65536), u8I (x / 256), u8I x]
def tailF (n : Nat) : List UInt8 := (List.range 8).map fun i => u8I ((n * 8 : Nat) / 2 ^ (8 * (7 - i)))
def Hs.padded (h : Hs) : Hs := (h.write [128]).write (List.replicate ((120 - (h.write [128]).len % 64) % 64) 0)
def Hs.sum (h : Hs) : List UInt8 := ((h.padded.write (tailF h.len)).st.l.map beW).flatten
def shaF (b : List UInt8) : List UInt8 := (newH.write b).sum
theorem sha_len (b : List UInt8) : (shaF b).length = 32 := rfl
end Nac.Sha
/- sha: rotate. -/
namespace Go.Proofs.YtjfpoahmjgeogaaGreatDoor
open Go.RowKit Nac Nac.Sha
theorem rotl_calls (w : World) (x k : Int) (s : Nat) (hs : s ≤ 31) (hk : bits .and .u64 (IntKind.u64.wrap k) 31 = (s : Int)) : Calls Tryz.prog 114 #[.int .u32 x, .int .i64 k] w fun e w' => e = .returned (.int .u32 (bits .or .u32 (x * 2 ^ s % 4294967296) (x / 2 ^ (32 - s)))) ∧ w' = w := by
  go_enter Tryz.func114, Tryz.ntmps114
  go_wp2
  go_ret
  exact ⟨rfl, rfl⟩
theorem rotate_calls (w : World) (x : Int) (n : Nat) (h1 : 1 ≤ n) (hn : n < 32) : Calls Tryz.prog 105 #[.int .u32 x, .int .i64 n] w fun e w' => e = .returned (.int .u32 (rotI x n)) ∧ w' = w := by
  have H := Lib.hid (rotl_calls w x (-(n : Int)) (32 - n) (by omega) (turn_by ⟨n, hn⟩ h1))
  go_enter Tryz.func105, Tryz.ntmps105
  go_wp2_with (go_at_call 114; refine H.out.mono ?_; rintro e w' ⟨rfl, rfl⟩)
  go_ret
  exact ⟨rfl, rfl⟩
end Go.Proofs.YtjfpoahmjgeogaaGreatDoor
/- A block that is known whole: its cells as a list; loads and stores in its midst. Over whatever program. -/
namespace Nac
open Go Go.RowKit
def Blk (w : World) (b : Nat) (cs : List Value) : Prop := ∃ t, w.heap[b]? = some (.cells cs.toArray t (0, 0))
section
variable {w w' : World} {b : Nat} {cs : List Value}
theorem Blk.lt (h : Blk w b cs) : b < w.heap.size := by
  obtain ⟨t, h⟩ := h
  exact (Array.getElem?_eq_some_iff.1 h).1
theorem Blk.cell (h : Blk w b cs) {j : Nat} {v : Value} (hj : cs[j]? = some v) : w.cell? ⟨b, j, none⟩ = some v := by
  obtain ⟨t, h⟩ := h
  rw [cell_of_row w b j _ t (0, 0) h]
  simpa using hj
theorem Blk.free (h : Blk w b cs) (j : Nat) : w.frozen? ⟨b, j, none⟩ = false := by
  obtain ⟨t, h⟩ := h
  exact frozen_of_row w b j _ t h
theorem Blk.keep (h : Blk w b cs) (hk : w'.heap[b]? = w.heap[b]?) : Blk w' b cs := by
  obtain ⟨t, h⟩ := h
  exact ⟨t, hk.trans h⟩
theorem Blk.grown (h : Blk w b cs) {row : Option Nat} (hg : w.grownBy w' row) (hne : row ≠ some b) : Blk w' b cs := h.keep (hg.block b h.lt (fun e => hne e.symm))
theorem Blk.below {B : Nat} (h : Blk w b cs) (hb : Below B w w') (hB : b < B) : Blk w' b cs := h.keep (hb.block b hB)
theorem Blk.drew (h : Blk w b cs) : Blk w.drew b cs := h
theorem Blk.alloc (h : Blk w b cs) (o : Obj) : Blk (w.alloc o) b cs := h.keep (Below.heap_alloc w o b h.lt)
theorem Blk.new (w : World) (cs : List Value) (t : TypeId) : Blk (w.alloc (.cells cs.toArray t)) w.heap.size cs := ⟨t, heap_alloc_new w _⟩
theorem Blk.setCell (h : Blk w b cs) (j : Nat) (v : Value) : Blk (w.setCell ⟨b, j, none⟩ v) b (cs.set j v) := by
  obtain ⟨t, h⟩ := h
  exact ⟨t, by rw [heap_setCell_same w b j _ t v h]; simp⟩
theorem Blk.setCells : ∀ (vs : List Value) (o : Nat) {w : World} {cs : List Value}, Blk w b cs → o + vs.length ≤ cs.length → Blk (w.setCells b o vs) b (cs.take o ++ vs ++ cs.drop (o + vs.length))
  | [], o, w, cs, h, _ => by simpa [World.setCells] using h
  | v :: vs, o, w, cs, h, hl => by
    rw [World.setCells]
    have hl' : o + 1 + vs.length ≤ cs.length := by simp at hl; omega
    have := Blk.setCells vs (o + 1) (h.setCell o v) (by simpa using hl')
    have e : (cs.set o v).take (o + 1) ++ vs ++ (cs.set o v).drop (o + 1 + vs.length) = cs.take o ++ (v :: vs) ++ cs.drop (o + (v :: vs).length) := by
      rw [List.take_succ_eq_append_getElem (by simp; omega), List.getElem_set_self, List.take_set_of_le (by omega), List.drop_set_of_lt (by omega)]
      simp [Nat.add_assoc, Nat.add_comm 1]
    rw [e] at this
    exact this
theorem Blk.range (h : Blk w b cs) (o : Nat) (vs : List Value) (hv : ∃ pre post, cs = pre ++ vs ++ post ∧ pre.length = o) : w.rangeAt b o vs := by
  obtain ⟨pre, post, rfl, rfl⟩ := hv
  intro j v hj
  refine h.cell ?_
  have hj' : j < vs.length := (List.getElem?_eq_some_iff.1 hj).1
  rw [List.append_assoc, List.getElem?_append_right (by omega), Nat.add_sub_cancel_left, List.getElem?_append_left hj']
  exact hj
theorem Blk.there (h : Blk w b cs) (o n : Nat) (hl : o + n ≤ cs.length) : w.there b o n := fun j hj => by
  have hlt : o + j < cs.length := by omega
  exact ⟨by rw [h.cell (List.getElem?_eq_getElem hlt)]; rfl, h.free _⟩
end
theorem grown_setCell (w : World) (a : Addr) (v : Value) : w.grownBy (w.setCell a v) (some a.block) :=
  ⟨rfl, rfl, rfl, by simp [World.setCell], fun k _ hk => heap_setCell_other w a k v (fun e => hk (by simp [e]))⟩
theorem grown_setCells (b : Nat) : ∀ (vs : List Value) (o : Nat) (w : World), w.grownBy (w.setCells b o vs) (some b)
  | [], _, w => World.grownBy.refl w _
  | v :: vs, o, w => by
    rw [World.setCells]
    exact (grown_setCell w ⟨b, o, none⟩ v).trans (grown_setCells b vs (o + 1) _)
theorem grown_of_drew {w w' : World} {row : Option Nat} (h : w.drew.grownBy w' row) : w.grownBy w' row := ⟨h.os, h.tape, h.output, h.size, h.block⟩
theorem grown_none {w w' : World} {row : Option Nat} (h : w.grownBy w' none) : w.grownBy w' row := ⟨h.os, h.tape, h.output, h.size, fun k hk _ => h.block k hk (by simp)⟩
theorem flatten_len (n : Nat) (L : List (List Value)) (h : ∀ x ∈ L, x.length = n) : L.flatten.length = n * L.length := by
  induction L with
  | nil => simp
  | cons x L ih =>
  rw [List.flatten_cons, List.length_append, ih (fun y hy => h y (List.mem_cons_of_mem _ hy)), h x List.mem_cons_self, List.length_cons, Nat.mul_succ, Nat.add_comm]
theorem flatten_set (n : Nat) (L : List (List Value)) (h : ∀ x ∈ L, x.length = n) (s : Nat) (hs : s < L.length) (x : List Value) (hx : x.length = n) :
    L.flatten.take (n * s) ++ x ++ L.flatten.drop (n * s + n) = (L.set s x).flatten := by
  have h1 : L = L.take s ++ L[s] :: L.drop (s + 1) := by rw [List.getElem_cons_drop, List.take_append_drop]
  have h2 : L.set s x = L.take s ++ x :: L.drop (s + 1) := by rw [List.set_eq_take_append_cons_drop, if_pos hs]
  have hl : (L.take s).flatten.length = n * s := by
    rw [flatten_len n _ (fun y hy => h y (List.mem_of_mem_take hy)), List.length_take, Nat.min_eq_left (by omega)]
  have hm : L[s].length = n := h _ (List.getElem_mem hs)
  have e : L.flatten = (L.take s).flatten ++ (L[s] ++ (L.drop (s + 1)).flatten) := by
    have h3 := congrArg List.flatten h1
    rwa [List.flatten_append, List.flatten_cons] at h3
  rw [h2, e, List.flatten_append, List.flatten_cons, ← hl, List.take_left, List.drop_append, List.drop_of_length_le (by omega), Nat.add_sub_cancel_left, List.nil_append, ← hm, List.drop_left, List.append_assoc]
theorem flatten_at (n : Nat) (L : List (List Value)) (h : ∀ x ∈ L, x.length = n) (s : Nat) (hs : s < L.length) : ∃ pre post, L.flatten = pre ++ L[s] ++ post ∧ pre.length = n * s := by
  have h1 : L = L.take s ++ L[s] :: L.drop (s + 1) := by rw [List.getElem_cons_drop, List.take_append_drop]
  refine ⟨(L.take s).flatten, (L.drop (s + 1)).flatten, ?_, ?_⟩
  · have h3 := congrArg List.flatten h1
    rw [List.flatten_append, List.flatten_cons] at h3
    rw [List.append_assoc]
    exact h3
  · rw [flatten_len n _ (fun y hy => h y (List.mem_of_mem_take hy)), List.length_take, Nat.min_eq_left (by omega)]
/- Rows of the call's own, whatever their elements: reading, storing, cutting short. Over whatever program. -/
def Row (w : World) (e : TypeId) (size : Nat) (A : Option Addr) (c n : Nat) (xs : List Value) : Prop := w.ownsRow 0 e size (.slice A n c) n xs
section
variable {w w' : World} {e : TypeId} {size n c : Nat} {A : Option Addr} {xs : List Value}
theorem Row.at (h : Row w e size A c n xs) {j : Nat} (hj : j < xs.length) :
    ∃ g, A = some ⟨g, 0, none⟩ ∧ g < w.heap.size ∧ w.cell? ⟨g, j, none⟩ = some xs[j] ∧ ∀ k, w.frozen? ⟨g, k, none⟩ = false := by
  have hl := h.1
  rcases h.2 with ⟨_, hn⟩ | ⟨g, cap, cur, hv, _, hg, _⟩
  · subst hn; rw [Nat.zero_mul] at hl; omega
  · injection hv with h1 h2 h3
    subst h1
    refine ⟨g, rfl, (Array.getElem?_eq_some_iff.1 hg).1, ?_, fun k => World.ownsRow.frozenAt h k⟩
    rw [World.ownsRow.cellAt h j (by omega)]
    exact List.getElem?_eq_getElem hj
theorem Row.set {g : Nat} (h : Row w e size (some ⟨g, 0, none⟩) c n xs) (k : Nat) (v : Value) : Row (w.setCell ⟨g, k, none⟩ v) e size (some ⟨g, 0, none⟩) c n (xs.set k v) := (World.ownsRow.stored h k v).1
theorem Row.kept (h : Row w e size A c n xs) {row : Option Nat} (hg : w.grownBy w' row) (hne : A.map (·.block) = none ∨ A.map (·.block) ≠ row) : Row w' e size A c n xs :=
  World.ownsRow.kept h hg (by cases A <;> simp_all [Value.ownBlock])
theorem Row.other (h : Row w e size A c n xs) {a : Addr} (ha : A.map (·.block) ≠ some a.block) (v : Value) : Row (w.setCell a v) e size A c n xs :=
  ownsRow_setCell_other h (by cases A <;> simp_all [Value.ownBlock]) v
theorem Row.below (h : Row w e size A c n xs) (hb : Below w.heap.size w w') : Row w' e size A c n xs := by
  refine World.ownsRow.kept h (row := none) ⟨hb.os, hb.tape, hb.output, hb.size, fun k hk _ => hb.block k hk⟩ ?_
  cases A <;> simp [Value.ownBlock]
theorem Row.lt (h : Row w e size A c n xs) : ∀ g, A.map (·.block) = some g → g < w.heap.size := fun g hg => (World.ownsRow.lt h g (by cases A <;> simp_all [Value.ownBlock])).2
theorem Row.len (h : Row w e size A c n xs) : xs.length = n * size := h.1
theorem Row.nil (w : World) (e : TypeId) (size : Nat) : Row w e size none 0 0 [] := World.ownsRow_nil w 0 e size
theorem Row.cap (h : Row w e size A c n xs) : n ≤ c := by
  rcases h.2 with ⟨hv, hn⟩ | ⟨g, cap, cur, hv, _, _, hnc, _⟩
  · omega
  · injection hv with h1 h2 h3
    omega
theorem Row.short (h : Row w e size A c n xs) (k : Nat) (hk : k ≤ n) : Row w e size A c k (xs.take (k * size)) := by
  have hl := h.1
  have hks : k * size ≤ n * size := Nat.mul_le_mul_right size hk
  refine ⟨by rw [List.length_take]; omega, ?_⟩
  rcases h.2 with ⟨hv, hn⟩ | ⟨g, cap, cur, hv, hb, hg, hnc, hcm, hcs, ht⟩
  · injection hv with h1 h2 h3
    subst h1
    left
    exact ⟨by rw [h3, (by omega : k = 0)], by omega⟩
  · injection hv with h1 h2 h3
    subst h1
    right
    refine ⟨g, cap, cur, by rw [h3], hb, hg, by omega, hcm, hcs, ?_⟩
    rw [← ht, List.take_take, Nat.min_eq_left hks]
end
theorem flat_get {n : Nat} {L : List (List Value)} (h : ∀ x ∈ L, x.length = n) {p f : Nat} (hp : p < L.length) (hf : f < n) : ∃ hj : p * n + f < L.flatten.length, L.flatten[p * n + f] = L[p][f]'(by rw [h _ (List.getElem_mem hp)]; exact hf) := by
  obtain ⟨pre, post, e, hl⟩ := flatten_at n L h p hp
  have hlen : L[p].length = n := h _ (List.getElem_mem hp)
  have hj : p * n + f < L.flatten.length := by
    rw [e]; simp [hl, hlen, Nat.mul_comm p n]; omega
  refine ⟨hj, ?_⟩
  have e1 : L.flatten[p * n + f]? = some (L[p][f]'(by omega)) := by
    rw [e, List.append_assoc, List.getElem?_append_right (by rw [hl, Nat.mul_comm p n]; omega), List.getElem?_append_left (by rw [hl, hlen, Nat.mul_comm p n]; omega)]
    rw [hl, Nat.mul_comm p n, Nat.add_sub_cancel_left]
    exact List.getElem?_eq_getElem _
  rw [List.getElem?_eq_getElem hj] at e1
  exact Option.some.inj e1
/- A store of one cell. Over whatever program. -/
section
variable {P : Program} {w : World} {ops : Array Oper} {rest : List Oper} {o : Oper} {a : Act} {Q : Exit → Act → World → Prop}
theorem run_storeVar_cell (w : World) (b k : Nat) (ty : TypeId) (v old : Value) (hc : w.cell? ⟨b, k, none⟩ = some old) (hf : w.frozen? ⟨b, k, none⟩ = false) (hi : (P.info? ty).map (·.size) = some 1) (h1 : v.oneCell' = true) :
    (storeVar ty ⟨b, k, none⟩ v).run P w = .ok () (w.setCell ⟨b, k, none⟩ v) := by
  have hcv : v.cells = #[v] := by cases v <;> first | rfl | cases h1
  have := run_storeCells_cells (P := P) b k [v] 0 w (fun j hj => by
    have : j = 0 := by simpa using hj
    subst this; simp [hc]) (fun j hj => by
    have : j = 0 := by simpa using hj
    subst this; simpa using hf) (fun x hx => by simp at hx; subst hx; exact h1)
  cases hq : P.info? ty with
  | none => simp [hq] at hi
  | some i =>
  have hs : i.size = 1 := by simpa [hq] using hi
  simp only [Nat.add_zero] at this
  simp [storeVar, Go.sizeOf, typeInfo, hq, hcv, hs, this, World.setCells]
theorem wpList_store1 (hg : o.guard = none) (ty : TypeId) (x y : Operand) (hop : o.op = .store ty x y) (b k : Nat) (v old : Value) (hx : a.eval x = .pointer (some ⟨b, k, none⟩)) (hy : a.eval y = v) (hc : w.cell? ⟨b, k, none⟩ = some old) (hf : w.frozen? ⟨b, k, none⟩ = false)
    (hi : (P.info? ty).map (·.size) = some 1) (h1 : v.oneCell' = true) (h : ∀ w', Hid (w' = w.setCell ⟨b, k, none⟩ v) → wpList P ops Q rest (a.put o.dst undef) w') : wpList P ops Q (o :: rest) a w :=
  wpList_plain hg fun _ hK => by
    unfold Oper.wp execOp
    simp only [hop, hx, hy, Instr.storeAt, Instr.sureAddr, Sem.run_bind, Sem.run_pure, Result.andThen_ok, run_storeVar_cell w b k ty v old hc hf hi h1]
    exact hK _ _ (h _ (Lib.hid rfl))
end
end Nac
/- A slice of an array that a pointer leads to. -/
namespace Go.Proofs.YtjfpoahmjgeogaaGreatDoor
open Go.RowKit Nac
structure AInfo (T E : TypeId) (n : Nat) : Prop where
  und : Tryz.prog.underlying T = some (.array n E)
  one : (Tryz.prog.info? E).map (·.size) = some 1
section
variable {w : World} {ops : Array Oper} {rest : List Oper} {o : Oper} {a : Act} {Q : Exit → Act → World → Prop} {T E : TypeId} {n : Nat}
theorem AInfo.len (h : AInfo T E n) : Tryz.prog.arrayLen T = n := by simp [Program.arrayLen, h.und]
theorem AInfo.elem (h : AInfo T E n) : Tryz.prog.elem T = E := by simp [Program.elem, h.und]
theorem AInfo.size (h : AInfo T E n) (w : World) : (Go.sizeOf E).run Tryz.prog w = .ok 1 w := by
  have := h.one
  cases hi : Tryz.prog.info? E with
  | none => simp [hi] at this
  | some i =>
  simp [hi] at this
  simp [Go.sizeOf, typeInfo, hi, this]
theorem wpList_arrLo (hA : AInfo T E n) (hg : o.guard = none) (x lo : Operand) (hop : o.op = .slice T x (some lo) none none) (b p k : Nat) (hk : k < n) (hx : a.eval x = .pointer (some ⟨b, p, none⟩)) (hlo : a.eval lo = .int .i64 (k : Int))
    (h : ∀ oo m, Hid (oo = p + k ∧ m = n - k) → wpList Tryz.prog ops Q rest (a.put o.dst (.slice (some ⟨b, oo, none⟩) m m)) w) : wpList Tryz.prog ops Q (o :: rest) a w := by
  refine wpList_plain hg fun K hK => ?_
  have hr := run_sliceAt_array_l (P := Tryz.prog) w T ⟨b, p, none⟩ (by rw [hA.len, hA.elem]; exact hA.und) .i64 (k : Int) (by omega) (by rw [hA.len]; omega)
  rw [hA.elem, hA.size, hA.len] at hr
  unfold Oper.wp
  have e : slicedAt ⟨b, p, none⟩ (k : Int).toNat n n 1 = .slice (some ⟨b, p + k, none⟩) (n - k) (n - k) := by
    unfold slicedAt
    rw [Int.toNat_natCast, if_neg (by omega)]
    simp [Addr.add]
  simp only [execOp, hop, hx, hlo, Option.map_some, Option.map_none, Sem.run_bind, hr, Result.andThen_ok, e, Sem.run_pure]
  exact hK _ _ (h _ _ (Lib.hid ⟨rfl, rfl⟩))
theorem wpList_arrAll (hA : AInfo T E n) (hn : 0 < n) (hg : o.guard = none) (x : Operand) (hop : o.op = .slice T x none none none) (b p : Nat) (hx : a.eval x = .pointer (some ⟨b, p, none⟩))
    (h : wpList Tryz.prog ops Q rest (a.put o.dst (.slice (some ⟨b, p, none⟩) n n)) w) : wpList Tryz.prog ops Q (o :: rest) a w := by
  refine wpList_plain hg fun K hK => ?_
  have hr := run_sliceAt_array_all (P := Tryz.prog) w T ⟨b, p, none⟩ (by rw [hA.len, hA.elem]; exact hA.und)
  rw [hA.elem, hA.size, hA.len] at hr
  unfold Oper.wp
  have e : slicedAt ⟨b, p, none⟩ 0 n n 1 = .slice (some ⟨b, p, none⟩) n n := by
    unfold slicedAt
    rw [if_neg (by omega)]
    simp [Addr.add]
  simp only [execOp, hop, hx, Option.map_none, Sem.run_bind, hr, Result.andThen_ok, e, Sem.run_pure]
  exact hK _ _ h
theorem wpList_storeB (hg : o.guard = none) (ty : TypeId) (x y : Operand) (hop : o.op = .store ty x y) (b k : Nat) (cs : List Value) (v : Value) (hk : k < cs.length) (hx : a.eval x = .pointer (some ⟨b, k, none⟩)) (hy : a.eval y = v) (hb : Blk w b cs)
    (hi : (Tryz.prog.info? ty).map (·.size) = some 1) (h1 : v.oneCell' = true) (h : ∀ w', Hid (Blk w' b (cs.set k v)) → Hid (w.grownBy w' (some b)) → Hid (w'.heap.size = w.heap.size) → wpList Tryz.prog ops Q rest (a.put o.dst undef) w') : wpList Tryz.prog ops Q (o :: rest) a w :=
  wpList_store1 hg ty x y hop b k v _ hx hy (hb.cell (List.getElem?_eq_getElem hk)) (hb.free k) hi h1 fun w' e => by
    have e := e.out
    subst e
    exact h _ (Lib.hid (hb.setCell k v)) (Lib.hid (grown_setCell w ⟨b, k, none⟩ v)) (Lib.hid (by simp [World.setCell]))
end
end Go.Proofs.YtjfpoahmjgeogaaGreatDoor
/- A region that draws its order, of which no result hangs on the order: each operation keeps what the others have left, for memory only grows. One proof an operation, whatever the order. Over whatever program. -/
namespace Nac
open Go Go.RowKit
inductive VD where
  | is (v : Value)
  | pr (p : Value → World → Prop) (hm : ∀ v w w', p v w → Below w.heap.size w w' → p v w')
def VD.ok : VD → Value → World → Prop
  | .is u, v, _ => v = u
  | .pr p _, v, w => p v w
theorem VD.mono (d : VD) (v : Value) (w w' : World) (h : d.ok v w) (hb : Below w.heap.size w w') : d.ok v w' := by
  cases d with
  | is u => exact h
  | pr p hm => exact hm v w w' h hb
def dstOf (ops : Array Oper) (i : Nat) : Option Tmp := (ops[i]?).bind (·.dst)
def preds (ops : Array Oper) : Nat → Nat → List Nat
  | 0, _ => []
  | n + 1, i => match ops[i]? with
    | none => []
    | some o => (o.after.toList.filter fun e => Region.binds .any e).flatMap fun e => e.on :: preds ops n e.on
def origB (ops : Array Oper) (i t : Nat) : Bool := (List.range ops.size).all fun k => dstOf ops k != some t || (preds ops 3 k).contains i
def distinctB (ops : Array Oper) (n : Nat) : Bool := (List.range ops.size).all fun i => (match dstOf ops i with | none => true | some d => decide (d < n)) && (List.range ops.size).all fun j => i == j || dstOf ops i == none || dstOf ops i != dstOf ops j
section
variable {P : Program} {ops : Array Oper} {Q : Exit → Act → World → Prop} {D : Nat → VD} {a0 : Act} {W0 : World}
structure MCtx (ops : Array Oper) (D : Nat → VD) (a0 : Act) (W0 : World) (i : Nat) (a : Act) (w : World) : Prop where
  below : Below W0.heap.size W0 w
  tsize : a.tmps.size = a0.tmps.size
  pred : ∀ k d, k ∈ preds ops 3 i → dstOf ops k = some d → (D k).ok (a.tmps.getD d undef) w
  orig : ∀ t, origB ops i t = true → a.tmps.getD t undef = a0.tmps.getD t undef
def MStep (P : Program) (ops : Array Oper) (Q : Exit → Act → World → Prop) (D : Nat → VD) (a0 : Act) (W0 : World) (i : Nat) : Prop :=
  ∀ o, ops[i]? = some o → ∀ a w, MCtx ops D a0 W0 i a w →
    if Region.wanted o (yielded ops a.tmps) = true then o.wp P a w (fun a' w' => ∃ v, a' = a.put o.dst v ∧ (D i).ok v w' ∧ Below w.heap.size w w') Q else (D i).ok undef w
structure MInv (ops : Array Oper) (D : Nat → VD) (a0 : Act) (W0 : World) (listed : Array Bool) (a : Act) (w : World) : Prop where
  size : listed.size = ops.size
  below : Below W0.heap.size W0 w
  defers : a.defers = a0.defers
  tsize : a.tmps.size = a0.tmps.size
  closed : ∀ i o, ops[i]? = some o → listed.getD i false = true → ∀ e ∈ o.after, Region.binds .any e = true → listed.getD e.on false = true
  done : ∀ i d, listed.getD i false = true → dstOf ops i = some d → (D i).ok (a.tmps.getD d undef) w
  rest : ∀ t, (∀ i, listed.getD i false = true → dstOf ops i ≠ some t) → a.tmps.getD t undef = a0.tmps.getD t undef
theorem preds_closed {listed : Array Bool} (hc : ∀ i o, ops[i]? = some o → listed.getD i false = true → ∀ e ∈ o.after, Region.binds .any e = true → listed.getD e.on false = true) :
    ∀ (n i : Nat), (∀ o, ops[i]? = some o → ∀ e ∈ o.after, Region.binds .any e = true → listed.getD e.on false = true) → ∀ k ∈ preds ops n i, listed.getD k false = true := by
  intro n
  induction n with
  | zero => intro i _ k hk; simp [preds] at hk
  | succ n ih =>
  intro i hi k hk
  unfold preds at hk
  cases ho : ops[i]? with
  | none => simp [ho] at hk
  | some o =>
  simp only [ho, List.mem_flatMap, List.mem_filter, Array.mem_toList_iff] at hk
  obtain ⟨e, ⟨he, hb⟩, hk⟩ := hk
  have h1 := hi o ho e he hb
  rcases List.mem_cons.1 hk with rfl | hk
  · exact h1
  · exact ih e.on (fun o' ho' e' he' hb' => hc e.on o' ho' h1 e' he' hb') k hk
theorem getD_setIf (l : Array Bool) (i j : Nat) (h : i < l.size) : (l.setIfInBounds i true).getD j false = if i = j then true else l.getD j false := by
  simp only [Array.getD_eq_getD_getElem?, Array.getElem?_setIfInBounds]
  by_cases e : i = j
  · subst e; simp [h]
  · simp [e]
theorem getD_put (t : Array Value) (d k : Nat) (v : Value) (h : d < t.size) : (t.setIfInBounds d v).getD k undef = if d = k then v else t.getD k undef := by
  simp only [Array.getD_eq_getD_getElem?, Array.getElem?_setIfInBounds]
  by_cases e : d = k
  · subst e; simp [h]
  · simp [e]
theorem mono_put {listed : Array Bool} {a : Act} {w w' : World} {i : Nat} {o : Oper} (hI : MInv ops D a0 W0 listed a w) (hi : i < ops.size) (ho : ops[i]? = some o)
    (hd : distinctB ops a0.tmps.size = true) (hready : ∀ e ∈ o.after, Region.binds .any e = true → listed.getD e.on false = true) {v : Value} (hv : (D i).ok v w') (hb : Below w.heap.size w w') : MInv ops D a0 W0 (listed.setIfInBounds i true) (a.put o.dst v) w' := by
  have hs : i < listed.size := by rw [hI.size]; exact hi
  have hdo : dstOf ops i = o.dst := by simp [dstOf, ho]
  have hdist : ∀ x y d, x < ops.size → y < ops.size → dstOf ops x = some d → (d < a0.tmps.size) ∧ (dstOf ops y = some d → x = y) := by
    intro x y d hx hy hxd
    unfold distinctB at hd
    rw [List.all_eq_true] at hd
    have h1 := hd x (by simpa using hx)
    rw [Bool.and_eq_true, List.all_eq_true] at h1
    obtain ⟨h1, h2⟩ := h1
    have h2 := h2 y (by simpa using hy)
    rw [hxd] at h1 h2
    refine ⟨by simpa using h1, fun hyd => ?_⟩
    rw [hyd] at h2
    simpa using h2
  have hin : ∀ k d, dstOf ops k = some d → k < ops.size := by
    intro k d hk
    rcases Nat.lt_or_ge k ops.size with h | h
    · exact h
    · simp [dstOf, Array.getElem?_eq_none h] at hk
  have hput : ∀ t, (a.put o.dst v).tmps.getD t undef = if o.dst = some t then v else a.tmps.getD t undef := by
    intro t
    cases hod : o.dst with
    | none => simp [Act.put]
    | some d =>
    have hlt := (hdist i i d hi hi (by rw [hdo, hod])).1
    simp only [Act.put]
    rw [getD_put _ _ _ _ (by rw [hI.tsize]; exact hlt)]
    simp
  refine ⟨by simpa using hI.size, hI.below.trans (hb.mono hI.below.size), ?_, ?_, ?_, ?_, ?_⟩
  · cases o.dst <;> simpa [Act.put] using hI.defers
  · cases o.dst <;> simpa [Act.put] using hI.tsize
  · intro j oj hj hl e he hbind
    rw [getD_setIf _ _ _ hs] at hl ⊢
    by_cases hx : i = e.on
    · simp [hx]
    · rw [if_neg hx]
      by_cases hij : i = j
      · subst hij
        rw [ho] at hj
        obtain rfl := Option.some.inj hj
        exact hready e he hbind
      · rw [if_neg hij] at hl
        exact hI.closed j oj hj hl e he hbind
  · intro j d hl hjd
    rw [getD_setIf _ _ _ hs] at hl
    rw [hput]
    by_cases hij : i = j
    · subst hij
      rw [hdo] at hjd
      rw [if_pos hjd]
      exact hv
    · rw [if_neg hij] at hl
      rw [if_neg (fun h => hij ((hdist i j d hi (hin j d hjd) (by rw [hdo]; exact h)).2 hjd))]
      exact VD.mono _ _ _ _ (hI.done j d hl hjd) hb
  · intro t ht
    have h1 : o.dst ≠ some t := by
      have := ht i (by rw [getD_setIf _ _ _ hs]; simp)
      rwa [hdo] at this
    rw [hput, if_neg h1]
    refine hI.rest t fun j hl => ht j ?_
    rw [getD_setIf _ _ _ hs]
    split
    · rfl
    · exact hl
def falses (l : Array Bool) : Nat := (l.toList.filter (! ·)).length
theorem falses_list : ∀ (xs : List Bool) (i : Nat), xs[i]? = some false → ((xs.set i true).filter (! ·)).length + 1 = (xs.filter (! ·)).length := by
  intro xs
  induction xs with
  | nil => intro i h; simp at h
  | cons x xs ih =>
  intro i h
  cases i with
  | zero =>
    simp only [List.getElem?_cons_zero, Option.some.injEq] at h
    subst h
    simp
  | succ i =>
  simp only [List.getElem?_cons_succ] at h
  have := ih i h
  cases x <;> simp <;> omega
theorem falses_set (l : Array Bool) (i : Nat) (h : i < l.size) (hf : l.getD i false = false) : falses (l.setIfInBounds i true) + 1 = falses l := by
  unfold falses
  rw [Array.toList_setIfInBounds]
  refine falses_list _ _ ?_
  rw [Array.getElem?_toList, Array.getElem?_eq_getElem h]
  rw [Array.getD_eq_getD_getElem?, Array.getElem?_eq_getElem h] at hf
  simpa using hf
theorem falses_zero (l : Array Bool) (h : falses l = 0) (i : Nat) (hi : i < l.size) : l.getD i false = true := by
  unfold falses at h
  rw [List.length_eq_zero_iff, List.filter_eq_nil_iff] at h
  rw [Array.getD_eq_getD_getElem?, Array.getElem?_eq_getElem hi]
  have := h l[i] (by simp)
  simpa using this
def backB (ops : Array Oper) : Bool := (List.range ops.size).all fun i => match ops[i]? with | none => true | some o => o.after.all fun e => !Region.binds .any e || decide (e.on < i)
theorem ready_of {listed : Array Bool} {i : Nat} (h : i ∈ Region.ready .any ops listed) (hs : listed.size = ops.size) : i < ops.size ∧ listed.getD i false = false ∧ ∃ o, ops[i]? = some o ∧ ∀ e ∈ o.after, Region.binds .any e = true → listed.getD e.on false = true := by
  unfold Region.ready at h
  rw [List.mem_filter] at h
  obtain ⟨h1, h2⟩ := h
  have hi : i < ops.size := by simpa using h1
  have ho : ops[i]? = some ops[i] := Array.getElem?_eq_getElem hi
  rw [ho] at h2
  rw [Bool.and_eq_true] at h2
  obtain ⟨h2, h3⟩ := h2
  refine ⟨hi, ?_, ops[i], ho, fun e he hb => ?_⟩
  · have hsz : i < listed.size := by omega
    rw [Array.getD_eq_getD_getElem?, Array.getElem?_eq_getElem hsz] at h2 ⊢
    simpa using h2
  · simp only [Option.map_some, Option.getD_some] at h3
    rw [Array.all_eq_true_iff_forall_mem] at h3
    have := h3 e he
    rw [hb] at this
    simpa using this
theorem ready_ex {listed : Array Bool} (hb : backB ops = true) (hs : listed.size = ops.size) : ∀ i, i < ops.size → listed.getD i false = false → Region.ready .any ops listed ≠ [] := by
  intro i
  induction i using Nat.strongRecOn with
  | ind i ih =>
  intro hi hf
  by_cases hall : ∀ e ∈ ops[i].after, Region.binds .any e = true → listed.getD e.on false = true
  · have : i ∈ Region.ready .any ops listed := by
      unfold Region.ready
      rw [List.mem_filter]
      refine ⟨by simpa using hi, ?_⟩
      rw [Array.getElem?_eq_getElem hi, Bool.and_eq_true]
      constructor
      · have hsz : i < listed.size := by omega
        rw [Array.getD_eq_getD_getElem?, Array.getElem?_eq_getElem hsz] at hf ⊢
        simpa using hf
      · simp only [Option.map_some, Option.getD_some]
        rw [Array.all_eq_true_iff_forall_mem]
        intro e he
        cases hx : Region.binds .any e
        · simp
        · simpa using hall e he hx
    intro h
    rw [h] at this
    cases this
  · simp only [Classical.not_forall] at hall
    obtain ⟨e, he, hbd, hl⟩ := hall
    unfold backB at hb
    rw [List.all_eq_true] at hb
    have h1 := hb i (by simpa using hi)
    rw [Array.getElem?_eq_getElem hi] at h1
    simp only at h1
    rw [Array.all_eq_true_iff_forall_mem] at h1
    have h2 := h1 e he
    rw [hbd] at h2
    have hlt : e.on < i := by simpa using h2
    exact ih e.on hlt (by omega) (by simpa using hl)
theorem mono_any (hd : distinctB ops a0.tmps.size = true) (hbk : backB ops = true)
    (step : ∀ i, i < ops.size → MStep P ops Q D a0 W0 i)
    (fin : ∀ a w, Below W0.heap.size W0 w → a.defers = a0.defers → a.tmps.size = a0.tmps.size → (∀ i d, dstOf ops i = some d → (D i).ok (a.tmps.getD d undef) w) → (∀ t, (∀ i, dstOf ops i ≠ some t) → a.tmps.getD t undef = a0.tmps.getD t undef) → Q .normal a w) :
    ∀ (fuel : Nat) (listed : Array Bool) (a : Act) (w : World), falses listed ≤ fuel → MInv ops D a0 W0 listed a w → wpAny P .any ops Q fuel listed a w := by
  have hfin : ∀ (listed : Array Bool) (a : Act) (w : World), (∀ i, i < ops.size → listed.getD i false = true) → MInv ops D a0 W0 listed a w → Q .normal a w := by
    intro listed a w hall hI
    refine fin a w hI.below hI.defers hI.tsize (fun i d h => hI.done i d (hall i ?_) h) (fun t ht => hI.rest t fun i _ => ht i)
    rcases Nat.lt_or_ge i ops.size with h' | h'
    · exact h'
    · simp [dstOf, Array.getElem?_eq_none h'] at h
  have hnil : ∀ (listed : Array Bool), listed.size = ops.size → Region.ready .any ops listed = [] → ∀ i, i < ops.size → listed.getD i false = true := by
    intro listed hs hr i hi
    cases hf : listed.getD i false
    · exact absurd hr (ready_ex hbk hs i hi hf)
    · rfl
  intro fuel
  induction fuel with
  | zero =>
    intro listed a w hf hI
    have hall : ∀ i, i < ops.size → listed.getD i false = true := fun i hi => falses_zero listed (by omega) i (by rw [hI.size]; exact hi)
    refine ⟨?_, hfin listed a w hall hI⟩
    apply List.eq_nil_iff_forall_not_mem.2
    intro i hi
    obtain ⟨h1, h2, _⟩ := ready_of hi hI.size
    rw [hall i h1] at h2
    cases h2
  | succ fuel ih =>
  intro listed a w hf hI
  refine ⟨fun hr => hfin listed a w (hnil listed hI.size hr) hI, fun i hi => ?_⟩
  obtain ⟨h1, h2, o, ho, hready⟩ := ready_of hi hI.size
  have hctx : MCtx ops D a0 W0 i a w := by
    have hpc := preds_closed hI.closed 3 i (fun o' ho' => by rw [ho] at ho'; obtain rfl := Option.some.inj ho'; exact hready)
    refine ⟨hI.below, hI.tsize, fun k d hk hkd => hI.done k d (hpc k hk) hkd, fun t ht => hI.rest t fun k hl hkd => ?_⟩
    unfold origB at ht
    rw [List.all_eq_true] at ht
    have hk : k < ops.size := by
      rcases Nat.lt_or_ge k ops.size with h | h
      · exact h
      · simp [dstOf, Array.getElem?_eq_none h] at hkd
    have h3 := ht k (by simpa using hk)
    rw [hkd] at h3
    simp only [bne_self_eq_false, Bool.false_or, List.contains_iff_mem] at h3
    have := preds_closed hI.closed 3 k (fun o' ho' e he hb' => hI.closed k o' ho' hl e he hb') i h3
    rw [h2] at this
    cases this
  have hs := step i h1 o ho a w hctx
  have hfl : falses (listed.setIfInBounds i true) ≤ fuel := by
    have := falses_set listed i (by rw [hI.size]; exact h1) h2
    omega
  unfold wpOp
  rw [ho]
  simp only
  split
  · rename_i hw
    rw [if_pos hw] at hs
    refine Or.inl (Oper.wp_mono ?_ hs)
    rintro a' w' ⟨v, rfl, hv, hb⟩
    exact ih _ _ _ hfl (mono_put hI h1 ho hd hready hv hb)
  · rename_i hw
    rw [if_neg hw] at hs
    exact ih _ _ _ hfl (mono_put hI h1 ho hd hready hs (Below.refl _ _))
theorem region_mono {id : Nat} {a0 : Act} {w0 : World} (D : Nat → VD) (hm : P.follows .mixedOrders = true) (hd : distinctB ops a0.tmps.size = true) (hbk : backB ops = true)
    (step : ∀ i, i < ops.size → MStep P ops Q D a0 w0.drew i)
    (fin : ∀ a w, Below w0.heap.size w0 w → a.defers = a0.defers → a.tmps.size = a0.tmps.size → (∀ i d, dstOf ops i = some d → (D i).ok (a.tmps.getD d undef) w) → (∀ t, (∀ i, dstOf ops i ≠ some t) → a.tmps.getD t undef = a0.tmps.getD t undef) → Q .normal a w) :
    (Code.region id ops true).wp P Q a0 w0 := by
  refine wp_region_any hm ?_
  have hg : ∀ i, (Array.replicate ops.size false).getD i false = false := by
    intro i
    rw [Array.getD_eq_getD_getElem?, Array.getElem?_replicate]
    split <;> rfl
  refine mono_any (D := D) (a0 := a0) (W0 := w0.drew) hd hbk step (fun a w hb => fin a w ⟨hb.os, hb.tape, hb.output, hb.size, hb.block⟩) _ _ _ _ ?_ ⟨by simp, Below.refl _ _, rfl, rfl, fun i o _ h => (by rw [hg] at h; cases h), fun i d h => (by rw [hg] at h; cases h), fun _ _ => rfl⟩
  unfold falses
  simp
/-! ### one operation -/
variable {i : Nat} {o : Oper}
theorem mwant_none (hg : o.guard = none) : ∀ a w, MCtx ops D a0 W0 i a w → Region.wanted o (yielded ops a.tmps) = true := fun _ _ _ => by simp [Region.wanted, hg]
theorem mwant (j : Nat) (want : Bool) (d : Tmp) (hg : o.guard = some (j, want)) (hj : (preds ops 3 i).contains j = true) (hdj : dstOf ops j = some d) (hD : D j = .is (.bool want)) (hlt : decide (d < a0.tmps.size) = true) :
    ∀ a w, MCtx ops D a0 W0 i a w → Region.wanted o (yielded ops a.tmps) = true := fun a w c => by
  have hsz := c.tsize
  have h := c.pred j d (by simpa using hj) hdj
  rw [hD] at h
  have h : a.tmps.getD d undef = .bool want := h
  have hlt : d < a.tmps.size := by rw [hsz]; simpa using hlt
  have hy : yielded ops a.tmps j = some want := by
    unfold yielded
    have hdj' : (ops[j]?).bind (·.dst) = some d := hdj
    rw [hdj']
    rw [Array.getD_eq_getD_getElem?, Array.getElem?_eq_getElem hlt] at h
    simp only [Option.getD_some] at h
    simp [Array.getElem?_eq_getElem hlt, h]
  simp [Region.wanted, hg, hy]
theorem mstep_val (ho : ops[i]? = some o) (hw : ∀ a w, MCtx ops D a0 W0 i a w → Region.wanted o (yielded ops a.tmps) = true)
    (h : ∀ a w, MCtx ops D a0 W0 i a w → ∃ v w', (execOp a.eval o).run P w = .ok (.value v) w' ∧ (D i).ok v w' ∧ Below w.heap.size w w') : MStep P ops Q D a0 W0 i := by
  intro o' ho' a w c
  rw [ho] at ho'
  obtain rfl := Option.some.inj ho'
  rw [if_pos (hw a w c)]
  obtain ⟨v, w', hr, hv, hb⟩ := h a w c
  unfold Oper.wp
  rw [hr]
  exact ⟨v, rfl, hv, hb⟩
theorem mstep_pure (ho : ops[i]? = some o) (hw : ∀ a w, MCtx ops D a0 W0 i a w → Region.wanted o (yielded ops a.tmps) = true)
    (h : ∀ a w, MCtx ops D a0 W0 i a w → ∃ v, (execOp a.eval o).run P w = .ok (.value v) w ∧ (D i).ok v w) : MStep P ops Q D a0 W0 i :=
  mstep_val ho hw fun a w c => let ⟨v, h1, h2⟩ := h a w c; ⟨v, w, h1, h2, Below.refl _ _⟩
theorem mstep_copy (ho : ops[i]? = some o) (hw : ∀ a w, MCtx ops D a0 W0 i a w → Region.wanted o (yielded ops a.tmps) = true) (t : Tmp) (hop : o.op = .move (.tmp t) ∨ o.op = .assign (.tmp t))
    (k : Nat) (hk : (preds ops 3 i).contains k = true) (hkd : dstOf ops k = some t) (hD : D i = D k) : MStep P ops Q D a0 W0 i :=
  mstep_pure ho hw fun a w c => ⟨a.tmps.getD t undef, by rcases hop with h | h <;> simp [execOp, h, Act.eval], by rw [hD]; exact c.pred k t (by simpa using hk) hkd⟩
theorem mstep_first (ho : ops[i]? = some o) (hw : ∀ a w, MCtx ops D a0 W0 i a w → Region.wanted o (yielded ops a.tmps) = true) (t : Tmp) (hop : o.op = .move (.tmp t) ∨ o.op = .assign (.tmp t))
    (ht : origB ops i t = true) (hD : ∀ w, Below W0.heap.size W0 w → (D i).ok (a0.tmps.getD t undef) w) : MStep P ops Q D a0 W0 i :=
  mstep_pure ho hw fun a w c => ⟨a.tmps.getD t undef, by rcases hop with h | h <;> simp [execOp, h, Act.eval], by rw [c.orig t ht]; exact hD w c.below⟩
theorem mstep_const (ho : ops[i]? = some o) (hw : ∀ a w, MCtx ops D a0 W0 i a w → Region.wanted o (yielded ops a.tmps) = true) (v : Value) (hop : o.op = .move (.const v) ∨ o.op = .assign (.const v)) (hD : D i = .is v) : MStep P ops Q D a0 W0 i :=
  mstep_pure ho hw fun a w _ => ⟨v, by rcases hop with h | h <;> simp [execOp, h, Act.eval], by rw [hD]; rfl⟩
theorem mstep_call (ho : ops[i]? = some o) (hw : ∀ a w, MCtx ops D a0 W0 i a w → Region.wanted o (yielded ops a.tmps) = true) (f : FuncId) (args : Array Operand) (ts : Array TypeId)
    (hop : o.op = .call { callee := .value (.func f), args := args, argTypes := ts }) (he : ∀ vs w, (callFunc f vs).run P w = .ok (.enter f vs) w)
    (h : ∀ a w, MCtx ops D a0 W0 i a w → Calls P f (args.map a.eval) w fun e w' => ∃ v, e = .returned v ∧ (D i).ok v w' ∧ Below w.heap.size w w') : MStep P ops Q D a0 W0 i := by
  intro o' ho' a w c
  rw [ho] at ho'
  obtain rfl := Option.some.inj ho'
  rw [if_pos (hw a w c)]
  have hr : (execOp a.eval o).run P w = .ok (.enter f (args.map a.eval)) w := by
    simp [execOp, hop, resolve, Deferred.ofValue, Act.eval, invoke, he]
  unfold Oper.wp
  rw [hr]
  refine (h a w c).mono ?_
  rintro e w' ⟨v, rfl, hv, hb⟩
  exact ⟨v, rfl, hv, hb⟩
theorem mstep_bin (ho : ops[i]? = some o) (hw : ∀ a w, MCtx ops D a0 W0 i a w → Region.wanted o (yielded ops a.tmps) = true) (op : BinOp) (T T' : TypeId) (x y : Tmp) (hop : o.op = .binOp op T (.tmp x) (.tmp y) T')
    (kx ky : Nat) (hkx : (preds ops 3 i).contains kx = true) (hky : (preds ops 3 i).contains ky = true) (hx : dstOf ops kx = some x) (hy : dstOf ops ky = some y) (vx vy r : Value) (hDx : D kx = .is vx) (hDy : D ky = .is vy) (hD : D i = .is r)
    (hv : ∀ w, (do eqGuard op T (.tmp x) (.tmp y) vx vy; binOp op T vx vy : Sem Value).run P w = .ok r w) : MStep P ops Q D a0 W0 i :=
  mstep_pure ho hw fun a w c => by
    have h1 := c.pred kx x (by simpa using hkx) hx
    rw [hDx] at h1
    have h1 : a.tmps.getD x undef = vx := h1
    have h2 := c.pred ky y (by simpa using hky) hy
    rw [hDy] at h2
    have h2 : a.tmps.getD y undef = vy := h2
    refine ⟨r, ?_, by rw [hD]; rfl⟩
    have h3 := hv w
    simp only [execOp, hop, Act.eval, h1, h2]
    rw [Sem.run_bind, h3]
    rfl
theorem mstep_one (ho : ops[i]? = some o) (hw : ∀ a w, MCtx ops D a0 W0 i a w → Region.wanted o (yielded ops a.tmps) = true) (x : Tmp)
    (kx : Nat) (hkx : (preds ops 3 i).contains kx = true) (hx : dstOf ops kx = some x)
    (h : ∀ (a : Act) w, (D kx).ok (a.tmps.getD x undef) w → ∃ v, (execOp a.eval o).run P w = .ok (.value v) w ∧ (D i).ok v w) : MStep P ops Q D a0 W0 i :=
  mstep_pure ho hw fun a w c => h a w (c.pred kx x (by simpa using hkx) hx)
end
/- A region that draws its order, with calls that write: of each operation what its slot holds, and of the world what holds while just some of the operations have been run. One proof an operation, whatever the order. Over whatever program. -/
def upd (L : Nat → Bool) (i : Nat) : Nat → Bool := fun k => if k = i then true else L k
section
variable {P : Program} {ops : Array Oper} {Q : Exit → Act → World → Prop} {D : Nat → Value → Prop} {J : (Nat → Bool) → World → Prop} {a0 : Act}
structure VCtx (ops : Array Oper) (D : Nat → Value → Prop) (J : (Nat → Bool) → World → Prop) (a0 : Act) (i : Nat) (L : Nat → Bool) (a : Act) (w : World) : Prop where
  world : J L w
  tsize : a.tmps.size = a0.tmps.size
  fresh : L i = false
  ahead : ∀ k, k ∈ preds ops 3 i → L k = true
  pred : ∀ k d, k ∈ preds ops 3 i → dstOf ops k = some d → D k (a.tmps.getD d undef)
  orig : ∀ t, origB ops i t = true → a.tmps.getD t undef = a0.tmps.getD t undef
def VStep (P : Program) (ops : Array Oper) (Q : Exit → Act → World → Prop) (D : Nat → Value → Prop) (J : (Nat → Bool) → World → Prop) (a0 : Act) (i : Nat) : Prop :=
  ∀ o, ops[i]? = some o → ∀ L a w, VCtx ops D J a0 i L a w →
    if Region.wanted o (yielded ops a.tmps) = true then o.wp P a w (fun a' w' => ∃ v, a' = a.put o.dst v ∧ D i v ∧ J (upd L i) w') Q else D i undef ∧ J (upd L i) w
structure VInv (ops : Array Oper) (D : Nat → Value → Prop) (J : (Nat → Bool) → World → Prop) (a0 : Act) (listed : Array Bool) (a : Act) (w : World) : Prop where
  size : listed.size = ops.size
  world : J (fun i => listed.getD i false) w
  defers : a.defers = a0.defers
  tsize : a.tmps.size = a0.tmps.size
  closed : ∀ i o, ops[i]? = some o → listed.getD i false = true → ∀ e ∈ o.after, Region.binds .any e = true → listed.getD e.on false = true
  done : ∀ i d, listed.getD i false = true → dstOf ops i = some d → D i (a.tmps.getD d undef)
  rest : ∀ t, (∀ i, listed.getD i false = true → dstOf ops i ≠ some t) → a.tmps.getD t undef = a0.tmps.getD t undef
theorem upd_listed (listed : Array Bool) (i : Nat) (h : i < listed.size) : (fun k => (listed.setIfInBounds i true).getD k false) = upd (fun k => listed.getD k false) i := by
  funext k
  rw [getD_setIf _ _ _ h]
  unfold upd
  by_cases e : i = k
  · rw [if_pos e, if_pos e.symm]
  · rw [if_neg e, if_neg (Ne.symm e)]
theorem val_put {listed : Array Bool} {a : Act} {w w' : World} {i : Nat} {o : Oper} (hI : VInv ops D J a0 listed a w) (hi : i < ops.size) (ho : ops[i]? = some o)
    (hd : distinctB ops a0.tmps.size = true) (hready : ∀ e ∈ o.after, Region.binds .any e = true → listed.getD e.on false = true) {v : Value} (hv : D i v) (hb : J (upd (fun k => listed.getD k false) i) w') : VInv ops D J a0 (listed.setIfInBounds i true) (a.put o.dst v) w' := by
  have hs : i < listed.size := by rw [hI.size]; exact hi
  have hdo : dstOf ops i = o.dst := by simp [dstOf, ho]
  have hdist : ∀ x y d, x < ops.size → y < ops.size → dstOf ops x = some d → (d < a0.tmps.size) ∧ (dstOf ops y = some d → x = y) := by
    intro x y d hx hy hxd
    unfold distinctB at hd
    rw [List.all_eq_true] at hd
    have h1 := hd x (by simpa using hx)
    rw [Bool.and_eq_true, List.all_eq_true] at h1
    obtain ⟨h1, h2⟩ := h1
    have h2 := h2 y (by simpa using hy)
    rw [hxd] at h1 h2
    refine ⟨by simpa using h1, fun hyd => ?_⟩
    rw [hyd] at h2
    simpa using h2
  have hin : ∀ k d, dstOf ops k = some d → k < ops.size := by
    intro k d hk
    rcases Nat.lt_or_ge k ops.size with h | h
    · exact h
    · simp [dstOf, Array.getElem?_eq_none h] at hk
  have hput : ∀ t, (a.put o.dst v).tmps.getD t undef = if o.dst = some t then v else a.tmps.getD t undef := by
    intro t
    cases hod : o.dst with
    | none => simp [Act.put]
    | some d =>
    have hlt := (hdist i i d hi hi (by rw [hdo, hod])).1
    simp only [Act.put]
    rw [getD_put _ _ _ _ (by rw [hI.tsize]; exact hlt)]
    simp
  refine ⟨by simpa using hI.size, by rw [upd_listed _ _ hs]; exact hb, ?_, ?_, ?_, ?_, ?_⟩
  · cases o.dst <;> simpa [Act.put] using hI.defers
  · cases o.dst <;> simpa [Act.put] using hI.tsize
  · intro j oj hj hl e he hbind
    rw [getD_setIf _ _ _ hs] at hl ⊢
    by_cases hx : i = e.on
    · simp [hx]
    · rw [if_neg hx]
      by_cases hij : i = j
      · subst hij
        rw [ho] at hj
        obtain rfl := Option.some.inj hj
        exact hready e he hbind
      · rw [if_neg hij] at hl
        exact hI.closed j oj hj hl e he hbind
  · intro j d hl hjd
    rw [getD_setIf _ _ _ hs] at hl
    rw [hput]
    by_cases hij : i = j
    · subst hij
      rw [hdo] at hjd
      rw [if_pos hjd]
      exact hv
    · rw [if_neg hij] at hl
      rw [if_neg (fun h => hij ((hdist i j d hi (hin j d hjd) (by rw [hdo]; exact h)).2 hjd))]
      exact hI.done j d hl hjd
  · intro t ht
    have h1 : o.dst ≠ some t := by
      have := ht i (by rw [getD_setIf _ _ _ hs]; simp)
      rwa [hdo] at this
    rw [hput, if_neg h1]
    refine hI.rest t fun j hl => ht j ?_
    rw [getD_setIf _ _ _ hs]
    split
    · rfl
    · exact hl
theorem val_any (hd : distinctB ops a0.tmps.size = true) (hbk : backB ops = true)
    (step : ∀ i, i < ops.size → VStep P ops Q D J a0 i)
    (fin : ∀ L a w, (∀ i, i < ops.size → L i = true) → J L w → a.defers = a0.defers → a.tmps.size = a0.tmps.size → (∀ i d, dstOf ops i = some d → D i (a.tmps.getD d undef)) → (∀ t, (∀ i, dstOf ops i ≠ some t) → a.tmps.getD t undef = a0.tmps.getD t undef) → Q .normal a w) :
    ∀ (fuel : Nat) (listed : Array Bool) (a : Act) (w : World), falses listed ≤ fuel → VInv ops D J a0 listed a w → wpAny P .any ops Q fuel listed a w := by
  have hfin : ∀ (listed : Array Bool) (a : Act) (w : World), (∀ i, i < ops.size → listed.getD i false = true) → VInv ops D J a0 listed a w → Q .normal a w := by
    intro listed a w hall hI
    refine fin _ a w hall hI.world hI.defers hI.tsize (fun i d h => hI.done i d (hall i ?_) h) (fun t ht => hI.rest t fun i _ => ht i)
    rcases Nat.lt_or_ge i ops.size with h' | h'
    · exact h'
    · simp [dstOf, Array.getElem?_eq_none h'] at h
  have hnil : ∀ (listed : Array Bool), listed.size = ops.size → Region.ready .any ops listed = [] → ∀ i, i < ops.size → listed.getD i false = true := by
    intro listed hs hr i hi
    cases hf : listed.getD i false
    · exact absurd hr (ready_ex hbk hs i hi hf)
    · rfl
  intro fuel
  induction fuel with
  | zero =>
    intro listed a w hf hI
    have hall : ∀ i, i < ops.size → listed.getD i false = true := fun i hi => falses_zero listed (by omega) i (by rw [hI.size]; exact hi)
    refine ⟨?_, hfin listed a w hall hI⟩
    apply List.eq_nil_iff_forall_not_mem.2
    intro i hi
    obtain ⟨h1, h2, _⟩ := ready_of hi hI.size
    rw [hall i h1] at h2
    cases h2
  | succ fuel ih =>
  intro listed a w hf hI
  refine ⟨fun hr => hfin listed a w (hnil listed hI.size hr) hI, fun i hi => ?_⟩
  obtain ⟨h1, h2, o, ho, hready⟩ := ready_of hi hI.size
  have hctx : VCtx ops D J a0 i (fun k => listed.getD k false) a w := by
    have hpc := preds_closed hI.closed 3 i (fun o' ho' => by rw [ho] at ho'; obtain rfl := Option.some.inj ho'; exact hready)
    refine ⟨hI.world, hI.tsize, h2, hpc, fun k d hk hkd => hI.done k d (hpc k hk) hkd, fun t ht => hI.rest t fun k hl hkd => ?_⟩
    unfold origB at ht
    rw [List.all_eq_true] at ht
    have hk : k < ops.size := by
      rcases Nat.lt_or_ge k ops.size with h | h
      · exact h
      · simp [dstOf, Array.getElem?_eq_none h] at hkd
    have h3 := ht k (by simpa using hk)
    rw [hkd] at h3
    simp only [bne_self_eq_false, Bool.false_or, List.contains_iff_mem] at h3
    have := preds_closed hI.closed 3 k (fun o' ho' e he hb' => hI.closed k o' ho' hl e he hb') i h3
    rw [h2] at this
    cases this
  have hs := step i h1 o ho _ a w hctx
  have hfl : falses (listed.setIfInBounds i true) ≤ fuel := by
    have := falses_set listed i (by rw [hI.size]; exact h1) h2
    omega
  unfold wpOp
  rw [ho]
  simp only
  split
  · rename_i hw
    rw [if_pos hw] at hs
    refine Or.inl (Oper.wp_mono ?_ hs)
    rintro a' w' ⟨v, rfl, hv, hb⟩
    exact ih _ _ _ hfl (val_put hI h1 ho hd hready hv hb)
  · rename_i hw
    rw [if_neg hw] at hs
    exact ih _ _ _ hfl (val_put hI h1 ho hd hready hs.1 hs.2)
theorem region_val {id : Nat} {a0 : Act} {w0 : World} (D : Nat → Value → Prop) (J : (Nat → Bool) → World → Prop) (hm : P.follows .mixedOrders = true) (hd : distinctB ops a0.tmps.size = true) (hbk : backB ops = true)
    (h0 : J (fun _ => false) w0.drew)
    (step : ∀ i, i < ops.size → VStep P ops Q D J a0 i)
    (fin : ∀ L a w, (∀ i, i < ops.size → L i = true) → J L w → a.defers = a0.defers → a.tmps.size = a0.tmps.size → (∀ i d, dstOf ops i = some d → D i (a.tmps.getD d undef)) → (∀ t, (∀ i, dstOf ops i ≠ some t) → a.tmps.getD t undef = a0.tmps.getD t undef) → Q .normal a w) :
    (Code.region id ops true).wp P Q a0 w0 := by
  refine wp_region_any hm ?_
  have hg : ∀ i, (Array.replicate ops.size false).getD i false = false := by
    intro i
    rw [Array.getD_eq_getD_getElem?, Array.getElem?_replicate]
    split <;> rfl
  refine val_any (D := D) (J := J) (a0 := a0) hd hbk step fin _ _ _ _ ?_ ⟨by simp, ?_, rfl, rfl, fun i o _ h => (by rw [hg] at h; cases h), fun i d h => (by rw [hg] at h; cases h), fun _ _ => rfl⟩
  · unfold falses
    simp
  · rw [show (fun i => (Array.replicate ops.size false).getD i false) = fun _ => false from funext hg]
    exact h0
def putsL : List (Option Tmp × Value) → Act → Act
  | [], a => a
  | (d, v) :: r, a => putsL r (a.put d v)
theorem put_size (a : Act) (d : Option Tmp) (v : Value) : (a.put d v).tmps.size = a.tmps.size := by cases d <;> simp [Act.put]
theorem put_defers (a : Act) (d : Option Tmp) (v : Value) : (a.put d v).defers = a.defers := by cases d <;> simp [Act.put]
theorem putsL_size : ∀ (l : List (Option Tmp × Value)) (a : Act), (putsL l a).tmps.size = a.tmps.size
  | [], _ => rfl
  | (d, v) :: r, a => by rw [putsL, putsL_size r, put_size]
theorem putsL_defers : ∀ (l : List (Option Tmp × Value)) (a : Act), (putsL l a).defers = a.defers
  | [], _ => rfl
  | (d, v) :: r, a => by rw [putsL, putsL_defers r, put_defers]
theorem putsL_get (t : Nat) (u : Value) : ∀ (l : List (Option Tmp × Value)) (a : Act), t < a.tmps.size → (∀ x ∈ l, x.1 = some t → u = x.2) → ((∀ x ∈ l, x.1 ≠ some t) → a.tmps.getD t undef = u) → (putsL l a).tmps.getD t undef = u
  | [], a, _, _, h => h (fun x hx => by cases hx)
  | (d, v) :: r, a, ht, hl, h => by
    rw [putsL]
    refine putsL_get t u r (a.put d v) (by rw [put_size]; exact ht) (fun x hx => hl x (List.mem_cons_of_mem _ hx)) fun hr => ?_
    by_cases hd : d = some t
    · subst hd
      simp only [Act.put]
      rw [getD_put _ _ _ _ ht, if_pos rfl]
      exact (hl _ List.mem_cons_self rfl).symm
    · have e : (a.put d v).tmps.getD t undef = a.tmps.getD t undef := by
        cases d with
        | none => rfl
        | some d' =>
          simp only [Act.put]
          by_cases hlt : d' < a.tmps.size
          · rw [getD_put _ _ _ _ hlt, if_neg (fun e => hd (by rw [e]))]
          · rw [Array.setIfInBounds_eq_of_size_le (Nat.le_of_not_lt hlt)]
      rw [e]
      refine h fun x hx => ?_
      rcases List.mem_cons.1 hx with rfl | hx
      · exact hd
      · exact hr x hx
theorem putsL_eq {a : Act} {l : List (Option Tmp × Value)} (hde : a.defers = a0.defers) (hts : a.tmps.size = a0.tmps.size)
    (hd : ∀ x ∈ l, ∀ t, x.1 = some t → a.tmps.getD t undef = x.2) (hr : ∀ t, (∀ x ∈ l, x.1 ≠ some t) → a.tmps.getD t undef = a0.tmps.getD t undef) : a = putsL l a0 := by
  obtain ⟨tm, df⟩ := a
  have h1 := putsL_size l a0
  have h2 := putsL_defers l a0
  have h3 : ∀ t, t < a0.tmps.size → (putsL l a0).tmps.getD t undef = tm.getD t undef := fun t ht => putsL_get t _ l a0 ht (fun x hx e => hd x hx t e) (fun h => (hr t h).symm)
  obtain ⟨p, hp⟩ : ∃ p, p = putsL l a0 := ⟨_, rfl⟩
  rw [← hp] at h1 h2 h3 ⊢
  clear hp
  obtain ⟨tm', df'⟩ := p
  simp only at h1 h2 h3 hde hts
  subst hde
  subst h2
  congr 1
  apply Array.ext (by omega)
  intro i g1 g2
  have := h3 i (by omega)
  rw [Array.getD_eq_getD_getElem?, Array.getD_eq_getD_getElem?, Array.getElem?_eq_getElem g1, Array.getElem?_eq_getElem g2] at this
  exact this.symm
theorem region_vals {id : Nat} {a0 : Act} {w0 : World} (V : List Value) (ds : List (Option Tmp)) (J : (Nat → Bool) → World → Prop) (hm : P.follows .mixedOrders = true) (hd : distinctB ops a0.tmps.size = true) (hbk : backB ops = true)
    (hds : ops.toList.map (·.dst) = ds) (hV : V.length = ds.length)
    (h0 : J (fun _ => false) w0.drew)
    (step : ∀ i, i < ops.size → VStep P ops Q (fun i v => v = V.getD i undef) J a0 i)
    (fin : ∀ L w, (∀ i, i < ops.size → L i = true) → J L w → Q .normal (putsL (ds.zip V) a0) w) :
    (Code.region id ops true).wp P Q a0 w0 := by
  refine region_val (fun i v => v = V.getD i undef) J hm hd hbk h0 step fun L a w hall hJ hde hts hs hr => ?_
  have hdi : ∀ i, i < ops.size → dstOf ops i = (ds[i]?).join := by
    intro i hi
    rw [← hds, List.getElem?_map, Array.getElem?_toList]
    unfold dstOf
    cases ops[i]? <;> rfl
  have hsz : ops.size = ds.length := by rw [← hds]; simp
  have e := putsL_eq (a0 := a0) (a := a) (l := ds.zip V) hde hts ?_ ?_
  · rw [e]
    exact fin L w hall hJ
  · intro x hx t ht
    obtain ⟨i, hi⟩ := List.mem_iff_getElem?.1 hx
    obtain ⟨h1, h2⟩ := List.getElem?_zip_eq_some.1 hi
    have hil : i < ops.size := by rw [hsz]; exact (List.getElem?_eq_some_iff.1 h1).1
    have := hs i t (by rw [hdi i hil, h1]; exact ht)
    rw [this, List.getD_eq_getElem?_getD, h2]
    rfl
  · intro t ht
    refine hr t fun i hdt => ?_
    have hil : i < ops.size := by
      rcases Nat.lt_or_ge i ops.size with h | h
      · exact h
      · simp [dstOf, Array.getElem?_eq_none h] at hdt
    rw [hdi i hil] at hdt
    have h1 : i < ds.length := by omega
    have h2 : i < V.length := by omega
    rw [List.getElem?_eq_getElem h1] at hdt
    exact ht (ds[i], V[i]) (List.mem_iff_getElem?.2 ⟨i, List.getElem?_zip_eq_some.2 ⟨List.getElem?_eq_getElem h1, List.getElem?_eq_getElem h2⟩⟩) hdt
theorem VCtx.slot {i : Nat} {L : Nat → Bool} {a : Act} {w : World} (c : VCtx ops D J a0 i L a w) (k x : Nat) (hk : (preds ops 3 i).contains k = true) (hx : dstOf ops k = some x) : D k (a.tmps.getD x undef) :=
  c.pred k x (by simpa using hk) hx
/-! ### one operation -/
variable {i : Nat} {o : Oper}
theorem vwant_none (hg : o.guard = none) : ∀ L a w, VCtx ops D J a0 i L a w → Region.wanted o (yielded ops a.tmps) = true := fun _ _ _ _ => by simp [Region.wanted, hg]
theorem vstep_pure (ho : ops[i]? = some o) (hw : ∀ L a w, VCtx ops D J a0 i L a w → Region.wanted o (yielded ops a.tmps) = true) (hJ : ∀ L w, J L w → J (upd L i) w)
    (h : ∀ L a w, VCtx ops D J a0 i L a w → ∃ v, (execOp a.eval o).run P w = .ok (.value v) w ∧ D i v) : VStep P ops Q D J a0 i := by
  intro o' ho' L a w c
  rw [ho] at ho'
  obtain rfl := Option.some.inj ho'
  rw [if_pos (hw L a w c)]
  obtain ⟨v, hr, hv⟩ := h L a w c
  unfold Oper.wp
  rw [hr]
  exact ⟨v, rfl, hv, hJ _ _ c.world⟩
theorem vstep_copy (ho : ops[i]? = some o) (hw : ∀ L a w, VCtx ops D J a0 i L a w → Region.wanted o (yielded ops a.tmps) = true) (hJ : ∀ L w, J L w → J (upd L i) w) (t : Tmp) (hop : o.op = .move (.tmp t) ∨ o.op = .assign (.tmp t))
    (k : Nat) (hk : (preds ops 3 i).contains k = true) (hkd : dstOf ops k = some t) (hD : ∀ v, D k v → D i v) : VStep P ops Q D J a0 i :=
  vstep_pure ho hw hJ fun L a w c => ⟨a.tmps.getD t undef, by rcases hop with h | h <;> simp [execOp, h, Act.eval], hD _ (c.pred k t (by simpa using hk) hkd)⟩
theorem vstep_first (ho : ops[i]? = some o) (hw : ∀ L a w, VCtx ops D J a0 i L a w → Region.wanted o (yielded ops a.tmps) = true) (hJ : ∀ L w, J L w → J (upd L i) w) (t : Tmp) (hop : o.op = .move (.tmp t) ∨ o.op = .assign (.tmp t))
    (ht : origB ops i t = true) (hD : D i (a0.tmps.getD t undef)) : VStep P ops Q D J a0 i :=
  vstep_pure ho hw hJ fun L a w c => ⟨a.tmps.getD t undef, by rcases hop with h | h <;> simp [execOp, h, Act.eval], by rw [c.orig t ht]; exact hD⟩
theorem vstep_call (ho : ops[i]? = some o) (hw : ∀ L a w, VCtx ops D J a0 i L a w → Region.wanted o (yielded ops a.tmps) = true) (f : FuncId) (args : Array Operand) (ts : Array TypeId)
    (hop : o.op = .call { callee := .value (.func f), args := args, argTypes := ts }) (he : ∀ vs w, (callFunc f vs).run P w = .ok (.enter f vs) w)
    (h : ∀ L a w, VCtx ops D J a0 i L a w → Calls P f (args.map a.eval) w fun e w' => ∃ v, e = .returned v ∧ D i v ∧ J (upd L i) w') : VStep P ops Q D J a0 i := by
  intro o' ho' L a w c
  rw [ho] at ho'
  obtain rfl := Option.some.inj ho'
  rw [if_pos (hw L a w c)]
  have hr : (execOp a.eval o).run P w = .ok (.enter f (args.map a.eval)) w := by
    simp [execOp, hop, resolve, Deferred.ofValue, Act.eval, invoke, he]
  unfold Oper.wp
  rw [hr]
  refine (h L a w c).mono ?_
  rintro e w' ⟨v, rfl, hv, hb⟩
  exact ⟨v, rfl, hv, hb⟩
end
end Nac
/- Structs of any size: loads, stores, new ones; in a region that draws its order, too. -/
namespace Go.Proofs.YtjfpoahmjgeogaaGreatDoor
open Go.RowKit Nac
structure SInfo (T : TypeId) (n : Nat) : Prop where
  info : (Tryz.prog.info? T).map (·.size) = some n
  row : ∃ d, Tryz.prog.underlying T = some d ∧ d.isRow = true
section
variable {w : World} {ops : Array Oper} {rest : List Oper} {o : Oper} {a : Act} {Q : Exit → Act → World → Prop} {T : TypeId} {n : Nat}
theorem run_loadS (hS : SInfo T n) (b : Nat) (cs : List Value) (hb : Blk w b cs) (hl : cs.length = n) : (loadVar T ⟨b, 0, none⟩).run Tryz.prog w = .ok (.agg cs.toArray) w := by
  obtain ⟨d, hu, hd⟩ := hS.row
  exact run_loadVar_mid w b 0 T cs d (hb.range 0 cs ⟨[], [], by simp, rfl⟩) hu hd (by rw [hS.info, hl])
theorem wpList_loadS (hS : SInfo T n) (hg : o.guard = none) (x : Operand) (hop : o.op = .load T x) (b : Nat) (cs : List Value) (hx : a.eval x = .pointer (some ⟨b, 0, none⟩)) (hb : Blk w b cs) (hl : cs.length = n)
    (h : wpList Tryz.prog ops Q rest (a.put o.dst (.agg cs.toArray)) w) : wpList Tryz.prog ops Q (o :: rest) a w := by
  obtain ⟨d, hu, hd⟩ := hS.row
  exact wpList_load_mid hg T x hop b 0 hx cs d (hb.range 0 cs ⟨[], [], by simp, rfl⟩) hu hd (by rw [hS.info, hl]) h
theorem wpList_storeS (hS : SInfo T n) (hg : o.guard = none) (x y : Operand) (hop : o.op = .store T x y) (b : Nat) (cs0 cs : List Value) (hx : a.eval x = .pointer (some ⟨b, 0, none⟩)) (hy : a.eval y = .agg cs.toArray) (hb : Blk w b cs0) (hl0 : cs0.length = n) (hl : cs.length = n) (h1 : ∀ v ∈ cs, v.oneCell' = true)
    (h : ∀ w', Blk w' b cs → w.grownBy w' (some b) → wpList Tryz.prog ops Q rest (a.put o.dst undef) w') : wpList Tryz.prog ops Q (o :: rest) a w :=
  wpList_store_mid hg T x y hop b 0 cs.toArray hx hy (hb.there 0 _ (by simp [hl0, hl])) (by rw [hS.info]; simp [hl]) (all_oneCell_toArray h1)
    (h _ (by have := hb.setCells cs 0 (by omega); rw [List.take_zero, List.nil_append, List.drop_eq_nil_of_le (by omega), List.append_nil] at this; exact this) (by simpa using grown_setCells b cs 0 w))
theorem run_storeS (hS : SInfo T n) (b : Nat) (cs0 cs : List Value) (hb : Blk w b cs0) (hl0 : cs0.length = n) (hl : cs.length = n) (h1 : ∀ v ∈ cs, v.oneCell' = true) :
    ∃ w', (Instr.storeAt T (.pointer (some ⟨b, 0, none⟩)) (.agg cs.toArray)).run Tryz.prog w = .ok () w' ∧ Blk w' b cs ∧ w.grownBy w' (some b) :=
  ⟨_, run_storeAt_mid w b 0 T cs.toArray (hb.there 0 _ (by simp [hl0, hl])) (by rw [hS.info]; simp [hl]) (all_oneCell_toArray h1),
    by have := hb.setCells cs 0 (by omega); rw [List.take_zero, List.nil_append, List.drop_eq_nil_of_le (by omega), List.append_nil] at this; exact this, by simpa using grown_setCells b cs 0 w⟩
theorem wpList_binV (hw : Region.wanted o (yielded ops a.tmps) = true) (op : BinOp) (T T' : TypeId) (x y : Operand) (hop : o.op = .binOp op T x y T') (v : Value)
    (hv : (do eqGuard op T x y (a.eval x) (a.eval y); binOp op T (a.eval x) (a.eval y) : Sem Value).run Tryz.prog w = .ok v w) (h : wpList Tryz.prog ops Q rest (a.put o.dst v) w) : wpList Tryz.prog ops Q (o :: rest) a w := by
  unfold wpList
  rw [if_pos hw]
  refine Or.inl ?_
  unfold Oper.wp
  have e : (execOp a.eval o).run Tryz.prog w = .ok (.value v) w := by
    simp only [execOp, hop]
    rw [Sem.run_bind] at hv
    rw [Sem.run_bind, Sem.run_bind, hv]
    rfl
  rw [e]
  exact h
theorem wpList_boxS (hg : o.guard = none) (x : Operand) (hop : o.op = .box T x) (cs : List Value) (hx : a.eval x = .agg cs.toArray)
    (h : ∀ w', Blk w' w.heap.size cs → w.grownBy w' none → w'.heap.size = w.heap.size + 1 → wpList Tryz.prog ops Q rest (a.put o.dst (.pointer (some ⟨w.heap.size, 0, none⟩))) w') : wpList Tryz.prog ops Q (o :: rest) a w := by
  refine wpList_plain hg fun K hK => ?_
  unfold Oper.wp execOp
  simp only [hop, Sem.run_bind, Instr.box, newVar, newRow, run_newObj_alloc, Sem.run_pure, Result.andThen_ok, hx, Value.cells]
  exact hK _ _ (h _ (Blk.new w cs T) (World.grownBy_alloc w _ none) (by simp))
theorem wpList_allocS (cs : List Value) (hz : ((Tryz.prog.info? T).bind (·.zero)) = some (.agg cs.toArray)) (hg : o.guard = none) (hop : o.op = .alloc T)
    (h : ∀ w', Blk w' w.heap.size cs → w.grownBy w' none → w'.heap.size = w.heap.size + 1 → wpList Tryz.prog ops Q rest (a.put o.dst (.pointer (some ⟨w.heap.size, 0, none⟩))) w') : wpList Tryz.prog ops Q (o :: rest) a w := by
  refine wpList_plain hg fun K hK => ?_
  have hz : (zeroValue T).run Tryz.prog w = .ok (.agg cs.toArray) w := by
    cases hi : Tryz.prog.info? T with
    | none => simp [hi] at hz
    | some i =>
    simp [hi] at hz
    simp [zeroValue, typeInfo, hi, hz]
  have hr : (Instr.alloc T true (.tuple #[])).run Tryz.prog w = .ok (.pointer (some ⟨w.heap.size, 0, none⟩)) (w.alloc (.cells cs.toArray T)) := by
    simp [Instr.alloc, hz, newVar, newRow, Value.cells]
  unfold Oper.wp execOp
  simp only [hop, Sem.run_bind, hr, Result.andThen_ok]
  exact hK _ _ (h _ (Blk.new w cs T) (World.grownBy_alloc w _ none) (by simp))
end
section
variable {ops : Array Oper} {Q : Exit → Act → World → Prop} {D : Nat → Value → Prop} {J : (Nat → Bool) → World → Prop} {a0 : Act} {i : Nat} {o : Oper} {T : TypeId} {n : Nat}
theorem vstep_loadS (hS : SInfo T n) (ho : ops[i]? = some o) (hw : ∀ L a w, VCtx ops D J a0 i L a w → Region.wanted o (yielded ops a.tmps) = true) (hJ : ∀ L w, J L w → J (upd L i) w) (x : Tmp) (hop : o.op = .load T (.tmp x)) (b : Nat) (cs : List Value) (hl : cs.length = n)
    (hx : ∀ L a w, VCtx ops D J a0 i L a w → a.tmps.getD x undef = .pointer (some ⟨b, 0, none⟩)) (hb : ∀ L w, J L w → Blk w b cs) (hD : D i (.agg cs.toArray)) : VStep Tryz.prog ops Q D J a0 i := by
  obtain ⟨d, hu, hd⟩ := hS.row
  refine vstep_pure ho hw hJ fun L a w c => ⟨.agg cs.toArray, ?_, hD⟩
  have e := hx L a w c
  unfold execOp
  simp only [hop, Act.eval, e, Instr.loadAt, Instr.sureAddr, Sem.run_bind, Sem.run_pure, Result.andThen_ok, run_loadS hS b cs (hb L w c.world) hl]
theorem vstep_storeS (hS : SInfo T n) (ho : ops[i]? = some o) (hw : ∀ L a w, VCtx ops D J a0 i L a w → Region.wanted o (yielded ops a.tmps) = true) (x y : Tmp) (hop : o.op = .store T (.tmp x) (.tmp y)) (b : Nat) (cs : List Value) (hl : cs.length = n) (h1 : ∀ v ∈ cs, v.oneCell' = true)
    (hx : ∀ L a w, VCtx ops D J a0 i L a w → a.tmps.getD x undef = .pointer (some ⟨b, 0, none⟩)) (hy : ∀ L a w, VCtx ops D J a0 i L a w → a.tmps.getD y undef = .agg cs.toArray) (hb : ∀ L w, J L w → ∃ cs0, cs0.length = n ∧ Blk w b cs0) (hD : D i undef)
    (hJ : ∀ L w w', J L w → Blk w' b cs → w.grownBy w' (some b) → J (upd L i) w') : VStep Tryz.prog ops Q D J a0 i := by
  intro o' ho' L a w c
  rw [ho] at ho'
  obtain rfl := Option.some.inj ho'
  rw [if_pos (hw L a w c)]
  obtain ⟨cs0, hl0, hb0⟩ := hb L w c.world
  obtain ⟨w', hr, hb', hg⟩ := run_storeS hS b cs0 cs hb0 hl0 hl h1
  have e1 := hx L a w c
  have e2 := hy L a w c
  have hr2 : (execOp a.eval o).run Tryz.prog w = .ok .skip w' := by
    unfold execOp
    simp only [hop, Act.eval, e1, e2, Sem.run_bind, hr, Result.andThen_ok, Sem.run_pure]
  unfold Oper.wp
  rw [hr2]
  exact ⟨undef, rfl, hD, hJ L w w' c.world hb' hg⟩
end
end Go.Proofs.YtjfpoahmjgeogaaGreatDoor
/- A region that draws its order, of which the last operations come in one order: the first ones in any order, each slot's value known; then the last ones as a list. Over whatever program. -/
namespace Nac
open Go Go.RowKit
def depsOf (ops : Array Oper) (i : Nat) : List Nat := match ops[i]? with
  | none => []
  | some o => (o.after.toList.filter fun e => Region.binds .any e).map (·.on)
def closOf (ops : Array Oper) : Nat → List Nat → List Nat
  | 0, s => s
  | j + 1, s => closOf ops j (if s.contains j then s ++ depsOf ops j else s)
def chainB (ops : Array Oper) (p : Nat) : Bool := decide (p ≤ ops.size) && (List.range ops.size).all fun i => decide (i < p) || (List.range i).all fun j => (closOf ops i (depsOf ops i)).contains j
section
variable {P : Program} {ops : Array Oper} {Q : Exit → Act → World → Prop} {D : Nat → Value → Prop} {J : (Nat → Bool) → World → Prop} {a0 : Act}
theorem clos_listed {listed : Array Bool} (hc : ∀ i o, ops[i]? = some o → listed.getD i false = true → ∀ e ∈ o.after, Region.binds .any e = true → listed.getD e.on false = true) :
    ∀ (n : Nat) (s : List Nat), (∀ x ∈ s, listed.getD x false = true) → ∀ x ∈ closOf ops n s, listed.getD x false = true := by
  intro n
  induction n with
  | zero => intro s hs x hx; exact hs x hx
  | succ n ih =>
  intro s hs x hx
  unfold closOf at hx
  refine ih _ ?_ x hx
  intro y hy
  split at hy
  · rename_i hcn
    rcases List.mem_append.1 hy with h | h
    · exact hs y h
    · unfold depsOf at h
      cases ho : ops[n]? with
      | none => simp [ho] at h
      | some o =>
      simp only [ho, List.mem_map, List.mem_filter, Array.mem_toList_iff] at h
      obtain ⟨e, ⟨he, hb⟩, rfl⟩ := h
      exact hc n o ho (hs n (by simpa using hcn)) e he hb
  · exact hs y hy
theorem chain_listed {listed : Array Bool} {p i : Nat} (hch : chainB ops p = true) (hc : ∀ i o, ops[i]? = some o → listed.getD i false = true → ∀ e ∈ o.after, Region.binds .any e = true → listed.getD e.on false = true)
    (hi : i < ops.size) (hp : p ≤ i) (hr : ∀ o, ops[i]? = some o → ∀ e ∈ o.after, Region.binds .any e = true → listed.getD e.on false = true) : ∀ j, j < i → listed.getD j false = true := by
  intro j hj
  unfold chainB at hch
  rw [Bool.and_eq_true, List.all_eq_true] at hch
  have h1 := hch.2 i (by simpa using hi)
  have hnp : decide (i < p) = false := by simpa using hp
  rw [hnp, Bool.false_or, List.all_eq_true] at h1
  have h2 := h1 j (by simpa using hj)
  refine clos_listed hc i _ ?_ j (by simpa using h2)
  intro x hx
  unfold depsOf at hx
  cases ho : ops[i]? with
  | none => simp [ho] at hx
  | some o =>
  simp only [ho, List.mem_map, List.mem_filter, Array.mem_toList_iff] at hx
  obtain ⟨e, ⟨he, hb⟩, rfl⟩ := hx
  exact hr o ho e he hb
theorem tail_any {p : Nat} (hch : chainB ops p = true) (hbk : backB ops = true) : ∀ (fuel : Nat) (listed : Array Bool) (a : Act) (w : World) (i : Nat), p ≤ i → i ≤ ops.size → listed.size = ops.size → falses listed ≤ fuel →
    (∀ j, j < i → listed.getD j false = true) → (∀ j, i ≤ j → listed.getD j false = false) →
    (∀ i o, ops[i]? = some o → listed.getD i false = true → ∀ e ∈ o.after, Region.binds .any e = true → listed.getD e.on false = true) →
    wpList P ops Q (ops.toList.drop i) a w → wpAny P .any ops Q fuel listed a w := by
  intro fuel
  have hend : ∀ (a : Act) (w : World) (i : Nat), ¬ i < ops.size → wpList P ops Q (ops.toList.drop i) a w → Q .normal a w := by
    intro a w i hi h
    rw [List.drop_eq_nil_of_le (by simpa using hi)] at h
    exact h
  induction fuel with
  | zero =>
    intro listed a w i hp hi hs hf h1 h2 hc h
    have hn : ¬ i < ops.size := fun hlt => by
      have := falses_zero listed (by omega) i (by omega)
      rw [h2 i (Nat.le_refl _)] at this
      cases this
    refine ⟨?_, hend a w i hn h⟩
    apply List.eq_nil_iff_forall_not_mem.2
    intro x hx
    obtain ⟨g1, g2, _⟩ := ready_of hx hs
    rw [h1 x (by omega)] at g2
    cases g2
  | succ fuel ih =>
  intro listed a w i hp hi hs hf h1 h2 hc h
  refine ⟨fun hr => ?_, fun x hx => ?_⟩
  · refine hend a w i (fun hlt => ?_) h
    exact absurd hr (ready_ex hbk hs i hlt (h2 i (Nat.le_refl _)))
  · obtain ⟨g1, g2, o, ho, hready⟩ := ready_of hx hs
    have hge : i ≤ x := by
      rcases Nat.lt_or_ge x i with hlt | hge
      · rw [h1 x hlt] at g2; cases g2
      · exact hge
    have hxi : x = i := by
      rcases Nat.lt_or_ge i x with hlt | hle
      · have := chain_listed hch hc g1 (by omega) (fun o' ho' => by rw [ho] at ho'; obtain rfl := Option.some.inj ho'; exact hready) i hlt
        rw [h2 i (Nat.le_refl _)] at this
        cases this
      · omega
    subst hxi
    have hfl : falses (listed.setIfInBounds x true) ≤ fuel := by
      have := falses_set listed x (by omega) g2
      omega
    have hd : ops.toList.drop x = o :: ops.toList.drop (x + 1) := by
      rw [List.drop_eq_getElem_cons (by simpa using g1)]
      congr 1
      have := Array.getElem?_eq_getElem g1
      rw [this] at ho
      simpa using Option.some.inj ho
    rw [hd] at h
    have next : ∀ a' w', wpList P ops Q (ops.toList.drop (x + 1)) a' w' → wpAny P .any ops Q fuel (listed.setIfInBounds x true) a' w' := by
      intro a' w' h'
      refine ih _ a' w' (x + 1) (by omega) g1 (by simpa using hs) hfl ?_ ?_ ?_ h'
      · intro j hj
        rw [getD_setIf _ _ _ (by omega)]
        split
        · rfl
        · exact h1 j (by omega)
      · intro j hj
        rw [getD_setIf _ _ _ (by omega), if_neg (by omega)]
        exact h2 j (by omega)
      · intro j oj hj hl e he hb
        rw [getD_setIf _ _ _ (by omega)] at hl ⊢
        by_cases hex : x = e.on
        · rw [if_pos hex]
        · rw [if_neg hex]
          by_cases hxj : x = j
          · subst hxj
            rw [ho] at hj
            obtain rfl := Option.some.inj hj
            exact hready e he hb
          · rw [if_neg hxj] at hl
            exact hc j oj hj hl e he hb
    unfold wpOp
    rw [ho]
    simp only
    unfold wpList at h
    split
    · rename_i hw
      rw [if_pos hw] at h
      rcases h with h | h
      · exact Or.inl (Oper.wp_mono next h)
      · exact Or.inr h
    · rename_i hw
      rw [if_neg hw] at h
      exact next _ _ h
theorem val_tail {p : Nat} (hch : chainB ops p = true) (hd : distinctB ops a0.tmps.size = true) (hbk : backB ops = true)
    (step : ∀ i, i < p → VStep P ops Q D J a0 i)
    (fin : ∀ L a w, (∀ i, i < p → L i = true) → J L w → a.defers = a0.defers → a.tmps.size = a0.tmps.size → (∀ i d, i < p → dstOf ops i = some d → D i (a.tmps.getD d undef)) → (∀ t, (∀ i, i < p → dstOf ops i ≠ some t) → a.tmps.getD t undef = a0.tmps.getD t undef) → wpList P ops Q (ops.toList.drop p) a w) :
    ∀ (fuel : Nat) (listed : Array Bool) (a : Act) (w : World), falses listed ≤ fuel → (∀ j, p ≤ j → listed.getD j false = false) → VInv ops D J a0 listed a w → wpAny P .any ops Q fuel listed a w := by
  have hps : p ≤ ops.size := by
    unfold chainB at hch
    rw [Bool.and_eq_true] at hch
    simpa using hch.1
  have hall : ∀ (fuel : Nat) (listed : Array Bool) (a : Act) (w : World), falses listed ≤ fuel → (∀ j, p ≤ j → listed.getD j false = false) → VInv ops D J a0 listed a w → (∀ j, j < p → listed.getD j false = true) → wpAny P .any ops Q fuel listed a w := by
    intro fuel listed a w hf hz hI hl
    refine tail_any hch hbk fuel listed a w p (Nat.le_refl _) hps hI.size hf hl hz hI.closed ?_
    refine fin _ a w (fun i hi => hl i hi) hI.world hI.defers hI.tsize (fun i d hi h => hI.done i d (hl i hi) h) (fun t ht => hI.rest t fun i hli => ht i ?_)
    rcases Nat.lt_or_ge i p with h | h
    · exact h
    · rw [hz i h] at hli; cases hli
  intro fuel
  induction fuel with
  | zero =>
    intro listed a w hf hz hI
    exact hall 0 listed a w hf hz hI fun i hi => falses_zero listed (by omega) i (by rw [hI.size]; omega)
  | succ fuel ih =>
  intro listed a w hf hz hI
  by_cases hdone : ∀ j, j < p → listed.getD j false = true
  · exact hall _ listed a w hf hz hI hdone
  have hnd : ∃ j, j < p ∧ listed.getD j false = false := by
    apply Classical.byContradiction
    intro h
    refine hdone fun j hj => ?_
    cases hb : listed.getD j false
    · exact absurd ⟨j, hj, hb⟩ h
    · rfl
  obtain ⟨j0, hj0, hl0⟩ := hnd
  refine ⟨fun hr => absurd hr (ready_ex hbk hI.size j0 (by omega) hl0), fun i hi => ?_⟩
  obtain ⟨h1, h2, o, ho, hready⟩ := ready_of hi hI.size
  have hip : i < p := by
    rcases Nat.lt_or_ge i p with h | h
    · exact h
    · have := chain_listed hch hI.closed h1 h (fun o' ho' => by rw [ho] at ho'; obtain rfl := Option.some.inj ho'; exact hready) j0 (by omega)
      rw [hl0] at this
      cases this
  have hctx : VCtx ops D J a0 i (fun k => listed.getD k false) a w := by
    have hpc := preds_closed hI.closed 3 i (fun o' ho' => by rw [ho] at ho'; obtain rfl := Option.some.inj ho'; exact hready)
    refine ⟨hI.world, hI.tsize, h2, hpc, fun k d hk hkd => hI.done k d (hpc k hk) hkd, fun t ht => hI.rest t fun k hl hkd => ?_⟩
    unfold origB at ht
    rw [List.all_eq_true] at ht
    have hk : k < ops.size := by
      rcases Nat.lt_or_ge k ops.size with h | h
      · exact h
      · simp [dstOf, Array.getElem?_eq_none h] at hkd
    have h3 := ht k (by simpa using hk)
    rw [hkd] at h3
    simp only [bne_self_eq_false, Bool.false_or, List.contains_iff_mem] at h3
    have := preds_closed hI.closed 3 k (fun o' ho' e he hb' => hI.closed k o' ho' hl e he hb') i h3
    rw [h2] at this
    cases this
  have hs := step i hip o ho _ a w hctx
  have hfl : falses (listed.setIfInBounds i true) ≤ fuel := by
    have := falses_set listed i (by rw [hI.size]; exact h1) h2
    omega
  have hz' : ∀ j, p ≤ j → (listed.setIfInBounds i true).getD j false = false := fun j hj => by
    rw [getD_setIf _ _ _ (by rw [hI.size]; exact h1), if_neg (by omega)]
    exact hz j hj
  unfold wpOp
  rw [ho]
  simp only
  split
  · rename_i hw
    rw [if_pos hw] at hs
    refine Or.inl (Oper.wp_mono ?_ hs)
    rintro a' w' ⟨v, rfl, hv, hb⟩
    exact ih _ _ _ hfl hz' (val_put hI h1 ho hd hready hv hb)
  · rename_i hw
    rw [if_neg hw] at hs
    exact ih _ _ _ hfl hz' (val_put hI h1 ho hd hready hs.1 hs.2)
theorem region_tail {id : Nat} {a0 : Act} {w0 : World} (p : Nat) (V : List Value) (ds : List (Option Tmp)) (J : (Nat → Bool) → World → Prop) (hm : P.follows .mixedOrders = true) (hd : distinctB ops a0.tmps.size = true) (hbk : backB ops = true)
    (hch : chainB ops p = true) (hds : (ops.toList.take p).map (·.dst) = ds) (hV : V.length = ds.length)
    (h0 : J (fun _ => false) w0.drew)
    (step : ∀ i, i < p → VStep P ops Q (fun i v => v = V.getD i undef) J a0 i)
    (fin : ∀ L w, (∀ i, i < p → L i = true) → J L w → wpList P ops Q (ops.toList.drop p) (putsL (ds.zip V) a0) w) :
    (Code.region id ops true).wp P Q a0 w0 := by
  refine wp_region_any hm ?_
  have hps : p ≤ ops.size := by
    unfold chainB at hch
    rw [Bool.and_eq_true] at hch
    simpa using hch.1
  have hg : ∀ i, (Array.replicate ops.size false).getD i false = false := by
    intro i
    rw [Array.getD_eq_getD_getElem?, Array.getElem?_replicate]
    split <;> rfl
  refine val_tail (D := fun i v => v = V.getD i undef) (J := J) (a0 := a0) hch hd hbk step (fun L a w hall hJ hde hts hs hr => ?_) _ _ _ _ ?_ (fun j _ => hg j) ⟨by simp, ?_, rfl, rfl, fun i o _ h => (by rw [hg] at h; cases h), fun i d h => (by rw [hg] at h; cases h), fun _ _ => rfl⟩
  · have hdi : ∀ i, i < p → dstOf ops i = (ds[i]?).join := by
      intro i hi
      rw [← hds, List.getElem?_map, List.getElem?_take_of_lt hi, Array.getElem?_toList]
      unfold dstOf
      cases ops[i]? <;> rfl
    have hsz : p = ds.length := by rw [← hds]; simp; omega
    have e := putsL_eq (a0 := a0) (a := a) (l := ds.zip V) hde hts ?_ ?_
    · rw [e]
      exact fin L w hall hJ
    · intro x hx t ht
      obtain ⟨i, hi⟩ := List.mem_iff_getElem?.1 hx
      obtain ⟨h1, h2⟩ := List.getElem?_zip_eq_some.1 hi
      have hil : i < p := by rw [hsz]; exact (List.getElem?_eq_some_iff.1 h1).1
      have := hs i t hil (by rw [hdi i hil, h1]; exact ht)
      rw [this, List.getD_eq_getElem?_getD, h2]
      rfl
    · intro t ht
      refine hr t fun i hil hdt => ?_
      rw [hdi i hil] at hdt
      have h1 : i < ds.length := by omega
      have h2 : i < V.length := by omega
      rw [List.getElem?_eq_getElem h1] at hdt
      exact ht (ds[i], V[i]) (List.mem_iff_getElem?.2 ⟨i, List.getElem?_zip_eq_some.2 ⟨List.getElem?_eq_getElem h1, List.getElem?_eq_getElem h2⟩⟩) hdt
  · unfold falses
    simp
  · rw [show (fun i => (Array.replicate ops.size false).getD i false) = fun _ => false from funext hg]
    exact h0
end
end Nac
/- A machine and its instructions, as the text of pvm has them, in plain Lean. No program in sight. -/
namespace Nac.Pvm
open Go Go.RowKit Go.IntWalk
structure Ins where
  op : Nat
  a : Nat
  b : Nat
  c : Nat
  deriving DecidableEq
instance : Inhabited Ins := ⟨⟨0, 0, 0, 0⟩⟩
structure Ins.fits (i : Ins) : Prop where
  op : i.op < 256
  a : i.a < 256
  b : i.b < 256
  c : i.c < 256
structure Mach where
  place : Int
  r : List Int
  mem : List Int
  state : Int
  trap : Int
def num (i : Ins) : Int := if i.op = 1 ∧ 32768 ≤ i.b + 256 * i.c then (i.b : Int) + 256 * i.c - 65536 else (i.b : Int) + 256 * i.c
def wf (i : Ins) : Bool :=
  if i.op = 0 then decide (i.a = 0 ∧ i.b = 0 ∧ i.c = 0)
  else if i.op = 15 then decide (i.a = 0)
  else if i.op = 17 then decide (i.a < 16 ∧ i.b = 0 ∧ i.c = 0)
  else if i.op = 2 then decide (i.c = 0 ∧ i.b < 8 ∧ i.a < 8)
  else if 3 ≤ i.op ∧ i.op ≤ 12 then decide (i.c < 8 ∧ i.b < 8 ∧ i.a < 8)
  else if i.op = 13 ∨ i.op = 14 then decide (i.b < 8 ∧ i.a < 8)
  else if i.op = 1 ∨ i.op = 16 then decide (i.a < 8)
  else false
def leads (i : Ins) : Bool := i.op == 15 || i.op == 16
def faultAt (n : Nat) : List Ins → Nat → Option (Nat × Nat)
  | [], _ => none
  | i :: l, k => if wf i = false then some (3, k) else if leads i = true ∧ (n : Int) ≤ num i then some (4, k) else faultAt n l (k + 1)
def check (l : List Ins) : Option (Nat × Nat) :=
  if l.length = 0 ∨ 128 < l.length then some (1, 0)
  else match faultAt l.length l 0 with
    | some f => some f
    | none => if (l.getD (l.length - 1) default).op ≠ 0 ∧ (l.getD (l.length - 1) default).op ≠ 15 then some (2, l.length - 1) else none
def res (op : Nat) (b c : Int) : Int :=
  if op = 3 then wrap64 (b + c) else if op = 4 then wrap64 (b + wrap64 (-c)) else if op = 5 then wrap64 (b * c) else if op = 6 then wrap64 (b.tdiv c) else if op = 7 then b.tmod c
  else if op = 8 then bits .and .i64 b c else if op = 9 then bits .or .i64 b c else if op = 10 then bits .xor .i64 b c else if op = 11 then (if decide (b < c) = true then 1 else 0) else (if (b == c) = true then 1 else 0)
def Mach.reg (m : Mach) (k : Nat) : Int := m.r.getD k 0
def wordAt (m : Mach) (i : Ins) : Int :=
  if wrap64 (m.reg i.b + i.c) < 0 ∨ (m.mem.length : Int) ≤ wrap64 (m.reg i.b + i.c) then -1 else wrap64 (m.reg i.b + i.c)
def trapM (m : Mach) (e : Int) : Mach × Int × Int := ({ m with state := 2, trap := e }, 3, e)
def plainM (m : Mach) (i : Ins) : Mach :=
  if i.op = 1 then { m with r := m.r.set i.a (num i) }
  else if i.op = 2 then { m with r := m.r.set i.a (m.reg i.b) }
  else if i.op = 16 then (if m.reg i.a ≠ 0 then m else { m with place := num i })
  else if i.op = 15 then { m with place := num i }
  else { m with r := m.r.set i.a (res i.op (m.reg i.b) (m.reg i.c)) }
def stepM (l : List Ins) (m : Mach) : Mach × Int × Int :=
  if m.state ≠ 0 then (m, 0, 0)
  else if m.place < 0 ∨ (l.length : Int) ≤ m.place then trapM m 82
  else if wf (l.getD m.place.toNat default) = false then trapM m 83
  else if (l.getD m.place.toNat default).op = 0 then ({ m with state := 1 }, 2, 0)
  else if (l.getD m.place.toNat default).op = 17 then ({ m with place := m.place + 1 }, 1, (l.getD m.place.toNat default).a)
  else if (l.getD m.place.toNat default).op = 13 then
    (if wordAt m (l.getD m.place.toNat default) < 0 then trapM m 81 else ({ m with r := m.r.set (l.getD m.place.toNat default).a (m.mem.getD (wordAt m (l.getD m.place.toNat default)).toNat 0), place := m.place + 1 }, 0, 0))
  else if (l.getD m.place.toNat default).op = 14 then
    (if wordAt m (l.getD m.place.toNat default) < 0 then trapM m 81 else ({ m with mem := m.mem.set (wordAt m (l.getD m.place.toNat default)).toNat (m.reg (l.getD m.place.toNat default).a), place := m.place + 1 }, 0, 0))
  else if ((l.getD m.place.toNat default).op = 6 ∨ (l.getD m.place.toNat default).op = 7) ∧ m.reg (l.getD m.place.toNat default).c = 0 then trapM m 80
  else (plainM { m with place := m.place + 1 } (l.getD m.place.toNat default), 0, 0)
end Nac.Pvm
/- Boxes known whole; faults. -/
namespace Nac
open Go Go.RowKit
structure I64 (z : Int) : Prop where
  lo : -9223372036854775808 ≤ z
  hi : z ≤ 9223372036854775807
theorem I64.of {z : Int} (h : (Lit.int .i64 z).wf) : I64 z := by
  have : -9223372036854775808 ≤ z ∧ z ≤ 9223372036854775807 := by simpa [Lit.wf, IntKind.min, IntKind.max, IntKind.signed, IntKind.bits] using h
  exact ⟨this.1, this.2⟩
def Box (w : World) (b : Nat) (cs : List Value) : Prop := ∃ t, w.heap[b]? = some (.cells cs.toArray t (0, 0))
section
variable {w w' : World} {b : Nat} {cs : List Value}
theorem Box.lt (h : Box w b cs) : b < w.heap.size := by
  obtain ⟨t, h⟩ := h
  exact (Array.getElem?_eq_some_iff.1 h).1
theorem Box.cell (h : Box w b cs) {j : Nat} {v : Value} (hj : cs[j]? = some v) : w.cell? ⟨b, j, none⟩ = some v := by
  obtain ⟨t, h⟩ := h
  rw [cell_of_row w b j _ t (0, 0) h]
  simpa using hj
theorem Box.below {B : Nat} (h : Box w b cs) (hb : Below B w w') (hB : b < B) : Box w' b cs := by
  obtain ⟨t, h⟩ := h
  exact ⟨t, (hb.block b hB).trans h⟩
theorem Box.new (w : World) (cs : List Value) (t : TypeId) : Box (w.alloc (.cells cs.toArray t)) w.heap.size cs := ⟨t, heap_alloc_new w _⟩
end
end Nac
namespace Go.Proofs.YtjfpoahmjgeogaaGreatDoor
open Go.RowKit Nac
def ErrV (R : Option (Nat × Nat)) (v : Value) (w : World) : Prop :=
  match R with
  | none => v = .nilIface
  | some (c, i) => ∃ g, v = .iface 131 (.pointer (some ⟨g, 0, none⟩)) ∧ Box w g [.int .i64 c, .int .i64 i, .nilIface]
def RetErr (w : World) (R : Option (Nat × Nat)) (e : Ending) (w' : World) : Prop := (∃ v, e = .returned v ∧ ErrV R v w') ∧ Below w.heap.size w w'
theorem fault_new (w : World) (c i : Nat) (hc : 1 ≤ c) :
    Calls Tryz.prog 30 #[.int .i64 c, .int .i64 i] w (RetErr w (some (c, i))) := by
  go_enter Tryz.func30, Tryz.ntmps30
  go_wp2
  go_ret
  exact ⟨⟨_, rfl, w.heap.size, rfl, Box.new w _ _⟩, (Below.refl _ _).alloc (Nat.le_refl _) _⟩
end Go.Proofs.YtjfpoahmjgeogaaGreatDoor
/- code: wellFormed, leads, Number. -/
namespace Go.Proofs.YtjfpoahmjgeogaaGreatDoor
open Go.RowKit Nac Nac.Pvm
def icells (i : Ins) : List Value := [.int .u8 i.op, .int .u8 i.a, .int .u8 i.b, .int .u8 i.c]
def RetB (w : World) (b : Bool) (e : Ending) (w' : World) : Prop := e = .returned (.bool b) ∧ Below w.heap.size w w'
theorem retB {w w' : World} {b b' : Bool} (h : b' = b) (hb : Below w.heap.size w w') : RetB w b (.returned (.bool b')) w' := by subst h; exact ⟨rfl, hb⟩
theorem wf_big (i : Ins) (h : 17 < i.op) : wf i = false := by
  unfold wf
  rw [if_neg (by omega), if_neg (by omega), if_neg (by omega), if_neg (by omega), if_neg (by omega), if_neg (by omega), if_neg (by omega)]
set_option maxHeartbeats 4000000 in
theorem wf_calls (w : World) (i : Ins) (h : i.fits) : Calls Tryz.prog 31 #[.agg #[.int .u8 i.op, .int .u8 i.a, .int .u8 i.b, .int .u8 i.c]] w (RetB w (wf i)) := by
  obtain ⟨op, a, b, c⟩ := i
  obtain ⟨h0, h1, h2, h3⟩ := h
  simp only at h0 h1 h2 h3 ⊢
  have HB : Hid (Below w.heap.size w (w.alloc (.cells #[.int .u8 op, .int .u8 a, .int .u8 b, .int .u8 c] 94))) := Lib.hid ((Below.refl _ _).alloc (Nat.le_refl _) _)
  rcases (by omega : op = 0 ∨ op = 1 ∨ op = 2 ∨ op = 3 ∨ op = 4 ∨ op = 5 ∨ op = 6 ∨ op = 7 ∨ op = 8 ∨ op = 9 ∨ op = 10 ∨ op = 11 ∨ op = 12 ∨ op = 13 ∨ op = 14 ∨ op = 15 ∨ op = 16 ∨ op = 17 ∨ 17 < op) with rfl | rfl | rfl | rfl | rfl | rfl | rfl | rfl | rfl | rfl | rfl | rfl | rfl | rfl | rfl | rfl | rfl | rfl | h4
  all_goals
    go_enter Tryz.func31, Tryz.ntmps31
    go_wp2
    all_goals
      go_ret
      refine retB ?_ ((Below.refl _ _).alloc (Nat.le_refl _) _)
      clear HB
      first
        | (unfold wf; simp_all; done)
        | (rw [Bool.eq_iff_iff]; unfold wf; simp_all; omega)
        | (rw [wf_big _ h4]; done)
        | (by_cases ha : a = 0 <;> simp [wf, ha]; done)
        | (by_cases hc : c = 0 <;> by_cases hb : b = 0 <;> by_cases ha : a < 16 <;> simp_all [wf]; done)
        | (by_cases hc : c = 0 <;> by_cases hb : b = 0 <;> by_cases ha : a < 16 <;> simp_all [wf] <;> omega)
theorem leads_calls (w : World) (i : Ins) : Calls Tryz.prog 32 #[.agg #[.int .u8 i.op, .int .u8 i.a, .int .u8 i.b, .int .u8 i.c]] w (RetB w (leads i)) := by
  obtain ⟨op, a, b, c⟩ := i
  by_cases h : op = 15
  · subst h
    go_enter Tryz.func32, Tryz.ntmps32
    go_wp2
    go_ret
    exact retB rfl ((Below.refl _ _).alloc (Nat.le_refl _) _)
  · have hb : ((op : Int) == 15) = false := by simp; omega
    go_enter Tryz.func32, Tryz.ntmps32
    go_wp2
    go_ret
    refine retB ?_ ((Below.refl _ _).alloc (Nat.le_refl _) _)
    unfold leads
    rw [Bool.eq_iff_iff]
    simp
    omega
def RetI (w : World) (z : Int) (e : Ending) (w' : World) : Prop := e = .returned (.int .i64 z) ∧ Below w.heap.size w w'
theorem retI {w w' : World} {z z' : Int} (h : z' = z) (hb : Below w.heap.size w w') : RetI w z (.returned (.int .i64 z')) w' := by subst h; exact ⟨rfl, hb⟩
theorem number_calls' (w : World) (i : Ins) (h : i.fits) : Calls Tryz.prog 33 #[.agg #[.int .u8 i.op, .int .u8 i.a, .int .u8 i.b, .int .u8 i.c]] w (RetI w (num i)) := by
  obtain ⟨op, a, b, c⟩ := i
  obtain ⟨h0, h1, h2, h3⟩ := h
  simp only at h0 h1 h2 h3 ⊢
  by_cases h : op = 1
  · subst h
    by_cases hn : 32768 ≤ b + 256 * c
    · have hn' : 32768 ≤ (b : Int) + 256 * (c : Int) := by omega
      go_enter Tryz.func33, Tryz.ntmps33
      go_wp2
      go_ret
      refine retI ?_ ((Below.refl _ _).alloc (Nat.le_refl _) _)
      simp [num, hn]
    · have hn' : ¬ 32768 ≤ (b : Int) + 256 * (c : Int) := by omega
      go_enter Tryz.func33, Tryz.ntmps33
      go_wp2
      go_ret
      refine retI ?_ ((Below.refl _ _).alloc (Nat.le_refl _) _)
      simp [num, hn]
  · have hb : ((op : Int) == 1) = false := by simp; omega
    go_enter Tryz.func33, Tryz.ntmps33
    go_wp2
    go_ret
    refine retI ?_ ((Below.refl _ _).alloc (Nat.le_refl _) _)
    simp [num, h]
end Go.Proofs.YtjfpoahmjgeogaaGreatDoor
