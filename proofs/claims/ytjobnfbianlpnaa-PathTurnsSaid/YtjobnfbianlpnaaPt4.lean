/- Lemmas that the law's proof leans on; no condition. -/
import Derived.Test.YtjobnfbianlpnaaProg
import Derived.WalkKit
import Derived.KernelRfl
import Derived.Below
import Derived.Maps.RangeWalk
import Derived.Maps.OwnSet
import Derived.Shelf.GgClosure.StringsIndexFuncTop
import Derived.Shelf.SlicesE.Clone
import Derived.Shelf.SlicesE.DeleteFunc
import Derived.Shelf.SlIterI.Sorted
import Derived.Shelf.SortM.Plain
import Derived.Shelf.SortM.SortNone
import Derived.Shelf.SlMaps.Clone
import Derived.Shelf.SlMaps.Copy
import Derived.Shelf.SlGeneric
import Derived.Ground.GgwProg
import Derived.Ground.SlgnProg
import Derived.Ground.SlgfProg
import Derived.Ground.GgzProg
import Derived.Ground.SlgmProg
import Derived.Ground.SlmcProg
import Derived.Ground.SlmpProg
import Derived.Test.YtjobnfbianlpnaaPt1
import Derived.Deep.LoopGhost
import Derived.Deep.QuietTactic
import Derived.BigQuiet
import Derived.Test.YtjobnfbianlpnaaPt2
import Derived.Deep.AppendLies
import Derived.Deep.RegionHeld3
import Derived.Deep.DrawnRows
import Derived.Laws.Rows
set_option linter.unusedVariables false
set_option linter.unusedSimpArgs false
namespace Go.Proofs
open Go.RowKit Go.Maps
theorem Try.keyInt : Keyed Try.prog 3 := int_keyed Try.underlying3
noncomputable def Try.RB : Value → Option (DataW Unit × List MemPlace) := plainElem Try.prog 4
def Try.okI (x : Int) : Prop := (Lit.int .i64 x).wf = true
theorem Try.okI_of {x : Int} (h0 : -9223372036854775808 ≤ x) (h1 : x ≤ 9223372036854775807) : Try.okI x := WalkArith.wf_i64 (by omega)
theorem Try.hkeyI {x : Int} (h : Try.okI x) : keyOf Try.prog 3 (.int .i64 x) = some (.int .i64 x) := keyOf_int_mk Try.underlying3 h
def Try.SetIs (w : World) (b : Nat) (S : List Int) : Prop :=
  S.Nodup ∧ (∀ x ∈ S, Try.okI x) ∧ ∃ D : DataW Unit, w.ownsMap Try.prog 3 Try.RB b S.length D ∧ ∀ x, Maps.has D (.int .i64 x) = true ↔ x ∈ S
def Lang.ins (S : List Int) (x : Int) : List Int := if x ∈ S then S else S ++ [x]
theorem Lang.mem_ins (S : List Int) (x y : Int) : y ∈ Lang.ins S x ↔ y ∈ S ∨ y = x := by
  unfold Lang.ins; split
  · constructor
    · exact .inl
    · rintro (h | rfl); exact h; assumption
  · simp
theorem Lang.nodup_ins (S : List Int) (x : Int) (h : S.Nodup) : (Lang.ins S x).Nodup := by
  unfold Lang.ins; split
  · exact h
  · rename_i hx
    rw [List.nodup_append]
    exact ⟨h, by simp, fun a ha b hb => by simp at hb; subst hb; exact fun e => hx (e ▸ ha)⟩
theorem Try.own_tight {w : World} {k : TypeId} {R : Value → Option (DataW Unit × List MemPlace)} {b n : Nat} {D : DataW Unit} (h : w.ownsMap Try.prog k R b n D) : w.ownsMap Try.prog k R b (Maps.size D) D := by
  obtain ⟨es, clock, hb, F, hs, rfl⟩ := h
  exact ⟨es, clock, hb, F, by rw [Maps.size_eq, length_sorted]; simp, rfl⟩
theorem Try.SetIs.lt {w : World} {b : Nat} {S : List Int} (h : Try.SetIs w b S) : b < w.heap.size := by
  obtain ⟨_, _, D, hD, _⟩ := h; exact hD.lt
theorem Try.SetIs.made (w : World) : Try.SetIs (w.alloc (.map #[] 0)) w.heap.size [] :=
  ⟨by simp, by simp, .map [], World.ownsMap_made _ _ _ _, fun x => by simp [Maps.has]⟩
theorem Try.SetIs.kept {w w' : World} {b : Nat} {S : List Int} (h : Try.SetIs w b S) {row : Option Nat} (hg : w.grownBy w' row) (hne : some b ≠ row) : Try.SetIs w' b S := by
  obtain ⟨h1, h2, D, hD, h3⟩ := h; exact ⟨h1, h2, D, hD.kept hg hne, h3⟩
theorem Try.SetIs.same {w w' : World} {b : Nat} {S : List Int} (h : Try.SetIs w b S) (hb : w'.heap[b]? = w.heap[b]?) : Try.SetIs w' b S := by
  obtain ⟨h1, h2, D, ⟨es, clock, hm, F, hs, hD⟩, h3⟩ := h; exact ⟨h1, h2, D, ⟨es, clock, hb.trans hm, F, hs, hD⟩, h3⟩
theorem Try.SetIs.below {w w' : World} {b : Nat} {S : List Int} (h : Try.SetIs w b S) (hb : Below w.heap.size w w') : Try.SetIs w' b S := h.same (hb.block b h.lt)
theorem Try.SetIs.put {w : World} {b : Nat} {S : List Int} (h : Try.SetIs w b S) {x : Int} (hx : Try.okI x) (hn : S.length < 9223372036854775807) :
    ∃ w', (Instr.mapUpdate 59 (.map (some b)) (.int .i64 x) (.bool true)).run Try.prog w = .ok () w' ∧ Try.SetIs w' b (Lang.ins S x) ∧ w.grownBy w' (some b) := by
  obtain ⟨h1, h2, D, hD, h3⟩ := h
  have hK : WideAt.IsKeyLit (.int .i64 x) := trivial
  have ht := hD.tidy Try.keyInt
  obtain ⟨w', hrun, ho, hg⟩ := hD.update Try.keyInt Try.underlying59 (by unfold maxLen; omega) (Try.hkeyI hx) (plainElem_bool (H := Unit) Try.underlying4 true)
  refine ⟨w', hrun, ⟨Lang.nodup_ins S x h1, fun y hy => ?_, D.put (.int .i64 x) (.lit (.bool true)), ?_, fun y => ?_⟩, hg⟩
  · rcases (Lang.mem_ins S x y).1 hy with hy | rfl
    · exact h2 y hy
    · exact hx
  · refine (Try.own_tight ho).mono ?_
    rw [size_put ht]
    have hs : Maps.size D ≤ S.length := by
      obtain ⟨es, clock, hb, F, hs, rfl⟩ := hD
      rw [Maps.size_eq, length_sorted]; simpa using hs
    unfold Lang.ins
    by_cases hm : x ∈ S
    · rw [if_pos ((h3 x).2 hm), if_pos hm]; exact hs
    · rw [if_neg (fun e => hm ((h3 x).1 e)), if_neg hm]; simp; omega
  · rw [Lang.mem_ins]
    by_cases e : y = x
    · subst e
      rw [has_put_same ht.isMap hK]; simp
    · rw [has_put_other (by simpa using e), h3]; simp [e]
theorem Try.wp_put {w : World} {ops : Array Oper} {rest : List Oper} {o : Oper} {a : Act} {Q : Exit → Act → World → Prop} (hg : o.guard = none) (m x v : Operand) (hop : o.op = Op.mapUpdate 59 m x v ∨ o.op = Op.insert 59 m x v)
    {b : Nat} {S : List Int} {k : Int} (hS : Try.SetIs w b S) (hm : a.eval m = .map (some b)) (hx : a.eval x = .int .i64 k) (hv : a.eval v = .bool true) (hk : Try.okI k) (hn : S.length < 9223372036854775807)
    (hK : ∀ w', Try.SetIs w' b (Lang.ins S k) → w.grownBy w' (some b) → wpList Try.prog ops Q rest (a.put o.dst undef) w') : wpList Try.prog ops Q (o :: rest) a w := by
  refine wpList_plain hg fun K' hK' => ?_
  obtain ⟨w', hrun, r1, r2⟩ := hS.put hk hn
  unfold Oper.wp
  rcases hop with hop | hop
  all_goals
    simp [execOp, hop, hm, hx, hv, hrun, Result.andThen]
    exact hK' _ _ (hK w' r1 r2)
theorem plainElem_bool_inv {H : Type} {P : Program} {e : TypeId} (he : P.underlying e = some .bool) {v : Value} {z : DataW H × List MemPlace} (h : plainElem P e v = some z) : ∃ c, v = .bool c := by
  unfold plainElem at h
  rw [he] at h
  cases v <;> simp at h
  exact ⟨_, rfl⟩
theorem Try.bool_inv {v : Value} {y : DataW Unit × List MemPlace} (h : Try.RB v = some y) : ∃ c, v = .bool c := plainElem_bool_inv Try.underlying4 h
def Try.SetGoes (w : World) (b r : Nat) (S todo : List Int) : Prop :=
  S.Nodup ∧ (∀ x ∈ S, Try.okI x) ∧ todo.Nodup ∧ (∀ x ∈ todo, x ∈ S) ∧ ∃ (D : DataW Unit) (left : Lit → Bool) (cnt : Nat), w.ranges Try.prog 3 Try.RB b r S.length D left cnt ∧ (∀ x, Maps.has D (.int .i64 x) = true ↔ x ∈ S) ∧ ∀ x, left (.int .i64 x) = true ↔ x ∈ todo
theorem Try.SetGoes.is {w : World} {b r : Nat} {S todo : List Int} (h : Try.SetGoes w b r S todo) : Try.SetIs w b S := by
  obtain ⟨h1, h2, _, _, D, left, cnt, hr, h3, _⟩ := h
  exact ⟨h1, h2, D, hr.owns, h3⟩
theorem Try.SetGoes.lt {w : World} {b r : Nat} {S todo : List Int} (h : Try.SetGoes w b r S todo) : r < w.heap.size := by
  obtain ⟨h1, h2, _, _, D, left, cnt, hr, h3, _⟩ := h
  exact hr.lt
theorem Try.SetGoes.kept {w w' : World} {b r : Nat} {S todo : List Int} (h : Try.SetGoes w b r S todo) {row : Option Nat} (hg : w.grownBy w' row) (hb : some b ≠ row) (hr : some r ≠ row) : Try.SetGoes w' b r S todo := by
  obtain ⟨h1, h2, h3, h4, D, left, cnt, hrg, h5⟩ := h
  exact ⟨h1, h2, h3, h4, D, left, cnt, hrg.kept hg hb hr, h5⟩
theorem Try.wp_range {w : World} {ops : Array Oper} {rest : List Oper} {o : Oper} {a : Act} {Q : Exit → Act → World → Prop} (hg : o.guard = none) (m : Operand) (hop : o.op = Op.range 59 m) {b : Nat} {S : List Int} (hS : Try.SetIs w b S) (hm : a.eval m = .map (some b))
    (hK : ∀ w', Try.SetGoes w' b w.heap.size S S → w.grownBy w' none → w'.heap.size = w.heap.size + 1 → wpList Try.prog ops Q rest (a.put o.dst (.pointer (some ⟨w.heap.size, 0, none⟩))) w') : wpList Try.prog ops Q (o :: rest) a w := by
  obtain ⟨h1, h2, D, hD, h3⟩ := hS
  exact wpList_range_own w hg m 59 hop 3 4 Try.keyInt Try.underlying59 Try.RB b S.length D hm hD fun w' hr hg' hs => hK w' ⟨h1, h2, h1, fun _ h => h, D, _, _, hr, h3, h3⟩ hg' hs
theorem Try.wp_next {w : World} {ops : Array Oper} {rest : List Oper} {o : Oper} {a : Act} {Q : Exit → Act → World → Prop} (hg : o.guard = none) (it : Operand) (hop : o.op = Op.next it false) {b r : Nat} {S todo : List Int} (hS : Try.SetGoes w b r S todo) (hit : a.eval it = .pointer (some ⟨r, 0, none⟩))
    (hDone : todo = [] → wpList Try.prog ops Q rest (a.put o.dst (.tuple #[.bool false])) w)
    (hMore : ∀ (x : Int) (c : Value) (w' : World), x ∈ todo → Try.okI x → Try.SetGoes w' b r S (todo.erase x) → w.grownBy w' (some r) → w'.heap.size = w.heap.size → (Instr.entry (.pointer (some ⟨r, 0, none⟩))).run Try.prog w' = .ok (.tuple #[.int .i64 x, c]) w' → wpList Try.prog ops Q rest (a.put o.dst (.tuple #[.bool true, .int .i64 x, c])) w') :
    wpList Try.prog ops Q (o :: rest) a w := by
  obtain ⟨h1, h2, ht, hts, D, left, cnt, hr, h3, h4⟩ := hS
  refine wpList_next_ranges w hg it hop 3 Try.keyInt Try.RB (Value.int .i64) Value.bool (fun key kl hk => by obtain ⟨x, rfl, _⟩ := Maps.keyOf_int_inv Try.underlying3 hk; exact ⟨x, rfl⟩) (fun v y hv => Try.bool_inv hv) b r S.length D left cnt hit hr
    (fun _ hl => hDone (List.eq_nil_iff_forall_not_mem.2 fun x hx => by have := (h4 x).2 hx; rw [hl] at this; cases this)) ?_
  intro x c kl y w' cnt' hkey hlk hv hat hrg hlt hgr hsz hen
  obtain ⟨x', e, rfl, hwf⟩ := Maps.keyOf_int_inv Try.underlying3 hkey
  cases e
  have hx : x ∈ todo := (h4 x).1 hlk
  refine hMore x (.bool c) w' hx hwf ⟨h1, h2, ht.erase x, fun y hy => hts y (List.mem_of_mem_erase hy), D, _, cnt', hrg, h3, fun z => ?_⟩ hgr hsz hen
  rw [ht.mem_erase_iff, Bool.and_eq_true, h4]
  have : ((Lit.int .i64 z).sameKey (.int .i64 x) = false) ↔ z ≠ x := by
    constructor
    · intro h e; subst e; simp [Lit.sameKey] at h
    · intro h; simp [Lit.sameKey, h]
  rw [Bool.not_eq_true', this]
  exact And.comm
end Go.Proofs

namespace Go.Proofs
open Go.Shelf
def Try.lContainsFunc_ren : Go.Shelf.Ren := ⟨fun | 17 => 48 | 15 => 66 | 20 => 75 | n => n, fun | 9 => 9 | 23 => 88 | 4 => 4 | 3 => 3 | 0 => 0 | 21 => 21 | n => n, fun | n => n⟩
theorem Try.lContainsFunc : Go.Proofs.LaysGw.n17 Try.prog Try.lContainsFunc_ren := {
  mixed := by kernel_rfl
  f15 := Try.func66.trans (congrArg some (by kernel_rfl))
  f17 := Try.func48.trans (congrArg some (by kernel_rfl))
  f20 := Try.func75.trans (congrArg some (by kernel_rfl))
  t0 := Try.underlying0
  a0 := Try.isAgg0
  z0 := Try.sizeOf0
  v0 := Try.zeroValue0
  i0 := by kernel_rfl
  t3 := Try.underlying3
  a3 := Try.isAgg3
  z3 := Try.sizeOf3
  v3 := Try.zeroValue3
  i3 := by kernel_rfl
  t4 := Try.underlying4
  a4 := Try.isAgg4
  z4 := Try.sizeOf4
  v4 := Try.zeroValue4
  i4 := by kernel_rfl
  t9 := Try.underlying9
  a9 := Try.isAgg9
  z9 := Try.sizeOf9
  v9 := Try.zeroValue9
  i9 := by kernel_rfl
  t21 := Try.underlying21
  a21 := Try.isAgg21
  z21 := Try.sizeOf21
  v21 := Try.zeroValue21
  i21 := by kernel_rfl
  t23 := Try.underlying88
  a23 := Try.isAgg88
  z23 := Try.sizeOf88
  v23 := Try.zeroValue88
  i23 := by kernel_rfl }
def Try.lCloneInt_ren : Go.Shelf.Ren := ⟨fun | 41 => 43 | n => n, fun | 22 => 30 | 23 => 3 | 4 => 4 | n => n, fun | n => n⟩
theorem Try.lCloneInt : Go.Proofs.SlLaysE0.n41 Try.prog Try.lCloneInt_ren := {
  mixed := by kernel_rfl
  f41 := ⟨Try.f43.name, by decide, Try.func43.trans (congrArg some (by kernel_rfl))⟩
  t4 := Try.underlying4
  a4 := Try.isAgg4
  z4 := Try.sizeOf4
  v4 := Try.zeroValue4
  t22 := Try.underlying30
  a22 := Try.isAgg30
  z22 := Try.sizeOf30
  v22 := Try.zeroValue30 }
def Try.lDeleteInt_ren : Go.Shelf.Ren := ⟨fun | 10 => 42 | 6 => 61 | n => n, fun | 22 => 30 | 23 => 3 | 25 => 85 | 3 => 3 | 4 => 4 | 0 => 0 | n => n, fun | n => n⟩
theorem Try.lDeleteInt : Go.Proofs.SlLaysH.n10 Try.prog Try.lDeleteInt_ren := {
  mixed := by kernel_rfl
  f6 := ⟨Try.f61.name, by decide, Try.func61.trans (congrArg some (by kernel_rfl))⟩
  f10 := ⟨Try.f42.name, by decide, Try.func42.trans (congrArg some (by kernel_rfl))⟩
  t0 := Try.underlying0
  a0 := Try.isAgg0
  z0 := Try.sizeOf0
  v0 := Try.zeroValue0
  t3 := Try.underlying3
  a3 := Try.isAgg3
  z3 := Try.sizeOf3
  v3 := Try.zeroValue3
  t4 := Try.underlying4
  a4 := Try.isAgg4
  z4 := Try.sizeOf4
  v4 := Try.zeroValue4
  t22 := Try.underlying30
  a22 := Try.isAgg30
  z22 := Try.sizeOf30
  v22 := Try.zeroValue30
  a23 := Try.isAgg3
  z23 := Try.sizeOf3
  t25 := Try.underlying85
  a25 := Try.isAgg85
  z25 := Try.sizeOf85
  v25 := Try.zeroValue85 }
def Try.lClone_ren : Go.Shelf.Ren := ⟨fun | 5 => 69 | 7 => 76 | n => n, fun | 23 => 59 | 25 => 3 | 3 => 4 | 4 => 4 | 20 => 20 | n => n, fun | n => n⟩
theorem Try.lClone : Go.Proofs.SlLaysW.n5 Try.prog Try.lClone_ren := {
  mixed := by kernel_rfl
  f5 := ⟨Try.f69.name, by decide, Try.func69.trans (congrArg some (by kernel_rfl))⟩
  f7 := Try.func76.trans (congrArg some (by kernel_rfl))
  t4 := Try.underlying4
  a4 := Try.isAgg4
  z4 := Try.sizeOf4
  v4 := Try.zeroValue4
  t20 := Try.underlying20
  a20 := Try.isAgg20
  z20 := Try.sizeOf20
  v20 := Try.zeroValue20
  t23 := Try.underlying59
  a23 := Try.isAgg59
  z23 := Try.sizeOf59
  v23 := Try.zeroValue59 }
def Try.lCopy_ren : Go.Shelf.Ren := ⟨fun | 5 => 70 | n => n, fun | 23 => 59 | 24 => 59 | 26 => 3 | 27 => 4 | 0 => 0 | 4 => 4 | n => n, fun | n => n⟩
theorem Try.lCopy : Go.Proofs.SlLaysX.n5 Try.prog Try.lCopy_ren := {
  mixed := by kernel_rfl
  f5 := ⟨Try.f70.name, by decide, Try.func70.trans (congrArg some (by kernel_rfl))⟩
  t0 := Try.underlying0
  a0 := Try.isAgg0
  z0 := Try.sizeOf0
  v0 := Try.zeroValue0
  t4 := Try.underlying4
  a4 := Try.isAgg4
  z4 := Try.sizeOf4
  v4 := Try.zeroValue4
  t23 := Try.underlying59
  a23 := Try.isAgg59
  z23 := Try.sizeOf59
  v23 := Try.zeroValue59
  t24 := Try.underlying59
  a24 := Try.isAgg59
  z24 := Try.sizeOf59
  v24 := Try.zeroValue59
  a26 := Try.isAgg3
  z26 := Try.sizeOf3
  a27 := Try.isAgg4
  z27 := Try.sizeOf4 }
def Try.lKeys_ren : Go.Shelf.Ren := ⟨fun | 7 => 41 | 10 => 60 | n => n, fun | 23 => 59 | 26 => 3 | 3 => 4 | 28 => 81 | 0 => 0 | 27 => 80 | 33 => 85 | 4 => 4 | n => n, fun | n => n⟩
theorem Try.lKeys : Go.Proofs.SlLaysZI.n7 Try.prog Try.lKeys_ren := {
  mixed := by kernel_rfl
  f7 := ⟨Try.f41.name, by decide, Try.func41.trans (congrArg some (by kernel_rfl))⟩
  f10 := ⟨Try.f60.name, by decide, Try.func60.trans (congrArg some (by kernel_rfl))⟩
  t0 := Try.underlying0
  a0 := Try.isAgg0
  z0 := Try.sizeOf0
  v0 := Try.zeroValue0
  t4 := Try.underlying4
  a4 := Try.isAgg4
  z4 := Try.sizeOf4
  v4 := Try.zeroValue4
  t23 := Try.underlying59
  a23 := Try.isAgg59
  z23 := Try.sizeOf59
  v23 := Try.zeroValue59
  t26 := Try.underlying3
  a26 := Try.isAgg3
  z26 := Try.sizeOf3
  v26 := Try.zeroValue3
  t27 := Try.underlying80
  a27 := Try.isAgg80
  z27 := Try.sizeOf80
  v27 := Try.zeroValue80
  t28 := Try.underlying81
  a28 := Try.isAgg81
  z28 := Try.sizeOf81
  v28 := Try.zeroValue81
  t33 := Try.underlying85
  a33 := Try.isAgg85
  z33 := Try.sizeOf85
  v33 := Try.zeroValue85 }
def Try.lSorted_ren : Go.Shelf.Ren := ⟨fun | 6 => 40 | 8 => 58 | 9 => 59 | 11 => 71 | 13 => 73 | 12 => 72 | 23 => 86 | 24 => 87 | 14 => 77 | 15 => 78 | 16 => 79 | 17 => 80 | 18 => 81 | 19 => 82 | 20 => 83 | 21 => 84 | 22 => 85 | 25 => 88 | 26 => 89 | 27 => 90 | 28 => 91 | 29 => 92 | 30 => 93 | 31 => 94 | n => n, fun | 26 => 3 | 28 => 81 | 24 => 30 | 0 => 0 | 3 => 3 | 37 => 110 | 48 => 124 | 50 => 126 | 4 => 4 | 40 => 116 | 39 => 115 | 45 => 121 | 5 => 5 | 9 => 9 | 51 => 127 | 55 => 77 | 57 => 132 | 58 => 94 | 33 => 85 | n => n, fun | n => n⟩
theorem Try.lSorted : Go.Proofs.SlLaysZI.n6 Try.prog Try.lSorted_ren := {
  mixed := by kernel_rfl
  f6 := ⟨Try.f40.name, by decide, Try.func40.trans (congrArg some (by kernel_rfl))⟩
  f8 := ⟨Try.f58.name, by decide, Try.func58.trans (congrArg some (by kernel_rfl))⟩
  f11 := ⟨Try.f71.name, by decide, Try.func71.trans (congrArg some (by kernel_rfl))⟩
  t0 := Try.underlying0
  a0 := Try.isAgg0
  z0 := Try.sizeOf0
  v0 := Try.zeroValue0
  t24 := Try.underlying30
  a24 := Try.isAgg30
  z24 := Try.sizeOf30
  v24 := Try.zeroValue30
  t26 := Try.underlying3
  a26 := Try.isAgg3
  z26 := Try.sizeOf3
  v26 := Try.zeroValue3
  t28 := Try.underlying81
  a28 := Try.isAgg81
  z28 := Try.sizeOf81
  v28 := Try.zeroValue81
  i26 := by kernel_rfl }
def Try.lSort_ren : Go.Shelf.Ren := ⟨fun | 5 => 59 | 8 => 73 | 7 => 72 | 19 => 86 | 20 => 87 | 10 => 77 | 11 => 78 | 12 => 79 | 13 => 80 | 14 => 81 | 15 => 82 | 16 => 83 | 17 => 84 | 18 => 85 | 30 => 88 | 31 => 89 | 32 => 90 | 33 => 91 | 34 => 92 | 35 => 93 | 40 => 94 | n => n, fun | 23 => 30 | 25 => 3 | 3 => 3 | 32 => 110 | 22 => 30 | 0 => 0 | 44 => 124 | 46 => 126 | 4 => 4 | 36 => 116 | 35 => 115 | 41 => 121 | 5 => 5 | 9 => 9 | 53 => 127 | 57 => 77 | 63 => 132 | 64 => 94 | n => n, fun | n => n⟩
theorem Try.lSort : Go.Proofs.SlLaysM.n5 Try.prog Try.lSort_ren := {
  mixed := by kernel_rfl
  f5 := ⟨Try.f59.name, by decide, Try.func59.trans (congrArg some (by kernel_rfl))⟩
  f7 := ⟨Try.f72.name, by decide, Try.func72.trans (congrArg some (by kernel_rfl))⟩
  f8 := Try.func73.trans (congrArg some (by kernel_rfl))
  f10 := ⟨Try.f77.name, by decide, Try.func77.trans (congrArg some (by kernel_rfl))⟩
  f11 := ⟨Try.f78.name, by decide, Try.func78.trans (congrArg some (by kernel_rfl))⟩
  f12 := ⟨Try.f79.name, by decide, Try.func79.trans (congrArg some (by kernel_rfl))⟩
  f13 := ⟨Try.f80.name, by decide, Try.func80.trans (congrArg some (by kernel_rfl))⟩
  f14 := ⟨Try.f81.name, by decide, Try.func81.trans (congrArg some (by kernel_rfl))⟩
  f15 := ⟨Try.f82.name, by decide, Try.func82.trans (congrArg some (by kernel_rfl))⟩
  f16 := ⟨Try.f83.name, by decide, Try.func83.trans (congrArg some (by kernel_rfl))⟩
  f17 := ⟨Try.f84.name, by decide, Try.func84.trans (congrArg some (by kernel_rfl))⟩
  f18 := ⟨Try.f85.name, by decide, Try.func85.trans (congrArg some (by kernel_rfl))⟩
  f19 := Try.func86.trans (congrArg some (by kernel_rfl))
  f20 := Try.func87.trans (congrArg some (by kernel_rfl))
  f30 := ⟨Try.f88.name, by decide, Try.func88.trans (congrArg some (by kernel_rfl))⟩
  f31 := Try.func89.trans (congrArg some (by kernel_rfl))
  f32 := Try.func90.trans (congrArg some (by kernel_rfl))
  f33 := ⟨Try.f91.name, by decide, Try.func91.trans (congrArg some (by kernel_rfl))⟩
  f34 := ⟨Try.f92.name, by decide, Try.func92.trans (congrArg some (by kernel_rfl))⟩
  f35 := ⟨Try.f93.name, by decide, Try.func93.trans (congrArg some (by kernel_rfl))⟩
  f40 := ⟨Try.f94.name, by decide, Try.func94.trans (congrArg some (by kernel_rfl))⟩
  t0 := Try.underlying0
  a0 := Try.isAgg0
  z0 := Try.sizeOf0
  v0 := Try.zeroValue0
  t3 := Try.underlying3
  a3 := Try.isAgg3
  z3 := Try.sizeOf3
  v3 := Try.zeroValue3
  t4 := Try.underlying4
  a4 := Try.isAgg4
  z4 := Try.sizeOf4
  v4 := Try.zeroValue4
  t5 := Try.underlying5
  a5 := Try.isAgg5
  z5 := Try.sizeOf5
  v5 := Try.zeroValue5
  t9 := Try.underlying9
  a9 := Try.isAgg9
  z9 := Try.sizeOf9
  v9 := Try.zeroValue9
  t22 := Try.underlying30
  a22 := Try.isAgg30
  z22 := Try.sizeOf30
  v22 := Try.zeroValue30
  t23 := Try.underlying30
  a23 := Try.isAgg30
  z23 := Try.sizeOf30
  v23 := Try.zeroValue30
  t25 := Try.underlying3
  a25 := Try.isAgg3
  z25 := Try.sizeOf3
  v25 := Try.zeroValue3
  t32 := Try.underlying110
  a32 := Try.isAgg110
  z32 := Try.sizeOf110
  v32 := Try.zeroValue110
  t35 := Try.underlying115
  a35 := Try.isAgg115
  z35 := Try.sizeOf115
  v35 := Try.zeroValue115
  t36 := Try.underlying116
  a36 := Try.isAgg116
  z36 := Try.sizeOf116
  v36 := Try.zeroValue116
  t41 := Try.underlying121
  a41 := Try.isAgg121
  z41 := Try.sizeOf121
  v41 := Try.zeroValue121
  t44 := Try.underlying124
  a44 := Try.isAgg124
  z44 := Try.sizeOf124
  v44 := Try.zeroValue124
  t46 := Try.underlying126
  a46 := Try.isAgg126
  z46 := Try.sizeOf126
  v46 := Try.zeroValue126
  t53 := Try.underlying127
  a53 := Try.isAgg127
  z53 := Try.sizeOf127
  v53 := Try.zeroValue127
  t57 := Try.underlying77
  a57 := Try.isAgg77
  z57 := Try.sizeOf77
  v57 := Try.zeroValue77
  t63 := Try.underlying132
  a63 := Try.isAgg132
  z63 := Try.sizeOf132
  v63 := Try.zeroValue132
  t64 := Try.underlying94
  a64 := Try.isAgg94
  z64 := Try.sizeOf94
  v64 := Try.zeroValue94 }
end Go.Proofs



namespace Go.Proofs.Lang
def goodN (n : Nat) : Bool := decide (97 ≤ n ∧ n ≤ 122) || decide (48 ≤ n ∧ n ≤ 57) || decide (n = 45) || decide (n = 58)
def isWord (s : ByteArray) : Bool := decide (1 ≤ s.size ∧ s.size ≤ 16) && s.data.toList.all (fun c => goodN c.toNat)
structure Auto where
  words : List ByteArray
  first : List Int
  last : List Int
  follow : List (List Int)
  empty : Bool
def rises : Int → List Int → Int → Bool
  | _, [], _ => true
  | p, k :: l, n => if p < k then (if k < n then rises k l n else false) else false
def may (a : Auto) : Bool :=
  decide (a.words.length ≤ 24) && decide (a.follow.length = a.words.length) && rises (-1) a.first a.words.length && rises (-1) a.last a.words.length && a.words.all isWord && a.follow.all (fun l => rises (-1) l a.words.length)
def there (a : Auto) (at_ : Int) : Bool := may a && decide (-1 ≤ at_) && decide (at_ < a.words.length)
def behind (a : Auto) (at_ : Int) : List Int := if 0 ≤ at_ then a.follow.getD at_.toNat [] else a.first
def next (a : Auto) (at_ : Int) (w : ByteArray) : List Int :=
  if there a at_ then (behind a at_).filter (fun k => decide (a.words.getD k.toNat ByteArray.empty = w)) else []
def ends (a : Auto) (at_ : Int) : Bool := there a at_ && ((decide (at_ < 0) && a.empty) || decide (at_ ∈ a.last))
def step (a : Auto) (S : List Int) (w : ByteArray) : List Int := S.flatMap fun k => next a k w
def run (a : Auto) (l : List ByteArray) (S : List Int) : List Int := l.foldl (step a) S
def accepts (a : Auto) (l : List ByteArray) : Bool := (run a l [-1]).any (ends a)
end Go.Proofs.Lang

namespace Go.Proofs
open Go.Shelf Go.RowKit Go.Lib
theorem Try.odd_rune (w : World) : PredAt Try.prog 47 #[] encR (fun r => !Lang.goodN r) w := fun W r _ => by
  unfold FnGives
  go_enter Try.func47, Try.ntmps47
  go_wp2
  all_goals
    go_ret
    refine ⟨congrArg (fun b => Ending.returned (Value.bool b)) ?_, 0, rfl⟩
    rw [Bool.eq_iff_iff]
    simp [Lang.goodN]
    omega
theorem Try.idx_good (s : ByteArray) : ∀ f pos, s.size ≤ pos + f → (0 ≤ Lib.idxFuncFrom (fun r => !Lang.goodN r) true s f pos ↔ ¬ ∀ c ∈ s.data.toList.drop pos, Lang.goodN c.toNat = true)
  | 0, pos, h => by
    have e : s.data.toList.drop pos = [] := List.drop_eq_nil_of_le (by simpa using h)
    rw [e]; simp [Lib.idxFuncFrom]
  | f + 1, pos, h => by
    unfold Lib.idxFuncFrom
    by_cases hp : pos < s.size
    · have hl : pos < s.data.toList.length := by simpa using hp
      rw [if_pos hp, List.drop_eq_getElem_cons hl]
      have hc : s.data.toList[pos] = s[pos] := rfl
      rw [hc]
      by_cases ha : (s[pos]).toNat < 128
      · have hd := decode_ascii s pos hp ha
        rw [hd]
        by_cases hg : Lang.goodN (s[pos]).toNat = true
        · rw [if_neg (by simp [hg]), Try.idx_good s f (pos + 1) (by omega)]
          simp [hg]
        · rw [if_pos (by simp [hg])]
          simp [hg]
          try omega
      · have hd := (decode_high s pos hp (by omega)).1
        have hg : Lang.goodN (Utf8.decode s pos).1 = false := by simp [Lang.goodN]; omega
        have hg' : Lang.goodN (s[pos]).toNat = false := by simp [Lang.goodN]; omega
        rw [if_pos (by simp [hg])]
        simp [hg']
        try omega
    · have e : s.data.toList.drop pos = [] := List.drop_eq_nil_of_le (by simpa using hp)
      rw [if_neg hp, e]; simp
theorem Try.has_good (s : ByteArray) : decide (0 ≤ Lib.idxFunc (fun r => !Lang.goodN r) true s) = !s.data.toList.all (fun c => Lang.goodN c.toNat) := by
  have h := Try.idx_good s s.size 0 (by omega)
  rw [List.drop_zero] at h
  rw [Bool.eq_iff_iff, decide_eq_true_iff, Bool.not_eq_true', ← Bool.not_eq_true, List.all_eq_true]
  exact h
set_option maxHeartbeats 1000000 in
theorem Try.is_calls (s : ByteArray) (w : World) :
    Calls Try.prog 28 #[.string s] w fun e w' => e = .returned (.bool (Lang.isWord s)) ∧ Below w.heap.size w w' := by
  have hC := Any.strings_ContainsFunc Try.lContainsFunc 47 #[] (enters_of Try.func47 (by kernel_rfl) rfl) _ s w (Try.odd_rune w)
  change Calls Try.prog 48 _ _ _ at hC
  rw [Try.has_good] at hC
  have hz : s.size = s.toList.length := by rw [ByteArray.toList_eq]; simp
  obtain ⟨G, hG⟩ : ∃ G, s.data.toList.all (fun c => Lang.goodN c.toNat) = G := ⟨_, rfl⟩
  have hI : Lang.isWord s = (decide (1 ≤ s.size ∧ s.size ≤ 16) && G) := by rw [← hG]; rfl
  rw [hG] at hC
  by_cases h0 : s.size = 0
  · have e0 : s.toList = [] := List.eq_nil_of_length_eq_zero (by omega)
    have hI' : Lang.isWord s = false := by rw [hI]; simp [h0]
    rw [hI']
    clear hC hI hI' hz hG
    go_enter Try.func28, Try.ntmps28
    go_wp2
    go_ret
    exact ⟨rfl, Below.refl _ _⟩
  · have e0 : s.toList.isEmpty = false := by
      cases e : s.toList with
      | nil => exact absurd (by rw [hz, e]; rfl) h0
      | cons a l => rfl
    by_cases h1 : s.size ≤ 16
    · have hI' : Lang.isWord s = G := by rw [hI, decide_eq_true (show 1 ≤ s.size ∧ s.size ≤ 16 by omega), Bool.true_and]
      rw [hI']
      have h1' : decide ((s.size : Int) ≤ 16) = true := decide_eq_true (by omega)
      clear hI hI' hz hG h0 h1
      go_enter Try.func28, Try.ntmps28
      go_wp2_with (go_at_call 48; refine hC.mono ?_; rintro e w' ⟨rfl, hb⟩)
      go_ret
      exact ⟨by simp, by assumption⟩
    · have hI' : Lang.isWord s = false := by rw [hI, decide_eq_false (show ¬ (1 ≤ s.size ∧ s.size ≤ 16) by omega), Bool.false_and]
      rw [hI']
      have h1' : decide ((s.size : Int) ≤ 16) = false := decide_eq_false (by omega)
      clear hI hI' hz hG h0 h1 hC
      go_enter Try.func28, Try.ntmps28
      go_wp2
      go_ret
      exact ⟨rfl, Below.refl _ _⟩
end Go.Proofs

namespace Go.Proofs
open Go.RowKit Go.Proofs.YtjobnfbianlpnaaW.PrintWords Go.Proofs.YtjobnfbianlpnaaW.PrintLast
def Try.IdxPost (n : Nat) (Inv Stop : Nat → World → Prop) (e : Ending) (w : World) : Prop :=
  (∃ i : Nat, i < n ∧ e = .returned (.int .i64 i) ∧ Stop i w) ∨ (e = .returned (.int .i64 (-1)) ∧ Inv n w)
def Try.HasPost (n : Nat) (Inv Stop : Nat → World → Prop) (e : Ending) (w : World) : Prop :=
  (∃ i : Nat, i < n ∧ e = .returned (.bool true) ∧ Stop i w) ∨ (e = .returned (.bool false) ∧ Inv n w)
def Try.StepPost (i : Nat) (Inv Stop : Nat → World → Prop) (e : Ending) (w : World) : Prop :=
  (e = .returned (.bool true) ∧ Stop i w) ∨ (e = .returned (.bool false) ∧ Inv (i + 1) w)
set_option maxHeartbeats 1000000 in
theorem Try.indexFunc_string (g : Nat) (lb : Array Value) (eg : ∀ args w, (callFunc g args).run Try.prog w = .ok (.enter g args) w) (A : Option Addr) (n c : Nat) (w : World) (hn : n ≤ maxLen)
    (Inv Stop : Nat → World → Prop) (x : Nat → ByteArray)
    (hread : ∀ i W, i < n → Inv i W → ∃ ad, A = some ad ∧ W.cell? (ad.add i) = some (.string (x i)))
    (hstep : ∀ i W, i < n → Inv i W → Calls Try.prog g (#[.string (x i)] ++ lb) W (Try.StepPost i Inv Stop)) (h0 : Inv 0 w) :
    Calls Try.prog 50 #[.slice A n c, .func (.func g) #[] lb] w (Try.IdxPost n Inv Stop) := by
  unfold maxLen at hn
  have HI := Aside0.mk h0
  go_enter Try.func50, Try.ntmps50
  go_wp2
  go_loopg [8] n (fun kq v8 W => ∃ i : Nat, v8 = .int .i64 (i : Int) ∧ i + kq = n ∧ Aside0 (Inv i W))
  case atStart => exact ⟨0, rfl, by omega, HI⟩
  case round =>
    clear HI
    obtain ⟨i, rfl, hik, hI⟩ := hrel
    have HIK := Aside0.mk hik
    by_cases hlt : i < n
    · obtain ⟨ad, rfl, hcell⟩ := hread i _ hlt hI.out
      have hc := hstep i _ hlt hI.out
      have hle : i ≤ 9223372036854775806 := by omega
      clear hik h0 hread hstep
      go_wp2_with fail
      refine hc.mono ?_
      rintro e W1 h
      rcases h with ⟨rfl, hs⟩ | ⟨rfl, hi⟩
      · have HS := Aside0.mk hs
        clear hs hc hcell hI
        go_wp2
        go_ret
        exact .inl ⟨i, hlt, rfl, HS.out⟩
      · have HS := Aside0.mk hi
        clear hi hc hcell hI
        go_wp2
        go_roundg (gk - 1)
        case measure => have := HIK.out; omega
        case rel => exact ⟨i + 1, by go_num, by have := HIK.out; omega, HS⟩
    · have e : i = n := by omega
      subst e
      clear hik h0 hread hstep
      go_wp2
      go_ret
      exact .inr ⟨rfl, hI.out⟩
set_option maxHeartbeats 1000000 in
theorem Try.containsFunc_string (g : Nat) (lb : Array Value) (eg : ∀ args w, (callFunc g args).run Try.prog w = .ok (.enter g args) w) (A : Option Addr) (n c : Nat) (w : World) (hn : n ≤ maxLen)
    (Inv Stop : Nat → World → Prop) (x : Nat → ByteArray)
    (hread : ∀ i W, i < n → Inv i W → ∃ ad, A = some ad ∧ W.cell? (ad.add i) = some (.string (x i)))
    (hstep : ∀ i W, i < n → Inv i W → Calls Try.prog g (#[.string (x i)] ++ lb) W (Try.StepPost i Inv Stop)) (h0 : Inv 0 w) :
    Calls Try.prog 31 #[.slice A n c, .func (.func g) #[] lb] w (Try.HasPost n Inv Stop) := by
  have hc := Try.indexFunc_string g lb eg A n c w hn Inv Stop x hread hstep h0
  clear hread hstep h0
  go_enter Try.func31, Try.ntmps31
  go_wp2_with fail
  refine hc.mono ?_
  rintro e W1 h
  rcases h with ⟨i, hi, rfl, hs⟩ | ⟨rfl, hi⟩
  · have HS := Aside0.mk hs
    have h0 : decide ((i : Int) ≥ 0) = true := decide_eq_true (by omega)
    clear hs hc
    go_wp2
    go_ret
    exact .inl ⟨i, hi, rfl, HS.out⟩
  · have HS := Aside0.mk hi
    clear hi hc
    go_wp2
    go_ret
    exact .inr ⟨rfl, HS.out⟩
set_option maxHeartbeats 1000000 in
theorem Try.indexFunc_ints (g : Nat) (lb : Array Value) (eg : ∀ args w, (callFunc g args).run Try.prog w = .ok (.enter g args) w) (A : Option Addr) (n c : Nat) (w : World) (hn : n ≤ maxLen)
    (Inv Stop : Nat → World → Prop) (x : Nat → Option Addr) (xn xc : Nat → Nat)
    (hread : ∀ i W, i < n → Inv i W → ∃ ad, A = some ad ∧ W.cell? (ad.add i) = some (.slice (x i) (xn i) (xc i)))
    (hstep : ∀ i W, i < n → Inv i W → Calls Try.prog g (#[.slice (x i) (xn i) (xc i)] ++ lb) W (Try.StepPost i Inv Stop)) (h0 : Inv 0 w) :
    Calls Try.prog 74 #[.slice A n c, .func (.func g) #[] lb] w (Try.IdxPost n Inv Stop) := by
  unfold maxLen at hn
  have HI := Aside0.mk h0
  go_enter Try.func74, Try.ntmps74
  go_wp2
  go_loopg [8] n (fun kq v8 W => ∃ i : Nat, v8 = .int .i64 (i : Int) ∧ i + kq = n ∧ Aside0 (Inv i W))
  case atStart => exact ⟨0, rfl, by omega, HI⟩
  case round =>
    clear HI
    obtain ⟨i, rfl, hik, hI⟩ := hrel
    have HIK := Aside0.mk hik
    by_cases hlt : i < n
    · obtain ⟨ad, rfl, hcell⟩ := hread i _ hlt hI.out
      have hc := hstep i _ hlt hI.out
      have hle : i ≤ 9223372036854775806 := by omega
      clear hik h0 hread hstep
      go_wp2_with fail
      refine hc.mono ?_
      rintro e W1 h
      rcases h with ⟨rfl, hs⟩ | ⟨rfl, hi⟩
      · have HS := Aside0.mk hs
        clear hs hc hcell hI
        go_wp2
        go_ret
        exact .inl ⟨i, hlt, rfl, HS.out⟩
      · have HS := Aside0.mk hi
        clear hi hc hcell hI
        go_wp2
        go_roundg (gk - 1)
        case measure => have := HIK.out; omega
        case rel => exact ⟨i + 1, by go_num, by have := HIK.out; omega, HS⟩
    · have e : i = n := by omega
      subst e
      clear hik h0 hread hstep
      go_wp2
      go_ret
      exact .inr ⟨rfl, hI.out⟩
set_option maxHeartbeats 1000000 in
theorem Try.containsFunc_ints (g : Nat) (lb : Array Value) (eg : ∀ args w, (callFunc g args).run Try.prog w = .ok (.enter g args) w) (A : Option Addr) (n c : Nat) (w : World) (hn : n ≤ maxLen)
    (Inv Stop : Nat → World → Prop) (x : Nat → Option Addr) (xn xc : Nat → Nat)
    (hread : ∀ i W, i < n → Inv i W → ∃ ad, A = some ad ∧ W.cell? (ad.add i) = some (.slice (x i) (xn i) (xc i)))
    (hstep : ∀ i W, i < n → Inv i W → Calls Try.prog g (#[.slice (x i) (xn i) (xc i)] ++ lb) W (Try.StepPost i Inv Stop)) (h0 : Inv 0 w) :
    Calls Try.prog 65 #[.slice A n c, .func (.func g) #[] lb] w (Try.HasPost n Inv Stop) := by
  have hc := Try.indexFunc_ints g lb eg A n c w hn Inv Stop x xn xc hread hstep h0
  clear hread hstep h0
  go_enter Try.func65, Try.ntmps65
  go_wp2_with fail
  refine hc.mono ?_
  rintro e W1 h
  rcases h with ⟨i, hi, rfl, hs⟩ | ⟨rfl, hi⟩
  · have HS := Aside0.mk hs
    have h0 : decide ((i : Int) ≥ 0) = true := decide_eq_true (by omega)
    clear hs hc
    go_wp2
    go_ret
    exact .inl ⟨i, hi, rfl, HS.out⟩
  · have HS := Aside0.mk hi
    clear hi hc
    go_wp2
    go_ret
    exact .inr ⟨rfl, HS.out⟩
set_option maxHeartbeats 1000000 in
theorem Try.indexFunc_path (g : Nat) (lb : Array Value) (eg : ∀ args w, (callFunc g args).run Try.prog w = .ok (.enter g args) w) (A : Option Addr) (n c : Nat) (w : World) (hn : n ≤ maxLen)
    (Inv Stop : Nat → World → Prop) (x1 : Nat → Int) (x2 : Nat → ByteArray) (x : Nat → Option Addr) (xn xc : Nat → Nat)
    (hread : ∀ i W, i < n → Inv i W → ∃ ad, A = some ad ∧ W.cell? (ad.add (i * 3)) = some (.int .i64 (x1 i)) ∧ W.cell? ⟨(ad.add (i * 3)).block, (ad.add (i * 3)).off + 1, none⟩ = some (.string (x2 i)) ∧ W.cell? ⟨(ad.add (i * 3)).block, (ad.add (i * 3)).off + 2, none⟩ = some (.slice (x i) (xn i) (xc i)))
    (hstep : ∀ i W, i < n → Inv i W → Calls Try.prog g (#[.agg #[.int .i64 (x1 i), .string (x2 i), .slice (x i) (xn i) (xc i)]] ++ lb) W (Try.StepPost i Inv Stop)) (h0 : Inv 0 w) :
    Calls Try.prog 67 #[.slice A n c, .func (.func g) #[] lb] w (Try.IdxPost n Inv Stop) := by
  unfold maxLen at hn
  have HI := Aside0.mk h0
  go_enter Try.func67, Try.ntmps67
  go_wp2
  go_loopg [8] n (fun kq v8 W => ∃ i : Nat, v8 = .int .i64 (i : Int) ∧ i + kq = n ∧ Aside0 (Inv i W))
  case atStart => exact ⟨0, rfl, by omega, HI⟩
  case round =>
    clear HI
    obtain ⟨i, rfl, hik, hI⟩ := hrel
    have HIK := Aside0.mk hik
    by_cases hlt : i < n
    · obtain ⟨ad, rfl, hcell0, hcell1, hcell2⟩ := hread i _ hlt hI.out
      have hc := hstep i _ hlt hI.out
      have hle : i ≤ 9223372036854775806 := by omega
      clear hik h0 hread hstep
      go_wp2_with fail
      refine hc.mono ?_
      rintro e W1 h
      rcases h with ⟨rfl, hs⟩ | ⟨rfl, hi⟩
      · have HS := Aside0.mk hs
        clear hs hc hcell0 hcell1 hcell2 hI
        go_wp2
        go_ret
        exact .inl ⟨i, hlt, rfl, HS.out⟩
      · have HS := Aside0.mk hi
        clear hi hc hcell0 hcell1 hcell2 hI
        go_wp2
        go_roundg (gk - 1)
        case measure => have := HIK.out; omega
        case rel => exact ⟨i + 1, by go_num, by have := HIK.out; omega, HS⟩
    · have e : i = n := by omega
      subst e
      clear hik h0 hread hstep
      go_wp2
      go_ret
      exact .inr ⟨rfl, hI.out⟩
set_option maxHeartbeats 1000000 in
theorem Try.containsFunc_path (g : Nat) (lb : Array Value) (eg : ∀ args w, (callFunc g args).run Try.prog w = .ok (.enter g args) w) (A : Option Addr) (n c : Nat) (w : World) (hn : n ≤ maxLen)
    (Inv Stop : Nat → World → Prop) (x1 : Nat → Int) (x2 : Nat → ByteArray) (x : Nat → Option Addr) (xn xc : Nat → Nat)
    (hread : ∀ i W, i < n → Inv i W → ∃ ad, A = some ad ∧ W.cell? (ad.add (i * 3)) = some (.int .i64 (x1 i)) ∧ W.cell? ⟨(ad.add (i * 3)).block, (ad.add (i * 3)).off + 1, none⟩ = some (.string (x2 i)) ∧ W.cell? ⟨(ad.add (i * 3)).block, (ad.add (i * 3)).off + 2, none⟩ = some (.slice (x i) (xn i) (xc i)))
    (hstep : ∀ i W, i < n → Inv i W → Calls Try.prog g (#[.agg #[.int .i64 (x1 i), .string (x2 i), .slice (x i) (xn i) (xc i)]] ++ lb) W (Try.StepPost i Inv Stop)) (h0 : Inv 0 w) :
    Calls Try.prog 51 #[.slice A n c, .func (.func g) #[] lb] w (Try.HasPost n Inv Stop) := by
  have hc := Try.indexFunc_path g lb eg A n c w hn Inv Stop x1 x2 x xn xc hread hstep h0
  clear hread hstep h0
  go_enter Try.func51, Try.ntmps51
  go_wp2_with fail
  refine hc.mono ?_
  rintro e W1 h
  rcases h with ⟨i, hi, rfl, hs⟩ | ⟨rfl, hi⟩
  · have HS := Aside0.mk hs
    have h0 : decide ((i : Int) ≥ 0) = true := decide_eq_true (by omega)
    clear hs hc
    go_wp2
    go_ret
    exact .inl ⟨i, hi, rfl, HS.out⟩
  · have HS := Aside0.mk hi
    clear hi hc
    go_wp2
    go_ret
    exact .inr ⟨rfl, HS.out⟩
set_option maxHeartbeats 1000000 in
theorem Try.indexFunc_int (g : Nat) (lb : Array Value) (eg : ∀ args w, (callFunc g args).run Try.prog w = .ok (.enter g args) w) (A : Option Addr) (n c : Nat) (w : World) (hn : n ≤ maxLen)
    (Inv Stop : Nat → World → Prop) (x : Nat → Int)
    (hread : ∀ i W, i < n → Inv i W → ∃ ad, A = some ad ∧ W.cell? (ad.add i) = some (.int .i64 (x i)))
    (hstep : ∀ i W, i < n → Inv i W → Calls Try.prog g (#[.int .i64 (x i)] ++ lb) W (Try.StepPost i Inv Stop)) (h0 : Inv 0 w) :
    Calls Try.prog 61 #[.slice A n c, .func (.func g) #[] lb] w (Try.IdxPost n Inv Stop) := by
  unfold maxLen at hn
  have HI := Aside0.mk h0
  go_enter Try.func61, Try.ntmps61
  go_wp2
  go_loopg [8] n (fun kq v8 W => ∃ i : Nat, v8 = .int .i64 (i : Int) ∧ i + kq = n ∧ Aside0 (Inv i W))
  case atStart => exact ⟨0, rfl, by omega, HI⟩
  case round =>
    clear HI
    obtain ⟨i, rfl, hik, hI⟩ := hrel
    have HIK := Aside0.mk hik
    by_cases hlt : i < n
    · obtain ⟨ad, rfl, hcell⟩ := hread i _ hlt hI.out
      have hc := hstep i _ hlt hI.out
      have hle : i ≤ 9223372036854775806 := by omega
      clear hik h0 hread hstep
      go_wp2_with fail
      refine hc.mono ?_
      rintro e W1 h
      rcases h with ⟨rfl, hs⟩ | ⟨rfl, hi⟩
      · have HS := Aside0.mk hs
        clear hs hc hcell hI
        go_wp2
        go_ret
        exact .inl ⟨i, hlt, rfl, HS.out⟩
      · have HS := Aside0.mk hi
        clear hi hc hcell hI
        go_wp2
        go_roundg (gk - 1)
        case measure => have := HIK.out; omega
        case rel => exact ⟨i + 1, by go_num, by have := HIK.out; omega, HS⟩
    · have e : i = n := by omega
      subst e
      clear hik h0 hread hstep
      go_wp2
      go_ret
      exact .inr ⟨rfl, hI.out⟩
theorem Try.at_rows {α : Type} {d : Kd α} {e : Nat} {w : World} {A : Option Addr} {n : Nat} {xs : List (List α)} (h : (Kd.slice e d).C w A n xs) (i : Int) (h0 : 0 ≤ i) (h1 : i < n) :
    ∃ ad A0 c0, A = some ad ∧ w.cell? (ad.add i.toNat) = some (.slice A0 (xs.getD i.toNat []).length c0) ∧ (xs.getD i.toNat []).length ≤ c0 ∧ d.C w A0 (xs.getD i.toNat []).length (xs.getD i.toNat []) := by
  obtain ⟨ad, c, e, _, hK, hc0⟩ := Kd.C_get h ([] : List α) i h0 h1
  obtain ⟨A0, c0, rfl, l0, g0⟩ := hK
  exact ⟨ad, A0, c0, e, by have hq := hc0 0 _ rfl; rwa [show (Kd.slice _ d).sz = 1 from rfl, Nat.mul_one, Nat.add_zero] at hq, l0, g0⟩
theorem Try.any_drop {α : Type} (p : α → Bool) (l : List α) (i : Nat) (hi : i ≤ l.length) (h : ∀ j, j < i → ∀ hj : j < l.length, p l[j] = false) : l.any p = (l.drop i).any p := by
  have e : l.any p = ((l.take i) ++ l.drop i).any p := by rw [List.take_append_drop]
  rw [e, List.any_append]
  have : (l.take i).any p = false := by
    rw [List.any_eq_false]
    intro x hx
    obtain ⟨j, hj, rfl⟩ := List.mem_iff_getElem.1 hx
    rw [List.length_take] at hj
    rw [List.getElem_take]
    simp [h j (by omega) (by omega)]
  rw [this, Bool.false_or]
theorem Try.any_string (g : Nat) (lb : Array Value) (eg : ∀ args w, (callFunc g args).run Try.prog w = .ok (.enter g args) w) (p : ByteArray → Bool) (A : Option Addr) (c : Nat) (l : List ByteArray) (w : World) (hr : Kd.string.C w A l.length l)
    (hg : ∀ W x, Below w.heap.size w W → Calls Try.prog g (#[.string x] ++ lb) W fun e w' => e = .returned (.bool (p x)) ∧ Below W.heap.size W w') :
    Calls Try.prog 31 #[.slice A l.length c, .func (.func g) #[] lb] w fun e w' => e = .returned (.bool (l.any p)) ∧ Below w.heap.size w w' := by
  refine (Try.containsFunc_string g lb eg A l.length c w (by have := Kd.C_max hr; unfold maxLen; omega) (fun i W => Below w.heap.size w W ∧ ∀ j, j < i → ∀ hj : j < l.length, p l[j] = false)
    (fun i W => Below w.heap.size w W ∧ ∃ hi : i < l.length, p l[i] = true) (fun i => rdOf ByteArray.empty l i) (fun i W hi hI => ?_) (fun i W hi hI => ?_) ⟨Below.refl _ _, fun j hj => absurd hj (by omega)⟩).mono ?_
  · obtain ⟨ad, e, hc⟩ := Kd.at_string (Kd.C_below hr hI.1) i (by omega) (by omega)
    exact ⟨ad, e, by simpa using hc⟩
  · refine (hg W _ hI.1).mono ?_
    rintro e w' ⟨rfl, hb⟩
    have ex : rdOf ByteArray.empty l i = l[i] := by simp [rdOf, hi]
    rw [ex]
    have hb' : Below w.heap.size w w' := below_then hI.1 hI.1.size hb
    cases h : p l[i] with
    | true => exact .inl ⟨rfl, hb', hi, h⟩
    | false => exact .inr ⟨rfl, hb', fun j hj hjl => by
        by_cases e : j = i
        · subst e; exact h
        · exact hI.2 j (by omega) hjl⟩
  · rintro e w' (⟨i, hi, rfl, hb, hi', hp⟩ | ⟨rfl, hb, hall⟩)
    · refine ⟨?_, hb⟩
      have : l.any p = true := List.any_eq_true.2 ⟨l[i], List.getElem_mem _, hp⟩
      rw [this]
    · refine ⟨?_, hb⟩
      have : l.any p = false := by rw [Try.any_drop p l l.length (Nat.le_refl _) hall, List.drop_length]; rfl
      rw [this]
theorem Try.any_ints (g : Nat) (lb : Array Value) (eg : ∀ args w, (callFunc g args).run Try.prog w = .ok (.enter g args) w) (p : List Int → Bool) (A : Option Addr) (c : Nat) (l : List (List Int)) (w : World) (e0 : Nat) (hr : (Kd.slice e0 (Kd.int .i64)).C w A l.length l)
    (hg : ∀ W x A c, Below w.heap.size w W → (Kd.int .i64).C W A x.length x → Calls Try.prog g (#[.slice A x.length c] ++ lb) W fun e w' => e = .returned (.bool (p x)) ∧ Below W.heap.size W w') :
    Calls Try.prog 65 #[.slice A l.length c, .func (.func g) #[] lb] w fun e w' => e = .returned (.bool (l.any p)) ∧ Below w.heap.size w w' := by
  have hat : ∀ i, i < l.length → ∃ (A0 : Option Addr) (c0 : Nat), (∃ ad, A = some ad ∧ w.cell? (ad.add i) = some (.slice A0 (l.getD i []).length c0)) ∧ (Kd.int .i64).C w A0 (l.getD i []).length (l.getD i []) := fun i hi => by
    obtain ⟨ad, A0, c0, e, h1, _, h2⟩ := Try.at_rows hr i (by omega) (by omega)
    exact ⟨A0, c0, ⟨ad, e, by simpa using h1⟩, by simpa using h2⟩
  have hA : ∃ (fA : Nat → Option Addr) (fc : Nat → Nat), ∀ i, i < l.length → (∃ ad, A = some ad ∧ w.cell? (ad.add i) = some (.slice (fA i) (l.getD i []).length (fc i))) ∧ (Kd.int .i64).C w (fA i) (l.getD i []).length (l.getD i []) := by
    refine ⟨fun i => if h : i < l.length then Classical.choose (hat i h) else none, fun i => if h : i < l.length then Classical.choose (Classical.choose_spec (hat i h)) else 0, fun i hi => ?_⟩
    simp only [hi, dif_pos]
    exact Classical.choose_spec (Classical.choose_spec (hat i hi))
  obtain ⟨fA, fc, hF⟩ := hA
  refine (Try.containsFunc_ints g lb eg A l.length c w (by have := Kd.C_max hr; unfold maxLen; omega) (fun i W => Below w.heap.size w W ∧ ∀ j, j < i → ∀ hj : j < l.length, p l[j] = false)
    (fun i W => Below w.heap.size w W ∧ ∃ hi : i < l.length, p l[i] = true) fA (fun i => (l.getD i []).length) fc (fun i W hi hI => ?_) (fun i W hi hI => ?_) ⟨Below.refl _ _, fun j hj => absurd hj (by omega)⟩).mono ?_
  · obtain ⟨⟨ad, e, hc⟩, _⟩ := hF i hi
    exact ⟨ad, e, pw_cell_below hI.1 hc⟩
  · refine (hg W (l.getD i []) _ _ hI.1 (Kd.C_below (hF i hi).2 hI.1)).mono ?_
    rintro e w' ⟨rfl, hb⟩
    have ex : l.getD i [] = l[i] := by simp [hi]
    rw [ex]
    have hb' : Below w.heap.size w w' := below_then hI.1 hI.1.size hb
    cases h : p l[i] with
    | true => exact .inl ⟨rfl, hb', hi, h⟩
    | false => exact .inr ⟨rfl, hb', fun j hj hjl => by
        by_cases e : j = i
        · subst e; exact h
        · exact hI.2 j (by omega) hjl⟩
  · rintro e w' (⟨i, hi, rfl, hb, hi', hp⟩ | ⟨rfl, hb, hall⟩)
    · refine ⟨?_, hb⟩
      have : l.any p = true := List.any_eq_true.2 ⟨l[i], List.getElem_mem _, hp⟩
      rw [this]
    · refine ⟨?_, hb⟩
      have : l.any p = false := by rw [Try.any_drop p l l.length (Nat.le_refl _) hall, List.drop_length]; rfl
      rw [this]
end Go.Proofs

namespace Go.Proofs
open Go.RowKit Go.Proofs.YtjobnfbianlpnaaW.PrintWords Go.Proofs.YtjobnfbianlpnaaW.PrintLast
theorem ret_int {k : IntKind} {a b : Int} (h : a = b) : Ending.returned (.int k a) = .returned (.int k b) := by rw [h]
theorem ret_bool {a b : Bool} (h : a = b) : Ending.returned (.bool a) = .returned (.bool b) := by rw [h]
set_option maxHeartbeats 1000000 in
theorem Try.rises_calls (A : Option Addr) (c : Nat) (l : List Int) (n : Int) (w : World) (hr : (Kd.int .i64).C w A l.length l) :
    Calls Try.prog 64 #[.slice A l.length c, .int .i64 n] w fun e w' => e = .returned (.bool (Lang.rises (-1) l n)) ∧ w = w' := by
  have HR := Aside0.mk hr
  have hmax : l.length ≤ 9223372036854775807 := Kd.C_max hr
  clear hr
  go_enter Try.func64, Try.ntmps64
  go_wp2
  go_loopg [5, 10] l.length (fun kq v5 v10 W => ∃ (p : Int) (i : Nat), v5 = .int .i64 p ∧ v10 = .int .i64 (i : Int) ∧ i + kq = l.length ∧ Aside0 (Lang.rises p (l.drop i) n = Lang.rises (-1) l n) ∧ w = W)
  case atStart => exact ⟨-1, 0, rfl, rfl, by omega, ⟨by simp⟩, rfl⟩
  case round =>
    obtain ⟨p, i, rfl, rfl, hik, hI, rfl⟩ := hrel
    have HIK := Aside0.mk hik
    by_cases hlt : i < l.length
    · obtain ⟨ad, rfl, hcell⟩ := Kd.at_int HR.out i (by omega) (by omega)
      have e0 : (i : Int).toNat = i := Int.toNat_natCast i
      rw [e0] at hcell
      have hd : l.drop i = rd l i :: l.drop (i + 1) := by rw [List.drop_eq_getElem_cons hlt]; congr 1; simp [rd, hlt]
      obtain ⟨x, hx⟩ : ∃ x, rd l i = x := ⟨_, rfl⟩
      rw [hx] at hcell hd
      have hI' := hI.out
      rw [hd] at hI'
      simp only [Lang.rises] at hI'
      have hle : i ≤ 9223372036854775806 := by omega
      clear hik e0 hd hI hmax hx
      by_cases h1 : p < x
      · rw [if_pos h1] at hI'
        by_cases h2 : x < n
        · rw [if_pos h2] at hI'
          have HI := Aside0.mk hI'
          clear hI'
          go_wp2
          go_roundg (gk - 1)
          case measure => have := HIK.out; omega
          case rel => exact ⟨x, i + 1, rfl, by go_num, by have := HIK.out; omega, HI, rfl⟩
        · rw [if_neg h2] at hI'
          have HI := Aside0.mk hI'
          clear hI'
          go_wp2
          go_ret
          exact ⟨ret_bool HI.out, rfl⟩
      · rw [if_neg h1] at hI'
        have HI := Aside0.mk hI'
        clear hI'
        go_wp2
        go_ret
        exact ⟨ret_bool HI.out, rfl⟩
    · have e : i = l.length := by omega
      have hI' := hI.out
      rw [e, List.drop_length, Lang.rises] at hI'
      have HI := Aside0.mk hI'
      subst e
      clear hik hI hI'
      go_wp2
      go_ret
      exact ⟨ret_bool HI.out, rfl⟩
set_option maxHeartbeats 1000000 in
theorem Try.check1_calls (x : ByteArray) (w : World) :
    Calls Try.prog 62 #[.string x] w fun e w' => e = .returned (.bool (!Lang.isWord x)) ∧ Below w.heap.size w w' := by
  have hc := Try.is_calls x w
  obtain ⟨b, hb⟩ : ∃ b, Lang.isWord x = b := ⟨_, rfl⟩
  rw [hb] at hc ⊢
  clear hb
  go_enter Try.func62, Try.ntmps62
  go_wp2_with (go_at_call 28; refine hc.mono ?_; rintro e w' ⟨rfl, hb⟩)
  go_ret
  exact ⟨rfl, by assumption⟩
set_option maxHeartbeats 1000000 in
theorem Try.check2_calls (A : Option Addr) (c : Nat) (l : List Int) (B : Nat) (n : Int) (w : World) (hr : (Kd.int .i64).C w A l.length l) (hB : w.cell? ⟨B, 0, none⟩ = some (.int .i64 n)) :
    Calls Try.prog 63 #[.slice A l.length c, .pointer (some ⟨B, 0, none⟩)] w fun e w' => e = .returned (.bool (!Lang.rises (-1) l n)) ∧ w = w' := by
  have hc := Try.rises_calls A c l n w hr
  clear hr
  obtain ⟨b, hb⟩ : ∃ b, Lang.rises (-1) l n = b := ⟨_, rfl⟩
  rw [hb] at hc ⊢
  clear hb
  go_enter Try.func63, Try.ntmps63
  go_wp2_with (go_at_call 64; refine hc.mono ?_; rintro e w' ⟨rfl, rfl⟩)
  go_ret
  exact ⟨rfl, rfl⟩
def Try.checkErr (a : Lang.Auto) : Int := if Lang.may a then 0 else 1
set_option maxHeartbeats 1000000 in
theorem Try.check_calls (A0 A1 A2 A3 : Option Addr) (c0 c1 c2 c3 : Nat) (a : Lang.Auto) (w : World) (h0 : Kd.string.C w A0 a.words.length a.words) (h1 : (Kd.int .i64).C w A1 a.first.length a.first)
    (h2 : (Kd.int .i64).C w A2 a.last.length a.last) (e0 : Nat) (h3 : (Kd.slice e0 (Kd.int .i64)).C w A3 a.follow.length a.follow) :
    Calls Try.prog 45 #[.agg #[.slice A0 a.words.length c0, .slice A1 a.first.length c1, .slice A2 a.last.length c2, .slice A3 a.follow.length c3, .bool a.empty]] w
      fun e w' => e = .returned (.int .i64 (Try.checkErr a)) ∧ Below w.heap.size w w' := by
  have hn24 : a.words.length ≤ 9223372036854775807 := Kd.C_max h0
  have H0 := Aside0.mk h0
  have H1 := Aside0.mk h1
  have H2 := Aside0.mk h2
  have H3 := Aside0.mk h3
  clear h0 h1 h2 h3
  have hb := Aside0.mk (below_alloc (below_alloc (Below.refl w.heap.size w) (.cells #[.slice A0 a.words.length c0, .slice A1 a.first.length c1, .slice A2 a.last.length c2, .slice A3 a.follow.length c3, .bool a.empty] 33)) (.cells #[.int .i64 a.words.length] 3))
  have s2 : ((w.alloc (.cells #[.slice A0 a.words.length c0, .slice A1 a.first.length c1, .slice A2 a.last.length c2, .slice A3 a.follow.length c3, .bool a.empty] 33)).alloc (.cells #[.int .i64 a.words.length] 3)).cell? ⟨w.heap.size + 1, 0, none⟩ = some (.int .i64 a.words.length) := by go_simp
  have t4 : ((w.alloc (.cells #[.slice A0 a.words.length c0, .slice A1 a.first.length c1, .slice A2 a.last.length c2, .slice A3 a.follow.length c3, .bool a.empty] 33)).alloc (.cells #[.int .i64 a.words.length] 3)).cell? ⟨w.heap.size, 3, none⟩ = some (.slice A3 a.follow.length c3) := by go_simp
  go_enter Try.func45, Try.ntmps45
  go_wp2_with fail
  · refine (Try.check2_calls A1 c1 a.first (w.heap.size + 1) a.words.length _ (Kd.C_below H1.out hb.out) s2).mono ?_
    rintro e w' ⟨rfl, rfl⟩
    obtain ⟨b1, hb1⟩ : ∃ b, Lang.rises (-1) a.first a.words.length = b := ⟨_, rfl⟩
    rw [hb1]
    have HB1 := Aside0.mk hb1
    clear hb1
    cases b1
    · go_wp2_with fail
      go_ret
      exact ⟨ret_int (by simp [Try.checkErr, Lang.may, HB1.out]), hb.out⟩
    · go_wp2_with fail
      refine (Try.check2_calls A2 c2 a.last (w.heap.size + 1) a.words.length _ (Kd.C_below H2.out hb.out) s2).mono ?_
      rintro e w' ⟨rfl, rfl⟩
      obtain ⟨b2, hb2⟩ : ∃ b, Lang.rises (-1) a.last a.words.length = b := ⟨_, rfl⟩
      rw [hb2]
      have HB2 := Aside0.mk hb2
      clear hb2
      cases b2
      · go_wp2_with fail
        go_ret
        exact ⟨ret_int (by simp [Try.checkErr, Lang.may, HB1.out, HB2.out]), hb.out⟩
      · go_wp2_with fail
        refine (Try.any_string 62 #[] (enters_of Try.func62 (by kernel_rfl) rfl) (fun x => !Lang.isWord x) A0 c0 a.words _ (Kd.C_below H0.out hb.out) (fun W x _ => Try.check1_calls x W)).mono ?_
        rintro e w1 ⟨rfl, hb1⟩
        have HB' := Aside0.mk (below_step hb.out hb1)
        have s3 := (hb1.cell (p := ⟨w.heap.size + 1, 0, none⟩) (by simp)).trans s2
        have s4 := (hb1.cell (p := ⟨w.heap.size, 3, none⟩) (by simp; omega)).trans t4
        clear s2 t4 hb1
        obtain ⟨b3, hb3⟩ : ∃ b, a.words.any (fun x => !Lang.isWord x) = b := ⟨_, rfl⟩
        rw [hb3]
        have HB3 := Aside0.mk hb3
        clear hb3
        cases b3
        · have e3 : a.words.all Lang.isWord = true := by
            rw [List.all_eq_not_any_not, HB3.out]; rfl
          go_wp2_with fail
          refine (Try.any_ints 63 #[.pointer (some ⟨w.heap.size + 1, 0, none⟩)] (enters_of Try.func63 (by kernel_rfl) rfl) (fun l => !Lang.rises (-1) l a.words.length) A3 c3 a.follow _ e0 (Kd.C_below H3.out HB'.out)
            (fun W x A c hb hx => (Try.check2_calls A c x (w.heap.size + 1) a.words.length W hx ((hb.cell (World.block_lt_of_cell? _ _ s3)).trans s3)).mono (fun e w' ⟨h1, h2⟩ => ⟨h1, by rw [← h2]; exact Below.refl _ _⟩))).mono ?_
          rintro e w2 ⟨rfl, hb2⟩
          have HB2' := Aside0.mk (below_step HB'.out hb2)
          clear hb2 s3 s4
          obtain ⟨b4, hb4⟩ : ∃ b, a.follow.any (fun l => !Lang.rises (-1) l a.words.length) = b := ⟨_, rfl⟩
          rw [hb4]
          have HB4 := Aside0.mk hb4
          clear hb4
          have k1 : a.words.length ≤ 24 := by omega
          have k2 : a.follow.length = a.words.length := by omega
          have K2 := Aside0.mk k2
          clear k2
          cases b4
          · have e4 : a.follow.all (fun l => Lang.rises (-1) l a.words.length) = true := by
              rw [List.all_eq_not_any_not, HB4.out]; rfl
            have E3 := Aside0.mk e3
            have E4 := Aside0.mk e4
            clear e3 e4
            go_wp2_with fail
            go_ret
            exact ⟨ret_int (by simp only [Try.checkErr, Lang.may, HB1.out, HB2.out, E3.out, E4.out, K2.out, k1, decide_true, Bool.and_self, if_true]), HB2'.out⟩
          · have e4 : a.follow.all (fun l => Lang.rises (-1) l a.words.length) = false := by
              rw [List.all_eq_not_any_not, HB4.out]; rfl
            have E4 := Aside0.mk e4
            clear e3 e4
            go_wp2_with fail
            go_ret
            exact ⟨ret_int (by simp only [Try.checkErr, Lang.may, E4.out, Bool.and_false]; rfl), HB2'.out⟩
        · have e3 : a.words.all Lang.isWord = false := by
            rw [List.all_eq_not_any_not, HB3.out]; rfl
          have E3 := Aside0.mk e3
          clear e3
          go_wp2_with fail
          go_ret
          exact ⟨ret_int (by simp only [Try.checkErr, Lang.may, E3.out, Bool.and_false, Bool.false_and]; rfl), HB'.out⟩
  · have k2 : ¬ a.follow.length = a.words.length := by omega
    go_ret
    exact ⟨ret_int (by simp only [Try.checkErr, Lang.may, decide_eq_false k2, Bool.and_false, Bool.false_and]; rfl), hb.out⟩
  · have k1 : ¬ a.words.length ≤ 24 := by omega
    go_ret
    exact ⟨ret_int (by simp only [Try.checkErr, Lang.may, decide_eq_false k1, Bool.false_and]; rfl), hb.out⟩
end Go.Proofs

namespace Go.Proofs
open Go.RowKit Go.Proofs.YtjobnfbianlpnaaW.PrintWords Go.Proofs.YtjobnfbianlpnaaW.PrintLast
structure Try.AutoAt (w : World) (A0 A1 A2 A3 : Option Addr) (c1 c2 c3 : Nat) (a : Lang.Auto) : Prop where
  h0 : Kd.string.C w A0 a.words.length a.words
  h1 : (Kd.int .i64).C w A1 a.first.length a.first
  h2 : (Kd.int .i64).C w A2 a.last.length a.last
  h3 : (Kd.slice 3 (Kd.int .i64)).C w A3 a.follow.length a.follow
  l1 : a.first.length ≤ c1
  l2 : a.last.length ≤ c2
  l3 : a.follow.length ≤ c3
theorem Try.AutoAt.below {w w' : World} {A0 A1 A2 A3 : Option Addr} {c1 c2 c3 : Nat} {a : Lang.Auto} (h : Try.AutoAt w A0 A1 A2 A3 c1 c2 c3 a) (hb : Below w.heap.size w w') : Try.AutoAt w' A0 A1 A2 A3 c1 c2 c3 a :=
  ⟨Kd.C_below h.h0 hb, Kd.C_below h.h1 hb, Kd.C_below h.h2 hb, Kd.C_below h.h3 hb, h.l1, h.l2, h.l3⟩
theorem Try.check_at (A0 A1 A2 A3 : Option Addr) (c0 c1 c2 c3 : Nat) (a : Lang.Auto) (w : World) (h : Try.AutoAt w A0 A1 A2 A3 c1 c2 c3 a) :
    Calls Try.prog 45 #[.agg #[.slice A0 a.words.length c0, .slice A1 a.first.length c1, .slice A2 a.last.length c2, .slice A3 a.follow.length c3, .bool a.empty]] w
      fun e w' => e = .returned (.int .i64 (Try.checkErr a)) ∧ Below w.heap.size w w' :=
  Try.check_calls A0 A1 A2 A3 c0 c1 c2 c3 a w h.h0 h.h1 h.h2 _ h.h3
set_option maxHeartbeats 1000000 in
theorem Try.there_calls (A0 A1 A2 A3 : Option Addr) (c0 c1 c2 c3 : Nat) (a : Lang.Auto) (at_ : Int) (w : World) (h : Try.AutoAt w A0 A1 A2 A3 c1 c2 c3 a) :
    Calls Try.prog 22 #[.agg #[.slice A0 a.words.length c0, .slice A1 a.first.length c1, .slice A2 a.last.length c2, .slice A3 a.follow.length c3, .bool a.empty], .int .i64 at_] w
      fun e w' => e = .returned (.bool (Lang.there a at_)) ∧ Below w.heap.size w w' := by
  have HA := Aside0.mk h
  have hmax : a.words.length ≤ 9223372036854775807 := Kd.C_max h.h0
  clear h
  have hb := Aside0.mk (below_alloc (Below.refl w.heap.size w) (.cells #[.slice A0 a.words.length c0, .slice A1 a.first.length c1, .slice A2 a.last.length c2, .slice A3 a.follow.length c3, .bool a.empty] 33))
  have hc := Try.check_at A0 A1 A2 A3 c0 c1 c2 c3 a _ (HA.out.below hb.out)
  have t0 : (w.alloc (.cells #[.slice A0 a.words.length c0, .slice A1 a.first.length c1, .slice A2 a.last.length c2, .slice A3 a.follow.length c3, .bool a.empty] 33)).cell? ⟨w.heap.size, 0, none⟩ = some (.slice A0 a.words.length c0) := by go_simp
  go_enter Try.func22, Try.ntmps22
  go_wp2_with fail
  refine hc.mono ?_
  rintro e w1 ⟨rfl, hb1⟩
  have HB1 := Aside0.mk (below_step hb.out hb1)
  have s0 := (hb1.cell (p := ⟨w.heap.size, 0, none⟩) (by simp)).trans t0
  clear t0 hc hb1
  obtain ⟨b, hbm⟩ : ∃ b, Lang.may a = b := ⟨_, rfl⟩
  have HM := Aside0.mk hbm
  clear hbm
  cases b
  · have e1 : Try.checkErr a = 1 := by simp [Try.checkErr, HM.out]
    rw [e1]
    clear e1
    go_wp2_with fail
    go_ret
    exact ⟨ret_bool (by simp [Lang.there, HM.out]), HB1.out⟩
  · have e1 : Try.checkErr a = 0 := by simp [Try.checkErr, HM.out]
    rw [e1]
    clear e1
    by_cases k1 : -1 ≤ at_
    · by_cases k2 : at_ < a.words.length
      · go_wp2_with fail
        go_ret
        exact ⟨ret_bool (by simp [Lang.there, HM.out, k1, k2]), HB1.out⟩
      · go_wp2_with fail
        go_ret
        exact ⟨ret_bool (by simp [Lang.there, HM.out, k1, k2]), HB1.out⟩
    · go_wp2_with fail
      go_ret
      have k1' : decide (-1 ≤ at_) = false := decide_eq_false (by omega)
      exact ⟨ret_bool (by simp only [Lang.there, k1', Bool.and_false, Bool.false_and]), HB1.out⟩
def Try.IdxInt (l : List Int) (v : Int) (w : World) (e : Ending) (w' : World) : Prop := (∃ i : Int, e = .returned (.int .i64 i) ∧ (0 ≤ i ↔ v ∈ l)) ∧ w = w'
set_option maxHeartbeats 1000000 in
theorem Try.index_int (A : Option Addr) (c : Nat) (l : List Int) (v : Int) (w : World) (hr : (Kd.int .i64).C w A l.length l) :
    Calls Try.prog 46 #[.slice A l.length c, .int .i64 v] w (Try.IdxInt l v w) := by
  have hmax : l.length ≤ 9223372036854775807 := Kd.C_max hr
  have HR := Aside0.mk hr
  clear hr
  go_enter Try.func46, Try.ntmps46
  go_wp2
  go_loopg [8] l.length (fun kq v8 W => ∃ i : Nat, v8 = .int .i64 (i : Int) ∧ i + kq = l.length ∧ Aside0 (v ∈ l ↔ v ∈ l.drop i) ∧ w = W)
  case atStart => exact ⟨0, rfl, by omega, ⟨by simp⟩, rfl⟩
  case round =>
    obtain ⟨i, rfl, hik, hI, rfl⟩ := hrel
    have HIK := Aside0.mk hik
    by_cases hlt : i < l.length
    · obtain ⟨ad, rfl, hcell⟩ := Kd.at_int HR.out i (by omega) (by omega)
      have e0 : (i : Int).toNat = i := Int.toNat_natCast i
      rw [e0] at hcell
      have hd : l.drop i = rd l i :: l.drop (i + 1) := by rw [List.drop_eq_getElem_cons hlt]; congr 1; simp [rd, hlt]
      obtain ⟨x, hx⟩ : ∃ x, rd l i = x := ⟨_, rfl⟩
      rw [hx] at hcell hd
      have HD := Aside0.mk hd
      have hle : i ≤ 9223372036854775806 := by omega
      clear hik e0 hd hmax hx
      by_cases h1 : v = x
      · subst h1
        go_wp2
        go_ret
        exact ⟨⟨i, rfl, by rw [hI.out, HD.out]; simp⟩, rfl⟩
      · have hne : (v == x) = false := by simp [h1]
        have H1 := Aside0.mk h1
        clear h1
        go_wp2
        go_roundg (gk - 1)
        case measure => have := HIK.out; omega
        case rel => exact ⟨i + 1, by go_num, by have := HIK.out; omega, ⟨by rw [hI.out, HD.out]; simp [H1.out]⟩, rfl⟩
    · have e : i = l.length := by omega
      have HE := Aside0.mk e
      clear hik e
      go_wp2
      go_ret
      exact ⟨⟨-1, rfl, by rw [hI.out, HE.out]; simp⟩, rfl⟩
set_option maxHeartbeats 1000000 in
theorem Try.contains_int (A : Option Addr) (c : Nat) (l : List Int) (v : Int) (w : World) (hr : (Kd.int .i64).C w A l.length l) :
    Calls Try.prog 23 #[.slice A l.length c, .int .i64 v] w fun e w' => e = .returned (.bool (decide (v ∈ l))) ∧ w = w' := by
  have hc := Try.index_int A c l v w hr
  obtain ⟨b, hb⟩ : ∃ b, decide (v ∈ l) = b := ⟨_, rfl⟩
  rw [hb]
  have HB := Aside0.mk hb
  clear hr hb
  go_enter Try.func23, Try.ntmps23
  go_wp2_with fail
  refine hc.mono ?_
  rintro e w' ⟨⟨i, rfl, hi⟩, rfl⟩
  have e1 : decide (i ≥ 0) = b := by rw [← HB.out]; simp only [ge_iff_le, hi]
  have e2 : b = decide (0 ≤ i) := e1.symm
  have HE := Aside0.mk e2
  clear hc e1 e2 hi
  go_wp2
  go_ret
  exact ⟨ret_bool HE.out.symm, rfl⟩
set_option maxHeartbeats 1000000 in
theorem Try.ends_calls (A0 A1 A2 A3 : Option Addr) (c0 c1 c2 c3 : Nat) (a : Lang.Auto) (at_ : Int) (w : World) (h : Try.AutoAt w A0 A1 A2 A3 c1 c2 c3 a) :
    Calls Try.prog 13 #[.agg #[.slice A0 a.words.length c0, .slice A1 a.first.length c1, .slice A2 a.last.length c2, .slice A3 a.follow.length c3, .bool a.empty], .int .i64 at_] w
      fun e w' => e = .returned (.bool (Lang.ends a at_)) ∧ Below w.heap.size w w' := by
  have HA := Aside0.mk h
  clear h
  have hb := Aside0.mk (below_alloc (Below.refl w.heap.size w) (.cells #[.slice A0 a.words.length c0, .slice A1 a.first.length c1, .slice A2 a.last.length c2, .slice A3 a.follow.length c3, .bool a.empty] 33))
  have hc := Try.there_calls A0 A1 A2 A3 c0 c1 c2 c3 a at_ _ (HA.out.below hb.out)
  have t2 : (w.alloc (.cells #[.slice A0 a.words.length c0, .slice A1 a.first.length c1, .slice A2 a.last.length c2, .slice A3 a.follow.length c3, .bool a.empty] 33)).cell? ⟨w.heap.size, 2, none⟩ = some (.slice A2 a.last.length c2) := by go_simp
  have t4 : (w.alloc (.cells #[.slice A0 a.words.length c0, .slice A1 a.first.length c1, .slice A2 a.last.length c2, .slice A3 a.follow.length c3, .bool a.empty] 33)).cell? ⟨w.heap.size, 4, none⟩ = some (.bool a.empty) := by go_simp
  obtain ⟨b, hbt⟩ : ∃ b, Lang.there a at_ = b := ⟨_, rfl⟩
  rw [hbt] at hc
  have HT := Aside0.mk hbt
  clear hbt
  go_enter Try.func13, Try.ntmps13
  go_wp2_with fail
  refine hc.mono ?_
  rintro e w1 ⟨rfl, hb1⟩
  have HB1 := Aside0.mk (below_step hb.out hb1)
  have s2 := (hb1.cell (p := ⟨w.heap.size, 2, none⟩) (by simp)).trans t2
  have s4 := (hb1.cell (p := ⟨w.heap.size, 4, none⟩) (by simp)).trans t4
  have hcc := Try.contains_int A2 c2 a.last at_ w1 (HA.out.below HB1.out).h2
  clear t2 t4 hc hb1
  cases b
  · clear hcc
    go_wp2_with fail
    go_ret
    exact ⟨ret_bool (by simp [Lang.ends, HT.out]), HB1.out⟩
  · obtain ⟨m, hm⟩ : ∃ m, decide (at_ ∈ a.last) = m := ⟨_, rfl⟩
    rw [hm] at hcc
    obtain ⟨em, hem⟩ : ∃ em, a.empty = em := ⟨_, rfl⟩
    have HM := Aside0.mk hm
    have HEM := Aside0.mk hem
    rw [hem] at s4
    clear hm hem
    by_cases k : at_ < 0
    · cases em
      · go_wp2_with (go_at_call 23; refine hcc.mono ?_; rintro e w' ⟨rfl, rfl⟩)
        go_ret
        exact ⟨ret_bool (by simp only [Lang.ends, HT.out, HM.out, HEM.out, k]; simp), HB1.out⟩
      · clear hcc
        go_wp2_with fail
        go_ret
        exact ⟨ret_bool (by simp only [Lang.ends, HT.out, HM.out, HEM.out, k]; simp), HB1.out⟩
    · go_wp2_with (go_at_call 23; refine hcc.mono ?_; rintro e w' ⟨rfl, rfl⟩)
      go_ret
      have k' : decide (at_ < 0) = false := decide_eq_false (by omega)
      exact ⟨ret_bool (by simp only [Lang.ends, HT.out, HM.out, k']; simp), HB1.out⟩
end Go.Proofs

namespace Go.Proofs
open Go.Shelf Go.RowKit Go.Proofs.YtjobnfbianlpnaaW.PrintWords Go.Proofs.YtjobnfbianlpnaaW.PrintLast
theorem Try.int_info : (Try.prog.info? 3).map (fun i => (i.zero, i.size, i.bytes)) = some (some (.int .i64 0), 1, 8) := by kernel_rfl
def Try.Headed (A : Option Addr) : Prop := A = none ∨ ∃ g, A = some ⟨g, 0, none⟩
theorem Try.clone_int (A : Option Addr) (c : Nat) (l : List Int) (w : World) (hr : (Kd.int .i64).C w A l.length l) (hA : Try.Headed A) (h8 : l.length * 8 ≤ 140737488355328) :
    Calls Try.prog 43 #[.slice A l.length c] w fun e w' => ∃ v, e = .returned v ∧ w'.ownsRow w.heap.size 3 1 v l.length (nums .i64 l) ∧ Below w.heap.size w w' := by
  rcases hA with rfl | ⟨g, rfl⟩
  · have h0 : l = [] := by
      cases l with
      | nil => rfl
      | cons x l => obtain ⟨ad, e, _⟩ := Kd.at_int hr 0 (by omega) (by simp); cases e
    subst h0
    have q : ∀ (w : World) (a : Option Addr) (n c n' c' : Nat), (binOp .eql 30 (.slice a n c) (.slice none n' c')).run Try.prog w = .ok (.bool a.isNone) w := fun w a n c n' c' => Lib.run_eql_slice_nil w _ _ a n c n' c' Try.underlying30
    clear hr h8
    go_enter Try.func43, Try.ntmps43
    go_wp2
    go_ret
    exact ⟨_, rfl, own_nil _ _ _ _, Below.refl _ _⟩
  · obtain ⟨i0, hi, hz0, hz1, hz2⟩ := info_parts Try.int_info
    have hmax := Kd.C_max hr
    refine (AnyE.slices_Clone Try.lCloneInt i0 (.int .i64 0) 1 8 hi hz0 hz1 hz2 rfl (by decide) (fun w => Try.sizeOf3 w) g 0 l.length c (nums .i64 l) w (by simp [nums]) (by unfold maxLen; omega) h8 ?_ ?_).mono ?_
    · intro j u hj
      have hjl : j < l.length := by
        have := (List.getElem?_eq_some_iff.1 hj).1
        simpa [nums] using this
      obtain ⟨ad, e, hc⟩ := Kd.at_int hr j (by omega) (by omega)
      cases e
      simp only [nums, List.getElem?_map, List.getElem?_eq_getElem hjl, Option.map_some, Option.some.injEq] at hj
      subst hj
      rw [Int.toNat_natCast, add_plain] at hc
      rw [Nat.zero_add, hc]
      simp [rd, hjl]
    · intro u hu
      simp only [nums, List.mem_map] at hu
      obtain ⟨x, _, rfl⟩ := hu
      rfl
    · rintro e w' ⟨v, rfl, ho, _, hb⟩
      exact ⟨v, rfl, ho, hb⟩
open Go.Sort in
theorem Try.below_sort {α : Type} [Inhabited α] {B : Nat} (enc : α → Value) {w0 w : World} (h : Below B w0 w) (hB : B ≤ w.heap.size) {blk : Nat} (hk : B ≤ blk) (off m : Nat) (dk : Array α) (os : Array Obj) : Below B w0 (sortWorld enc w blk off m dk os) := by
  refine h.trans ⟨rfl, rfl, rfl, by simp [sortWorld], fun k hk' => ?_⟩
  unfold sortWorld
  rw [heap_grow_old _ _ (by simp; omega)]
  have : blk ≠ k := by omega
  simp [putRow, mapBlock, Sort.ahead, Array.getElem?_modify, this]
open Go.Sort in
theorem Try.below_put {α : Type} [Inhabited α] {B : Nat} (enc : α → Value) {w0 w : World} (h : Below B w0 w) (hB : B ≤ w.heap.size) {blk : Nat} (hk : B ≤ blk) (off m : Nat) (dk : Array α) : Below B w0 (putRow enc (Sort.ahead w m) blk off dk) := by
  refine h.trans ⟨rfl, rfl, rfl, by simp, fun k hk' => ?_⟩
  have : blk ≠ k := by omega
  simp [putRow, mapBlock, Sort.ahead, Array.getElem?_modify, this]
def Try.unlike (words : List ByteArray) (word : ByteArray) (k : Nat) : Bool := !((words.getD k ByteArray.empty).toList == word.toList)
set_option maxHeartbeats 1000000 in
theorem Try.next1_calls (words : List ByteArray) (A0 : Option Addr) (c0 : Nat) (word : ByteArray) (B1 B2 : Nat) (k : Nat) (W : World) (hk : k < words.length) (hw : Kd.string.C W A0 words.length words)
    (hB1 : W.cell? ⟨B1, 0, none⟩ = some (.slice A0 words.length c0)) (hB2 : W.cell? ⟨B2, 0, none⟩ = some (.string word)) :
    FnGives Try.prog 44 #[.pointer (some ⟨B1, 0, none⟩), .pointer (some ⟨B2, 0, none⟩)] #[.int .i64 (k : Int)] (.bool (Try.unlike words word k)) W := by
  show Calls Try.prog 44 #[.int .i64 (k : Int), .pointer (some ⟨B1, 0, none⟩), .pointer (some ⟨B2, 0, none⟩)] W _
  obtain ⟨ad, rfl, hc⟩ := Kd.at_string hw k (by omega) (by omega)
  have ex : rdOf ByteArray.empty words k = words.getD k ByteArray.empty := by simp [rdOf]
  rw [Int.toNat_natCast, ex] at hc
  obtain ⟨x, hx⟩ : ∃ x, words.getD k ByteArray.empty = x := ⟨_, rfl⟩
  obtain ⟨b, hb⟩ : ∃ b, Try.unlike words word k = b := ⟨_, rfl⟩
  have hu : Try.unlike words word k = !(x.toList == word.toList) := by rw [← hx]; rfl
  rw [hx] at hc
  rw [hb] at hu ⊢
  have HU := Aside0.mk hu
  clear hu hb hx ex hw
  go_enter Try.func44, Try.ntmps44
  go_wp2
  go_quiet (fail)
  go_wp2
  go_ret
  exact ⟨ret_bool (by rw [HU.out]), _, rfl⟩
theorem Try.delete_none (A : Option Addr) (c : Nat) (g : Nat) (lb : Array Value) (eg : ∀ args w, (callFunc g args).run Try.prog w = .ok (.enter g args) w) (w : World) :
    Calls Try.prog 42 #[.slice A 0 c, .func (.func g) #[] lb] w fun e w' => e = .returned (.slice A 0 c) ∧ w = w' := by
  have hc := Try.indexFunc_int g lb eg A 0 c w (by unfold maxLen; omega) (fun _ W => w = W) (fun _ _ => False) (fun _ => 0) (fun i W hi _ => absurd hi (by omega)) (fun i W hi _ => absurd hi (by omega)) rfl
  clear eg
  go_enter Try.func42, Try.ntmps42
  go_wp2_with fail
  refine hc.mono ?_
  rintro e w' (⟨i, hi, _⟩ | ⟨rfl, rfl⟩)
  · exact absurd hi (by omega)
  · go_wp2_with fail
    go_ret
    exact ⟨rfl, rfl⟩
def Try.encF (m : Nat) (k : Fin (m + 1)) : Value := .int .i64 (k.val : Int)
open Go.Sort in
theorem Try.delete_next (words : List ByteArray) (A0 : Option Addr) (c0 : Nat) (word : ByteArray) (B1 B2 : Nat) (w0 w : World) (hb : Below w0.heap.size w0 w) (hw : Kd.string.C w0 A0 words.length words)
    (hB1 : w0.cell? ⟨B1, 0, none⟩ = some (.slice A0 words.length c0)) (hB2 : w0.cell? ⟨B2, 0, none⟩ = some (.string word)) (v : Value) (l : List Int)
    (hv : w.ownsRow w0.heap.size 3 1 v l.length (nums .i64 l)) (hl : ∀ k ∈ l, 0 ≤ k ∧ k < words.length) (hmax : l.length ≤ 9223372036854775807) :
    Calls Try.prog 42 #[v, .func (.func 44) #[] #[.pointer (some ⟨B1, 0, none⟩), .pointer (some ⟨B2, 0, none⟩)]] w fun e w' =>
      ∃ (A : Option Addr) (c : Nat) (r : List Int), r = l.filter (fun k => !Try.unlike words word k.toNat) ∧ e = .returned (.slice A r.length c) ∧ (Kd.int .i64).C w' A r.length r ∧ Below w0.heap.size w0 w' := by
  have eg : ∀ args w, (callFunc 44 args).run Try.prog w = .ok (.enter 44 args) w := enters_of Try.func44 (by kernel_rfl) rfl
  by_cases h0 : l = []
  · subst h0
    obtain ⟨A, c, rfl⟩ := own_slice hv
    refine (Try.delete_none A c _ _ eg w).mono ?_
    rintro e w' ⟨rfl, rfl⟩
    exact ⟨A, c, [], rfl, rfl, ⟨rfl, by simp, fun h => absurd h (by simp)⟩, hb⟩
  · have hpos : 0 < l.length := List.length_pos_iff.2 h0
    obtain ⟨x0, hx0⟩ : ∃ x, x ∈ l := ⟨l[0], List.getElem_mem _⟩
    have hn : 0 < words.length := by have := hl x0 hx0; omega
    obtain ⟨m, hm⟩ : ∃ m, words.length = m + 1 := ⟨words.length - 1, by omega⟩
    rcases hv.2 with ⟨rfl, hz⟩ | ⟨g, cap, cur, rfl, hbase, hgb, r1, r2, r3, r4⟩
    · exact absurd hz (by omega)
    ·
      obtain ⟨d, hds, hval⟩ : ∃ d : Array (Fin (m + 1)), d.size = l.length ∧ ∀ j (hj : j < l.length), ((d[j]!).val : Int) = l[j] := by
        refine ⟨(l.map fun k => (⟨k.toNat % (m + 1), Nat.mod_lt _ (Nat.succ_pos _)⟩ : Fin (m + 1))).toArray, by simp, fun j hj => ?_⟩
        have h := hl l[j] (List.getElem_mem _)
        rw [getElem!_pos _ j (by simpa using hj)]
        simp only [List.getElem_toArray, List.getElem_map]
        have : l[j].toNat % (m + 1) = l[j].toNat := Nat.mod_eq_of_lt (by omega)
        rw [this]; omega
      have hld : l = d.toList.map (fun k => (k.val : Int)) := by
        apply List.ext_getElem (by simp [hds])
        intro j h1 h2
        rw [← hval j h1, List.getElem_map, getElem!_pos d j (by omega)]
        simp
      have hH : Holds (Try.encF m) w g 0 d := fun j hj => by
        have hj' : j < l.length := by omega
        have e1 : cur[j]? = some (.int .i64 l[j]) := by
          have e2 : (cur.toList.take (l.length * 1))[j]? = some (.int .i64 l[j]) := by rw [r4]; simp [nums, hj']
          rw [List.getElem?_take_of_lt (by omega), Array.getElem?_toList] at e2
          exact e2
        refine ⟨?_, by simp [World.frozen?, hgb]⟩
        rw [Nat.zero_add, cell_of_row w g j cur _ (0, 0) hgb, e1]
        simp only [Try.encF]
        rw [hval j hj']
      have hgl : g < w.heap.size := (Array.getElem?_eq_some_iff.1 hgb).1
      have hB1l := World.block_lt_of_cell? _ _ hB1
      have hB2l := World.block_lt_of_cell? _ _ hB2
      have gives : ∀ (k : Fin (m + 1)) (W : World), Below w0.heap.size w0 W → FnGives Try.prog 44 #[.pointer (some ⟨B1, 0, none⟩), .pointer (some ⟨B2, 0, none⟩)] #[Try.encF m k] (.bool (Try.unlike words word k.val)) W := fun k W hW =>
        Try.next1_calls words A0 c0 word B1 B2 k.val W (by omega) (Kd.C_below hw hW) ((hW.cell hB1l).trans hB1) ((hW.cell hB2l).trans hB2)
      have hcon := AnyE.slices_DeleteFunc Try.lDeleteInt (Try.encF m) (fun _ => rfl) (fun k => Try.unlike words word k.val) 44 #[.pointer (some ⟨B1, 0, none⟩), .pointer (some ⟨B2, 0, none⟩)] eg ⟨0, Nat.succ_pos m⟩ (fun w => Try.zeroValue3 w) g 0 cap d w
        (fun W x hW => gives x W (below_then hb hb.size hW)) (fun n os dk x _ => gives x _ (Try.below_sort (Try.encF m) hb hb.size hbase 0 n dk os)) hH (by omega) (by omega)
      change Calls Try.prog 42 _ _ _ at hcon
      rw [hds] at hcon
      refine hcon.mono ?_
      rintro e w' ⟨rfl, q, rfl⟩
      obtain ⟨F, hF⟩ : ∃ F, d.toList.filter (fun x => !Try.unlike words word x.val) = F := ⟨_, rfl⟩
      rw [hF]
      have hr : l.filter (fun k => !Try.unlike words word k.toNat) = F.map (fun k => (k.val : Int)) := by
        rw [hld, List.filter_map, ← hF]
        congr 1
      have hFl : F.length ≤ l.length := by rw [← hF, ← hds]; exact Nat.le_trans (List.length_filter_le _ _) (by simp)
      refine ⟨some ⟨g, 0, none⟩, cap, F.map (fun k => (k.val : Int)), hr.symm, by rw [List.length_map], ?_, ?_⟩
      · refine Kd.C_of_reads (d := (0 : Int)) ⟨rfl, by rw [List.length_map]; omega, fun _ => ⟨_, rfl, fun j hj => ?_⟩⟩
        rw [List.length_map] at hj
        rw [add_plain]
        have h2 := cell?_putRow (Try.encF m) (Sort.ahead w q) g 0 d (F ++ List.replicate (l.length - F.length) (⟨0, Nat.succ_pos m⟩ : Fin (m + 1))).toArray hH (by simp; omega) j (by simp; omega)
        rw [Nat.zero_add] at h2
        rw [h2, getElem!_pos _ j (by simp; omega)]
        simp only [List.getElem_toArray, List.getElem_append_left hj, Try.encF]
        simp [hj]
      · exact Try.below_put (Try.encF m) hb hb.size hbase 0 q _
end Go.Proofs

namespace Go.Proofs
open Go.Shelf Go.RowKit Go.Proofs.YtjobnfbianlpnaaW.PrintWords Go.Proofs.YtjobnfbianlpnaaW.PrintLast
structure Try.AutoIn (w : World) (A0 A1 A2 A3 : Option Addr) (c1 c2 c3 : Nat) (a : Lang.Auto) : Prop where
  at_ : Try.AutoAt w A0 A1 A2 A3 c1 c2 c3 a
  g1 : Try.Headed A1
  f3 : ∀ i, i < a.follow.length → ∃ (ad : Addr) (Ai : Option Addr) (ci : Nat), A3 = some ad ∧ w.cell? (ad.add i) = some (.slice Ai (a.follow.getD i []).length ci) ∧ (Kd.int .i64).C w Ai (a.follow.getD i []).length (a.follow.getD i []) ∧ Try.Headed Ai
theorem Try.AutoIn.below {w w' : World} {A0 A1 A2 A3 : Option Addr} {c1 c2 c3 : Nat} {a : Lang.Auto} (h : Try.AutoIn w A0 A1 A2 A3 c1 c2 c3 a) (hb : Below w.heap.size w w') : Try.AutoIn w' A0 A1 A2 A3 c1 c2 c3 a :=
  ⟨h.at_.below hb, h.g1, fun i hi => by
    obtain ⟨ad, Ai, ci, e, h1, h2, h3⟩ := h.f3 i hi
    exact ⟨ad, Ai, ci, e, pw_cell_below hb h1, Kd.C_below h2 hb, h3⟩⟩
theorem Lang.rises_range : ∀ (l : List Int) (p n : Int), Lang.rises p l n = true → ∀ k ∈ l, p < k ∧ k < n
  | [], _, _, _, k, hk => absurd hk (by simp)
  | x :: l, p, n, h, k, hk => by
    simp only [Lang.rises] at h
    by_cases h1 : p < x
    · rw [if_pos h1] at h
      by_cases h2 : x < n
      · rw [if_pos h2] at h
        rcases List.mem_cons.1 hk with rfl | hk
        · exact ⟨h1, h2⟩
        · have := Lang.rises_range l x n h k hk
          omega
      · rw [if_neg h2] at h; cases h
    · rw [if_neg h1] at h; cases h
theorem Lang.rises_length : ∀ (l : List Int) (p n : Int), Lang.rises p l n = true → (l.length : Int) ≤ max 0 (n - 1 - p)
  | [], _, _, _ => by simp; omega
  | x :: l, p, n, h => by
    simp only [Lang.rises] at h
    by_cases h1 : p < x
    · rw [if_pos h1] at h
      by_cases h2 : x < n
      · rw [if_pos h2] at h
        have := Lang.rises_length l x n h
        rw [List.length_cons]; omega
      · rw [if_neg h2] at h; cases h
    · rw [if_neg h1] at h; cases h
theorem Lang.behind_range (a : Lang.Auto) (at_ : Int) (h : Lang.there a at_ = true) : (Lang.behind a at_).length ≤ 24 ∧ ∀ k ∈ Lang.behind a at_, 0 ≤ k ∧ k < a.words.length := by
  simp only [Lang.there, Lang.may, Bool.and_eq_true, decide_eq_true_eq, List.all_eq_true] at h
  obtain ⟨⟨⟨⟨⟨⟨⟨h24, hlen⟩, hf⟩, _⟩, _⟩, hfo⟩, _⟩, hlt⟩ := h
  have key : ∀ l, Lang.rises (-1) l a.words.length = true → l.length ≤ 24 ∧ ∀ k ∈ l, 0 ≤ k ∧ k < a.words.length := fun l hl => by
    have h1 := Lang.rises_length l _ _ hl
    refine ⟨by omega, fun k hk => ?_⟩
    have := Lang.rises_range l _ _ hl k hk
    omega
  unfold Lang.behind
  split
  · rename_i h0
    have hi : at_.toNat < a.follow.length := by omega
    refine key _ (hfo _ ?_)
    simp [List.getD, List.getElem?_eq_getElem hi]
  · exact key _ hf
theorem ByteArray.toList_beq (x y : ByteArray) : (x.toList == y.toList) = decide (x = y) := by
  rw [Bool.eq_iff_iff, beq_iff_eq, decide_eq_true_iff]
  constructor
  · intro h
    rw [ByteArray.toList_eq, ByteArray.toList_eq] at h
    exact ByteArray.ext (Array.ext' h)
  · rintro rfl; rfl
theorem Try.next_filter (a : Lang.Auto) (at_ : Int) (word : ByteArray) (h : Lang.there a at_ = true) :
    Lang.next a at_ word = (Lang.behind a at_).filter (fun k => !Try.unlike a.words word k.toNat) := by
  unfold Lang.next
  rw [if_pos h]
  congr 1
  funext k
  simp only [Try.unlike, Bool.not_not, ByteArray.toList_beq]
def Try.NextPost (a : Lang.Auto) (at_ : Int) (word : ByteArray) (w : World) (e : Ending) (w' : World) : Prop :=
  ∃ (A : Option Addr) (c : Nat), e = .returned (.slice A (Lang.next a at_ word).length c) ∧ (Kd.int .i64).C w' A (Lang.next a at_ word).length (Lang.next a at_ word) ∧ Below w.heap.size w w'
set_option maxHeartbeats 1000000 in
theorem Try.next_calls (A0 A1 A2 A3 : Option Addr) (c0 c1 c2 c3 : Nat) (a : Lang.Auto) (at_ : Int) (word : ByteArray) (w : World) (h : Try.AutoIn w A0 A1 A2 A3 c1 c2 c3 a) :
    Calls Try.prog 21 #[.agg #[.slice A0 a.words.length c0, .slice A1 a.first.length c1, .slice A2 a.last.length c2, .slice A3 a.follow.length c3, .bool a.empty], .int .i64 at_, .string word] w (Try.NextPost a at_ word w) := by
  have HA := Aside0.mk h
  clear h
  have hb := Aside0.mk (below_alloc (below_alloc (Below.refl w.heap.size w) (.cells #[.slice A0 a.words.length c0, .slice A1 a.first.length c1, .slice A2 a.last.length c2, .slice A3 a.follow.length c3, .bool a.empty] 33)) (.cells #[.string word] 9))
  have hc := Try.there_calls A0 A1 A2 A3 c0 c1 c2 c3 a at_ _ (HA.out.below hb.out).at_
  have t0 : ((w.alloc (.cells #[.slice A0 a.words.length c0, .slice A1 a.first.length c1, .slice A2 a.last.length c2, .slice A3 a.follow.length c3, .bool a.empty] 33)).alloc (.cells #[.string word] 9)).cell? ⟨w.heap.size, 0, none⟩ = some (.slice A0 a.words.length c0) := by go_simp
  have t1 : ((w.alloc (.cells #[.slice A0 a.words.length c0, .slice A1 a.first.length c1, .slice A2 a.last.length c2, .slice A3 a.follow.length c3, .bool a.empty] 33)).alloc (.cells #[.string word] 9)).cell? ⟨w.heap.size, 1, none⟩ = some (.slice A1 a.first.length c1) := by go_simp
  have t3 : ((w.alloc (.cells #[.slice A0 a.words.length c0, .slice A1 a.first.length c1, .slice A2 a.last.length c2, .slice A3 a.follow.length c3, .bool a.empty] 33)).alloc (.cells #[.string word] 9)).cell? ⟨w.heap.size, 3, none⟩ = some (.slice A3 a.follow.length c3) := by go_simp
  have tw : ((w.alloc (.cells #[.slice A0 a.words.length c0, .slice A1 a.first.length c1, .slice A2 a.last.length c2, .slice A3 a.follow.length c3, .bool a.empty] 33)).alloc (.cells #[.string word] 9)).cell? ⟨w.heap.size + 1, 0, none⟩ = some (.string word) := by go_simp
  obtain ⟨b, hbt⟩ : ∃ b, Lang.there a at_ = b := ⟨_, rfl⟩
  rw [hbt] at hc
  have HT := Aside0.mk hbt
  clear hbt
  go_enter Try.func21, Try.ntmps21
  go_wp2_with fail
  refine hc.mono ?_
  rintro e w1 ⟨rfl, hb1⟩
  have HB1 := Aside0.mk (below_step hb.out hb1)
  have s0 := (hb1.cell (p := ⟨w.heap.size, 0, none⟩) (by simp; omega)).trans t0
  have s1 := (hb1.cell (p := ⟨w.heap.size, 1, none⟩) (by simp; omega)).trans t1
  have s3 := (hb1.cell (p := ⟨w.heap.size, 3, none⟩) (by simp; omega)).trans t3
  have sw := (hb1.cell (p := ⟨w.heap.size + 1, 0, none⟩) (by simp)).trans tw
  clear t0 t1 t3 tw hc hb1
  cases b
  · go_wp2_with fail
    go_ret
    have e0 : Lang.next a at_ word = [] := by unfold Lang.next; rw [HT.out]; rfl
    unfold Try.NextPost
    rw [e0]
    exact ⟨none, 0, rfl, ⟨rfl, by simp, fun h => absurd h (by simp)⟩, HB1.out⟩
  · have hrange := Lang.behind_range a at_ HT.out
    obtain ⟨l, hl⟩ : ∃ l, Lang.behind a at_ = l := ⟨_, rfl⟩
    rw [hl] at hrange
    obtain ⟨hl24, hlr⟩ := hrange
    have HL := Aside0.mk hl
    clear hl
    by_cases k : 0 ≤ at_
    · have hth := HT.out
      simp only [Lang.there, Lang.may, Bool.and_eq_true, decide_eq_true_eq] at hth
      have hi : at_.toNat < a.follow.length := by omega
      have hi' : at_ < (a.follow.length : Int) := by omega
      have K := k
      obtain ⟨ad, Ai, ci, rfl, hcell, hlC, hlH⟩ := (HA.out.below HB1.out).f3 at_.toNat hi
      have el : a.follow.getD at_.toNat [] = l := by rw [← HL.out, Lang.behind, if_pos K]
      rw [el] at hcell hlC
      have KK := Aside0.mk K
      clear hth hi el K
      have hcl := Try.clone_int Ai ci l w1 hlC hlH (by omega)
      go_wp2_with fail
      refine hcl.mono ?_
      rintro e w2 ⟨v, rfl, hv, hb2⟩
      have hd := Try.delete_next a.words A0 c0 word w.heap.size (w.heap.size + 1) w1 w2 hb2 (HA.out.below HB1.out).at_.h0 s0 sw v l hv hlr (by omega)
      have HB2 := Aside0.mk HB1.out
      clear hcl s0 s1 s3 sw hlC hlH hlr hv hb2
      go_wp2_with fail
      refine hd.mono ?_
      rintro e w3 ⟨A, c, r, hr, rfl, hrC, hb3⟩
      have HR := Aside0.mk hr
      have HC := Aside0.mk hrC
      have HB3 := Aside0.mk (below_step HB2.out hb3)
      clear hd hr hrC hb3
      go_wp2_with fail
      go_ret
      have e1 : Lang.next a at_ word = r := by rw [Try.next_filter a at_ word HT.out, HL.out, HR.out]
      unfold Try.NextPost
      rw [e1]
      exact ⟨A, c, rfl, HC.out, HB3.out⟩
    · have hlC := (HA.out.below HB1.out).at_.h1
      have hlH := HA.out.g1
      have el : a.first = l := by rw [← HL.out, Lang.behind, if_neg k]
      rw [el] at hlC s1
      clear el
      have k' : decide (at_ ≥ 0) = false := decide_eq_false (by omega)
      have hcl := Try.clone_int A1 c1 l w1 hlC hlH (by omega)
      go_wp2_with fail
      refine hcl.mono ?_
      rintro e w2 ⟨v, rfl, hv, hb2⟩
      have hd := Try.delete_next a.words A0 c0 word w.heap.size (w.heap.size + 1) w1 w2 hb2 (HA.out.below HB1.out).at_.h0 s0 sw v l hv hlr (by omega)
      have HB2 := Aside0.mk HB1.out
      clear hcl s0 s1 s3 sw hlC hlH hlr hv hb2
      go_wp2_with fail
      refine hd.mono ?_
      rintro e w3 ⟨A, c, r, hr, rfl, hrC, hb3⟩
      have HR := Aside0.mk hr
      have HC := Aside0.mk hrC
      have HB3 := Aside0.mk (below_step HB2.out hb3)
      clear hd hr hrC hb3
      go_wp2_with fail
      go_ret
      have e1 : Lang.next a at_ word = r := by rw [Try.next_filter a at_ word HT.out, HL.out, HR.out]
      unfold Try.NextPost
      rw [e1]
      exact ⟨A, c, rfl, HC.out, HB3.out⟩
end Go.Proofs

namespace Go.Proofs
open Go.RowKit Go.Maps Go.Sort Go.Shelf Go.Proofs.YtjobnfbianlpnaaW.PrintWords Go.Proofs.YtjobnfbianlpnaaW.PrintLast
theorem Try.SetIs.of_own {w : World} {b n : Nat} {D : DataW Unit} {U : List Int} (ho : w.ownsMap Try.prog 3 Try.RB b n D) (hn : U.Nodup) (hm : ∀ x, Maps.has D (.int .i64 x) = true ↔ x ∈ U) : Try.SetIs w b U := by
  obtain ⟨es, hD, hpw, _⟩ := ho.entries Try.keyInt
  obtain ⟨es', hD', hko⟩ := ho.keysOf
  obtain rfl : es = es' := by rw [hD] at hD'; simpa using hD'
  have hwf := intKeys_wf ho Try.underlying3
  have ht := Try.own_tight ho
  subst hD
  have hp := perm_intKeys hpw (fun p hp => by obtain ⟨v, hv⟩ := hko p hp; obtain ⟨x, _, hx, _⟩ := Maps.keyOf_i64 Try.underlying3 hv; exact ⟨x, hx⟩) hn (fun x => (hm x).symm)
  have hl : Maps.size (.map es) = U.length := by rw [hp.length_eq]; simp [intKeys, Maps.size]
  rw [hl] at ht
  exact ⟨hn, fun x hx => hwf x (hp.mem_iff.1 hx), _, ht, hm⟩
def Lang.join (S T : List Int) : List Int := S ++ T.filter (fun x => decide (x ∉ S))
theorem Lang.mem_join (S T : List Int) (x : Int) : x ∈ Lang.join S T ↔ x ∈ S ∨ x ∈ T := by
  simp only [Lang.join, List.mem_append, List.mem_filter, decide_eq_true_eq]
  constructor
  · rintro (h | ⟨h, _⟩)
    · exact .inl h
    · exact .inr h
  · rintro (h | h)
    · exact .inl h
    · by_cases e : x ∈ S
      · exact .inl e
      · exact .inr ⟨h, e⟩
theorem Lang.nodup_join (S T : List Int) (h1 : S.Nodup) (h2 : T.Nodup) : (Lang.join S T).Nodup := by
  rw [Lang.join, List.nodup_append]
  refine ⟨h1, h2.filter _, fun a ha b hb e => ?_⟩
  subst e
  rw [List.mem_filter] at hb
  have := hb.2
  simp [ha] at this
theorem Try.clone_set (b : Nat) (S : List Int) (w : World) (h : Try.SetIs w b S) :
    Calls Try.prog 69 #[.map (some b)] w fun e w' => e = .returned (.map (some w.heap.size)) ∧ Try.SetIs w' w.heap.size S ∧ RowKit.Below w.heap.size w w' := by
  obtain ⟨h1, h2, D, hD, h3⟩ := h
  exact (AnyW.maps_Clone_owns Try.lClone 3 Try.RB b S.length D w hD).mono fun e w' ⟨he, ho, _, hb⟩ => ⟨he, ⟨h1, h2, D, ho, h3⟩, hb⟩
theorem Try.copy_set (bd bs : Nat) (S T : List Int) (w : World) (hd : Try.SetIs w bd S) (hs : Try.SetIs w bs T) (hne : bd ≠ bs) (hroom : S.length + T.length ≤ 1000000) :
    Calls Try.prog 70 #[.map (some bd), .map (some bs)] w fun e w' => e = .returned (.tuple #[]) ∧ Try.SetIs w' bd (Lang.join S T) ∧ w.grownBy w' (some bd) := by
  obtain ⟨h1, h2, D, hD, h3⟩ := hd
  obtain ⟨g1, g2, E, hE, g3⟩ := hs
  have hsz : Maps.size E ≤ T.length := by
    obtain ⟨es, clock, hb, F, hs, rfl⟩ := hE
    rw [Maps.size_eq, length_sorted]; simpa using hs
  refine (AnyX.maps_Copy Try.lCopy Try.keyInt Try.RB bd bs S.length T.length D E w hD hE hne (by unfold maxLen; omega)).mono fun e w' ⟨he, ho, _, hg⟩ => ⟨he, Try.SetIs.of_own ho (Lang.nodup_join S T h1 g1) (fun x => ?_), hg⟩
  obtain ⟨es, rfl, hpw, hk⟩ := hE.entries Try.keyInt
  rw [Lang.mem_join, ← h3, ← g3, Lib.mergeD, has_foldPut _ _ _ (hD.isMap) hk, Bool.or_eq_true, has_eq]
set_option maxHeartbeats 1000000 in
theorem Try.with_calls (b1 b2 : Nat) (S T : List Int) (w : World) (h1 : Try.SetIs w b1 S) (h2 : Try.SetIs w b2 T) (hroom : S.length + T.length ≤ 1000000) :
    Calls Try.prog 57 #[.map (some b1), .map (some b2)] w fun e w' => e = .returned (.map (some w.heap.size)) ∧ Try.SetIs w' w.heap.size (Lang.join S T) ∧ RowKit.Below w.heap.size w w' := by
  have hc := Try.clone_set b1 S w h1
  have H2 := Aside0.mk h2
  have hlt := h2.lt
  clear h1 h2
  go_enter Try.func57, Try.ntmps57
  go_wp2_with fail
  refine hc.mono ?_
  rintro e w1 ⟨rfl, hs1, hb1⟩
  have hc2 := Try.copy_set w.heap.size b2 S T w1 hs1 (H2.out.below hb1) (by omega) hroom
  have HB := Aside0.mk hb1
  clear hc hs1 hb1
  go_wp2_with fail
  refine hc2.mono ?_
  rintro e w2 ⟨rfl, hs2, hg2⟩
  have HS := Aside0.mk hs2
  have HB2 : Aside0 (RowKit.Below w.heap.size w w2) := ⟨HB.out.grown hg2 HB.out.size (fun k e => by cases e; exact Nat.le_refl _)⟩
  clear hc2 hs2 hg2
  go_wp2_with fail
  go_ret
  exact ⟨rfl, HS.out, HB2.out⟩
theorem Try.sorts (m : Nat) : AnyZI.SortsIn Try.prog Try.lSorted_ren Fence.wide m :=
  ⟨fun blk off cap ss W hH hblk hsz => callsIn_wide.2 (AnyM.slices_Sort_int Try.lSort blk off cap ss W hH hblk hsz),
   fun p cap W => callsIn_wide.2 (AnyM.slices_Sort_int_none Try.lSort p cap W)⟩
def Lang.rise (S : List Int) : List Int := S.mergeSort leI
set_option maxHeartbeats 1000000 in
theorem Try.list_calls (b : Nat) (S : List Int) (w : World) (h : Try.SetIs w b S) (hroom : S.length ≤ 1000000) :
    Calls Try.prog 20 #[.map (some b)] w fun e w' => ∃ v : Value, e = .returned v ∧ w'.ownsRow w.heap.size 3 1 v (Lang.rise S).length (nums .i64 (Lang.rise S)) ∧ (v = .slice none 0 0 ↔ S = []) ∧ RowKit.Below w.heap.size w w' := by
  obtain ⟨h1, h2, D0, hown, h3⟩ := h
  have hsz : Maps.size D0 ≤ S.length := by
    obtain ⟨es, clock, hb, F, hs, rfl⟩ := hown
    rw [Maps.size_eq, length_sorted]; simpa using hs
  have hperm : S.Perm (intKeys D0) := by
    obtain ⟨es, hD, hpw, _⟩ := hown.entries Try.keyInt
    obtain ⟨es', hD', hko⟩ := hown.keysOf
    obtain rfl : es = es' := by rw [hD] at hD'; simpa using hD'
    subst hD
    exact perm_intKeys hpw (fun p hp => by obtain ⟨v, hv⟩ := hko p hp; obtain ⟨x, _, hx, _⟩ := Maps.keyOf_i64 Try.underlying3 hv; exact ⟨x, hx⟩) h1 (fun x => (h3 x).symm)
  have hmax : Maps.size D0 ≤ maxLen := by unfold maxLen; omega
  have hbytes : Maps.size D0 * 8 ≤ 140737488355328 := by omega
  refine (callsIn_wide (n := 6)).1 ?_
  have hbl := hown.lt
  have hseq : SeqGives Fence.wide 2 Try.prog 60 #[.pointer (some ⟨w.heap.size, 0, none⟩)] encZ (fun ss => ss.Perm (intKeys D0)) (Maps.size D0) (w.alloc (.cells #[.map (some b)] 59)) :=
    AnyZI.keys_gives (ρ := Try.lKeys_ren) { Try.lKeys with } Fence.wide _ trivial rfl (by omega) w.heap.size b S.length D0 _ (by simp) (by simp) (by
      obtain ⟨es, clock, hb, Ft, hs, hD⟩ := hown
      exact ⟨es, clock, (RowKit.Below.heap_alloc _ _ b hbl).trans hb, Ft, hs, hD⟩)
  have cK : ∀ mb W, CallsIn Fence.wide 5 Try.prog 41 #[.map mb] W fun e w' => e = .returned (.func (.func 60) #[] #[.pointer (some ⟨W.heap.size, 0, none⟩)]) ∧ w' = W.alloc (.cells #[.map mb] 59) := fun mb W => AnyZI.keys_in Try.lKeys Fence.wide 5 trivial rfl mb W
  have cS := AnyZI.sorted_in Try.lSorted Fence.wide 5 trivial trivial trivial trivial rfl (by omega) (Try.sorts _) (enters_of Try.func59 (by kernel_rfl) rfl) 60 #[.pointer (some ⟨w.heap.size, 0, none⟩)] trivial (enters_of Try.func60 (by kernel_rfl) rfl) _ _ hmax hbytes _ hseq
  change CallsIn _ _ Try.prog 40 _ _ _ at cS
  have hfK : Fence.wide.fn 41 := trivial
  have hfS : Fence.wide.fn 40 := trivial
  refine callsIn_of_wp Try.func20 rfl trivial ?_ rfl
  simp only [Try.ntmps20, List.size_toArray, List.length_cons, List.length_nil, Nat.reduceAdd, Nat.reduceSub, Array.replicate_succ, Array.replicate_zero, List.push_toArray, List.append_toArray, List.nil_append, List.cons_append]
  gi_wp2_with (first
    | (gi_at_call 41; refine (cK _ _).mono ?_; rintro e w' ⟨rfl, rfl⟩)
    | (gi_at_call 40; refine cS.mono ?_; rintro e w' ⟨v, ss, rfl, hS, hrow, hnil, hb⟩))
  go_ret
  have hp2 : ss.Perm S := hS.trans hperm.symm
  have e1 : ss.mergeSort leI = Lang.rise S := mergeSort_of_perm_i hp2
  have e2 : ss.length = (Lang.rise S).length := by rw [hp2.length_eq, Lang.rise, List.length_mergeSort]
  refine ⟨v, rfl, ?_, by rw [hnil]; constructor <;> (rintro rfl; first | exact hp2.symm.eq_nil | exact hp2.eq_nil), ((RowKit.Below.refl _ w).alloc (Nat.le_refl _) _).trans (hb.mono (by simp))⟩
  have hr := ownsRow_base_a (base' := w.heap.size) hrow (by simp)
  rw [e2] at hr
  have e3 : ss.mergeSort (fun x y => decide (x ≤ y)) = Lang.rise S := e1
  rw [e3] at hr
  exact hr
end Go.Proofs

namespace Go.Proofs.Lang
abbrev Path := Go.Proofs.Ytjobnfbianlpnaa.P.S24
mutual
def places : Path → Nat
  | ⟨k, _, l⟩ => if k = 1 then 1 else placesL l
def placesL : List Path → Nat
  | [] => 0
  | p :: l => places p + placesL l
end
mutual
def wordsOf : Path → List ByteArray
  | ⟨k, w, l⟩ => if k = 1 then [w] else wordsL l
def wordsL : List Path → List ByteArray
  | [] => []
  | p :: l => wordsOf p ++ wordsL l
end
mutual
def nul : Path → Bool
  | ⟨k, _, l⟩ => if k = 1 then false else if k = 2 then nulA l else if k = 4 ∨ k = 6 then true else nulO l
def nulA : List Path → Bool
  | [] => true
  | p :: l => nul p && nulA l
def nulO : List Path → Bool
  | [] => false
  | p :: l => nul p || nulO l
end
mutual
def first : Path → Nat → Int → Prop
  | ⟨k, _, l⟩, o, x => if k = 1 then x = o else if k = 2 then firstS l o x else firstA l o x
def firstS : List Path → Nat → Int → Prop
  | [], _, _ => False
  | p :: l, o, x => first p o x ∨ (nul p = true ∧ firstS l (o + places p) x)
def firstA : List Path → Nat → Int → Prop
  | [], _, _ => False
  | p :: l, o, x => first p o x ∨ firstA l (o + places p) x
end
mutual
def last : Path → Nat → Int → Prop
  | ⟨k, _, l⟩, o, x => if k = 1 then x = o else if k = 2 then lastS l o x else lastA l o x
def lastS : List Path → Nat → Int → Prop
  | [], _, _ => False
  | p :: l, o, x => lastS l (o + places p) x ∨ (nulA l = true ∧ last p o x)
def lastA : List Path → Nat → Int → Prop
  | [], _, _ => False
  | p :: l, o, x => last p o x ∨ lastA l (o + places p) x
end
mutual
def fol : Path → Nat → Int → Int → Prop
  | ⟨k, _, l⟩, o, x, y => if k = 1 then False else if k = 2 then folS l o x y else folA l o x y ∨ ((k = 4 ∨ k = 5) ∧ lastA l o x ∧ firstA l o y)
def folS : List Path → Nat → Int → Int → Prop
  | [], _, _, _ => False
  | p :: l, o, x, y => fol p o x y ∨ folS l (o + places p) x y ∨ (last p o x ∧ firstS l (o + places p) y)
def folA : List Path → Nat → Int → Int → Prop
  | [], _, _, _ => False
  | p :: l, o, x, y => fol p o x y ∨ folA l (o + places p) x y
end
mutual
def okP : Path → Prop
  | ⟨k, _, l⟩ => (k = 1 ∨ k = 2 ∨ k = 3 ∨ ((k = 4 ∨ k = 5 ∨ k = 6) ∧ l.length = 1)) ∧ okL l
def okL : List Path → Prop
  | [] => True
  | p :: l => okP p ∧ okL l
end
theorem okL_mem : ∀ {l : List Path}, okL l → ∀ p ∈ l, okP p
  | [], _, _, h => absurd h (by simp)
  | q :: l, hl, p, h => by
    rw [okL] at hl
    rcases List.mem_cons.1 h with rfl | h
    · exact hl.1
    · exact okL_mem hl.2 p h
theorem placesL_snoc (q : Path) : ∀ l : List Path, placesL (l ++ [q]) = placesL l + places q
  | [] => by simp [placesL]
  | p :: l => by rw [List.cons_append, placesL, placesL, placesL_snoc q l]; omega
theorem wordsL_snoc (q : Path) : ∀ l : List Path, wordsL (l ++ [q]) = wordsL l ++ wordsOf q
  | [] => by simp [wordsL]
  | p :: l => by rw [List.cons_append, wordsL, wordsL, wordsL_snoc q l, List.append_assoc]
theorem nulA_snoc (q : Path) : ∀ l : List Path, nulA (l ++ [q]) = (nulA l && nul q)
  | [] => by simp [nulA]
  | p :: l => by rw [List.cons_append, nulA, nulA, nulA_snoc q l, Bool.and_assoc]
theorem nulO_snoc (q : Path) : ∀ l : List Path, nulO (l ++ [q]) = (nulO l || nul q)
  | [] => by simp [nulO]
  | p :: l => by rw [List.cons_append, nulO, nulO, nulO_snoc q l, Bool.or_assoc]
theorem firstS_snoc (q : Path) (x : Int) : ∀ (l : List Path) (o : Nat), firstS (l ++ [q]) o x ↔ firstS l o x ∨ (nulA l = true ∧ first q (o + placesL l) x)
  | [], o => by simp [firstS, nulA, placesL]
  | p :: l, o => by
    rw [List.cons_append, firstS, firstS, firstS_snoc q x l, nulA, placesL, Nat.add_assoc, Bool.and_eq_true]
    constructor
    · rintro (h | ⟨h, h2 | ⟨h2, h3⟩⟩)
      · exact .inl (.inl h)
      · exact .inl (.inr ⟨h, h2⟩)
      · exact .inr ⟨⟨h, h2⟩, h3⟩
    · rintro ((h | ⟨h, h2⟩) | ⟨⟨h, h2⟩, h3⟩)
      · exact .inl h
      · exact .inr ⟨h, .inl h2⟩
      · exact .inr ⟨h, .inr ⟨h2, h3⟩⟩
theorem firstA_snoc (q : Path) (x : Int) : ∀ (l : List Path) (o : Nat), firstA (l ++ [q]) o x ↔ firstA l o x ∨ first q (o + placesL l) x
  | [], o => by simp [firstA, placesL]
  | p :: l, o => by rw [List.cons_append, firstA, firstA, firstA_snoc q x l, placesL, Nat.add_assoc, or_assoc]
theorem lastA_snoc (q : Path) (x : Int) : ∀ (l : List Path) (o : Nat), lastA (l ++ [q]) o x ↔ lastA l o x ∨ last q (o + placesL l) x
  | [], o => by simp [lastA, placesL]
  | p :: l, o => by rw [List.cons_append, lastA, lastA, lastA_snoc q x l, placesL, Nat.add_assoc, or_assoc]
theorem lastS_snoc (q : Path) (x : Int) : ∀ (l : List Path) (o : Nat), lastS (l ++ [q]) o x ↔ last q (o + placesL l) x ∨ (nul q = true ∧ lastS l o x)
  | [], o => by simp [lastS, nulA, placesL]
  | p :: l, o => by
    rw [List.cons_append, lastS, lastS, lastS_snoc q x l, nulA_snoc, placesL, Nat.add_assoc, Bool.and_eq_true]
    constructor
    · rintro ((h | ⟨h, h2⟩) | ⟨⟨h, h2⟩, h3⟩)
      · exact .inl h
      · exact .inr ⟨h, .inl h2⟩
      · exact .inr ⟨h2, .inr ⟨h, h3⟩⟩
    · rintro (h | ⟨h, h2 | ⟨h2, h3⟩⟩)
      · exact .inl (.inl h)
      · exact .inl (.inr ⟨h, h2⟩)
      · exact .inr ⟨⟨h2, h⟩, h3⟩
theorem folA_snoc (q : Path) (x y : Int) : ∀ (l : List Path) (o : Nat), folA (l ++ [q]) o x y ↔ folA l o x y ∨ fol q (o + placesL l) x y
  | [], o => by simp [folA, placesL]
  | p :: l, o => by rw [List.cons_append, folA, folA, folA_snoc q x y l, placesL, Nat.add_assoc, or_assoc]
theorem folS_snoc (q : Path) (x y : Int) : ∀ (l : List Path) (o : Nat), folS (l ++ [q]) o x y ↔ folS l o x y ∨ fol q (o + placesL l) x y ∨ (lastS l o x ∧ first q (o + placesL l) y)
  | [], o => by simp [folS, firstS, lastS, placesL]
  | p :: l, o => by
    rw [List.cons_append, folS, folS, folS_snoc q x y l, firstS_snoc, lastS, placesL, Nat.add_assoc]
    constructor
    · rintro (h | (h | h | ⟨h, h2⟩) | ⟨h, h2 | ⟨h2, h3⟩⟩)
      · exact .inl (.inl h)
      · exact .inl (.inr (.inl h))
      · exact .inr (.inl h)
      · exact .inr (.inr ⟨.inl h, h2⟩)
      · exact .inl (.inr (.inr ⟨h, h2⟩))
      · exact .inr (.inr ⟨.inr ⟨h2, h⟩, h3⟩)
    · rintro ((h | h | ⟨h, h2⟩) | h | ⟨h | ⟨h, h2⟩, h3⟩)
      · exact .inl h
      · exact .inr (.inl (.inl h))
      · exact .inr (.inr ⟨h, .inl h2⟩)
      · exact .inr (.inl (.inr (.inl h)))
      · exact .inr (.inl (.inr (.inr ⟨h, h3⟩)))
      · exact .inr (.inr ⟨h2, .inr ⟨h, h3⟩⟩)
mutual
theorem wordsOf_length : ∀ p : Path, (wordsOf p).length = places p
  | ⟨k, w, l⟩ => by
    rw [wordsOf, places]; split
    · rfl
    · exact wordsL_length l
theorem wordsL_length : ∀ l : List Path, (wordsL l).length = placesL l
  | [] => by simp [wordsL, placesL]
  | p :: l => by rw [wordsL, placesL, List.length_append, wordsOf_length p, wordsL_length l]
end
mutual
theorem first_range : ∀ (p : Path) (o : Nat) (x : Int), first p o x → (o : Int) ≤ x ∧ x < o + places p
  | ⟨k, w, l⟩, o, x, h => by
    rw [first] at h; rw [places]
    by_cases h1 : k = 1
    · rw [if_pos h1] at h ⊢; omega
    · rw [if_neg h1] at h ⊢
      split at h
      · exact firstS_range l o x h
      · exact firstA_range l o x h
theorem firstS_range : ∀ (l : List Path) (o : Nat) (x : Int), firstS l o x → (o : Int) ≤ x ∧ x < o + placesL l
  | [], o, x, h => by simp [firstS] at h
  | p :: l, o, x, h => by
    rw [firstS] at h; rw [placesL]
    rcases h with h | ⟨_, h⟩
    · have := first_range p o x h; omega
    · have := firstS_range l _ x h; omega
theorem firstA_range : ∀ (l : List Path) (o : Nat) (x : Int), firstA l o x → (o : Int) ≤ x ∧ x < o + placesL l
  | [], o, x, h => by simp [firstA] at h
  | p :: l, o, x, h => by
    rw [firstA] at h; rw [placesL]
    rcases h with h | h
    · have := first_range p o x h; omega
    · have := firstA_range l _ x h; omega
end
mutual
theorem last_range : ∀ (p : Path) (o : Nat) (x : Int), last p o x → (o : Int) ≤ x ∧ x < o + places p
  | ⟨k, w, l⟩, o, x, h => by
    rw [last] at h; rw [places]
    by_cases h1 : k = 1
    · rw [if_pos h1] at h ⊢; omega
    · rw [if_neg h1] at h ⊢
      split at h
      · exact lastS_range l o x h
      · exact lastA_range l o x h
theorem lastS_range : ∀ (l : List Path) (o : Nat) (x : Int), lastS l o x → (o : Int) ≤ x ∧ x < o + placesL l
  | [], o, x, h => by simp [lastS] at h
  | p :: l, o, x, h => by
    rw [lastS] at h; rw [placesL]
    rcases h with h | ⟨_, h⟩
    · have := lastS_range l _ x h; omega
    · have := last_range p o x h; omega
theorem lastA_range : ∀ (l : List Path) (o : Nat) (x : Int), lastA l o x → (o : Int) ≤ x ∧ x < o + placesL l
  | [], o, x, h => by simp [lastA] at h
  | p :: l, o, x, h => by
    rw [lastA] at h; rw [placesL]
    rcases h with h | h
    · have := last_range p o x h; omega
    · have := lastA_range l _ x h; omega
end
mutual
theorem fol_range : ∀ (p : Path) (o : Nat) (x y : Int), fol p o x y → ((o : Int) ≤ x ∧ x < o + places p) ∧ ((o : Int) ≤ y ∧ y < o + places p)
  | ⟨k, w, l⟩, o, x, y, h => by
    rw [fol] at h; rw [places]
    by_cases h1 : k = 1
    · rw [if_pos h1] at h; exact h.elim
    · rw [if_neg h1] at h ⊢
      split at h
      · exact folS_range l o x y h
      · rcases h with h | ⟨_, h, h2⟩
        · exact folA_range l o x y h
        · exact ⟨lastA_range l o x h, firstA_range l o y h2⟩
theorem folS_range : ∀ (l : List Path) (o : Nat) (x y : Int), folS l o x y → ((o : Int) ≤ x ∧ x < o + placesL l) ∧ ((o : Int) ≤ y ∧ y < o + placesL l)
  | [], o, x, y, h => by simp [folS] at h
  | p :: l, o, x, y, h => by
    rw [folS] at h; rw [placesL]
    rcases h with h | h | ⟨h, h2⟩
    · have := fol_range p o x y h; omega
    · have := folS_range l _ x y h; omega
    · have := last_range p o x h; have := firstS_range l _ y h2; omega
theorem folA_range : ∀ (l : List Path) (o : Nat) (x y : Int), folA l o x y → ((o : Int) ≤ x ∧ x < o + placesL l) ∧ ((o : Int) ≤ y ∧ y < o + placesL l)
  | [], o, x, y, h => by simp [folA] at h
  | p :: l, o, x, y, h => by
    rw [folA] at h; rw [placesL]
    rcases h with h | h
    · have := fol_range p o x y h; omega
    · have := folA_range l _ x y h; omega
end
end Go.Proofs.Lang

namespace Go.Proofs
open Go.Shelf Go.RowKit Go.Proofs.YtjobnfbianlpnaaW.PrintWords Go.Proofs.YtjobnfbianlpnaaW.PrintLast
theorem Lang.nodup_bound : ∀ (n : Nat) (lo : Int) (l : List Int), l.Nodup → (∀ x ∈ l, lo ≤ x ∧ x < lo + n) → l.length ≤ n
  | 0, lo, l, _, h => by
    cases l with
    | nil => simp
    | cons x l => have := h x (by simp); omega
  | n + 1, lo, l, hn, h => by
    have h1 := Lang.nodup_bound n lo (l.erase (lo + n)) (hn.erase _) (fun x hx => by
      rw [hn.mem_erase_iff] at hx
      have := h x hx.2
      have := hx.1
      omega)
    by_cases hm : lo + n ∈ l
    · rw [List.length_erase_of_mem hm] at h1; omega
    · rw [List.erase_of_not_mem hm] at h1; omega
theorem Lang.next_range (a : Lang.Auto) (k : Int) (w : ByteArray) : ∀ x ∈ Lang.next a k w, 0 ≤ x ∧ x < 24 := by
  intro x hx
  unfold Lang.next at hx
  split at hx
  · rename_i ht
    have h1 := (Lang.behind_range a k ht).2 x (List.mem_filter.1 hx).1
    simp only [Lang.there, Lang.may, Bool.and_eq_true, decide_eq_true_eq] at ht
    omega
  · cases hx
theorem Lang.run_range (a : Lang.Auto) : ∀ (l : List ByteArray) (S : List Int), (∀ x ∈ S, -1 ≤ x ∧ x < 24) → ∀ x ∈ Lang.run a l S, -1 ≤ x ∧ x < 24
  | [], S, h => h
  | w :: l, S, h => by
    refine Lang.run_range a l (Lang.step a S w) fun x hx => ?_
    obtain ⟨k, _, hx⟩ := List.mem_flatMap.1 hx
    have := Lang.next_range a k w x hx
    omega
theorem Lang.run_snoc (a : Lang.Auto) (l : List ByteArray) (w : ByteArray) (S : List Int) : Lang.run a (l ++ [w]) S = Lang.step a (Lang.run a l S) w := by
  simp [Lang.run, List.foldl_append]
structure Try.BoxAt (w W : World) (A0 A1 A2 A3 : Option Addr) (c0 c1 c2 c3 : Nat) (a : Lang.Auto) : Prop where
  below : Below w.heap.size w W
  box : W.heap[w.heap.size]? = some (.cells #[.slice A0 a.words.length c0, .slice A1 a.first.length c1, .slice A2 a.last.length c2, .slice A3 a.follow.length c3, .bool a.empty] 33 (0, 0))
theorem Try.BoxAt.grown {w W W' : World} {A0 A1 A2 A3 : Option Addr} {c0 c1 c2 c3 : Nat} {a : Lang.Auto} (h : Try.BoxAt w W A0 A1 A2 A3 c0 c1 c2 c3 a) {row : Option Nat} (hg : W.grownBy W' row) (hr : ∀ k, row = some k → w.heap.size < k) : Try.BoxAt w W' A0 A1 A2 A3 c0 c1 c2 c3 a :=
  ⟨h.below.grown hg h.below.size (fun k e => Nat.le_of_lt (hr k e)), blk_grown h.box hg (fun e => by have := hr _ e.symm; omega)⟩
theorem Try.BoxAt.later {w W W' : World} {A0 A1 A2 A3 : Option Addr} {c0 c1 c2 c3 : Nat} {a : Lang.Auto} (h : Try.BoxAt w W A0 A1 A2 A3 c0 c1 c2 c3 a) (hb : Below W.heap.size W W') : Try.BoxAt w W' A0 A1 A2 A3 c0 c1 c2 c3 a :=
  ⟨below_step h.below hb, (hb.block _ (blk_lt h.box)).trans h.box⟩
theorem Try.SetGoes.below {w w' : World} {b r : Nat} {S todo : List Int} (h : Try.SetGoes w b r S todo) (hb : Below w.heap.size w w') : Try.SetGoes w' b r S todo := by
  have hbl := h.is.lt
  have hrl := h.lt
  obtain ⟨h1, h2, h3, h4, D, left, cnt, ⟨es, clock, since, seen, c0, hm, F, hs, hD, hr, rest⟩, h5⟩ := h
  exact ⟨h1, h2, h3, h4, D, left, cnt, ⟨es, clock, since, seen, c0, (hb.block b hbl).trans hm, F, hs, hD, (hb.block r hrl).trans hr, rest⟩, h5⟩
theorem Try.row_put {w w' : World} {b n : Nat} {S l : List Int} {A : Option Addr} (h : (Kd.int .i64).C w A n l) (hS : Try.SetIs w b S) (hg : w.grownBy w' (some b)) : (Kd.int .i64).C w' A n l := by
  refine Kd.C_keep 0 h (g := b) ⟨hg.size, fun i hi hne _ => hg.block i hi (fun e => hne (by cases e; rfl))⟩ ?_
  rintro ad rfl hn rfl
  obtain ⟨_, _, D, ⟨es, clock, hb, _⟩, _⟩ := hS
  obtain ⟨ad', e, hc⟩ := Kd.at_int h 0 (by omega) (by omega)
  cases e
  simp [World.cell?, Addr.add, hb] at hc
set_option maxHeartbeats 4000000 in
theorem Try.accepts_calls (A0 A1 A2 A3 B : Option Addr) (c0 c1 c2 c3 cl : Nat) (a : Lang.Auto) (l : List ByteArray) (w : World) (h : Try.AutoIn w A0 A1 A2 A3 c1 c2 c3 a) (hl : Kd.string.C w B l.length l) :
    Calls Try.prog 12 #[.agg #[.slice A0 a.words.length c0, .slice A1 a.first.length c1, .slice A2 a.last.length c2, .slice A3 a.follow.length c3, .bool a.empty], .slice B l.length cl] w
      fun e w' => e = .returned (.bool (Lang.accepts a l)) ∧ Below w.heap.size w w' := by
  have HA := Aside0.mk h
  have HL := Aside0.mk hl
  have hmax : l.length ≤ 9223372036854775807 := Kd.C_max hl
  clear h hl
  have hmm := @run_makeMap Try.prog
  have hs0 := Try.SetIs.made (w.alloc (.cells #[.slice A0 a.words.length c0, .slice A1 a.first.length c1, .slice A2 a.last.length c2, .slice A3 a.follow.length c3, .bool a.empty] 33))
  have e1 : (w.alloc (.cells #[.slice A0 a.words.length c0, .slice A1 a.first.length c1, .slice A2 a.last.length c2, .slice A3 a.follow.length c3, .bool a.empty] 33)).heap.size = w.heap.size + 1 := by simp
  rw [e1] at hs0
  go_enter Try.func12, Try.ntmps12
  go_wp2_with (first | (refine Try.wp_put rfl _ _ _ (.inr rfl) hs0 rfl rfl rfl (Try.okI_of (by decide) (by decide)) (by decide) ?_; intro w1 hs1 hg1))
  have HB0 : Aside0 (Try.BoxAt w w1 A0 A1 A2 A3 c0 c1 c2 c3 a) := by
    have hb1 : Below w.heap.size w ((w.alloc (.cells #[.slice A0 a.words.length c0, .slice A1 a.first.length c1, .slice A2 a.last.length c2, .slice A3 a.follow.length c3, .bool a.empty] 33)).alloc (.map #[] 0)) := below_alloc (below_alloc (Below.refl w.heap.size w) _) _
    refine ⟨Try.BoxAt.grown ⟨hb1, ?_⟩ hg1 (fun k e => by cases e; omega)⟩
    rw [Below.heap_alloc _ _ _ (by simp)]
    exact (MapKept.heap_alloc w _).1
  clear hs0 hg1 e1
  go_loopg [5, 17] l.length (fun kq v5 v17 W => ∃ (i b : Nat) (S : List Int), v5 = .map (some b) ∧ v17 = .int .i64 (i : Int) ∧ i + kq = l.length ∧ Aside0 (Try.SetIs W b S) ∧ Aside0 (∀ x, x ∈ S ↔ x ∈ Lang.run a (l.take i) [-1]) ∧ Aside0 (Try.BoxAt w W A0 A1 A2 A3 c0 c1 c2 c3 a) ∧ w.heap.size < b)
  case atStart => exact ⟨0, w.heap.size + 1, Lang.ins [] (-1), rfl, rfl, by omega, ⟨hs1⟩, ⟨fun x => by rw [Lang.mem_ins]; simp [Lang.run]⟩, HB0, by omega⟩
  case round =>
    clear HB0 hs1
    obtain ⟨i, b, S, rfl, rfl, hik, hS, hSe, hBx, hbb⟩ := hrel
    have HIK := Aside0.mk hik
    have hSr : ∀ x ∈ S, -1 ≤ x ∧ x < 24 := fun x hx => Lang.run_range a _ [-1] (by simp) x ((hSe.out x).1 hx)
    have hSl : S.length ≤ 25 := Lang.nodup_bound 25 (-1) S hS.out.1 (fun x hx => by have := hSr x hx; omega)
    clear hSr
    by_cases hlt : i < l.length
    · obtain ⟨ad, rfl, hcell⟩ := Kd.at_string (Kd.C_below HL.out hBx.out.below) i (by omega) (by omega)
      obtain ⟨word, hword⟩ : ∃ x, rdOf ByteArray.empty l i = x := ⟨_, rfl⟩
      have e0 : (i : Int).toNat = i := Int.toNat_natCast i
      rw [hword, e0] at hcell
      have htake : l.take (i + 1) = l.take i ++ [word] := by
        rw [List.take_succ_eq_append_getElem hlt, ← hword]; simp [rdOf, hlt]
      have HTK := Aside0.mk htake
      have hle : i ≤ 9223372036854775806 := by omega
      clear hik e0 htake hword
      have hs2 := (hS.out.kept (World.grownBy_alloc wr (.map #[] 0) none) (by simp))
      have hn2 := Aside0.mk (Try.SetIs.made wr)
      have hbx2 := Aside0.mk (hBx.out.later (below_alloc (Below.refl _ _) (.map #[] 0)))
      have hbl := hS.out.lt
      go_wp2_with (first | (refine Try.wp_range rfl _ rfl hs2 rfl ?_; intro w2 hg2 hgr2 hsz2))
      go_frame
      have e2 : (wr.alloc (.map #[] 0)).heap.size = wr.heap.size + 1 := by simp
      rw [e2] at hg2 hsz2 ⊢
      have hn3 : Aside0 (Try.SetIs w2 wr.heap.size []) := ⟨hn2.out.kept hgr2 (by simp)⟩
      have hbx3 : Aside0 (Try.BoxAt w w2 A0 A1 A2 A3 c0 c1 c2 c3 a) := ⟨hbx2.out.grown hgr2 (fun k e => by cases e)⟩
      have hwl := hBx.out.below.size
      obtain ⟨wo, rfl⟩ : ∃ wo : World, wo = wr := ⟨_, rfl⟩
      obtain ⟨go, rfl⟩ : ∃ go : Nat, go = gk := ⟨_, rfl⟩
      clear hs2 hn2 hbx2 hcell e2 hgr2 hBx
      go_loopg [] S.length (fun kq W => ∃ (todo S2 : List Int), kq = todo.length ∧ Aside0 (Try.SetGoes W b (wo.heap.size + 1) S todo) ∧ Aside0 (Try.SetIs W wo.heap.size S2) ∧ Aside0 (∀ x, x ∈ S2 ↔ ∃ k, k ∈ S ∧ k ∉ todo ∧ x ∈ Lang.next a k word) ∧ Aside0 (Try.BoxAt w W A0 A1 A2 A3 c0 c1 c2 c3 a) ∧ wo.heap.size + 2 ≤ W.heap.size)
      case atStart => exact ⟨S, [], rfl, ⟨hg2⟩, hn3, ⟨fun x => by simp; intro k h1 h2; exact absurd h1 h2⟩, hbx3, by omega⟩
      case round =>
        clear hn3 hbx3 hg2 hsz2
        obtain ⟨todo, S2, hkq, hgo, hS2, hmem, hbx, hwsz⟩ := hrel
        have HKQ := Aside0.mk hkq
        clear hkq
        go_wp2_with (first | (refine Try.wp_next rfl _ rfl hgo.out rfl ?_ ?_))
        · intro htd
          have HTD := Aside0.mk htd
          clear htd
          go_wp2_with fail
          go_roundg (go - 1)
          case measure => have := HIK.out; omega
          case rel =>
            refine ⟨i + 1, wo.heap.size, S2, rfl, by go_num, by have := HIK.out; omega, hS2, ⟨fun x => ?_⟩, hbx, by omega⟩
            rw [hmem.out, HTK.out, Lang.run_snoc, Lang.step, List.mem_flatMap]
            constructor
            · rintro ⟨k, h1, _, h3⟩; exact ⟨k, (hSe.out k).1 h1, h3⟩
            · rintro ⟨k, h1, h3⟩; exact ⟨k, (hSe.out k).2 h1, by rw [HTD.out]; simp, h3⟩
        · intro k cb w3 hkt hkok hgo3 hgr3 hsz3 hen
          have hbx3 := Aside0.mk (hbx.out.grown hgr3 (fun j e => by cases e; omega))
          have hS23 : Aside0 (Try.SetIs w3 wo.heap.size S2) := ⟨hS2.out.kept hgr3 (by simp)⟩
          have HGO := Aside0.mk hgo3
          have HKT := Aside0.mk hkt
          have HND : Aside0 (todo.Nodup ∧ ∀ x ∈ todo, x ∈ S) := ⟨hgo.out.2.2.1, hgo.out.2.2.2.1⟩
          clear hgo hS2 hbx hgr3 hgo3 hkt
          have q0 := (blk_cell hbx3.out.box 0).trans rfl
          have q1 := (blk_cell hbx3.out.box 1).trans rfl
          have q2 := (blk_cell hbx3.out.box 2).trans rfl
          have q3 := (blk_cell hbx3.out.box 3).trans rfl
          have q4 := (blk_cell hbx3.out.box 4).trans rfl
          have hc := Try.next_calls A0 A1 A2 A3 c0 c1 c2 c3 a k word w3 (HA.out.below hbx3.out.below)
          go_wp2_with fail
          refine hc.mono ?_
          rintro e w4 ⟨AL, cL, rfl, hLC, hb4⟩
          obtain ⟨L, hL⟩ : ∃ L, Lang.next a k word = L := ⟨_, rfl⟩
          rw [hL] at hLC
          rw [hL]
          have HLL := Aside0.mk hL
          have HLC := Aside0.mk hLC
          have hLmax : L.length ≤ 9223372036854775807 := Kd.C_max hLC
          have hLr : ∀ x ∈ L, 0 ≤ x ∧ x < 24 := by rw [← hL]; exact Lang.next_range a k word
          have HLR := Aside0.mk hLr
          have hbx4 := Aside0.mk (hbx3.out.later hb4)
          have hS24 := Aside0.mk (hS23.out.below hb4)
          have hg4 := Aside0.mk (HGO.out.below hb4)
          have hsz4 : wo.heap.size + 2 ≤ w4.heap.size := by have := hb4.size; omega
          clear hc hLC hLr hL hb4 hbx3 hS23 hsz3 q0 q1 q2 q3 q4 HGO
          go_wp2_with fail
          obtain ⟨gi, rfl⟩ : ∃ gi : Nat, gi = gk := ⟨_, rfl⟩
          go_loopg [33] L.length (fun kq v33 W => ∃ (j : Nat) (S3 : List Int), v33 = .int .i64 (j : Int) ∧ j + kq = L.length ∧ Aside0 (Try.SetGoes W b (wo.heap.size + 1) S (todo.erase k)) ∧ Aside0 (Try.SetIs W wo.heap.size S3) ∧ Aside0 (∀ x, x ∈ S3 ↔ x ∈ S2 ∨ x ∈ L.take j) ∧ Aside0 (Try.BoxAt w W A0 A1 A2 A3 c0 c1 c2 c3 a) ∧ wo.heap.size + 2 ≤ W.heap.size ∧ Aside0 ((Kd.int .i64).C W AL L.length L))
          case atStart => exact ⟨0, S2, rfl, by omega, hg4, hS24, ⟨fun x => by simp⟩, hbx4, by omega, HLC⟩
          case round =>
            clear hg4 hS24 hbx4 HLC hsz4
            obtain ⟨j, S3, rfl, hjk, hg5, hS3, hm3, hbx5, hsz5, hLC⟩ := hrel
            have HJK := Aside0.mk hjk
            by_cases hj : j < L.length
            · obtain ⟨ad, rfl, hcell⟩ := Kd.at_int hLC.out j (by omega) (by omega)
              have e0 : (j : Int).toNat = j := Int.toNat_natCast j
              rw [e0] at hcell
              have hd : L.take (j + 1) = L.take j ++ [rd L j] := by rw [List.take_succ_eq_append_getElem hj]; simp [rd, hj]
              have hxL : rd L j ∈ L := by simp [rd, hj]
              obtain ⟨x, hx⟩ : ∃ x, rd L j = x := ⟨_, rfl⟩
              rw [hx] at hcell hd hxL
              have HD := Aside0.mk hd
              have hx2 := HLR.out x hxL
              have hok : Aside0 (Try.okI x) := ⟨Try.okI_of (by omega) (by omega)⟩
              have hj2 : j ≤ 9223372036854775806 := by omega
              have hS3l : Aside0 (S3.length < 9223372036854775807) := ⟨by
                have h24 := Lang.nodup_bound 24 0 S3 hS3.out.1 (fun y hy => by
                  rcases (hm3.out y).1 hy with hy | hy
                  · obtain ⟨k', _, _, hn⟩ := (hmem.out y).1 hy
                    have := Lang.next_range a k' word y hn
                    omega
                  · have := HLR.out y (List.mem_of_mem_take hy)
                    omega)
                omega⟩
              clear hjk e0 hd hxL hx hx2
              go_wp2_with (first | (refine Try.wp_put rfl _ _ _ (.inl rfl) hS3.out rfl rfl rfl hok.out hS3l.out ?_; intro w6 hs6 hg6))
              go_roundg (gk - 1)
              case measure => have := HJK.out; omega
              case rel =>
                have hlt6 := hg5.out.is.lt
                refine ⟨j + 1, Lang.ins S3 x, by go_num, by have := HJK.out; omega, ⟨hg5.out.kept hg6 (by intro e; injection e with e; omega) (by intro e; injection e with e; omega)⟩, ⟨hs6⟩, ⟨fun y => ?_⟩, ⟨hbx5.out.grown hg6 (fun j e => by cases e; omega)⟩, by have := hg6.size; omega, ⟨Try.row_put hLC.out hS3.out hg6⟩⟩
                rw [Lang.mem_ins, hm3.out, HD.out, List.mem_append, List.mem_singleton, or_assoc]
            · have e : j = L.length := by omega
              have HE := Aside0.mk e
              clear hjk e
              go_wp2_with fail
              go_roundg (gi - 1)
              case measure =>
                have hkt := HKT.out
                have := HKQ.out
                have hpos : 0 < todo.length := List.length_pos_of_mem hkt
                omega
              case rel =>
                have hkt := HKT.out
                have hnd := hg5.out
                refine ⟨todo.erase k, S3, ?_, hg5, hS3, ⟨fun y => ?_⟩, hbx5, by omega⟩
                · rw [List.length_erase_of_mem hkt]; have := HKQ.out; omega
                · rw [hm3.out, HE.out, List.take_length, hmem.out, ← HLL.out]
                  have hn := HND.out
                  constructor
                  · rintro (⟨k', h1, h2, h3⟩ | h)
                    · exact ⟨k', h1, fun h => h2 (List.mem_of_mem_erase h), h3⟩
                    · exact ⟨k, hn.2 k hkt, fun h => by rw [hn.1.mem_erase_iff] at h; exact h.1 rfl, h⟩
                  · rintro ⟨k', h1, h2, h3⟩
                    by_cases e : k' = k
                    · subst e; exact .inr h3
                    · exact .inl ⟨k', h1, fun h => h2 (by rw [hn.1.mem_erase_iff]; exact ⟨e, h⟩), h3⟩
    · have e : i = l.length := by omega
      have hfin : Aside0 (∀ x, x ∈ S ↔ x ∈ Lang.run a l [-1]) := ⟨fun x => by rw [hSe.out, e, List.take_length]⟩
      clear hSe
      have HIK := hik
      clear hik HIK e
      go_wp2_with (first | (refine Try.wp_range rfl _ rfl hS.out rfl ?_; intro w2 hg2 hgr2 hsz2))
      go_frame
      have hbx2 : Aside0 (Try.BoxAt w w2 A0 A1 A2 A3 c0 c1 c2 c3 a) := ⟨hBx.out.grown hgr2 (fun k e => by cases e)⟩
      have hwl := blk_lt hBx.out.box
      obtain ⟨wo, rfl⟩ : ∃ wo : World, wo = wr := ⟨_, rfl⟩
      clear hS hBx hgr2
      go_loopg [] S.length (fun kq W => ∃ (todo : List Int), kq = todo.length ∧ Aside0 (Try.SetGoes W b wo.heap.size S todo) ∧ Aside0 (∀ k ∈ S, k ∉ todo → Lang.ends a k = false) ∧ Aside0 (Try.BoxAt w W A0 A1 A2 A3 c0 c1 c2 c3 a))
      case atStart => exact ⟨S, rfl, ⟨hg2⟩, ⟨fun k h1 h2 => absurd h1 h2⟩, hbx2⟩
      case round =>
        clear hbx2 hg2 hsz2
        obtain ⟨todo, hkq, hgo, hno, hbx⟩ := hrel
        have HKQ := Aside0.mk hkq
        clear hkq
        go_wp2_with (first | (refine Try.wp_next rfl _ rfl hgo.out rfl ?_ ?_))
        · intro htd
          have HTD := Aside0.mk htd
          clear htd
          go_wp2_with fail
          go_ret
          refine ⟨ret_bool ?_, hbx.out.below⟩
          symm
          rw [Lang.accepts, List.any_eq_false]
          intro k hk
          rw [hno.out k ((hfin.out k).2 hk) (by rw [HTD.out]; simp)]
          simp
        · intro k cb w3 hkt hkok hgo3 hgr3 hsz3 hen
          have hbx3 := Aside0.mk (hbx.out.grown hgr3 (fun j e => by cases e; omega))
          have HGO := Aside0.mk hgo3
          have HKT := Aside0.mk hkt
          have HND : Aside0 (todo.Nodup ∧ ∀ x ∈ todo, x ∈ S) := ⟨hgo.out.2.2.1, hgo.out.2.2.2.1⟩
          clear hgo hbx hgr3 hgo3 hkt
          have q0 := (blk_cell hbx3.out.box 0).trans rfl
          have q1 := (blk_cell hbx3.out.box 1).trans rfl
          have q2 := (blk_cell hbx3.out.box 2).trans rfl
          have q3 := (blk_cell hbx3.out.box 3).trans rfl
          have q4 := (blk_cell hbx3.out.box 4).trans rfl
          have hc := Try.ends_calls A0 A1 A2 A3 c0 c1 c2 c3 a k w3 (HA.out.below hbx3.out.below).at_
          obtain ⟨en, hE⟩ : ∃ en, Lang.ends a k = en := ⟨_, rfl⟩
          rw [hE] at hc
          have HE := Aside0.mk hE
          clear hE
          go_wp2_with fail
          refine hc.mono ?_
          rintro e w4 ⟨rfl, hb4⟩
          have hbx4 := Aside0.mk (hbx3.out.later hb4)
          have hg4 := Aside0.mk (HGO.out.below hb4)
          clear hc hb4 hbx3 hsz3 q0 q1 q2 q3 q4 HGO
          cases en
          · go_wp2_with fail
            go_roundg (gk - 1)
            case measure =>
              have hkt := HKT.out
              have := HKQ.out
              have hpos : 0 < todo.length := List.length_pos_of_mem hkt
              omega
            case rel =>
              have hkt := HKT.out
              refine ⟨todo.erase k, ?_, hg4, ⟨fun y h1 h2 => ?_⟩, hbx4⟩
              · rw [List.length_erase_of_mem hkt]; have := HKQ.out; omega
              · by_cases e : y = k
                · rw [e]; exact HE.out
                · exact hno.out y h1 fun h => h2 (by rw [HND.out.1.mem_erase_iff]; exact ⟨e, h⟩)
          · go_wp2_with fail
            go_ret
            refine ⟨ret_bool ?_, hbx4.out.below⟩
            symm
            rw [Lang.accepts, List.any_eq_true]
            exact ⟨k, (hfin.out k).1 (HND.out.2 k HKT.out), HE.out⟩
end Go.Proofs

namespace Go.Proofs
open Go.RowKit Go.Shelf Go.Proofs.YtjobnfbianlpnaaW.PrintWords Go.Proofs.YtjobnfbianlpnaaW.PrintLast Go.Proofs.Ytjobnfbianlpnaa.P
def Try.SetP (w : World) (b : Nat) (p : Int → Prop) : Prop := ∃ S, Try.SetIs w b S ∧ (∀ x, x ∈ S ↔ p x) ∧ ∀ x ∈ S, 0 ≤ x ∧ x < 24
structure Try.Kept (w w' : World) : Prop where
  size : w.heap.size ≤ w'.heap.size
  block : ∀ (i : Nat) (o : Obj), w.heap[i]? = some o → (∀ cs T f, o = Obj.cells cs T f → T ≠ 9 ∧ T ≠ 59 ∧ T ≠ 57) → w'.heap[i]? = some o
theorem Try.Kept.trans {w w' w'' : World} (h : Try.Kept w w') (k : Try.Kept w' w'') : Try.Kept w w'' := ⟨Nat.le_trans h.size k.size, fun i o hi ho => k.block i o (h.block i o hi ho) ho⟩
theorem Try.Kept.below {w w' : World} (h : Below w.heap.size w w') : Try.Kept w w' := ⟨h.size, fun i o hi _ => (h.block i (blk_lt hi)).trans hi⟩
theorem Try.Kept.grown {w w' : World} {row : Option Nat} (hg : w.grownBy w' row) (hr : ∀ k, row = some k → ∃ cs T f, w.heap[k]? = some (.cells cs T f) ∧ (T = 9 ∨ T = 59 ∨ T = 57)) : Try.Kept w w' :=
  ⟨hg.size, fun i o hi ho => (hg.block i (blk_lt hi) (fun e => by
    obtain ⟨cs, T, f, hb, hT⟩ := hr i e.symm
    rw [hi] at hb
    have := ho cs T f (Option.some.inj hb)
    rcases hT with h | h | h
    · exact this.1 h
    · exact this.2.1 h
    · exact this.2.2 h)).trans hi⟩
theorem Try.Kept.box {w w' : World} (h : Try.Kept w w') {i : Nat} {cs : Array Value} {T : TypeId} {f : Nat × Nat} (hi : w.heap[i]? = some (.cells cs T f)) (h1 : T ≠ 9) (h2 : T ≠ 59) (h3 : T ≠ 57) : w'.heap[i]? = some (.cells cs T f) :=
  h.block i _ hi (fun cs' T' f' e => by cases e; exact ⟨h1, h2, h3⟩)
theorem Try.SetIs.keep {w w' : World} {b : Nat} {S : List Int} (h : Try.SetIs w b S) (hk : Try.Kept w w') : Try.SetIs w' b S := by
  obtain ⟨h1, h2, D, ⟨es, clock, hb, F, hs, hD⟩, h3⟩ := h
  exact ⟨h1, h2, D, ⟨es, clock, hk.block b _ hb (fun cs T f e => by cases e), F, hs, hD⟩, h3⟩
theorem Try.SetP.keep {w w' : World} {b : Nat} {p : Int → Prop} (h : Try.SetP w b p) (hk : Try.Kept w w') : Try.SetP w' b p := by
  obtain ⟨S, h1, h2, h3⟩ := h; exact ⟨S, h1.keep hk, h2, h3⟩
theorem Try.SetP.iff {w : World} {b : Nat} {p q : Int → Prop} (h : Try.SetP w b p) (hpq : ∀ x, p x ↔ q x) : Try.SetP w b q := by
  obtain ⟨S, h1, h2, h3⟩ := h; exact ⟨S, h1, fun x => (h2 x).trans (hpq x), h3⟩
theorem Try.SetIs.len {w : World} {b : Nat} {S : List Int} (h : Try.SetIs w b S) (h3 : ∀ x ∈ S, 0 ≤ x ∧ x < 24) : S.length ≤ 24 := Lang.nodup_bound 24 0 S h.1 (fun x hx => by have := h3 x hx; omega)
theorem Try.SetP.with {w : World} {b1 b2 : Nat} {p q : Int → Prop} (h1 : Try.SetP w b1 p) (h2 : Try.SetP w b2 q) :
    Calls Try.prog 57 #[.map (some b1), .map (some b2)] w fun e w' => e = .returned (.map (some w.heap.size)) ∧ Try.SetP w' w.heap.size (fun x => p x ∨ q x) ∧ Below w.heap.size w w' := by
  obtain ⟨S, hS, hp, hr⟩ := h1
  obtain ⟨T, hT, hq, hr2⟩ := h2
  have l1 := hS.len hr
  have l2 := hT.len hr2
  refine (Try.with_calls b1 b2 S T w hS hT (by omega)).mono fun e w' ⟨he, hs, hb⟩ => ⟨he, ⟨_, hs, fun x => by rw [Lang.mem_join, hp, hq], fun x hx => ?_⟩, hb⟩
  rcases (Lang.mem_join S T x).1 hx with h | h
  · exact hr x h
  · exact hr2 x h
def Try.mp (b : Nat) : Value := .map (some b)
structure Try.MkAt (w0 w : World) (bm : Nat) (ws : List ByteArray) (F : Int → Int → Prop) : Prop where
  below : Below w0.heap.size w0 w
  lo : w0.heap.size ≤ bm
  ex : ∃ (vw vf : Value) (fs : List Nat), w.heap[bm]? = some (.cells #[vw, vf] 57 (0, 0)) ∧ w.ownsRow w0.heap.size 9 1 vw ws.length (ws.map Value.string) ∧ w.ownsRow w0.heap.size 59 1 vf fs.length (fs.map Try.mp) ∧ fs.length = ws.length ∧ ∀ (i : Nat) (b : Nat), fs[i]? = some b → Try.SetP w b (F i)
  bound : ∀ x y, F x y → 0 ≤ x ∧ x < ws.length
theorem Try.own_block {w : World} {base : Nat} {e : TypeId} {size : Nat} {v : Value} {n : Nat} {xs : List Value} (h : w.ownsRow base e size v n xs) : ∀ k, v.ownBlock = some k → base ≤ k ∧ ∃ cs, w.heap[k]? = some (.cells cs e (0, 0)) := by
  intro k hk
  rcases h.2 with ⟨rfl, _⟩ | ⟨g, cap, cur, rfl, hb, hg, _⟩
  · cases hk
  · cases hk
    exact ⟨hb, cur, hg⟩
theorem Try.MkAt.iff {w0 w : World} {bm : Nat} {ws : List ByteArray} {F G : Int → Int → Prop} (h : Try.MkAt w0 w bm ws F) (hFG : ∀ x y, F x y ↔ G x y) : Try.MkAt w0 w bm ws G := by
  obtain ⟨h1, h2, ⟨vw, vf, fs, a, b, c, d, e⟩, h4⟩ := h
  exact ⟨h1, h2, ⟨vw, vf, fs, a, b, c, d, fun i k hk => (e i k hk).iff (hFG i)⟩, fun x y hxy => h4 x y ((hFG x y).2 hxy)⟩
theorem Try.MkAt.later {w0 w w' : World} {bm : Nat} {ws : List ByteArray} {F : Int → Int → Prop} (h : Try.MkAt w0 w bm ws F) (hb : Below w.heap.size w w') : Try.MkAt w0 w' bm ws F := by
  obtain ⟨h1, h2, ⟨vw, vf, fs, a, b, c, d, e⟩, h4⟩ := h
  have own : ∀ {T : TypeId} {v : Value} {n : Nat} {xs : List Value}, w.ownsRow w0.heap.size T 1 v n xs → w'.ownsRow w0.heap.size T 1 v n xs := by
    intro T v n xs h
    refine ⟨h.1, ?_⟩
    rcases h.2 with h | ⟨g, cap, cur, e1, e2, e3, e4⟩
    · exact .inl h
    · exact .inr ⟨g, cap, cur, e1, e2, (hb.block g (blk_lt e3)).trans e3, e4⟩
  exact ⟨below_step h1 hb, h2, ⟨vw, vf, fs, (hb.block bm (blk_lt a)).trans a, own b, own c, d, fun i k hk => (e i k hk).keep (.below hb)⟩, h4⟩
def Try.PiecePost (w0 w : World) (bm : Nat) (ws : List ByteArray) (F : Int → Int → Prop) (e : Ending) (w' : World) (ws1 : List ByteArray) (F1 : Int → Int → Prop) (p q : Int → Prop) (nu : Bool) : Prop :=
  ∃ b1 b2, e = .returned (.agg #[.map (some b1), .map (some b2), .bool nu]) ∧ Try.MkAt w0 w' bm (ws ++ ws1) (fun x y => F x y ∨ F1 x y) ∧ Try.SetP w' b1 p ∧ Try.SetP w' b2 q ∧ Try.Kept w w'
theorem Try.grown_set (w : World) (a : Addr) (u : Value) : w.grownBy (w.setCell a u) (some a.block) :=
  ⟨by simp [World.setCell], by simp [World.setCell], by simp [World.setCell], by simp [World.setCell], fun i _ hne => Below.heap_setCell w a u i (fun e => hne (by rw [e]))⟩
theorem Try.own_ne {w : World} {base : Nat} {e : TypeId} {size : Nat} {v : Value} {n : Nat} {xs : List Value} (h : w.ownsRow base e size v n xs) {g : Nat} {cs : Array Value} {T : TypeId} {f : Nat × Nat} (hg : w.heap[g]? = some (.cells cs T f)) (hne : T ≠ e) : some g ≠ v.ownBlock := by
  intro he
  obtain ⟨_, cs', h'⟩ := Try.own_block h g he.symm
  rw [hg] at h'
  cases h'
  exact hne rfl
theorem Try.SetIs.cells {w w' : World} {b r : Nat} {S : List Int} {cs : Array Value} {T : TypeId} {f : Nat × Nat} (h : Try.SetIs w b S) (hg : w.grownBy w' (some r)) (hr : w.heap[r]? = some (.cells cs T f)) : Try.SetIs w' b S :=
  h.kept hg (fun e => by
    cases e
    obtain ⟨_, _, D, ⟨es, clock, hb, _⟩, _⟩ := h
    rw [hr] at hb; cases hb)
theorem Try.SetP.cells {w w' : World} {b r : Nat} {p : Int → Prop} {cs : Array Value} {T : TypeId} {f : Nat × Nat} (h : Try.SetP w b p) (hg : w.grownBy w' (some r)) (hr : w.heap[r]? = some (.cells cs T f)) : Try.SetP w' b p := by
  obtain ⟨S, h1, h2, h3⟩ := h; exact ⟨S, h1.cells hg hr, h2, h3⟩
theorem Try.MkAt.grown {w0 w w' : World} {bm r : Nat} {ws : List ByteArray} {F : Int → Int → Prop} {cs : Array Value} {T : TypeId} {f : Nat × Nat} (h : Try.MkAt w0 w bm ws F) (hg : w.grownBy w' (some r)) (hr : w.heap[r]? = some (.cells cs T f)) (hT1 : T ≠ 9) (hT2 : T ≠ 59) (hT3 : T ≠ 57) (hlo : w0.heap.size ≤ r) : Try.MkAt w0 w' bm ws F := by
  obtain ⟨h1, h2, ⟨vw, vf, fs, a, b, c, d, e⟩, h4⟩ := h
  exact ⟨h1.grown hg h1.size (fun k e => by cases e; exact hlo), h2, ⟨vw, vf, fs, blk_grown a hg (fun e => by cases e; rw [hr] at a; cases a; exact hT3 rfl), b.kept hg (.inr (Try.own_ne b hr hT1).symm), c.kept hg (.inr (Try.own_ne c hr hT2).symm), d, fun i k hk => (e i k hk).cells hg hr⟩, h4⟩
theorem Try.three {w w' : World} {r : Nat} {a b c : Value} (h : ((w.setCell ⟨r, 0, none⟩ a).setCell ⟨r, 1, none⟩ b).setCell ⟨r, 2, none⟩ c = w') : w.grownBy w' (some r) := by
  subst h
  exact ((Try.grown_set w ⟨r, 0, none⟩ a).trans (Try.grown_set _ ⟨r, 1, none⟩ b)).trans (Try.grown_set _ ⟨r, 2, none⟩ c)
theorem Try.three_box {w w' : World} {r : Nat} {a b c a0 b0 c0 : Value} (hr : w.heap[r]? = some (.cells #[a0, b0, c0] 61 (0, 0))) (h : ((w.setCell ⟨r, 0, none⟩ a).setCell ⟨r, 1, none⟩ b).setCell ⟨r, 2, none⟩ c = w') : w'.heap[r]? = some (.cells #[a, b, c] 61 (0, 0)) := by
  subst h
  exact blk_put (cs := #[a, b, c0]) (blk_put (cs := #[a, b0, c0]) (blk_put hr 0 _ rfl) 1 _ rfl) 2 _ rfl
theorem Try.piece_res {fn : Func} {p : Tmp} (h : fn.results = #[.cell p 61]) (tmps : Array Value) (w : World) (r : Nat) (cs : Array Value) (hl : cs.size = 3) (hp : tmps.getD p undef = .pointer (some ⟨r, 0, none⟩)) (hg : w.heap[r]? = some (.cells cs 61 (0, 0))) : (results fn tmps).run Try.prog w = .ok (.agg cs) w :=
  results_cell_row h tmps w r 61 cs (0, 0) _ hp hg Try.underlying61 rfl (by rw [hl]; kernel_rfl)
theorem Try.piece_end {w0 w W8 W9 : World} {bm : Nat} {ws ws1 : List ByteArray} {F F1 : Int → Int → Prop} {p q : Int → Prop} {nu : Bool} {b1 b2 r : Nat} {cs : Array Value} {a b c : Value}
    (hM : Try.MkAt w0 W8 bm (ws ++ ws1) (fun x y => F x y ∨ F1 x y)) (h1 : Try.SetP W8 b1 p) (h2 : Try.SetP W8 b2 q) (hk : Try.Kept w W8) (h0 : w0.heap.size ≤ w.heap.size) (hr : w.heap.size ≤ r) (hbox : W8.heap[r]? = some (.cells cs 61 (0, 0)))
    (h9 : ((W8.setCell ⟨r, 0, none⟩ a).setCell ⟨r, 1, none⟩ b).setCell ⟨r, 2, none⟩ c = W9) : Try.PiecePost w0 w bm ws F (.returned (.agg #[.map (some b1), .map (some b2), .bool nu])) W9 ws1 F1 p q nu := by
  have hg := Try.three h9
  exact ⟨b1, b2, rfl, hM.grown hg hbox (by decide) (by decide) (by decide) (by omega), h1.cells hg hbox, h2.cells hg hbox, ⟨Nat.le_trans hk.size hg.size, fun i o hi ho => (hg.block i (blk_lt (hk.block i o hi ho)) (fun e => by have := blk_lt hi; cases e; omega)).trans (hk.block i o hi ho)⟩⟩
theorem Try.put_below {w w' : World} {o : Obj} (hg : (w.alloc o).grownBy w' (some w.heap.size)) : Below w.heap.size w w' :=
  (below_alloc (Below.refl w.heap.size w) o).grown hg (by simp) (fun k e => by cases e; exact Nat.le_refl _)
end Go.Proofs

namespace Go.Proofs
open Go.RowKit Go.Shelf Go.Proofs.YtjobnfbianlpnaaW.PrintWords Go.Proofs.YtjobnfbianlpnaaW.PrintLast Go.Proofs.Ytjobnfbianlpnaa.P
theorem Try.own_form {w : World} {base : Nat} {e : TypeId} {v : Value} {n : Nat} {xs : List Value} (h : w.ownsRow base e 1 v n xs) : ∃ A c, v = .slice A n c ∧ n ≤ c := by
  rcases h.2 with ⟨rfl, rfl⟩ | ⟨g, cap, cur, rfl, hb, hg, hc, _⟩
  · exact ⟨none, 0, rfl, Nat.le_refl _⟩
  · exact ⟨_, _, rfl, hc⟩
theorem Try.own_later {w w' : World} {base : Nat} {T : TypeId} {v : Value} {n : Nat} {xs : List Value} (h : w.ownsRow base T 1 v n xs) (hb : Below w.heap.size w w') : w'.ownsRow base T 1 v n xs := by
  refine ⟨h.1, ?_⟩
  rcases h.2 with h | ⟨g, cap, cur, e1, e2, e3, e4⟩
  · exact .inl h
  · exact .inr ⟨g, cap, cur, e1, e2, (hb.block g (blk_lt e3)).trans e3, e4⟩
theorem Try.two {w W : World} {o1 o2 : Obj} (h : (w.alloc o1).alloc o2 = W) : W.heap.size = w.heap.size + 2 ∧ W.heap[w.heap.size]? = some o1 ∧ W.heap[w.heap.size + 1]? = some o2 ∧ Below w.heap.size w W := by
  subst h
  have h1 := (MapKept.heap_alloc w o1).1
  have h2 := (MapKept.heap_alloc (w.alloc o1) o2).1
  have h3 : (w.alloc o1).heap.size = w.heap.size + 1 := by simp
  refine ⟨by simp, ?_, by rw [← h3]; exact h2, below_alloc (below_alloc (Below.refl w.heap.size w) _) _⟩
  rw [Below.heap_alloc _ _ _ (by simp)]; exact h1
theorem Try.info9 : (Try.prog.info? 9).map (fun i => (i.zero, i.size, i.bytes)) = some (some (.string ⟨#[]⟩), 1, 16) := by kernel_rfl
theorem Try.info59 : (Try.prog.info? 59).map (fun i => (i.zero, i.size, i.bytes)) = some (some (.map none), 1, 8) := by kernel_rfl
set_option maxHeartbeats 4000000 in
set_option maxRecDepth 100000 in
theorem Try.word_calls (w0 w : World) (bm : Nat) (ws : List ByteArray) (F : Int → Int → Prop) (h : Try.MkAt w0 w bm ws F) (hn : ws.length + 1 ≤ 24) (kd : Int) (wd : ByteArray) (A : Option Addr) (n c : Nat) :
    Calls Try.prog 34 #[.pointer (some ⟨bm, 0, none⟩), .agg #[.int .i64 kd, .string wd, .slice A n c]] w fun e w' => Try.PiecePost w0 w bm ws F e w' [wd] (fun _ _ => False) (fun x => x = ws.length) (fun x => x = ws.length) false := by
  have H := Aside0.mk h
  obtain ⟨vw, vf, fs, hbox, hvw, hvf, hfl, hfs⟩ := h.ex
  obtain ⟨Aw, cw, rfl, hcw⟩ := Try.own_form hvw
  obtain ⟨Af, cf, rfl, hcf⟩ := Try.own_form hvf
  have HBOX := Aside0.mk hbox
  have HVW := Aside0.mk hvw
  have HVF := Aside0.mk hvf
  have HFS := Aside0.mk hfs
  have HFL := Aside0.mk hfl
  have q0 := (blk_cell hbox 0).trans rfl
  have q1 := (blk_cell hbox 1).trans rfl
  have hbl := blk_lt hbox
  have hmm := @run_makeMap Try.prog
  clear h hbox hvw hvf hfs hfl
  go_enter Try.func34, Try.ntmps34
  go_wp2_with fail
  obtain ⟨i9, hi9, hz0, hz1, hz2⟩ := info_parts Try.info9
  obtain ⟨i59, hi59, hy0, hy1, hy2⟩ := info_parts Try.info59
  obtain ⟨W, hW⟩ : ∃ W, (w.alloc (.cells #[.int .i64 kd, .string wd, .slice A n c] 24)).alloc (.cells #[.map none, .map none, .bool false] 61) = W := ⟨_, rfl⟩
  obtain ⟨hsz, harg, hres, hbW⟩ := Try.two hW
  have p1 : W.cell? ⟨w.heap.size, 1, none⟩ = some (.string wd) := (blk_cell harg 1).trans rfl
  have m0 : W.cell? ⟨bm, 0, none⟩ = some (.slice Aw ws.length cw) := (blk_cell ((hbW.block bm hbl).trans HBOX.out) 0).trans rfl
  have HM := Aside0.mk (H.out.later hbW)
  have HBOXW := Aside0.mk (show W.heap[bm]? = _ from (hbW.block bm hbl).trans HBOX.out)
  have HVWW := Aside0.mk (Try.own_later HVW.out hbW)
  have HVFW := Aside0.mk (Try.own_later HVF.out hbW)
  have HBW := Aside0.mk hbW
  have HRES := Aside0.mk hres
  rw [hW]
  have hb0 : w0.heap.size ≤ w.heap.size := H.out.below.size
  have hlo := H.out.lo
  have HARG := Aside0.mk harg
  have HNE := Aside0.mk (Try.own_ne HVWW.out HBOXW.out (by decide))
  have HNE2 := Aside0.mk (Try.own_ne HVWW.out harg (by decide))
  have HBL := Aside0.mk (show bm < W.heap.size by omega)
  have HBEFORE := Aside0.mk (below_alloc (below_drew1 (Below.refl W.heap.size W)) (.cells #[.string wd] 9))
  have HNEWS : Aside0 (∀ (j : Nat) (u : Value), [Value.string wd][j]? = some u → (W.drew.alloc (.cells #[.string wd] 9)).cell? ((⟨w.heap.size + 2, 0, none⟩ : Addr).add j) = some u) := ⟨fun j u hu => by
    have := World.news_of_block (MapKept.heap_alloc W.drew (.cells #[.string wd] 9)).1 j u hu
    rwa [show W.drew.heap.size = w.heap.size + 2 from hsz] at this⟩
  clear q0 q1 hW hbW hres harg
  refine start_ (n := 12) (S := fun w' => w'.cell? ⟨bm, 0, none⟩ = some (.slice Aw ws.length cw) ∧ w'.cell? ⟨w.heap.size, 1, none⟩ = some (.string wd)) (ds := [11]) #[false, false, false, false, false, false, false, false, false, false, false, false] (by kernel_rfl) rfl rfl ⟨(by go_simp), (by go_simp)⟩ (fun hHeld => ?_)
  refine pure_ (i := 0) (N := some 11) (v := ?_) (a' := ?_) #[true, false, false, false, false, false, false, false, false, false, false, false] rfl rfl (by kernel_rfl) (fun _ _ _ h => h) (Or.inl ⟨by rfl, ?_⟩) ?_ ?_
  rotate_left
  · intro w'
    go_simp
    with_reducible rfl
  rotate_left
  · simp only [Act.put, List.setIfInBounds_toArray, List.set_cons_zero, List.set_cons_succ, i64_w, i32_w]
    rfl
  refine pure_ (i := 1) (N := some 12) (v := ?_) (a' := ?_) #[true, true, false, false, false, false, false, false, false, false, false, false] rfl rfl (by kernel_rfl) (fun _ _ _ h => h) (Or.inl ⟨by rfl, ?_⟩) ?_ ?_
  rotate_left
  · intro w'
    go_simp
    with_reducible rfl
  rotate_left
  · simp only [Act.put, List.setIfInBounds_toArray, List.set_cons_zero, List.set_cons_succ, i64_w, i32_w]
    rfl
  refine pure_ (i := 2) (N := some 13) (v := ?_) (a' := ?_) #[true, true, true, false, false, false, false, false, false, false, false, false] rfl rfl (by kernel_rfl) (fun _ _ _ h => h) (Or.inl ⟨by rfl, ?_⟩) ?_ ?_
  rotate_left
  · intro w'
    go_simp
    with_reducible rfl
  rotate_left
  · simp only [Act.put, List.setIfInBounds_toArray, List.set_cons_zero, List.set_cons_succ, i64_w, i32_w]
    rfl
  refine pure_ (i := 3) (N := some 14) (v := ?_) (a' := ?_) #[true, true, true, true, false, false, false, false, false, false, false, false] rfl rfl (by kernel_rfl) (fun _ _ _ h => h) (Or.inl ⟨by rfl, ?_⟩) ?_ ?_
  rotate_left
  · intro w'
    go_simp
    with_reducible rfl
  rotate_left
  · simp only [Act.put, List.setIfInBounds_toArray, List.set_cons_zero, List.set_cons_succ, i64_w, i32_w]
    rfl
  refine pure_ (i := 5) (N := some 16) (v := ?_) (a' := ?_) #[true, true, true, true, false, true, false, false, false, false, false, false] rfl rfl (by kernel_rfl) (fun _ _ _ h => h) (Or.inl ⟨by rfl, ?_⟩) ?_ ?_
  rotate_left
  · intro w'
    go_simp
    with_reducible rfl
  rotate_left
  · simp only [Act.put, List.setIfInBounds_toArray, List.set_cons_zero, List.set_cons_succ, i64_w, i32_w]
    rfl
  refine take_ (i := 4) (N := some 15) (v := ?_) (a' := ?_) #[true, true, true, true, true, true, false, false, false, false, false, false] rfl rfl (by kernel_rfl) (fun _ _ _ h => h) (Or.inl ⟨by rfl, ?_⟩) hHeld ?_ ?_
  rotate_left
  · rintro w' ⟨s0, s1⟩
    go_simp
    with_reducible rfl
  rotate_left
  · simp only [Act.put, List.setIfInBounds_toArray, List.set_cons_zero, List.set_cons_succ, i64_w, i32_w]
    rfl
  refine take_ (i := 6) (N := some 17) (v := ?_) (a' := ?_) #[true, true, true, true, true, true, true, false, false, false, false, false] rfl rfl (by kernel_rfl) (fun _ _ _ h => h) (Or.inl ⟨by rfl, ?_⟩) hHeld ?_ ?_
  rotate_left
  · rintro w' ⟨s0, s1⟩
    go_simp
    with_reducible rfl
  rotate_left
  · simp only [Act.put, List.setIfInBounds_toArray, List.set_cons_zero, List.set_cons_succ, i64_w, i32_w]
    rfl
  refine one_ (i := 7) (N := some 18) #[true, true, true, true, true, true, true, true, false, false, false, false] rfl rfl (by kernel_rfl) (by decide) (fun K hK => ?_)
  refine value_ (w1 := ?_) (v := ?_) (by rfl) rfl ?_ ?_
  rotate_left 2
  · go_simp
    constructor
    · rfl
    · rfl
  refine hK.out _ _ ⟨(((below_alloc (below_drew1 (Below.refl W.heap.size W)) _).cell (p := ⟨bm, 0, none⟩) (by simp; omega)).trans m0), (((below_alloc (below_drew1 (Below.refl W.heap.size W)) _).cell (p := ⟨w.heap.size, 1, none⟩) (by simp; omega)).trans p1)⟩ (fun hHeld => ?_)
  clear hK K
  refine norm_ (a' := ?_) ?_ ?_
  rotate_left
  · show Act.put _ (some 18) _ = _
    simp only [Act.put, List.setIfInBounds_toArray, List.set_cons_zero, List.set_cons_succ, i64_w, i32_w]
    rfl
  refine one_ (i := 8) (N := some 19) #[true, true, true, true, true, true, true, true, true, false, false, false] rfl rfl (by kernel_rfl) (by decide) (fun K hK => ?_)
  refine step_append_lies _ rfl _ _ _ (by rfl) w0.heap.size 9 i9 (.string ⟨#[]⟩) 1 16 Try.underlying25 hi9 hz0 hz1 hz2 rfl (by omega) _ ws.length (ws.map Value.string) (by rfl) (own_alloc (own_drew HVWW.out) _) ⟨w.heap.size + 2, 0, none⟩ 1 1 [.string wd] (by rfl) rfl HNEWS.out (by simp [Value.oneCell']) (by omega) (by unfold maxLen; omega) (by omega) (by simp; omega) (W.heap.size + 1) (by simp) ?_
  intro g1 cap1 w3 hown3 hgrow3 hat3 hlt3
  have hbm3 := blk_grown (HBEFORE.out.block bm HBL.out |>.trans HBOXW.out) hgrow3 HNE.out
  have c3 := (blk_cell hbm3 0).trans (show _ = some (Value.slice Aw ws.length cw) from rfl)
  have d3 := (blk_cell (blk_grown (HBEFORE.out.block w.heap.size (by omega) |>.trans HARG.out) hgrow3 HNE2.out) 1).trans (show _ = some (Value.string wd) from rfl)
  have f3 := blk_frozen hbm3 0
  have HBM3 := Aside0.mk hbm3
  have HOWN3 := Aside0.mk hown3
  have HGROW3 := Aside0.mk hgrow3
  have HLT3 := Aside0.mk hlt3
  clear hbm3 hown3 hgrow3 hat3 hlt3
  refine hK.out _ _ ⟨c3, d3⟩ (fun hHeld => ?_)
  clear hK K
  refine norm_ (a' := ?_) ?_ ?_
  rotate_left
  · show Act.put _ (some 19) _ = _
    simp only [Act.put, List.setIfInBounds_toArray, List.set_cons_zero, List.set_cons_succ, i64_w, i32_w]
    rfl
  refine pure_ (i := 9) (N := some 20) (v := ?_) (a' := ?_) #[true, true, true, true, true, true, true, true, true, true, false, false] rfl rfl (by kernel_rfl) (fun _ _ _ h => h) (Or.inl ⟨by rfl, ?_⟩) ?_ ?_
  rotate_left
  · intro w'
    go_simp
    with_reducible rfl
  rotate_left
  · simp only [Act.put, List.setIfInBounds_toArray, List.set_cons_zero, List.set_cons_succ, i64_w, i32_w]
    rfl
  refine pure_ (i := 10) (N := some 21) (v := ?_) (a' := ?_) #[true, true, true, true, true, true, true, true, true, true, true, false] rfl rfl (by kernel_rfl) (fun _ _ _ h => h) (Or.inl ⟨by rfl, ?_⟩) ?_ ?_
  rotate_left
  · intro w'
    go_simp
    with_reducible rfl
  rotate_left
  · simp only [Act.put, List.setIfInBounds_toArray, List.set_cons_zero, List.set_cons_succ, i64_w, i32_w]
    rfl
  refine last_ (i := 11) (N := none) #[true, true, true, true, true, true, true, true, true, true, true, true] rfl rfl (by kernel_rfl) (by decide) (fun K hK => ?_)
  refine skip_ (w1 := ?_) (by rfl) rfl ?_ ?_
  rotate_left
  · go_simp
    rfl
  refine hK.out _ _ ?_
  clear hK K
  refine done_ (by kernel_rfl) ?_
  obtain ⟨W4, hW4⟩ : ∃ W4, w3.setCell ⟨bm, 0, none⟩ (.slice (some ⟨g1, 0, none⟩) (ws.length + 1) cap1) = W4 := ⟨_, rfl⟩
  have hg4 : w3.grownBy W4 (some bm) := by rw [← hW4]; exact Try.grown_set _ _ _
  have HBM4 : Aside0 (W4.heap[bm]? = some (.cells #[.slice (some ⟨g1, 0, none⟩) (ws.length + 1) cap1, .slice Af fs.length cf] 57 (0, 0))) := ⟨by rw [← hW4]; exact blk_put HBM3.out 0 _ rfl⟩
  have hk3 : Try.Kept W w3 := (Try.Kept.below HBEFORE.out).trans (Try.Kept.grown HGROW3.out (fun k e => by
    obtain ⟨_, cs, hc⟩ := Try.own_block HVWW.out k e
    exact ⟨cs, _, _, (HBEFORE.out.block k (blk_lt hc)).trans hc, .inl rfl⟩))
  have HK4 : Aside0 (Try.Kept W W4) := ⟨hk3.trans (Try.Kept.grown hg4 (fun k e => by cases e; exact ⟨_, _, _, HBM3.out, .inr (.inr rfl)⟩))⟩
  have HVW4 : Aside0 (W4.ownsRow w0.heap.size 9 1 (.slice (some ⟨g1, 0, none⟩) (ws.length + 1) cap1) (ws.length + 1) (ws.map Value.string ++ [.string wd])) := ⟨HOWN3.out.kept hg4 (.inr (Try.own_ne HOWN3.out HBM3.out (by decide)).symm)⟩
  have HVF4 : Aside0 (W4.ownsRow w0.heap.size 59 1 (.slice Af fs.length cf) fs.length (fs.map Try.mp)) := ⟨by
    have h1 := own_alloc (own_drew HVFW.out) (.cells #[.string wd] 9)
    have h2 := h1.kept HGROW3.out (by
      by_cases e : (Value.slice Af fs.length cf).ownBlock = none
      · exact .inl e
      · right
        intro e2
        obtain ⟨k, hk⟩ := Option.ne_none_iff_exists'.1 e
        obtain ⟨_, c1, h1⟩ := Try.own_block HVFW.out k hk
        obtain ⟨_, c2, h2⟩ := Try.own_block HVWW.out k (e2 ▸ hk)
        rw [h1] at h2
        cases h2)
    exact h2.kept hg4 (.inr (Try.own_ne h2 HBM3.out (by decide)).symm)⟩
  have HB4 : Aside0 (Below w0.heap.size w0 W4) := ⟨by
    have hw := HM.out.below
    have h1 := below_alloc (below_drew1 hw) (.cells #[.string wd] 9)
    have h2 := h1.grown HGROW3.out h1.size (fun k e => (Try.own_block HVWW.out k e).1)
    exact h2.grown hg4 h2.size (fun k e => by cases e; exact hlo)⟩
  have m1 := (blk_cell HBM4.out 1).trans (show _ = some (Value.slice Af fs.length cf) from rfl)
  have hbl4 := blk_lt HBM4.out
  have hlo4 := HB4.out.size
  rw [hW4]
  clear hW4 hg4 hk3 f3 c3 d3 m0 p1 HLT3 HGROW3 HOWN3 HBM3 HBEFORE HNEWS hsz hbl hHeld
  have HNEWS4 : Aside0 (∀ (j : Nat) (u : Value), [Value.map (some W4.heap.size)][j]? = some u → ((W4.alloc (.map #[] 0)).alloc (.cells #[.map (some W4.heap.size)] 59)).cell? ((⟨W4.heap.size + 1, 0, none⟩ : Addr).add j) = some u) := ⟨fun j u hu => by
    have := World.news_of_block (MapKept.heap_alloc (W4.alloc (.map #[] 0)) (.cells #[.map (some W4.heap.size)] 59)).1 j u hu
    rwa [show (W4.alloc (.map #[] 0)).heap.size = W4.heap.size + 1 by simp] at this⟩
  have HSET4 : Aside0 (Try.SetIs (W4.alloc (.map #[] 0)) W4.heap.size []) := ⟨Try.SetIs.made W4⟩
  have hfl24 : fs.length + 1 ≤ 24 := by rw [HFL.out]; exact hn
  have HNE5 := Aside0.mk (Try.own_ne HVF4.out HBM4.out (by decide))
  go_upto_region 4 with (at_builtin; refine wpList_append_lies _ rfl _ _ _ rfl w0.heap.size 59 i59 (.map none) 1 8 Try.underlying55 hi59 hy0 hy1 hy2 rfl (by omega) _ fs.length (fs.map Try.mp) rfl (own_alloc (own_alloc HVF4.out _) _) ⟨W4.heap.size + 1, 0, none⟩ 1 1 [.map (some W4.heap.size)] rfl rfl HNEWS4.out (by simp [Value.oneCell']) (by omega) (by unfold maxLen; omega) (by omega) (by simp; omega) (W4.heap.size + 2) (by simp) ?_; intro g2 cap2 w5 hown5 hgrow5 hat5 hlt5; have hbm5 := blk_grown (((below_alloc (below_alloc (Below.refl W4.heap.size W4) (.map #[] 0)) (.cells #[.map (some W4.heap.size)] 59)).block bm hbl4).trans HBM4.out) hgrow5 HNE5.out; have f5 := blk_frozen hbm5 1; have c5 := (blk_cell hbm5 1).trans (show _ = some (Value.slice Af fs.length cf) from rfl); have HBM5 := Aside0.mk hbm5; have HOWN5 := Aside0.mk hown5; have HGROW5 := Aside0.mk hgrow5; clear hbm5 hown5 hgrow5 hat5)
  obtain ⟨W6, hW6⟩ : ∃ W6, w5.setCell ⟨bm, 1, none⟩ (.slice (some ⟨g2, 0, none⟩) (fs.length + 1) cap2) = W6 := ⟨_, rfl⟩
  have hg6 : w5.grownBy W6 (some bm) := by rw [← hW6]; exact Try.grown_set _ _ _
  have hbm6 : W6.heap[bm]? = some (.cells #[.slice (some ⟨g1, 0, none⟩) (ws.length + 1) cap1, .slice (some ⟨g2, 0, none⟩) (fs.length + 1) cap2] 57 (0, 0)) := by rw [← hW6]; exact blk_put HBM5.out 1 _ rfl
  have hbe : Below W4.heap.size W4 ((W4.alloc (.map #[] 0)).alloc (.cells #[.map (some W4.heap.size)] 59)) := below_alloc (below_alloc (Below.refl W4.heap.size W4) (.map #[] 0)) (.cells #[.map (some W4.heap.size)] 59)
  have hgr : ∀ k, (Value.slice Af fs.length cf).ownBlock = some k → ∃ cs T f, ((W4.alloc (.map #[] 0)).alloc (.cells #[.map (some W4.heap.size)] 59)).heap[k]? = some (.cells cs T f) ∧ (T = 9 ∨ T = 59 ∨ T = 57) := fun k e => by
    obtain ⟨_, cs, hc⟩ := Try.own_block HVF4.out k e
    exact ⟨cs, _, _, (hbe.block k (blk_lt hc)).trans hc, .inr (.inl rfl)⟩
  have hk5 := Try.Kept.grown HGROW5.out hgr
  have hk56 : Try.Kept w5 W6 := Try.Kept.grown hg6 (fun k e => by cases e; exact ⟨_, _, _, HBM5.out, .inr (.inr rfl)⟩)
  have hk46 : Try.Kept W4 W6 := ((Try.Kept.below hbe).trans hk5).trans hk56
  have hsn : Try.SetIs W6 W4.heap.size [] := by
    have h1 := HSET4.out
    have h2 := h1.below (below_alloc (Below.refl _ (W4.alloc (.map #[] 0))) (.cells #[.map (some W4.heap.size)] 59))
    exact (h2.keep hk5).keep hk56
  have hvw6 : W6.ownsRow w0.heap.size 9 1 (.slice (some ⟨g1, 0, none⟩) (ws.length + 1) cap1) (ws.length + 1) (ws.map Value.string ++ [.string wd]) := by
    have h1 := own_alloc (own_alloc HVW4.out (.map #[] 0)) (.cells #[.map (some W4.heap.size)] 59)
    have h2 := h1.kept HGROW5.out (by
      right
      intro e2
      obtain ⟨_, c1, h1⟩ := Try.own_block HVW4.out g1 rfl
      obtain ⟨_, c2, h2⟩ := Try.own_block HVF4.out g1 (e2 ▸ rfl)
      rw [h1] at h2
      cases h2)
    exact h2.kept hg6 (.inr (Try.own_ne h2 HBM5.out (by decide)).symm)
  have hvf6 : W6.ownsRow w0.heap.size 59 1 (.slice (some ⟨g2, 0, none⟩) (fs.length + 1) cap2) (fs.length + 1) (fs.map Try.mp ++ [.map (some W4.heap.size)]) := HOWN5.out.kept hg6 (.inr (Try.own_ne HOWN5.out HBM5.out (by decide)).symm)
  have hb6 : Below w0.heap.size w0 W6 := by
    have h1 := below_alloc (below_alloc HB4.out (.map #[] 0)) (.cells #[.map (some W4.heap.size)] 59)
    have h2 := h1.grown HGROW5.out h1.size (fun k e => (Try.own_block HVF4.out k e).1)
    exact h2.grown hg6 h2.size (fun k e => by cases e; exact hlo)
  have HM6 : Aside0 (Try.MkAt w0 W6 bm (ws ++ [wd]) (fun x y => F x y ∨ False)) := ⟨⟨hb6, hlo, ⟨_, _, fs ++ [W4.heap.size], hbm6, by simpa using hvw6, by simpa [Try.mp] using hvf6, by simp [HFL.out], fun i b hib => ?_⟩, fun x y hxy => by
    have := H.out.bound x y (hxy.resolve_right id)
    simp; omega⟩⟩
  rotate_left
  · rcases Nat.lt_trichotomy i fs.length with hi | hi | hi
    · rw [List.getElem?_append_left hi] at hib
      have h1 := (HFS.out i b hib).keep (.below HBW.out)
      exact ((h1.keep HK4.out).keep hk46).iff (fun x => by simp)
    · subst hi
      rw [List.getElem?_append_right (Nat.le_refl _)] at hib
      simp at hib
      subst hib
      refine ⟨[], hsn, fun x => ?_, by simp⟩
      constructor
      · intro h; cases h
      · intro h
        have := H.out.bound _ x (h.resolve_right id)
        rw [HFL.out] at this
        omega
    · rw [List.getElem?_append_right (by omega)] at hib
      rw [List.getElem?_eq_none (by simp; omega)] at hib
      cases hib
  have HK6 : Aside0 (Try.Kept W W6) := ⟨HK4.out.trans hk46⟩
  have HOK : Aside0 (Try.okI ws.length) := ⟨Try.okI_of (by omega) (by omega)⟩
  rw [hW6]
  clear hW6 hg6 hbm6 hbe hgr hk5 hk56 hk46 hsn hvw6 hvf6 hb6 f5 c5 m1 HNEWS4 HSET4 HBM5 HOWN5 HGROW5
  go_wp2_with (first
    | (refine Try.wp_put rfl _ _ _ (.inr rfl) (Try.SetIs.made W6) rfl rfl rfl HOK.out (by simp) ?_; intro w7 hs7 hg7; have HS7 := Aside0.mk hs7; have HG7 := Aside0.mk (Try.put_below hg7); clear hs7 hg7)
    | (refine Try.wp_put rfl _ _ _ (.inr rfl) (Try.SetIs.made w7) rfl rfl rfl HOK.out (by simp) ?_; intro w8 hs8 hg8; have HS8 := Aside0.mk hs8; have HG8 := Aside0.mk (Try.put_below hg8); have HR8 := Aside0.mk ((HK6.out.trans (.below (below_step HG7.out HG8.out))).box HRES.out (by decide) (by decide) (by decide)); have c0 := (blk_cell HR8.out 0).trans (show _ = some (Value.map none) from rfl); have c1 := (blk_cell HR8.out 1).trans (show _ = some (Value.map none) from rfl); have c2 := (blk_cell HR8.out 2).trans (show _ = some (Value.bool false) from rfl); have f0 := blk_frozen HR8.out 0; have f1 := blk_frozen HR8.out 1; have f2 := blk_frozen HR8.out 2; clear hs8 hg8))
  obtain ⟨W9, h9⟩ : ∃ W9, ((w8.setCell ⟨w.heap.size + 1, 0, none⟩ (.map (some W6.heap.size))).setCell ⟨w.heap.size + 1, 1, none⟩ (.map (some w7.heap.size))).setCell ⟨w.heap.size + 1, 2, none⟩ (.bool false) = W9 := ⟨_, rfl⟩
  rw [h9]
  (try simp only [Exit.inBlock, Exit.then])
  refine bodyPost_ret (Try.piece_res rfl _ _ (w.heap.size + 1) _ (by rfl) rfl (Try.three_box HR8.out h9)) rfl ?_
  have hsing : ∀ x, x ∈ Lang.ins [] (ws.length : Int) ↔ x = ws.length := fun x => by rw [Lang.mem_ins]; simp
  have hsr : ∀ x ∈ Lang.ins [] (ws.length : Int), 0 ≤ x ∧ x < 24 := fun x hx => by rw [hsing] at hx; omega
  exact Try.piece_end (HM6.out.later (below_step HG7.out HG8.out)) ⟨_, HS7.out.below HG8.out, hsing, hsr⟩ ⟨_, HS8.out, hsing, hsr⟩ ((Try.Kept.below HBW.out).trans (HK6.out.trans (.below (below_step HG7.out HG8.out)))) hb0 (by omega) HR8.out h9
end Go.Proofs

namespace Go.Proofs
open Go.RowKit Go.Shelf Go.Proofs.YtjobnfbianlpnaaW.PrintWords Go.Proofs.YtjobnfbianlpnaaW.PrintLast Go.Proofs.Ytjobnfbianlpnaa.P
theorem Try.SetGoes.iter {w : World} {b r : Nat} {S todo : List Int} (h : Try.SetGoes w b r S todo) : ∃ x1 x2 x3 x4, w.heap[r]? = some (.mapIter x1 x2 x3 x4) := by
  obtain ⟨_, _, _, _, D, left, cnt, ⟨es, clock, since, seen, c0, hm, F, hs, hD, hr, rest⟩, _⟩ := h
  exact ⟨_, _, _, _, hr⟩
theorem Try.SetP.iter {w w' : World} {b r : Nat} {p : Int → Prop} {x1 : Option Nat} {x2 : Nat} {x3 : Array Nat} {x4 : Nat} (h : Try.SetP w b p) (hg : w.grownBy w' (some r)) (hr : w.heap[r]? = some (.mapIter x1 x2 x3 x4)) : Try.SetP w' b p := by
  obtain ⟨S, h1, h2, h3⟩ := h
  exact ⟨S, h1.kept hg (fun e => by
    cases e
    obtain ⟨_, _, D, ⟨es, clock, hb, _⟩, _⟩ := h1
    rw [hr] at hb; cases hb), h2, h3⟩
theorem Try.MkAt.iter {w0 w w' : World} {bm r : Nat} {ws : List ByteArray} {F : Int → Int → Prop} {x1 : Option Nat} {x2 : Nat} {x3 : Array Nat} {x4 : Nat} (h : Try.MkAt w0 w bm ws F) (hg : w.grownBy w' (some r)) (hr : w.heap[r]? = some (.mapIter x1 x2 x3 x4)) (hlo : w0.heap.size ≤ r) : Try.MkAt w0 w' bm ws F := by
  obtain ⟨h1, h2, ⟨vw, vf, fs, a, b, c, d, e⟩, h4⟩ := h
  have ne : ∀ {T : TypeId} {v : Value} {n : Nat} {xs : List Value}, w.ownsRow w0.heap.size T 1 v n xs → v.ownBlock ≠ some r := by
    intro T v n xs h he
    obtain ⟨_, cs, hc⟩ := Try.own_block h r he
    rw [hr] at hc; cases hc
  exact ⟨h1.grown hg h1.size (fun k e => by cases e; exact hlo), h2, ⟨vw, vf, fs, blk_grown a hg (fun e => by cases e; rw [hr] at a; cases a), b.kept hg (.inr (ne b)), c.kept hg (.inr (ne c)), d, fun i k hk => (e i k hk).iter hg hr⟩, h4⟩
theorem Try.Kept.then_ {w w' w'' : World} {r : Nat} (h : Try.Kept w w') (hg : w'.grownBy w'' (some r)) (hr : w.heap.size ≤ r) : Try.Kept w w'' :=
  ⟨Nat.le_trans h.size hg.size, fun i o hi ho => (hg.block i (blk_lt (h.block i o hi ho)) (fun e => by have := blk_lt hi; cases e; omega)).trans (h.block i o hi ho)⟩
theorem Try.SetGoes.cells {w w' : World} {b r g : Nat} {S todo : List Int} {cs : Array Value} {T : TypeId} {f : Nat × Nat} (h : Try.SetGoes w b r S todo) (hg : w.grownBy w' (some g)) (hr : w.heap[g]? = some (.cells cs T f)) : Try.SetGoes w' b r S todo := by
  refine h.kept hg (fun e => ?_) (fun e => ?_)
  · cases e
    obtain ⟨_, _, D, ⟨es, clock, hb, _⟩, _⟩ := h.is
    rw [hr] at hb; cases hb
  · cases e
    obtain ⟨x1, x2, x3, x4, hi⟩ := h.iter
    rw [hr] at hi; cases hi
def Try.JoinsPost (w0 w : World) (bm : Nat) (ws : List ByteArray) (F : Int → Int → Prop) (A B : Int → Prop) (e : Ending) (w' : World) : Prop :=
  e = .returned (.tuple #[]) ∧ Try.MkAt w0 w' bm ws (fun x y => F x y ∨ (A x ∧ B y)) ∧ Try.Kept w w'
set_option maxHeartbeats 4000000 in
set_option maxRecDepth 100000 in
theorem Try.joins_calls (w0 w : World) (bm ba bb : Nat) (ws : List ByteArray) (F : Int → Int → Prop) (A B : Int → Prop) (h : Try.MkAt w0 w bm ws F) (hA : Try.SetP w ba A) (hB : Try.SetP w bb B) (hAr : ∀ x, A x → x < ws.length) :
    Calls Try.prog 56 #[.pointer (some ⟨bm, 0, none⟩), .map (some ba), .map (some bb)] w (Try.JoinsPost w0 w bm ws F A B) := by
  obtain ⟨S, hS, hSA, hSr⟩ := hA
  have H := Aside0.mk h
  have HS := Aside0.mk hS
  have HSA := Aside0.mk hSA
  have HSR := Aside0.mk hSr
  have HB := Aside0.mk hB
  have HAR := Aside0.mk hAr
  clear h hS hSA hSr hB hAr
  go_enter Try.func56, Try.ntmps56
  go_wp2_with (first | (refine Try.wp_range rfl _ rfl HS.out rfl ?_; intro w2 hg2 hgr2 hsz2))
  go_frame
  have hk2 := Try.Kept.grown hgr2 (fun k e => by cases e)
  have HM2 : Aside0 (Try.MkAt w0 w2 bm ws F) := ⟨H.out.later ⟨hgr2.1, hgr2.2, hgr2.3, hgr2.size, fun i hi => hgr2.block i hi (by simp)⟩⟩
  go_loopg [] S.length (fun kq W => ∃ (todo : List Int), kq = todo.length ∧ Aside0 (Try.SetGoes W ba w.heap.size S todo) ∧ Aside0 (Try.MkAt w0 W bm ws (fun x y => F x y ∨ ((A x ∧ B y) ∧ x ∉ todo))) ∧ Aside0 (Try.SetP W bb B) ∧ Aside0 (Try.Kept w W))
  case atStart =>
    exact ⟨S, rfl, ⟨hg2⟩, ⟨HM2.out.iff (fun x y => by
      constructor
      · exact .inl
      · rintro (h | ⟨⟨h, _⟩, h2⟩)
        · exact h
        · exact absurd ((HSA.out x).2 h) h2)⟩, ⟨HB.out.keep hk2⟩, ⟨hk2⟩⟩
  case round =>
    clear HM2 hk2 hg2 hsz2 hgr2
    obtain ⟨todo, hkq, hgo, hM, hB, hK⟩ := hrel
    have HKQ := Aside0.mk hkq
    clear hkq
    go_wp2_with (first | (refine Try.wp_next rfl _ rfl hgo.out rfl ?_ ?_))
    · intro htd
      have HTD := Aside0.mk htd
      clear htd
      go_wp2_with fail
      go_end0
      exact ⟨rfl, hM.out.iff (fun x y => by rw [HTD.out]; simp), hK.out⟩
    · intro k cb w3 hkt hkok hgo3 hgr3 hsz3 hen
      have hkS : k ∈ S := hgo.out.2.2.2.1 k hkt
      have hk0 := (HSR.out k hkS).1
      have hkA := (HSA.out k).1 hkS
      have hkl := HAR.out k hkA
      obtain ⟨kn, rfl⟩ := Int.eq_ofNat_of_zero_le hk0
      obtain ⟨x1, x2, x3, x4, hit⟩ := hgo.out.iter
      have hw0 : w0.heap.size ≤ w.heap.size := H.out.below.size
      have HM3 := Aside0.mk (hM.out.iter hgr3 hit hw0)
      have HB3 := Aside0.mk (hB.out.iter hgr3 hit)
      have HK3 := Aside0.mk (hK.out.then_ hgr3 (Nat.le_refl _))
      have HGO := Aside0.mk hgo3
      have HND : Aside0 (todo.Nodup ∧ ∀ x ∈ todo, x ∈ S) := ⟨hgo.out.2.2.1, hgo.out.2.2.2.1⟩
      have HKT := Aside0.mk hkt
      have HKA := Aside0.mk hkA
      have HIT := Aside0.mk hit
      clear hkS hk0 hkA hgo hM hB hK hgo3 hkt hgr3 hit hsz3
      obtain ⟨vw, vf, fs, hbox, hvw, hvf, hfl, hfs⟩ := HM3.out.ex
      obtain ⟨Af, cf, rfl, hcf⟩ := Try.own_form hvf
      have hkn : kn < fs.length := by omega
      obtain ⟨gf, rfl⟩ : ∃ gf, Af = some ⟨gf, 0, none⟩ := by
        rcases hvf.2 with ⟨_, h0⟩ | ⟨g, cap, cur, e, _⟩
        · omega
        · cases e; exact ⟨g, rfl⟩
      obtain ⟨bk, hbk⟩ : ∃ bk, fs[kn]? = some bk := ⟨_, List.getElem?_eq_getElem hkn⟩
      have q1 : w3.cell? ⟨bm, 1, none⟩ = some (.slice (some ⟨gf, 0, none⟩) fs.length cf) := (blk_cell hbox 1).trans rfl
      have q2 : w3.cell? ⟨gf, kn, none⟩ = some (.map (some bk)) := by
        rw [hvf.cellAt kn (by omega), List.getElem?_map, hbk]; rfl
      have hbf : ∃ cs, w3.heap[gf]? = some (.cells cs 59 (0, 0)) := (Try.own_block hvf gf rfl).2
      have hSk := hfs kn bk hbk
      have hlt : (kn : Int) < (fs.length : Int) := by omega
      have hk0 : (0 : Int) ≤ (kn : Int) := by omega
      have HBOX := Aside0.mk hbox
      have HVW := Aside0.mk hvw
      have HVF := Aside0.mk hvf
      have HFS := Aside0.mk hfs
      have HFL := Aside0.mk hfl
      have HBK := Aside0.mk hbk
      have HBF := Aside0.mk hbf
      have HCW := Aside0.mk (Try.SetP.with (w := w3.drew) hSk HB3.out)
      clear hbox hvw hvf hfs hfl hbk hbf hSk hkl
      go_wp2_with fail
      refine start_ (n := 16) (S := fun w' => w'.cell? ⟨bm, 1, none⟩ = some (.slice (some ⟨gf, 0, none⟩) fs.length cf) ∧ w'.cell? ⟨gf, kn, none⟩ = some (.map (some bk))) (ds := [15]) #[false, false, false, false, false, false, false, false, false, false, false, false, false, false, false, false] (by kernel_rfl) rfl rfl ⟨(by go_simp), (by go_simp)⟩ (fun hHeld => ?_)
      refine pure_ (i := 0) (N := some 13) (v := ?_) (a' := ?_) #[true, false, false, false, false, false, false, false, false, false, false, false, false, false, false, false] rfl rfl (by kernel_rfl) (fun _ _ _ h => h) (Or.inl ⟨by rfl, ?_⟩) ?_ ?_
      rotate_left
      · intro w'
        go_simp
        with_reducible rfl
      rotate_left
      · simp only [Act.put, List.setIfInBounds_toArray, List.set_cons_zero, List.set_cons_succ, i64_w, i32_w]
        rfl
      refine pure_ (i := 1) (N := some 14) (v := ?_) (a' := ?_) #[true, true, false, false, false, false, false, false, false, false, false, false, false, false, false, false] rfl rfl (by kernel_rfl) (fun _ _ _ h => h) (Or.inl ⟨by rfl, ?_⟩) ?_ ?_
      rotate_left
      · intro w'
        go_simp
        with_reducible rfl
      rotate_left
      · simp only [Act.put, List.setIfInBounds_toArray, List.set_cons_zero, List.set_cons_succ, i64_w, i32_w]
        rfl
      refine pure_ (i := 2) (N := some 15) (v := ?_) (a' := ?_) #[true, true, true, false, false, false, false, false, false, false, false, false, false, false, false, false] rfl rfl (by kernel_rfl) (fun _ _ _ h => h) (Or.inl ⟨by rfl, ?_⟩) ?_ ?_
      rotate_left
      · intro w'
        go_simp
        with_reducible rfl
      rotate_left
      · simp only [Act.put, List.setIfInBounds_toArray, List.set_cons_zero, List.set_cons_succ, i64_w, i32_w]
        rfl
      refine pure_ (i := 4) (N := some 17) (v := ?_) (a' := ?_) #[true, true, true, false, true, false, false, false, false, false, false, false, false, false, false, false] rfl rfl (by kernel_rfl) (fun _ _ _ h => h) (Or.inl ⟨by rfl, ?_⟩) ?_ ?_
      rotate_left
      · intro w'
        go_simp
        with_reducible rfl
      rotate_left
      · simp only [Act.put, List.setIfInBounds_toArray, List.set_cons_zero, List.set_cons_succ, i64_w, i32_w]
        rfl
      refine pure_ (i := 5) (N := some 18) (v := ?_) (a' := ?_) #[true, true, true, false, true, true, false, false, false, false, false, false, false, false, false, false] rfl rfl (by kernel_rfl) (fun _ _ _ h => h) (Or.inl ⟨by rfl, ?_⟩) ?_ ?_
      rotate_left
      · intro w'
        go_simp
        with_reducible rfl
      rotate_left
      · simp only [Act.put, List.setIfInBounds_toArray, List.set_cons_zero, List.set_cons_succ, i64_w, i32_w]
        rfl
      refine pure_ (i := 6) (N := some 19) (v := ?_) (a' := ?_) #[true, true, true, false, true, true, true, false, false, false, false, false, false, false, false, false] rfl rfl (by kernel_rfl) (fun _ _ _ h => h) (Or.inl ⟨by rfl, ?_⟩) ?_ ?_
      rotate_left
      · intro w'
        go_simp
        with_reducible rfl
      rotate_left
      · simp only [Act.put, List.setIfInBounds_toArray, List.set_cons_zero, List.set_cons_succ, i64_w, i32_w]
        rfl
      refine pure_ (i := 7) (N := some 20) (v := ?_) (a' := ?_) #[true, true, true, false, true, true, true, true, false, false, false, false, false, false, false, false] rfl rfl (by kernel_rfl) (fun _ _ _ h => h) (Or.inl ⟨by rfl, ?_⟩) ?_ ?_
      rotate_left
      · intro w'
        go_simp
        with_reducible rfl
      rotate_left
      · simp only [Act.put, List.setIfInBounds_toArray, List.set_cons_zero, List.set_cons_succ, i64_w, i32_w]
        rfl
      refine pure_ (i := 9) (N := some 22) (v := ?_) (a' := ?_) #[true, true, true, false, true, true, true, true, false, true, false, false, false, false, false, false] rfl rfl (by kernel_rfl) (fun _ _ _ h => h) (Or.inl ⟨by rfl, ?_⟩) ?_ ?_
      rotate_left
      · intro w'
        go_simp
        with_reducible rfl
      rotate_left
      · simp only [Act.put, List.setIfInBounds_toArray, List.set_cons_zero, List.set_cons_succ, i64_w, i32_w]
        rfl
      refine pure_ (i := 12) (N := some 25) (v := ?_) (a' := ?_) #[true, true, true, false, true, true, true, true, false, true, false, false, true, false, false, false] rfl rfl (by kernel_rfl) (fun _ _ _ h => h) (Or.inl ⟨by rfl, ?_⟩) ?_ ?_
      rotate_left
      · intro w'
        go_simp
        with_reducible rfl
      rotate_left
      · simp only [Act.put, List.setIfInBounds_toArray, List.set_cons_zero, List.set_cons_succ, i64_w, i32_w]
        rfl
      refine take_ (i := 3) (N := some 16) (v := ?_) (a' := ?_) #[true, true, true, true, true, true, true, true, false, true, false, false, true, false, false, false] rfl rfl (by kernel_rfl) (fun _ _ _ h => h) (Or.inl ⟨by rfl, ?_⟩) hHeld ?_ ?_
      rotate_left
      · rintro w' ⟨s0, s1⟩
        go_simp
        with_reducible rfl
      rotate_left
      · simp only [Act.put, List.setIfInBounds_toArray, List.set_cons_zero, List.set_cons_succ, i64_w, i32_w]
        rfl
      refine take_ (i := 8) (N := some 21) (v := ?_) (a' := ?_) #[true, true, true, true, true, true, true, true, true, true, false, false, true, false, false, false] rfl rfl (by kernel_rfl) (fun _ _ _ h => h) (Or.inl ⟨by rfl, ?_⟩) hHeld ?_ ?_
      rotate_left
      · rintro w' ⟨s0, s1⟩
        go_simp
        with_reducible rfl
      rotate_left
      · simp only [Act.put, List.setIfInBounds_toArray, List.set_cons_zero, List.set_cons_succ, i64_w, i32_w]
        rfl
      refine pure_ (i := 10) (N := some 23) (v := ?_) (a' := ?_) #[true, true, true, true, true, true, true, true, true, true, true, false, true, false, false, false] rfl rfl (by kernel_rfl) (fun _ _ _ h => h) (Or.inl ⟨by rfl, ?_⟩) ?_ ?_
      rotate_left
      · intro w'
        go_simp
        with_reducible rfl
      rotate_left
      · simp only [Act.put, List.setIfInBounds_toArray, List.set_cons_zero, List.set_cons_succ, i64_w, i32_w]
        rfl
      refine take_ (i := 11) (N := some 24) (v := ?_) (a' := ?_) #[true, true, true, true, true, true, true, true, true, true, true, true, true, false, false, false] rfl rfl (by kernel_rfl) (fun _ _ _ h => h) (Or.inl ⟨by rfl, ?_⟩) hHeld ?_ ?_
      rotate_left
      · rintro w' ⟨s0, s1⟩
        go_simp
        with_reducible rfl
      rotate_left
      · simp only [Act.put, List.setIfInBounds_toArray, List.set_cons_zero, List.set_cons_succ, i64_w, i32_w]
        rfl
      refine one_ (i := 13) (N := some 26) #[true, true, true, true, true, true, true, true, true, true, true, true, true, true, false, false] rfl rfl (by kernel_rfl) (by decide) (fun K hK => ?_)
      refine goes_ Try.func57 (by kernel_rfl) rfl #[.map (some bk), .map (some bb)] (by rfl) rfl rfl (by simp only [List.map_toArray, List.map_cons, List.map_nil]; rfl) ?_
      with_reducible refine (HCW.out).mono ?_
      rintro e w4 ⟨rfl, hs4, hb4⟩
      refine ⟨_, rfl, ?_⟩
      have c1 := (hb4.cell (p := ⟨bm, 1, none⟩) (blk_lt HBOX.out)).trans q1
      have c2 := (hb4.cell (p := ⟨gf, kn, none⟩) (by obtain ⟨cs, h⟩ := HBF.out; exact blk_lt h)).trans q2
      have HS4 := Aside0.mk hs4
      have HB4 := Aside0.mk hb4
      have f2 : w4.frozen? ⟨gf, kn, none⟩ = false := by obtain ⟨cs, h⟩ := HBF.out; exact blk_frozen ((HB4.out.block gf (blk_lt h)).trans h) kn
      clear hs4 hb4
      refine hK.out _ _ ⟨c1, c2⟩ (fun hHeld => ?_)
      clear hK K
      refine norm_ (a' := ?_) ?_ ?_
      rotate_left
      · show Act.put _ (some 26) _ = _
        simp only [Act.put, List.setIfInBounds_toArray, List.set_cons_zero, List.set_cons_succ, i64_w, i32_w]
        rfl
      refine pure_ (i := 14) (N := some 27) (v := ?_) (a' := ?_) #[true, true, true, true, true, true, true, true, true, true, true, true, true, true, true, false] rfl rfl (by kernel_rfl) (fun _ _ _ h => h) (Or.inl ⟨by rfl, ?_⟩) ?_ ?_
      rotate_left
      · intro w'
        go_simp
        with_reducible rfl
      rotate_left
      · simp only [Act.put, List.setIfInBounds_toArray, List.set_cons_zero, List.set_cons_succ, i64_w, i32_w]
        rfl
      refine last_ (i := 15) (N := none) #[true, true, true, true, true, true, true, true, true, true, true, true, true, true, true, true] rfl rfl (by kernel_rfl) (by decide) (fun K hK => ?_)
      refine skip_ (w1 := ?_) (by rfl) rfl ?_ ?_
      rotate_left
      · go_simp
        rfl
      refine hK.out _ _ ?_
      clear hK K
      refine done_ (by kernel_rfl) ?_
      clear hHeld c1 c2 f2 q1 q2
      go_wp2_with fail
      go_roundg (gk - 1)
      case measure =>
        have hpos : 0 < todo.length := List.length_pos_of_mem HKT.out
        have := HKQ.out
        omega
      case rel =>
        have hb34 : Below w3.heap.size w3 w4 := below_then (below_drew1 (Below.refl w3.heap.size w3)) (Nat.le_refl _) HB4.out
        obtain ⟨csf, hcf3⟩ := HBF.out
        have hcf4 := (hb34.block gf (blk_lt hcf3)).trans hcf3
        obtain ⟨w5, hw5⟩ : ∃ w5, w4.setCell ⟨gf, kn, none⟩ (.map (some w3.drew.heap.size)) = w5 := ⟨_, rfl⟩
        have hg5 : w4.grownBy w5 (some gf) := by rw [← hw5]; exact Try.grown_set _ _ _
        have hgo5 := (HGO.out.below hb34).cells hg5 hcf4
        have hB5 := (HB3.out.keep (.below hb34)).cells hg5 hcf4
        have hk5 : Try.Kept w3 w5 := (Try.Kept.below hb34).trans (Try.Kept.grown hg5 (fun k e => by cases e; exact ⟨_, _, _, hcf4, .inr (.inl rfl)⟩))
        have hbm4 := (hb34.block bm (blk_lt HBOX.out)).trans HBOX.out
        have hbm5 := blk_grown hbm4 hg5 (fun e => by cases e; rw [hcf4] at hbm4; cases hbm4)
        have hvw4 := Try.own_later HVW.out hb34
        have hvw5 := hvw4.kept hg5 (.inr (Try.own_ne hvw4 hcf4 (by decide)).symm)
        have hvf5 := own_put_of (enc := Try.mp) (Try.own_later HVF.out hb34) (kn : Int) w3.drew.heap.size
        rw [Int.toNat_natCast] at hvf5
        have hwd : Try.mp w3.drew.heap.size = .map (some w3.drew.heap.size) := rfl
        rw [hwd, hw5] at hvf5
        have hb5 : Below w0.heap.size w0 w5 := (below_step HM3.out.below hb34).grown hg5 (below_step HM3.out.below hb34).size (fun k e => by cases e; exact (Try.own_block HVF.out gf rfl).1)
        have hkne : (kn : Int) ∉ todo.erase (kn : Int) := fun h => by rw [HND.out.1.mem_erase_iff] at h; exact h.1 rfl
        have e6 : w5 = w4.setCell ⟨gf, kn, none⟩ (.map (some w3.drew.heap.size)) := hw5.symm
        have hM5 : Try.MkAt w0 w5 bm ws (fun x y => F x y ∨ ((A x ∧ B y) ∧ x ∉ todo.erase (kn : Int))) := by
          refine ⟨hb5, HM3.out.lo, ⟨vw, _, fs.set kn w3.drew.heap.size, by rw [List.length_set] at hvf5; exact hbm5, hvw5, by rw [List.length_set] at hvf5 ⊢; exact hvf5, by rw [List.length_set]; exact HFL.out, fun i b hib => ?_⟩, fun x y hxy => ?_⟩
          · by_cases e : i = kn
            · subst e
              rw [List.getElem?_set_self (by omega)] at hib
              cases hib
              refine (HS4.out.cells hg5 hcf4).iff (fun y => ?_)
              constructor
              · rintro ((h | ⟨h, _⟩) | h)
                · exact .inl h
                · exact .inr ⟨h, hkne⟩
                · exact .inr ⟨⟨HKA.out, h⟩, hkne⟩
              · rintro (h | ⟨⟨_, h⟩, _⟩)
                · exact .inl (.inl h)
                · exact .inr h
            · rw [List.getElem?_set_ne (Ne.symm e)] at hib
              refine (((HFS.out i b hib).keep hk5)).iff (fun y => ?_)
              have hne : (i : Int) ≠ (kn : Int) := by omega
              have : ((i : Int) ∈ todo.erase (kn : Int)) ↔ ((i : Int) ∈ todo) := by rw [HND.out.1.mem_erase_iff]; simp [hne]
              rw [this]
          · rcases hxy with h | ⟨⟨h, h2⟩, _⟩
            · exact HM3.out.bound x y (.inl h)
            · have h1 := (HSA.out x).2 h
              exact ⟨(HSR.out x h1).1, HAR.out x h⟩
        have hk6 : Try.Kept w w5 := HK3.out.trans hk5
        clear hwd
        rw [← hw5] at hgo5 hM5 hB5 hk6
        exact ⟨todo.erase (kn : Int), by rw [List.length_erase_of_mem HKT.out]; have := HKQ.out; omega, ⟨hgo5⟩, ⟨hM5⟩, ⟨hB5⟩, ⟨hk6⟩⟩
end Go.Proofs

namespace Go.Proofs
open Go.RowKit Go.Shelf Go.Proofs.YtjobnfbianlpnaaW.PrintWords Go.Proofs.YtjobnfbianlpnaaW.PrintLast Go.Proofs.Ytjobnfbianlpnaa.P
def Try.MakePost (w0 w : World) (bm : Nat) (ws : List ByteArray) (F : Int → Int → Prop) (p : Lang.Path) (e : Ending) (w' : World) : Prop :=
  Try.PiecePost w0 w bm ws F e w' (Lang.wordsOf p) (Lang.fol p ws.length) (Lang.first p ws.length) (Lang.last p ws.length) (Lang.nul p)
def Try.MakeSpec (w0 : World) (p : Lang.Path) : Prop :=
  ∀ (w : World) (bm : Nat) (ws : List ByteArray) (F : Int → Int → Prop) (A : Option Addr) (c : Nat), Try.MkAt w0 w bm ws F → ws.length + Lang.places p ≤ 24 → Lang.okP p → Kd.C k24 w0 A p.f2.length p.f2 → p.f2.length ≤ c →
    Calls Try.prog 19 #[.pointer (some ⟨bm, 0, none⟩), .agg #[.int .i64 p.f0, .string p.f1, .slice A p.f2.length c]] w (Try.MakePost w0 w bm ws F p)
theorem Lang.placesL_take : ∀ (l : List Lang.Path) (i : Nat), Lang.placesL (l.take i) ≤ Lang.placesL l
  | [], i => by simp
  | p :: l, 0 => by simp [Lang.placesL]
  | p :: l, i + 1 => by rw [List.take_succ_cons, Lang.placesL, Lang.placesL]; have := Lang.placesL_take l i; omega
theorem Try.emptySet (w : World) : Try.SetP (w.alloc (.map #[] 0)) w.heap.size (fun _ => False) := ⟨[], Try.SetIs.made w, fun x => by simp, by simp⟩
theorem Try.five {w W : World} {o1 o2 o5 : Obj} (h : ((((w.alloc o1).alloc o2).alloc (.map #[] 0)).alloc (.map #[] 0)).alloc o5 = W) :
    W.heap.size = w.heap.size + 5 ∧ W.heap[w.heap.size + 1]? = some o2 ∧ Try.SetP W (w.heap.size + 1 + 1) (fun _ => False) ∧ Try.SetP W (w.heap.size + 1 + 1 + 1) (fun _ => False) ∧ W.heap[w.heap.size + 1 + 1 + 1 + 1]? = some o5 ∧ Below w.heap.size w W := by
  subst h
  obtain ⟨w2, h2⟩ : ∃ w2, (w.alloc o1).alloc o2 = w2 := ⟨_, rfl⟩
  obtain ⟨s2, _, r2, b2⟩ := Try.two h2
  rw [h2]
  have s3 : (w2.alloc (.map #[] 0)).heap.size = w.heap.size + 3 := by simp [s2]
  have s4 : ((w2.alloc (.map #[] 0)).alloc (.map #[] 0)).heap.size = w.heap.size + 4 := by simp [s2]
  have hb := below_alloc (below_alloc (below_alloc (Below.refl _ w2) (.map #[] 0)) (.map #[] 0)) o5
  have e2 := Try.emptySet w2
  have e3 := Try.emptySet (w2.alloc (.map #[] 0))
  rw [s2] at e2
  rw [s3] at e3
  have hb3 := below_alloc (below_alloc (Below.refl _ (w2.alloc (.map #[] 0))) (.map #[] 0)) o5
  have hb4 := below_alloc (Below.refl _ ((w2.alloc (.map #[] 0)).alloc (.map #[] 0))) o5
  have h5 := (MapKept.heap_alloc ((w2.alloc (.map #[] 0)).alloc (.map #[] 0)) o5).1
  rw [s4] at h5
  exact ⟨by simp [s2], (hb.block _ (by omega)).trans r2, e2.keep (.below hb3), e3.keep (.below hb4), h5, below_step b2 hb⟩
theorem Try.seq_mk {w0 w : World} {bm : Nat} {ws : List ByteArray} {F : Int → Int → Prop} {l l' : List Lang.Path} {q : Lang.Path} (ht : l' = l ++ [q])
    (h : Try.MkAt w0 w bm ((ws ++ Lang.wordsL l) ++ Lang.wordsOf q) (fun x y => ((F x y ∨ Lang.folS l ws.length x y) ∨ Lang.fol q (ws.length + Lang.placesL l) x y) ∨ (Lang.lastS l ws.length x ∧ Lang.first q (ws.length + Lang.placesL l) y))) :
    Aside0 (Try.MkAt w0 w bm (ws ++ Lang.wordsL l') (fun x y => F x y ∨ Lang.folS l' ws.length x y)) := ⟨by
  subst ht
  rw [Lang.wordsL_snoc, ← List.append_assoc]
  exact h.iff (fun x y => by simp only [Lang.folS_snoc, or_assoc])⟩
set_option maxHeartbeats 4000000 in
set_option maxRecDepth 100000 in
theorem Try.seq_calls (w0 w : World) (bm : Nat) (ws : List ByteArray) (F : Int → Int → Prop) (l : List Lang.Path) (ih : ∀ q ∈ l, Try.MakeSpec w0 q) (h : Try.MkAt w0 w bm ws F) (hn : ws.length + Lang.placesL l ≤ 24) (hok : Lang.okL l) (kd : Int) (wd : ByteArray) (A : Option Addr) (c : Nat) (hl : Kd.C k24 w0 A l.length l) (hlc : l.length ≤ c) :
    Calls Try.prog 35 #[.pointer (some ⟨bm, 0, none⟩), .agg #[.int .i64 kd, .string wd, .slice A l.length c]] w fun e w' => Try.PiecePost w0 w bm ws F e w' (Lang.wordsL l) (Lang.folS l ws.length) (Lang.firstS l ws.length) (Lang.lastS l ws.length) (Lang.nulA l) := by
  have H := Aside0.mk h
  have IH := Aside0.mk ih
  have HN := Aside0.mk hn
  have HOK := Aside0.mk hok
  have HL := Aside0.mk hl
  have HLC := Aside0.mk hlc
  have hmax : l.length ≤ 9223372036854775807 := Kd.C_max hl
  have hmm := @run_makeMap Try.prog
  clear h ih hn hok hl hlc
  go_enter Try.func35, Try.ntmps35
  go_upto_block 0 with fail
  obtain ⟨W, hW⟩ : ∃ W, (((((w.alloc (.cells #[.int .i64 kd, .string wd, .slice A l.length c] 24)).alloc (.cells #[.map none, .map none, .bool false] 61)).alloc (.map #[] 0)).alloc (.map #[] 0)).alloc (.cells #[.map (some (w.heap.size + 1 + 1)), .map (some (w.heap.size + 1 + 1 + 1)), .bool true] 61)) = W := ⟨_, rfl⟩
  obtain ⟨hsz, hres, hs1, hs2, hout, hbW⟩ := Try.five hW
  rw [hW]
  have HM := Aside0.mk (H.out.later hbW)
  have HS1 := Aside0.mk hs1
  have HS2 := Aside0.mk hs2
  have HRES := Aside0.mk hres
  have HKW := Aside0.mk (Try.Kept.below hbW)
  have hw0 : w0.heap.size ≤ w.heap.size := H.out.below.size
  obtain ⟨rO, hrO⟩ : ∃ r, w.heap.size + 1 + 1 + 1 + 1 = r := ⟨_, rfl⟩
  rw [hrO] at hout ⊢
  have HOUT := Aside0.mk hout
  have HRO := Aside0.mk hrO
  have hrlt : w.heap.size < rO := by omega
  clear hW hsz hres hs1 hs2 hout hbW hrO hmm
  go_wp2_with fail
  go_loopg [15] l.length (fun kq v15 W => ∃ (i b1 b2 : Nat), v15 = .int .i64 (i : Int) ∧ i + kq = l.length ∧ Aside0 (Try.MkAt w0 W bm (ws ++ Lang.wordsL (l.take i)) (fun x y => F x y ∨ Lang.folS (l.take i) ws.length x y)) ∧ Aside0 (Try.SetP W b1 (Lang.firstS (l.take i) ws.length)) ∧ Aside0 (Try.SetP W b2 (Lang.lastS (l.take i) ws.length)) ∧ Aside0 (W.heap[rO]? = some (.cells #[.map (some b1), .map (some b2), .bool (Lang.nulA (l.take i))] 61 (0, 0))) ∧ Aside0 (W.heap[w.heap.size + 1]? = some (.cells #[.map none, .map none, .bool false] 61 (0, 0))) ∧ Aside0 (Try.Kept w W))
  case atStart =>
    exact ⟨0, _, _, rfl, by omega, ⟨by simpa [Lang.wordsL, Lang.folS] using HM.out⟩, ⟨HS1.out.iff (fun x => by simp [Lang.firstS])⟩, ⟨HS2.out.iff (fun x => by simp [Lang.lastS])⟩, ⟨by simpa [Lang.nulA] using HOUT.out⟩, HRES, HKW⟩
  case round =>
    clear HM HS1 HS2 HRES HKW HOUT
    obtain ⟨i, b1, b2, rfl, hik, HM, HS1, HS2, HOUT, HRES, HKW⟩ := hrel
    have HIK := Aside0.mk hik
    obtain ⟨eo, heo⟩ : ∃ eo, Lang.nulA (l.take i) = eo := ⟨_, rfl⟩
    rw [heo] at HOUT
    have HEO := Aside0.mk heo
    by_cases hlt : i < l.length
    · obtain ⟨ad, Aq, cq, rfl, k0, k1, k2, hqc, hq⟩ := at_T24 (Kd.C_below HL.out HM.out.below) (i : Int) (by omega) (by omega)
      obtain ⟨q, hqd⟩ : ∃ q, rd_T24 l i = q := ⟨_, rfl⟩
      have e0 : (i : Int).toNat = i := Int.toNat_natCast i
      rw [hqd] at k0 k1 k2 hqc hq
      rw [e0] at k0 k1 k2
      have hqm : l[i]? = some q := by rw [← hqd]; simp [rd_T24, List.getD, List.getElem?_eq_getElem hlt]
      have htake : l.take (i + 1) = l.take i ++ [q] := by rw [List.take_add_one, hqm]; rfl
      have hmem : q ∈ l := List.mem_of_getElem? hqm
      have HTK := Aside0.mk htake
      have HQC := Aside0.mk hqc
      have HQ0 : Aside0 (Kd.C k24 w0 Aq q.f2.length q.f2) := ⟨by
        obtain ⟨ad', Aq', cq', e1, j0, j1, j2, jc, jq⟩ := at_T24 HL.out (i : Int) (by omega) (by omega)
        cases e1
        rw [hqd, e0] at j2
        rw [hqd] at jq
        have := pw_cell_below HM.out.below j2
        rw [k2] at this
        cases this
        exact jq⟩
      have hpl : ws.length + Lang.placesL (l.take i) + Lang.places q ≤ 24 := by
        have := Lang.placesL_take l (i + 1)
        rw [htake, Lang.placesL_snoc] at this
        have := HN.out
        omega
      have HPL := Aside0.mk hpl
      have HOKQ := Aside0.mk (Lang.okL_mem HOK.out q hmem)
      have HSPEC := Aside0.mk (IH.out q hmem)
      have hle : i ≤ 9223372036854775806 := by omega
      have HO2 := Aside0.mk (HM.out.later (below_alloc (Below.refl _ wr) (.cells #[.int .i64 q.f0, .string q.f1, .slice Aq q.f2.length cq] 24)))
      have hlen : (ws ++ Lang.wordsL (l.take i)).length = ws.length + Lang.placesL (l.take i) := by rw [List.length_append, Lang.wordsL_length]
      have HLEN := Aside0.mk hlen
      have hc := HSPEC.out _ _ _ _ Aq cq HO2.out (by rw [hlen]; exact hpl) HOKQ.out HQ0.out HQC.out
      clear hik heo hqd e0 hqm htake hmem hqc hq hpl hlen
      go_wp2_with fail
      refine hc.mono ?_
      rintro e w2 ⟨x1, x2, rfl, hM2, hF2, hL2, hK2⟩
      rw [HLEN.out] at hM2 hF2 hL2
      obtain ⟨en, hen⟩ : ∃ en, Lang.nul q = en := ⟨_, rfl⟩
      rw [hen]
      have HEN := Aside0.mk hen
      have HEMP := HEO
      have hb2 := below_alloc (Below.refl _ wr) (.cells #[.int .i64 q.f0, .string q.f1, .slice Aq q.f2.length cq] 24)
      have hkr := (Try.Kept.below hb2).trans hK2
      have HOUT2 := Aside0.mk (hkr.box HOUT.out (by decide) (by decide) (by decide))
      have HRES2 := Aside0.mk (hkr.box HRES.out (by decide) (by decide) (by decide))
      have o1 := (blk_cell HOUT2.out 1).trans (show _ = some (Value.map (some b2)) from rfl)
      have hrX := blk_lt HOUT2.out
      obtain ⟨w3, hw3⟩ : ∃ w3, w2.alloc (.cells #[.map (some x1), .map (some x2), .bool en] 61) = w3 := ⟨_, rfl⟩
      have hb3 : Below w2.heap.size w2 w3 := by rw [← hw3]; exact below_alloc (Below.refl _ w2) _
      have hk3 := Try.Kept.below hb3
      have HX3 : Aside0 (w3.heap[w2.heap.size]? = some (.cells #[.map (some x1), .map (some x2), .bool en] 61 (0, 0))) := ⟨by rw [← hw3]; exact (MapKept.heap_alloc w2 _).1⟩
      have HM3 := Aside0.mk (hM2.later hb3)
      have HF3 := Aside0.mk (hF2.keep hk3)
      have HL3 := Aside0.mk (hL2.keep hk3)
      have HS13 := Aside0.mk ((HS1.out.keep hkr).keep hk3)
      have HS23 := Aside0.mk ((HS2.out.keep hkr).keep hk3)
      have HOUT3 := Aside0.mk (hk3.box HOUT2.out (by decide) (by decide) (by decide))
      have HRES3 := Aside0.mk (hk3.box HRES2.out (by decide) (by decide) (by decide))
      have HKW3 := Aside0.mk ((HKW.out.trans hkr).trans hk3)
      have hcj := Try.joins_calls w0 w3 bm b2 x1 _ _ _ _ HM3.out HS23.out HF3.out (fun x hx => by
        have := Lang.lastS_range _ _ _ hx
        rw [List.length_append, HLEN.out]
        omega)
      rw [← hw3] at hcj
      have HW3 := Aside0.mk hw3
      clear hc hM2 hF2 hL2 hK2 hkr hb2 hb3 hk3 hen hw3 k0 k1 k2 HM HS1 HS2 HOUT HRES HKW HOUT2 HRES2 HO2
      go_wp2_with fail
      refine hcj.mono ?_
      rintro e w4 ⟨rfl, hM4, hK4⟩
      rw [HW3.out] at hK4
      obtain ⟨rX, hrXe⟩ : ∃ r, w2.heap.size = r := ⟨_, rfl⟩
      rw [hrXe] at hrX HX3 ⊢
      have HM4 := Aside0.mk hM4
      have HF4 := Aside0.mk (HF3.out.keep hK4)
      have HL4 := Aside0.mk (HL3.out.keep hK4)
      have HS14 := Aside0.mk (HS13.out.keep hK4)
      have HS24 := Aside0.mk (HS23.out.keep hK4)
      have HOUT4 := Aside0.mk (hK4.box HOUT3.out (by decide) (by decide) (by decide))
      have HX4 := Aside0.mk (hK4.box HX3.out (by decide) (by decide) (by decide))
      have HRES4 := Aside0.mk (hK4.box HRES3.out (by decide) (by decide) (by decide))
      have HKW4 := Aside0.mk (HKW3.out.trans hK4)
      have HXO := Aside0.mk hrX
      clear hcj hM4 hK4 hrXe o1 HM3 HF3 HL3 HS13 HS23 HOUT3 HX3 HRES3 HKW3 hrX
      cases eo
      · have o2 := (blk_cell HOUT4.out 2).trans (show _ = some (Value.bool false) from rfl)
        go_upto_region 9 with fail
        obtain ⟨V, rfl⟩ : ∃ V, V = w4 := ⟨_, rfl⟩
        obtain ⟨bF, rfl⟩ : ∃ b, b = b1 := ⟨_, rfl⟩
        have HOUTV := HOUT4
        have HXV := HX4
        have HRESV := HRES4
        have HMV := HM4
        have HFV : Aside0 (Try.SetP V bF (fun x => Lang.firstS (l.take i) ws.length x ∨ (Lang.nulA (l.take i) = true ∧ Lang.first q (ws.length + Lang.placesL (l.take i)) x))) := ⟨HS14.out.iff (fun x => by rw [HEO.out]; simp)⟩
        have HS2V := HS24
        have HLV := HL4
        have HKV := HKW4
        clear o2
        cases en
        · have y2 := (blk_cell HXV.out 2).trans (show _ = some (Value.bool false) from rfl)
          go_upto_region 11 with fail
          obtain ⟨U, rfl⟩ : ∃ U, U = V := ⟨_, rfl⟩
          obtain ⟨bL, rfl⟩ : ∃ b, b = x2 := ⟨_, rfl⟩
          have HOUTU := HOUTV
          have HXU := HXV
          have HRESU := HRESV
          have HMU := HMV
          have HFU := HFV
          have HLU : Aside0 (Try.SetP U bL (fun x => Lang.last q (ws.length + Lang.placesL (l.take i)) x ∨ (Lang.nul q = true ∧ Lang.lastS (l.take i) ws.length x))) := ⟨HLV.out.iff (fun x => by rw [HEN.out]; simp)⟩
          have HKU := HKV
          clear y2
          have u1 := (blk_cell HXU.out 1).trans (show _ = some (Value.map (some bL)) from rfl)
          have u2 := (blk_cell HXU.out 2).trans (show _ = some (Value.bool false) from rfl)
          have v1 := (blk_cell HOUTU.out 1).trans (show _ = some (Value.map (some b2)) from rfl)
          have v2 := (blk_cell HOUTU.out 2).trans (show _ = some (Value.bool false) from rfl)
          have g1 := blk_frozen HOUTU.out 1
          have g2 := blk_frozen HOUTU.out 2
          have hxo : rX ≠ rO := by have := HXO.out; omega
          refine start_ (n := 12) (S := fun w' => w'.cell? ⟨rX, 1, none⟩ = some (.map (some bL)) ∧ w'.cell? ⟨rO, 2, none⟩ = some (.bool false) ∧ w'.cell? ⟨rX, 2, none⟩ = some (.bool false)) (ds := [11]) #[false, false, false, false, false, false, false, false, false, false, false, false] (by kernel_rfl) rfl rfl ⟨(by go_simp), (by go_simp), (by go_simp)⟩ (fun hHeld => ?_)
          refine pure_ (i := 0) (N := some 44) (v := ?_) (a' := ?_) #[true, false, false, false, false, false, false, false, false, false, false, false] rfl rfl (by kernel_rfl) (fun _ _ _ h => h) (Or.inl ⟨by rfl, ?_⟩) ?_ ?_
          rotate_left
          · intro w'
            go_simp
            with_reducible rfl
          rotate_left
          · simp only [Act.put, List.setIfInBounds_toArray, List.set_cons_zero, List.set_cons_succ, i64_w, i32_w]
            rfl
          refine pure_ (i := 2) (N := some 46) (v := ?_) (a' := ?_) #[true, false, true, false, false, false, false, false, false, false, false, false] rfl rfl (by kernel_rfl) (fun _ _ _ h => h) (Or.inl ⟨by rfl, ?_⟩) ?_ ?_
          rotate_left
          · intro w'
            go_simp
            with_reducible rfl
          rotate_left
          · simp only [Act.put, List.setIfInBounds_toArray, List.set_cons_zero, List.set_cons_succ, i64_w, i32_w]
            rfl
          refine take_ (i := 1) (N := some 45) (v := ?_) (a' := ?_) #[true, true, true, false, false, false, false, false, false, false, false, false] rfl rfl (by kernel_rfl) (fun _ _ _ h => h) (Or.inl ⟨by rfl, ?_⟩) hHeld ?_ ?_
          rotate_left
          · rintro w' ⟨s0, s1, s2⟩
            go_simp
            with_reducible rfl
          rotate_left
          · simp only [Act.put, List.setIfInBounds_toArray, List.set_cons_zero, List.set_cons_succ, i64_w, i32_w]
            rfl
          refine take_ (i := 3) (N := some 47) (v := ?_) (a' := ?_) #[true, true, true, true, false, false, false, false, false, false, false, false] rfl rfl (by kernel_rfl) (fun _ _ _ h => h) (Or.inl ⟨by rfl, ?_⟩) hHeld ?_ ?_
          rotate_left
          · rintro w' ⟨s0, s1, s2⟩
            go_simp
            with_reducible rfl
          rotate_left
          · simp only [Act.put, List.setIfInBounds_toArray, List.set_cons_zero, List.set_cons_succ, i64_w, i32_w]
            rfl
          refine pure_ (i := 4) (N := some 48) (v := ?_) (a' := ?_) #[true, true, true, true, true, false, false, false, false, false, false, false] rfl rfl (by kernel_rfl) (fun _ _ _ h => h) (Or.inl ⟨by rfl, ?_⟩) ?_ ?_
          rotate_left
          · intro w'
            go_simp
            with_reducible rfl
          rotate_left
          · simp only [Act.put, List.setIfInBounds_toArray, List.set_cons_zero, List.set_cons_succ, i64_w, i32_w]
            rfl
          refine pure_ (i := 5) (N := some 49) (v := undef) (a' := ?_) #[true, true, true, true, true, true, false, false, false, false, false, false] rfl rfl (by kernel_rfl) (fun _ _ _ h => h) (Or.inr ⟨by rfl, rfl⟩) ?_ ?_
          rotate_left
          · simp only [Act.put, List.setIfInBounds_toArray, List.set_cons_zero, List.set_cons_succ, i64_w, i32_w]
            rfl
          refine pure_ (i := 6) (N := some 50) (v := undef) (a' := ?_) #[true, true, true, true, true, true, true, false, false, false, false, false] rfl rfl (by kernel_rfl) (fun _ _ _ h => h) (Or.inr ⟨by rfl, rfl⟩) ?_ ?_
          rotate_left
          · simp only [Act.put, List.setIfInBounds_toArray, List.set_cons_zero, List.set_cons_succ, i64_w, i32_w]
            rfl
          refine pure_ (i := 7) (N := some 51) (v := ?_) (a' := ?_) #[true, true, true, true, true, true, true, true, false, false, false, false] rfl rfl (by kernel_rfl) (fun _ _ _ h => h) (Or.inl ⟨by rfl, ?_⟩) ?_ ?_
          rotate_left
          · intro w'
            go_simp
            with_reducible rfl
          rotate_left
          · simp only [Act.put, List.setIfInBounds_toArray, List.set_cons_zero, List.set_cons_succ, i64_w, i32_w]
            rfl
          refine pure_ (i := 8) (N := some 52) (v := ?_) (a' := ?_) #[true, true, true, true, true, true, true, true, true, false, false, false] rfl rfl (by kernel_rfl) (fun _ _ _ h => h) (Or.inl ⟨by rfl, ?_⟩) ?_ ?_
          rotate_left
          · intro w'
            go_simp
            with_reducible rfl
          rotate_left
          · simp only [Act.put, List.setIfInBounds_toArray, List.set_cons_zero, List.set_cons_succ, i64_w, i32_w]
            rfl
          refine one_ (i := 9) (N := none) #[true, true, true, true, true, true, true, true, true, true, false, false] rfl rfl (by kernel_rfl) (by decide) (fun K hK => ?_)
          refine skip_ (w1 := ?_) (by rfl) rfl ?_ ?_
          rotate_left
          · go_simp
            rfl
          refine hK.out _ _ ⟨(by go_simp), (by go_simp), (by go_simp)⟩ (fun hHeld => ?_)
          clear hK K
          refine pure_ (i := 10) (N := some 53) (v := ?_) (a' := ?_) #[true, true, true, true, true, true, true, true, true, true, true, false] rfl rfl (by kernel_rfl) (fun _ _ _ h => h) (Or.inl ⟨by rfl, ?_⟩) ?_ ?_
          rotate_left
          · intro w'
            go_simp
            with_reducible rfl
          rotate_left
          · simp only [Act.put, List.setIfInBounds_toArray, List.set_cons_zero, List.set_cons_succ, i64_w, i32_w]
            rfl
          refine last_ (i := 11) (N := none) #[true, true, true, true, true, true, true, true, true, true, true, true] rfl rfl (by kernel_rfl) (by decide) (fun K hK => ?_)
          refine skip_ (w1 := ?_) (by rfl) rfl ?_ ?_
          rotate_left
          · go_simp
            rfl
          refine hK.out _ _ ?_
          clear hK K
          refine done_ (by kernel_rfl) ?_
          clear u1 u2 v1 v2 g1 g2 hxo hHeld
          go_wp2_with fail
          go_roundg (gk - 1)
          case measure => have := HIK.out; omega
          case rel =>
            obtain ⟨X, hX⟩ : ∃ X, ((U.setCell ⟨rO, 1, none⟩ (.map (some bL))).setCell ⟨rO, 2, none⟩ (.bool false)).drew = X := ⟨_, rfl⟩
            have hgX : U.grownBy X (some rO) := by
              rw [← hX]
              have h := (Try.grown_set U ⟨rO, 1, none⟩ (.map (some bL))).trans (Try.grown_set _ ⟨rO, 2, none⟩ (.bool false))
              exact ⟨h.1, h.2, h.3, h.4, h.5⟩
            have hox : X.heap[rO]? = some (.cells #[.map (some bF), .map (some bL), .bool false] 61 (0, 0)) := by
              rw [← hX]
              exact blk_drew (blk_put (cs := #[.map (some bF), .map (some bL), .bool false]) (blk_put HOUTU.out 1 _ rfl) 2 _ rfl)
            rw [hX]
            exact ⟨i + 1, bF, bL, by go_num, by have := HIK.out; omega, Try.seq_mk HTK.out (HMU.out.grown hgX HOUTU.out (by decide) (by decide) (by decide) (by omega)), ⟨by rw [HTK.out]; exact (HFU.out.cells hgX HOUTU.out).iff (fun x => (Lang.firstS_snoc q x _ _).symm)⟩, ⟨by rw [HTK.out]; exact (HLU.out.cells hgX HOUTU.out).iff (fun x => (Lang.lastS_snoc q x _ _).symm)⟩, ⟨by rw [HTK.out, Lang.nulA_snoc, HEMP.out, HEN.out]; exact hox⟩, ⟨blk_grown HRESU.out hgX (fun e => by have := HRO.out; cases e; omega)⟩, ⟨HKU.out.then_ hgX (by omega)⟩⟩
        · have y1 := (blk_cell HXV.out 1).trans (show _ = some (Value.map (some x2)) from rfl)
          have y2 := (blk_cell HXV.out 2).trans (show _ = some (Value.bool true) from rfl)
          have o1 := (blk_cell HOUTV.out 1).trans (show _ = some (Value.map (some b2)) from rfl)
          have hcw := Try.SetP.with HLV.out HS2V.out
          go_wp2_with fail
          refine hcw.mono ?_
          rintro e w6 ⟨rfl, hs6, hb6⟩
          have hx6 := (Try.Kept.below hb6).box HXV.out (by decide) (by decide) (by decide)
          have y16 := (blk_cell hx6 1).trans (show _ = some (Value.map (some x2)) from rfl)
          have f16 := blk_frozen hx6 1
          have HX6 := Aside0.mk hx6
          have HS6 := Aside0.mk hs6
          have HB6 := Aside0.mk hb6
          clear hcw hx6 hs6 hb6 y1 y2 o1
          go_upto_region 11 with fail
          obtain ⟨U, hU⟩ : ∃ U, w6.setCell ⟨rX, 1, none⟩ (.map (some V.heap.size)) = U := ⟨_, rfl⟩
          have hgU : w6.grownBy U (some rX) := by rw [← hU]; exact Try.grown_set _ _ _
          have HXU : Aside0 (U.heap[rX]? = some (.cells #[.map (some x1), .map (some V.heap.size), .bool true] 61 (0, 0))) := ⟨by rw [← hU]; exact blk_put HX6.out 1 _ rfl⟩
          rw [hU]
          have hk56 := Try.Kept.below HB6.out
          have HOUTU : Aside0 (U.heap[rO]? = some (.cells #[.map (some bF), .map (some b2), .bool false] 61 (0, 0))) := ⟨blk_grown (hk56.box HOUTV.out (by decide) (by decide) (by decide)) hgU (fun e => by have := HXO.out; cases e; omega)⟩
          have HRESU : Aside0 (U.heap[w.heap.size + 1]? = some (.cells #[.map none, .map none, .bool false] 61 (0, 0))) := ⟨blk_grown (hk56.box HRESV.out (by decide) (by decide) (by decide)) hgU (fun e => by have := HXO.out; have := HRO.out; cases e; omega)⟩
          have HMU := Aside0.mk ((HMV.out.later HB6.out).grown hgU HX6.out (by decide) (by decide) (by decide) (by have := HXO.out; omega))
          have HFU := Aside0.mk ((HFV.out.keep hk56).cells hgU HX6.out)
          have HLU : Aside0 (Try.SetP U V.heap.size (fun x => Lang.last q (ws.length + Lang.placesL (l.take i)) x ∨ (Lang.nul q = true ∧ Lang.lastS (l.take i) ws.length x))) := ⟨(HS6.out.cells hgU HX6.out).iff (fun x => by rw [HEN.out]; simp)⟩
          have HKU := Aside0.mk ((HKV.out.trans hk56).then_ hgU (by have := HXO.out; omega))
          obtain ⟨bL, hbL⟩ : ∃ b, V.heap.size = b := ⟨_, rfl⟩
          rw [hbL] at HXU HLU ⊢
          clear y16 f16 hU hgU hk56 hbL
          have u1 := (blk_cell HXU.out 1).trans (show _ = some (Value.map (some bL)) from rfl)
          have u2 := (blk_cell HXU.out 2).trans (show _ = some (Value.bool true) from rfl)
          have v1 := (blk_cell HOUTU.out 1).trans (show _ = some (Value.map (some b2)) from rfl)
          have v2 := (blk_cell HOUTU.out 2).trans (show _ = some (Value.bool false) from rfl)
          have g1 := blk_frozen HOUTU.out 1
          have g2 := blk_frozen HOUTU.out 2
          have hxo : rX ≠ rO := by have := HXO.out; omega
          refine start_ (n := 12) (S := fun w' => w'.cell? ⟨rX, 1, none⟩ = some (.map (some bL)) ∧ w'.cell? ⟨rO, 2, none⟩ = some (.bool false) ∧ w'.cell? ⟨rX, 2, none⟩ = some (.bool true)) (ds := [11]) #[false, false, false, false, false, false, false, false, false, false, false, false] (by kernel_rfl) rfl rfl ⟨(by go_simp), (by go_simp), (by go_simp)⟩ (fun hHeld => ?_)
          refine pure_ (i := 0) (N := some 44) (v := ?_) (a' := ?_) #[true, false, false, false, false, false, false, false, false, false, false, false] rfl rfl (by kernel_rfl) (fun _ _ _ h => h) (Or.inl ⟨by rfl, ?_⟩) ?_ ?_
          rotate_left
          · intro w'
            go_simp
            with_reducible rfl
          rotate_left
          · simp only [Act.put, List.setIfInBounds_toArray, List.set_cons_zero, List.set_cons_succ, i64_w, i32_w]
            rfl
          refine pure_ (i := 2) (N := some 46) (v := ?_) (a' := ?_) #[true, false, true, false, false, false, false, false, false, false, false, false] rfl rfl (by kernel_rfl) (fun _ _ _ h => h) (Or.inl ⟨by rfl, ?_⟩) ?_ ?_
          rotate_left
          · intro w'
            go_simp
            with_reducible rfl
          rotate_left
          · simp only [Act.put, List.setIfInBounds_toArray, List.set_cons_zero, List.set_cons_succ, i64_w, i32_w]
            rfl
          refine take_ (i := 1) (N := some 45) (v := ?_) (a' := ?_) #[true, true, true, false, false, false, false, false, false, false, false, false] rfl rfl (by kernel_rfl) (fun _ _ _ h => h) (Or.inl ⟨by rfl, ?_⟩) hHeld ?_ ?_
          rotate_left
          · rintro w' ⟨s0, s1, s2⟩
            go_simp
            with_reducible rfl
          rotate_left
          · simp only [Act.put, List.setIfInBounds_toArray, List.set_cons_zero, List.set_cons_succ, i64_w, i32_w]
            rfl
          refine take_ (i := 3) (N := some 47) (v := ?_) (a' := ?_) #[true, true, true, true, false, false, false, false, false, false, false, false] rfl rfl (by kernel_rfl) (fun _ _ _ h => h) (Or.inl ⟨by rfl, ?_⟩) hHeld ?_ ?_
          rotate_left
          · rintro w' ⟨s0, s1, s2⟩
            go_simp
            with_reducible rfl
          rotate_left
          · simp only [Act.put, List.setIfInBounds_toArray, List.set_cons_zero, List.set_cons_succ, i64_w, i32_w]
            rfl
          refine pure_ (i := 4) (N := some 48) (v := ?_) (a' := ?_) #[true, true, true, true, true, false, false, false, false, false, false, false] rfl rfl (by kernel_rfl) (fun _ _ _ h => h) (Or.inl ⟨by rfl, ?_⟩) ?_ ?_
          rotate_left
          · intro w'
            go_simp
            with_reducible rfl
          rotate_left
          · simp only [Act.put, List.setIfInBounds_toArray, List.set_cons_zero, List.set_cons_succ, i64_w, i32_w]
            rfl
          refine pure_ (i := 5) (N := some 49) (v := undef) (a' := ?_) #[true, true, true, true, true, true, false, false, false, false, false, false] rfl rfl (by kernel_rfl) (fun _ _ _ h => h) (Or.inr ⟨by rfl, rfl⟩) ?_ ?_
          rotate_left
          · simp only [Act.put, List.setIfInBounds_toArray, List.set_cons_zero, List.set_cons_succ, i64_w, i32_w]
            rfl
          refine pure_ (i := 6) (N := some 50) (v := undef) (a' := ?_) #[true, true, true, true, true, true, true, false, false, false, false, false] rfl rfl (by kernel_rfl) (fun _ _ _ h => h) (Or.inr ⟨by rfl, rfl⟩) ?_ ?_
          rotate_left
          · simp only [Act.put, List.setIfInBounds_toArray, List.set_cons_zero, List.set_cons_succ, i64_w, i32_w]
            rfl
          refine pure_ (i := 7) (N := some 51) (v := ?_) (a' := ?_) #[true, true, true, true, true, true, true, true, false, false, false, false] rfl rfl (by kernel_rfl) (fun _ _ _ h => h) (Or.inl ⟨by rfl, ?_⟩) ?_ ?_
          rotate_left
          · intro w'
            go_simp
            with_reducible rfl
          rotate_left
          · simp only [Act.put, List.setIfInBounds_toArray, List.set_cons_zero, List.set_cons_succ, i64_w, i32_w]
            rfl
          refine pure_ (i := 8) (N := some 52) (v := ?_) (a' := ?_) #[true, true, true, true, true, true, true, true, true, false, false, false] rfl rfl (by kernel_rfl) (fun _ _ _ h => h) (Or.inl ⟨by rfl, ?_⟩) ?_ ?_
          rotate_left
          · intro w'
            go_simp
            with_reducible rfl
          rotate_left
          · simp only [Act.put, List.setIfInBounds_toArray, List.set_cons_zero, List.set_cons_succ, i64_w, i32_w]
            rfl
          refine one_ (i := 9) (N := none) #[true, true, true, true, true, true, true, true, true, true, false, false] rfl rfl (by kernel_rfl) (by decide) (fun K hK => ?_)
          refine skip_ (w1 := ?_) (by rfl) rfl ?_ ?_
          rotate_left
          · go_simp
            rfl
          refine hK.out _ _ ⟨(by go_simp), (by go_simp), (by go_simp)⟩ (fun hHeld => ?_)
          clear hK K
          refine pure_ (i := 10) (N := some 53) (v := ?_) (a' := ?_) #[true, true, true, true, true, true, true, true, true, true, true, false] rfl rfl (by kernel_rfl) (fun _ _ _ h => h) (Or.inl ⟨by rfl, ?_⟩) ?_ ?_
          rotate_left
          · intro w'
            go_simp
            with_reducible rfl
          rotate_left
          · simp only [Act.put, List.setIfInBounds_toArray, List.set_cons_zero, List.set_cons_succ, i64_w, i32_w]
            rfl
          refine last_ (i := 11) (N := none) #[true, true, true, true, true, true, true, true, true, true, true, true] rfl rfl (by kernel_rfl) (by decide) (fun K hK => ?_)
          refine skip_ (w1 := ?_) (by rfl) rfl ?_ ?_
          rotate_left
          · go_simp
            rfl
          refine hK.out _ _ ?_
          clear hK K
          refine done_ (by kernel_rfl) ?_
          clear u1 u2 v1 v2 g1 g2 hxo hHeld
          go_wp2_with fail
          go_roundg (gk - 1)
          case measure => have := HIK.out; omega
          case rel =>
            obtain ⟨X, hX⟩ : ∃ X, ((U.setCell ⟨rO, 1, none⟩ (.map (some bL))).setCell ⟨rO, 2, none⟩ (.bool false)).drew = X := ⟨_, rfl⟩
            have hgX : U.grownBy X (some rO) := by
              rw [← hX]
              have h := (Try.grown_set U ⟨rO, 1, none⟩ (.map (some bL))).trans (Try.grown_set _ ⟨rO, 2, none⟩ (.bool false))
              exact ⟨h.1, h.2, h.3, h.4, h.5⟩
            have hox : X.heap[rO]? = some (.cells #[.map (some bF), .map (some bL), .bool false] 61 (0, 0)) := by
              rw [← hX]
              exact blk_drew (blk_put (cs := #[.map (some bF), .map (some bL), .bool false]) (blk_put HOUTU.out 1 _ rfl) 2 _ rfl)
            rw [hX]
            exact ⟨i + 1, bF, bL, by go_num, by have := HIK.out; omega, Try.seq_mk HTK.out (HMU.out.grown hgX HOUTU.out (by decide) (by decide) (by decide) (by omega)), ⟨by rw [HTK.out]; exact (HFU.out.cells hgX HOUTU.out).iff (fun x => (Lang.firstS_snoc q x _ _).symm)⟩, ⟨by rw [HTK.out]; exact (HLU.out.cells hgX HOUTU.out).iff (fun x => (Lang.lastS_snoc q x _ _).symm)⟩, ⟨by rw [HTK.out, Lang.nulA_snoc, HEMP.out, HEN.out]; exact hox⟩, ⟨blk_grown HRESU.out hgX (fun e => by have := HRO.out; cases e; omega)⟩, ⟨HKU.out.then_ hgX (by omega)⟩⟩
      · have o0 := (blk_cell HOUT4.out 0).trans (show _ = some (Value.map (some b1)) from rfl)
        have o2 := (blk_cell HOUT4.out 2).trans (show _ = some (Value.bool true) from rfl)
        have y0 := (blk_cell HX4.out 0).trans (show _ = some (Value.map (some x1)) from rfl)
        have hcw := Try.SetP.with HS14.out HF4.out
        go_wp2_with fail
        refine hcw.mono ?_
        rintro e w5 ⟨rfl, hs5, hb5⟩
        have hout5 := (Try.Kept.below hb5).box HOUT4.out (by decide) (by decide) (by decide)
        have o05 := (blk_cell hout5 0).trans (show _ = some (Value.map (some b1)) from rfl)
        have f05 := blk_frozen hout5 0
        have HOUT5 := Aside0.mk hout5
        have HS5 := Aside0.mk hs5
        have HB5 := Aside0.mk hb5
        clear hcw hout5 hs5 hb5 o0 o2 y0
        go_upto_region 9 with fail
        obtain ⟨V, hV⟩ : ∃ V, w5.setCell ⟨rO, 0, none⟩ (.map (some w4.heap.size)) = V := ⟨_, rfl⟩
        have hgV : w5.grownBy V (some rO) := by rw [← hV]; exact Try.grown_set _ _ _
        have HOUTV : Aside0 (V.heap[rO]? = some (.cells #[.map (some w4.heap.size), .map (some b2), .bool true] 61 (0, 0))) := ⟨by rw [← hV]; exact blk_put HOUT5.out 0 _ rfl⟩
        rw [hV]
        have hk45 := Try.Kept.below HB5.out
        have HXV : Aside0 (V.heap[rX]? = some (.cells #[.map (some x1), .map (some x2), .bool en] 61 (0, 0))) := ⟨blk_grown (hk45.box HX4.out (by decide) (by decide) (by decide)) hgV (fun e => by have := HXO.out; cases e; omega)⟩
        have HRESV : Aside0 (V.heap[w.heap.size + 1]? = some (.cells #[.map none, .map none, .bool false] 61 (0, 0))) := ⟨blk_grown (hk45.box HRES4.out (by decide) (by decide) (by decide)) hgV (fun e => by have := HRO.out; cases e; omega)⟩
        have HMV := Aside0.mk ((HM4.out.later HB5.out).grown hgV HOUT5.out (by decide) (by decide) (by decide) (by omega))
        have HFV : Aside0 (Try.SetP V w4.heap.size (fun x => Lang.firstS (l.take i) ws.length x ∨ (Lang.nulA (l.take i) = true ∧ Lang.first q (ws.length + Lang.placesL (l.take i)) x))) := ⟨(HS5.out.cells hgV HOUT5.out).iff (fun x => by rw [HEO.out]; simp)⟩
        have HS2V := Aside0.mk ((HS24.out.keep hk45).cells hgV HOUT5.out)
        have HLV := Aside0.mk ((HL4.out.keep hk45).cells hgV HOUT5.out)
        have HKV := Aside0.mk ((HKW4.out.trans hk45).then_ hgV (by omega))
        obtain ⟨bF, hbF⟩ : ∃ b, w4.heap.size = b := ⟨_, rfl⟩
        rw [hbF] at HOUTV HFV ⊢
        clear o05 f05 hV hgV hk45 hbF
        cases en
        · have y2 := (blk_cell HXV.out 2).trans (show _ = some (Value.bool false) from rfl)
          go_upto_region 11 with fail
          obtain ⟨U, rfl⟩ : ∃ U, U = V := ⟨_, rfl⟩
          obtain ⟨bL, rfl⟩ : ∃ b, b = x2 := ⟨_, rfl⟩
          have HOUTU := HOUTV
          have HXU := HXV
          have HRESU := HRESV
          have HMU := HMV
          have HFU := HFV
          have HLU : Aside0 (Try.SetP U bL (fun x => Lang.last q (ws.length + Lang.placesL (l.take i)) x ∨ (Lang.nul q = true ∧ Lang.lastS (l.take i) ws.length x))) := ⟨HLV.out.iff (fun x => by rw [HEN.out]; simp)⟩
          have HKU := HKV
          clear y2
          have u1 := (blk_cell HXU.out 1).trans (show _ = some (Value.map (some bL)) from rfl)
          have u2 := (blk_cell HXU.out 2).trans (show _ = some (Value.bool false) from rfl)
          have v1 := (blk_cell HOUTU.out 1).trans (show _ = some (Value.map (some b2)) from rfl)
          have v2 := (blk_cell HOUTU.out 2).trans (show _ = some (Value.bool true) from rfl)
          have g1 := blk_frozen HOUTU.out 1
          have g2 := blk_frozen HOUTU.out 2
          have hxo : rX ≠ rO := by have := HXO.out; omega
          refine start_ (n := 12) (S := fun w' => w'.cell? ⟨rX, 1, none⟩ = some (.map (some bL)) ∧ w'.cell? ⟨rO, 2, none⟩ = some (.bool true) ∧ w'.cell? ⟨rX, 2, none⟩ = some (.bool false)) (ds := [11]) #[false, false, false, false, false, false, false, false, false, false, false, false] (by kernel_rfl) rfl rfl ⟨(by go_simp), (by go_simp), (by go_simp)⟩ (fun hHeld => ?_)
          refine pure_ (i := 0) (N := some 44) (v := ?_) (a' := ?_) #[true, false, false, false, false, false, false, false, false, false, false, false] rfl rfl (by kernel_rfl) (fun _ _ _ h => h) (Or.inl ⟨by rfl, ?_⟩) ?_ ?_
          rotate_left
          · intro w'
            go_simp
            with_reducible rfl
          rotate_left
          · simp only [Act.put, List.setIfInBounds_toArray, List.set_cons_zero, List.set_cons_succ, i64_w, i32_w]
            rfl
          refine pure_ (i := 2) (N := some 46) (v := ?_) (a' := ?_) #[true, false, true, false, false, false, false, false, false, false, false, false] rfl rfl (by kernel_rfl) (fun _ _ _ h => h) (Or.inl ⟨by rfl, ?_⟩) ?_ ?_
          rotate_left
          · intro w'
            go_simp
            with_reducible rfl
          rotate_left
          · simp only [Act.put, List.setIfInBounds_toArray, List.set_cons_zero, List.set_cons_succ, i64_w, i32_w]
            rfl
          refine take_ (i := 1) (N := some 45) (v := ?_) (a' := ?_) #[true, true, true, false, false, false, false, false, false, false, false, false] rfl rfl (by kernel_rfl) (fun _ _ _ h => h) (Or.inl ⟨by rfl, ?_⟩) hHeld ?_ ?_
          rotate_left
          · rintro w' ⟨s0, s1, s2⟩
            go_simp
            with_reducible rfl
          rotate_left
          · simp only [Act.put, List.setIfInBounds_toArray, List.set_cons_zero, List.set_cons_succ, i64_w, i32_w]
            rfl
          refine take_ (i := 3) (N := some 47) (v := ?_) (a' := ?_) #[true, true, true, true, false, false, false, false, false, false, false, false] rfl rfl (by kernel_rfl) (fun _ _ _ h => h) (Or.inl ⟨by rfl, ?_⟩) hHeld ?_ ?_
          rotate_left
          · rintro w' ⟨s0, s1, s2⟩
            go_simp
            with_reducible rfl
          rotate_left
          · simp only [Act.put, List.setIfInBounds_toArray, List.set_cons_zero, List.set_cons_succ, i64_w, i32_w]
            rfl
          refine pure_ (i := 4) (N := some 48) (v := ?_) (a' := ?_) #[true, true, true, true, true, false, false, false, false, false, false, false] rfl rfl (by kernel_rfl) (fun _ _ _ h => h) (Or.inl ⟨by rfl, ?_⟩) ?_ ?_
          rotate_left
          · intro w'
            go_simp
            with_reducible rfl
          rotate_left
          · simp only [Act.put, List.setIfInBounds_toArray, List.set_cons_zero, List.set_cons_succ, i64_w, i32_w]
            rfl
          refine pure_ (i := 5) (N := some 49) (v := ?_) (a' := ?_) #[true, true, true, true, true, true, false, false, false, false, false, false] rfl rfl (by kernel_rfl) (fun _ _ _ h => h) (Or.inl ⟨by rfl, ?_⟩) ?_ ?_
          rotate_left
          · intro w'
            go_simp
            with_reducible rfl
          rotate_left
          · simp only [Act.put, List.setIfInBounds_toArray, List.set_cons_zero, List.set_cons_succ, i64_w, i32_w]
            rfl
          refine pure_ (i := 8) (N := some 52) (v := ?_) (a' := ?_) #[true, true, true, true, true, true, false, false, true, false, false, false] rfl rfl (by kernel_rfl) (fun _ _ _ h => h) (Or.inl ⟨by rfl, ?_⟩) ?_ ?_
          rotate_left
          · intro w'
            go_simp
            with_reducible rfl
          rotate_left
          · simp only [Act.put, List.setIfInBounds_toArray, List.set_cons_zero, List.set_cons_succ, i64_w, i32_w]
            rfl
          refine take_ (i := 6) (N := some 50) (v := ?_) (a' := ?_) #[true, true, true, true, true, true, true, false, true, false, false, false] rfl rfl (by kernel_rfl) (fun _ _ _ h => h) (Or.inl ⟨by rfl, ?_⟩) hHeld ?_ ?_
          rotate_left
          · rintro w' ⟨s0, s1, s2⟩
            go_simp
            with_reducible rfl
          rotate_left
          · simp only [Act.put, List.setIfInBounds_toArray, List.set_cons_zero, List.set_cons_succ, i64_w, i32_w]
            rfl
          refine pure_ (i := 7) (N := some 51) (v := ?_) (a' := ?_) #[true, true, true, true, true, true, true, true, true, false, false, false] rfl rfl (by kernel_rfl) (fun _ _ _ h => h) (Or.inl ⟨by rfl, ?_⟩) ?_ ?_
          rotate_left
          · intro w'
            go_simp
            with_reducible rfl
          rotate_left
          · simp only [Act.put, List.setIfInBounds_toArray, List.set_cons_zero, List.set_cons_succ, i64_w, i32_w]
            rfl
          refine one_ (i := 9) (N := none) #[true, true, true, true, true, true, true, true, true, true, false, false] rfl rfl (by kernel_rfl) (by decide) (fun K hK => ?_)
          refine skip_ (w1 := ?_) (by rfl) rfl ?_ ?_
          rotate_left
          · go_simp
            rfl
          refine hK.out _ _ ⟨(by go_simp), (by go_simp), (by go_simp)⟩ (fun hHeld => ?_)
          clear hK K
          refine pure_ (i := 10) (N := some 53) (v := ?_) (a' := ?_) #[true, true, true, true, true, true, true, true, true, true, true, false] rfl rfl (by kernel_rfl) (fun _ _ _ h => h) (Or.inl ⟨by rfl, ?_⟩) ?_ ?_
          rotate_left
          · intro w'
            go_simp
            with_reducible rfl
          rotate_left
          · simp only [Act.put, List.setIfInBounds_toArray, List.set_cons_zero, List.set_cons_succ, i64_w, i32_w]
            rfl
          refine last_ (i := 11) (N := none) #[true, true, true, true, true, true, true, true, true, true, true, true] rfl rfl (by kernel_rfl) (by decide) (fun K hK => ?_)
          refine skip_ (w1 := ?_) (by rfl) rfl ?_ ?_
          rotate_left
          · go_simp
            rfl
          refine hK.out _ _ ?_
          clear hK K
          refine done_ (by kernel_rfl) ?_
          clear u1 u2 v1 v2 g1 g2 hxo hHeld
          go_wp2_with fail
          go_roundg (gk - 1)
          case measure => have := HIK.out; omega
          case rel =>
            obtain ⟨X, hX⟩ : ∃ X, ((U.setCell ⟨rO, 1, none⟩ (.map (some bL))).setCell ⟨rO, 2, none⟩ (.bool false)).drew = X := ⟨_, rfl⟩
            have hgX : U.grownBy X (some rO) := by
              rw [← hX]
              have h := (Try.grown_set U ⟨rO, 1, none⟩ (.map (some bL))).trans (Try.grown_set _ ⟨rO, 2, none⟩ (.bool false))
              exact ⟨h.1, h.2, h.3, h.4, h.5⟩
            have hox : X.heap[rO]? = some (.cells #[.map (some bF), .map (some bL), .bool false] 61 (0, 0)) := by
              rw [← hX]
              exact blk_drew (blk_put (cs := #[.map (some bF), .map (some bL), .bool true]) (blk_put HOUTU.out 1 _ rfl) 2 _ rfl)
            rw [hX]
            exact ⟨i + 1, bF, bL, by go_num, by have := HIK.out; omega, Try.seq_mk HTK.out (HMU.out.grown hgX HOUTU.out (by decide) (by decide) (by decide) (by omega)), ⟨by rw [HTK.out]; exact (HFU.out.cells hgX HOUTU.out).iff (fun x => (Lang.firstS_snoc q x _ _).symm)⟩, ⟨by rw [HTK.out]; exact (HLU.out.cells hgX HOUTU.out).iff (fun x => (Lang.lastS_snoc q x _ _).symm)⟩, ⟨by rw [HTK.out, Lang.nulA_snoc, HEMP.out, HEN.out]; exact hox⟩, ⟨blk_grown HRESU.out hgX (fun e => by have := HRO.out; cases e; omega)⟩, ⟨HKU.out.then_ hgX (by omega)⟩⟩
        · have y1 := (blk_cell HXV.out 1).trans (show _ = some (Value.map (some x2)) from rfl)
          have y2 := (blk_cell HXV.out 2).trans (show _ = some (Value.bool true) from rfl)
          have o1 := (blk_cell HOUTV.out 1).trans (show _ = some (Value.map (some b2)) from rfl)
          have hcw := Try.SetP.with HLV.out HS2V.out
          go_wp2_with fail
          refine hcw.mono ?_
          rintro e w6 ⟨rfl, hs6, hb6⟩
          have hx6 := (Try.Kept.below hb6).box HXV.out (by decide) (by decide) (by decide)
          have y16 := (blk_cell hx6 1).trans (show _ = some (Value.map (some x2)) from rfl)
          have f16 := blk_frozen hx6 1
          have HX6 := Aside0.mk hx6
          have HS6 := Aside0.mk hs6
          have HB6 := Aside0.mk hb6
          clear hcw hx6 hs6 hb6 y1 y2 o1
          go_upto_region 11 with fail
          obtain ⟨U, hU⟩ : ∃ U, w6.setCell ⟨rX, 1, none⟩ (.map (some V.heap.size)) = U := ⟨_, rfl⟩
          have hgU : w6.grownBy U (some rX) := by rw [← hU]; exact Try.grown_set _ _ _
          have HXU : Aside0 (U.heap[rX]? = some (.cells #[.map (some x1), .map (some V.heap.size), .bool true] 61 (0, 0))) := ⟨by rw [← hU]; exact blk_put HX6.out 1 _ rfl⟩
          rw [hU]
          have hk56 := Try.Kept.below HB6.out
          have HOUTU : Aside0 (U.heap[rO]? = some (.cells #[.map (some bF), .map (some b2), .bool true] 61 (0, 0))) := ⟨blk_grown (hk56.box HOUTV.out (by decide) (by decide) (by decide)) hgU (fun e => by have := HXO.out; cases e; omega)⟩
          have HRESU : Aside0 (U.heap[w.heap.size + 1]? = some (.cells #[.map none, .map none, .bool false] 61 (0, 0))) := ⟨blk_grown (hk56.box HRESV.out (by decide) (by decide) (by decide)) hgU (fun e => by have := HXO.out; have := HRO.out; cases e; omega)⟩
          have HMU := Aside0.mk ((HMV.out.later HB6.out).grown hgU HX6.out (by decide) (by decide) (by decide) (by have := HXO.out; omega))
          have HFU := Aside0.mk ((HFV.out.keep hk56).cells hgU HX6.out)
          have HLU : Aside0 (Try.SetP U V.heap.size (fun x => Lang.last q (ws.length + Lang.placesL (l.take i)) x ∨ (Lang.nul q = true ∧ Lang.lastS (l.take i) ws.length x))) := ⟨(HS6.out.cells hgU HX6.out).iff (fun x => by rw [HEN.out]; simp)⟩
          have HKU := Aside0.mk ((HKV.out.trans hk56).then_ hgU (by have := HXO.out; omega))
          obtain ⟨bL, hbL⟩ : ∃ b, V.heap.size = b := ⟨_, rfl⟩
          rw [hbL] at HXU HLU ⊢
          clear y16 f16 hU hgU hk56 hbL
          have u1 := (blk_cell HXU.out 1).trans (show _ = some (Value.map (some bL)) from rfl)
          have u2 := (blk_cell HXU.out 2).trans (show _ = some (Value.bool true) from rfl)
          have v1 := (blk_cell HOUTU.out 1).trans (show _ = some (Value.map (some b2)) from rfl)
          have v2 := (blk_cell HOUTU.out 2).trans (show _ = some (Value.bool true) from rfl)
          have g1 := blk_frozen HOUTU.out 1
          have g2 := blk_frozen HOUTU.out 2
          have hxo : rX ≠ rO := by have := HXO.out; omega
          refine start_ (n := 12) (S := fun w' => w'.cell? ⟨rX, 1, none⟩ = some (.map (some bL)) ∧ w'.cell? ⟨rO, 2, none⟩ = some (.bool true) ∧ w'.cell? ⟨rX, 2, none⟩ = some (.bool true)) (ds := [11]) #[false, false, false, false, false, false, false, false, false, false, false, false] (by kernel_rfl) rfl rfl ⟨(by go_simp), (by go_simp), (by go_simp)⟩ (fun hHeld => ?_)
          refine pure_ (i := 0) (N := some 44) (v := ?_) (a' := ?_) #[true, false, false, false, false, false, false, false, false, false, false, false] rfl rfl (by kernel_rfl) (fun _ _ _ h => h) (Or.inl ⟨by rfl, ?_⟩) ?_ ?_
          rotate_left
          · intro w'
            go_simp
            with_reducible rfl
          rotate_left
          · simp only [Act.put, List.setIfInBounds_toArray, List.set_cons_zero, List.set_cons_succ, i64_w, i32_w]
            rfl
          refine pure_ (i := 2) (N := some 46) (v := ?_) (a' := ?_) #[true, false, true, false, false, false, false, false, false, false, false, false] rfl rfl (by kernel_rfl) (fun _ _ _ h => h) (Or.inl ⟨by rfl, ?_⟩) ?_ ?_
          rotate_left
          · intro w'
            go_simp
            with_reducible rfl
          rotate_left
          · simp only [Act.put, List.setIfInBounds_toArray, List.set_cons_zero, List.set_cons_succ, i64_w, i32_w]
            rfl
          refine take_ (i := 1) (N := some 45) (v := ?_) (a' := ?_) #[true, true, true, false, false, false, false, false, false, false, false, false] rfl rfl (by kernel_rfl) (fun _ _ _ h => h) (Or.inl ⟨by rfl, ?_⟩) hHeld ?_ ?_
          rotate_left
          · rintro w' ⟨s0, s1, s2⟩
            go_simp
            with_reducible rfl
          rotate_left
          · simp only [Act.put, List.setIfInBounds_toArray, List.set_cons_zero, List.set_cons_succ, i64_w, i32_w]
            rfl
          refine take_ (i := 3) (N := some 47) (v := ?_) (a' := ?_) #[true, true, true, true, false, false, false, false, false, false, false, false] rfl rfl (by kernel_rfl) (fun _ _ _ h => h) (Or.inl ⟨by rfl, ?_⟩) hHeld ?_ ?_
          rotate_left
          · rintro w' ⟨s0, s1, s2⟩
            go_simp
            with_reducible rfl
          rotate_left
          · simp only [Act.put, List.setIfInBounds_toArray, List.set_cons_zero, List.set_cons_succ, i64_w, i32_w]
            rfl
          refine pure_ (i := 4) (N := some 48) (v := ?_) (a' := ?_) #[true, true, true, true, true, false, false, false, false, false, false, false] rfl rfl (by kernel_rfl) (fun _ _ _ h => h) (Or.inl ⟨by rfl, ?_⟩) ?_ ?_
          rotate_left
          · intro w'
            go_simp
            with_reducible rfl
          rotate_left
          · simp only [Act.put, List.setIfInBounds_toArray, List.set_cons_zero, List.set_cons_succ, i64_w, i32_w]
            rfl
          refine pure_ (i := 5) (N := some 49) (v := ?_) (a' := ?_) #[true, true, true, true, true, true, false, false, false, false, false, false] rfl rfl (by kernel_rfl) (fun _ _ _ h => h) (Or.inl ⟨by rfl, ?_⟩) ?_ ?_
          rotate_left
          · intro w'
            go_simp
            with_reducible rfl
          rotate_left
          · simp only [Act.put, List.setIfInBounds_toArray, List.set_cons_zero, List.set_cons_succ, i64_w, i32_w]
            rfl
          refine pure_ (i := 8) (N := some 52) (v := ?_) (a' := ?_) #[true, true, true, true, true, true, false, false, true, false, false, false] rfl rfl (by kernel_rfl) (fun _ _ _ h => h) (Or.inl ⟨by rfl, ?_⟩) ?_ ?_
          rotate_left
          · intro w'
            go_simp
            with_reducible rfl
          rotate_left
          · simp only [Act.put, List.setIfInBounds_toArray, List.set_cons_zero, List.set_cons_succ, i64_w, i32_w]
            rfl
          refine take_ (i := 6) (N := some 50) (v := ?_) (a' := ?_) #[true, true, true, true, true, true, true, false, true, false, false, false] rfl rfl (by kernel_rfl) (fun _ _ _ h => h) (Or.inl ⟨by rfl, ?_⟩) hHeld ?_ ?_
          rotate_left
          · rintro w' ⟨s0, s1, s2⟩
            go_simp
            with_reducible rfl
          rotate_left
          · simp only [Act.put, List.setIfInBounds_toArray, List.set_cons_zero, List.set_cons_succ, i64_w, i32_w]
            rfl
          refine pure_ (i := 7) (N := some 51) (v := ?_) (a' := ?_) #[true, true, true, true, true, true, true, true, true, false, false, false] rfl rfl (by kernel_rfl) (fun _ _ _ h => h) (Or.inl ⟨by rfl, ?_⟩) ?_ ?_
          rotate_left
          · intro w'
            go_simp
            with_reducible rfl
          rotate_left
          · simp only [Act.put, List.setIfInBounds_toArray, List.set_cons_zero, List.set_cons_succ, i64_w, i32_w]
            rfl
          refine one_ (i := 9) (N := none) #[true, true, true, true, true, true, true, true, true, true, false, false] rfl rfl (by kernel_rfl) (by decide) (fun K hK => ?_)
          refine skip_ (w1 := ?_) (by rfl) rfl ?_ ?_
          rotate_left
          · go_simp
            rfl
          refine hK.out _ _ ⟨(by go_simp), (by go_simp), (by go_simp)⟩ (fun hHeld => ?_)
          clear hK K
          refine pure_ (i := 10) (N := some 53) (v := ?_) (a' := ?_) #[true, true, true, true, true, true, true, true, true, true, true, false] rfl rfl (by kernel_rfl) (fun _ _ _ h => h) (Or.inl ⟨by rfl, ?_⟩) ?_ ?_
          rotate_left
          · intro w'
            go_simp
            with_reducible rfl
          rotate_left
          · simp only [Act.put, List.setIfInBounds_toArray, List.set_cons_zero, List.set_cons_succ, i64_w, i32_w]
            rfl
          refine last_ (i := 11) (N := none) #[true, true, true, true, true, true, true, true, true, true, true, true] rfl rfl (by kernel_rfl) (by decide) (fun K hK => ?_)
          refine skip_ (w1 := ?_) (by rfl) rfl ?_ ?_
          rotate_left
          · go_simp
            rfl
          refine hK.out _ _ ?_
          clear hK K
          refine done_ (by kernel_rfl) ?_
          clear u1 u2 v1 v2 g1 g2 hxo hHeld
          go_wp2_with fail
          go_roundg (gk - 1)
          case measure => have := HIK.out; omega
          case rel =>
            obtain ⟨X, hX⟩ : ∃ X, ((U.setCell ⟨rO, 1, none⟩ (.map (some bL))).setCell ⟨rO, 2, none⟩ (.bool true)).drew = X := ⟨_, rfl⟩
            have hgX : U.grownBy X (some rO) := by
              rw [← hX]
              have h := (Try.grown_set U ⟨rO, 1, none⟩ (.map (some bL))).trans (Try.grown_set _ ⟨rO, 2, none⟩ (.bool true))
              exact ⟨h.1, h.2, h.3, h.4, h.5⟩
            have hox : X.heap[rO]? = some (.cells #[.map (some bF), .map (some bL), .bool true] 61 (0, 0)) := by
              rw [← hX]
              exact blk_drew (blk_put (cs := #[.map (some bF), .map (some bL), .bool true]) (blk_put HOUTU.out 1 _ rfl) 2 _ rfl)
            rw [hX]
            exact ⟨i + 1, bF, bL, by go_num, by have := HIK.out; omega, Try.seq_mk HTK.out (HMU.out.grown hgX HOUTU.out (by decide) (by decide) (by decide) (by omega)), ⟨by rw [HTK.out]; exact (HFU.out.cells hgX HOUTU.out).iff (fun x => (Lang.firstS_snoc q x _ _).symm)⟩, ⟨by rw [HTK.out]; exact (HLU.out.cells hgX HOUTU.out).iff (fun x => (Lang.lastS_snoc q x _ _).symm)⟩, ⟨by rw [HTK.out, Lang.nulA_snoc, HEMP.out, HEN.out]; exact hox⟩, ⟨blk_grown HRESU.out hgX (fun e => by have := HRO.out; cases e; omega)⟩, ⟨HKU.out.then_ hgX (by omega)⟩⟩
    · have e : i = l.length := by omega
      have HE := Aside0.mk e
      have o0 := (blk_cell HOUT.out 0).trans (show _ = some (Value.map (some b1)) from rfl)
      have o1 := (blk_cell HOUT.out 1).trans (show _ = some (Value.map (some b2)) from rfl)
      have o2 := (blk_cell HOUT.out 2).trans (show _ = some (Value.bool eo) from rfl)
      have r0 := (blk_cell HRES.out 0).trans (show _ = some (Value.map none) from rfl)
      have r1 := (blk_cell HRES.out 1).trans (show _ = some (Value.map none) from rfl)
      have r2 := (blk_cell HRES.out 2).trans (show _ = some (Value.bool false) from rfl)
      have f0 := blk_frozen HRES.out 0
      have f1 := blk_frozen HRES.out 1
      have f2 := blk_frozen HRES.out 2
      clear hik e heo
      go_wp2_with fail
      obtain ⟨W9, h9⟩ : ∃ W9, ((wr.setCell ⟨w.heap.size + 1, 0, none⟩ (.map (some b1))).setCell ⟨w.heap.size + 1, 1, none⟩ (.map (some b2))).setCell ⟨w.heap.size + 1, 2, none⟩ (.bool eo) = W9 := ⟨_, rfl⟩
      rw [h9]
      (try simp only [Exit.inBlock, Exit.then])
      refine bodyPost_ret (Try.piece_res rfl _ _ (w.heap.size + 1) _ (by rfl) rfl (Try.three_box HRES.out h9)) rfl ?_
      have eo' := HEO.out
      have htl : l.take i = l := by rw [HE.out, List.take_length]
      have hM := HM.out
      have hS1 := HS1.out
      have hS2 := HS2.out
      rw [htl] at eo' hM hS1 hS2
      rw [← eo']
      rw [← eo'] at h9
      exact Try.piece_end hM hS1 hS2 HKW.out hw0 (by omega) HRES.out h9
end Go.Proofs

namespace Go.Proofs
open Go.RowKit Go.Shelf Go.Proofs.YtjobnfbianlpnaaW.PrintWords Go.Proofs.YtjobnfbianlpnaaW.PrintLast Go.Proofs.Ytjobnfbianlpnaa.P
theorem Try.alt_mk {w0 w : World} {bm : Nat} {ws : List ByteArray} {F : Int → Int → Prop} {l l' : List Lang.Path} {q : Lang.Path} (ht : l' = l ++ [q])
    (h : Try.MkAt w0 w bm ((ws ++ Lang.wordsL l) ++ Lang.wordsOf q) (fun x y => (F x y ∨ Lang.folA l ws.length x y) ∨ Lang.fol q (ws.length + Lang.placesL l) x y)) :
    Aside0 (Try.MkAt w0 w bm (ws ++ Lang.wordsL l') (fun x y => F x y ∨ Lang.folA l' ws.length x y)) := ⟨by
  subst ht
  rw [Lang.wordsL_snoc, ← List.append_assoc]
  exact h.iff (fun x y => by simp only [Lang.folA_snoc, or_assoc])⟩
set_option maxHeartbeats 4000000 in
set_option maxRecDepth 100000 in
theorem Try.alt_calls (w0 w : World) (bm : Nat) (ws : List ByteArray) (F : Int → Int → Prop) (l : List Lang.Path) (ih : ∀ q ∈ l, Try.MakeSpec w0 q) (h : Try.MkAt w0 w bm ws F) (hn : ws.length + Lang.placesL l ≤ 24) (hok : Lang.okL l) (kd : Int) (wd : ByteArray) (A : Option Addr) (c : Nat) (hl : Kd.C k24 w0 A l.length l) (hlc : l.length ≤ c) :
    Calls Try.prog 36 #[.pointer (some ⟨bm, 0, none⟩), .agg #[.int .i64 kd, .string wd, .slice A l.length c]] w fun e w' => Try.PiecePost w0 w bm ws F e w' (Lang.wordsL l) (Lang.folA l ws.length) (Lang.firstA l ws.length) (Lang.lastA l ws.length) (Lang.nulO l) := by
  have H := Aside0.mk h
  have IH := Aside0.mk ih
  have HN := Aside0.mk hn
  have HOK := Aside0.mk hok
  have HL := Aside0.mk hl
  have HLC := Aside0.mk hlc
  have hmax : l.length ≤ 9223372036854775807 := Kd.C_max hl
  have hmm := @run_makeMap Try.prog
  clear h ih hn hok hl hlc
  go_enter Try.func36, Try.ntmps36
  go_upto_block 0 with fail
  obtain ⟨W, hW⟩ : ∃ W, (((((w.alloc (.cells #[.int .i64 kd, .string wd, .slice A l.length c] 24)).alloc (.cells #[.map none, .map none, .bool false] 61)).alloc (.map #[] 0)).alloc (.map #[] 0)).alloc (.cells #[.map (some (w.heap.size + 1 + 1)), .map (some (w.heap.size + 1 + 1 + 1)), .bool false] 61)) = W := ⟨_, rfl⟩
  obtain ⟨hsz, hres, hs1, hs2, hout, hbW⟩ := Try.five hW
  rw [hW]
  have HM := Aside0.mk (H.out.later hbW)
  have HS1 := Aside0.mk hs1
  have HS2 := Aside0.mk hs2
  have HRES := Aside0.mk hres
  have HKW := Aside0.mk (Try.Kept.below hbW)
  have hw0 : w0.heap.size ≤ w.heap.size := H.out.below.size
  obtain ⟨rO, hrO⟩ : ∃ r, w.heap.size + 1 + 1 + 1 + 1 = r := ⟨_, rfl⟩
  rw [hrO] at hout ⊢
  have HOUT := Aside0.mk hout
  have HRO := Aside0.mk hrO
  have hrlt : w.heap.size < rO := by omega
  clear hW hsz hres hs1 hs2 hout hbW hrO hmm
  go_wp2_with fail
  go_loopg [15] l.length (fun kq v15 W => ∃ (i b1 b2 : Nat), v15 = .int .i64 (i : Int) ∧ i + kq = l.length ∧ Aside0 (Try.MkAt w0 W bm (ws ++ Lang.wordsL (l.take i)) (fun x y => F x y ∨ Lang.folA (l.take i) ws.length x y)) ∧ Aside0 (Try.SetP W b1 (Lang.firstA (l.take i) ws.length)) ∧ Aside0 (Try.SetP W b2 (Lang.lastA (l.take i) ws.length)) ∧ Aside0 (W.heap[rO]? = some (.cells #[.map (some b1), .map (some b2), .bool (Lang.nulO (l.take i))] 61 (0, 0))) ∧ Aside0 (W.heap[w.heap.size + 1]? = some (.cells #[.map none, .map none, .bool false] 61 (0, 0))) ∧ Aside0 (Try.Kept w W))
  case atStart =>
    exact ⟨0, _, _, rfl, by omega, ⟨by simpa [Lang.wordsL, Lang.folA] using HM.out⟩, ⟨HS1.out.iff (fun x => by simp [Lang.firstA])⟩, ⟨HS2.out.iff (fun x => by simp [Lang.lastA])⟩, ⟨by simpa [Lang.nulO] using HOUT.out⟩, HRES, HKW⟩
  case round =>
    clear HM HS1 HS2 HRES HKW HOUT
    obtain ⟨i, b1, b2, rfl, hik, HM, HS1, HS2, HOUT, HRES, HKW⟩ := hrel
    have HIK := Aside0.mk hik
    obtain ⟨eo, heo⟩ : ∃ eo, Lang.nulO (l.take i) = eo := ⟨_, rfl⟩
    rw [heo] at HOUT
    have HEO := Aside0.mk heo
    by_cases hlt : i < l.length
    · obtain ⟨ad, Aq, cq, rfl, k0, k1, k2, hqc, hq⟩ := at_T24 (Kd.C_below HL.out HM.out.below) (i : Int) (by omega) (by omega)
      obtain ⟨q, hqd⟩ : ∃ q, rd_T24 l i = q := ⟨_, rfl⟩
      have e0 : (i : Int).toNat = i := Int.toNat_natCast i
      rw [hqd] at k0 k1 k2 hqc hq
      rw [e0] at k0 k1 k2
      have hqm : l[i]? = some q := by rw [← hqd]; simp [rd_T24, List.getD, List.getElem?_eq_getElem hlt]
      have htake : l.take (i + 1) = l.take i ++ [q] := by rw [List.take_add_one, hqm]; rfl
      have hmem : q ∈ l := List.mem_of_getElem? hqm
      have HTK := Aside0.mk htake
      have HQC := Aside0.mk hqc
      have HQ0 : Aside0 (Kd.C k24 w0 Aq q.f2.length q.f2) := ⟨by
        obtain ⟨ad', Aq', cq', e1, j0, j1, j2, jc, jq⟩ := at_T24 HL.out (i : Int) (by omega) (by omega)
        cases e1
        rw [hqd, e0] at j2
        rw [hqd] at jq
        have := pw_cell_below HM.out.below j2
        rw [k2] at this
        cases this
        exact jq⟩
      have hpl : ws.length + Lang.placesL (l.take i) + Lang.places q ≤ 24 := by
        have := Lang.placesL_take l (i + 1)
        rw [htake, Lang.placesL_snoc] at this
        have := HN.out
        omega
      have HPL := Aside0.mk hpl
      have HOKQ := Aside0.mk (Lang.okL_mem HOK.out q hmem)
      have HSPEC := Aside0.mk (IH.out q hmem)
      have hle : i ≤ 9223372036854775806 := by omega
      have HO2 := Aside0.mk (HM.out.later (below_alloc (Below.refl _ wr) (.cells #[.int .i64 q.f0, .string q.f1, .slice Aq q.f2.length cq] 24)))
      have hlen : (ws ++ Lang.wordsL (l.take i)).length = ws.length + Lang.placesL (l.take i) := by rw [List.length_append, Lang.wordsL_length]
      have HLEN := Aside0.mk hlen
      have hc := HSPEC.out _ _ _ _ Aq cq HO2.out (by rw [hlen]; exact hpl) HOKQ.out HQ0.out HQC.out
      clear hik heo hqd e0 hqm htake hmem hqc hq hpl hlen
      go_wp2_with fail
      refine hc.mono ?_
      rintro e w2 ⟨x1, x2, rfl, hM2, hF2, hL2, hK2⟩
      rw [HLEN.out] at hM2 hF2 hL2
      obtain ⟨en, hen⟩ : ∃ en, Lang.nul q = en := ⟨_, rfl⟩
      rw [hen]
      have HEN := Aside0.mk hen
      have HEMP := HEO
      have hb2 := below_alloc (Below.refl _ wr) (.cells #[.int .i64 q.f0, .string q.f1, .slice Aq q.f2.length cq] 24)
      have hkr := (Try.Kept.below hb2).trans hK2
      have HOUT2 := Aside0.mk (hkr.box HOUT.out (by decide) (by decide) (by decide))
      have HRES2 := Aside0.mk (hkr.box HRES.out (by decide) (by decide) (by decide))
      have hrX := blk_lt HOUT2.out
      obtain ⟨w3, hw3⟩ : ∃ w3, w2.alloc (.cells #[.map (some x1), .map (some x2), .bool en] 61) = w3 := ⟨_, rfl⟩
      have hb3 : Below w2.heap.size w2 w3 := by rw [← hw3]; exact below_alloc (Below.refl _ w2) _
      have hk3 := Try.Kept.below hb3
      have HX3 : Aside0 (w3.heap[w2.heap.size]? = some (.cells #[.map (some x1), .map (some x2), .bool en] 61 (0, 0))) := ⟨by rw [← hw3]; exact (MapKept.heap_alloc w2 _).1⟩
      have HM3 := Aside0.mk (hM2.later hb3)
      have HF3 := Aside0.mk (hF2.keep hk3)
      have HL3 := Aside0.mk (hL2.keep hk3)
      have HS13 := Aside0.mk ((HS1.out.keep hkr).keep hk3)
      have HS23 := Aside0.mk ((HS2.out.keep hkr).keep hk3)
      have HOUT3 := Aside0.mk (hk3.box HOUT2.out (by decide) (by decide) (by decide))
      have HRES3 := Aside0.mk (hk3.box HRES2.out (by decide) (by decide) (by decide))
      have HKW3 := Aside0.mk ((HKW.out.trans hkr).trans hk3)
      have HW3 := Aside0.mk hw3
      clear hc hM2 hF2 hL2 hK2 hkr hb2 hb3 hk3 hen hw3 k0 k1 k2 HM HS1 HS2 HOUT HRES HKW HOUT2 HRES2 HO2
      go_wp2_with fail
      rw [HW3.out]
      obtain ⟨rX, hrXe⟩ : ∃ r, w2.heap.size = r := ⟨_, rfl⟩
      rw [hrXe] at hrX HX3 ⊢
      have HXO := Aside0.mk hrX
      have HLTX := Aside0.mk (blk_lt HX3.out)
      have HLTO := Aside0.mk (blk_lt HOUT3.out)
      have HBD := Aside0.mk (below_drew1 (Below.refl w3.heap.size w3))
      have HWA := Aside0.mk (Try.SetP.with (w := w3.drew) HS13.out HF3.out)
      have HWB := Aside0.mk (Try.SetP.with (w := w3.drew) HS23.out HL3.out)
      have o0 := (blk_cell HOUT3.out 0).trans (show _ = some (Value.map (some b1)) from rfl)
      have o1 := (blk_cell HOUT3.out 1).trans (show _ = some (Value.map (some b2)) from rfl)
      have o2 := (blk_cell HOUT3.out 2).trans (show _ = some (Value.bool eo) from rfl)
      have y0 := (blk_cell HX3.out 0).trans (show _ = some (Value.map (some x1)) from rfl)
      have y1 := (blk_cell HX3.out 1).trans (show _ = some (Value.map (some x2)) from rfl)
      have y2 := (blk_cell HX3.out 2).trans (show _ = some (Value.bool en) from rfl)
      clear hrXe hrX
      cases eo
      · skip
        refine start_ (n := 18) (S := fun w' => w'.cell? ⟨rO, 0, none⟩ = some (.map (some b1)) ∧ w'.cell? ⟨rO, 1, none⟩ = some (.map (some b2)) ∧ w'.cell? ⟨rO, 2, none⟩ = some (.bool false) ∧ w'.cell? ⟨rX, 0, none⟩ = some (.map (some x1)) ∧ w'.cell? ⟨rX, 1, none⟩ = some (.map (some x2)) ∧ w'.cell? ⟨rX, 2, none⟩ = some (.bool en)) (ds := [17]) #[false, false, false, false, false, false, false, false, false, false, false, false, false, false, false, false, false, false] (by kernel_rfl) rfl rfl ⟨(by go_simp), (by go_simp), (by go_simp), (by go_simp), (by go_simp), (by go_simp)⟩ (fun hHeld => ?_)
        refine pure_ (i := 0) (N := some 22) (v := ?_) (a' := ?_) #[true, false, false, false, false, false, false, false, false, false, false, false, false, false, false, false, false, false] rfl rfl (by kernel_rfl) (fun _ _ _ h => h) (Or.inl ⟨by rfl, ?_⟩) ?_ ?_
        rotate_left
        · intro w'
          go_simp
          with_reducible rfl
        rotate_left
        · simp only [Act.put, List.setIfInBounds_toArray, List.set_cons_zero, List.set_cons_succ, i64_w, i32_w]
          rfl
        refine pure_ (i := 2) (N := some 24) (v := ?_) (a' := ?_) #[true, false, true, false, false, false, false, false, false, false, false, false, false, false, false, false, false, false] rfl rfl (by kernel_rfl) (fun _ _ _ h => h) (Or.inl ⟨by rfl, ?_⟩) ?_ ?_
        rotate_left
        · intro w'
          go_simp
          with_reducible rfl
        rotate_left
        · simp only [Act.put, List.setIfInBounds_toArray, List.set_cons_zero, List.set_cons_succ, i64_w, i32_w]
          rfl
        refine pure_ (i := 5) (N := some 27) (v := ?_) (a' := ?_) #[true, false, true, false, false, true, false, false, false, false, false, false, false, false, false, false, false, false] rfl rfl (by kernel_rfl) (fun _ _ _ h => h) (Or.inl ⟨by rfl, ?_⟩) ?_ ?_
        rotate_left
        · intro w'
          go_simp
          with_reducible rfl
        rotate_left
        · simp only [Act.put, List.setIfInBounds_toArray, List.set_cons_zero, List.set_cons_succ, i64_w, i32_w]
          rfl
        refine pure_ (i := 7) (N := some 29) (v := ?_) (a' := ?_) #[true, false, true, false, false, true, false, true, false, false, false, false, false, false, false, false, false, false] rfl rfl (by kernel_rfl) (fun _ _ _ h => h) (Or.inl ⟨by rfl, ?_⟩) ?_ ?_
        rotate_left
        · intro w'
          go_simp
          with_reducible rfl
        rotate_left
        · simp only [Act.put, List.setIfInBounds_toArray, List.set_cons_zero, List.set_cons_succ, i64_w, i32_w]
          rfl
        refine pure_ (i := 10) (N := some 32) (v := ?_) (a' := ?_) #[true, false, true, false, false, true, false, true, false, false, true, false, false, false, false, false, false, false] rfl rfl (by kernel_rfl) (fun _ _ _ h => h) (Or.inl ⟨by rfl, ?_⟩) ?_ ?_
        rotate_left
        · intro w'
          go_simp
          with_reducible rfl
        rotate_left
        · simp only [Act.put, List.setIfInBounds_toArray, List.set_cons_zero, List.set_cons_succ, i64_w, i32_w]
          rfl
        refine take_ (i := 1) (N := some 23) (v := ?_) (a' := ?_) #[true, true, true, false, false, true, false, true, false, false, true, false, false, false, false, false, false, false] rfl rfl (by kernel_rfl) (fun _ _ _ h => h) (Or.inl ⟨by rfl, ?_⟩) hHeld ?_ ?_
        rotate_left
        · rintro w' ⟨s0, s1, s2, s3, s4, s5⟩
          go_simp
          with_reducible rfl
        rotate_left
        · simp only [Act.put, List.setIfInBounds_toArray, List.set_cons_zero, List.set_cons_succ, i64_w, i32_w]
          rfl
        refine take_ (i := 3) (N := some 25) (v := ?_) (a' := ?_) #[true, true, true, true, false, true, false, true, false, false, true, false, false, false, false, false, false, false] rfl rfl (by kernel_rfl) (fun _ _ _ h => h) (Or.inl ⟨by rfl, ?_⟩) hHeld ?_ ?_
        rotate_left
        · rintro w' ⟨s0, s1, s2, s3, s4, s5⟩
          go_simp
          with_reducible rfl
        rotate_left
        · simp only [Act.put, List.setIfInBounds_toArray, List.set_cons_zero, List.set_cons_succ, i64_w, i32_w]
          rfl
        refine take_ (i := 6) (N := some 28) (v := ?_) (a' := ?_) #[true, true, true, true, false, true, true, true, false, false, true, false, false, false, false, false, false, false] rfl rfl (by kernel_rfl) (fun _ _ _ h => h) (Or.inl ⟨by rfl, ?_⟩) hHeld ?_ ?_
        rotate_left
        · rintro w' ⟨s0, s1, s2, s3, s4, s5⟩
          go_simp
          with_reducible rfl
        rotate_left
        · simp only [Act.put, List.setIfInBounds_toArray, List.set_cons_zero, List.set_cons_succ, i64_w, i32_w]
          rfl
        refine take_ (i := 8) (N := some 30) (v := ?_) (a' := ?_) #[true, true, true, true, false, true, true, true, true, false, true, false, false, false, false, false, false, false] rfl rfl (by kernel_rfl) (fun _ _ _ h => h) (Or.inl ⟨by rfl, ?_⟩) hHeld ?_ ?_
        rotate_left
        · rintro w' ⟨s0, s1, s2, s3, s4, s5⟩
          go_simp
          with_reducible rfl
        rotate_left
        · simp only [Act.put, List.setIfInBounds_toArray, List.set_cons_zero, List.set_cons_succ, i64_w, i32_w]
          rfl
        refine take_ (i := 11) (N := some 33) (v := ?_) (a' := ?_) #[true, true, true, true, false, true, true, true, true, false, true, true, false, false, false, false, false, false] rfl rfl (by kernel_rfl) (fun _ _ _ h => h) (Or.inl ⟨by rfl, ?_⟩) hHeld ?_ ?_
        rotate_left
        · rintro w' ⟨s0, s1, s2, s3, s4, s5⟩
          go_simp
          with_reducible rfl
        rotate_left
        · simp only [Act.put, List.setIfInBounds_toArray, List.set_cons_zero, List.set_cons_succ, i64_w, i32_w]
          rfl
        refine one_ (i := 4) (N := some 26) #[true, true, true, true, true, true, true, true, true, false, true, true, false, false, false, false, false, false] rfl rfl (by kernel_rfl) (by decide) (fun K hK => ?_)
        refine goes_ Try.func57 (by kernel_rfl) rfl #[.map (some b1), .map (some x1)] (by rfl) rfl rfl (by simp only [List.map_toArray, List.map_cons, List.map_nil]; rfl) ?_
        with_reducible refine (HWA.out).mono ?_
        rintro e w5 ⟨rfl, hs5, hb5⟩
        refine ⟨_, rfl, ?_⟩
        have q5_0 : w5.cell? ⟨rO, 0, none⟩ = some (.map (some b1)) := (hb5.cell (p := ⟨rO, 0, none⟩) HLTO.out).trans o0
        have q5_1 : w5.cell? ⟨rO, 1, none⟩ = some (.map (some b2)) := (hb5.cell (p := ⟨rO, 1, none⟩) HLTO.out).trans o1
        have q5_2 : w5.cell? ⟨rO, 2, none⟩ = some (.bool false) := (hb5.cell (p := ⟨rO, 2, none⟩) HLTO.out).trans o2
        have q5_3 : w5.cell? ⟨rX, 0, none⟩ = some (.map (some x1)) := (hb5.cell (p := ⟨rX, 0, none⟩) HLTX.out).trans y0
        have q5_4 : w5.cell? ⟨rX, 1, none⟩ = some (.map (some x2)) := (hb5.cell (p := ⟨rX, 1, none⟩) HLTX.out).trans y1
        have q5_5 : w5.cell? ⟨rX, 2, none⟩ = some (.bool en) := (hb5.cell (p := ⟨rX, 2, none⟩) HLTX.out).trans y2
        have HS5 := Aside0.mk hs5
        have HB5 := Aside0.mk hb5
        clear hs5 hb5
        refine hK.out _ _ ⟨q5_0, q5_1, q5_2, q5_3, q5_4, q5_5⟩ (fun hHeld => ?_)
        clear hK K
        refine norm_ (a' := ?_) ?_ ?_
        rotate_left
        · show Act.put _ (some 26) _ = _
          simp only [Act.put, List.setIfInBounds_toArray, List.set_cons_zero, List.set_cons_succ, i64_w, i32_w]
          rfl
        refine one_ (i := 9) (N := some 31) #[true, true, true, true, true, true, true, true, true, true, true, true, false, false, false, false, false, false] rfl rfl (by kernel_rfl) (by decide) (fun K hK => ?_)
        have HW6 := Aside0.mk (Try.SetP.with (w := w5) (HS23.out.keep ((Try.Kept.below HBD.out).trans (.below HB5.out))) (HL3.out.keep ((Try.Kept.below HBD.out).trans (.below HB5.out))))
        refine goes_ Try.func57 (by kernel_rfl) rfl #[.map (some b2), .map (some x2)] (by rfl) rfl rfl (by simp only [List.map_toArray, List.map_cons, List.map_nil]; rfl) ?_
        with_reducible refine (HW6.out).mono ?_
        rintro e V ⟨rfl, hs6, hb6⟩
        refine ⟨_, rfl, ?_⟩
        have v0 : V.cell? ⟨rO, 0, none⟩ = some (.map (some b1)) := (hb6.cell (p := ⟨rO, 0, none⟩) (Nat.lt_of_lt_of_le HLTO.out HB5.out.size)).trans q5_0
        have v1 : V.cell? ⟨rO, 1, none⟩ = some (.map (some b2)) := (hb6.cell (p := ⟨rO, 1, none⟩) (Nat.lt_of_lt_of_le HLTO.out HB5.out.size)).trans q5_1
        have v2 : V.cell? ⟨rO, 2, none⟩ = some (.bool false) := (hb6.cell (p := ⟨rO, 2, none⟩) (Nat.lt_of_lt_of_le HLTO.out HB5.out.size)).trans q5_2
        have v3 : V.cell? ⟨rX, 0, none⟩ = some (.map (some x1)) := (hb6.cell (p := ⟨rX, 0, none⟩) (Nat.lt_of_lt_of_le HLTX.out HB5.out.size)).trans q5_3
        have v4 : V.cell? ⟨rX, 1, none⟩ = some (.map (some x2)) := (hb6.cell (p := ⟨rX, 1, none⟩) (Nat.lt_of_lt_of_le HLTX.out HB5.out.size)).trans q5_4
        have v5 : V.cell? ⟨rX, 2, none⟩ = some (.bool en) := (hb6.cell (p := ⟨rX, 2, none⟩) (Nat.lt_of_lt_of_le HLTX.out HB5.out.size)).trans q5_5
        have HBV : Aside0 (Below w3.heap.size w3 V) := ⟨below_then (below_then HBD.out (Nat.le_refl _) HB5.out) (by have := HB5.out.size; exact this) hb6⟩
        have HOUTV := Aside0.mk ((Try.Kept.below HBV.out).box HOUT3.out (by decide) (by decide) (by decide))
        have g0 := blk_frozen HOUTV.out 0
        have g1 := blk_frozen HOUTV.out 1
        have g2 := blk_frozen HOUTV.out 2
        have HFV := Aside0.mk (HS5.out.keep (.below hb6))
        have HLV := Aside0.mk hs6
        clear hs6 hb6
        refine hK.out _ _ ⟨v0, v1, v2, v3, v4, v5⟩ (fun hHeld => ?_)
        clear hK K
        refine norm_ (a' := ?_) ?_ ?_
        rotate_left
        · show Act.put _ (some 31) _ = _
          simp only [Act.put, List.setIfInBounds_toArray, List.set_cons_zero, List.set_cons_succ, i64_w, i32_w]
          rfl
        refine pure_ (i := 12) (N := some 34) (v := ?_) (a' := ?_) #[true, true, true, true, true, true, true, true, true, true, true, true, true, false, false, false, false, false] rfl rfl (by kernel_rfl) (fun _ _ _ h => h) (Or.inl ⟨by rfl, ?_⟩) ?_ ?_
        rotate_left
        · intro w'
          go_simp
          with_reducible rfl
        rotate_left
        · simp only [Act.put, List.setIfInBounds_toArray, List.set_cons_zero, List.set_cons_succ, i64_w, i32_w]
          rfl
        refine pure_ (i := 13) (N := some 35) (v := ?_) (a' := ?_) #[true, true, true, true, true, true, true, true, true, true, true, true, true, true, false, false, false, false] rfl rfl (by kernel_rfl) (fun _ _ _ h => h) (Or.inl ⟨by rfl, ?_⟩) ?_ ?_
        rotate_left
        · intro w'
          go_simp
          with_reducible rfl
        rotate_left
        · simp only [Act.put, List.setIfInBounds_toArray, List.set_cons_zero, List.set_cons_succ, i64_w, i32_w]
          rfl
        refine take_ (i := 14) (N := some 36) (v := ?_) (a' := ?_) #[true, true, true, true, true, true, true, true, true, true, true, true, true, true, true, false, false, false] rfl rfl (by kernel_rfl) (fun _ _ _ h => h) (Or.inl ⟨by rfl, ?_⟩) hHeld ?_ ?_
        rotate_left
        · rintro w' ⟨s0, s1, s2, s3, s4, s5⟩
          go_simp
          with_reducible rfl
        rotate_left
        · simp only [Act.put, List.setIfInBounds_toArray, List.set_cons_zero, List.set_cons_succ, i64_w, i32_w]
          rfl
        refine pure_ (i := 15) (N := some 37) (v := ?_) (a' := ?_) #[true, true, true, true, true, true, true, true, true, true, true, true, true, true, true, true, false, false] rfl rfl (by kernel_rfl) (fun _ _ _ h => h) (Or.inl ⟨by rfl, ?_⟩) ?_ ?_
        rotate_left
        · intro w'
          go_simp
          with_reducible rfl
        rotate_left
        · simp only [Act.put, List.setIfInBounds_toArray, List.set_cons_zero, List.set_cons_succ, i64_w, i32_w]
          rfl
        refine pure_ (i := 16) (N := some 38) (v := ?_) (a' := ?_) #[true, true, true, true, true, true, true, true, true, true, true, true, true, true, true, true, true, false] rfl rfl (by kernel_rfl) (fun _ _ _ h => h) (Or.inl ⟨by rfl, ?_⟩) ?_ ?_
        rotate_left
        · intro w'
          go_simp
          with_reducible rfl
        rotate_left
        · simp only [Act.put, List.setIfInBounds_toArray, List.set_cons_zero, List.set_cons_succ, i64_w, i32_w]
          rfl
        refine last_ (i := 17) (N := none) #[true, true, true, true, true, true, true, true, true, true, true, true, true, true, true, true, true, true] rfl rfl (by kernel_rfl) (by decide) (fun K hK => ?_)
        refine skip_ (w1 := ?_) (by rfl) rfl ?_ ?_
        rotate_left
        · go_simp
          rfl
        refine hK.out _ _ ?_
        clear hK K
        refine done_ (by kernel_rfl) ?_
        clear v0 v1 v2 v3 v4 v5 g0 g1 g2 hHeld
        go_wp2_with fail
        go_roundg (gk - 1)
        case measure => have := HIK.out; omega
        case rel =>
          obtain ⟨X, hX⟩ : ∃ X, ((V.setCell ⟨rO, 0, none⟩ (.map (some w3.heap.size))).setCell ⟨rO, 1, none⟩ (.map (some w5.heap.size))).setCell ⟨rO, 2, none⟩ (.bool en) = X := ⟨_, rfl⟩
          have hgX := Try.three hX
          have hox := Try.three_box HOUTV.out hX
          have hkV := Try.Kept.below HBV.out
          rw [hX]
          exact ⟨i + 1, w3.heap.size, w5.heap.size, by go_num, by have := HIK.out; omega, Try.alt_mk HTK.out ((HM3.out.later HBV.out).grown hgX HOUTV.out (by decide) (by decide) (by decide) (by omega)), ⟨by rw [HTK.out]; exact (HFV.out.cells hgX HOUTV.out).iff (fun x => (Lang.firstA_snoc q x _ _).symm)⟩, ⟨by rw [HTK.out]; exact (HLV.out.cells hgX HOUTV.out).iff (fun x => (Lang.lastA_snoc q x _ _).symm)⟩, ⟨by rw [HTK.out, Lang.nulO_snoc, HEMP.out, HEN.out]; exact hox⟩, ⟨blk_grown (hkV.box HRES3.out (by decide) (by decide) (by decide)) hgX (fun e => by have := HRO.out; cases e; omega)⟩, ⟨(HKW3.out.trans hkV).then_ hgX (by omega)⟩⟩
      · skip
        refine start_ (n := 18) (S := fun w' => w'.cell? ⟨rO, 0, none⟩ = some (.map (some b1)) ∧ w'.cell? ⟨rO, 1, none⟩ = some (.map (some b2)) ∧ w'.cell? ⟨rO, 2, none⟩ = some (.bool true) ∧ w'.cell? ⟨rX, 0, none⟩ = some (.map (some x1)) ∧ w'.cell? ⟨rX, 1, none⟩ = some (.map (some x2)) ∧ w'.cell? ⟨rX, 2, none⟩ = some (.bool en)) (ds := [17]) #[false, false, false, false, false, false, false, false, false, false, false, false, false, false, false, false, false, false] (by kernel_rfl) rfl rfl ⟨(by go_simp), (by go_simp), (by go_simp), (by go_simp), (by go_simp), (by go_simp)⟩ (fun hHeld => ?_)
        refine pure_ (i := 0) (N := some 22) (v := ?_) (a' := ?_) #[true, false, false, false, false, false, false, false, false, false, false, false, false, false, false, false, false, false] rfl rfl (by kernel_rfl) (fun _ _ _ h => h) (Or.inl ⟨by rfl, ?_⟩) ?_ ?_
        rotate_left
        · intro w'
          go_simp
          with_reducible rfl
        rotate_left
        · simp only [Act.put, List.setIfInBounds_toArray, List.set_cons_zero, List.set_cons_succ, i64_w, i32_w]
          rfl
        refine pure_ (i := 2) (N := some 24) (v := ?_) (a' := ?_) #[true, false, true, false, false, false, false, false, false, false, false, false, false, false, false, false, false, false] rfl rfl (by kernel_rfl) (fun _ _ _ h => h) (Or.inl ⟨by rfl, ?_⟩) ?_ ?_
        rotate_left
        · intro w'
          go_simp
          with_reducible rfl
        rotate_left
        · simp only [Act.put, List.setIfInBounds_toArray, List.set_cons_zero, List.set_cons_succ, i64_w, i32_w]
          rfl
        refine pure_ (i := 5) (N := some 27) (v := ?_) (a' := ?_) #[true, false, true, false, false, true, false, false, false, false, false, false, false, false, false, false, false, false] rfl rfl (by kernel_rfl) (fun _ _ _ h => h) (Or.inl ⟨by rfl, ?_⟩) ?_ ?_
        rotate_left
        · intro w'
          go_simp
          with_reducible rfl
        rotate_left
        · simp only [Act.put, List.setIfInBounds_toArray, List.set_cons_zero, List.set_cons_succ, i64_w, i32_w]
          rfl
        refine pure_ (i := 7) (N := some 29) (v := ?_) (a' := ?_) #[true, false, true, false, false, true, false, true, false, false, false, false, false, false, false, false, false, false] rfl rfl (by kernel_rfl) (fun _ _ _ h => h) (Or.inl ⟨by rfl, ?_⟩) ?_ ?_
        rotate_left
        · intro w'
          go_simp
          with_reducible rfl
        rotate_left
        · simp only [Act.put, List.setIfInBounds_toArray, List.set_cons_zero, List.set_cons_succ, i64_w, i32_w]
          rfl
        refine pure_ (i := 10) (N := some 32) (v := ?_) (a' := ?_) #[true, false, true, false, false, true, false, true, false, false, true, false, false, false, false, false, false, false] rfl rfl (by kernel_rfl) (fun _ _ _ h => h) (Or.inl ⟨by rfl, ?_⟩) ?_ ?_
        rotate_left
        · intro w'
          go_simp
          with_reducible rfl
        rotate_left
        · simp only [Act.put, List.setIfInBounds_toArray, List.set_cons_zero, List.set_cons_succ, i64_w, i32_w]
          rfl
        refine take_ (i := 1) (N := some 23) (v := ?_) (a' := ?_) #[true, true, true, false, false, true, false, true, false, false, true, false, false, false, false, false, false, false] rfl rfl (by kernel_rfl) (fun _ _ _ h => h) (Or.inl ⟨by rfl, ?_⟩) hHeld ?_ ?_
        rotate_left
        · rintro w' ⟨s0, s1, s2, s3, s4, s5⟩
          go_simp
          with_reducible rfl
        rotate_left
        · simp only [Act.put, List.setIfInBounds_toArray, List.set_cons_zero, List.set_cons_succ, i64_w, i32_w]
          rfl
        refine take_ (i := 3) (N := some 25) (v := ?_) (a' := ?_) #[true, true, true, true, false, true, false, true, false, false, true, false, false, false, false, false, false, false] rfl rfl (by kernel_rfl) (fun _ _ _ h => h) (Or.inl ⟨by rfl, ?_⟩) hHeld ?_ ?_
        rotate_left
        · rintro w' ⟨s0, s1, s2, s3, s4, s5⟩
          go_simp
          with_reducible rfl
        rotate_left
        · simp only [Act.put, List.setIfInBounds_toArray, List.set_cons_zero, List.set_cons_succ, i64_w, i32_w]
          rfl
        refine take_ (i := 6) (N := some 28) (v := ?_) (a' := ?_) #[true, true, true, true, false, true, true, true, false, false, true, false, false, false, false, false, false, false] rfl rfl (by kernel_rfl) (fun _ _ _ h => h) (Or.inl ⟨by rfl, ?_⟩) hHeld ?_ ?_
        rotate_left
        · rintro w' ⟨s0, s1, s2, s3, s4, s5⟩
          go_simp
          with_reducible rfl
        rotate_left
        · simp only [Act.put, List.setIfInBounds_toArray, List.set_cons_zero, List.set_cons_succ, i64_w, i32_w]
          rfl
        refine take_ (i := 8) (N := some 30) (v := ?_) (a' := ?_) #[true, true, true, true, false, true, true, true, true, false, true, false, false, false, false, false, false, false] rfl rfl (by kernel_rfl) (fun _ _ _ h => h) (Or.inl ⟨by rfl, ?_⟩) hHeld ?_ ?_
        rotate_left
        · rintro w' ⟨s0, s1, s2, s3, s4, s5⟩
          go_simp
          with_reducible rfl
        rotate_left
        · simp only [Act.put, List.setIfInBounds_toArray, List.set_cons_zero, List.set_cons_succ, i64_w, i32_w]
          rfl
        refine take_ (i := 11) (N := some 33) (v := ?_) (a' := ?_) #[true, true, true, true, false, true, true, true, true, false, true, true, false, false, false, false, false, false] rfl rfl (by kernel_rfl) (fun _ _ _ h => h) (Or.inl ⟨by rfl, ?_⟩) hHeld ?_ ?_
        rotate_left
        · rintro w' ⟨s0, s1, s2, s3, s4, s5⟩
          go_simp
          with_reducible rfl
        rotate_left
        · simp only [Act.put, List.setIfInBounds_toArray, List.set_cons_zero, List.set_cons_succ, i64_w, i32_w]
          rfl
        refine one_ (i := 4) (N := some 26) #[true, true, true, true, true, true, true, true, true, false, true, true, false, false, false, false, false, false] rfl rfl (by kernel_rfl) (by decide) (fun K hK => ?_)
        refine goes_ Try.func57 (by kernel_rfl) rfl #[.map (some b1), .map (some x1)] (by rfl) rfl rfl (by simp only [List.map_toArray, List.map_cons, List.map_nil]; rfl) ?_
        with_reducible refine (HWA.out).mono ?_
        rintro e w5 ⟨rfl, hs5, hb5⟩
        refine ⟨_, rfl, ?_⟩
        have q5_0 : w5.cell? ⟨rO, 0, none⟩ = some (.map (some b1)) := (hb5.cell (p := ⟨rO, 0, none⟩) HLTO.out).trans o0
        have q5_1 : w5.cell? ⟨rO, 1, none⟩ = some (.map (some b2)) := (hb5.cell (p := ⟨rO, 1, none⟩) HLTO.out).trans o1
        have q5_2 : w5.cell? ⟨rO, 2, none⟩ = some (.bool true) := (hb5.cell (p := ⟨rO, 2, none⟩) HLTO.out).trans o2
        have q5_3 : w5.cell? ⟨rX, 0, none⟩ = some (.map (some x1)) := (hb5.cell (p := ⟨rX, 0, none⟩) HLTX.out).trans y0
        have q5_4 : w5.cell? ⟨rX, 1, none⟩ = some (.map (some x2)) := (hb5.cell (p := ⟨rX, 1, none⟩) HLTX.out).trans y1
        have q5_5 : w5.cell? ⟨rX, 2, none⟩ = some (.bool en) := (hb5.cell (p := ⟨rX, 2, none⟩) HLTX.out).trans y2
        have HS5 := Aside0.mk hs5
        have HB5 := Aside0.mk hb5
        clear hs5 hb5
        refine hK.out _ _ ⟨q5_0, q5_1, q5_2, q5_3, q5_4, q5_5⟩ (fun hHeld => ?_)
        clear hK K
        refine norm_ (a' := ?_) ?_ ?_
        rotate_left
        · show Act.put _ (some 26) _ = _
          simp only [Act.put, List.setIfInBounds_toArray, List.set_cons_zero, List.set_cons_succ, i64_w, i32_w]
          rfl
        refine one_ (i := 9) (N := some 31) #[true, true, true, true, true, true, true, true, true, true, true, true, false, false, false, false, false, false] rfl rfl (by kernel_rfl) (by decide) (fun K hK => ?_)
        have HW6 := Aside0.mk (Try.SetP.with (w := w5) (HS23.out.keep ((Try.Kept.below HBD.out).trans (.below HB5.out))) (HL3.out.keep ((Try.Kept.below HBD.out).trans (.below HB5.out))))
        refine goes_ Try.func57 (by kernel_rfl) rfl #[.map (some b2), .map (some x2)] (by rfl) rfl rfl (by simp only [List.map_toArray, List.map_cons, List.map_nil]; rfl) ?_
        with_reducible refine (HW6.out).mono ?_
        rintro e V ⟨rfl, hs6, hb6⟩
        refine ⟨_, rfl, ?_⟩
        have v0 : V.cell? ⟨rO, 0, none⟩ = some (.map (some b1)) := (hb6.cell (p := ⟨rO, 0, none⟩) (Nat.lt_of_lt_of_le HLTO.out HB5.out.size)).trans q5_0
        have v1 : V.cell? ⟨rO, 1, none⟩ = some (.map (some b2)) := (hb6.cell (p := ⟨rO, 1, none⟩) (Nat.lt_of_lt_of_le HLTO.out HB5.out.size)).trans q5_1
        have v2 : V.cell? ⟨rO, 2, none⟩ = some (.bool true) := (hb6.cell (p := ⟨rO, 2, none⟩) (Nat.lt_of_lt_of_le HLTO.out HB5.out.size)).trans q5_2
        have v3 : V.cell? ⟨rX, 0, none⟩ = some (.map (some x1)) := (hb6.cell (p := ⟨rX, 0, none⟩) (Nat.lt_of_lt_of_le HLTX.out HB5.out.size)).trans q5_3
        have v4 : V.cell? ⟨rX, 1, none⟩ = some (.map (some x2)) := (hb6.cell (p := ⟨rX, 1, none⟩) (Nat.lt_of_lt_of_le HLTX.out HB5.out.size)).trans q5_4
        have v5 : V.cell? ⟨rX, 2, none⟩ = some (.bool en) := (hb6.cell (p := ⟨rX, 2, none⟩) (Nat.lt_of_lt_of_le HLTX.out HB5.out.size)).trans q5_5
        have HBV : Aside0 (Below w3.heap.size w3 V) := ⟨below_then (below_then HBD.out (Nat.le_refl _) HB5.out) (by have := HB5.out.size; exact this) hb6⟩
        have HOUTV := Aside0.mk ((Try.Kept.below HBV.out).box HOUT3.out (by decide) (by decide) (by decide))
        have g0 := blk_frozen HOUTV.out 0
        have g1 := blk_frozen HOUTV.out 1
        have g2 := blk_frozen HOUTV.out 2
        have HFV := Aside0.mk (HS5.out.keep (.below hb6))
        have HLV := Aside0.mk hs6
        clear hs6 hb6
        refine hK.out _ _ ⟨v0, v1, v2, v3, v4, v5⟩ (fun hHeld => ?_)
        clear hK K
        refine norm_ (a' := ?_) ?_ ?_
        rotate_left
        · show Act.put _ (some 31) _ = _
          simp only [Act.put, List.setIfInBounds_toArray, List.set_cons_zero, List.set_cons_succ, i64_w, i32_w]
          rfl
        refine pure_ (i := 12) (N := some 34) (v := ?_) (a' := ?_) #[true, true, true, true, true, true, true, true, true, true, true, true, true, false, false, false, false, false] rfl rfl (by kernel_rfl) (fun _ _ _ h => h) (Or.inl ⟨by rfl, ?_⟩) ?_ ?_
        rotate_left
        · intro w'
          go_simp
          with_reducible rfl
        rotate_left
        · simp only [Act.put, List.setIfInBounds_toArray, List.set_cons_zero, List.set_cons_succ, i64_w, i32_w]
          rfl
        refine pure_ (i := 13) (N := some 35) (v := undef) (a' := ?_) #[true, true, true, true, true, true, true, true, true, true, true, true, true, true, false, false, false, false] rfl rfl (by kernel_rfl) (fun _ _ _ h => h) (Or.inr ⟨by rfl, rfl⟩) ?_ ?_
        rotate_left
        · simp only [Act.put, List.setIfInBounds_toArray, List.set_cons_zero, List.set_cons_succ, i64_w, i32_w]
          rfl
        refine pure_ (i := 14) (N := some 36) (v := undef) (a' := ?_) #[true, true, true, true, true, true, true, true, true, true, true, true, true, true, true, false, false, false] rfl rfl (by kernel_rfl) (fun _ _ _ h => h) (Or.inr ⟨by rfl, rfl⟩) ?_ ?_
        rotate_left
        · simp only [Act.put, List.setIfInBounds_toArray, List.set_cons_zero, List.set_cons_succ, i64_w, i32_w]
          rfl
        refine pure_ (i := 15) (N := some 37) (v := ?_) (a' := ?_) #[true, true, true, true, true, true, true, true, true, true, true, true, true, true, true, true, false, false] rfl rfl (by kernel_rfl) (fun _ _ _ h => h) (Or.inl ⟨by rfl, ?_⟩) ?_ ?_
        rotate_left
        · intro w'
          go_simp
          with_reducible rfl
        rotate_left
        · simp only [Act.put, List.setIfInBounds_toArray, List.set_cons_zero, List.set_cons_succ, i64_w, i32_w]
          rfl
        refine pure_ (i := 16) (N := some 38) (v := ?_) (a' := ?_) #[true, true, true, true, true, true, true, true, true, true, true, true, true, true, true, true, true, false] rfl rfl (by kernel_rfl) (fun _ _ _ h => h) (Or.inl ⟨by rfl, ?_⟩) ?_ ?_
        rotate_left
        · intro w'
          go_simp
          with_reducible rfl
        rotate_left
        · simp only [Act.put, List.setIfInBounds_toArray, List.set_cons_zero, List.set_cons_succ, i64_w, i32_w]
          rfl
        refine last_ (i := 17) (N := none) #[true, true, true, true, true, true, true, true, true, true, true, true, true, true, true, true, true, true] rfl rfl (by kernel_rfl) (by decide) (fun K hK => ?_)
        refine skip_ (w1 := ?_) (by rfl) rfl ?_ ?_
        rotate_left
        · go_simp
          rfl
        refine hK.out _ _ ?_
        clear hK K
        refine done_ (by kernel_rfl) ?_
        clear v0 v1 v2 v3 v4 v5 g0 g1 g2 hHeld
        go_wp2_with fail
        go_roundg (gk - 1)
        case measure => have := HIK.out; omega
        case rel =>
          obtain ⟨X, hX⟩ : ∃ X, ((V.setCell ⟨rO, 0, none⟩ (.map (some w3.heap.size))).setCell ⟨rO, 1, none⟩ (.map (some w5.heap.size))).setCell ⟨rO, 2, none⟩ (.bool true) = X := ⟨_, rfl⟩
          have hgX := Try.three hX
          have hox := Try.three_box HOUTV.out hX
          have hkV := Try.Kept.below HBV.out
          rw [hX]
          exact ⟨i + 1, w3.heap.size, w5.heap.size, by go_num, by have := HIK.out; omega, Try.alt_mk HTK.out ((HM3.out.later HBV.out).grown hgX HOUTV.out (by decide) (by decide) (by decide) (by omega)), ⟨by rw [HTK.out]; exact (HFV.out.cells hgX HOUTV.out).iff (fun x => (Lang.firstA_snoc q x _ _).symm)⟩, ⟨by rw [HTK.out]; exact (HLV.out.cells hgX HOUTV.out).iff (fun x => (Lang.lastA_snoc q x _ _).symm)⟩, ⟨by rw [HTK.out, Lang.nulO_snoc, HEMP.out, HEN.out]; exact hox⟩, ⟨blk_grown (hkV.box HRES3.out (by decide) (by decide) (by decide)) hgX (fun e => by have := HRO.out; cases e; omega)⟩, ⟨(HKW3.out.trans hkV).then_ hgX (by omega)⟩⟩
    · have e : i = l.length := by omega
      have HE := Aside0.mk e
      have o0 := (blk_cell HOUT.out 0).trans (show _ = some (Value.map (some b1)) from rfl)
      have o1 := (blk_cell HOUT.out 1).trans (show _ = some (Value.map (some b2)) from rfl)
      have o2 := (blk_cell HOUT.out 2).trans (show _ = some (Value.bool eo) from rfl)
      have r0 := (blk_cell HRES.out 0).trans (show _ = some (Value.map none) from rfl)
      have r1 := (blk_cell HRES.out 1).trans (show _ = some (Value.map none) from rfl)
      have r2 := (blk_cell HRES.out 2).trans (show _ = some (Value.bool false) from rfl)
      have f0 := blk_frozen HRES.out 0
      have f1 := blk_frozen HRES.out 1
      have f2 := blk_frozen HRES.out 2
      clear hik e heo
      go_wp2_with fail
      obtain ⟨W9, h9⟩ : ∃ W9, ((wr.setCell ⟨w.heap.size + 1, 0, none⟩ (.map (some b1))).setCell ⟨w.heap.size + 1, 1, none⟩ (.map (some b2))).setCell ⟨w.heap.size + 1, 2, none⟩ (.bool eo) = W9 := ⟨_, rfl⟩
      rw [h9]
      (try simp only [Exit.inBlock, Exit.then])
      refine bodyPost_ret (Try.piece_res rfl _ _ (w.heap.size + 1) _ (by rfl) rfl (Try.three_box HRES.out h9)) rfl ?_
      have eo' := HEO.out
      have htl : l.take i = l := by rw [HE.out, List.take_length]
      have hM := HM.out
      have hS1 := HS1.out
      have hS2 := HS2.out
      rw [htl] at eo' hM hS1 hS2
      rw [← eo']
      rw [← eo'] at h9
      exact Try.piece_end hM hS1 hS2 HKW.out hw0 (by omega) HRES.out h9
end Go.Proofs

