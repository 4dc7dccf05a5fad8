/- At every two paths and every words PathTurns returns true, and all three read as before: the order of one or the other does not matter, nor how paths are bracketed. No condition. -/
import Derived.Test.YtjobnfbianlpnaaRows
import Derived.Test.YtjobnfbianlpnaaPt6
import Derived.WalkKit
import Derived.ProofKit
import Derived.OpenShut
import Derived.ShutString
import Derived.ChangeOld
import Derived.Below
import Derived.Carry
import Derived.SliceStrings
set_option linter.unusedVariables false
set_option linter.unusedSimpArgs false
namespace Go.Proofs
open Go.ChangeShapes Go.WideShapes Go.RowKit Go.Proofs.YtjobnfbianlpnaaW.PrintWords
theorem Try.open_strs {H : Type} {enc : TypeId × Value → H} {w : World} {base : Nat} {spare : Nat → Bool} {held : Bool} {fuel : Nat} {A : Option Addr} {n c : Nat} {x : DataW H × List MemPlace} (h : DataW.trod enc Try.prog w base spare held fuel 25 [.slice A n c] = some x) :
    ∃ ss : List ByteArray, ss.length = n ∧ Kd.string.C w A n ss := by
  rcases open_strings Try.underlying25 Try.underlying9 Try.cells9 h with ⟨hcs, _⟩ | ⟨a, len, cap, ss, hcs, _, hl, hm, hz, _, hcell, hsz⟩
  · cases hcs
    exact ⟨[], rfl, Kd.C_nil _ _⟩
  · cases hcs
    have hlen : n ≤ ss.length := by rw [hz]; split <;> omega
    unfold maxLen at hm
    have hll : (ss.take n).length = n := by simp; omega
    refine ⟨ss.take n, hll, hll, by omega, fun _ => ⟨a, rfl, fun j p hp => ⟨[.string p], rfl, rfl, fun i u hu => ?_⟩⟩⟩
    rcases i with _ | i
    · cases hu
      have hj : j < n := by have := (List.getElem?_eq_some_iff.1 hp).1; omega
      have h6 := hcell j (by omega)
      have e : ss.getD j ByteArray.empty = p := by
        rw [List.getElem?_take_of_lt hj] at hp
        rw [List.getD_eq_getElem?_getD, hp]; rfl
      rw [e] at h6
      have e1 : j * Kd.string.sz + 0 = j := Nat.mul_one j
      rw [e1]
      exact h6
    · simp at hu
end Go.Proofs
namespace Go.Proofs.Ytjobnfbianlpnaa.pathTurns
open Go.ChangeShapes Go.WideShapes Go.ChangeAt Go.RowKit
theorem own : ownKnob Try.prog.godebug = none := by kernel_rfl
theorem laidOut : laidOutB Try.prog = true := by kernel_rfl
set_option maxRecDepth 100000 in
theorem lifted (os : Os) (started : os.Started) (H : Type) (enc : TypeId × Value → H) :
    ReturnsInHanded {} Try.checked os 3 .any (Rows.pathTurnsSpec.pre6 enc Try.prog Try.f3 Rows.pathTurnsRow.domain false) (Rows.pathTurnsSpec.post enc Try.prog Try.f3 false true false false) := by
  refine returnsInHanded_of_change (C := Try.checked) own started (by kernel_rfl) Try.func3
    (ChangeSpec.witness6 (enc := enc) (C := Try.checked) false ⟨#[], #[.agg #[.int .i64 0, .string ByteArray.empty, .slice none 0 0], .agg #[.int .i64 0, .string ByteArray.empty, .slice none 0 0], .slice none 0 0], []⟩ 8 (by kernel_rfl) (by kernel_rfl) (by kernel_rfl) (by kernel_rfl)) ?_
  intro W base args ds gs before hval0 hW hcnd _
  have hval : ∀ (j : Nat) t v, Try.f3.params[j]? = some t → args[j]? = some v → Value.okWide Try.prog W .any base t v := hval0
  have hW' := hW
  obtain ⟨p, q, hA0, hV, rfl, hfz, hnd⟩ := hW
  have hA : DataW.TrodAll enc Try.prog W 0 (fun _ => true) true Try.f3.params.toList args.toList ds p := hA0
  rw [Try.params3] at hA hval
  obtain ⟨v0, vs0, d0, ds0, p0, q0, hargs0, rfl, rfl, h0, r0⟩ := trodAll_cons hA
  obtain ⟨v1, vs1, d1, ds1, p1, q1, rfl, rfl, rfl, h1, r1⟩ := trodAll_cons r0
  obtain ⟨v2, vs2, d2, ds2, p2, q2, rfl, rfl, rfl, h2, r2⟩ := trodAll_cons r1
  obtain ⟨rfl, rfl, rfl⟩ := trodAll_nil r2
  obtain rfl : args = #[v0, v1, v2] := by cases args; simp_all
  obtain ⟨rfl, rfl⟩ := trodVars_none hV
  have k0 := h0
  have k1 := h1
  have k2 := h2
  have lt0 : ∀ x ∈ p0, x.block < W.heap.size := by obtain ⟨m, hm⟩ := k0; exact DataW.trod_lt m _ _ _ hm
  have lt1 : ∀ x ∈ p1, x.block < W.heap.size := by obtain ⟨m, hm⟩ := k1; exact DataW.trod_lt m _ _ _ hm
  have lt2 : ∀ x ∈ p2, x.block < W.heap.size := by obtain ⟨m, hm⟩ := k2; exact DataW.trod_lt m _ _ _ hm
  obtain ⟨cs0, rfl, hsz0⟩ := okWide_struct Try.underlying24 (hval 0 24 v0 rfl rfl)
  obtain ⟨cs1, rfl, hsz1⟩ := okWide_struct Try.underlying24 (hval 1 24 v1 rfl rfl)
  obtain ⟨a2, n2, c2, rfl⟩ := okWide_slice Try.underlying25 (hval 2 25 v2 rfl rfl)
  obtain ⟨P, A, c, hcs, hlc, hC, hsm⟩ : ∃ P, Try.PathCells W cs0.toList P := by
    obtain ⟨fuel, hf⟩ := h0
    exact Try.open_path fuel fuel (Nat.le_refl _) cs0.toList _ hf
  obtain rfl : cs0 = #[.int .i64 P.f0, .string P.f1, .slice A P.f2.length c] := Array.ext' hcs
  obtain ⟨Q, B, d, hcs1, hld, hD, hsm1⟩ : ∃ P, Try.PathCells W cs1.toList P := by
    obtain ⟨fuel, hf⟩ := h1
    exact Try.open_path fuel fuel (Nat.le_refl _) cs1.toList _ hf
  obtain rfl : cs1 = #[.int .i64 Q.f0, .string Q.f1, .slice B Q.f2.length d] := Array.ext' hcs1
  obtain ⟨ss, hss, hE⟩ : ∃ ss : List ByteArray, ss.length = n2 ∧ Go.Proofs.YtjobnfbianlpnaaW.PrintWords.Kd.string.C W a2 n2 ss := by
    obtain ⟨fuel, hf⟩ := h2
    exact Try.open_strs hf
  subst hss
  clear hA0 hval0
  refine (Try.pathTurns_calls P Q hsm hsm1 ss W A B a2 c d c2 hC hlc hD hld hE).mono fun e W' ⟨he, bel⟩ => ?_
  subst he
  exact ⟨_, rfl, _, _, _, [], _, [], hW', trodAll_mk1 (shut_bool Try.underlying4 _), trodAll_cons_mk (Below.trod laidOut (by kernel_rfl) (of_decide_eq_true (by kernel_rfl)) k0 bel lt0) (trodAll_cons_mk (Below.trod laidOut (by kernel_rfl) (of_decide_eq_true (by kernel_rfl)) k1 bel lt1) (trodAll_cons_mk (Below.trod laidOut (by kernel_rfl) (of_decide_eq_true (by kernel_rfl)) k2 bel lt2) trodAll_mk0)), rfl, bel.frame _, fun h => by cases h⟩
theorem over : Rows.pathTurnsRow.holds Try.pinned (OpenSpec.ofChange Rows.pathTurnsSpec) :=
  OpenClaim.holds_of_wide 3 Try.f3 rfl rfl rfl rfl rfl rfl rfl ⟨rfl, rfl, rfl, rfl, rfl⟩ rfl rfl rfl rfl rfl (by kernel_rfl) Try.func3 (by kernel_rfl)
    (of_decide_eq_true (by kernel_rfl)) (by unfold Func.isWrapper; first | (rw [if_pos (by decide +kernel)]; kernel_rfl) | (rw [if_neg (by decide +kernel)]; exact ⟨rfl, rfl⟩))
    (fun os started H enc _ => lifted os started H enc)
theorem proved : Rows.PathTurnsSaid := over
#print axioms proved
end Go.Proofs.Ytjobnfbianlpnaa.pathTurns
namespace Go.Proofs.Ytjobnfbianlpnaa
theorem pathTurns_holds : Rows.PathTurnsSaid := pathTurns.proved
end Go.Proofs.Ytjobnfbianlpnaa
