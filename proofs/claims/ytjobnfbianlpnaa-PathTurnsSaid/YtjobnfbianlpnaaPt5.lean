/- Lemmas that the law's proof leans on; no condition. -/
import Derived.Test.YtjobnfbianlpnaaPt4
import Derived.Test.YtjobnfbianlpnaaPt2
import Derived.Test.YtjobnfbianlpnaaPt3
set_option linter.unusedVariables false
set_option linter.unusedSimpArgs false
namespace Go.Proofs
open Go.RowKit Go.Shelf Go.Proofs.YtjobnfbianlpnaaW.PrintWords Go.Proofs.YtjobnfbianlpnaaW.PrintLast Go.Proofs.Ytjobnfbianlpnaa.P
theorem Try.PiecePost.later {w0 w W W' : World} {bm : Nat} {ws ws1 : List ByteArray} {F F1 : Int → Int → Prop} {e : Ending} {p q : Int → Prop} {nu : Bool} (h : Try.PiecePost w0 w bm ws F e W ws1 F1 p q nu) (hb : Below W.heap.size W W') : Try.PiecePost w0 w bm ws F e W' ws1 F1 p q nu := by
  obtain ⟨b1, b2, h1, h2, h3, h4, h5⟩ := h
  exact ⟨b1, b2, h1, h2.later hb, h3.keep (.below hb), h4.keep (.below hb), h5.trans (.below hb)⟩
theorem Try.add_nil (ad : Addr) : ad.add 0 = ad := by
  unfold Addr.add
  split <;> simp_all
set_option maxHeartbeats 4000000 in
set_option maxRecDepth 100000 in
theorem Try.plus_calls (w0 w : World) (bm : Nat) (ws : List ByteArray) (F : Int → Int → Prop) (q : Lang.Path) (ih : Try.MakeSpec w0 q) (h : Try.MkAt w0 w bm ws F) (hn : ws.length + Lang.places q ≤ 24) (hok : Lang.okP q) (kd : Int) (wd : ByteArray) (A : Option Addr) (c : Nat) (hl : Kd.C k24 w0 A 1 [q]) (hlc : 1 ≤ c) :
    Calls Try.prog 38 #[.pointer (some ⟨bm, 0, none⟩), .agg #[.int .i64 kd, .string wd, .slice A 1 c]] w fun e w' => Try.PiecePost w0 w bm ws F e w' (Lang.wordsOf q) (fun x y => Lang.fol q ws.length x y ∨ (Lang.last q ws.length x ∧ Lang.first q ws.length y)) (Lang.first q ws.length) (Lang.last q ws.length) (Lang.nul q) := by
  have H := Aside0.mk h
  have HN := Aside0.mk hn
  have HOK := Aside0.mk hok
  have HL := Aside0.mk hl
  have IH := Aside0.mk ih
  obtain ⟨ad, Aq, cq, rfl, k0, k1, k2, hqc, hq⟩ := at_T24 hl 0 (by omega) (by omega)
  have hw0 : w0.heap.size ≤ w.heap.size := h.below.size
  have e1 : rd_T24 [q] 0 = q := rfl
  rw [e1] at k0 k1 k2 hqc hq
  simp only [Int.toNat_zero, Nat.zero_mul, Try.add_nil] at k0 k1 k2
  have HQC := Aside0.mk hqc
  have HQ0 := Aside0.mk hq
  replace k0 := pw_cell_below h.below k0
  replace k1 := pw_cell_below h.below k1
  replace k2 := pw_cell_below h.below k2
  have hlt : ad.block < w.heap.size := World.block_lt_of_cell? w _ k0
  have hlt2 : ad.block < w.heap.size + 1 := by omega
  obtain ⟨W, hW⟩ : ∃ W, (w.alloc (.cells #[.int .i64 kd, .string wd, .slice (some ad) 1 c] 24)).alloc (.cells #[.map none, .map none, .bool false] 61) = W := ⟨_, rfl⟩
  obtain ⟨hsz, harg, hres, hbW⟩ := Try.two hW
  have HM := Aside0.mk (H.out.later hbW)
  have HRES := Aside0.mk hres
  have HKW := Aside0.mk (Try.Kept.below hbW)
  have hc := IH.out W bm ws F Aq cq HM.out HN.out HOK.out HQ0.out HQC.out
  have HW := Aside0.mk hW
  rw [← hW] at hc
  clear h ih hn hok hl hlc hqc hq e1 hW hsz harg hres hbW
  go_enter Try.func38, Try.ntmps38
  go_wp2_with fail
  refine hc.mono ?_
  rintro e w2 ⟨x1, x2, rfl, hM2, hF2, hL2, hK2⟩
  rw [HW.out] at hK2
  obtain ⟨en, hen⟩ : ∃ en, Lang.nul q = en := ⟨_, rfl⟩
  rw [hen]
  have HEN := Aside0.mk hen
  obtain ⟨w3, hw3⟩ : ∃ w3, w2.alloc (.cells #[.map (some x1), .map (some x2), .bool en] 61) = w3 := ⟨_, rfl⟩
  have hb3 : Below w2.heap.size w2 w3 := by rw [← hw3]; exact below_alloc (Below.refl _ w2) _
  have hk3 := Try.Kept.below hb3
  have HX3 : Aside0 (w3.heap[w2.heap.size]? = some (.cells #[.map (some x1), .map (some x2), .bool en] 61 (0, 0))) := ⟨by rw [← hw3]; exact (MapKept.heap_alloc w2 _).1⟩
  have HF3 := Aside0.mk (hF2.keep hk3)
  have HL3 := Aside0.mk (hL2.keep hk3)
  have HRES3 := Aside0.mk ((hK2.trans hk3).box HRES.out (by decide) (by decide) (by decide))
  have HKW3 := Aside0.mk ((HKW.out.trans hK2).trans hk3)
  have hcj := Try.joins_calls w0 w3 bm x2 x1 _ _ _ _ (hM2.later hb3) HL3.out HF3.out (fun x hx => by
    have := Lang.last_range _ _ _ hx
    rw [List.length_append, Lang.wordsOf_length]
    omega)
  rw [← hw3] at hcj
  have HW3 := Aside0.mk hw3
  clear hc hM2 hF2 hL2 hK2 hb3 hk3 hen hw3 k0 k1 k2 HM HRES HKW
  go_wp2_with fail
  refine hcj.mono ?_
  rintro e w4 ⟨rfl, hM4, hK4⟩
  rw [HW3.out] at hK4
  have hx4 := hK4.box HX3.out (by decide) (by decide) (by decide)
  have hr4 := hK4.box HRES3.out (by decide) (by decide) (by decide)
  have HM4 := Aside0.mk hM4
  have HF4 := Aside0.mk (HF3.out.keep hK4)
  have HL4 := Aside0.mk (HL3.out.keep hK4)
  have HRES4 := Aside0.mk hr4
  have HKW4 := Aside0.mk (HKW3.out.trans hK4)
  have y0 := (blk_cell hx4 0).trans (show _ = some (Value.map (some x1)) from rfl)
  have y1 := (blk_cell hx4 1).trans (show _ = some (Value.map (some x2)) from rfl)
  have y2 := (blk_cell hx4 2).trans (show _ = some (Value.bool en) from rfl)
  have r0 := (blk_cell hr4 0).trans (show _ = some (Value.map none) from rfl)
  have r1 := (blk_cell hr4 1).trans (show _ = some (Value.map none) from rfl)
  have r2 := (blk_cell hr4 2).trans (show _ = some (Value.bool false) from rfl)
  have f0 := blk_frozen hr4 0
  have f1 := blk_frozen hr4 1
  have f2 := blk_frozen hr4 2
  clear hcj hM4 hK4 hx4 hr4
  go_wp2_with fail
  obtain ⟨W9, h9⟩ : ∃ W9, ((w4.setCell ⟨w.heap.size + 1, 0, none⟩ (.map (some x1))).setCell ⟨w.heap.size + 1, 1, none⟩ (.map (some x2))).setCell ⟨w.heap.size + 1, 2, none⟩ (.bool en) = W9 := ⟨_, rfl⟩
  rw [h9]
  (try simp only [Exit.inBlock, Exit.then])
  refine bodyPost_ret (Try.piece_res rfl _ _ (w.heap.size + 1) _ (by rfl) rfl (Try.three_box HRES4.out h9)) rfl ?_
  have hM : Try.MkAt w0 w4 bm (ws ++ Lang.wordsOf q) (fun x y => F x y ∨ (Lang.fol q ws.length x y ∨ (Lang.last q ws.length x ∧ Lang.first q ws.length y))) := HM4.out.iff (fun x y => by rw [or_assoc])
  have e2 := HEN.out
  subst e2
  exact Try.piece_end hM HF4.out HL4.out HKW4.out hw0 (by omega) HRES4.out h9
set_option maxHeartbeats 4000000 in
set_option maxRecDepth 100000 in
theorem Try.maybe_calls (w0 w : World) (bm : Nat) (ws : List ByteArray) (F : Int → Int → Prop) (q : Lang.Path) (ih : Try.MakeSpec w0 q) (h : Try.MkAt w0 w bm ws F) (hn : ws.length + Lang.places q ≤ 24) (hok : Lang.okP q) (kd : Int) (wd : ByteArray) (A : Option Addr) (c : Nat) (hl : Kd.C k24 w0 A 1 [q]) (hlc : 1 ≤ c) :
    Calls Try.prog 39 #[.pointer (some ⟨bm, 0, none⟩), .agg #[.int .i64 kd, .string wd, .slice A 1 c]] w fun e w' => Try.PiecePost w0 w bm ws F e w' (Lang.wordsOf q) (Lang.fol q ws.length) (Lang.first q ws.length) (Lang.last q ws.length) true := by
  have H := Aside0.mk h
  have HN := Aside0.mk hn
  have HOK := Aside0.mk hok
  have HL := Aside0.mk hl
  have IH := Aside0.mk ih
  obtain ⟨ad, Aq, cq, rfl, k0, k1, k2, hqc, hq⟩ := at_T24 hl 0 (by omega) (by omega)
  have hw0 : w0.heap.size ≤ w.heap.size := h.below.size
  have e1 : rd_T24 [q] 0 = q := rfl
  rw [e1] at k0 k1 k2 hqc hq
  simp only [Int.toNat_zero, Nat.zero_mul, Try.add_nil] at k0 k1 k2
  have HQC := Aside0.mk hqc
  have HQ0 := Aside0.mk hq
  replace k0 := pw_cell_below h.below k0
  replace k1 := pw_cell_below h.below k1
  replace k2 := pw_cell_below h.below k2
  have hlt : ad.block < w.heap.size := World.block_lt_of_cell? w _ k0
  have hlt2 : ad.block < w.heap.size + 1 := by omega
  obtain ⟨W, hW⟩ : ∃ W, (w.alloc (.cells #[.int .i64 kd, .string wd, .slice (some ad) 1 c] 24)).alloc (.cells #[.map none, .map none, .bool false] 61) = W := ⟨_, rfl⟩
  obtain ⟨hsz, harg, hres, hbW⟩ := Try.two hW
  have HM := Aside0.mk (H.out.later hbW)
  have HRES := Aside0.mk hres
  have HKW := Aside0.mk (Try.Kept.below hbW)
  have hc := IH.out W bm ws F Aq cq HM.out HN.out HOK.out HQ0.out HQC.out
  have HW := Aside0.mk hW
  rw [← hW] at hc
  clear h ih hn hok hl hlc hqc hq e1 hW hsz harg hres hbW
  go_enter Try.func39, Try.ntmps39
  go_wp2_with fail
  refine hc.mono ?_
  rintro e w2 ⟨x1, x2, rfl, hM2, hF2, hL2, hK2⟩
  rw [HW.out] at hK2
  obtain ⟨en, hen⟩ : ∃ en, Lang.nul q = en := ⟨_, rfl⟩
  rw [hen]
  have hr2 := hK2.box HRES.out (by decide) (by decide) (by decide)
  have HM2 := Aside0.mk hM2
  have HF2 := Aside0.mk hF2
  have HL2 := Aside0.mk hL2
  have HRES2 := Aside0.mk hr2
  have HKW2 := Aside0.mk (HKW.out.trans hK2)
  have r0 := (blk_cell hr2 0).trans (show _ = some (Value.map none) from rfl)
  have r1 := (blk_cell hr2 1).trans (show _ = some (Value.map none) from rfl)
  have r2 := (blk_cell hr2 2).trans (show _ = some (Value.bool false) from rfl)
  have f0 := blk_frozen hr2 0
  have f1 := blk_frozen hr2 1
  have f2 := blk_frozen hr2 2
  have hrl := blk_lt hr2
  clear hc hM2 hF2 hL2 hK2 hen k0 k1 k2 HM HRES HKW hr2
  go_wp2_with fail
  obtain ⟨W9, h9⟩ : ∃ W9, ((w2.setCell ⟨w.heap.size + 1, 0, none⟩ (.map (some x1))).setCell ⟨w.heap.size + 1, 1, none⟩ (.map (some x2))).setCell ⟨w.heap.size + 1, 2, none⟩ (.bool true) = W9 := ⟨_, rfl⟩
  rw [h9]
  (try simp only [Exit.inBlock, Exit.then])
  refine bodyPost_ret (Try.piece_res rfl _ _ (w.heap.size + 1) _ (by rfl) rfl (blk_alloc (Try.three_box HRES2.out h9) _)) rfl ?_
  exact (Try.piece_end HM2.out HF2.out HL2.out HKW2.out hw0 (by omega) HRES2.out h9).later (below_alloc (Below.refl _ W9) _)
set_option maxHeartbeats 4000000 in
set_option maxRecDepth 100000 in
theorem Try.star_calls (w0 w : World) (bm : Nat) (ws : List ByteArray) (F : Int → Int → Prop) (q : Lang.Path) (ih : Try.MakeSpec w0 q) (h : Try.MkAt w0 w bm ws F) (hn : ws.length + Lang.places q ≤ 24) (hok : Lang.okP q) (kd : Int) (wd : ByteArray) (A : Option Addr) (c : Nat) (hl : Kd.C k24 w0 A 1 [q]) (hlc : 1 ≤ c) :
    Calls Try.prog 37 #[.pointer (some ⟨bm, 0, none⟩), .agg #[.int .i64 kd, .string wd, .slice A 1 c]] w fun e w' => Try.PiecePost w0 w bm ws F e w' (Lang.wordsOf q) (fun x y => Lang.fol q ws.length x y ∨ (Lang.last q ws.length x ∧ Lang.first q ws.length y)) (Lang.first q ws.length) (Lang.last q ws.length) true := by
  have H := Aside0.mk h
  have HN := Aside0.mk hn
  have HOK := Aside0.mk hok
  have HL := Aside0.mk hl
  have IH := Aside0.mk ih
  have HLC := Aside0.mk hlc
  obtain ⟨ad, Aq, cq, rfl, k0, k1, k2, hqc, hq⟩ := at_T24 hl 0 (by omega) (by omega)
  have hw0 : w0.heap.size ≤ w.heap.size := h.below.size
  have e1 : rd_T24 [q] 0 = q := rfl
  rw [e1] at k0 k1 k2 hqc hq
  simp only [Int.toNat_zero, Nat.zero_mul, Try.add_nil] at k0 k1 k2
  have HQC := Aside0.mk hqc
  have HQ0 := Aside0.mk hq
  replace k0 := pw_cell_below h.below k0
  replace k1 := pw_cell_below h.below k1
  replace k2 := pw_cell_below h.below k2
  have hlt : ad.block < w.heap.size := World.block_lt_of_cell? w _ k0
  have hlt2 : ad.block < w.heap.size + 1 := by omega
  obtain ⟨W, hW⟩ : ∃ W, (w.alloc (.cells #[.int .i64 kd, .string wd, .slice (some ad) 1 c] 24)).alloc (.cells #[.map none, .map none, .bool false] 61) = W := ⟨_, rfl⟩
  obtain ⟨hsz, harg, hres, hbW⟩ := Try.two hW
  have HM := Aside0.mk (H.out.later hbW)
  have HRES := Aside0.mk hres
  have HKW := Aside0.mk (Try.Kept.below hbW)
  have hc := Try.plus_calls w0 W bm ws F q IH.out HM.out HN.out HOK.out kd wd (some ad) c HL.out HLC.out
  have HW := Aside0.mk hW
  rw [← hW] at hc
  clear h ih hn hok hl hlc hqc hq e1 hW hsz harg hres hbW
  go_enter Try.func37, Try.ntmps37
  go_wp2_with fail
  refine hc.mono ?_
  rintro e w2 ⟨x1, x2, rfl, hM2, hF2, hL2, hK2⟩
  rw [HW.out] at hK2
  obtain ⟨en, hen⟩ : ∃ en, Lang.nul q = en := ⟨_, rfl⟩
  rw [hen]
  have hr2 := hK2.box HRES.out (by decide) (by decide) (by decide)
  have HM2 := Aside0.mk hM2
  have HF2 := Aside0.mk hF2
  have HL2 := Aside0.mk hL2
  have HRES2 := Aside0.mk hr2
  have HKW2 := Aside0.mk (HKW.out.trans hK2)
  have r0 := (blk_cell hr2 0).trans (show _ = some (Value.map none) from rfl)
  have r1 := (blk_cell hr2 1).trans (show _ = some (Value.map none) from rfl)
  have r2 := (blk_cell hr2 2).trans (show _ = some (Value.bool false) from rfl)
  have f0 := blk_frozen hr2 0
  have f1 := blk_frozen hr2 1
  have f2 := blk_frozen hr2 2
  have hrl := blk_lt hr2
  clear hc hM2 hF2 hL2 hK2 hen k0 k1 k2 HM HRES HKW hr2
  go_wp2_with fail
  obtain ⟨W9, h9⟩ : ∃ W9, ((w2.setCell ⟨w.heap.size + 1, 0, none⟩ (.map (some x1))).setCell ⟨w.heap.size + 1, 1, none⟩ (.map (some x2))).setCell ⟨w.heap.size + 1, 2, none⟩ (.bool true) = W9 := ⟨_, rfl⟩
  rw [h9]
  (try simp only [Exit.inBlock, Exit.then])
  refine bodyPost_ret (Try.piece_res rfl _ _ (w.heap.size + 1) _ (by rfl) rfl (blk_alloc (Try.three_box HRES2.out h9) _)) rfl ?_
  exact (Try.piece_end HM2.out HF2.out HL2.out HKW2.out hw0 (by omega) HRES2.out h9).later (below_alloc (Below.refl _ W9) _)
end Go.Proofs

namespace Go.Proofs
open Go.RowKit Go.Shelf Go.Maps Go.Proofs.YtjobnfbianlpnaaW.PrintWords Go.Proofs.YtjobnfbianlpnaaW.PrintLast Go.Proofs.Ytjobnfbianlpnaa.P
def Try.mv (bm n : Nat) : Value := .func (.func n) #[.pointer (some ⟨bm, 0, none⟩)] #[]
open Classical in
noncomputable def Try.dF (bm : Nat) (v : Value) : DataW Unit :=
  if v = Try.mv bm 34 then .lit (.int .i64 1) else if v = Try.mv bm 35 then .lit (.int .i64 2) else if v = Try.mv bm 36 then .lit (.int .i64 3) else if v = Try.mv bm 37 then .lit (.int .i64 4) else if v = Try.mv bm 38 then .lit (.int .i64 5) else if v = Try.mv bm 39 then .lit (.int .i64 6) else .nil
noncomputable def Try.RF (bm : Nat) (v : Value) : Option (DataW Unit × List MemPlace) := some (Try.dF bm v, [])
def Try.fnOf (k : Int) : Nat := if k = 1 then 34 else if k = 2 then 35 else if k = 3 then 36 else if k = 4 then 37 else if k = 5 then 38 else 39
theorem Try.dF_of {bm : Nat} {k : Int} (hk : k = 1 ∨ k = 2 ∨ k = 3 ∨ k = 4 ∨ k = 5 ∨ k = 6) : Try.dF bm (Try.mv bm (Try.fnOf k)) = .lit (.int .i64 k) := by
  rcases hk with rfl | rfl | rfl | rfl | rfl | rfl <;> simp [Try.dF, Try.fnOf, Try.mv]
theorem Try.dF_inv {bm : Nat} {k : Int} (hk : k = 1 ∨ k = 2 ∨ k = 3 ∨ k = 4 ∨ k = 5 ∨ k = 6) {v : Value} (h : Try.dF bm v = .lit (.int .i64 k)) : v = Try.mv bm (Try.fnOf k) := by
  unfold Try.dF at h
  rcases hk with rfl | rfl | rfl | rfl | rfl | rfl
  all_goals
    repeat' (split at h)
    all_goals first
      | (simp at h; done)
      | (simp only [Try.fnOf]; assumption)
      | (simp [Try.fnOf]; assumption)
def Try.Ways (w W : World) (bm b n : Nat) (D : DataW Unit) : Prop := W.ownsMap Try.prog 3 (Try.RF bm) b n D ∧ Below w.heap.size w W ∧ w.heap.size ≤ b
theorem Try.wp_way {w0 w : World} {ops : Array Oper} {rest : List Oper} {o : Oper} {a : Act} {Q : Exit → Act → World → Prop} {bm : Nat} (hg : o.guard = none) (m x v : Operand) (T : TypeId) (hop : o.op = Op.insert T m x v) (hT : ∃ e, Try.prog.underlying T = some (.map 3 e))
    {b n : Nat} {D : DataW Unit} (hS : Try.Ways w0 w bm b n D) {k : Int} {f : Nat} (hm : a.eval m = .map (some b)) (hx : a.eval x = .int .i64 k) (hv : a.eval v = Try.mv bm f) (hk : Try.okI k) (hn : n < 100)
    (hK : ∀ w', Try.Ways w0 w' bm b (n + 1) (D.put (.int .i64 k) (Try.dF bm (Try.mv bm f))) → wpList Try.prog ops Q rest (a.put o.dst undef) w') : wpList Try.prog ops Q (o :: rest) a w := by
  refine wpList_plain hg fun K' hK' => ?_
  obtain ⟨e, hT⟩ := hT
  obtain ⟨w', hrun, ho, hgr⟩ := hS.1.update Try.keyInt hT (by unfold maxLen; omega) (Try.hkeyI hk) (val := Try.mv bm f) rfl
  unfold Oper.wp
  simp [execOp, hop, hm, hx, hv, hrun, Result.andThen]
  exact hK' _ _ (hK w' ⟨ho, hS.2.1.grown hgr hS.2.1.size (fun j e => by cases e; exact hS.2.2), hS.2.2⟩)
noncomputable def Try.D6 (bm : Nat) : DataW Unit :=
  ((((((DataW.map []).put (.int .i64 1) (Try.dF bm (Try.mv bm 34))).put (.int .i64 2) (Try.dF bm (Try.mv bm 35))).put (.int .i64 3) (Try.dF bm (Try.mv bm 36))).put (.int .i64 4) (Try.dF bm (Try.mv bm 37))).put (.int .i64 5) (Try.dF bm (Try.mv bm 38))).put (.int .i64 6) (Try.dF bm (Try.mv bm 39))
theorem Try.litne {a b : Int} (h : a ≠ b) : (Lit.int .i64 a) ≠ .int .i64 b := fun e => h (by injection e)
theorem Try.keylit {a : Int} : WideAt.IsKeyLit (.int .i64 a) := trivial
theorem Try.D6_at {bm : Nat} {k : Int} (hk : k = 1 ∨ k = 2 ∨ k = 3 ∨ k = 4 ∨ k = 5 ∨ k = 6) (z : DataW Unit) : (Try.D6 bm).atKey (.int .i64 k) z = Try.dF bm (Try.mv bm (Try.fnOf k)) := by
  have h0 : IsMap (.map [] : DataW Unit) := isMap_empty
  unfold Try.D6
  rcases hk with rfl | rfl | rfl | rfl | rfl | rfl
  · rw [atKey_put_other (Try.litne (by decide)), atKey_put_other (Try.litne (by decide)), atKey_put_other (Try.litne (by decide)), atKey_put_other (Try.litne (by decide)), atKey_put_other (Try.litne (by decide)), atKey_put_same h0 Try.keylit]; rfl
  · rw [atKey_put_other (Try.litne (by decide)), atKey_put_other (Try.litne (by decide)), atKey_put_other (Try.litne (by decide)), atKey_put_other (Try.litne (by decide)), atKey_put_same (IsMap.put h0 _ _) Try.keylit]; rfl
  · rw [atKey_put_other (Try.litne (by decide)), atKey_put_other (Try.litne (by decide)), atKey_put_other (Try.litne (by decide)), atKey_put_same (IsMap.put (IsMap.put h0 _ _) _ _) Try.keylit]; rfl
  · rw [atKey_put_other (Try.litne (by decide)), atKey_put_other (Try.litne (by decide)), atKey_put_same (IsMap.put (IsMap.put (IsMap.put h0 _ _) _ _) _ _) Try.keylit]; rfl
  · rw [atKey_put_other (Try.litne (by decide)), atKey_put_same (IsMap.put (IsMap.put (IsMap.put (IsMap.put h0 _ _) _ _) _ _) _ _) Try.keylit]; rfl
  · rw [atKey_put_same (IsMap.put (IsMap.put (IsMap.put (IsMap.put (IsMap.put h0 _ _) _ _) _ _) _ _) _ _) Try.keylit]; rfl
theorem Try.zero_of {P : Program} {T : TypeId} {i : TypeInfo} {z : Value} (hi : P.info? T = some i) (hz : i.zero = some z) (w : World) : (zeroValue T).run P w = .ok z w := by
  simp [zeroValue, typeInfo, hi, hz, go_sem, Result.andThen]
theorem Try.infoFn : (Try.prog.info? 62).map (fun i => i.zero.isSome) = some true := by kernel_rfl
theorem Try.zeroFn (w : World) : ∃ z, (zeroValue 62).run Try.prog w = .ok z w := by
  have h := Try.infoFn
  rcases hi : Try.prog.info? 62 with _ | i
  · rw [hi] at h; cases h
  · rw [hi] at h
    have h1 : i.zero.isSome = true := by simpa using h
    obtain ⟨z, hz⟩ := Option.isSome_iff_exists.1 h1
    exact ⟨z, Try.zero_of hi hz w⟩
theorem Try.ways_look {w0 w : World} {bm b n : Nat} {T : TypeId} {e : TypeId} {z : Value} (h : Try.Ways w0 w bm b n (Try.D6 bm)) (hT : Try.prog.underlying T = some (.map 3 e)) (hz : (zeroValue e).run Try.prog w = .ok z w) {k : Int} (hk : k = 1 ∨ k = 2 ∨ k = 3 ∨ k = 4 ∨ k = 5 ∨ k = 6) :
    (Instr.lookup T (.map (some b)) (.int .i64 k) false).run Try.prog w = .ok (Try.mv bm (Try.fnOf k)) w := by
  obtain ⟨v, ps, hrun, hR⟩ := h.1.lookup Try.keyInt hT hz (zd := Try.dF bm z) (zp := []) rfl (Try.hkeyI (Try.okI_of (x := k) (by omega) (by omega)))
  rw [Try.D6_at hk, Try.dF_of hk] at hR
  have hv := Try.dF_inv hk (congrArg Prod.fst (Option.some.inj hR))
  subst hv
  exact hrun
set_option maxHeartbeats 4000000 in
set_option maxRecDepth 100000 in
theorem Try.make_via (w0 w : World) (bm : Nat) (ws : List ByteArray) (F : Int → Int → Prop) (h : Try.MkAt w0 w bm ws F) (kd : Int) (hk : kd = 1 ∨ kd = 2 ∨ kd = 3 ∨ kd = 4 ∨ kd = 5 ∨ kd = 6) (wd : ByteArray) (A : Option Addr) (n c : Nat)
    (ws1 : List ByteArray) (F1 : Int → Int → Prop) (p q : Int → Prop) (nu : Bool)
    (hcall : ∀ W, Try.MkAt w0 W bm ws F → Calls Try.prog (Try.fnOf kd) #[.pointer (some ⟨bm, 0, none⟩), .agg #[.int .i64 kd, .string wd, .slice A n c]] W fun e w' => Try.PiecePost w0 W bm ws F e w' ws1 F1 p q nu) :
    Calls Try.prog 19 #[.pointer (some ⟨bm, 0, none⟩), .agg #[.int .i64 kd, .string wd, .slice A n c]] w fun e w' => Try.PiecePost w0 w bm ws F e w' ws1 F1 p q nu := by
  have H := Aside0.mk h
  have HK := Aside0.mk hk
  have HC := Aside0.mk hcall
  have hw0 : w0.heap.size ≤ w.heap.size := h.below.size
  have hmm := @run_makeMap Try.prog
  clear h hk hcall
  go_enter Try.func19, Try.ntmps19
  go_upto_region 1 with fail
  obtain ⟨W, hW⟩ : ∃ W, (w.alloc (.cells #[.int .i64 kd, .string wd, .slice A n c] 24)).alloc (.cells #[.map none, .map none, .bool false] 61) = W := ⟨_, rfl⟩
  obtain ⟨hsz, harg, hres, hbW⟩ := Try.two hW
  rw [hW]
  have HM := Aside0.mk (H.out.later hbW)
  have HARG := Aside0.mk harg
  have HRES := Aside0.mk hres
  have HBW := Aside0.mk hbW
  have HSZ := Aside0.mk hsz
  have HO : Aside0 (Try.Ways W (W.alloc (.map #[] 0)) bm W.heap.size 0 (.map [])) := ⟨World.ownsMap_made W _ _ _, below_alloc (Below.refl _ W) _, Nat.le_refl _⟩
  clear hW hsz harg hres hbW
  go_upto_region 2 with (refine Try.wp_way (bm := bm) rfl _ _ _ 78 rfl ⟨_, Try.underlying78⟩ HO.out (by rfl) (by rfl) (by rfl) (Try.okI_of (by decide) (by decide)) (by decide) ?_; intro w' ho; have HO2 := Aside0.mk ho; clear HO ho; have HO := HO2; clear HO2)
  have HW := Aside0.mk (show Try.Ways W w' bm W.heap.size 6 (Try.D6 bm) from HO.out)
  clear HO
  obtain ⟨z, hz⟩ := Try.zeroFn w'
  have hlook := Try.ways_look HW.out Try.underlying78 hz HK.out
  have harg' := (HW.out.2.1.block w.heap.size (by have := HSZ.out; omega)).trans HARG.out
  have hres' := (HW.out.2.1.block (w.heap.size + 1) (by have := HSZ.out; omega)).trans HRES.out
  have a0 := (blk_cell harg' 0).trans (show _ = some (Value.int .i64 kd) from rfl)
  have a1 := (blk_cell harg' 1).trans (show _ = some (Value.string wd) from rfl)
  have a2 := (blk_cell harg' 2).trans (show _ = some (Value.slice A n c) from rfl)
  have HRESW := Aside0.mk hres'
  have HMW := Aside0.mk (HM.out.later HW.out.2.1)
  have hc := HC.out _ HMW.out
  have HKW := Aside0.mk ((Try.Kept.below HBW.out).trans (.below HW.out.2.1))
  obtain ⟨f, hf⟩ : ∃ f, Try.fnOf kd = f := ⟨_, rfl⟩
  rw [hf] at hlook hc
  have eg : ∀ args w, (callFunc f args).run Try.prog w = .ok (.enter f args) w := by
    rw [← hf]
    rcases HK.out with rfl | rfl | rfl | rfl | rfl | rfl
    · exact enters_of Try.func34 (by kernel_rfl) rfl
    · exact enters_of Try.func35 (by kernel_rfl) rfl
    · exact enters_of Try.func36 (by kernel_rfl) rfl
    · exact enters_of Try.func37 (by kernel_rfl) rfl
    · exact enters_of Try.func38 (by kernel_rfl) rfl
    · exact enters_of Try.func39 (by kernel_rfl) rfl
  rw [Try.mv] at hlook
  clear hf hz harg' hres' HM HARG HRES HC hmm
  go_wp2_with fail
  refine hc.mono ?_
  rintro e w2 ⟨x1, x2, rfl, hM2, hF2, hL2, hK2⟩
  have hr2 := hK2.box HRESW.out (by decide) (by decide) (by decide)
  have HM2 := Aside0.mk hM2
  have HF2 := Aside0.mk hF2
  have HL2 := Aside0.mk hL2
  have HRES2 := Aside0.mk hr2
  have HKW2 := Aside0.mk (HKW.out.trans hK2)
  have r0 := (blk_cell hr2 0).trans (show _ = some (Value.map none) from rfl)
  have r1 := (blk_cell hr2 1).trans (show _ = some (Value.map none) from rfl)
  have r2 := (blk_cell hr2 2).trans (show _ = some (Value.bool false) from rfl)
  have f0 := blk_frozen hr2 0
  have f1 := blk_frozen hr2 1
  have f2 := blk_frozen hr2 2
  clear hc hM2 hF2 hL2 hK2 hr2 a0 a1 a2 hlook eg
  go_wp2_with fail
  obtain ⟨W9, h9⟩ : ∃ W9, ((w2.setCell ⟨w.heap.size + 1, 0, none⟩ (.map (some x1))).setCell ⟨w.heap.size + 1, 1, none⟩ (.map (some x2))).setCell ⟨w.heap.size + 1, 2, none⟩ (.bool nu) = W9 := ⟨_, rfl⟩
  rw [h9]
  (try simp only [Exit.inBlock, Exit.then])
  refine bodyPost_ret (Try.piece_res rfl _ _ (w.heap.size + 1) _ (by rfl) rfl (Try.three_box HRES2.out h9)) rfl ?_
  exact Try.piece_end HM2.out HF2.out HL2.out HKW2.out hw0 (by omega) HRES2.out h9
end Go.Proofs

namespace Go.Proofs
open Go.RowKit Go.Shelf Go.Maps Go.Proofs.YtjobnfbianlpnaaW.PrintWords Go.Proofs.YtjobnfbianlpnaaW.PrintLast Go.Proofs.Ytjobnfbianlpnaa.P
theorem Try.PiecePost.congr {w0 w W : World} {bm : Nat} {ws ws1 ws2 : List ByteArray} {F F1 F2 : Int → Int → Prop} {e : Ending} {p q p' q' : Int → Prop} {nu nu' : Bool} (h : Try.PiecePost w0 w bm ws F e W ws1 F1 p q nu) (hw : ws1 = ws2) (hF : ∀ x y, F1 x y ↔ F2 x y) (hp : ∀ x, p x ↔ p' x) (hq : ∀ x, q x ↔ q' x) (hnu : nu = nu') : Try.PiecePost w0 w bm ws F e W ws2 F2 p' q' nu' := by
  subst hw
  subst hnu
  obtain ⟨b1, b2, h1, h2, h3, h4, h5⟩ := h
  exact ⟨b1, b2, h1, h2.iff (fun x y => or_congr Iff.rfl (hF x y)), h3.iff hp, h4.iff hq, h5⟩
theorem Try.make_of (w0 : World) (p : Lang.Path) (ih : ∀ q ∈ p.f2, Try.MakeSpec w0 q) : Try.MakeSpec w0 p := by
  intro w bm ws F A c hM hn hok hC hc
  obtain ⟨kd, wd, l⟩ := p
  rw [Lang.okP] at hok
  obtain ⟨hk, hokl⟩ := hok
  rw [Lang.places] at hn
  unfold Try.MakePost
  refine Try.make_via w0 w bm ws F hM kd (by omega) wd A l.length c _ _ _ _ _ ?_
  intro W hW
  rcases hk with rfl | rfl | rfl | ⟨hk, hl1⟩
  · rw [if_pos rfl] at hn
    exact (Try.word_calls w0 W bm ws F hW hn 1 wd A l.length c).mono fun e w' h => h.congr (by simp [Lang.wordsOf]) (fun x y => by simp [Lang.fol]) (fun x => by simp [Lang.first]) (fun x => by simp [Lang.last]) (by simp [Lang.nul])
  · rw [if_neg (by decide)] at hn
    exact (Try.seq_calls w0 W bm ws F l ih hW hn hokl 2 wd A c hC hc).mono fun e w' h => h.congr (by simp [Lang.wordsOf]) (fun x y => by simp [Lang.fol]) (fun x => by simp [Lang.first]) (fun x => by simp [Lang.last]) (by simp [Lang.nul])
  · rw [if_neg (by decide)] at hn
    exact (Try.alt_calls w0 W bm ws F l ih hW hn hokl 3 wd A c hC hc).mono fun e w' h => h.congr (by simp [Lang.wordsOf]) (fun x y => by simp [Lang.fol]) (fun x => by simp [Lang.first]) (fun x => by simp [Lang.last]) (by simp [Lang.nul])
  · obtain ⟨q, rfl⟩ := List.length_eq_one_iff.1 hl1
    have hq := ih q (by simp)
    have hokq : Lang.okP q := Lang.okL_mem hokl q (by simp)
    have hn' : ws.length + Lang.places q ≤ 24 := by
      rw [if_neg (by omega)] at hn
      simpa [Lang.placesL] using hn
    rcases hk with rfl | rfl | rfl
    · exact (Try.star_calls w0 W bm ws F q hq hW hn' hokq 4 wd A c hC hc).mono fun e w' h => h.congr (by simp [Lang.wordsOf, Lang.wordsL]) (fun x y => by simp [Lang.fol, Lang.folA, Lang.lastA, Lang.firstA]) (fun x => by simp [Lang.first, Lang.firstA]) (fun x => by simp [Lang.last, Lang.lastA]) (by simp [Lang.nul])
    · exact (Try.plus_calls w0 W bm ws F q hq hW hn' hokq 5 wd A c hC hc).mono fun e w' h => h.congr (by simp [Lang.wordsOf, Lang.wordsL]) (fun x y => by simp [Lang.fol, Lang.folA, Lang.lastA, Lang.firstA]) (fun x => by simp [Lang.first, Lang.firstA]) (fun x => by simp [Lang.last, Lang.lastA]) (by simp [Lang.nul, Lang.nulO])
    · exact (Try.maybe_calls w0 W bm ws F q hq hW hn' hokq 6 wd A c hC hc).mono fun e w' h => h.congr (by simp [Lang.wordsOf, Lang.wordsL]) (fun x y => by simp [Lang.fol, Lang.folA, Lang.lastA, Lang.firstA]) (fun x => by simp [Lang.first, Lang.firstA]) (fun x => by simp [Lang.last, Lang.lastA]) (by simp [Lang.nul])
theorem Try.make_spec (w0 : World) (p : Lang.Path) : Try.MakeSpec w0 p :=
  Try.make_of w0 p fun q hq => Try.make_spec w0 q
termination_by SizeOf.sizeOf p
decreasing_by
  obtain ⟨k, w, l⟩ := p
  have := List.sizeOf_lt_of_mem hq
  simp at this ⊢
  omega
end Go.Proofs

namespace Go.Proofs
open Go.RowKit Go.Shelf Go.Proofs.YtjobnfbianlpnaaW.PrintWords Go.Proofs.YtjobnfbianlpnaaW.PrintLast Go.Proofs.Ytjobnfbianlpnaa.P
namespace Lang
mutual
def fitP : Path → Nat → Prop
  | ⟨k, w, l⟩, d => 0 < d ∧ ((k = 1 ∧ l.length = 0 ∧ isWord w = true) ∨ (w = ⟨#[]⟩ ∧ (((k = 2 ∨ k = 3) ∧ 2 ≤ l.length) ∨ ((k = 4 ∨ k = 5 ∨ k = 6) ∧ l.length = 1)))) ∧ fitL l (d - 1)
def fitL : List Path → Nat → Prop
  | [], _ => True
  | p :: l, d => fitP p d ∧ fitL l d
end
theorem fitL_get : ∀ {l : List Path} {d : Nat}, fitL l d → ∀ q ∈ l, fitP q d
  | [], _, _, _, h => absurd h (by simp)
  | q :: l, d, hl, p, h => by
    rw [fitL] at hl
    rcases List.mem_cons.1 h with rfl | h
    · exact hl.1
    · exact fitL_get hl.2 p h
end Lang
def Try.FitsPost (W : World) (bl : Nat) (L : Int) (b : Bool) (e : Ending) (w' : World) : Prop := e = .returned (.bool b) ∧ W.grownBy w' (some bl) ∧ w'.heap[bl]? = some (.cells #[.int .i64 L] 3 (0, 0))
def Try.FitsSpec (w0 : World) (p : Lang.Path) : Prop :=
  ∀ (W : World) (bl : Nat) (L : Int) (A : Option Addr) (c d : Nat), Below w0.heap.size w0 W → w0.heap.size ≤ bl → W.heap[bl]? = some (.cells #[.int .i64 L] 3 (0, 0)) → Lang.places p ≤ L → L ≤ 24 → Lang.fitP p d → d ≤ 12 → Kd.C k24 w0 A p.f2.length p.f2 → p.f2.length ≤ c →
    Calls Try.prog 32 #[.agg #[.int .i64 p.f0, .string p.f1, .slice A p.f2.length c], .int .i64 d, .pointer (some ⟨bl, 0, none⟩)] W (Try.FitsPost W bl (L - Lang.places p) true)
set_option maxHeartbeats 4000000 in
theorem Try.fits1_calls (w0 : World) (q : Lang.Path) (hs : Try.FitsSpec w0 q) (W : World) (bl rd rl : Nat) (L : Int) (A : Option Addr) (c d : Nat) (hb : Below w0.heap.size w0 W) (hlo : w0.heap.size ≤ bl) (hbl : W.heap[bl]? = some (.cells #[.int .i64 L] 3 (0, 0))) (hpl : Lang.places q ≤ L) (hL : L ≤ 24) (hf : Lang.fitP q d) (hd : d + 1 ≤ 12)
    (hq : Kd.C k24 w0 A q.f2.length q.f2) (hc : q.f2.length ≤ c) (hrd : W.heap[rd]? = some (.cells #[.int .i64 (d + 1 : Nat)] 3 (0, 0))) (hrl : W.heap[rl]? = some (.cells #[.pointer (some ⟨bl, 0, none⟩)] 77 (0, 0))) :
    Calls Try.prog 52 #[.agg #[.int .i64 q.f0, .string q.f1, .slice A q.f2.length c], .pointer (some ⟨rd, 0, none⟩), .pointer (some ⟨rl, 0, none⟩)] W (Try.FitsPost W bl (L - Lang.places q) false) := by
  have d0 := (blk_cell hrd 0).trans (show _ = some (Value.int .i64 (d + 1 : Nat)) from rfl)
  have l0 := (blk_cell hrl 0).trans (show _ = some (Value.pointer (some ⟨bl, 0, none⟩)) from rfl)
  have hblt := blk_lt hbl
  have hrdl := blk_lt hrd
  have hrll := blk_lt hrl
  have hB := below_alloc (Below.refl _ W) (.cells #[.int .i64 q.f0, .string q.f1, .slice A q.f2.length c] 24)
  have hbl' := (hB.block bl hblt).trans hbl
  have HC := Aside0.mk (hs (W.alloc (.cells #[.int .i64 q.f0, .string q.f1, .slice A q.f2.length c] 24)) bl L A c d (below_step hb hB) hlo hbl' hpl hL hf (by omega) hq hc)
  have HG := Aside0.mk (World.grownBy_alloc W (.cells #[.int .i64 q.f0, .string q.f1, .slice A q.f2.length c] 24) (some bl))
  clear hs hb hlo hbl hpl hL hf hq hc hrd hrl hB hbl'
  go_enter Try.func52, Try.ntmps52
  go_wp2_with fail
  refine HC.out.mono ?_
  rintro e w2 ⟨rfl, hg2, hb2⟩
  have HG2 := Aside0.mk hg2
  have HB2 := Aside0.mk hb2
  clear hg2 hb2 d0 l0
  go_wp2_with fail
  go_ret
  exact ⟨rfl, HG.out.trans HG2.out, HB2.out⟩
theorem Lang.placesL_get {l : List Lang.Path} {i : Nat} {q : Lang.Path} (h : l[i]? = some q) : Lang.placesL (l.take (i + 1)) = Lang.placesL (l.take i) + Lang.places q := by
  rw [List.take_add_one, h]
  exact Lang.placesL_snoc q _
set_option maxHeartbeats 4000000 in
theorem Try.fits_kids (w0 : World) (l : List Lang.Path) (ih : ∀ q ∈ l, Try.FitsSpec w0 q) (W : World) (bl rd rl : Nat) (L : Int) (A : Option Addr) (c d : Nat) (hb : Below w0.heap.size w0 W) (hlo : w0.heap.size ≤ bl) (hbl : W.heap[bl]? = some (.cells #[.int .i64 L] 3 (0, 0))) (hpl : Lang.placesL l ≤ L) (hL : L ≤ 24) (hf : Lang.fitL l d) (hd : d + 1 ≤ 12)
    (hl : Kd.C k24 w0 A l.length l) (hrd : W.heap[rd]? = some (.cells #[.int .i64 (d + 1 : Nat)] 3 (0, 0))) (hrl : W.heap[rl]? = some (.cells #[.pointer (some ⟨bl, 0, none⟩)] 77 (0, 0))) (hne : rd ≠ bl) :
    Calls Try.prog 51 #[.slice A l.length c, .func (.func 52) #[] #[.pointer (some ⟨rd, 0, none⟩), .pointer (some ⟨rl, 0, none⟩)]] W (Try.FitsPost W bl (L - Lang.placesL l) false) := by
  have hnl : rl ≠ bl := by rintro rfl; rw [hrl] at hbl; cases hbl
  have hmax : l.length ≤ maxLen := by have := Kd.C_max hl; unfold maxLen; omega
  have hsk : ∀ i : Nat, ∃ y : Option Addr × Nat, i < l.length → ∃ ad, A = some ad ∧ w0.cell? (ad.add (i * 3)) = some (.int .i64 (rd_T24 l i).f0) ∧ w0.cell? ⟨(ad.add (i * 3)).block, (ad.add (i * 3)).off + 1, none⟩ = some (.string (rd_T24 l i).f1) ∧ w0.cell? ⟨(ad.add (i * 3)).block, (ad.add (i * 3)).off + 2, none⟩ = some (.slice y.1 (rd_T24 l i).f2.length y.2) ∧ (rd_T24 l i).f2.length ≤ y.2 ∧ Kd.C k24 w0 y.1 (rd_T24 l i).f2.length (rd_T24 l i).f2 := by
    intro i
    by_cases hi : i < l.length
    · obtain ⟨ad, A2, c2, e, h0, h1, h2, h3, h4⟩ := at_T24 hl (i : Int) (by omega) (by omega)
      rw [Int.toNat_natCast] at h0 h1 h2
      exact ⟨(A2, c2), fun _ => ⟨ad, e, h0, h1, h2, h3, h4⟩⟩
    · exact ⟨(none, 0), fun h => absurd h hi⟩
  obtain ⟨y, hy⟩ := Classical.axiomOfChoice hsk
  have hc := Try.containsFunc_path 52 #[.pointer (some ⟨rd, 0, none⟩), .pointer (some ⟨rl, 0, none⟩)] (enters_of Try.func52 (by kernel_rfl) rfl) A l.length c W hmax
    (fun i w' => W.grownBy w' (some bl) ∧ w'.heap[bl]? = some (.cells #[.int .i64 (L - Lang.placesL (l.take i))] 3 (0, 0))) (fun _ _ => False)
    (fun i => (rd_T24 l i).f0) (fun i => (rd_T24 l i).f1) (fun i => (y i).1) (fun i => (rd_T24 l i).f2.length) (fun i => (y i).2)
    (fun i w' hi hinv => by
      obtain ⟨ad, e, h0, h1, h2, _⟩ := hy i hi
      have hb' : Below w0.heap.size w0 w' := hb.grown hinv.1 hb.size (fun k e => by cases e; exact hlo)
      exact ⟨ad, e, pw_cell_below hb' h0, pw_cell_below hb' h1, pw_cell_below hb' h2⟩)
    (fun i w' hi hinv => by
      obtain ⟨ad, e, h0, h1, h2, h3, h4⟩ := hy i hi
      have hb' : Below w0.heap.size w0 w' := hb.grown hinv.1 hb.size (fun k e => by cases e; exact hlo)
      have hqm : l[i]? = some (rd_T24 l i) := by simp [rd_T24, List.getD, List.getElem?_eq_getElem hi]
      have hmem := List.mem_of_getElem? hqm
      have hp1 := Lang.placesL_get hqm
      have hp2 := Lang.placesL_take l (i + 1)
      refine (Try.fits1_calls w0 (rd_T24 l i) (ih _ hmem) w' bl rd rl _ (y i).1 (y i).2 d hb' hlo hinv.2 (by omega) (by omega) (Lang.fitL_get hf _ hmem) hd h4 h3 ((hinv.1.block rd (blk_lt hrd) (fun e => hne (by cases e; rfl))).trans hrd) ((hinv.1.block rl (blk_lt hrl) (fun e => hnl (by cases e; rfl))).trans hrl)).mono ?_
      rintro e w2 ⟨rfl, hg, hb2⟩
      refine .inr ⟨rfl, hinv.1.trans hg, ?_⟩
      rw [hb2, hp1]
      congr 5
      omega)
    ⟨World.grownBy.refl W _, by simpa [Lang.placesL] using hbl⟩
  refine hc.mono ?_
  rintro e w2 (⟨i, _, _, h⟩ | ⟨rfl, h⟩)
  · exact h.elim
  · rw [List.take_length] at h
    exact ⟨rfl, h.1, h.2⟩
set_option maxHeartbeats 4000000 in
theorem Try.fits_of (w0 : World) (p : Lang.Path) (ih : ∀ q ∈ p.f2, Try.FitsSpec w0 q) : Try.FitsSpec w0 p := by
  intro W bl L A c d hb hlo hbl hpl hL hf hd hl hc
  obtain ⟨kd, wd, l⟩ := p
  rw [Lang.fitP] at hf
  obtain ⟨hd0, hk, hfl⟩ := hf
  have hmax : l.length ≤ 9223372036854775807 := Kd.C_max hl
  obtain ⟨d', rfl⟩ : ∃ d', d = d' + 1 := ⟨d - 1, by omega⟩
  rw [Nat.add_sub_cancel] at hfl
  obtain ⟨D, hD⟩ : ∃ D : Int, ((d' + 1 : Nat) : Int) = D := ⟨_, rfl⟩
  rw [hD]
  have hD0 : 0 < D := by omega
  have HD := Aside0.mk hD
  clear hD
  obtain ⟨W1, hW1⟩ : ∃ W1, ((W.alloc (.cells #[.int .i64 kd, .string wd, .slice A l.length c] 24)).alloc (.cells #[.int .i64 D] 3)).alloc (.cells #[.pointer (some ⟨bl, 0, none⟩)] 77) = W1 := ⟨_, rfl⟩
  have hg1 : W.grownBy W1 (some bl) := by
    rw [← hW1]
    exact ((World.grownBy_alloc W _ _).trans (World.grownBy_alloc _ _ _)).trans (World.grownBy_alloc _ _ _)
  obtain ⟨hs1, hp1, hd1, hl1⟩ : W1.heap.size = W.heap.size + 3 ∧ W1.heap[W.heap.size]? = some (.cells #[.int .i64 kd, .string wd, .slice A l.length c] 24 (0, 0)) ∧ W1.heap[W.heap.size + 1]? = some (.cells #[.int .i64 D] 3 (0, 0)) ∧ W1.heap[W.heap.size + 1 + 1]? = some (.cells #[.pointer (some ⟨bl, 0, none⟩)] 77 (0, 0)) := by
    obtain ⟨w2, h2⟩ : ∃ w2, (W.alloc (.cells #[.int .i64 kd, .string wd, .slice A l.length c] 24)).alloc (.cells #[.int .i64 D] 3) = w2 := ⟨_, rfl⟩
    obtain ⟨s2, a2, r2, b2⟩ := Try.two h2
    rw [h2] at hW1
    subst hW1
    have hb := below_alloc (Below.refl _ w2) (.cells #[.pointer (some ⟨bl, 0, none⟩)] 77)
    have h5 := (MapKept.heap_alloc w2 (.cells #[.pointer (some ⟨bl, 0, none⟩)] 77)).1
    rw [s2] at h5
    exact ⟨by simp [s2], (hb.block _ (by omega)).trans a2, (hb.block _ (by omega)).trans r2, h5⟩
  have hblt := blk_lt hbl
  have hbl1 : W1.heap[bl]? = some (.cells #[.int .i64 L] 3 (0, 0)) := by
    have hb3 : Below W.heap.size W W1 := by rw [← hW1]; exact below_alloc (below_alloc (below_alloc (Below.refl W.heap.size W) _) _) _
    exact (hb3.block bl hblt).trans hbl
  have hb1 : Below w0.heap.size w0 W1 := hb.grown hg1 hb.size (fun k e => by cases e; exact hlo)
  have HW1 := Aside0.mk hW1
  have HG1 := Aside0.mk hg1
  have HP1 := Aside0.mk hp1
  have HD1 := Aside0.mk hd1
  have HL1 := Aside0.mk hl1
  have HBL1 := Aside0.mk hbl1
  have HB1 := Aside0.mk hb1
  have p0 := (blk_cell hp1 0).trans (show _ = some (Value.int .i64 kd) from rfl)
  have p1 := (blk_cell hp1 1).trans (show _ = some (Value.string wd) from rfl)
  have p2 := (blk_cell hp1 2).trans (show _ = some (Value.slice A l.length c) from rfl)
  have d0 := (blk_cell hd1 0).trans (show _ = some (Value.int .i64 D) from rfl)
  have l0 := (blk_cell hl1 0).trans (show _ = some (Value.pointer (some ⟨bl, 0, none⟩)) from rfl)
  have x0 := (blk_cell hbl1 0).trans (show _ = some (Value.int .i64 L) from rfl)
  have xf := blk_frozen hbl1 0
  have HPL := Aside0.mk hpl
  have HFL := Aside0.mk hfl
  have HLL := Aside0.mk hl
  have IH := Aside0.mk ih
  clear hW1 hg1 hs1 hp1 hd1 hl1 hbl1 hb1 hb hbl hpl hfl hl ih hd0
  rcases hk with ⟨rfl, hl0, hw⟩ | ⟨rfl, hk⟩
  · have hL1 : 1 ≤ L := by have := HPL.out; rw [Lang.places, if_pos rfl] at this; simpa using this
    have hln : (l.length : Int) = 0 := by omega
    have his := Try.is_calls wd (W1.setCell ⟨bl, 0, none⟩ (.int .i64 (L - 1)))
    rw [hw] at his
    clear hw hl0
    go_enter Try.func32, Try.ntmps32
    go_upto_region 3 with fail
    rw [HW1.out]
    go_wp2_with fail
    refine his.mono ?_
    rintro e w2 ⟨rfl, hb2⟩
    obtain ⟨V, hV⟩ : ∃ V, W1.setCell ⟨bl, 0, none⟩ (.int .i64 (L - 1)) = V := ⟨_, rfl⟩
    rw [hV] at hb2
    have hgV : W1.grownBy V (some bl) := by rw [← hV]; exact Try.grown_set _ _ _
    have hblV : V.heap[bl]? = some (.cells #[.int .i64 (L - 1)] 3 (0, 0)) := by rw [← hV]; exact blk_put HBL1.out 0 _ rfl
    have hlV := blk_grown HL1.out hgV (fun e => by have := HBL1.out; cases e; rw [HL1.out] at this; cases this)
    have hbl2 := (hb2.block bl (blk_lt hblV)).trans hblV
    have hl2 := (hb2.block _ (blk_lt hlV)).trans hlV
    have l02 := (blk_cell hl2 0).trans (show _ = some (Value.pointer (some ⟨bl, 0, none⟩)) from rfl)
    have x02 := (blk_cell hbl2 0).trans (show _ = some (Value.int .i64 (L - 1)) from rfl)
    have HBL2 := Aside0.mk hbl2
    have HG2 : Aside0 (W.grownBy w2 (some bl)) := ⟨(HG1.out.trans hgV).trans ⟨hb2.os, hb2.tape, hb2.output, hb2.size, fun i hi _ => hb2.block i hi⟩⟩
    have hge : (L - 1 : Int) ≥ 0 := by omega
    clear his hV hb2 hgV hblV hlV hbl2 hl2 p0 p1 p2 d0 l0 x0 xf
    go_wp2_with fail
    go_ret
    refine ⟨rfl, HG2.out, ?_⟩
    rw [HBL2.out, Lang.places, if_pos rfl]
    rfl
  · have hnk : kd ≠ 1 := by omega
    have hpl := HPL.out
    rw [Lang.places, if_neg hnk] at hpl
    have hck := Try.fits_kids w0 l IH.out W1 bl (W.heap.size + 1) (W.heap.size + 1 + 1) L A c d' HB1.out hlo HBL1.out hpl hL HFL.out hd HLL.out (by rw [HD.out]; exact HD1.out) HL1.out (by omega)
    have epl : (Lang.places ⟨kd, ⟨#[]⟩, l⟩ : Int) = Lang.placesL l := by rw [Lang.places, if_neg hnk]
    rw [epl]
    have HCK := Aside0.mk hck
    clear hpl hck epl hnk
    rcases hk with ⟨hk, hlen⟩ | ⟨hk, hlen⟩
    · have hlen' : (2 : Int) ≤ (l.length : Int) := by omega
      rcases hk with rfl | rfl
      all_goals
        go_enter Try.func32, Try.ntmps32
        go_upto_region 3 with fail
        rw [HW1.out]
        go_wp2_with fail
        refine HCK.out.mono ?_
        rintro e w2 ⟨rfl, hg2, hb2⟩
        have HG2 := Aside0.mk hg2
        have HB2 := Aside0.mk hb2
        clear hg2 hb2 p0 p1 p2 d0 l0 x0 xf
        go_wp2_with fail
        go_ret
        exact ⟨rfl, HG1.out.trans HG2.out, HB2.out⟩
    · have hlen' : (l.length : Int) = 1 := by omega
      clear hlen
      rcases hk with rfl | rfl | rfl
      all_goals
        go_enter Try.func32, Try.ntmps32
        go_upto_region 3 with fail
        rw [HW1.out]
        go_wp2_with fail
        refine HCK.out.mono ?_
        rintro e w2 ⟨rfl, hg2, hb2⟩
        have HG2 := Aside0.mk hg2
        have HB2 := Aside0.mk hb2
        clear hg2 hb2 p0 p1 p2 d0 l0 x0 xf
        go_wp2_with fail
        go_ret
        exact ⟨rfl, HG1.out.trans HG2.out, HB2.out⟩
theorem Try.fits_spec (w0 : World) (p : Lang.Path) : Try.FitsSpec w0 p :=
  Try.fits_of w0 p fun q hq => Try.fits_spec w0 q
termination_by SizeOf.sizeOf p
decreasing_by
  obtain ⟨k, w, l⟩ := p
  have := List.sizeOf_lt_of_mem hq
  simp at this ⊢
  omega
end Go.Proofs

namespace Go.Proofs
open Go.RowKit Go.Shelf Go.Proofs.YtjobnfbianlpnaaW.PrintWords Go.Proofs.YtjobnfbianlpnaaW.PrintLast Go.Proofs.Ytjobnfbianlpnaa.P
theorem Try.C_block {α : Type} {d : Kd α} {w : World} {g : Nat} {cs : Array Value} {T : TypeId} {f : Nat × Nat} {xs : List α} (hb : w.heap[g]? = some (.cells cs T f)) (hm : xs.length ≤ 9223372036854775807)
    (h : ∀ j p, xs[j]? = some p → ∃ c, c.length = d.sz ∧ d.K w p c ∧ ∀ i u, c[i]? = some u → cs[j * d.sz + i]? = some u) : d.C w (some ⟨g, 0, none⟩) xs.length xs := by
  refine ⟨rfl, hm, fun _ => ⟨_, rfl, fun j p hp => ?_⟩⟩
  obtain ⟨c, h1, h2, h3⟩ := h j p hp
  refine ⟨c, h1, h2, fun i u hu => ?_⟩
  have h4 := h3 i u hu
  rw [Addr.add_mid, Nat.zero_add]
  simp only [World.cell?, hb]
  exact h4
theorem Try.qodd_calls (x : ByteArray) (w : World) :
    Calls Try.prog 30 #[.string x] w fun e w' => e = .returned (.bool (!Lang.isWord x)) ∧ Below w.heap.size w w' := by
  have hc := Try.is_calls x w
  obtain ⟨b, hb⟩ : ∃ b, Lang.isWord x = b := ⟨_, rfl⟩
  rw [hb] at hc ⊢
  clear hb
  go_enter Try.func30, Try.ntmps30
  go_wp2_with fail
  refine hc.mono ?_
  rintro e w1 ⟨rfl, hb1⟩
  have HB := Aside0.mk hb1
  clear hc hb1
  cases b <;>
    (go_wp2_with fail
     go_ret
     exact ⟨rfl, HB.out⟩)
namespace Lang
mutual
def deep : Path → Nat
  | ⟨_, _, l⟩ => deepL l + 1
def deepL : List Path → Nat
  | [] => 0
  | p :: l => max (deep p) (deepL l)
end
mutual
theorem fit_deep : ∀ (p : Path) (d : Nat), fitP p d → deep p ≤ d
  | ⟨k, w, l⟩, d, h => by
    rw [fitP] at h
    have := fitL_deep l (d - 1) h.2.2
    rw [deep]; omega
theorem fitL_deep : ∀ (l : List Path) (d : Nat), fitL l d → deepL l ≤ d
  | [], d, h => by simp [deepL]
  | p :: l, d, h => by
    rw [fitL] at h
    have h1 := fit_deep p d h.1
    have h2 := fitL_deep l d h.2
    rw [deepL]; omega
end
end Lang
namespace Lang
mutual
theorem fit_places : ∀ (p : Path) (d : Nat), fitP p d → 1 ≤ places p
  | ⟨k, w, l⟩, d, h => by
    rw [fitP] at h
    have := fitL_places l (d - 1) h.2.2
    rw [places]; split
    · exact Nat.le_refl _
    · rcases h.2.1 with h | h
      · rename_i hk; exact absurd h.1 hk
      · omega
theorem fitL_places : ∀ (l : List Path) (d : Nat), fitL l d → l.length ≤ placesL l
  | [], d, h => by simp [placesL]
  | p :: l, d, h => by
    rw [fitL] at h
    have h1 := fit_places p d h.1
    have h2 := fitL_places l d h.2
    rw [placesL, List.length_cons]; omega
end
theorem up {α : Type} {g : Nat → Option α} (hm : ∀ k, LeO (g k) (g (k + 1))) {k k' : Nat} (h : k ≤ k') {r : α} (hr : g k = some r) : g k' = some r := by
  induction h with
  | refl => exact hr
  | step _ ih => exact hm _ _ ih
end Lang
def Try.SizeAt (p : Lang.Path) : Prop := ∀ d, d ≤ 12 → Lang.fitP p d → Lang.places p ≤ 24 → ∃ k, query_size.f k p.f0 p.f1 p.f2 = some ((Lang.places p : Int), (Lang.deep p : Int))
theorem Try.wr {x : Int} (h0 : 0 ≤ x) (h1 : x ≤ 1000000000) : wrap64 x = x := by unfold wrap64; omega
theorem Try.size_loop (l : List Lang.Path) (d : Nat) (hd : d ≤ 12) (hf : Lang.fitL l d) (hp : Lang.placesL l ≤ 24) (ih : ∀ q ∈ l, Try.SizeAt q) :
    ∀ (m i : Nat) (x2 x3 : Int), i + m = l.length → 0 ≤ x2 → x2 + Lang.placesL (l.drop i) ≤ 1000 → 0 ≤ x3 → x3 ≤ 1000 → ∃ k, query_size.l0 k x2 x3 l (l.length : Int) i = some (x2 + Lang.placesL (l.drop i), max x3 (Lang.deepL (l.drop i)) + 1)
  | 0, i, x2, x3, hi, a, b, c, e => by
    refine ⟨1, ?_⟩
    rw [query_size.l0, if_neg (by omega), List.drop_eq_nil_of_le (by omega), Try.wr (by omega) (by omega)]
    simp [Lang.placesL, Lang.deepL]
    omega
  | m + 1, i, x2, x3, hi, a, b, c, e => by
    have hlt : i < l.length := by omega
    have hq : l[i] ∈ l := List.getElem_mem hlt
    have hrd : rd_T24 l (i : Int) = l[i] := by simp [rd_T24, List.getD, List.getElem?_eq_getElem hlt]
    have hdr : l.drop i = l[i] :: l.drop (i + 1) := List.drop_eq_getElem_cons hlt
    have hpq : Lang.places l[i] ≤ 24 := by
      have h1 := Lang.placesL_get (List.getElem?_eq_getElem hlt)
      have h2 := Lang.placesL_take l (i + 1)
      omega
    have hfq := Lang.fitL_get hf _ hq
    have hdq := Lang.fit_deep _ _ hfq
    have hll := Lang.fitL_places _ _ hf
    rw [hdr, Lang.placesL] at b
    obtain ⟨k1, h1⟩ := ih _ hq d hd hfq hpq
    obtain ⟨k2, h2⟩ := Try.size_loop l d hd hf hp ih m (i + 1) (x2 + Lang.places l[i]) (max x3 (Lang.deep l[i])) (by omega) (by omega) (by omega) (by omega) (by omega)
    refine ⟨max k1 k2 + 1, ?_⟩
    have h1' := Lang.up (g := fun k => query_size.f k l[i].f0 l[i].f1 l[i].f2) (fun k => (query_size.mono_l k).1 _ _ _) (Nat.le_max_left k1 k2) h1
    have h2' := Lang.up (g := fun k => query_size.l0 k (x2 + Lang.places l[i]) (max x3 (Lang.deep l[i])) l (l.length : Int) ((i + 1 : Nat) : Int)) (fun k => (query_size.mono_l k).2.2 _ _ _ _ _) (Nat.le_max_right k1 k2) h2
    rw [query_size.l0, if_pos (by omega), if_pos (by omega), if_pos (by omega), hrd, h1', Option.bind_some, Try.wr (by omega) (by omega), Try.wr (by omega) (by omega), hdr]
    have e1 : ((i : Int) + 1) = ((i + 1 : Nat) : Int) := by omega
    rw [e1]
    have e2 : (mx x3 (Lang.deep l[i]) : Int) = max x3 (Lang.deep l[i]) := by unfold mx; omega
    simp only [e2]
    refine Eq.trans h2' ?_
    simp only [Lang.placesL, Lang.deepL]
    congr 2
    · omega
    · omega
theorem Try.size_of (p : Lang.Path) (ih : ∀ q ∈ p.f2, Try.SizeAt q) : Try.SizeAt p := by
  obtain ⟨k, w, l⟩ := p
  intro d hd hf hp
  rw [Lang.fitP] at hf
  rw [Lang.places] at hp
  by_cases hk : k = 1
  · have hl : l = [] := by
      rcases hf.2.1 with h | h
      · exact List.eq_nil_of_length_eq_zero h.2.1
      · omega
    subst hl
    refine ⟨3, ?_⟩
    simp [query_size.f, query_size.j0, query_size.l0, hk, Lang.places, Lang.deep, Lang.deepL, Try.wr]
  · rw [if_neg hk] at hp
    obtain ⟨n, h⟩ := Try.size_loop l (d - 1) (by omega) hf.2.2 hp ih l.length 0 0 0 (by omega) (by omega) (by simp; omega) (by omega) (by omega)
    refine ⟨n + 2, ?_⟩
    rw [query_size.f, if_neg hk, query_size.j0]
    refine Eq.trans h ?_
    rw [Lang.places, if_neg hk, Lang.deep, List.drop_zero]
    have e1 : (0 : Int) + Lang.placesL l = Lang.placesL l := by omega
    have e2 : max (0 : Int) (Lang.deepL l) + 1 = ((Lang.deepL l + 1 : Nat) : Int) := by omega
    rw [e1, e2]
theorem Try.size_at (p : Lang.Path) : Try.SizeAt p := Try.size_of p fun q hq => Try.size_at q
termination_by SizeOf.sizeOf p
decreasing_by
  obtain ⟨k, w, l⟩ := p
  have := List.sizeOf_lt_of_mem hq
  simp at this ⊢
  omega
def Lang.xb : ByteArray := ⟨#[120]⟩
def Lang.atom (p : Lang.Path) : S44 := ⟨⟨true, Lang.xb⟩, p, ⟨false, Lang.xb⟩⟩
theorem Try.names_x (p : Lang.Path) (k : Nat) : query_Names.f (k + 8) [Lang.xb] [Lang.atom p] = some [Lang.xb] := by kernel_rfl
theorem Try.why_end (p : Lang.Path) (k : Nat) (a b : Int) : query_why.l0 (k + 12) [Lang.xb] [Lang.atom p] 1 1 1 [Lang.xb] [Lang.atom p] [] = some 0 := by kernel_rfl
theorem Try.why_tot (p : Lang.Path) (hf : Lang.fitP p 12) (hp : Lang.places p ≤ 24) : ∃ k, query_why.f k 1 [Lang.xb] [Lang.atom p] [] = some 0 := by
  obtain ⟨n, h⟩ := Try.size_at p 12 (by omega) hf hp
  have hd := Lang.fit_deep p 12 hf
  refine ⟨n + 20, ?_⟩
  have h' := Lang.up (g := fun k => query_size.f k p.f0 p.f1 p.f2) (fun k => (query_size.mono_l k).1 _ _ _) (show n ≤ n + 19 by omega) h
  have hn := Try.names_x p (n + 12)
  have he := Try.why_end p (n + 7) 0 0
  rw [query_why.f, hn, Option.bind_some, query_why.l0]
  have e1 : rd_T44 [Lang.atom p] 0 = Lang.atom p := rfl
  have e2 : (Lang.atom p).f1 = p := rfl
  have e3 : wrap64 (0 + 1) = 1 := by unfold wrap64; omega
  rw [if_pos (by simp), if_pos (by omega), if_pos (by simp), e1, e2, h', Option.bind_some, if_neg (by dsimp; omega), if_neg (by dsimp; omega), e3]
  exact he
set_option maxHeartbeats 4000000 in
theorem Try.qcheck_calls (w : World) (p : Lang.Path) (hf : Lang.fitP p 12) (hp : Lang.places p ≤ 24) (V At : Option Addr) (cv ca : Nat) (hV : Kd.string.C w V 1 [Lang.xb]) (hcv : 1 ≤ cv) (hA : Kd.C k44 w At 1 [Lang.atom p]) (hca : 1 ≤ ca) :
    Calls Try.prog 18 #[.agg #[.int .i64 1, .slice V 1 cv, .slice At 1 ca, .slice none 0 0]] w fun e w' => e = .returned (.int .i64 0) ∧ Below w.heap.size w w' := by
  obtain ⟨kw, hw⟩ := Try.why_tot p hf hp
  have HWHY := Aside0.mk hw
  have HF := Aside0.mk hf
  have HP := Aside0.mk hp
  have HV := Aside0.mk hV
  have HA := Aside0.mk hA
  have HCV := Aside0.mk hcv
  have HCA := Aside0.mk hca
  have hone : (Lang.xb :: []).any (fun x => !Lang.isWord x) = false := by decide
  have hwx : (!Lang.isWord Lang.xb) = false := by decide
  have HONE := Aside0.mk hone
  have HWX := Aside0.mk hwx
  have eg := enters_of Try.func30 (by kernel_rfl) rfl
  clear hw hf hp hV hA hcv hca hone hwx
  go_enter Try.func18, Try.ntmps18
  go_upto_region 3 with fail
  obtain ⟨W, hW⟩ : ∃ W, (w.alloc (.cells #[.int .i64 1, .slice V 1 cv, .slice At 1 ca, .slice none 0 0] 50)).alloc (.cells #[.slice V 1 cv, .slice At 1 ca] 47) = W := ⟨_, rfl⟩
  obtain ⟨hsz, hr, hq, hbW⟩ := Try.two hW
  rw [hW]
  have r0 := (blk_cell hr 0).trans (show _ = some (Value.int .i64 1) from rfl)
  have r3 := (blk_cell hr 3).trans (show _ = some (Value.slice none 0 0) from rfl)
  have q0 := (blk_cell hq 0).trans (show _ = some (Value.slice V 1 cv) from rfl)
  have q1 := (blk_cell hq 1).trans (show _ = some (Value.slice At 1 ca) from rfl)
  have hc := Try.any_string 30 #[] eg (fun x => !Lang.isWord x) V cv [Lang.xb] W (Kd.C_below HV.out hbW) (fun W x _ => Try.qodd_calls x W)
  rw [HONE.out] at hc
  have HR := Aside0.mk hr
  have HQ := Aside0.mk hq
  have HB := Aside0.mk hbW
  clear hW hsz hr hq hbW
  simp only [List.length_cons, List.length_nil, Nat.zero_add] at hc
  go_wp2_with fail
  refine hc.mono ?_
  rintro e w1 ⟨rfl, hb1⟩
  have hr1 := (Try.Kept.below hb1).box HR.out (by decide) (by decide) (by decide)
  have hq1 := (Try.Kept.below hb1).box HQ.out (by decide) (by decide) (by decide)
  have q11 := (blk_cell hq1 1).trans (show _ = some (Value.slice At 1 ca) from rfl)
  have HR1 := Aside0.mk hr1
  have HQ1 := Aside0.mk hq1
  have HB1 := Aside0.mk (below_step HB.out hb1)
  clear hc hb1 r0 r3 q0 q1 hr1 hq1 HR HQ HB
  go_wp2_with fail
  go_loopg [3, 83] 1 (fun kq v3 v83 W' => v3 = .bool true ∧ (∃ i : Nat, v83 = .int .i64 (i : Int) ∧ i + kq = 1) ∧ Aside0 (Below w.heap.size w W') ∧ Aside0 (W'.heap[w.heap.size]? = some (.cells #[.int .i64 1, .slice V 1 cv, .slice At 1 ca, .slice none 0 0] 50 (0, 0))))
  case atStart => exact ⟨rfl, ⟨0, rfl, rfl⟩, HB1, HR1⟩
  case round =>
    clear q11 HR1 HQ1 HB1
    obtain ⟨rfl, ⟨i, rfl, hik⟩, HB1, HR1⟩ := hrel
    rcases (show (i = 0 ∧ gk = 1) ∨ (i = 1 ∧ gk = 0) by omega) with ⟨rfl, rfl⟩ | ⟨rfl, rfl⟩
    · obtain ⟨ad, A4, c4, rfl, k0, k1, k2, k3, k4, k5, k6, hc4, hC4⟩ := at_T44 (Kd.C_below HA.out HB1.out) 0 (by omega) (by omega)
      have hC4w : Kd.C k24 w A4 p.f2.length p.f2 := by
        obtain ⟨ad', A4', c4', e1, j0, j1, j2, j3, j4, j5, j6, jc, jC⟩ := at_T44 HA.out 0 (by omega) (by omega)
        cases e1
        have := pw_cell_below HB1.out j4
        rw [k4] at this
        cases this
        exact jC
      have e1 : rd_T44 [Lang.atom p] 0 = Lang.atom p := rfl
      rw [e1] at k0 k1 k2 k3 k4 k5 k6 hc4 hC4
      simp only [Lang.atom, Int.toNat_zero, Nat.zero_mul, Try.add_nil] at k0 k1 k2 k3 k4 k5 k6 hc4
      have HC4 := Aside0.mk hC4w
      have HCC := Aside0.mk hc4
      clear hC4 hC4w e1 hik hc4
      go_wp2_with fail
      refine (Try.qodd_calls Lang.xb _).mono ?_
      rw [HWX.out]
      rintro e w2 ⟨rfl, hb2⟩
      obtain ⟨X, hX⟩ : ∃ X, (wr.alloc (.cells #[.bool true, .string Lang.xb, .int .i64 p.f0, .string p.f1, .slice A4 p.f2.length c4, .bool false, .string Lang.xb] 44)).alloc (.cells #[.int .i64 24] 3) = X := ⟨_, rfl⟩
      obtain ⟨hsz, h8, h9, hbX⟩ := Try.two hX
      rw [hX] at hb2
      have hb12 := below_step hbX hb2
      have h82 := (hb2.block _ (by omega)).trans h8
      have h92 := (hb2.block _ (by omega)).trans h9
      have HB2 := Aside0.mk (below_step HB1.out hb12)
      have HR2 := Aside0.mk ((hb12.block _ (blk_lt HR1.out)).trans HR1.out)
      have a6 := (blk_cell h82 6).trans (show _ = some (Value.string Lang.xb) from rfl)
      have H8 := Aside0.mk h82
      have H9 := Aside0.mk h92
      have HLO : Aside0 (w.heap.size ≤ wr.heap.size) := ⟨HB1.out.size⟩
      clear hsz h8 h9 hbX hX hb2 hb12 h82 h92 k0 k1 k2 k3 k4 k5 k6 HR1 HB1
      go_wp2_with fail
      refine (Try.qodd_calls Lang.xb _).mono ?_
      rw [HWX.out]
      rintro e w3 ⟨rfl, hb3⟩
      have h83 := (hb3.block _ (blk_lt H8.out)).trans H8.out
      have h93 := (hb3.block _ (blk_lt H9.out)).trans H9.out
      have HB3 := Aside0.mk (below_step HB2.out hb3)
      have HR3 := Aside0.mk ((hb3.block _ (blk_lt HR2.out)).trans HR2.out)
      have b2 := (blk_cell h83 2).trans (show _ = some (Value.int .i64 p.f0) from rfl)
      have b3 := (blk_cell h83 3).trans (show _ = some (Value.string p.f1) from rfl)
      have b4 := (blk_cell h83 4).trans (show _ = some (Value.slice A4 p.f2.length c4) from rfl)
      have hfc := Try.fits_spec w p w3 (wr.heap.size + 1) 24 A4 c4 12 HB3.out (by have := HLO.out; omega) h93 (by have := HP.out; omega) (by omega) HF.out (by omega) HC4.out HCC.out
      have hne : wr.heap.size + 1 ≠ w.heap.size := by have := HLO.out; omega
      have HNE := Aside0.mk hne
      clear hb3 h83 h93 a6 HB2 HR2 H8 H9 hne
      have e12 : ((12 : Nat) : Int) = 12 := rfl
      rw [e12] at hfc
      clear e12
      go_wp2_with fail
      refine hfc.mono ?_
      rintro e w4 ⟨rfl, hg4, _⟩
      have HB4 := Aside0.mk (HB3.out.grown hg4 HB3.out.size (fun k e => by cases e; have := HLO.out; omega))
      have HR4 := Aside0.mk (blk_grown HR3.out hg4 (fun e => HNE.out (by injection e with e; exact e.symm)))
      clear hfc hg4 b2 b3 b4
      go_wp2_with fail
      go_roundg 0
      case measure => omega
      case rel => exact ⟨rfl, ⟨1, rfl, rfl⟩, HB4, HR4⟩
    · have r0 := (blk_cell HR1.out 0).trans (show _ = some (Value.int .i64 1) from rfl)
      have r1 := (blk_cell HR1.out 1).trans (show _ = some (Value.slice V 1 cv) from rfl)
      have r2 := (blk_cell HR1.out 2).trans (show _ = some (Value.slice At 1 ca) from rfl)
      have r3 := (blk_cell HR1.out 3).trans (show _ = some (Value.slice none 0 0) from rfl)
      have hy := query_why.calls kw 1 V cv [Lang.xb] At ca [Lang.atom p] none 0 [] 0 wr (Kd.C_below HV.out HB1.out) HCV.out (Kd.C_below HA.out HB1.out) HCA.out (Kd.C_nil _ _) (by simp) HWHY.out
      simp only [List.length_cons, List.length_nil, Nat.zero_add] at hy
      clear hik
      go_wp2_with fail
      refine hy.mono ?_
      rintro e w2 ⟨rfl, hb2⟩
      have HB2 := Aside0.mk (below_step HB1.out hb2)
      clear hy hb2 r0 r1 r2 r3
      go_wp2_with fail
      go_ret
      exact ⟨rfl, HB2.out⟩
end Go.Proofs

namespace Go.Proofs
open Go.RowKit Go.Shelf Go.Proofs.YtjobnfbianlpnaaW.PrintWords Go.Proofs.YtjobnfbianlpnaaW.PrintLast Go.Proofs.Ytjobnfbianlpnaa.P
theorem Lang.rises_of : ∀ (l : List Int) (p n : Int), l.Pairwise (· < ·) → (∀ x ∈ l, p < x ∧ x < n) → Lang.rises p l n = true
  | [], _, _, _, _ => rfl
  | x :: l, p, n, hs, hr => by
    have h1 := hr x (by simp)
    rw [List.pairwise_cons] at hs
    rw [Lang.rises, if_pos h1.1, if_pos h1.2]
    exact Lang.rises_of l x n hs.2 (fun y hy => ⟨hs.1 y hy, (hr y (List.mem_cons_of_mem _ hy)).2⟩)
theorem Lang.rise_sorted (S : List Int) (h : S.Nodup) : (Lang.rise S).Pairwise (· < ·) := by
  have hp : (Lang.rise S).Perm S := List.mergeSort_perm S leI
  have hn : (Lang.rise S).Nodup := hp.nodup_iff.2 h
  have hs : (Lang.rise S).Pairwise (fun a b => leI a b = true) := List.pairwise_mergeSort (fun a b c h1 h2 => by simp only [leI, decide_eq_true_eq] at *; omega) (fun a b => by simp only [leI, Bool.or_eq_true, decide_eq_true_eq]; omega) S
  have h2 := List.Pairwise.and hs hn
  refine h2.imp (fun {a b} h => ?_)
  have h1 : a ≤ b := by simpa [leI] using h.1
  have h2 := h.2
  omega
theorem Try.own_C {w : World} {base : Nat} {e : TypeId} {v : Value} {l : List Int} (h : w.ownsRow base e 1 v l.length (nums .i64 l)) : ∃ A c, v = .slice A l.length c ∧ (Kd.int .i64).C w A l.length l ∧ Try.Headed A ∧ l.length ≤ c := by
  rcases h.2 with ⟨rfl, h0⟩ | ⟨g, cap, cur, rfl, hb, hg, hc, hm, hs, ht⟩
  · have : l = [] := List.eq_nil_of_length_eq_zero h0
    subst this
    exact ⟨none, 0, rfl, Kd.C_nil _ _, by simp [Try.Headed], Nat.le_refl _⟩
  · refine ⟨_, cap, rfl, ⟨rfl, by unfold maxLen at hm; omega, fun _ => ⟨_, rfl, fun j p hp => ⟨[.int .i64 p], rfl, rfl, fun i u hu => ?_⟩⟩⟩, by simp [Try.Headed], hc⟩
    have hi : i = 0 := by
      rcases i with _ | i
      · rfl
      · simp at hu
    subst hi
    have hu' : u = .int .i64 p := by simpa using hu.symm
    subst hu'
    exact h.cells rfl (j * 1 + 0) _ (by rw [Nat.mul_one, Nat.add_zero, nums, List.getElem?_map, hp]; rfl)
structure Try.RowIs (w : World) (v : Value) (l : List Int) (n : Int) (p : Int → Prop) : Prop where
  mem : ∀ x, x ∈ l ↔ p x
  up : Lang.rises (-1) l n = true
  own : ∃ base, w.ownsRow base 3 1 v l.length (nums .i64 l)
theorem Try.RowIs.ex {w : World} {v : Value} {l : List Int} {n : Int} {p : Int → Prop} (h : Try.RowIs w v l n p) : ∃ A c, v = .slice A l.length c ∧ (Kd.int .i64).C w A l.length l ∧ Try.Headed A ∧ l.length ≤ c := by
  obtain ⟨base, h⟩ := h.own; exact Try.own_C h
theorem Try.SetP.list {w : World} {b : Nat} {p : Int → Prop} (h : Try.SetP w b p) (n : Int) (hn : ∀ x, p x → 0 ≤ x ∧ x < n) :
    Calls Try.prog 20 #[.map (some b)] w fun e w' => ∃ v l, e = .returned v ∧ Try.RowIs w' v l n p ∧ Below w.heap.size w w' := by
  obtain ⟨S, hS, hp, hr⟩ := h
  have hl := hS.len hr
  refine (Try.list_calls b S w hS (by omega)).mono ?_
  rintro e w' ⟨v, rfl, hown, hnil, hb⟩
  have hperm : (Lang.rise S).Perm S := List.mergeSort_perm S leI
  exact ⟨v, Lang.rise S, rfl, ⟨fun x => by rw [hperm.mem_iff, hp], Lang.rises_of _ _ _ (Lang.rise_sorted S hS.1) (fun x hx => by have := hn x ((hp x).1 (hperm.mem_iff.1 hx)); omega), ⟨_, hown⟩⟩, hb⟩
theorem Try.RowIs.below {w w' : World} {v : Value} {l : List Int} {n : Int} {p : Int → Prop} (h : Try.RowIs w v l n p) (hb : Below w.heap.size w w') : Try.RowIs w' v l n p := by
  obtain ⟨h1, h2, base, h3⟩ := h
  exact ⟨h1, h2, base, Try.own_later h3 hb⟩
theorem Try.RowIs.cells {w w' : World} {v : Value} {l : List Int} {n : Int} {p : Int → Prop} {r : Nat} {cs : Array Value} {T : TypeId} {f : Nat × Nat} (h : Try.RowIs w v l n p) (hg : w.grownBy w' (some r)) (hr : w.heap[r]? = some (.cells cs T f)) (hT : T ≠ 3) : Try.RowIs w' v l n p := by
  obtain ⟨h1, h2, base, h3⟩ := h
  exact ⟨h1, h2, base, h3.kept hg (.inr (Try.own_ne h3 hr hT).symm)⟩
theorem Try.RowIs.row {w w' : World} {v u : Value} {l : List Int} {n : Int} {p : Int → Prop} {base m : Nat} {T : TypeId} {xs : List Value} (h : Try.RowIs w v l n p) (hg : w.grownBy w' u.ownBlock) (hu : w.ownsRow base T 1 u m xs) (hT : T ≠ 3) : Try.RowIs w' v l n p := by
  obtain ⟨h1, h2, base', h3⟩ := h
  refine ⟨h1, h2, base', h3.kept hg ?_⟩
  rcases hv : v.ownBlock with _ | k
  · exact .inl rfl
  · right
    intro e
    obtain ⟨_, c1, e1⟩ := Try.own_block h3 k hv
    obtain ⟨_, c2, e2⟩ := Try.own_block hu k e.symm
    rw [e1] at e2
    cases e2
    exact hT rfl
end Go.Proofs

namespace Go.Proofs
open Go.RowKit Go.Shelf Go.Proofs.YtjobnfbianlpnaaW.PrintWords Go.Proofs.YtjobnfbianlpnaaW.PrintLast Go.Proofs.Ytjobnfbianlpnaa.P
structure Lang.AutoOf (p : Lang.Path) (a : Lang.Auto) : Prop where
  words : a.words = Lang.wordsOf p
  first : ∀ x, x ∈ a.first ↔ Lang.first p 0 x
  last : ∀ x, x ∈ a.last ↔ Lang.last p 0 x
  follow : ∀ (i : Nat) l, a.follow[i]? = some l → ∀ x, x ∈ l ↔ Lang.fol p 0 i x
  len : a.follow.length = a.words.length
  empty : a.empty = Lang.nul p
  up1 : Lang.rises (-1) a.first a.words.length = true
  up2 : Lang.rises (-1) a.last a.words.length = true
  up3 : ∀ l ∈ a.follow, Lang.rises (-1) l a.words.length = true
theorem Try.fiveAny {w W : World} {o1 o2 o3 o4 o5 : Obj} (h : ((((w.alloc o1).alloc o2).alloc o3).alloc o4).alloc o5 = W) :
    W.heap.size = w.heap.size + 5 ∧ W.heap[w.heap.size]? = some o1 ∧ W.heap[w.heap.size + 1]? = some o2 ∧ W.heap[w.heap.size + 1 + 1]? = some o3 ∧ W.heap[w.heap.size + 1 + 1 + 1]? = some o4 ∧ W.heap[w.heap.size + 1 + 1 + 1 + 1]? = some o5 ∧ Below w.heap.size w W := by
  subst h
  obtain ⟨w2, h2⟩ : ∃ w2, (w.alloc o1).alloc o2 = w2 := ⟨_, rfl⟩
  obtain ⟨s2, a2, r2, b2⟩ := Try.two h2
  rw [h2]
  obtain ⟨w4, h4⟩ : ∃ w4, (w2.alloc o3).alloc o4 = w4 := ⟨_, rfl⟩
  obtain ⟨s4, a4, r4, b4⟩ := Try.two h4
  rw [h4]
  have hb := below_alloc (Below.refl _ w4) o5
  have h5 := (MapKept.heap_alloc w4 o5).1
  have e5 : w4.heap.size = w.heap.size + 1 + 1 + 1 + 1 := by omega
  rw [e5] at h5
  rw [s2] at a4 r4
  exact ⟨by simp; omega, (hb.block _ (by omega)).trans ((b4.block _ (by omega)).trans a2), (hb.block _ (by omega)).trans ((b4.block _ (by omega)).trans r2), (hb.block _ (by omega)).trans a4, (hb.block _ (by omega)).trans r4, h5, below_step (below_step b2 b4) hb⟩
theorem Try.blk_then {w w' : World} {g : Nat} {o : Obj} (hb : Below w.heap.size w w') (h : w.heap[g]? = some o) : w'.heap[g]? = some o := (hb.block g (blk_lt h)).trans h
theorem Try.fiveSet {w w' : World} {r : Nat} {a b c d e a0 b0 c0 d0 e0 : Value} {T : TypeId} (hr : w.heap[r]? = some (.cells #[a0, b0, c0, d0, e0] T (0, 0))) (h : ((((w.setCell ⟨r, 0, none⟩ a).setCell ⟨r, 1, none⟩ b).setCell ⟨r, 2, none⟩ c).setCell ⟨r, 3, none⟩ d).setCell ⟨r, 4, none⟩ e = w') : w.grownBy w' (some r) ∧ w'.heap[r]? = some (.cells #[a, b, c, d, e] T (0, 0)) := by
  subst h
  exact ⟨((((Try.grown_set w ⟨r, 0, none⟩ a).trans (Try.grown_set _ ⟨r, 1, none⟩ b)).trans (Try.grown_set _ ⟨r, 2, none⟩ c)).trans (Try.grown_set _ ⟨r, 3, none⟩ d)).trans (Try.grown_set _ ⟨r, 4, none⟩ e),
    blk_put (cs := #[a, b, c, d, e0]) (blk_put (cs := #[a, b, c, d0, e0]) (blk_put (cs := #[a, b, c0, d0, e0]) (blk_put (cs := #[a, b0, c0, d0, e0]) (blk_put hr 0 _ rfl) 1 _ rfl) 2 _ rfl) 3 _ rfl) 4 _ rfl⟩
theorem Try.info30 : (Try.prog.info? 30).map (fun i => (i.zero, i.size, i.bytes)) = some (some (.slice none 0 0), 1, 24) := by kernel_rfl
theorem Try.res2 {P : Program} {fn : Func} {p u : Tmp} {ty : TypeId} (h : fn.results = #[.cell p ty, .tmp u]) (tmps : Array Value) (w : World) (g : Nat) (t : TypeId) (cs : Array Value) (fr : Nat × Nat) (d : TypeDesc) (x : Value)
    (hp : tmps.getD p undef = .pointer (some ⟨g, 0, none⟩)) (hx : tmps.getD u undef = x) (hg : w.heap[g]? = some (.cells cs t fr))
    (hu : P.underlying ty = some d) (hd : (match d with | .struct _ | .array _ _ => true | _ => false) = true) (hi : (P.info? ty).map (·.size) = some cs.size) :
    (results fn tmps).run P w = .ok (.tuple #[.agg cs, x]) w := by
  have hp' : tmps[p]?.getD undef = .pointer (some ⟨g, 0, none⟩) := by simpa using hp
  have hx' : tmps[u]?.getD undef = x := by simpa using hx
  simp [results, h, hp', hx', asAddr, run_loadVar_row w g t ty cs fr d hg hu hd hi]
def Try.OfPost (w : World) (p : Lang.Path) (e : Ending) (w' : World) : Prop :=
  ∃ (A0 A1 A2 A3 : Option Addr) (c0 c1 c2 c3 : Nat) (a : Lang.Auto), e = .returned (.tuple #[.agg #[.slice A0 a.words.length c0, .slice A1 a.first.length c1, .slice A2 a.last.length c2, .slice A3 a.follow.length c3, .bool a.empty], .int .i64 0]) ∧ Try.AutoIn w' A0 A1 A2 A3 c1 c2 c3 a ∧ Lang.AutoOf p a ∧ Below w.heap.size w w' ∧ a.words.length ≤ c0
theorem Try.own_str {w : World} {base : Nat} {v : Value} {l : List ByteArray} (h : w.ownsRow base 9 1 v l.length (l.map Value.string)) : ∃ A c, v = .slice A l.length c ∧ Kd.string.C w A l.length l ∧ l.length ≤ c := by
  rcases h.2 with ⟨rfl, h0⟩ | ⟨g, cap, cur, rfl, hb, hg, hc, hm, hs, ht⟩
  · have : l = [] := List.eq_nil_of_length_eq_zero h0
    subst this
    exact ⟨none, 0, rfl, Kd.C_nil _ _, Nat.le_refl _⟩
  · refine ⟨_, cap, rfl, ⟨rfl, by unfold maxLen at hm; omega, fun _ => ⟨_, rfl, fun j p hp => ⟨[.string p], rfl, rfl, fun i u hu => ?_⟩⟩⟩, hc⟩
    have hi : i = 0 := by
      rcases i with _ | i
      · rfl
      · simp at hu
    subst hi
    have hu' : u = .string p := by simpa using hu.symm
    subst hu'
    exact h.cells rfl (j * 1 + 0) _ (by rw [Nat.mul_one, Nat.add_zero, List.getElem?_map, hp]; rfl)
theorem Try.of_end {w X : World} {p : Lang.Path} {Aw A1 A2 A3 : Option Addr} {cw c1 c2 c3 i B b0 : Nat} {en : Bool} {l1 l2 : List Int} {fl : List (List Int)} {vals : List Value}
    (hlw : fl.length = (Lang.wordsOf p).length) (hen : Lang.nul p = en) (hR1 : Try.RowIs X (.slice A1 l1.length c1) l1 ((Lang.wordsOf p).length : Int) (Lang.first p 0)) (hR2 : Try.RowIs X (.slice A2 l2.length c2) l2 ((Lang.wordsOf p).length : Int) (Lang.last p 0))
    (hw : X.ownsRow b0 9 1 (.slice Aw (Lang.wordsOf p).length cw) (Lang.wordsOf p).length ((Lang.wordsOf p).map Value.string)) (hf : X.ownsRow B 30 1 (.slice A3 i c3) fl.length vals) (hrow : ∀ (j : Nat) l, fl[j]? = some l → ∃ v, vals[j]? = some v ∧ Try.RowIs X v l ((Lang.wordsOf p).length : Int) (Lang.fol p 0 j)) (hB : Below w.heap.size w X) :
    Try.OfPost w p (.returned (.tuple #[.agg #[.slice Aw (Lang.wordsOf p).length cw, .slice A1 l1.length c1, .slice A2 l2.length c2, .slice A3 i c3, .bool en], .int .i64 0])) X := by
  subst hen
  have hi : i = fl.length := by
    rcases hf.2 with ⟨e, h0⟩ | ⟨g, cap, cur, e, _⟩
    · cases e; exact h0.symm
    · cases e; rfl
  subst hi
  obtain ⟨_, _, e1, hC1, hH1, hl1⟩ := hR1.ex
  cases e1
  obtain ⟨_, _, e2, hC2, hH2, hl2⟩ := hR2.ex
  cases e2
  obtain ⟨_, _, e3, hCw, hcw0⟩ := Try.own_str hw
  cases e3
  have hcell : ∀ j, j < fl.length → ∃ (ad : Addr) (Ai : Option Addr) (ci : Nat), A3 = some ad ∧ X.cell? (ad.add j) = some (.slice Ai (fl.getD j []).length ci) ∧ (Kd.int .i64).C X Ai (fl.getD j []).length (fl.getD j []) ∧ Try.Headed Ai ∧ (fl.getD j []).length ≤ ci := by
    intro j hj
    have hg : fl[j]? = some (fl.getD j []) := by rw [List.getElem?_eq_getElem hj]; simp [List.getD, List.getElem?_eq_getElem hj]
    obtain ⟨v, hv, hR⟩ := hrow j _ hg
    obtain ⟨Ai, ci, rfl, hC, hH, hl⟩ := hR.ex
    rcases hf.2 with ⟨e, h0⟩ | ⟨g, cap, cur, e, _⟩
    · omega
    · cases e
      exact ⟨_, Ai, ci, rfl, hf.cells rfl j _ hv, hC, hH, hl⟩
  have hmax : fl.length ≤ 9223372036854775807 := by
    rcases hf.2 with ⟨e, h0⟩ | ⟨g, cap, cur, e, _, _, h1, h2, _⟩
    · omega
    · unfold maxLen at h2; omega
  have hl3 : fl.length ≤ c3 := by
    rcases hf.2 with ⟨e, h0⟩ | ⟨g, cap, cur, e, _, _, h1, h2, _⟩
    · omega
    · cases e; exact h1
  refine ⟨Aw, A1, A2, A3, cw, c1, c2, c3, ⟨Lang.wordsOf p, l1, l2, fl, Lang.nul p⟩, rfl, ⟨⟨hCw, hC1, hC2, ⟨rfl, hmax, fun hpos => ?_⟩, hl1, hl2, hl3⟩, hH1, fun j hj => ?_⟩, ⟨rfl, hR1.mem, hR2.mem, fun j l hj => ?_, hlw, rfl, hR1.up, hR2.up, fun l hl => ?_⟩, hB, hcw0⟩
  · obtain ⟨ad, _, _, e, _⟩ := hcell 0 hpos
    refine ⟨ad, e, fun j l hj => ?_⟩
    have hjl : j < fl.length := (List.getElem?_eq_some_iff.1 hj).1
    obtain ⟨ad', Ai, ci, e', h1, h2, h3, h4⟩ := hcell j hjl
    rw [e] at e'
    cases e'
    have hg : fl.getD j [] = l := by simp [List.getD, hj]
    rw [hg] at h1 h2 h4
    exact ⟨[.slice Ai l.length ci], rfl, ⟨Ai, ci, rfl, h4, h2⟩, fun i u hu => by
      rcases i with _ | i
      · cases hu
        have : j * 1 + 0 = j := by omega
        show X.cell? (ad.add (j * 1 + 0)) = _
        rw [this]
        exact h1
      · simp at hu⟩
  · obtain ⟨ad, Ai, ci, h1, h2, h3, h4, _⟩ := hcell j hj
    exact ⟨ad, Ai, ci, h1, h2, h3, h4⟩
  · obtain ⟨v, _, hR⟩ := hrow j l hj
    exact hR.mem
  · obtain ⟨j, hj⟩ := List.mem_iff_getElem?.1 hl
    obtain ⟨v, _, hR⟩ := hrow j l hj
    exact hR.up
set_option maxHeartbeats 8000000 in
set_option maxRecDepth 100000 in
theorem Try.of_calls (w : World) (p : Lang.Path) (hok : Lang.okP p) (hf : Lang.fitP p 12) (hp : Lang.places p ≤ 24) (A : Option Addr) (c : Nat) (hl : Kd.C k24 w A p.f2.length p.f2) (hlc : p.f2.length ≤ c) :
    Calls Try.prog 11 #[.agg #[.int .i64 p.f0, .string p.f1, .slice A p.f2.length c]] w (Try.OfPost w p) := by
  have HOK := Aside0.mk hok
  have HF := Aside0.mk hf
  have HP := Aside0.mk hp
  have HL := Aside0.mk hl
  have HLC := Aside0.mk hlc
  clear hok hf hp hl hlc
  go_enter Try.func11, Try.ntmps11
  go_upto_region 2 with fail
  obtain ⟨W, hW⟩ : ∃ W, ((((w.alloc (.cells #[.int .i64 p.f0, .string p.f1, .slice A p.f2.length c] 24)).alloc (.cells #[.slice none 0 0, .slice none 0 0, .slice none 0 0, .slice none 0 0, .bool false] 33)).alloc (.cells #[.string ⟨#[120]⟩] 9)).alloc (.cells #[.bool true, .string ⟨#[120]⟩, .int .i64 p.f0, .string p.f1, .slice A p.f2.length c, .bool false, .string ⟨#[120]⟩] 44)).alloc (.cells #[.int .i64 1, .slice (some ⟨w.heap.size + 1 + 1, 0, none⟩) 1 1, .slice (some ⟨w.heap.size + 1 + 1 + 1, 0, none⟩) 1 1, .slice none 0 0] 50) = W := ⟨_, rfl⟩
  obtain ⟨hsz, harg, hres, hvar, hat, hreq, hbW⟩ := Try.fiveAny hW
  rw [hW]
  have q0 := (blk_cell hreq 0).trans (show _ = some (Value.int .i64 1) from rfl)
  have q1 := (blk_cell hreq 1).trans (show _ = some (Value.slice (some ⟨w.heap.size + 1 + 1, 0, none⟩) 1 1) from rfl)
  have q2 := (blk_cell hreq 2).trans (show _ = some (Value.slice (some ⟨w.heap.size + 1 + 1 + 1, 0, none⟩) 1 1) from rfl)
  have q3 := (blk_cell hreq 3).trans (show _ = some (Value.slice none 0 0) from rfl)
  have hV : Kd.string.C W (some ⟨w.heap.size + 1 + 1, 0, none⟩) 1 [Lang.xb] := Try.C_block (xs := [Lang.xb]) hvar (by simp) (fun j q hq => by
    rcases j with _ | j
    · cases hq
      exact ⟨[.string Lang.xb], rfl, rfl, fun i u hu => by rcases i with _ | i; · exact hu
                                                           · simp at hu⟩
    · simp at hq)
  have hA : Kd.C k44 W (some ⟨w.heap.size + 1 + 1 + 1, 0, none⟩) 1 [Lang.atom p] := Try.C_block (xs := [Lang.atom p]) hat (by simp) (fun j q hq => by
    rcases j with _ | j
    · cases hq
      refine ⟨_, rfl, k44_mk W (Lang.atom p) HLC.out (Kd.C_below HL.out hbW), fun i u hu => ?_⟩
      rw [Nat.zero_mul, Nat.zero_add, ← Array.getElem?_toList]
      exact hu
    · simp at hq)
  have hq := Try.qcheck_calls W p HF.out HP.out _ _ 1 1 hV (Nat.le_refl _) hA (Nat.le_refl _)
  have HARG := Aside0.mk harg
  have HRES := Aside0.mk hres
  have HB := Aside0.mk hbW
  have HSZ := Aside0.mk hsz
  clear hW hsz harg hres hvar hat hreq hbW hV hA
  go_wp2_with fail
  refine hq.mono ?_
  rintro e w1 ⟨rfl, hb1⟩
  have HB1 := Aside0.mk (below_step HB.out hb1)
  have HARG1 := Aside0.mk ((hb1.block _ (blk_lt HARG.out)).trans HARG.out)
  have HRES1 := Aside0.mk ((hb1.block _ (blk_lt HRES.out)).trans HRES.out)
  have p0 := (blk_cell HARG1.out 0).trans (show _ = some (Value.int .i64 p.f0) from rfl)
  have p1 := (blk_cell HARG1.out 1).trans (show _ = some (Value.string p.f1) from rfl)
  have p2 := (blk_cell HARG1.out 2).trans (show _ = some (Value.slice A p.f2.length c) from rfl)
  have hlo1 : w.heap.size ≤ w1.heap.size := HB1.out.size
  have HM1 : Aside0 (Try.MkAt w (w1.alloc (.cells #[.slice none 0 0, .slice none 0 0] 57)) w1.heap.size [] (fun _ _ => False)) := ⟨⟨below_alloc HB1.out _, hlo1, ⟨.slice none 0 0, .slice none 0 0, [], (MapKept.heap_alloc w1 _).1, World.ownsRow_nil _ _ _ _, World.ownsRow_nil _ _ _ _, rfl, fun i b h => by simp at h⟩, fun x y h => h.elim⟩⟩
  have hm := Try.make_spec w p _ _ _ _ A c HM1.out (by simpa using HP.out) HOK.out HL.out HLC.out
  have hlt1 := blk_lt HARG1.out
  clear hq hb1 q0 q1 q2 q3 HARG HRES HB HSZ
  go_upto_region 5 with fail
  go_wp2_with fail
  refine hm.mono ?_
  rintro e w2 ⟨b1, b2, rfl, hM2, hF2, hL2, hK2⟩
  have hkr := (Try.Kept.below (below_alloc (Below.refl _ w1) (.cells #[.slice none 0 0, .slice none 0 0] 57))).trans hK2
  obtain ⟨en, hen⟩ : ∃ en, Lang.nul p = en := ⟨_, rfl⟩
  rw [hen]
  have HEN := Aside0.mk hen
  have HRES2 := Aside0.mk (hkr.box HRES1.out (by decide) (by decide) (by decide))
  obtain ⟨w3, hw3⟩ : ∃ w3, w2.alloc (.cells #[.map (some b1), .map (some b2), .bool en] 61) = w3 := ⟨_, rfl⟩
  have hb3 : Below w2.heap.size w2 w3 := by rw [← hw3]; exact below_alloc (Below.refl _ w2) _
  have HX3 : Aside0 (w3.heap[w2.heap.size]? = some (.cells #[.map (some b1), .map (some b2), .bool en] 61 (0, 0))) := ⟨by rw [← hw3]; exact (MapKept.heap_alloc w2 _).1⟩
  have HM3 := Aside0.mk (hM2.later hb3)
  have HF3 := Aside0.mk (hF2.keep (.below hb3))
  have HL3 := Aside0.mk (hL2.keep (.below hb3))
  have HRES3 := Aside0.mk ((hb3.block _ (blk_lt HRES2.out)).trans HRES2.out)
  have HW3 := Aside0.mk hw3
  clear hm hM2 hF2 hL2 hK2 hkr hen hb3 hw3 p0 p1 p2 HM1 HARG1 HRES1 HRES2 hlt1
  go_upto_region 6 with fail
  rw [HW3.out]
  obtain ⟨vw, vf, fs, hbox, hvw, hvf, hfl, hfs⟩ := HM3.out.ex
  obtain ⟨Aw, cw, rfl, hcw⟩ := Try.own_form hvw
  obtain ⟨Af, cf, rfl, hcf⟩ := Try.own_form hvf
  have HBOX := Aside0.mk hbox
  have HVW := Aside0.mk hvw
  have HVF := Aside0.mk hvf
  have HFS := Aside0.mk hfs
  have HFL := Aside0.mk hfl
  have c0_0 : w3.cell? ⟨w1.heap.size, 0, none⟩ = some (.slice Aw (Lang.wordsOf p).length cw) := (blk_cell hbox 0).trans rfl
  have c0_1 := (blk_cell HX3.out 0).trans (show _ = some (Value.map (some b1)) from rfl)
  have c0_2 := (blk_cell HX3.out 1).trans (show _ = some (Value.map (some b2)) from rfl)
  have c0_3 := (blk_cell HX3.out 2).trans (show _ = some (Value.bool en) from rfl)
  have HB0_ := Aside0.mk (below_drew1 (Below.refl w3.heap.size w3))
  have hws : (Lang.wordsOf p).length ≤ 24 := by rw [Lang.wordsOf_length]; exact HP.out
  clear hbox hvw hvf hfs hfl
  refine start_ (n := 15) (S := fun w' => w'.cell? ⟨w1.heap.size, 0, none⟩ = some (.slice Aw (Lang.wordsOf p).length cw) ∧ w'.cell? ⟨w2.heap.size, 0, none⟩ = some (.map (some b1)) ∧ w'.cell? ⟨w2.heap.size, 1, none⟩ = some (.map (some b2)) ∧ w'.cell? ⟨w2.heap.size, 2, none⟩ = some (.bool en)) (ds := [14]) #[false, false, false, false, false, false, false, false, false, false, false, false, false, false, false] (by kernel_rfl) rfl rfl ⟨(by go_simp), (by go_simp), (by go_simp), (by go_simp)⟩ (fun hHeld => ?_)
  refine pure_ (i := 0) (N := some 27) (v := ?_) (a' := ?_) #[true, false, false, false, false, false, false, false, false, false, false, false, false, false, false] rfl rfl (by kernel_rfl) (fun _ _ _ h => h) (Or.inl ⟨by rfl, ?_⟩) ?_ ?_
  rotate_left
  · intro w'
    go_simp
    with_reducible rfl
  rotate_left
  · simp only [Act.put, List.setIfInBounds_toArray, List.set_cons_zero, List.set_cons_succ, i64_w, i32_w]
    rfl
  refine pure_ (i := 1) (N := some 28) (v := ?_) (a' := ?_) #[true, true, false, false, false, false, false, false, false, false, false, false, false, false, false] rfl rfl (by kernel_rfl) (fun _ _ _ h => h) (Or.inl ⟨by rfl, ?_⟩) ?_ ?_
  rotate_left
  · intro w'
    go_simp
    with_reducible rfl
  rotate_left
  · simp only [Act.put, List.setIfInBounds_toArray, List.set_cons_zero, List.set_cons_succ, i64_w, i32_w]
    rfl
  refine pure_ (i := 2) (N := some 29) (v := ?_) (a' := ?_) #[true, true, true, false, false, false, false, false, false, false, false, false, false, false, false] rfl rfl (by kernel_rfl) (fun _ _ _ h => h) (Or.inl ⟨by rfl, ?_⟩) ?_ ?_
  rotate_left
  · intro w'
    go_simp
    with_reducible rfl
  rotate_left
  · simp only [Act.put, List.setIfInBounds_toArray, List.set_cons_zero, List.set_cons_succ, i64_w, i32_w]
    rfl
  refine pure_ (i := 4) (N := some 31) (v := ?_) (a' := ?_) #[true, true, true, false, true, false, false, false, false, false, false, false, false, false, false] rfl rfl (by kernel_rfl) (fun _ _ _ h => h) (Or.inl ⟨by rfl, ?_⟩) ?_ ?_
  rotate_left
  · intro w'
    go_simp
    with_reducible rfl
  rotate_left
  · simp only [Act.put, List.setIfInBounds_toArray, List.set_cons_zero, List.set_cons_succ, i64_w, i32_w]
    rfl
  refine pure_ (i := 7) (N := some 34) (v := ?_) (a' := ?_) #[true, true, true, false, true, false, false, true, false, false, false, false, false, false, false] rfl rfl (by kernel_rfl) (fun _ _ _ h => h) (Or.inl ⟨by rfl, ?_⟩) ?_ ?_
  rotate_left
  · intro w'
    go_simp
    with_reducible rfl
  rotate_left
  · simp only [Act.put, List.setIfInBounds_toArray, List.set_cons_zero, List.set_cons_succ, i64_w, i32_w]
    rfl
  refine pure_ (i := 10) (N := some 37) (v := ?_) (a' := ?_) #[true, true, true, false, true, false, false, true, false, false, true, false, false, false, false] rfl rfl (by kernel_rfl) (fun _ _ _ h => h) (Or.inl ⟨by rfl, ?_⟩) ?_ ?_
  rotate_left
  · intro w'
    go_simp
    with_reducible rfl
  rotate_left
  · simp only [Act.put, List.setIfInBounds_toArray, List.set_cons_zero, List.set_cons_succ, i64_w, i32_w]
    rfl
  refine take_ (i := 3) (N := some 30) (v := ?_) (a' := ?_) #[true, true, true, true, true, false, false, true, false, false, true, false, false, false, false] rfl rfl (by kernel_rfl) (fun _ _ _ h => h) (Or.inl ⟨by rfl, ?_⟩) hHeld ?_ ?_
  rotate_left
  · rintro w' ⟨s0, s1, s2, s3⟩
    go_simp
    with_reducible rfl
  rotate_left
  · simp only [Act.put, List.setIfInBounds_toArray, List.set_cons_zero, List.set_cons_succ, i64_w, i32_w]
    rfl
  refine take_ (i := 5) (N := some 32) (v := ?_) (a' := ?_) #[true, true, true, true, true, true, false, true, false, false, true, false, false, false, false] rfl rfl (by kernel_rfl) (fun _ _ _ h => h) (Or.inl ⟨by rfl, ?_⟩) hHeld ?_ ?_
  rotate_left
  · rintro w' ⟨s0, s1, s2, s3⟩
    go_simp
    with_reducible rfl
  rotate_left
  · simp only [Act.put, List.setIfInBounds_toArray, List.set_cons_zero, List.set_cons_succ, i64_w, i32_w]
    rfl
  refine take_ (i := 8) (N := some 35) (v := ?_) (a' := ?_) #[true, true, true, true, true, true, false, true, true, false, true, false, false, false, false] rfl rfl (by kernel_rfl) (fun _ _ _ h => h) (Or.inl ⟨by rfl, ?_⟩) hHeld ?_ ?_
  rotate_left
  · rintro w' ⟨s0, s1, s2, s3⟩
    go_simp
    with_reducible rfl
  rotate_left
  · simp only [Act.put, List.setIfInBounds_toArray, List.set_cons_zero, List.set_cons_succ, i64_w, i32_w]
    rfl
  refine take_ (i := 11) (N := some 38) (v := ?_) (a' := ?_) #[true, true, true, true, true, true, false, true, true, false, true, true, false, false, false] rfl rfl (by kernel_rfl) (fun _ _ _ h => h) (Or.inl ⟨by rfl, ?_⟩) hHeld ?_ ?_
  rotate_left
  · rintro w' ⟨s0, s1, s2, s3⟩
    go_simp
    with_reducible rfl
  rotate_left
  · simp only [Act.put, List.setIfInBounds_toArray, List.set_cons_zero, List.set_cons_succ, i64_w, i32_w]
    rfl
  refine join_ (σ := (Option Addr × Nat × Nat) × (Option Addr × Nat × Nat) × Nat) 1 #[true, true, true, true, true, true, true, true, true, true, true, true, true, true, false] (fun s => [(33, .slice s.1.1 s.1.2.1 s.1.2.2), (36, .slice s.2.1.1 s.2.1.2.1 s.2.1.2.2), (39, .agg #[.slice Aw (Lang.wordsOf p).length cw, .slice s.1.1 s.1.2.1 s.1.2.2, .slice s.2.1.1 s.2.1.2.1 s.2.1.2.2, .slice none 0 0, .bool en]), (7, .pointer (some ⟨s.2.2, 0, none⟩))]) (fun s w' => ∃ l1 l2 : List Int, s.1.2.1 = l1.length ∧ s.2.1.2.1 = l2.length ∧ Try.RowIs w' (.slice s.1.1 s.1.2.1 s.1.2.2) l1 ((Lang.wordsOf p).length : Int) (Lang.first p 0) ∧ Try.RowIs w' (.slice s.2.1.1 s.2.1.2.1 s.2.1.2.2) l2 ((Lang.wordsOf p).length : Int) (Lang.last p 0) ∧ w'.heap[s.2.2]? = some (.cells #[.slice none 0 0, .slice none 0 0, .slice none 0 0, .slice none 0 0, .bool false] 33 (0, 0)) ∧ w3.heap.size ≤ s.2.2 ∧ Below w3.heap.size w3 w') ?_ ?_
  rotate_left
  · intro hCont
    refine two_ (i := 6) (j := 13) (Ni := some 33) (Nj := some 7) #[true, true, true, true, true, true, true, true, true, false, true, true, false, false, false] #[true, true, true, true, true, true, false, true, true, false, true, true, false, true, false] rfl rfl rfl rfl (by kernel_rfl) (by decide) (by decide) (fun K hK => ?_) (fun K hK => ?_)
    · skip
      have HC33 := Aside0.mk (Try.SetP.list (w := w3.drew) (HF3.out.keep (.below HB0_.out)) ((Lang.wordsOf p).length : Int) (fun x hx => by have := Lang.first_range p 0 x hx; rw [Lang.wordsOf_length]; omega))
      refine goes_ Try.func20 (by kernel_rfl) rfl #[.map (some b1)] (by rfl) rfl rfl (by simp only [List.map_toArray, List.map_cons, List.map_nil]; rfl) ?_
      with_reducible refine (HC33.out).mono ?_
      rintro e x1 ⟨v, l33, rfl, hr, hb⟩
      have HR33 := Aside0.mk hr
      obtain ⟨A33, c33, rfl, _, _, _⟩ := hr.ex
      clear hr
      refine ⟨_, rfl, ?_⟩
      have HS1 := Aside0.mk hb
      have HB1 : Aside0 (Below w3.heap.size w3 x1) := ⟨below_then HB0_.out HB0_.out.size HS1.out⟩
      have HB1_ := HB1
      have c1_0 : x1.cell? ⟨w1.heap.size, 0, none⟩ = some (.slice Aw (Lang.wordsOf p).length cw) := (hb.cell (p := ⟨w1.heap.size, 0, none⟩) (World.block_lt_of_cell? _ _ c0_0)).trans c0_0
      have c1_1 : x1.cell? ⟨w2.heap.size, 0, none⟩ = some (.map (some b1)) := (hb.cell (p := ⟨w2.heap.size, 0, none⟩) (World.block_lt_of_cell? _ _ c0_1)).trans c0_1
      have c1_2 : x1.cell? ⟨w2.heap.size, 1, none⟩ = some (.map (some b2)) := (hb.cell (p := ⟨w2.heap.size, 1, none⟩) (World.block_lt_of_cell? _ _ c0_2)).trans c0_2
      have c1_3 : x1.cell? ⟨w2.heap.size, 2, none⟩ = some (.bool en) := (hb.cell (p := ⟨w2.heap.size, 2, none⟩) (World.block_lt_of_cell? _ _ c0_3)).trans c0_3
      clear hb
      refine hK.out _ _ ⟨c1_0, c1_1, c1_2, c1_3⟩ (fun hHeld => ?_)
      clear hK K
      refine norm_ (a' := ?_) ?_ ?_
      rotate_left
      · show Act.put _ (some 33) _ = _
        simp only [Act.put, List.setIfInBounds_toArray, List.set_cons_zero, List.set_cons_succ, i64_w, i32_w]
        rfl
      refine two_ (i := 9) (j := 13) (Ni := some 36) (Nj := some 7) #[true, true, true, true, true, true, true, true, true, true, true, true, false, false, false] #[true, true, true, true, true, true, true, true, true, false, true, true, false, true, false] rfl rfl rfl rfl (by kernel_rfl) (by decide) (by decide) (fun K hK => ?_) (fun K hK => ?_)
      · skip
        have HC36 := Aside0.mk (Try.SetP.list (w := x1) (HL3.out.keep (.below HB1_.out)) ((Lang.wordsOf p).length : Int) (fun x hx => by have := Lang.last_range p 0 x hx; rw [Lang.wordsOf_length]; omega))
        refine goes_ Try.func20 (by kernel_rfl) rfl #[.map (some b2)] (by rfl) rfl rfl (by simp only [List.map_toArray, List.map_cons, List.map_nil]; rfl) ?_
        with_reducible refine (HC36.out).mono ?_
        rintro e x2 ⟨v, l36, rfl, hr, hb⟩
        have HR36 := Aside0.mk hr
        obtain ⟨A36, c36, rfl, _, _, _⟩ := hr.ex
        clear hr
        refine ⟨_, rfl, ?_⟩
        have HS2 := Aside0.mk hb
        have HB2 : Aside0 (Below w3.heap.size w3 x2) := ⟨below_then HB1_.out HB1_.out.size HS2.out⟩
        have HB2_ := HB2
        have c2_0 : x2.cell? ⟨w1.heap.size, 0, none⟩ = some (.slice Aw (Lang.wordsOf p).length cw) := (hb.cell (p := ⟨w1.heap.size, 0, none⟩) (World.block_lt_of_cell? _ _ c1_0)).trans c1_0
        have c2_1 : x2.cell? ⟨w2.heap.size, 0, none⟩ = some (.map (some b1)) := (hb.cell (p := ⟨w2.heap.size, 0, none⟩) (World.block_lt_of_cell? _ _ c1_1)).trans c1_1
        have c2_2 : x2.cell? ⟨w2.heap.size, 1, none⟩ = some (.map (some b2)) := (hb.cell (p := ⟨w2.heap.size, 1, none⟩) (World.block_lt_of_cell? _ _ c1_2)).trans c1_2
        have c2_3 : x2.cell? ⟨w2.heap.size, 2, none⟩ = some (.bool en) := (hb.cell (p := ⟨w2.heap.size, 2, none⟩) (World.block_lt_of_cell? _ _ c1_3)).trans c1_3
        clear hb
        refine hK.out _ _ ⟨c2_0, c2_1, c2_2, c2_3⟩ (fun hHeld => ?_)
        clear hK K
        refine norm_ (a' := ?_) ?_ ?_
        rotate_left
        · show Act.put _ (some 36) _ = _
          simp only [Act.put, List.setIfInBounds_toArray, List.set_cons_zero, List.set_cons_succ, i64_w, i32_w]
          rfl
        refine pure_ (i := 12) (N := some 39) (v := ?_) (a' := ?_) #[true, true, true, true, true, true, true, true, true, true, true, true, true, false, false] rfl rfl (by kernel_rfl) (fun _ _ _ h => h) (Or.inl ⟨by rfl, ?_⟩) ?_ ?_
        rotate_left
        · intro w'
          go_simp
          with_reducible rfl
        rotate_left
        · simp only [Act.put, List.setIfInBounds_toArray, List.set_cons_zero, List.set_cons_succ, i64_w, i32_w]
          rfl
        refine one_ (i := 13) (N := some 7) #[true, true, true, true, true, true, true, true, true, true, true, true, true, true, false] rfl rfl (by kernel_rfl) (by decide) (fun K hK => ?_)
        refine value_ (w1 := ?_) (v := ?_) (by rfl) rfl ?_ ?_
        rotate_left 2
        · go_simp
          constructor
          · rfl
          · rfl
        obtain ⟨x3, hx⟩ : ∃ x, x2.alloc (.cells #[.slice none 0 0, .slice none 0 0, .slice none 0 0, .slice none 0 0, .bool false] 33) = x := ⟨_, rfl⟩
        have HG7 : Aside0 (x3.heap[x2.heap.size]? = some (.cells #[.slice none 0 0, .slice none 0 0, .slice none 0 0, .slice none 0 0, .bool false] 33 (0, 0))) := ⟨by rw [← hx]; exact (MapKept.heap_alloc _ _).1⟩
        have hb : Below x2.heap.size x2 x3 := by rw [← hx]; exact below_alloc (Below.refl _ _) _
        rw [hx]
        clear hx
        have HS3 := Aside0.mk hb
        have HB3 : Aside0 (Below w3.heap.size w3 x3) := ⟨below_then HB2_.out HB2_.out.size HS3.out⟩
        have HB3_ := HB3
        have c3_0 : x3.cell? ⟨w1.heap.size, 0, none⟩ = some (.slice Aw (Lang.wordsOf p).length cw) := (hb.cell (p := ⟨w1.heap.size, 0, none⟩) (World.block_lt_of_cell? _ _ c2_0)).trans c2_0
        have c3_1 : x3.cell? ⟨w2.heap.size, 0, none⟩ = some (.map (some b1)) := (hb.cell (p := ⟨w2.heap.size, 0, none⟩) (World.block_lt_of_cell? _ _ c2_1)).trans c2_1
        have c3_2 : x3.cell? ⟨w2.heap.size, 1, none⟩ = some (.map (some b2)) := (hb.cell (p := ⟨w2.heap.size, 1, none⟩) (World.block_lt_of_cell? _ _ c2_2)).trans c2_2
        have c3_3 : x3.cell? ⟨w2.heap.size, 2, none⟩ = some (.bool en) := (hb.cell (p := ⟨w2.heap.size, 2, none⟩) (World.block_lt_of_cell? _ _ c2_3)).trans c2_3
        clear hb
        refine hK.out _ _ ⟨c3_0, c3_1, c3_2, c3_3⟩ (fun hHeld => ?_)
        clear hK K
        refine norm_ (a' := ?_) ?_ ?_
        rotate_left
        · show Act.put _ (some 7) _ = _
          simp only [Act.put, List.setIfInBounds_toArray, List.set_cons_zero, List.set_cons_succ, i64_w, i32_w]
          rfl
        exact norm_ (by simp only [putAll, Act.put, List.setIfInBounds_toArray, List.set_cons_zero, List.set_cons_succ]) (hCont ((A33, l33.length, c33), (A36, l36.length, c36), x2.heap.size) _ ⟨l33, l36, rfl, rfl, ((HR33.out.below HS2.out).below HS3.out), (HR36.out.below HS3.out), HG7.out, (by have := HB2_.out.size; exact this), HB3.out⟩)
      · skip
        refine value_ (w1 := ?_) (v := ?_) (by rfl) rfl ?_ ?_
        rotate_left 2
        · go_simp
          constructor
          · rfl
          · rfl
        obtain ⟨x2, hx⟩ : ∃ x, x1.alloc (.cells #[.slice none 0 0, .slice none 0 0, .slice none 0 0, .slice none 0 0, .bool false] 33) = x := ⟨_, rfl⟩
        have HG7 : Aside0 (x2.heap[x1.heap.size]? = some (.cells #[.slice none 0 0, .slice none 0 0, .slice none 0 0, .slice none 0 0, .bool false] 33 (0, 0))) := ⟨by rw [← hx]; exact (MapKept.heap_alloc _ _).1⟩
        have hb : Below x1.heap.size x1 x2 := by rw [← hx]; exact below_alloc (Below.refl _ _) _
        rw [hx]
        clear hx
        have HS2 := Aside0.mk hb
        have HB2 : Aside0 (Below w3.heap.size w3 x2) := ⟨below_then HB1_.out HB1_.out.size HS2.out⟩
        have HB2_ := HB2
        have c2_0 : x2.cell? ⟨w1.heap.size, 0, none⟩ = some (.slice Aw (Lang.wordsOf p).length cw) := (hb.cell (p := ⟨w1.heap.size, 0, none⟩) (World.block_lt_of_cell? _ _ c1_0)).trans c1_0
        have c2_1 : x2.cell? ⟨w2.heap.size, 0, none⟩ = some (.map (some b1)) := (hb.cell (p := ⟨w2.heap.size, 0, none⟩) (World.block_lt_of_cell? _ _ c1_1)).trans c1_1
        have c2_2 : x2.cell? ⟨w2.heap.size, 1, none⟩ = some (.map (some b2)) := (hb.cell (p := ⟨w2.heap.size, 1, none⟩) (World.block_lt_of_cell? _ _ c1_2)).trans c1_2
        have c2_3 : x2.cell? ⟨w2.heap.size, 2, none⟩ = some (.bool en) := (hb.cell (p := ⟨w2.heap.size, 2, none⟩) (World.block_lt_of_cell? _ _ c1_3)).trans c1_3
        clear hb
        refine hK.out _ _ ⟨c2_0, c2_1, c2_2, c2_3⟩ (fun hHeld => ?_)
        clear hK K
        refine norm_ (a' := ?_) ?_ ?_
        rotate_left
        · show Act.put _ (some 7) _ = _
          simp only [Act.put, List.setIfInBounds_toArray, List.set_cons_zero, List.set_cons_succ, i64_w, i32_w]
          rfl
        refine one_ (i := 9) (N := some 36) #[true, true, true, true, true, true, true, true, true, true, true, true, false, true, false] rfl rfl (by kernel_rfl) (by decide) (fun K hK => ?_)
        have HC36 := Aside0.mk (Try.SetP.list (w := x2) (HL3.out.keep (.below HB2_.out)) ((Lang.wordsOf p).length : Int) (fun x hx => by have := Lang.last_range p 0 x hx; rw [Lang.wordsOf_length]; omega))
        refine goes_ Try.func20 (by kernel_rfl) rfl #[.map (some b2)] (by rfl) rfl rfl (by simp only [List.map_toArray, List.map_cons, List.map_nil]; rfl) ?_
        with_reducible refine (HC36.out).mono ?_
        rintro e x3 ⟨v, l36, rfl, hr, hb⟩
        have HR36 := Aside0.mk hr
        obtain ⟨A36, c36, rfl, _, _, _⟩ := hr.ex
        clear hr
        refine ⟨_, rfl, ?_⟩
        have HS3 := Aside0.mk hb
        have HB3 : Aside0 (Below w3.heap.size w3 x3) := ⟨below_then HB2_.out HB2_.out.size HS3.out⟩
        have HB3_ := HB3
        have c3_0 : x3.cell? ⟨w1.heap.size, 0, none⟩ = some (.slice Aw (Lang.wordsOf p).length cw) := (hb.cell (p := ⟨w1.heap.size, 0, none⟩) (World.block_lt_of_cell? _ _ c2_0)).trans c2_0
        have c3_1 : x3.cell? ⟨w2.heap.size, 0, none⟩ = some (.map (some b1)) := (hb.cell (p := ⟨w2.heap.size, 0, none⟩) (World.block_lt_of_cell? _ _ c2_1)).trans c2_1
        have c3_2 : x3.cell? ⟨w2.heap.size, 1, none⟩ = some (.map (some b2)) := (hb.cell (p := ⟨w2.heap.size, 1, none⟩) (World.block_lt_of_cell? _ _ c2_2)).trans c2_2
        have c3_3 : x3.cell? ⟨w2.heap.size, 2, none⟩ = some (.bool en) := (hb.cell (p := ⟨w2.heap.size, 2, none⟩) (World.block_lt_of_cell? _ _ c2_3)).trans c2_3
        clear hb
        refine hK.out _ _ ⟨c3_0, c3_1, c3_2, c3_3⟩ (fun hHeld => ?_)
        clear hK K
        refine norm_ (a' := ?_) ?_ ?_
        rotate_left
        · show Act.put _ (some 36) _ = _
          simp only [Act.put, List.setIfInBounds_toArray, List.set_cons_zero, List.set_cons_succ, i64_w, i32_w]
          rfl
        refine pure_ (i := 12) (N := some 39) (v := ?_) (a' := ?_) #[true, true, true, true, true, true, true, true, true, true, true, true, true, true, false] rfl rfl (by kernel_rfl) (fun _ _ _ h => h) (Or.inl ⟨by rfl, ?_⟩) ?_ ?_
        rotate_left
        · intro w'
          go_simp
          with_reducible rfl
        rotate_left
        · simp only [Act.put, List.setIfInBounds_toArray, List.set_cons_zero, List.set_cons_succ, i64_w, i32_w]
          rfl
        exact norm_ (by simp only [putAll, Act.put, List.setIfInBounds_toArray, List.set_cons_zero, List.set_cons_succ]) (hCont ((A33, l33.length, c33), (A36, l36.length, c36), x1.heap.size) _ ⟨l33, l36, rfl, rfl, ((HR33.out.below HS2.out).below HS3.out), HR36.out, (Try.blk_then HS3.out HG7.out), (by have := HB1_.out.size; exact this), HB3.out⟩)
    · skip
      refine value_ (w1 := ?_) (v := ?_) (by rfl) rfl ?_ ?_
      rotate_left 2
      · go_simp
        constructor
        · rfl
        · rfl
      obtain ⟨x1, hx⟩ : ∃ x, (w3.alloc (.cells #[.slice none 0 0, .slice none 0 0, .slice none 0 0, .slice none 0 0, .bool false] 33)).drew = x := ⟨_, rfl⟩
      have HG7 : Aside0 (x1.heap[w3.heap.size]? = some (.cells #[.slice none 0 0, .slice none 0 0, .slice none 0 0, .slice none 0 0, .bool false] 33 (0, 0))) := ⟨by rw [← hx]; exact (MapKept.heap_alloc w3 _).1⟩
      have hb : Below w3.heap.size w3 x1 := by rw [← hx]; exact below_drew1 (below_alloc (Below.refl _ _) _)
      rw [hx]
      clear hx
      have HS1 := Aside0.mk hb
      have HB1 : Aside0 (Below w3.heap.size w3 x1) := HS1
      have HB1_ := HB1
      have c1_0 : x1.cell? ⟨w1.heap.size, 0, none⟩ = some (.slice Aw (Lang.wordsOf p).length cw) := (hb.cell (p := ⟨w1.heap.size, 0, none⟩) (World.block_lt_of_cell? _ _ c0_0)).trans c0_0
      have c1_1 : x1.cell? ⟨w2.heap.size, 0, none⟩ = some (.map (some b1)) := (hb.cell (p := ⟨w2.heap.size, 0, none⟩) (World.block_lt_of_cell? _ _ c0_1)).trans c0_1
      have c1_2 : x1.cell? ⟨w2.heap.size, 1, none⟩ = some (.map (some b2)) := (hb.cell (p := ⟨w2.heap.size, 1, none⟩) (World.block_lt_of_cell? _ _ c0_2)).trans c0_2
      have c1_3 : x1.cell? ⟨w2.heap.size, 2, none⟩ = some (.bool en) := (hb.cell (p := ⟨w2.heap.size, 2, none⟩) (World.block_lt_of_cell? _ _ c0_3)).trans c0_3
      clear hb
      refine hK.out _ _ ⟨c1_0, c1_1, c1_2, c1_3⟩ (fun hHeld => ?_)
      clear hK K
      refine norm_ (a' := ?_) ?_ ?_
      rotate_left
      · show Act.put _ (some 7) _ = _
        simp only [Act.put, List.setIfInBounds_toArray, List.set_cons_zero, List.set_cons_succ, i64_w, i32_w]
        rfl
      refine one_ (i := 6) (N := some 33) #[true, true, true, true, true, true, true, true, true, false, true, true, false, true, false] rfl rfl (by kernel_rfl) (by decide) (fun K hK => ?_)
      have HC33 := Aside0.mk (Try.SetP.list (w := x1) (HF3.out.keep (.below HB1_.out)) ((Lang.wordsOf p).length : Int) (fun x hx => by have := Lang.first_range p 0 x hx; rw [Lang.wordsOf_length]; omega))
      refine goes_ Try.func20 (by kernel_rfl) rfl #[.map (some b1)] (by rfl) rfl rfl (by simp only [List.map_toArray, List.map_cons, List.map_nil]; rfl) ?_
      with_reducible refine (HC33.out).mono ?_
      rintro e x2 ⟨v, l33, rfl, hr, hb⟩
      have HR33 := Aside0.mk hr
      obtain ⟨A33, c33, rfl, _, _, _⟩ := hr.ex
      clear hr
      refine ⟨_, rfl, ?_⟩
      have HS2 := Aside0.mk hb
      have HB2 : Aside0 (Below w3.heap.size w3 x2) := ⟨below_then HB1_.out HB1_.out.size HS2.out⟩
      have HB2_ := HB2
      have c2_0 : x2.cell? ⟨w1.heap.size, 0, none⟩ = some (.slice Aw (Lang.wordsOf p).length cw) := (hb.cell (p := ⟨w1.heap.size, 0, none⟩) (World.block_lt_of_cell? _ _ c1_0)).trans c1_0
      have c2_1 : x2.cell? ⟨w2.heap.size, 0, none⟩ = some (.map (some b1)) := (hb.cell (p := ⟨w2.heap.size, 0, none⟩) (World.block_lt_of_cell? _ _ c1_1)).trans c1_1
      have c2_2 : x2.cell? ⟨w2.heap.size, 1, none⟩ = some (.map (some b2)) := (hb.cell (p := ⟨w2.heap.size, 1, none⟩) (World.block_lt_of_cell? _ _ c1_2)).trans c1_2
      have c2_3 : x2.cell? ⟨w2.heap.size, 2, none⟩ = some (.bool en) := (hb.cell (p := ⟨w2.heap.size, 2, none⟩) (World.block_lt_of_cell? _ _ c1_3)).trans c1_3
      clear hb
      refine hK.out _ _ ⟨c2_0, c2_1, c2_2, c2_3⟩ (fun hHeld => ?_)
      clear hK K
      refine norm_ (a' := ?_) ?_ ?_
      rotate_left
      · show Act.put _ (some 33) _ = _
        simp only [Act.put, List.setIfInBounds_toArray, List.set_cons_zero, List.set_cons_succ, i64_w, i32_w]
        rfl
      refine one_ (i := 9) (N := some 36) #[true, true, true, true, true, true, true, true, true, true, true, true, false, true, false] rfl rfl (by kernel_rfl) (by decide) (fun K hK => ?_)
      have HC36 := Aside0.mk (Try.SetP.list (w := x2) (HL3.out.keep (.below HB2_.out)) ((Lang.wordsOf p).length : Int) (fun x hx => by have := Lang.last_range p 0 x hx; rw [Lang.wordsOf_length]; omega))
      refine goes_ Try.func20 (by kernel_rfl) rfl #[.map (some b2)] (by rfl) rfl rfl (by simp only [List.map_toArray, List.map_cons, List.map_nil]; rfl) ?_
      with_reducible refine (HC36.out).mono ?_
      rintro e x3 ⟨v, l36, rfl, hr, hb⟩
      have HR36 := Aside0.mk hr
      obtain ⟨A36, c36, rfl, _, _, _⟩ := hr.ex
      clear hr
      refine ⟨_, rfl, ?_⟩
      have HS3 := Aside0.mk hb
      have HB3 : Aside0 (Below w3.heap.size w3 x3) := ⟨below_then HB2_.out HB2_.out.size HS3.out⟩
      have HB3_ := HB3
      have c3_0 : x3.cell? ⟨w1.heap.size, 0, none⟩ = some (.slice Aw (Lang.wordsOf p).length cw) := (hb.cell (p := ⟨w1.heap.size, 0, none⟩) (World.block_lt_of_cell? _ _ c2_0)).trans c2_0
      have c3_1 : x3.cell? ⟨w2.heap.size, 0, none⟩ = some (.map (some b1)) := (hb.cell (p := ⟨w2.heap.size, 0, none⟩) (World.block_lt_of_cell? _ _ c2_1)).trans c2_1
      have c3_2 : x3.cell? ⟨w2.heap.size, 1, none⟩ = some (.map (some b2)) := (hb.cell (p := ⟨w2.heap.size, 1, none⟩) (World.block_lt_of_cell? _ _ c2_2)).trans c2_2
      have c3_3 : x3.cell? ⟨w2.heap.size, 2, none⟩ = some (.bool en) := (hb.cell (p := ⟨w2.heap.size, 2, none⟩) (World.block_lt_of_cell? _ _ c2_3)).trans c2_3
      clear hb
      refine hK.out _ _ ⟨c3_0, c3_1, c3_2, c3_3⟩ (fun hHeld => ?_)
      clear hK K
      refine norm_ (a' := ?_) ?_ ?_
      rotate_left
      · show Act.put _ (some 36) _ = _
        simp only [Act.put, List.setIfInBounds_toArray, List.set_cons_zero, List.set_cons_succ, i64_w, i32_w]
        rfl
      refine pure_ (i := 12) (N := some 39) (v := ?_) (a' := ?_) #[true, true, true, true, true, true, true, true, true, true, true, true, true, true, false] rfl rfl (by kernel_rfl) (fun _ _ _ h => h) (Or.inl ⟨by rfl, ?_⟩) ?_ ?_
      rotate_left
      · intro w'
        go_simp
        with_reducible rfl
      rotate_left
      · simp only [Act.put, List.setIfInBounds_toArray, List.set_cons_zero, List.set_cons_succ, i64_w, i32_w]
        rfl
      exact norm_ (by simp only [putAll, Act.put, List.setIfInBounds_toArray, List.set_cons_zero, List.set_cons_succ]) (hCont ((A33, l33.length, c33), (A36, l36.length, c36), w3.heap.size) _ ⟨l33, l36, rfl, rfl, (HR33.out.below HS3.out), HR36.out, (Try.blk_then HS3.out (Try.blk_then HS2.out HG7.out)), (by have := HB0_.out.size; exact this), HB3.out⟩)
  rintro ⟨⟨A1, n1, c1⟩, ⟨A2, n2, c2⟩, g7⟩ V ⟨l1, l2, rfl, rfl, hr1, hr2, hg7, hlo7, hbV⟩
  have v0 : V.cell? ⟨w1.heap.size, 0, none⟩ = some (.slice Aw (Lang.wordsOf p).length cw) := (hbV.cell (p := ⟨w1.heap.size, 0, none⟩) (World.block_lt_of_cell? _ _ c0_0)).trans c0_0
  have v1 : V.cell? ⟨w2.heap.size, 0, none⟩ = some (.map (some b1)) := (hbV.cell (p := ⟨w2.heap.size, 0, none⟩) (World.block_lt_of_cell? _ _ c0_1)).trans c0_1
  have v2 : V.cell? ⟨w2.heap.size, 1, none⟩ = some (.map (some b2)) := (hbV.cell (p := ⟨w2.heap.size, 1, none⟩) (World.block_lt_of_cell? _ _ c0_2)).trans c0_2
  have v3 : V.cell? ⟨w2.heap.size, 2, none⟩ = some (.bool en) := (hbV.cell (p := ⟨w2.heap.size, 2, none⟩) (World.block_lt_of_cell? _ _ c0_3)).trans c0_3
  have hHeld := And.intro v0 (And.intro v1 (And.intro v2 v3))
  have HR1 := Aside0.mk hr1
  have HR2 := Aside0.mk hr2
  have HG7 := Aside0.mk hg7
  have HLO7 := Aside0.mk hlo7
  have HBV := Aside0.mk hbV
  have g0 := (blk_cell hg7 0).trans (show _ = some (Value.slice none 0 0) from rfl)
  have z0 := blk_frozen hg7 0
  have g1 := (blk_cell hg7 1).trans (show _ = some (Value.slice none 0 0) from rfl)
  have z1 := blk_frozen hg7 1
  have g2 := (blk_cell hg7 2).trans (show _ = some (Value.slice none 0 0) from rfl)
  have z2 := blk_frozen hg7 2
  have g3 := (blk_cell hg7 3).trans (show _ = some (Value.slice none 0 0) from rfl)
  have z3 := blk_frozen hg7 3
  have g4 := (blk_cell hg7 4).trans (show _ = some (Value.bool false) from rfl)
  have z4 := blk_frozen hg7 4
  clear hr1 hr2 hg7 hlo7 hbV
  refine norm_ (a' := ?_) ?_ ?_
  rotate_left
  · simp only [putAll, Act.put, List.setIfInBounds_toArray, List.set_cons_zero, List.set_cons_succ]
    rfl
  refine last_ (i := 14) (N := none) #[true, true, true, true, true, true, true, true, true, true, true, true, true, true, true] rfl rfl (by kernel_rfl) (by decide) (fun K hK => ?_)
  refine skip_ (w1 := ?_) (by rfl) rfl ?_ ?_
  rotate_left
  · go_simp
    rfl
  refine hK.out _ _ ?_
  clear hK K
  refine done_ (by kernel_rfl) ?_
  have HLO7 : Aside0 (w3.heap.size ≤ g7) := ⟨HLO7.out⟩
  have HG7 : Aside0 (V.heap[g7]? = some (.cells #[.slice none 0 0, .slice none 0 0, .slice none 0 0, .slice none 0 0, .bool false] 33 (0, 0))) := ⟨HG7.out⟩
  obtain ⟨U, hU⟩ : ∃ U, ((((V.setCell ⟨g7, 0, none⟩ (.slice Aw (Lang.wordsOf p).length cw)).setCell ⟨g7, 1, none⟩ (.slice A1 l1.length c1)).setCell ⟨g7, 2, none⟩ (.slice A2 l2.length c2)).setCell ⟨g7, 3, none⟩ (.slice none 0 0)).setCell ⟨g7, 4, none⟩ (.bool en) = U := ⟨_, rfl⟩
  obtain ⟨hgU, hboxU⟩ := Try.fiveSet HG7.out hU
  rw [hU]
  have HGU := Aside0.mk hboxU
  have hg3 := HBV.out
  have HR1U := Aside0.mk (HR1.out.cells hgU HG7.out (by decide))
  have HR2U := Aside0.mk (HR2.out.cells hgU HG7.out (by decide))
  have hne7 : ∀ g, g < w3.heap.size → some g ≠ some g7 := fun g hg e => by have := HLO7.out; cases e; omega
  have HBOXU : Aside0 (U.heap[w1.heap.size]? = some (.cells #[.slice Aw (Lang.wordsOf p).length cw, .slice Af fs.length cf] 57 (0, 0))) := ⟨blk_grown (Try.blk_then hg3 HBOX.out) hgU (hne7 _ (blk_lt HBOX.out))⟩
  have hvw5 := Try.own_later HVW.out hg3
  have hvf5 := Try.own_later HVF.out hg3
  have HVWU := Aside0.mk (hvw5.kept hgU (.inr (Try.own_ne hvw5 HG7.out (by decide)).symm))
  have HVFU := Aside0.mk (hvf5.kept hgU (.inr (Try.own_ne hvf5 HG7.out (by decide)).symm))
  have HFSU : Aside0 (∀ (i : Nat) (b : Nat), fs[i]? = some b → Try.SetP U b (Lang.fol p 0 i)) := ⟨fun i b h => (((HFS.out i b h).keep (.below hg3)).cells hgU HG7.out).iff (fun x => by simp)⟩
  have HRESU : Aside0 (U.heap[w.heap.size + 1]? = some (.cells #[.slice none 0 0, .slice none 0 0, .slice none 0 0, .slice none 0 0, .bool false] 33 (0, 0))) := ⟨blk_grown (Try.blk_then hg3 HRES3.out) hgU (hne7 _ (blk_lt HRES3.out))⟩
  have hw3 : w.heap.size ≤ w3.heap.size := HM3.out.below.size
  have HBU : Aside0 (Below w.heap.size w U) := ⟨(below_then HM3.out.below hw3 hg3).grown hgU (below_then HM3.out.below hw3 hg3).size (fun k e => by cases e; have := HLO7.out; omega)⟩
  have m1 := (blk_cell HBOXU.out 1).trans (show _ = some (Value.slice Af fs.length cf) from rfl)
  have H7W : Aside0 (w.heap.size + 1 < g7) := ⟨by have := blk_lt HRES3.out; have := HLO7.out; omega⟩
  have H7U := Aside0.mk (blk_lt hboxU)
  have hfl24 : fs.length ≤ 24 := by rw [HFL.out]; simpa using hws
  have hfl : fs.length = (Lang.wordsOf p).length := by rw [HFL.out]; simp
  have HFLN := Aside0.mk hfl
  obtain ⟨i30, hi30, hz0, hz1, hz2⟩ := info_parts Try.info30
  clear hU hgU hboxU hg3 hne7 hvw5 hvf5 c0_0 c0_1 c0_2 c0_3 g0 g1 g2 g3 g4 z0 z1 z2 z3 z4 v0 v1 v2 v3 hHeld HM3 HF3 HL3 HX3 HRES3 HBOX HVW HVF HFS HR1 HR2 HG7 HBV HB0_ hfl
  go_wp2_with fail
  go_loopg [45] fs.length (fun kq v45 W => ∃ (i : Nat) (A3 : Option Addr) (c3 : Nat) (fl : List (List Int)) (vals : List Value), v45 = .int .i64 (i : Int) ∧ i + kq = fs.length ∧ Aside0 (fl.length = i) ∧ Aside0 (U.grownBy W (some g7)) ∧ Aside0 (W.heap[g7]? = some (.cells #[.slice Aw (Lang.wordsOf p).length cw, .slice A1 l1.length c1, .slice A2 l2.length c2, .slice A3 i c3, .bool en] 33 (0, 0))) ∧ Aside0 (W.ownsRow U.heap.size 30 1 (.slice A3 i c3) i vals) ∧ Aside0 (∀ (j : Nat) l, fl[j]? = some l → ∃ v, vals[j]? = some v ∧ Try.RowIs W v l ((Lang.wordsOf p).length : Int) (Lang.fol p 0 j)))
  case atStart => exact ⟨0, none, 0, [], [], rfl, by omega, ⟨rfl⟩, ⟨World.grownBy.refl U _⟩, HGU, ⟨World.ownsRow_nil _ _ _ _⟩, ⟨fun j l h => by simp at h⟩⟩
  case round =>
    clear m1
    obtain ⟨i, A3, c3, fl, vals, rfl, hik, HFLL, HG, HBX, HOW, HRW⟩ := hrel
    have HIK := Aside0.mk hik
    by_cases hlt : i < fs.length
    · have hvfr := HVFU.out.kept HG.out (.inr (Try.own_ne HVFU.out HGU.out (by decide)).symm)
      obtain ⟨gf, rfl⟩ : ∃ gf, Af = some ⟨gf, 0, none⟩ := by
        rcases hvfr.2 with ⟨_, h0⟩ | ⟨g, cap, cur, e, _⟩
        · omega
        · cases e; exact ⟨g, rfl⟩
      obtain ⟨bk, hbk⟩ : ∃ bk, fs[i]? = some bk := ⟨_, List.getElem?_eq_getElem hlt⟩
      have q2 : wr.cell? ⟨gf, i, none⟩ = some (.map (some bk)) := by
        rw [hvfr.cellAt i (by omega), List.getElem?_map, hbk]; rfl
      have hS := (HFSU.out i bk hbk).cells HG.out HGU.out
      have HC := Aside0.mk (Try.SetP.list (w := wr.drew) hS ((Lang.wordsOf p).length : Int) (fun x hx => by have := (Lang.fol_range p 0 i x hx).2; rw [Lang.wordsOf_length]; omega))
      have hle : i ≤ 9223372036854775806 := by omega
      have g3 := (blk_cell HBX.out 3).trans (show _ = some (Value.slice A3 i c3) from rfl)
      have HB0 := Aside0.mk (below_drew1 (Below.refl wr.heap.size wr))
      have HNE := Aside0.mk (Try.own_ne HOW.out HBX.out (by decide))
      have hUr : U.heap.size ≤ wr.heap.size := HG.out.size
      have hi24 : i + 1 ≤ 24 := by omega
      clear hvfr hbk hS hik
      go_upto_region 10 with fail
      refine start_ (n := 8) (S := fun w' => w'.cell? ⟨g7, 3, none⟩ = some (.slice A3 i c3)) (ds := [7]) #[false, false, false, false, false, false, false, false] (by kernel_rfl) rfl rfl ((by go_simp)) (fun hHeld => ?_)
      refine pure_ (i := 0) (N := some 49) (v := ?_) (a' := ?_) #[true, false, false, false, false, false, false, false] rfl rfl (by kernel_rfl) (fun _ _ _ h => h) (Or.inl ⟨by rfl, ?_⟩) ?_ ?_
      rotate_left
      · intro w'
        go_simp
        with_reducible rfl
      rotate_left
      · simp only [Act.put, List.setIfInBounds_toArray, List.set_cons_zero, List.set_cons_succ, i64_w, i32_w]
        rfl
      refine pure_ (i := 2) (N := some 51) (v := ?_) (a' := ?_) #[true, false, true, false, false, false, false, false] rfl rfl (by kernel_rfl) (fun _ _ _ h => h) (Or.inl ⟨by rfl, ?_⟩) ?_ ?_
      rotate_left
      · intro w'
        go_simp
        with_reducible rfl
      rotate_left
      · simp only [Act.put, List.setIfInBounds_toArray, List.set_cons_zero, List.set_cons_succ, i64_w, i32_w]
        rfl
      refine take_ (i := 1) (N := some 50) (v := ?_) (a' := ?_) #[true, true, true, false, false, false, false, false] rfl rfl (by kernel_rfl) (fun _ _ _ h => h) (Or.inl ⟨by rfl, ?_⟩) hHeld ?_ ?_
      rotate_left
      · intro w' s0
        go_simp
        with_reducible rfl
      rotate_left
      · simp only [Act.put, List.setIfInBounds_toArray, List.set_cons_zero, List.set_cons_succ, i64_w, i32_w]
        rfl
      refine one_ (i := 3) (N := some 52) #[true, true, true, true, false, false, false, false] rfl rfl (by kernel_rfl) (by decide) (fun K hK => ?_)
      refine goes_ Try.func20 (by kernel_rfl) rfl #[.map (some bk)] (by rfl) rfl rfl (by simp only [List.map_toArray, List.map_cons, List.map_nil]; rfl) ?_
      with_reducible refine (HC.out).mono ?_
      rintro e x1 ⟨v, l, rfl, hr, hb⟩
      have HR := Aside0.mk hr
      obtain ⟨A4, c4, rfl, _, _, _⟩ := hr.ex
      refine ⟨_, rfl, ?_⟩
      have HBX1 : Aside0 (Below wr.heap.size wr x1) := ⟨below_then HB0.out HB0.out.size hb⟩
      have s3 := (HBX1.out.cell (p := ⟨g7, 3, none⟩) (World.block_lt_of_cell? _ _ g3)).trans g3
      have HOX := Aside0.mk (own_alloc (Try.own_later HOW.out HBX1.out) (.cells #[.slice A4 l.length c4] 30))
      have HBA := Aside0.mk (below_alloc HBX1.out (.cells #[.slice A4 l.length c4] 30))
      have t3 := (HBA.out.cell (p := ⟨g7, 3, none⟩) (World.block_lt_of_cell? _ _ g3)).trans g3
      have HNEWS := Aside0.mk (World.news_of_block (MapKept.heap_alloc x1 (.cells #[.slice A4 l.length c4] 30)).1)
      have hUx : U.heap.size ≤ x1.heap.size := Nat.le_trans hUr HBX1.out.size
      clear hr hb
      refine hK.out _ _ (s3) (fun hHeld => ?_)
      clear hK K
      refine norm_ (a' := ?_) ?_ ?_
      rotate_left
      · show Act.put _ (some 52) _ = _
        simp only [Act.put, List.setIfInBounds_toArray, List.set_cons_zero, List.set_cons_succ, i64_w, i32_w]
        rfl
      refine one_ (i := 4) (N := some 53) #[true, true, true, true, true, false, false, false] rfl rfl (by kernel_rfl) (by decide) (fun K hK => ?_)
      refine value_ (w1 := ?_) (v := ?_) (by rfl) rfl ?_ ?_
      rotate_left 2
      · go_simp
        constructor
        · rfl
        · rfl
      refine hK.out _ _ (t3) (fun hHeld => ?_)
      clear hK K
      refine norm_ (a' := ?_) ?_ ?_
      rotate_left
      · show Act.put _ (some 53) _ = _
        simp only [Act.put, List.setIfInBounds_toArray, List.set_cons_zero, List.set_cons_succ, i64_w, i32_w]
        rfl
      refine one_ (i := 5) (N := some 54) #[true, true, true, true, true, true, false, false] rfl rfl (by kernel_rfl) (by decide) (fun K hK => ?_)
      refine step_append_lies _ rfl _ _ _ (by rfl) U.heap.size 30 i30 (.slice none 0 0) 1 24 Try.underlying31 hi30 hz0 hz1 hz2 rfl (by omega) _ i vals (by rfl) HOX.out ⟨x1.heap.size, 0, none⟩ 1 1 [.slice A4 l.length c4] (by rfl) rfl HNEWS.out (by simp [Value.oneCell']) (by omega) (by unfold maxLen; omega) (by omega) (by simp; omega) (x1.heap.size + 1) (by simp) ?_
      intro g8 cap8 w8 hown8 hgrow8 hat8 hlt8
      have hb8 := blk_grown (Try.blk_then HBA.out HBX.out) hgrow8 HNE.out
      have e3 := (blk_cell hb8 3).trans (show _ = some (Value.slice A3 i c3) from rfl)
      have f3 := blk_frozen hb8 3
      have HB8 := Aside0.mk hb8
      have HOWN8 := Aside0.mk hown8
      have HGROW8 := Aside0.mk hgrow8
      clear hb8 hown8 hgrow8 hat8 hlt8
      refine hK.out _ _ (e3) (fun hHeld => ?_)
      clear hK K
      refine norm_ (a' := ?_) ?_ ?_
      rotate_left
      · show Act.put _ (some 54) _ = _
        simp only [Act.put, List.setIfInBounds_toArray, List.set_cons_zero, List.set_cons_succ, i64_w, i32_w]
        rfl
      refine pure_ (i := 6) (N := some 55) (v := ?_) (a' := ?_) #[true, true, true, true, true, true, true, false] rfl rfl (by kernel_rfl) (fun _ _ _ h => h) (Or.inl ⟨by rfl, ?_⟩) ?_ ?_
      rotate_left
      · intro w'
        go_simp
        with_reducible rfl
      rotate_left
      · simp only [Act.put, List.setIfInBounds_toArray, List.set_cons_zero, List.set_cons_succ, i64_w, i32_w]
        rfl
      refine last_ (i := 7) (N := none) #[true, true, true, true, true, true, true, true] rfl rfl (by kernel_rfl) (by decide) (fun K hK => ?_)
      refine skip_ (w1 := ?_) (by rfl) rfl ?_ ?_
      rotate_left
      · go_simp
        rfl
      refine hK.out _ _ ?_
      clear hK K
      refine done_ (by kernel_rfl) ?_
      clear q2 g3 s3 t3 e3 f3 hHeld
      go_wp2_with fail
      go_roundg (gk - 1)
      case measure => have := HIK.out; omega
      case rel =>
        obtain ⟨X, hX⟩ : ∃ X, w8.setCell ⟨g7, 3, none⟩ (.slice (some ⟨g8, 0, none⟩) (i + 1) cap8) = X := ⟨_, rfl⟩
        have hgX : w8.grownBy X (some g7) := by rw [← hX]; exact Try.grown_set _ _ _
        have hbX : X.heap[g7]? = some (.cells #[.slice Aw (Lang.wordsOf p).length cw, .slice A1 l1.length c1, .slice A2 l2.length c2, .slice (some ⟨g8, 0, none⟩) (i + 1) cap8, .bool en] 33 (0, 0)) := by rw [← hX]; exact blk_put HB8.out 3 _ rfl
        rw [hX]
        have hga : wr.grownBy (x1.alloc (.cells #[.slice A4 l.length c4] 30)) (some g7) := ⟨HBA.out.os, HBA.out.tape, HBA.out.output, HBA.out.size, fun j hj _ => HBA.out.block j hj⟩
        have hgU : U.grownBy X (some g7) := ((HG.out.trans hga).andThen HGROW8.out (fun j hj => .inl (Try.own_block HOW.out j hj).1)).trans hgX
        have hmv : ∀ {v l q}, Try.RowIs x1 v l ((Lang.wordsOf p).length : Int) q → Try.RowIs X v l ((Lang.wordsOf p).length : Int) q := fun h => ((h.below (below_alloc (Below.refl _ x1) _)).row HGROW8.out HOX.out (by decide)).cells hgX HB8.out (by decide)
        refine ⟨i + 1, some ⟨g8, 0, none⟩, cap8, fl ++ [l], vals ++ [.slice A4 l.length c4], by go_num, by have := HIK.out; omega, ⟨by rw [List.length_append, HFLL.out]; rfl⟩, ⟨hgU⟩, ⟨hbX⟩, ⟨HOWN8.out.kept hgX (.inr (Try.own_ne HOWN8.out HB8.out (by decide)).symm)⟩, ⟨fun j l' hj => ?_⟩⟩
        have hvl : vals.length = i := by have := HOW.out.1; omega
        rcases Nat.lt_trichotomy j i with h | h | h
        · rw [List.getElem?_append_left (by rw [HFLL.out]; exact h)] at hj
          obtain ⟨v, h1, h2⟩ := HRW.out j l' hj
          exact ⟨v, by rw [List.getElem?_append_left (by omega)]; exact h1, hmv (h2.below HBX1.out)⟩
        · subst h
          rw [List.getElem?_append_right (by rw [HFLL.out]; exact Nat.le_refl _), HFLL.out, Nat.sub_self] at hj
          cases hj
          exact ⟨_, by rw [List.getElem?_append_right (by omega), hvl, Nat.sub_self]; rfl, hmv HR.out⟩
        · rw [List.getElem?_append_right (by rw [HFLL.out]; omega), HFLL.out, List.getElem?_eq_none (by simp; omega)] at hj
          cases hj
    · have e : i = fs.length := by omega
      have HE := Aside0.mk e
      have HRES := Aside0.mk (blk_grown HRESU.out HG.out (fun e => by have := H7W.out; injection e with e; omega))
      have b0 := (blk_cell HBX.out 0).trans (show _ = some (Value.slice Aw (Lang.wordsOf p).length cw) from rfl)
      have b1' := (blk_cell HBX.out 1).trans (show _ = some (Value.slice A1 l1.length c1) from rfl)
      have b2' := (blk_cell HBX.out 2).trans (show _ = some (Value.slice A2 l2.length c2) from rfl)
      have b3 := (blk_cell HBX.out 3).trans (show _ = some (Value.slice A3 i c3) from rfl)
      have b4 := (blk_cell HBX.out 4).trans (show _ = some (Value.bool en) from rfl)
      have r0 := (blk_cell HRES.out 0).trans (show _ = some (Value.slice none 0 0) from rfl)
      have r1 := (blk_cell HRES.out 1).trans (show _ = some (Value.slice none 0 0) from rfl)
      have r2 := (blk_cell HRES.out 2).trans (show _ = some (Value.slice none 0 0) from rfl)
      have r3 := (blk_cell HRES.out 3).trans (show _ = some (Value.slice none 0 0) from rfl)
      have r4 := (blk_cell HRES.out 4).trans (show _ = some (Value.bool false) from rfl)
      have f0 := blk_frozen HRES.out 0
      have f1 := blk_frozen HRES.out 1
      have f2 := blk_frozen HRES.out 2
      have f3 := blk_frozen HRES.out 3
      have f4 := blk_frozen HRES.out 4
      clear hik e
      go_wp2_with fail
      obtain ⟨X, hX⟩ : ∃ X, ((((wr.setCell ⟨w.heap.size + 1, 0, none⟩ (.slice Aw (Lang.wordsOf p).length cw)).setCell ⟨w.heap.size + 1, 1, none⟩ (.slice A1 l1.length c1)).setCell ⟨w.heap.size + 1, 2, none⟩ (.slice A2 l2.length c2)).setCell ⟨w.heap.size + 1, 3, none⟩ (.slice A3 i c3)).setCell ⟨w.heap.size + 1, 4, none⟩ (.bool en) = X := ⟨_, rfl⟩
      obtain ⟨hgX, hbX⟩ := Try.fiveSet HRES.out hX
      rw [hX]
      refine bodyPost_ret (Try.res2 rfl _ _ (w.heap.size + 1) 33 #[.slice Aw (Lang.wordsOf p).length cw, .slice A1 l1.length c1, .slice A2 l2.length c2, .slice A3 i c3, .bool en] (0, 0) _ (.int .i64 0) (by rfl) (by rfl) hbX Try.underlying33 rfl (by kernel_rfl)) rfl ?_
      have hlw : fl.length = (Lang.wordsOf p).length := by rw [HFLL.out, HE.out, HFLN.out]
      have hR1 := ((HR1U.out.cells HG.out HGU.out (by decide)).cells hgX HRES.out (by decide))
      have hR2 := ((HR2U.out.cells HG.out HGU.out (by decide)).cells hgX HRES.out (by decide))
      have hvw1 := HVWU.out.kept HG.out (.inr (Try.own_ne HVWU.out HGU.out (by decide)).symm)
      have hvw2 := hvw1.kept hgX (.inr (Try.own_ne hvw1 HRES.out (by decide)).symm)
      have how2 := HOW.out.kept hgX (.inr (Try.own_ne HOW.out HRES.out (by decide)).symm)
      have hrow : ∀ (j : Nat) l, fl[j]? = some l → ∃ v, vals[j]? = some v ∧ Try.RowIs X v l ((Lang.wordsOf p).length : Int) (Lang.fol p 0 j) := fun j l hj => by
        obtain ⟨v, h1, h2⟩ := HRW.out j l hj
        exact ⟨v, h1, h2.cells hgX HRES.out (by decide)⟩
      have hBX : Below w.heap.size w X := ((HBU.out.grown HG.out HBU.out.size (fun k e => by have := H7W.out; cases e; omega)).grown hgX (HBU.out.grown HG.out HBU.out.size (fun k e => by have := H7W.out; cases e; omega)).size (fun k e => by cases e; omega))
      refine Try.of_end (B := U.heap.size) hlw HEN.out hR1 hR2 (by simpa using hvw2) ?_ hrow hBX
      rw [HFLL.out]
      exact how2
end Go.Proofs

namespace Go.Proofs
open Go.RowKit Go.Shelf Go.Proofs.YtjobnfbianlpnaaW.PrintWords Go.Proofs.YtjobnfbianlpnaaW.PrintLast Go.Proofs.YtjobnfbianlpnaaW.PrintMore Go.Proofs.Ytjobnfbianlpnaa.P
namespace Lang
mutual
def small : Path → Prop
  | ⟨_, w, l⟩ => w.size ≤ 9223372036854775807 ∧ l.length ≤ 9223372036854775807 ∧ smallL l
def smallL : List Path → Prop
  | [] => True
  | p :: l => small p ∧ smallL l
end
theorem smallL_get : ∀ {l : List Path}, smallL l → ∀ q ∈ l, small q
  | [], _, _, h => absurd h (by simp)
  | q :: l, hl, p, h => by
    rw [smallL] at hl
    rcases List.mem_cons.1 h with rfl | h
    · exact hl.1
    · exact smallL_get hl.2 p h
end Lang
theorem Try.wrb {x : Int} (h0 : -9223372036854775808 ≤ x) (h1 : x ≤ 9223372036854775807) : wrap64 x = x := by unfold wrap64; omega
theorem Try.rd_at {l : List Lang.Path} {i : Nat} (hlt : i < l.length) : rd_T24 l (i : Int) = l[i] := by simp [rd_T24, List.getD, List.getElem?_eq_getElem hlt]
theorem Try.is_loop (s : ByteArray) (hs : s.size ≤ 9223372036854775807) : ∀ (m i : Nat), i + m = s.size → ∃ k, sinewref05_Is.l0 k s i = some (((s.data.toList.drop i).all fun c => Lang.goodN c.toNat) && decide (1 ≤ s.size ∧ s.size ≤ 16))
  | 0, i, hi => by
    refine ⟨1, ?_⟩
    have h0 : s.data.toList.drop i = [] := List.drop_eq_nil_of_le (by simp; omega)
    rw [sinewref05_Is.l0, if_neg (by omega), h0]
    by_cases h1 : (s.size : Int) ≥ 1
    · rw [if_pos h1]
      by_cases h2 : (s.size : Int) ≤ 16
      · simp [h2]; omega
      · simp [h2]; omega
    · rw [if_neg h1]
      simp; omega
  | m + 1, i, hi => by
    obtain ⟨k, h⟩ := Try.is_loop s hs m (i + 1) (by omega)
    have hlt : i < s.data.toList.length := by simp; omega
    have hd := List.drop_eq_getElem_cons hlt
    have hb : bt s (i : Int) = ((s.data.toList[i]).toNat : Int) := by
      unfold bt
      rw [dif_pos (by simp; omega)]
      simp [ByteArray.getElem_eq_getElem_data]
    refine ⟨k + 1, ?_⟩
    have hw : wrap64 ((i : Int) + 1) = ((i + 1 : Nat) : Int) := by rw [Try.wrb (by omega) (by omega)]; omega
    rw [sinewref05_Is.l0, if_pos (by omega), if_pos (by omega), hw, h, hd, List.all_cons]
    generalize (List.all (List.drop (i + 1) s.data.toList) fun c => Lang.goodN c.toNat) = R
    rw [hb]
    generalize (s.data.toList[i]).toNat = n
    generalize decide (1 ≤ s.size ∧ s.size ≤ 16) = Z
    have hg : Lang.goodN n = true ∨ Lang.goodN n = false := by cases Lang.goodN n <;> simp
    rcases hg with hg | hg
    · rw [hg]
      simp only [Lang.goodN, Bool.or_eq_true, decide_eq_true_eq] at hg
      repeat' split
      all_goals first
        | rfl
        | (exfalso; omega)
    · rw [hg]
      simp only [Lang.goodN, Bool.or_eq_false_iff, decide_eq_false_iff_not] at hg
      repeat' split
      all_goals first
        | rfl
        | (exfalso; omega)
theorem Try.is_at (s : ByteArray) (hs : s.size ≤ 9223372036854775807) : ∃ k, sinewref05_Is.f k s = some (Lang.isWord s) := by
  obtain ⟨k, h⟩ := Try.is_loop s hs s.size 0 (by omega)
  refine ⟨k, ?_⟩
  have h' : sinewref05_Is.f k s = _ := h
  rw [h']
  simp only [List.drop_zero, Lang.isWord, Bool.and_comm]
def Try.CntAt (p : Lang.Path) : Prop := Lang.small p → ∀ d : Nat, d ≤ 40 → ∃ k r, sinewref09_count.f k p.f0 p.f1 p.f2 (d : Int) = some r ∧ 0 ≤ r ∧ r ≤ 1000 * ((d : Int) + 1)
theorem Try.cnt_loop (kd : Int) (wd : ByteArray) (l : List Lang.Path) (hs : Lang.smallL l) (hl : l.length ≤ 9223372036854775807) (ih : ∀ q ∈ l, Try.CntAt q) (d : Nat) (hd : d + 1 ≤ 40) :
    ∀ (m i : Nat) (x5 : Int), i + m = l.length → 0 ≤ x5 → x5 ≤ 1000 * ((d : Int) + 2) → ∃ k r, sinewref09_count.l0 k ((d + 1 : Nat) : Int) x5 i kd wd l = some r ∧ 0 ≤ r ∧ r ≤ 1000 * ((d : Int) + 2)
  | 0, i, x5, hi, a, b => by
    refine ⟨1, x5, ?_, a, b⟩
    rw [sinewref09_count.l0, if_neg (by omega)]
  | m + 1, i, x5, hi, a, b => by
    by_cases h5 : x5 < 1000
    · have hlt : i < l.length := by omega
      have hq : l[i] ∈ l := List.getElem_mem hlt
      obtain ⟨k1, t, h1, t0, t1⟩ := ih _ hq (Lang.smallL_get hs _ hq) d (by omega)
      obtain ⟨k2, r, h2, r0, r1⟩ := Try.cnt_loop kd wd l hs hl ih d hd m (i + 1) (x5 + t) (by omega) (by omega) (by omega)
      refine ⟨max k1 k2 + 1, r, ?_, r0, r1⟩
      have h1' := Lang.up (g := fun k => sinewref09_count.f k l[i].f0 l[i].f1 l[i].f2 (d : Int)) (fun k => (sinewref09_count.mono_l k).1 _ _ _ _) (Nat.le_max_left k1 k2) h1
      have h2' := Lang.up (g := fun k => sinewref09_count.l0 k ((d + 1 : Nat) : Int) (x5 + t) ((i + 1 : Nat) : Int) kd wd l) (fun k => (sinewref09_count.mono_l k).2 _ _ _ _ _ _) (Nat.le_max_right k1 k2) h2
      have e1 : wrap64 (((d + 1 : Nat) : Int) - 1) = (d : Int) := by rw [Try.wrb (by omega) (by omega)]; omega
      have e2 : wrap64 ((i : Int) + 1) = ((i + 1 : Nat) : Int) := by rw [Try.wrb (by omega) (by omega)]; omega
      have e3 : wrap64 (x5 + t) = x5 + t := Try.wrb (by omega) (by omega)
      rw [sinewref09_count.l0, if_pos (by omega), if_pos h5, if_pos (by omega), Try.rd_at hlt, e1, h1', Option.bind_some, e2, e3]
      exact h2'
    · refine ⟨1, x5, ?_, a, b⟩
      rw [sinewref09_count.l0, if_pos (by omega), if_neg h5]
theorem Try.cnt_of (p : Lang.Path) (ih : ∀ q ∈ p.f2, Try.CntAt q) : Try.CntAt p := by
  obtain ⟨kd, wd, l⟩ := p
  intro hs d hd
  rw [Lang.small] at hs
  rcases d with _ | d
  · exact ⟨1, 1000, by rw [sinewref09_count.f, if_pos (by simp)], by omega, by omega⟩
  · obtain ⟨k, r, h, r0, r1⟩ := Try.cnt_loop kd wd l hs.2.2 hs.2.1 ih d hd l.length 0 1 (by omega) (by omega) (by omega)
    refine ⟨k + 1, r, ?_, r0, by omega⟩
    rw [sinewref09_count.f, if_neg (by omega)]
    exact h
theorem Try.cnt_at (p : Lang.Path) : Try.CntAt p := Try.cnt_of p fun q hq => Try.cnt_at q
termination_by SizeOf.sizeOf p
decreasing_by
  obtain ⟨k, w, l⟩ := p
  have := List.sizeOf_lt_of_mem hq
  simp at this ⊢
  omega
theorem Try.flat_at (p : Lang.Path) (hs : Lang.small p) (a b : S42) : ∃ k r, sinewref09_Flat.f k 0 [] [⟨a, p, b⟩] [] = some r := by
  obtain ⟨k, t, h, _⟩ := Try.cnt_at p hs 40 (by omega)
  have h' := Lang.up (g := fun k => sinewref09_count.f k p.f0 p.f1 p.f2 ((40 : Nat) : Int)) (fun k => (sinewref09_count.mono_l k).1 _ _ _ _) (show k ≤ k + 1 by omega) h
  have e1 : rd_T44 [⟨a, p, b⟩] 0 = ⟨a, p, b⟩ := rfl
  have e2 : wrap64 (0 + 1) = 1 := by unfold wrap64; omega
  have e40 : ((40 : Nat) : Int) = 40 := rfl
  rw [e40] at h'
  refine ⟨k + 2, if t > 400 then false else true, ?_⟩
  rw [sinewref09_Flat.f, sinewref09_Flat.l0, if_pos (by simp), if_neg (by omega), if_pos (by omega), e1, h', Option.bind_some, e2]
  split
  · rfl
  · rw [sinewref09_Flat.l0, if_neg (by simp), if_pos (by simp)]
    simp
end Go.Proofs

namespace Go.Proofs
open Go.RowKit Go.Shelf Go.Proofs.YtjobnfbianlpnaaW.PrintWords Go.Proofs.YtjobnfbianlpnaaW.PrintLast Go.Proofs.YtjobnfbianlpnaaW.PrintMore Go.Proofs.Ytjobnfbianlpnaa.P
theorem Try.nx {i n : Nat} (h : i < n) (hn : n ≤ 9223372036854775807) : wrap64 ((i : Int) + 1) = ((i + 1 : Nat) : Int) := by rw [Try.wrb (by omega) (by omega)]; omega
theorem Try.lem_get {l : List Lang.Path} {i : Nat} (hlt : i < l.length) : l.drop i = l[i] :: l.drop (i + 1) := List.drop_eq_getElem_cons hlt
def Try.ShAt (p : Lang.Path) : Prop := Lang.small p → ∀ d : Nat, d ≤ 12 → ∃ k b, sinewref09_shaped.f k p.f0 p.f1 p.f2 (d : Int) = some b ∧ (b = true → Lang.fitP p d ∧ Lang.places p ≤ 24 ^ d)
theorem Try.sh_loop (kd : Int) (wd : ByteArray) (l : List Lang.Path) (hs : Lang.smallL l) (hl : l.length ≤ 9223372036854775807) (ih : ∀ q ∈ l, Try.ShAt q) (d : Nat) (hd : d + 1 ≤ 12) :
    ∀ (m i : Nat), i + m = l.length → ∃ k b, sinewref09_shaped.l0 k ((d + 1 : Nat) : Int) (l.length : Int) i kd wd l = some b ∧ (b = true → Lang.fitL (l.drop i) d ∧ Lang.placesL (l.drop i) ≤ m * 24 ^ d)
  | 0, i, hi => by
    refine ⟨1, true, ?_, fun _ => ?_⟩
    · rw [sinewref09_shaped.l0, if_neg (by omega)]
    · rw [List.drop_eq_nil_of_le (by omega)]
      exact ⟨trivial, by simp [Lang.placesL]⟩
  | m + 1, i, hi => by
    have hlt : i < l.length := by omega
    have hq : l[i] ∈ l := List.getElem_mem hlt
    obtain ⟨k1, t, h1, ht⟩ := ih _ hq (Lang.smallL_get hs _ hq) d (by omega)
    obtain ⟨k2, b, h2, hb⟩ := Try.sh_loop kd wd l hs hl ih d hd m (i + 1) (by omega)
    have h1' := Lang.up (g := fun k => sinewref09_shaped.f k l[i].f0 l[i].f1 l[i].f2 (d : Int)) (fun k => (sinewref09_shaped.mono_l k).1 _ _ _ _) (Nat.le_max_left k1 k2) h1
    have e1 : wrap64 (((d + 1 : Nat) : Int) - 1) = (d : Int) := by rw [Try.wrb (by omega) (by omega)]; omega
    cases t
    · refine ⟨max k1 k2 + 1, false, ?_, fun h => by cases h⟩
      rw [sinewref09_shaped.l0, if_pos (by omega), if_pos (by omega), if_pos (by omega), Try.rd_at hlt, e1, h1', Option.bind_some, if_neg (by decide)]
    · have h2' := Lang.up (g := fun k => sinewref09_shaped.l0 k ((d + 1 : Nat) : Int) (l.length : Int) ((i + 1 : Nat) : Int) kd wd l) (fun k => (sinewref09_shaped.mono_l k).2.2.2.1 _ _ _ _ _ _) (Nat.le_max_right k1 k2) h2
      refine ⟨max k1 k2 + 1, b, ?_, fun h => ?_⟩
      · rw [sinewref09_shaped.l0, if_pos (by omega), if_pos (by omega), if_pos (by omega), Try.rd_at hlt, e1, h1', Option.bind_some, if_pos rfl, Try.nx hlt hl]
        exact h2'
      · rw [Try.lem_get hlt]
        obtain ⟨h3, h4⟩ := hb h
        obtain ⟨h5, h6⟩ := ht rfl
        exact ⟨⟨h5, h3⟩, by rw [Lang.placesL, Nat.succ_mul]; omega⟩
def Try.PlAt (p : Lang.Path) : Prop := Lang.small p → Lang.places p ≤ 4611686018427387904 → ∃ k, sinewref09_Places.f k p.f0 p.f1 p.f2 = some (Lang.places p : Int)
theorem Try.pl_loop (kd : Int) (wd : ByteArray) (l : List Lang.Path) (hs : Lang.smallL l) (hl : l.length ≤ 9223372036854775807) (hp : Lang.placesL l ≤ 4611686018427387904) (ih : ∀ q ∈ l, Try.PlAt q) :
    ∀ (m i x : Nat), i + m = l.length → x + Lang.placesL (l.drop i) ≤ 4611686018427387904 → ∃ k, sinewref09_Places.l0 k (x : Int) i kd wd l = some ((x + Lang.placesL (l.drop i) : Nat) : Int)
  | 0, i, x, hi, hx => by
    refine ⟨1, ?_⟩
    rw [sinewref09_Places.l0, if_neg (by omega), List.drop_eq_nil_of_le (by omega)]
    simp [Lang.placesL]
  | m + 1, i, x, hi, hx => by
    have hlt : i < l.length := by omega
    have hq : l[i] ∈ l := List.getElem_mem hlt
    rw [Try.lem_get hlt, Lang.placesL] at hx ⊢
    obtain ⟨k1, h1⟩ := ih _ hq (Lang.smallL_get hs _ hq) (by omega)
    obtain ⟨k2, h2⟩ := Try.pl_loop kd wd l hs hl hp ih m (i + 1) (x + Lang.places l[i]) (by omega) (by omega)
    refine ⟨max k1 k2 + 1, ?_⟩
    have h1' := Lang.up (g := fun k => sinewref09_Places.f k l[i].f0 l[i].f1 l[i].f2) (fun k => (sinewref09_Places.mono_l k).1 _ _ _) (Nat.le_max_left k1 k2) h1
    have h2' := Lang.up (g := fun k => sinewref09_Places.l0 k ((x + Lang.places l[i] : Nat) : Int) ((i + 1 : Nat) : Int) kd wd l) (fun k => (sinewref09_Places.mono_l k).2 _ _ _ _ _) (Nat.le_max_right k1 k2) h2
    have e3 : wrap64 ((x : Int) + (Lang.places l[i] : Int)) = ((x + Lang.places l[i] : Nat) : Int) := by rw [Try.wrb (by omega) (by omega)]; omega
    rw [sinewref09_Places.l0, if_pos (by omega), if_pos (by omega), Try.rd_at hlt, h1', Option.bind_some, Try.nx hlt hl, e3]
    refine Eq.trans h2' ?_
    rw [Nat.add_assoc]
theorem Try.pl_of (p : Lang.Path) (ih : ∀ q ∈ p.f2, Try.PlAt q) : Try.PlAt p := by
  obtain ⟨kd, wd, l⟩ := p
  intro hs hp
  rw [Lang.small] at hs
  rw [Lang.places] at hp ⊢
  by_cases hk : kd = 1
  · exact ⟨1, by rw [sinewref09_Places.f, if_pos hk, if_pos hk]; rfl⟩
  · rw [if_neg hk] at hp ⊢
    obtain ⟨k, h⟩ := Try.pl_loop kd wd l hs.2.2 hs.2.1 hp ih l.length 0 0 (by omega) (by simpa using hp)
    refine ⟨k + 1, ?_⟩
    rw [sinewref09_Places.f, if_neg hk]
    simpa using h
theorem Try.pl_at (p : Lang.Path) : Try.PlAt p := Try.pl_of p fun q hq => Try.pl_at q
termination_by SizeOf.sizeOf p
decreasing_by
  obtain ⟨k, w, l⟩ := p
  have := List.sizeOf_lt_of_mem hq
  simp at this ⊢
  omega
theorem Try.sh_j1 (k : Nat) (x1 x5 : Int) (x6 : Bool) (kd : Int) (wd : ByteArray) (l : List Lang.Path) :
    sinewref09_shaped.j1 (k + 2) x1 x5 x6 kd wd l = if x6 = true ∧ wd.toList = [] ∧ ¬ x5 > 24 then sinewref09_shaped.l0 k x1 x5 0 kd wd l else some false := by
  rw [sinewref09_shaped.j1]
  cases x6
  · simp [sinewref09_shaped.j2]
  · by_cases h : wd.toList = []
    · by_cases h2 : x5 > 24
      · simp [h, h2, sinewref09_shaped.j2]
      · simp [h, h2, sinewref09_shaped.j2]
    · simp [h, sinewref09_shaped.j2]
def Try.shc (kd : Int) (n : Nat) : Bool := if kd = 2 ∨ kd = 3 then decide (2 ≤ n) else if kd = 4 ∨ kd = 5 ∨ kd = 6 then decide (n = 1) else false
theorem Try.sh_f (k : Nat) (kd : Int) (wd : ByteArray) (l : List Lang.Path) (a : Int) (hk : kd ≠ 1) :
    sinewref09_shaped.f (k + 4) kd wd l a = if 0 < a ∧ Try.shc kd l.length = true ∧ wd.toList = [] ∧ ¬ (l.length : Int) > 24 then sinewref09_shaped.l0 k a (l.length : Int) 0 kd wd l else some false := by
  rw [sinewref09_shaped.f, if_neg hk]
  have hx : decide (a > 0) = true ∨ decide (a > 0) = false := by cases decide (a > 0) <;> simp
  by_cases h2 : kd = 2
  · subst h2
    rw [if_pos rfl, sinewref09_shaped.j0]
    rcases hx with hx | hx
    · have ha : 0 < a := by simpa using hx
      simp only [hx, Try.sh_j1]
      simp [ha, Try.shc]
      by_cases hc : 2 ≤ l.length
      · have hc' : (2 : Int) ≤ (l.length : Int) := by omega
        simp [hc, hc']
      · simp [hc]; omega
    · have ha : ¬ 0 < a := by simpa using hx
      simp only [hx, Try.sh_j1]
      simp [ha]
  · rw [if_neg h2]
    by_cases h3 : kd = 3
    · subst h3
      rw [sinewref09_shaped.j0]
      rcases hx with hx | hx
      · have ha : 0 < a := by simpa using hx
        simp only [hx, Try.sh_j1]
        simp [ha, Try.shc]
        by_cases hc : 2 ≤ l.length
        · have hc' : (2 : Int) ≤ (l.length : Int) := by omega
          simp [hc, hc']
        · simp [hc]; omega
      · have ha : ¬ 0 < a := by simpa using hx
        simp only [hx, Try.sh_j1]
        simp [ha]
    · have hb : (kd == 3) = false := by simpa using h3
      rw [hb, sinewref09_shaped.j0, if_neg (by decide)]
      by_cases h456 : kd = 4 ∨ kd = 5 ∨ kd = 6
      · have hsc : Try.shc kd l.length = decide (l.length = 1) := by unfold Try.shc; rw [if_neg (by omega), if_pos h456]
        rw [hsc]
        rcases hx with hx | hx
        · have ha : 0 < a := by simpa using hx
          simp only [hx]
          by_cases hc : l.length = 1
          · rcases h456 with rfl | rfl | rfl <;> simp [Try.sh_j1, ha, hc]
          · have hc' : ¬ (l.length : Int) = 1 := by omega
            rcases h456 with rfl | rfl | rfl <;> simp [Try.sh_j1, ha, hc, hc']
        · have ha : ¬ 0 < a := by simpa using hx
          simp only [hx]
          rcases h456 with rfl | rfl | rfl <;> simp [Try.sh_j1, ha]
      · have hsc : Try.shc kd l.length = false := by unfold Try.shc; rw [if_neg (by omega), if_neg h456]
        rw [hsc, if_neg (by omega), if_neg (by omega), if_neg (by omega), if_neg (by simp)]
theorem Try.empty_str {w : ByteArray} (h : w.toList = []) : w = ⟨#[]⟩ := by
  rw [ByteArray.toList_eq] at h
  exact ByteArray.ext (Array.ext' (by simpa using h))
theorem Try.sh_of (p : Lang.Path) (ih : ∀ q ∈ p.f2, Try.ShAt q) : Try.ShAt p := by
  obtain ⟨kd, wd, l⟩ := p
  intro hs d hd
  rw [Lang.small] at hs
  by_cases hk : kd = 1
  · by_cases h0 : (d : Int) > 0
    · by_cases hl : (l.length : Int) = 0
      · obtain ⟨k, h⟩ := Try.is_at wd hs.1
        refine ⟨k + 1, Lang.isWord wd, ?_, fun hb => ?_⟩
        · rw [sinewref09_shaped.f, if_pos hk, if_pos h0, if_pos hl, h]; rfl
        · have hl' : l = [] := List.eq_nil_of_length_eq_zero (by omega)
          subst hl'
          refine ⟨⟨by omega, .inl ⟨hk, rfl, hb⟩, trivial⟩, ?_⟩
          rw [Lang.places, if_pos hk]
          exact Nat.one_le_pow _ _ (by omega)
      · exact ⟨1, false, by rw [sinewref09_shaped.f, if_pos hk, if_pos h0, if_neg hl], fun h => by cases h⟩
    · exact ⟨1, false, by rw [sinewref09_shaped.f, if_pos hk, if_neg h0], fun h => by cases h⟩
  · by_cases hc : 0 < (d : Int) ∧ Try.shc kd l.length = true ∧ wd.toList = [] ∧ ¬ (l.length : Int) > 24
    · obtain ⟨d', rfl⟩ : ∃ d', d = d' + 1 := ⟨d - 1, by omega⟩
      obtain ⟨k, b, h, hb⟩ := Try.sh_loop kd wd l hs.2.2 hs.2.1 ih d' hd l.length 0 (by omega)
      refine ⟨k + 4, b, ?_, fun hbt => ?_⟩
      · rw [Try.sh_f _ _ _ _ _ hk, if_pos hc]; exact h
      · obtain ⟨h1, h2⟩ := hb hbt
        rw [List.drop_zero] at h1 h2
        have hsc := hc.2.1
        have hw := Try.empty_str hc.2.2.1
        refine ⟨⟨by omega, .inr ⟨hw, ?_⟩, h1⟩, ?_⟩
        · unfold Try.shc at hsc
          by_cases h23 : kd = 2 ∨ kd = 3
          · rw [if_pos h23] at hsc
            exact .inl ⟨h23, by simpa using hsc⟩
          · rw [if_neg h23] at hsc
            by_cases h456 : kd = 4 ∨ kd = 5 ∨ kd = 6
            · rw [if_pos h456] at hsc
              exact .inr ⟨h456, by simpa using hsc⟩
            · rw [if_neg h456] at hsc; cases hsc
        · rw [Lang.places, if_neg hk, Nat.pow_succ, Nat.mul_comm]
          have h24 : l.length ≤ 24 := by omega
          exact Nat.le_trans h2 (Nat.mul_le_mul_right _ h24)
    · exact ⟨4, false, by rw [show (4 : Nat) = 0 + 4 from rfl, Try.sh_f _ _ _ _ _ hk, if_neg hc], fun h => by cases h⟩
theorem Try.sh_at (p : Lang.Path) : Try.ShAt p := Try.sh_of p fun q hq => Try.sh_at q
termination_by SizeOf.sizeOf p
decreasing_by
  obtain ⟨k, w, l⟩ := p
  have := List.sizeOf_lt_of_mem hq
  simp at this ⊢
  omega
theorem Try.may_at (p : Lang.Path) (hs : Lang.small p) : ∃ k b, sinewref09_MayPath.f k p.f0 p.f1 p.f2 = some b ∧ (b = true → Lang.fitP p 12 ∧ Lang.places p ≤ 24) := by
  obtain ⟨k1, b, h1, hb⟩ := Try.sh_at p hs 12 (by omega)
  have e12 : ((12 : Nat) : Int) = 12 := rfl
  rw [e12] at h1
  cases b
  · exact ⟨k1, false, by rw [sinewref09_MayPath.f, h1, Option.bind_some, if_neg (by decide)], fun h => by cases h⟩
  · obtain ⟨hf, hp⟩ := hb rfl
    have hp' : Lang.places p ≤ 4611686018427387904 := Nat.le_trans hp (by decide)
    obtain ⟨k2, h2⟩ := Try.pl_at p hs hp'
    have h1' := Lang.up (g := fun k => sinewref09_shaped.f k p.f0 p.f1 p.f2 12) (fun k => (sinewref09_shaped.mono_l k).1 _ _ _ _) (Nat.le_max_left k1 k2) h1
    have h2' := Lang.up (g := fun k => sinewref09_Places.f k p.f0 p.f1 p.f2) (fun k => (sinewref09_Places.mono_l k).1 _ _ _) (Nat.le_max_right k1 k2) h2
    refine ⟨max k1 k2, decide ((Lang.places p : Int) ≤ 24), ?_, fun h => ⟨hf, by have := of_decide_eq_true h; omega⟩⟩
    rw [sinewref09_MayPath.f, h1', Option.bind_some, if_pos rfl, h2', Option.bind_some]
end Go.Proofs

namespace Go.Proofs
open Go.RowKit Go.Shelf Go.Proofs.YtjobnfbianlpnaaW.PrintWords Go.Proofs.YtjobnfbianlpnaaW.PrintLast Go.Proofs.Ytjobnfbianlpnaa.P
theorem Lang.rises_low : ∀ (l : List Int) (p n : Int), Lang.rises p l n = true → ∀ x ∈ l, p < x
  | l, p, n, h, x, hx => (Lang.rises_range l p n h x hx).1
theorem Lang.rises_ext : ∀ (l l' : List Int) (p n p' n' : Int), Lang.rises p l n = true → Lang.rises p' l' n' = true → (∀ x, x ∈ l ↔ x ∈ l') → l = l'
  | [], [], _, _, _, _, _, _, _ => rfl
  | [], y :: l', _, _, _, _, _, _, h => absurd ((h y).2 (by simp)) (by simp)
  | x :: l, [], _, _, _, _, _, _, h => absurd ((h x).1 (by simp)) (by simp)
  | x :: l, y :: l', p, n, p', n', h1, h2, h => by
    rw [Lang.rises] at h1 h2
    have a1 : Lang.rises x l n = true := by
      by_cases c : p < x
      · rw [if_pos c] at h1
        by_cases c2 : x < n
        · rwa [if_pos c2] at h1
        · rw [if_neg c2] at h1; cases h1
      · rw [if_neg c] at h1; cases h1
    have a2 : Lang.rises y l' n' = true := by
      by_cases c : p' < y
      · rw [if_pos c] at h2
        by_cases c2 : y < n'
        · rwa [if_pos c2] at h2
        · rw [if_neg c2] at h2; cases h2
      · rw [if_neg c] at h2; cases h2
    have b1 := Lang.rises_low l x n a1
    have b2 := Lang.rises_low l' y n' a2
    have hxy : x = y := by
      have c1 := (h x).1 (by simp)
      have c2 := (h y).2 (by simp)
      rcases List.mem_cons.1 c1 with e | e
      · exact e
      · rcases List.mem_cons.1 c2 with e2 | e2
        · exact e2.symm
        · have := b1 y e2; have := b2 x e; omega
    subst hxy
    rw [Lang.rises_ext l l' x n x n' a1 a2 (fun z => by
      constructor
      · intro hz
        rcases List.mem_cons.1 ((h z).1 (List.mem_cons_of_mem _ hz)) with e | e
        · have := b1 z hz; omega
        · exact e
      · intro hz
        rcases List.mem_cons.1 ((h z).2 (List.mem_cons_of_mem _ hz)) with e | e
        · have := b2 z hz; omega
        · exact e)]
def Lang.wp : ByteArray := ⟨#[112]⟩
def Lang.wq : ByteArray := ⟨#[113]⟩
def Lang.pathA : Lang.Path := ⟨2, ⟨#[]⟩, [⟨1, Lang.wp, []⟩, ⟨4, ⟨#[]⟩, [⟨1, Lang.wq, []⟩]⟩]⟩
def Lang.autoA : Lang.Auto := ⟨[Lang.wp, Lang.wq], [0], [0, 1], [[1], [1]], false⟩
theorem Lang.autoA_of (a : Lang.Auto) (h : Lang.AutoOf Lang.pathA a) : a = Lang.autoA := by
  obtain ⟨words, first, last, follow, empty⟩ := a
  have hw : words = [Lang.wp, Lang.wq] := h.words.trans (by simp [Lang.pathA, Lang.wordsOf, Lang.wordsL])
  have he : empty = false := h.empty.trans (by simp [Lang.pathA, Lang.nul, Lang.nulA])
  have hf : first = [0] := Lang.rises_ext _ _ _ _ (-1) 2 h.up1 (by decide) (fun x => by rw [h.first]; simp [Lang.pathA, Lang.first, Lang.firstS, Lang.nul])
  have hl : last = [0, 1] := Lang.rises_ext _ _ _ _ (-1) 2 h.up2 (by decide) (fun x => by
    rw [h.last]
    simp [Lang.pathA, Lang.last, Lang.lastS, Lang.lastA, Lang.nulA, Lang.nul, Lang.places]
    omega)
  have hlen : follow.length = 2 := by rw [h.len]; simp [hw]
  obtain ⟨l0, l1, rfl⟩ : ∃ l0 l1, follow = [l0, l1] := by
    rcases follow with _ | ⟨a, _ | ⟨b, _ | ⟨c, r⟩⟩⟩
    · simp at hlen
    · simp at hlen
    · exact ⟨a, b, rfl⟩
    · simp at hlen
  have h0 : l0 = [1] := Lang.rises_ext _ _ _ _ (-1) 2 (h.up3 l0 (by simp)) (by decide) (fun x => by
    rw [h.follow 0 l0 rfl]
    simp [Lang.pathA, Lang.fol, Lang.folS, Lang.folA, Lang.last, Lang.lastS, Lang.lastA, Lang.first, Lang.firstS, Lang.firstA, Lang.nulA, Lang.nul, Lang.places])
  have h1 : l1 = [1] := Lang.rises_ext _ _ _ _ (-1) 2 (h.up3 l1 (by simp)) (by decide) (fun x => by
    rw [h.follow 1 l1 rfl]
    simp [Lang.pathA, Lang.fol, Lang.folS, Lang.folA, Lang.last, Lang.lastS, Lang.lastA, Lang.first, Lang.firstS, Lang.firstA, Lang.nulA, Lang.nul, Lang.places])
  subst hw he hf hl h0 h1
  rfl
theorem Lang.okA : Lang.okP Lang.pathA := by simp [Lang.pathA, Lang.okP, Lang.okL]
theorem Lang.fitA : Lang.fitP Lang.pathA 12 := by
  have h1 : Lang.isWord Lang.wp = true := by decide
  have h2 : Lang.isWord Lang.wq = true := by decide
  simp [Lang.pathA, Lang.fitP, Lang.fitL, h1, h2]
theorem Lang.placesA : Lang.places Lang.pathA ≤ 24 := by simp [Lang.pathA, Lang.places, Lang.placesL]
theorem Lang.accA1 : Lang.accepts Lang.autoA [Lang.wp, Lang.wq, Lang.wq] = true := by decide
theorem Lang.accA2 : Lang.accepts Lang.autoA [Lang.wq] = false := by decide
theorem Lang.endA : Lang.ends Lang.autoA 0 = true := by decide
theorem Try.sameA : sinewref10_Same.f 20 [Lang.wp, Lang.wq] [0] [0, 1] [[1], [1]] false [Lang.wp, Lang.wq] [0] [0, 1] [[1], [1]] false = some true := by kernel_rfl
end Go.Proofs

namespace Go.Proofs
open Go.RowKit Go.Shelf Go.Proofs.YtjobnfbianlpnaaW.PrintWords Go.Proofs.YtjobnfbianlpnaaW.PrintLast Go.Proofs.Ytjobnfbianlpnaa.P
theorem Try.path_res {fn : Func} {p : Tmp} (h : fn.results = #[.cell p 24]) (tmps : Array Value) (w : World) (r : Nat) (cs : Array Value) (hl : cs.size = 3) (hp : tmps.getD p undef = .pointer (some ⟨r, 0, none⟩)) (hg : w.heap[r]? = some (.cells cs 24 (0, 0))) : (results fn tmps).run Try.prog w = .ok (.agg cs) w :=
  results_cell_row h tmps w r 24 cs (0, 0) _ hp hg Try.underlying24 rfl (by rw [hl]; kernel_rfl)
set_option maxHeartbeats 1000000 in
theorem Try.lword_calls (s : ByteArray) (w : World) :
    Calls Try.prog 10 #[.string s] w fun e w' => e = .returned (.agg #[.int .i64 1, .string s, .slice none 0 0]) ∧ Below w.heap.size w w' := by
  go_enter Try.func10, Try.ntmps10
  go_wp2_with fail
  (try simp only [Exit.inBlock, Exit.then])
  refine bodyPost_ret (Try.path_res rfl _ _ w.heap.size #[.int .i64 1, .string s, .slice none 0 0] rfl rfl (MapKept.heap_alloc w _).1) rfl ?_
  exact ⟨rfl, below_alloc (Below.refl w.heap.size w) _⟩
theorem Try.C_one {α : Type} {enc : α → Value} {h1 : ∀ x, (enc x).oneCell' = true} {w : World} {g : Nat} {T : TypeId} {f : Nat × Nat} (xs : List α) {cs : Array Value} (hb : w.heap[g]? = some (.cells cs T f)) (hcs : cs.toList = xs.map enc) (hm : xs.length ≤ 9223372036854775807) : (Kd.scalar enc h1).C w (some ⟨g, 0, none⟩) xs.length xs := by
  refine Try.C_block hb hm (fun j p hp => ⟨[enc p], rfl, rfl, fun i u hu => ?_⟩)
  rcases i with _ | i
  · cases hu
    have : cs[j * 1 + 0]? = cs.toList[j]? := by rw [Nat.mul_one, Nat.add_zero, Array.getElem?_toList]
    show cs[j * 1 + 0]? = _
    rw [this, hcs, List.getElem?_map, hp]
    rfl
  · simp at hu
theorem Try.allocs : ∀ (os : List Obj) (w W : World), os.foldl World.alloc w = W → W.heap.size = w.heap.size + os.length ∧ (∀ i o, os[i]? = some o → W.heap[w.heap.size + i]? = some o) ∧ Below w.heap.size w W
  | [], w, W, h => by subst h; exact ⟨rfl, fun i o h => by simp at h, Below.refl _ _⟩
  | o :: os, w, W, h => by
    obtain ⟨h1, h2, h3⟩ := Try.allocs os (w.alloc o) W h
    have hs : (w.alloc o).heap.size = w.heap.size + 1 := by simp
    rw [hs] at h1 h2
    have hb := below_alloc (Below.refl _ w) o
    refine ⟨by rw [h1, List.length_cons]; omega, fun i o' hi => ?_, below_step hb h3⟩
    rcases i with _ | i
    · cases hi
      exact Try.blk_then h3 (MapKept.heap_alloc w o).1
    · have := h2 i o' (by simpa using hi)
      rw [← this]
      congr 1
      omega
set_option maxHeartbeats 8000000 in
theorem Try.awake_calls (w : World) : Calls Try.prog 9 #[] w fun e w' => e = .returned (.bool true) ∧ Below w.heap.size w w' := by
  go_enter Try.func9, Try.ntmps9
  go_wp2_with fail
  refine (Try.lword_calls Lang.wp w).mono ?_
  rintro e w1 ⟨rfl, hb1⟩
  have HB1 := Aside0.mk hb1
  clear hb1
  go_wp2_with fail
  refine (Try.lword_calls Lang.wq w1).mono ?_
  rintro e w2 ⟨rfl, hb2⟩
  have HB2 := Aside0.mk (below_step HB1.out hb2)
  clear hb2
  obtain ⟨W, hW⟩ : ∃ W, (w2.alloc (.cells #[.int .i64 1, .string Lang.wq, .slice none 0 0] 24)).alloc (.cells #[.int .i64 1, .string Lang.wp, .slice none 0 0, .int .i64 4, .string ⟨#[]⟩, .slice (some ⟨w2.heap.size, 0, none⟩) 1 1] 24) = W := ⟨_, rfl⟩
  obtain ⟨hsz, hk1, hk2, hbW⟩ := Try.two hW
  have hC1 : Kd.C k24 W (some ⟨w2.heap.size, 0, none⟩) 1 [⟨1, Lang.wq, []⟩] := Try.C_block (xs := [(⟨1, Lang.wq, []⟩ : Lang.Path)]) hk1 (by simp) (fun j q hq => by
    rcases j with _ | j
    · cases hq
      refine ⟨_, rfl, k24_mk W ⟨1, Lang.wq, []⟩ (A2 := none) (c2 := 0) (by simp) (Kd.C_nil _ _), fun i u hu => ?_⟩
      rw [Nat.zero_mul, Nat.zero_add, ← Array.getElem?_toList]
      exact hu
    · simp at hq)
  have hC2 : Kd.C k24 W (some ⟨w2.heap.size + 1, 0, none⟩) 2 [⟨1, Lang.wp, []⟩, ⟨4, ⟨#[]⟩, [⟨1, Lang.wq, []⟩]⟩] := Try.C_block (xs := [(⟨1, Lang.wp, []⟩ : Lang.Path), ⟨4, ⟨#[]⟩, [⟨1, Lang.wq, []⟩]⟩]) hk2 (by simp) (fun j q hq => by
    rcases j with _ | _ | j
    · cases hq
      refine ⟨_, rfl, k24_mk W ⟨1, Lang.wp, []⟩ (A2 := none) (c2 := 0) (by simp) (Kd.C_nil _ _), fun i u hu => ?_⟩
      rw [Nat.zero_mul, Nat.zero_add, ← Array.getElem?_toList]
      rcases i with _ | _ | _ | i
      · exact hu
      · exact hu
      · exact hu
      · simp at hu
    · cases hq
      refine ⟨_, rfl, k24_mk W ⟨4, ⟨#[]⟩, [⟨1, Lang.wq, []⟩]⟩ (A2 := some ⟨w2.heap.size, 0, none⟩) (c2 := 1) (by simp) hC1, fun i u hu => ?_⟩
      rw [← Array.getElem?_toList]
      rcases i with _ | _ | _ | i
      · exact hu
      · exact hu
      · exact hu
      · simp at hu
    · simp at hq)
  have hof := Try.of_calls W Lang.pathA Lang.okA Lang.fitA Lang.placesA (some ⟨w2.heap.size + 1, 0, none⟩) 2 hC2 (Nat.le_refl _)
  rw [← hW] at hof
  have HWW := Aside0.mk hW
  have HB := Aside0.mk (below_step HB2.out hbW)
  clear hW hsz hk1 hk2 hbW hC1 hC2
  go_wp2_with fail
  refine hof.mono ?_
  rw [HWW.out]
  rintro e w3 ⟨A0, A1, A2, A3, c0, c1, c2, c3, a, rfl, hin, ha, hb3, hc0⟩
  obtain rfl := Lang.autoA_of a ha
  obtain ⟨W4, hW4⟩ : ∃ W4, [Obj.cells #[.slice A0 Lang.autoA.words.length c0, .slice A1 Lang.autoA.first.length c1, .slice A2 Lang.autoA.last.length c2, .slice A3 Lang.autoA.follow.length c3, .bool Lang.autoA.empty] 33 (0, 0), Obj.cells #[.string Lang.wp, .string Lang.wq] 9 (0, 0), Obj.cells #[.int .i64 0] 3 (0, 0), Obj.cells #[.int .i64 0, .int .i64 1] 3 (0, 0), Obj.cells #[.int .i64 1] 3 (0, 0), Obj.cells #[.int .i64 1] 3 (0, 0), Obj.cells #[.slice (some ⟨w3.heap.size + 4, 0, none⟩) 1 1, .slice (some ⟨w3.heap.size + 5, 0, none⟩) 1 1] 30 (0, 0)].foldl World.alloc w3 = W4 := ⟨_, rfl⟩
  obtain ⟨hs4, hk4, hb4⟩ := Try.allocs _ _ _ hW4
  have hbox : W4.heap[w3.heap.size]? = _ := hk4 0 _ rfl
  have h1 := hk4 1 _ rfl
  have h2 := hk4 2 _ rfl
  have h3 := hk4 3 _ rfl
  have h4 := hk4 4 _ rfl
  have h5 := hk4 5 _ rfl
  have h6 := hk4 6 _ rfl
  have hin4 := hin.below hb4
  have hD1 : (Kd.int .i64).C W4 (some ⟨w3.heap.size + 4, 0, none⟩) 1 [1] := Try.C_one [1] h4 rfl (by simp)
  have hD2 : (Kd.int .i64).C W4 (some ⟨w3.heap.size + 5, 0, none⟩) 1 [1] := Try.C_one [1] h5 rfl (by simp)
  have hF : (Kd.slice 3 (Kd.int .i64)).C W4 (some ⟨w3.heap.size + 6, 0, none⟩) 2 [[1], [1]] := Try.C_block (xs := [[1], [1]]) h6 (by simp) (fun j q hq => by
    rcases j with _ | _ | j
    · cases hq
      exact ⟨[.slice (some ⟨w3.heap.size + 4, 0, none⟩) 1 1], rfl, ⟨_, 1, rfl, Nat.le_refl _, hD1⟩, fun i u hu => by
        rcases i with _ | i
        · exact hu
        · simp at hu⟩
    · cases hq
      exact ⟨[.slice (some ⟨w3.heap.size + 5, 0, none⟩) 1 1], rfl, ⟨_, 1, rfl, Nat.le_refl _, hD2⟩, fun i u hu => by
        rcases i with _ | i
        · exact hu
        · simp at hu⟩
    · simp at hq)
  have hsame := sinewref10_Same.calls 20 A0 c0 Lang.autoA.words A1 c1 Lang.autoA.first A2 c2 Lang.autoA.last A3 c3 Lang.autoA.follow Lang.autoA.empty (some ⟨w3.heap.size + 1, 0, none⟩) 2 [Lang.wp, Lang.wq] (some ⟨w3.heap.size + 2, 0, none⟩) 1 [0] (some ⟨w3.heap.size + 3, 0, none⟩) 2 [0, 1] (some ⟨w3.heap.size + 6, 0, none⟩) 2 [[1], [1]] false true W4
    hin4.at_.h0 hc0 hin4.at_.h1 hin4.at_.l1 hin4.at_.h2 hin4.at_.l2 hin4.at_.h3 hin4.at_.l3 (Try.C_one [Lang.wp, Lang.wq] h1 rfl (by simp)) (Nat.le_refl _) (Try.C_one [0] h2 rfl (by simp)) (Nat.le_refl _) (Try.C_one [0, 1] h3 rfl (by simp)) (Nat.le_refl _) hF (Nat.le_refl _) Try.sameA
  have HIN := Aside0.mk hin4
  have HBOX := Aside0.mk hbox
  have HB4 := Aside0.mk (below_step (below_step HB.out hb3) hb4)
  have HW4 := Aside0.mk hW4
  clear hof hin ha hb3 hW4 hs4 hk4 hb4 hbox h1 h2 h3 h4 h5 h6 hin4 hD1 hD2 hF
  go_wp2_with fail
  have e := HW4.out
  subst e
  clear HW4
  refine hsame.mono ?_
  rintro e w5 ⟨rfl, hb5⟩
  have HBX5 := Aside0.mk (Try.blk_then hb5 HBOX.out)
  have HIN5 := Aside0.mk (HIN.out.below hb5)
  have HB5 := Aside0.mk (below_step HB4.out hb5)
  clear hsame hb5 HBOX HIN HB4
  have b0 := (blk_cell HBX5.out 0).trans (show _ = some (Value.slice A0 Lang.autoA.words.length c0) from rfl)
  have b1 := (blk_cell HBX5.out 1).trans (show _ = some (Value.slice A1 Lang.autoA.first.length c1) from rfl)
  have b2 := (blk_cell HBX5.out 2).trans (show _ = some (Value.slice A2 Lang.autoA.last.length c2) from rfl)
  have b3 := (blk_cell HBX5.out 3).trans (show _ = some (Value.slice A3 Lang.autoA.follow.length c3) from rfl)
  have b4 := (blk_cell HBX5.out 4).trans (show _ = some (Value.bool Lang.autoA.empty) from rfl)
  have hlt5 := blk_lt HBX5.out
  have hc1 := Try.accepts_calls A0 A1 A2 A3 (some ⟨w5.heap.size, 0, none⟩) c0 c1 c2 c3 3 Lang.autoA [Lang.wp, Lang.wq, Lang.wq] _ (HIN5.out.below (below_alloc (Below.refl _ w5) (.cells #[.string Lang.wp, .string Lang.wq, .string Lang.wq] 9))) (Try.C_one [Lang.wp, Lang.wq, Lang.wq] (MapKept.heap_alloc w5 _).1 rfl (by simp))
  simp only [Lang.accA1, List.length_cons, List.length_nil, Nat.zero_add, Nat.reduceAdd] at hc1
  go_wp2_with fail
  refine hc1.mono ?_
  rintro e w6 ⟨rfl, hb6⟩
  have hb56 := below_step (below_alloc (Below.refl _ w5) (.cells #[.string Lang.wp, .string Lang.wq, .string Lang.wq] 9)) hb6
  have HBX6 := Aside0.mk (Try.blk_then hb56 HBX5.out)
  have HIN6 := Aside0.mk (HIN5.out.below hb56)
  have HB6 := Aside0.mk (below_step HB5.out hb56)
  clear hc1 hb6 hb56 b0 b1 b2 b3 b4 HBX5 HIN5 HB5 hlt5
  have b0 := (blk_cell HBX6.out 0).trans (show _ = some (Value.slice A0 Lang.autoA.words.length c0) from rfl)
  have b1 := (blk_cell HBX6.out 1).trans (show _ = some (Value.slice A1 Lang.autoA.first.length c1) from rfl)
  have b2 := (blk_cell HBX6.out 2).trans (show _ = some (Value.slice A2 Lang.autoA.last.length c2) from rfl)
  have b3 := (blk_cell HBX6.out 3).trans (show _ = some (Value.slice A3 Lang.autoA.follow.length c3) from rfl)
  have b4 := (blk_cell HBX6.out 4).trans (show _ = some (Value.bool Lang.autoA.empty) from rfl)
  have hlt6 := blk_lt HBX6.out
  have hc2 := Try.accepts_calls A0 A1 A2 A3 (some ⟨w6.heap.size, 0, none⟩) c0 c1 c2 c3 1 Lang.autoA [Lang.wq] _ (HIN6.out.below (below_alloc (Below.refl _ w6) (.cells #[.string Lang.wq] 9))) (Try.C_one [Lang.wq] (MapKept.heap_alloc w6 _).1 rfl (by simp))
  simp only [Lang.accA2, List.length_cons, List.length_nil, Nat.zero_add, Nat.reduceAdd] at hc2
  go_wp2_with fail
  refine hc2.mono ?_
  rintro e w7 ⟨rfl, hb7⟩
  have hb67 := below_step (below_alloc (Below.refl _ w6) (.cells #[.string Lang.wq] 9)) hb7
  have HBX7 := Aside0.mk (Try.blk_then hb67 HBX6.out)
  have HIN7 := Aside0.mk (HIN6.out.below hb67)
  have HB7 := Aside0.mk (below_step HB6.out hb67)
  clear hc2 hb7 hb67 b0 b1 b2 b3 b4 HBX6 HIN6 HB6 hlt6
  have b0 := (blk_cell HBX7.out 0).trans (show _ = some (Value.slice A0 Lang.autoA.words.length c0) from rfl)
  have b1 := (blk_cell HBX7.out 1).trans (show _ = some (Value.slice A1 Lang.autoA.first.length c1) from rfl)
  have b2 := (blk_cell HBX7.out 2).trans (show _ = some (Value.slice A2 Lang.autoA.last.length c2) from rfl)
  have b3 := (blk_cell HBX7.out 3).trans (show _ = some (Value.slice A3 Lang.autoA.follow.length c3) from rfl)
  have b4 := (blk_cell HBX7.out 4).trans (show _ = some (Value.bool Lang.autoA.empty) from rfl)
  have hc3 := Try.ends_calls A0 A1 A2 A3 c0 c1 c2 c3 Lang.autoA 0 w7 HIN7.out.at_
  simp only [Lang.endA] at hc3
  go_wp2_with fail
  refine hc3.mono ?_
  rintro e w8 ⟨rfl, hb8⟩
  have HB8 := Aside0.mk (below_step HB7.out hb8)
  clear hc3 hb8 b0 b1 b2 b3 b4
  go_wp2_with fail
  go_ret
  exact ⟨rfl, HB8.out⟩
end Go.Proofs

namespace Go.Proofs
open Go.RowKit Go.Shelf Go.Proofs.YtjobnfbianlpnaaW.PrintWords Go.Proofs.YtjobnfbianlpnaaW.PrintLast Go.Proofs.Ytjobnfbianlpnaa.P
namespace Lang
mutual
theorem fit_words : ∀ (p : Path) (d : Nat), fitP p d → (wordsOf p).all isWord = true
  | ⟨k, w, l⟩, d, h => by
    rw [fitP] at h
    have h2 := fitL_words l (d - 1) h.2.2
    rw [wordsOf]
    split
    · rename_i hk
      rcases h.2.1 with h | h
      · simp [h.2.2]
      · omega
    · exact h2
theorem fitL_words : ∀ (l : List Path) (d : Nat), fitL l d → (wordsL l).all isWord = true
  | [], d, h => rfl
  | p :: l, d, h => by
    rw [fitL] at h
    rw [wordsL, List.all_append, fit_words p d h.1, fitL_words l d h.2]; rfl
end
mutual
theorem fit_okP : ∀ (p : Path) (d : Nat), fitP p d → okP p
  | ⟨k, w, l⟩, d, h => by
    rw [fitP] at h
    have h2 := fitL_okL l (d - 1) h.2.2
    rw [okP]
    refine ⟨?_, h2⟩
    rcases h.2.1 with h | ⟨_, ⟨h, _⟩ | ⟨h, hl⟩⟩
    · exact .inl h.1
    · rcases h with h | h
      · exact .inr (.inl h)
      · exact .inr (.inr (.inl h))
    · exact .inr (.inr (.inr ⟨h, hl⟩))
theorem fitL_okL : ∀ (l : List Path) (d : Nat), fitL l d → okL l
  | [], d, h => trivial
  | p :: l, d, h => by
    rw [fitL] at h
    exact ⟨fit_okP p d h.1, fitL_okL l d h.2⟩
end
theorem may_of (p : Path) (a : Auto) (h : AutoOf p a) (hf : fitP p 12) (hp : places p ≤ 24) : may a = true := by
  have hl : a.words.length ≤ 24 := by rw [h.words, wordsOf_length]; exact hp
  have hw := fit_words p 12 hf
  rw [← h.words] at hw
  simp only [may, Bool.and_eq_true, decide_eq_true_eq]
  exact ⟨⟨⟨⟨⟨hl, h.len⟩, h.up1⟩, h.up2⟩, hw⟩, by rw [List.all_eq_true]; exact fun l hl => h.up3 l hl⟩
theorem ends_start (p : Path) (a : Auto) (h : AutoOf p a) (hf : fitP p 12) (hp : places p ≤ 24) : ends a (-1) = a.empty := by
  have hm := may_of p a h hf hp
  have hn : (-1 : Int) ∉ a.last := fun hx => by have := (rises_range a.last (-1) _ h.up2 _ hx).1; omega
  have h1 : decide ((-1 : Int) ≤ -1) = true := rfl
  have h2 : decide ((-1 : Int) < (a.words.length : Int)) = true := decide_eq_true (by omega)
  have h3 : decide ((-1 : Int) < 0) = true := rfl
  have h4 : decide ((-1 : Int) ∈ a.last) = false := decide_eq_false hn
  rw [ends, there, hm, h1, h2, h3, h4]
  simp
theorem accepts_none (p : Path) (a : Auto) (h : AutoOf p a) (hf : fitP p 12) (hp : places p ≤ 24) : accepts a [] = a.empty := by
  have := ends_start p a h hf hp
  simp [accepts, run, this]
end Lang
end Go.Proofs

namespace Go.Proofs.Lang
inductive Many (L : List ByteArray → Prop) : List ByteArray → Prop
  | one {s : List ByteArray} : L s → Many L s
  | more {a b : List ByteArray} : L a → Many L b → Many L (a ++ b)
mutual
def lang : Path → List ByteArray → Prop
  | ⟨k, w, l⟩, s => if k = 1 then s = [w] else if k = 2 then langS l s else if k = 4 then s = [] ∨ Many (fun s => langA l s) s else if k = 5 then Many (fun s => langA l s) s else if k = 6 then s = [] ∨ langA l s else langA l s
def langS : List Path → List ByteArray → Prop
  | [], s => s = []
  | p :: l, s => ∃ a b, s = a ++ b ∧ lang p a ∧ langS l b
def langA : List Path → List ByteArray → Prop
  | [], _ => False
  | p :: l, s => lang p s ∨ langA l s
end
inductive Go (R : Int → Int → Prop) (E : Int → Prop) (ω : Int → ByteArray → Prop) : Int → List ByteArray → Prop
  | last {x : Int} {w : ByteArray} : ω x w → E x → Go R E ω x [w]
  | step {x y : Int} {w : ByteArray} {s : List ByteArray} : ω x w → R x y → Go R E ω y s → Go R E ω x (w :: s)
def wordAt (ws : List ByteArray) (o : Nat) (x : Int) (w : ByteArray) : Prop := ∃ i : Nat, x = o + i ∧ ws[i]? = some w
def Acc (F : Int → Prop) (R : Int → Int → Prop) (E : Int → Prop) (ω : Int → ByteArray → Prop) (nu : Bool) (s : List ByteArray) : Prop :=
  (s = [] ∧ nu = true) ∨ ∃ x, F x ∧ Go R E ω x s
theorem Go.imp {R R' : Int → Int → Prop} {E E' : Int → Prop} {ω ω' : Int → ByteArray → Prop} (hR : ∀ x y, R x y → R' x y) (hE : ∀ x, E x → E' x) (hω : ∀ x w, ω x w → ω' x w) {x : Int} {s : List ByteArray} (h : Go R E ω x s) : Go R' E' ω' x s := by
  induction h with
  | last h1 h2 => exact .last (hω _ _ h1) (hE _ h2)
  | step h1 h2 _ ih => exact .step (hω _ _ h1) (hR _ _ h2) ih
theorem Go.within {R R' : Int → Int → Prop} {E E' : Int → Prop} {ω ω' : Int → ByteArray → Prop} (I : Int → Prop) (hR : ∀ x y, I x → R x y → R' x y ∧ I y) (hE : ∀ x, I x → E x → E' x) (hω : ∀ x w, I x → ω x w → ω' x w) {x : Int} {s : List ByteArray} (h : Go R E ω x s) : I x → Go R' E' ω' x s := by
  induction h with
  | last h1 h2 => exact fun hx => .last (hω _ _ hx h1) (hE _ hx h2)
  | step h1 h2 _ ih => exact fun hx => .step (hω _ _ hx h1) (hR _ _ hx h2).1 (ih (hR _ _ hx h2).2)
theorem Go.ne_nil {R : Int → Int → Prop} {E : Int → Prop} {ω : Int → ByteArray → Prop} {x : Int} {s : List ByteArray} (h : Go R E ω x s) : s ≠ [] := by
  cases h <;> simp
theorem Go.append {R : Int → Int → Prop} {E E' : Int → Prop} {ω : Int → ByteArray → Prop} {y : Int} {b : List ByteArray} (hj : ∀ x, E x → R x y) (hb : Go R E' ω y b) {x : Int} {a : List ByteArray} (h : Go R E ω x a) : Go R E' ω x (a ++ b) := by
  induction h with
  | last h1 h2 => exact .step h1 (hj _ h2) hb
  | step h1 h2 _ ih => exact .step h1 h2 ih
theorem wordAt_left {w1 w2 : List ByteArray} {o : Nat} {x : Int} {w : ByteArray} (h : x < o + w1.length) : wordAt (w1 ++ w2) o x w ↔ wordAt w1 o x w := by
  constructor
  · rintro ⟨i, rfl, hi⟩
    exact ⟨i, rfl, by rwa [List.getElem?_append_left (by omega)] at hi⟩
  · rintro ⟨i, rfl, hi⟩
    exact ⟨i, rfl, by rwa [List.getElem?_append_left (by omega)]⟩
theorem wordAt_right {w1 w2 : List ByteArray} {o : Nat} {x : Int} {w : ByteArray} (h : (o : Int) + w1.length ≤ x) : wordAt (w1 ++ w2) o x w ↔ wordAt w2 (o + w1.length) x w := by
  constructor
  · rintro ⟨i, rfl, hi⟩
    exact ⟨i - w1.length, by omega, by rwa [List.getElem?_append_right (by omega)] at hi⟩
  · rintro ⟨i, rfl, hi⟩
    refine ⟨w1.length + i, by omega, ?_⟩
    rw [List.getElem?_append_right (by omega)]
    simpa using hi
theorem many_acc {L : List ByteArray → Prop} {F : Int → Prop} {R : Int → Int → Prop} {E : Int → Prop} {ω : Int → ByteArray → Prop} {nu : Bool} (hL : ∀ s, L s ↔ Acc F R E ω nu s) (s : List ByteArray) :
    Many L s ↔ Acc F (fun x y => R x y ∨ (E x ∧ F y)) E ω nu s := by
  constructor
  · intro h
    induction h with
    | one h =>
      rcases (hL _).1 h with h | ⟨x, h1, h2⟩
      · exact .inl h
      · exact .inr ⟨x, h1, h2.imp (fun _ _ => .inl) (fun _ => id) (fun _ _ => id)⟩
    | more h _ ih =>
      rcases (hL _).1 h with ⟨rfl, _⟩ | ⟨x, h1, h2⟩
      · simpa using ih
      · have h2' : Go (fun x y => R x y ∨ (E x ∧ F y)) E ω x _ := h2.imp (fun _ _ => .inl) (fun _ => id) (fun _ _ => id)
        rcases ih with ⟨rfl, _⟩ | ⟨y, h3, h4⟩
        · exact .inr ⟨x, h1, by simpa using h2'⟩
        · exact .inr ⟨x, h1, Go.append (fun z hz => .inr ⟨hz, h3⟩) h4 h2'⟩
  · have key : ∀ x s, Go (fun x y => R x y ∨ (E x ∧ F y)) E ω x s → ∃ a b, s = a ++ b ∧ Go R E ω x a ∧ (b = [] ∨ Many L b) := by
      intro x s h
      induction h with
      | last h1 h2 => exact ⟨[_], [], rfl, .last h1 h2, .inl rfl⟩
      | @step x y w s h1 h2 _ ih =>
        obtain ⟨a, b, rfl, h4, h5⟩ := ih
        rcases h2 with h2 | ⟨h2, h3⟩
        · exact ⟨w :: a, b, rfl, .step h1 h2 h4, h5⟩
        · have hLa : L a := (hL a).2 (.inr ⟨_, h3, h4⟩)
          refine ⟨[w], a ++ b, rfl, .last h1 h2, .inr ?_⟩
          rcases h5 with rfl | h5
          · rw [List.append_nil]; exact .one hLa
          · exact .more hLa h5
    rintro (h | ⟨x, h1, h2⟩)
    · exact .one ((hL s).2 (.inl h))
    · obtain ⟨a, b, rfl, h4, h5⟩ := key x s h2
      have hLa : L a := (hL a).2 (.inr ⟨_, h1, h4⟩)
      rcases h5 with rfl | h5
      · rw [List.append_nil]; exact .one hLa
      · exact .more hLa h5
def AccP (p : Path) (o : Nat) (s : List ByteArray) : Prop := Acc (first p o) (fol p o) (last p o) (wordAt (wordsOf p) o) (nul p) s
def AccS (l : List Path) (o : Nat) (s : List ByteArray) : Prop := Acc (firstS l o) (folS l o) (lastS l o) (wordAt (wordsL l) o) (nulA l) s
def AccA (l : List Path) (o : Nat) (s : List ByteArray) : Prop := Acc (firstA l o) (folA l o) (lastA l o) (wordAt (wordsL l) o) (nulO l) s
theorem Acc.congr {F F' : Int → Prop} {R R' : Int → Int → Prop} {E E' : Int → Prop} {ω : Int → ByteArray → Prop} {nu nu' : Bool} (hF : ∀ x, F x ↔ F' x) (hR : ∀ x y, R x y ↔ R' x y) (hE : ∀ x, E x ↔ E' x) (hn : nu = nu') (s : List ByteArray) : Acc F R E ω nu s ↔ Acc F' R' E' ω nu' s := by
  subst hn
  unfold Acc
  refine or_congr Iff.rfl (exists_congr fun x => and_congr (hF x) ⟨fun h => ?_, fun h => ?_⟩)
  · exact h.imp (fun x y => (hR x y).1) (fun x => (hE x).1) (fun _ _ => id)
  · exact h.imp (fun x y => (hR x y).2) (fun x => (hE x).2) (fun _ _ => id)
theorem accS_cons (p : Path) (l : List Path) (o : Nat) (s : List ByteArray) : AccS (p :: l) o s ↔ ∃ a b, s = a ++ b ∧ AccP p o a ∧ AccS l (o + places p) b := by
  have hwl := wordsOf_length p
  have hinP : ∀ x, ((o : Int) ≤ x ∧ x < o + places p) → ∀ w, wordAt (wordsL (p :: l)) o x w ↔ wordAt (wordsOf p) o x w := fun x hx w => by
    rw [wordsL]; exact wordAt_left (by rw [hwl]; exact hx.2)
  have hinL : ∀ x, ((o : Int) + places p ≤ x) → ∀ w, wordAt (wordsL (p :: l)) o x w ↔ wordAt (wordsL l) (o + places p) x w := fun x hx w => by
    rw [wordsL, ← hwl]; exact wordAt_right (by rw [hwl]; exact hx)
  have goL : ∀ y b, ((o : Int) + places p ≤ y) → Go (folS (p :: l) o) (lastS (p :: l) o) (wordAt (wordsL (p :: l)) o) y b → Go (folS l (o + places p)) (lastS l (o + places p)) (wordAt (wordsL l) (o + places p)) y b := by
    intro y b hy h
    refine h.within (fun z => (o : Int) + places p ≤ z) ?_ ?_ ?_ hy
    · intro z z' hz hr
      rw [folS] at hr
      rcases hr with hr | hr | ⟨hr, _⟩
      · have := (fol_range p o z z' hr).1; omega
      · have := (folS_range l _ z z' hr).2; exact ⟨hr, by omega⟩
      · have := last_range p o z hr; omega
    · intro z hz he
      rw [lastS] at he
      rcases he with he | ⟨_, he⟩
      · exact he
      · have := last_range p o z he; omega
    · intro z w hz hw; exact (hinL z hz w).1 hw
  have goL' : ∀ y b, Go (folS l (o + places p)) (lastS l (o + places p)) (wordAt (wordsL l) (o + places p)) y b → firstS l (o + places p) y → Go (folS (p :: l) o) (lastS (p :: l) o) (wordAt (wordsL (p :: l)) o) y b := by
    intro y b h hy
    refine h.within (fun z => (o : Int) + places p ≤ z) ?_ ?_ ?_ (by have := firstS_range l _ y hy; omega)
    · intro z z' hz hr
      have := (folS_range l _ z z' hr).2
      exact ⟨by rw [folS]; exact .inr (.inl hr), by omega⟩
    · intro z hz he; rw [lastS]; exact .inl he
    · intro z w hz hw; exact (hinL z hz w).2 hw
  have goP : ∀ x a, first p o x → ∀ (E : Int → Prop), (∀ z, last p o z → E z) → Go (fol p o) (last p o) (wordAt (wordsOf p) o) x a → Go (folS (p :: l) o) E (wordAt (wordsL (p :: l)) o) x a := by
    intro x a hx E hE h
    refine h.within (fun z => (o : Int) ≤ z ∧ z < o + places p) ?_ ?_ ?_ (first_range p o x hx)
    · intro z z' hz hr; exact ⟨by rw [folS]; exact .inl hr, (fol_range p o z z' hr).2⟩
    · intro z hz he; exact hE z he
    · intro z w hz hw; exact (hinP z hz w).2 hw
  have key : ∀ x s, Go (folS (p :: l) o) (lastS (p :: l) o) (wordAt (wordsL (p :: l)) o) x s → ((o : Int) ≤ x ∧ x < o + places p) →
      (Go (fol p o) (last p o) (wordAt (wordsOf p) o) x s ∧ nulA l = true) ∨ ∃ a b y, s = a ++ b ∧ Go (fol p o) (last p o) (wordAt (wordsOf p) o) x a ∧ firstS l (o + places p) y ∧ Go (folS l (o + places p)) (lastS l (o + places p)) (wordAt (wordsL l) (o + places p)) y b := by
    intro x s h
    induction h with
    | @last x w h1 h2 =>
      intro hx
      rw [lastS] at h2
      rcases h2 with h2 | ⟨h2, h3⟩
      · have := lastS_range l _ x h2; omega
      · exact .inl ⟨.last ((hinP x hx w).1 h1) h3, h2⟩
    | @step x y w s h1 h2 hgo ih =>
      intro hx
      rw [folS] at h2
      rcases h2 with h2 | h2 | ⟨h2, h3⟩
      · have hy := (fol_range p o x y h2).2
        rcases ih hy with ⟨h4, h5⟩ | ⟨a, b, z, rfl, h4, h5, h6⟩
        · exact .inl ⟨.step ((hinP x hx w).1 h1) h2 h4, h5⟩
        · exact .inr ⟨w :: a, b, z, rfl, .step ((hinP x hx w).1 h1) h2 h4, h5, h6⟩
      · have := (folS_range l _ x y h2).1; omega
      · have hy := firstS_range l _ y h3
        exact .inr ⟨[w], s, y, rfl, .last ((hinP x hx w).1 h1) h2, h3, goL y s (by omega) hgo⟩
  constructor
  · rintro (⟨rfl, hn⟩ | ⟨x, hx, hgo⟩)
    · rw [nulA, Bool.and_eq_true] at hn
      exact ⟨[], [], rfl, .inl ⟨rfl, hn.1⟩, .inl ⟨rfl, hn.2⟩⟩
    · rw [firstS] at hx
      rcases hx with hx | ⟨hn, hx⟩
      · rcases key x s hgo (first_range p o x hx) with ⟨h1, h2⟩ | ⟨a, b, y, rfl, h1, h2, h3⟩
        · exact ⟨s, [], by simp, .inr ⟨x, hx, h1⟩, .inl ⟨rfl, h2⟩⟩
        · exact ⟨a, b, rfl, .inr ⟨x, hx, h1⟩, .inr ⟨y, h2, h3⟩⟩
      · exact ⟨[], s, rfl, .inl ⟨rfl, hn⟩, .inr ⟨x, hx, goL x s (by have := firstS_range l _ x hx; omega) hgo⟩⟩
  · rintro ⟨a, b, rfl, ha, hb⟩
    rcases ha with ⟨rfl, hn⟩ | ⟨x, hx, hgo⟩
    · rcases hb with ⟨rfl, hm⟩ | ⟨y, hy, hgo⟩
      · exact .inl ⟨rfl, by rw [nulA, hn, hm]; rfl⟩
      · exact .inr ⟨y, by rw [firstS]; exact .inr ⟨hn, hy⟩, goL' y b hgo hy⟩
    · rcases hb with ⟨rfl, hm⟩ | ⟨y, hy, hgo2⟩
      · refine .inr ⟨x, by rw [firstS]; exact .inl hx, ?_⟩
        rw [List.append_nil]
        exact goP x a hx _ (fun z hz => by rw [lastS]; exact .inr ⟨hm, hz⟩) hgo
      · refine .inr ⟨x, by rw [firstS]; exact .inl hx, ?_⟩
        exact Go.append (fun z hz => by rw [folS]; exact .inr (.inr ⟨hz, hy⟩)) (goL' y b hgo2 hy) (goP x a hx (last p o) (fun z hz => hz) hgo)
theorem accA_cons (p : Path) (l : List Path) (o : Nat) (s : List ByteArray) : AccA (p :: l) o s ↔ AccP p o s ∨ AccA l (o + places p) s := by
  have hwl := wordsOf_length p
  have hinP : ∀ x, ((o : Int) ≤ x ∧ x < o + places p) → ∀ w, wordAt (wordsL (p :: l)) o x w ↔ wordAt (wordsOf p) o x w := fun x hx w => by
    rw [wordsL]; exact wordAt_left (by rw [hwl]; exact hx.2)
  have hinL : ∀ x, ((o : Int) + places p ≤ x) → ∀ w, wordAt (wordsL (p :: l)) o x w ↔ wordAt (wordsL l) (o + places p) x w := fun x hx w => by
    rw [wordsL, ← hwl]; exact wordAt_right (by rw [hwl]; exact hx)
  have goL : ∀ y, ((o : Int) + places p ≤ y) → (Go (folA (p :: l) o) (lastA (p :: l) o) (wordAt (wordsL (p :: l)) o) y s ↔ Go (folA l (o + places p)) (lastA l (o + places p)) (wordAt (wordsL l) (o + places p)) y s) := by
    intro y hy
    constructor
    · intro h
      refine h.within (fun z => (o : Int) + places p ≤ z) ?_ ?_ ?_ hy
      · intro z z' hz hr
        rw [folA] at hr
        rcases hr with hr | hr
        · have := (fol_range p o z z' hr).1; omega
        · have := (folA_range l _ z z' hr).2; exact ⟨hr, by omega⟩
      · intro z hz he
        rw [lastA] at he
        rcases he with he | he
        · have := last_range p o z he; omega
        · exact he
      · intro z w hz hw; exact (hinL z hz w).1 hw
    · intro h
      refine h.within (fun z => (o : Int) + places p ≤ z) ?_ ?_ ?_ hy
      · intro z z' hz hr
        have := (folA_range l _ z z' hr).2
        exact ⟨by rw [folA]; exact .inr hr, by omega⟩
      · intro z hz he; rw [lastA]; exact .inr he
      · intro z w hz hw; exact (hinL z hz w).2 hw
  have goP : ∀ x, ((o : Int) ≤ x ∧ x < o + places p) → (Go (folA (p :: l) o) (lastA (p :: l) o) (wordAt (wordsL (p :: l)) o) x s ↔ Go (fol p o) (last p o) (wordAt (wordsOf p) o) x s) := by
    intro x hx
    constructor
    · intro h
      refine h.within (fun z => (o : Int) ≤ z ∧ z < o + places p) ?_ ?_ ?_ hx
      · intro z z' hz hr
        rw [folA] at hr
        rcases hr with hr | hr
        · exact ⟨hr, (fol_range p o z z' hr).2⟩
        · have := (folA_range l _ z z' hr).1; omega
      · intro z hz he
        rw [lastA] at he
        rcases he with he | he
        · exact he
        · have := lastA_range l _ z he; omega
      · intro z w hz hw; exact (hinP z hz w).1 hw
    · intro h
      refine h.within (fun z => (o : Int) ≤ z ∧ z < o + places p) ?_ ?_ ?_ hx
      · intro z z' hz hr; exact ⟨by rw [folA]; exact .inl hr, (fol_range p o z z' hr).2⟩
      · intro z hz he; rw [lastA]; exact .inl he
      · intro z w hz hw; exact (hinP z hz w).2 hw
  constructor
  · rintro (⟨rfl, hn⟩ | ⟨x, hx, hgo⟩)
    · rw [nulO, Bool.or_eq_true] at hn
      rcases hn with hn | hn
      · exact .inl (.inl ⟨rfl, hn⟩)
      · exact .inr (.inl ⟨rfl, hn⟩)
    · rw [firstA] at hx
      rcases hx with hx | hx
      · exact .inl (.inr ⟨x, hx, (goP x (first_range p o x hx)).1 hgo⟩)
      · exact .inr (.inr ⟨x, hx, (goL x (by have := firstA_range l _ x hx; omega)).1 hgo⟩)
  · rintro ((⟨rfl, hn⟩ | ⟨x, hx, hgo⟩) | (⟨rfl, hn⟩ | ⟨x, hx, hgo⟩))
    · exact .inl ⟨rfl, by rw [nulO, hn]; rfl⟩
    · exact .inr ⟨x, by rw [firstA]; exact .inl hx, (goP x (first_range p o x hx)).2 hgo⟩
    · exact .inl ⟨rfl, by rw [nulO, hn]; simp⟩
    · exact .inr ⟨x, by rw [firstA]; exact .inr hx, (goL x (by have := firstA_range l _ x hx; omega)).2 hgo⟩
mutual
theorem acc_lang : ∀ (p : Path) (o : Nat) (s : List ByteArray), AccP p o s ↔ lang p s
  | ⟨k, w, l⟩, o, s => by
    have hA := acc_langA l o
    have hS := acc_langS l o
    rw [lang]
    by_cases h1 : k = 1
    · rw [if_pos h1]
      unfold AccP
      constructor
      · rintro (⟨_, h⟩ | ⟨x, hx, hgo⟩)
        · rw [nul, if_pos h1] at h; cases h
        · cases hgo with
          | last hw _ =>
            obtain ⟨i, hi, hw⟩ := hw
            rw [first, if_pos h1] at hx
            obtain rfl : i = 0 := by omega
            rw [wordsOf, if_pos h1] at hw
            simp at hw
            rw [hw]
          | step _ hr _ => rw [fol, if_pos h1] at hr; exact hr.elim
      · rintro rfl
        exact .inr ⟨o, by rw [first, if_pos h1], .last ⟨0, by simp, by rw [wordsOf, if_pos h1]; rfl⟩ (by rw [last, if_pos h1])⟩
    · rw [if_neg h1]
      have hw : wordsOf ⟨k, w, l⟩ = wordsL l := by rw [wordsOf, if_neg h1]
      by_cases h2 : k = 2
      · rw [if_pos h2, ← hS s]
        unfold AccP AccS
        rw [hw]
        refine Acc.congr (fun x => ?_) (fun x y => ?_) (fun x => ?_) ?_ s
        · rw [first, if_neg h1, if_pos h2]
        · rw [fol, if_neg h1, if_pos h2]
        · rw [last, if_neg h1, if_pos h2]
        · rw [nul, if_neg h1, if_pos h2]
      · rw [if_neg h2]
        have hmany := many_acc (L := fun s => langA l s) (fun s => (hA s).symm) s
        have hnu : ∀ F R E ω, Acc F R E ω true s ↔ s = [] ∨ Acc F R E ω (nulO l) s := by
          intro F R E ω
          unfold Acc
          constructor
          · rintro (⟨h, _⟩ | h)
            · exact .inl h
            · exact .inr (.inr h)
          · rintro (h | ⟨h, _⟩ | h)
            · exact .inl ⟨h, rfl⟩
            · exact .inl ⟨h, rfl⟩
            · exact .inr h
        have hP : AccP ⟨k, w, l⟩ o s ↔ Acc (firstA l o) (fun x y => folA l o x y ∨ ((k = 4 ∨ k = 5) ∧ lastA l o x ∧ firstA l o y)) (lastA l o) (wordAt (wordsL l) o) (nul ⟨k, w, l⟩) s := by
          unfold AccP
          rw [hw]
          refine Acc.congr (fun x => ?_) (fun x y => ?_) (fun x => ?_) rfl s
          · rw [first, if_neg h1, if_neg h2]
          · rw [fol, if_neg h1, if_neg h2]
          · rw [last, if_neg h1, if_neg h2]
        rw [hP]
        by_cases h4 : k = 4
        · rw [if_pos h4, hmany, nul, if_neg h1, if_neg h2, if_pos (.inl h4), hnu]
          refine or_congr Iff.rfl (Acc.congr (fun _ => Iff.rfl) (fun x y => ?_) (fun _ => Iff.rfl) rfl s)
          simp [h4]
        · rw [if_neg h4]
          by_cases h5 : k = 5
          · rw [if_pos h5, hmany, nul, if_neg h1, if_neg h2, if_neg (by omega)]
            refine Acc.congr (fun _ => Iff.rfl) (fun x y => ?_) (fun _ => Iff.rfl) rfl s
            simp [h5]
          · rw [if_neg h5]
            have hR : ∀ nu, Acc (firstA l o) (fun x y => folA l o x y ∨ ((k = 4 ∨ k = 5) ∧ lastA l o x ∧ firstA l o y)) (lastA l o) (wordAt (wordsL l) o) nu s ↔ Acc (firstA l o) (folA l o) (lastA l o) (wordAt (wordsL l) o) nu s := fun nu =>
              Acc.congr (fun _ => Iff.rfl) (fun x y => by simp [h4, h5]) (fun _ => Iff.rfl) rfl s
            rw [hR]
            by_cases h6 : k = 6
            · rw [if_pos h6, nul, if_neg h1, if_neg h2, if_pos (.inr h6), hnu]
              exact or_congr Iff.rfl (hA s)
            · rw [if_neg h6, nul, if_neg h1, if_neg h2, if_neg (by omega)]
              exact hA s
theorem acc_langS : ∀ (l : List Path) (o : Nat) (s : List ByteArray), AccS l o s ↔ langS l s
  | [], o, s => by
    rw [langS]
    constructor
    · rintro (⟨h, _⟩ | ⟨x, hx, _⟩)
      · exact h
      · rw [firstS] at hx; exact hx.elim
    · rintro rfl
      exact .inl ⟨rfl, rfl⟩
  | p :: l, o, s => by
    rw [accS_cons, langS]
    exact exists_congr fun a => exists_congr fun b => and_congr Iff.rfl (and_congr (acc_lang p o a) (acc_langS l _ b))
theorem acc_langA : ∀ (l : List Path) (o : Nat) (s : List ByteArray), AccA l o s ↔ langA l s
  | [], o, s => by
    rw [langA]
    constructor
    · rintro (⟨_, h⟩ | ⟨x, hx, _⟩)
      · rw [nulO] at h; cases h
      · rw [firstA] at hx; exact hx.elim
    · exact False.elim
  | p :: l, o, s => by
    rw [accA_cons, langA]
    exact or_congr (acc_lang p o s) (acc_langA l _ s)
end
end Go.Proofs.Lang

namespace Go.Proofs.Lang
theorem ends_at (a : Auto) (hm : may a = true) (x : Int) (h0 : 0 ≤ x) (h1 : x < a.words.length) : ends a x = true ↔ x ∈ a.last := by
  have e1 : decide ((-1 : Int) ≤ x) = true := decide_eq_true (by omega)
  have e2 : decide (x < (a.words.length : Int)) = true := decide_eq_true h1
  have e3 : decide (x < 0) = false := decide_eq_false (by omega)
  rw [ends, there, hm, e1, e2, e3]
  simp
theorem next_at (p : Path) (a : Auto) (h : AutoOf p a) (hm : may a = true) (k : Int) (h0 : -1 ≤ k) (h1 : k < a.words.length) (w : ByteArray) (x : Int) :
    x ∈ next a k w ↔ (if 0 ≤ k then fol p 0 k x else first p 0 x) ∧ wordAt (wordsOf p) 0 x w := by
  have e1 : decide ((-1 : Int) ≤ k) = true := decide_eq_true h0
  have e2 : decide (k < (a.words.length : Int)) = true := decide_eq_true h1
  have ht : there a k = true := by rw [there, hm, e1, e2]; rfl
  have hb : ∀ x, x ∈ behind a k ↔ (if 0 ≤ k then fol p 0 k x else first p 0 x) := by
    intro x
    unfold behind
    by_cases hk : 0 ≤ k
    · rw [if_pos hk, if_pos hk]
      have hlt : k.toNat < a.follow.length := by have := h.len; omega
      have hf := h.follow k.toNat a.follow[k.toNat] (List.getElem?_eq_getElem hlt) x
      have e : a.follow.getD k.toNat [] = a.follow[k.toNat] := by simp [hlt]
      rw [e, hf]
      have e' : ((k.toNat : Nat) : Int) = k := by omega
      rw [e']
    · rw [if_neg hk, if_neg hk]
      exact h.first x
  have hr := (behind_range a k ht).2
  rw [next, if_pos ht, List.mem_filter, decide_eq_true_eq, ← hb x]
  constructor
  · rintro ⟨hx, hw⟩
    obtain ⟨r1, r2⟩ := hr x hx
    refine ⟨hx, x.toNat, by omega, ?_⟩
    rw [← h.words, ← hw]
    have hlt : x.toNat < a.words.length := by omega
    simp [hlt]
  · rintro ⟨hx, i, hi, hw⟩
    refine ⟨hx, ?_⟩
    rw [← h.words] at hw
    have e : x.toNat = i := by omega
    rw [e, List.getD_eq_getElem?_getD, hw]
    rfl
theorem run_acc (p : Path) (a : Auto) (h : AutoOf p a) (hm : may a = true) : ∀ (l : List ByteArray) (S : List Int), (∀ x ∈ S, 0 ≤ x ∧ x < a.words.length) →
    ((run a l S).any (ends a) = true ↔ ∃ x ∈ S, (l = [] ∧ last p 0 x) ∨ ∃ y, fol p 0 x y ∧ Go (fol p 0) (last p 0) (wordAt (wordsOf p) 0) y l)
  | [], S, hS => by
    rw [run, List.foldl_nil, List.any_eq_true]
    refine exists_congr fun x => and_congr_right fun hx => ?_
    rw [ends_at a hm x (hS x hx).1 (hS x hx).2, h.last x]
    constructor
    · exact fun h => .inl ⟨rfl, h⟩
    · rintro (⟨_, h⟩ | ⟨y, _, hg⟩)
      · exact h
      · exact absurd rfl hg.ne_nil
  | w :: l, S, hS => by
    have hlw : (wordsOf p).length = a.words.length := by rw [h.words]
    have hmem : ∀ x, x ∈ step a S w ↔ ∃ k ∈ S, fol p 0 k x ∧ wordAt (wordsOf p) 0 x w := by
      intro x
      rw [step, List.mem_flatMap]
      refine exists_congr fun k => and_congr_right fun hk => ?_
      have := hS k hk
      rw [next_at p a h hm k (by omega) this.2 w x, if_pos this.1]
    have hS' : ∀ x ∈ step a S w, 0 ≤ x ∧ x < a.words.length := by
      intro x hx
      obtain ⟨k, _, hf, _⟩ := (hmem x).1 hx
      have := (fol_range p 0 k x hf).2
      have hl := wordsOf_length p
      omega
    have ih := run_acc p a h hm l (step a S w) hS'
    have e : run a (w :: l) S = run a l (step a S w) := rfl
    rw [e, ih]
    constructor
    · rintro ⟨x, hx, hg⟩
      obtain ⟨k, hk, hf, hw⟩ := (hmem x).1 hx
      refine ⟨k, hk, .inr ⟨x, hf, ?_⟩⟩
      rcases hg with ⟨rfl, hl⟩ | ⟨y, hf2, hg⟩
      · exact .last hw hl
      · exact .step hw hf2 hg
    · rintro ⟨k, hk, ⟨h, _⟩ | ⟨x, hf, hg⟩⟩
      · cases h
      · cases hg with
        | last hw hl => exact ⟨x, (hmem x).2 ⟨k, hk, hf, hw⟩, .inl ⟨rfl, hl⟩⟩
        | step hw hr hg => exact ⟨x, (hmem x).2 ⟨k, hk, hf, hw⟩, .inr ⟨_, hr, hg⟩⟩
theorem accepts_lang (p : Path) (a : Auto) (h : AutoOf p a) (hf : fitP p 12) (hp : places p ≤ 24) (l : List ByteArray) : accepts a l = true ↔ lang p l := by
  rw [← acc_lang p 0 l]
  have hm := may_of p a h hf hp
  cases l with
  | nil =>
    rw [accepts_none p a h hf hp, h.empty]
    constructor
    · exact fun h => .inl ⟨rfl, h⟩
    · rintro (⟨_, h⟩ | ⟨x, _, hg⟩)
      · exact h
      · exact absurd rfl hg.ne_nil
  | cons w l =>
    have e : accepts a (w :: l) = (run a l (step a [-1] w)).any (ends a) := rfl
    have hl := wordsOf_length p
    have hlw : (wordsOf p).length = a.words.length := by rw [h.words]
    have hmem : ∀ x, x ∈ step a [-1] w ↔ first p 0 x ∧ wordAt (wordsOf p) 0 x w := by
      intro x
      rw [step, List.flatMap_cons, List.flatMap_nil, List.append_nil, next_at p a h hm (-1) (by omega) (by omega) w x, if_neg (by omega)]
    have hS' : ∀ x ∈ step a [-1] w, 0 ≤ x ∧ x < a.words.length := by
      intro x hx
      have := first_range p 0 x ((hmem x).1 hx).1
      omega
    rw [e, run_acc p a h hm l _ hS']
    constructor
    · rintro ⟨x, hx, hg⟩
      obtain ⟨h1, h2⟩ := (hmem x).1 hx
      refine .inr ⟨x, h1, ?_⟩
      rcases hg with ⟨rfl, hl⟩ | ⟨y, hf2, hg⟩
      · exact .last h2 hl
      · exact .step h2 hf2 hg
    · rintro (⟨h, _⟩ | ⟨x, h1, hg⟩)
      · cases h
      · cases hg with
        | last hw hl => exact ⟨x, (hmem x).2 ⟨h1, hw⟩, .inl ⟨rfl, hl⟩⟩
        | step hw hr hg => exact ⟨x, (hmem x).2 ⟨h1, hw⟩, .inr ⟨_, hr, hg⟩⟩
theorem lang_alt (l : List Path) (w : ByteArray) (s : List ByteArray) : lang ⟨3, w, l⟩ s ↔ langA l s := by
  rw [lang, if_neg (by decide), if_neg (by decide), if_neg (by decide), if_neg (by decide), if_neg (by decide)]
theorem lang_seq (l : List Path) (w : ByteArray) (s : List ByteArray) : lang ⟨2, w, l⟩ s ↔ langS l s := by
  rw [lang, if_neg (by decide), if_pos rfl]
theorem turns_alt (p q r : Path) (w w1 w2 : ByteArray) (s : List ByteArray) : lang ⟨3, w, [p, q, r]⟩ s ↔ lang ⟨3, w1, [r, ⟨3, w2, [q, p]⟩]⟩ s := by
  rw [lang_alt, lang_alt, langA, langA, langA, langA, langA, langA, langA, lang_alt, langA, langA, langA]
  constructor
  · rintro (h | h | h | h)
    · exact .inr (.inl (.inr (.inl h)))
    · exact .inr (.inl (.inl h))
    · exact .inl h
    · exact h.elim
  · rintro (h | (h | h | h) | h)
    · exact .inr (.inr (.inl h))
    · exact .inr (.inl h)
    · exact .inl h
    · exact h.elim
    · exact h.elim
theorem langS_two (q r : Path) (s : List ByteArray) : langS [q, r] s ↔ ∃ a b, s = a ++ b ∧ lang q a ∧ lang r b := by
  rw [langS]
  refine exists_congr fun a => ⟨?_, ?_⟩
  · rintro ⟨b, rfl, h1, h2⟩
    rw [langS] at h2
    obtain ⟨c, d, rfl, h3, h4⟩ := h2
    rw [langS] at h4
    subst h4
    exact ⟨c, by simp, h1, h3⟩
  · rintro ⟨b, rfl, h1, h2⟩
    refine ⟨b, rfl, h1, ?_⟩
    rw [langS]
    exact ⟨b, [], by simp, h2, by rw [langS]⟩
theorem turns_seq (p q r : Path) (w w1 w2 : ByteArray) (s : List ByteArray) : lang ⟨2, w, [p, q, r]⟩ s ↔ lang ⟨2, w1, [p, ⟨2, w2, [q, r]⟩]⟩ s := by
  rw [lang_seq, lang_seq, langS_two, langS]
  refine exists_congr fun a => exists_congr fun b => and_congr Iff.rfl (and_congr Iff.rfl ?_)
  rw [lang_seq]
end Go.Proofs.Lang

namespace Go.Proofs
open Go.RowKit Go.Shelf Go.Proofs.YtjobnfbianlpnaaW.PrintWords Go.Proofs.YtjobnfbianlpnaaW.PrintLast Go.Proofs.YtjobnfbianlpnaaW.PrintMore Go.Proofs.Ytjobnfbianlpnaa.P
namespace Lang
mutual
theorem fit_less : ∀ (p : Path) (d e : Nat), fitP p d → deep p ≤ e → fitP p e
  | ⟨k, w, l⟩, d, e, h, he => by
    rw [fitP] at h ⊢
    rw [deep] at he
    exact ⟨by omega, h.2.1, fitL_less l (d - 1) (e - 1) h.2.2 (by omega)⟩
theorem fitL_less : ∀ (l : List Path) (d e : Nat), fitL l d → deepL l ≤ e → fitL l e
  | [], _, _, _, _ => trivial
  | p :: l, d, e, h, he => by
    rw [fitL] at h ⊢
    rw [deepL] at he
    exact ⟨fit_less p d e h.1 (by omega), fitL_less l d e h.2 (by omega)⟩
end
end Lang
def Try.DpAt (p : Lang.Path) : Prop := Lang.small p → Lang.deep p ≤ 1000 → ∃ k, sinewref09_Deep.f k p.f0 p.f1 p.f2 = some (Lang.deep p : Int)
theorem Try.dp_loop (kd : Int) (wd : ByteArray) (l : List Lang.Path) (hs : Lang.smallL l) (hl : l.length ≤ 9223372036854775807) (ih : ∀ q ∈ l, Try.DpAt q) :
    ∀ (m i x : Nat), i + m = l.length → max x (Lang.deepL (l.drop i)) ≤ 999 → ∃ k, sinewref09_Deep.l0 k (x : Int) i kd wd l = some ((max x (Lang.deepL (l.drop i)) + 1 : Nat) : Int)
  | 0, i, x, hi, hx => by
    refine ⟨1, ?_⟩
    rw [List.drop_eq_nil_of_le (by omega)] at hx
    rw [sinewref09_Deep.l0, if_neg (by omega), List.drop_eq_nil_of_le (by omega), Lang.deepL, Try.wrb (by omega) (by omega)]
    simp
  | m + 1, i, x, hi, hx => by
    have hlt : i < l.length := by omega
    have hq : l[i] ∈ l := List.getElem_mem hlt
    rw [Try.lem_get hlt, Lang.deepL] at hx ⊢
    obtain ⟨k1, h1⟩ := ih _ hq (Lang.smallL_get hs _ hq) (by omega)
    obtain ⟨k2, h2⟩ := Try.dp_loop kd wd l hs hl ih m (i + 1) (max x (Lang.deep l[i])) (by omega) (by omega)
    refine ⟨max k1 k2 + 1, ?_⟩
    have h1' := Lang.up (g := fun k => sinewref09_Deep.f k l[i].f0 l[i].f1 l[i].f2) (fun k => (sinewref09_Deep.mono_l k).1 _ _ _) (Nat.le_max_left k1 k2) h1
    have h2' := Lang.up (g := fun k => sinewref09_Deep.l0 k ((max x (Lang.deep l[i]) : Nat) : Int) ((i + 1 : Nat) : Int) kd wd l) (fun k => (sinewref09_Deep.mono_l k).2 _ _ _ _ _) (Nat.le_max_right k1 k2) h2
    have e3 : mx (x : Int) (Lang.deep l[i] : Int) = ((max x (Lang.deep l[i]) : Nat) : Int) := by
      unfold mx
      split <;> omega
    rw [sinewref09_Deep.l0, if_pos (by omega), if_pos (by omega), Try.rd_at hlt, h1', Option.bind_some, Try.nx hlt hl, e3]
    refine Eq.trans h2' ?_
    congr 2
    omega
theorem Try.dp_of (p : Lang.Path) (ih : ∀ q ∈ p.f2, Try.DpAt q) : Try.DpAt p := by
  obtain ⟨kd, wd, l⟩ := p
  intro hs hd
  rw [Lang.small] at hs
  rw [Lang.deep] at hd ⊢
  obtain ⟨k, h⟩ := Try.dp_loop kd wd l hs.2.2 hs.2.1 ih l.length 0 0 (by omega) (by simp; omega)
  refine ⟨k + 1, ?_⟩
  rw [sinewref09_Deep.f]
  simpa using h
theorem Try.dp_at (p : Lang.Path) : Try.DpAt p := Try.dp_of p fun q hq => Try.dp_at q
termination_by SizeOf.sizeOf p
decreasing_by
  obtain ⟨k, w, l⟩ := p
  have := List.sizeOf_lt_of_mem hq
  simp at this ⊢
  omega
end Go.Proofs

