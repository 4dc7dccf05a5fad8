/- Lemmas that the law's proof leans on; no condition. -/
import Derived.Test.YtjobnfbianlpnaaPt5
import Derived.ChangeArms
set_option linter.unusedVariables false
set_option linter.unusedSimpArgs false
namespace Go.Proofs
open Go.RowKit Go.Shelf Go.Proofs.YtjobnfbianlpnaaW.PrintWords Go.Proofs.YtjobnfbianlpnaaW.PrintLast Go.Proofs.Ytjobnfbianlpnaa.P
theorem Try.six {W W' : World} {a0 a1 a2 a3 a4 a5 : Addr} {v0 v1 v2 v3 v4 v5 : Value} (hb : Below W.heap.size W W') (h : W.cell? a0 = some v0 ∧ W.cell? a1 = some v1 ∧ W.cell? a2 = some v2 ∧ W.cell? a3 = some v3 ∧ W.cell? a4 = some v4 ∧ W.cell? a5 = some v5) :
    W'.cell? a0 = some v0 ∧ W'.cell? a1 = some v1 ∧ W'.cell? a2 = some v2 ∧ W'.cell? a3 = some v3 ∧ W'.cell? a4 = some v4 ∧ W'.cell? a5 = some v5 := by
  obtain ⟨h0, h1, h2, h3, h4, h5⟩ := h
  exact ⟨(hb.cell (World.block_lt_of_cell? _ _ h0)).trans h0, (hb.cell (World.block_lt_of_cell? _ _ h1)).trans h1, (hb.cell (World.block_lt_of_cell? _ _ h2)).trans h2, (hb.cell (World.block_lt_of_cell? _ _ h3)).trans h3, (hb.cell (World.block_lt_of_cell? _ _ h4)).trans h4, (hb.cell (World.block_lt_of_cell? _ _ h5)).trans h5⟩
set_option maxHeartbeats 4000000 in
theorem Try.lflat_fix (p : Lang.Path) (hs : Lang.small p) : ∃ r, ∀ (w : World) (A : Option Addr) (c : Nat) (_ : Kd.C k24 w A p.f2.length p.f2) (_ : p.f2.length ≤ c),
    Calls Try.prog 5 #[.agg #[.int .i64 p.f0, .string p.f1, .slice A p.f2.length c]] w fun e w' => e = .returned (.bool r) ∧ Below w.heap.size w w' := by
  obtain ⟨k, r, hf⟩ := Try.flat_at p hs ⟨false, ⟨#[]⟩⟩ ⟨false, ⟨#[]⟩⟩
  refine ⟨r, fun w A c hl hc => ?_⟩
  obtain ⟨W, hW⟩ : ∃ W, (w.alloc (.cells #[.int .i64 p.f0, .string p.f1, .slice A p.f2.length c] 24)).alloc (.cells #[.bool false, .string ⟨#[]⟩, .int .i64 p.f0, .string p.f1, .slice A p.f2.length c, .bool false, .string ⟨#[]⟩] 44) = W := ⟨_, rfl⟩
  obtain ⟨hsz, hk1, hk2, hbW⟩ := Try.two hW
  have hC : Kd.C k44 W (some ⟨w.heap.size + 1, 0, none⟩) 1 [⟨⟨false, ⟨#[]⟩⟩, p, ⟨false, ⟨#[]⟩⟩⟩] := Try.C_block (xs := [(⟨⟨false, ⟨#[]⟩⟩, p, ⟨false, ⟨#[]⟩⟩⟩ : S44)]) hk2 (by simp) (fun j q hq => by
    rcases j with _ | j
    · cases hq
      refine ⟨_, rfl, k44_mk W ⟨⟨false, ⟨#[]⟩⟩, p, ⟨false, ⟨#[]⟩⟩⟩ hc (Kd.C_below hl hbW), fun i u hu => ?_⟩
      rw [Nat.zero_mul, Nat.zero_add, ← Array.getElem?_toList]
      exact hu
    · simp at hq)
  have hfl := sinewref09_Flat.calls k 0 none 0 [] (some ⟨w.heap.size + 1, 0, none⟩) 1 [⟨⟨false, ⟨#[]⟩⟩, p, ⟨false, ⟨#[]⟩⟩⟩] none 0 [] r W (Kd.C_nil _ _) (by simp) hC (Nat.le_refl _) (Kd.C_nil _ _) (by simp) hf
  simp only [List.length_cons, List.length_nil, Nat.zero_add] at hfl
  have HB := Aside0.mk hbW
  have HW := Aside0.mk hW
  rw [← hW] at hfl
  clear hf hW hsz hk1 hk2 hbW hC hl hc hs
  go_enter Try.func5, Try.ntmps5
  go_wp2_with fail
  refine hfl.mono ?_
  rw [HW.out]
  rintro e w2 ⟨rfl, hb2⟩
  have HB2 := Aside0.mk (below_step HB.out hb2)
  clear hfl hb2
  go_wp2_with fail
  go_ret
  exact ⟨rfl, HB2.out⟩
def Try.Tf (p q : Lang.Path) : Prop := ((Lang.fitP p 12 ∧ Lang.places p ≤ 24) ∧ Lang.fitP q 12 ∧ Lang.places q ≤ 24) ∧ Lang.places p + Lang.places q ≤ 16
def Try.Rest (p q : Lang.Path) : Prop := (Try.Tf p q ∧ Lang.deep p ≤ 10) ∧ Lang.deep q ≤ 10
theorem Try.rest_of {p q : Lang.Path} (h1 : Try.Tf p q) (h2 : Lang.deep p ≤ 10) (h3 : Lang.deep q ≤ 10) : Try.Rest p q := ⟨⟨h1, h2⟩, h3⟩
theorem Try.sum_of {a b : Nat} {x y : Int} (hx : (a : Int) = x) (hy : (b : Int) = y) {P Q : Prop} (h : (P ∧ a ≤ 24) ∧ Q ∧ b ≤ 24) (hd : decide (16 < wrap64 (x + y)) = false) : a + b ≤ 16 := by
  have h1 := h.1.2
  have h2 := h.2.2
  rw [Try.wrb (by omega) (by omega)] at hd
  have := of_decide_eq_false hd
  omega
theorem Try.deep_of {a : Nat} {x : Int} (hx : (a : Int) = x) (hd : decide (10 < x) = false) : a ≤ 10 := by
  have := of_decide_eq_false hd
  omega
structure Try.Nine (W : World) (g g1 g2 : Nat) (p q : Lang.Path) (A : Option Addr) (c : Nat) (B : Option Addr) (d : Nat) : Prop where
  all : W.cell? ⟨g, 0, none⟩ = some (.int .i64 p.f0) ∧ W.cell? ⟨g, 1, none⟩ = some (.string p.f1) ∧ W.cell? ⟨g, 2, none⟩ = some (.slice A p.f2.length c) ∧ W.cell? ⟨g1, 0, none⟩ = some (.int .i64 q.f0) ∧ W.cell? ⟨g1, 1, none⟩ = some (.string q.f1) ∧ W.cell? ⟨g1, 2, none⟩ = some (.slice B q.f2.length d) ∧ W.cell? ⟨g2, 0, none⟩ = some (.int .i64 1) ∧ W.cell? ⟨g2, 1, none⟩ = some (.string Lang.wp) ∧ W.cell? ⟨g2, 2, none⟩ = some (.slice none 0 0)
theorem Try.Nine.below {W W' : World} {g g1 g2 : Nat} {p q : Lang.Path} {A : Option Addr} {c : Nat} {B : Option Addr} {d : Nat} (h : Try.Nine W g g1 g2 p q A c B d) (hb : Below W.heap.size W W') : Try.Nine W' g g1 g2 p q A c B d := by
  obtain ⟨h0, h1, h2, h3, h4, h5, h6, h7, h8⟩ := h.all
  exact ⟨⟨(hb.cell (World.block_lt_of_cell? _ _ h0)).trans h0, (hb.cell (World.block_lt_of_cell? _ _ h1)).trans h1, (hb.cell (World.block_lt_of_cell? _ _ h2)).trans h2, (hb.cell (World.block_lt_of_cell? _ _ h3)).trans h3, (hb.cell (World.block_lt_of_cell? _ _ h4)).trans h4, (hb.cell (World.block_lt_of_cell? _ _ h5)).trans h5, (hb.cell (World.block_lt_of_cell? _ _ h6)).trans h6, (hb.cell (World.block_lt_of_cell? _ _ h7)).trans h7, (hb.cell (World.block_lt_of_cell? _ _ h8)).trans h8⟩⟩
theorem Try.nine_of {W : World} {g g1 g2 : Nat} {p q : Lang.Path} {A : Option Addr} {c : Nat} {B : Option Addr} {d : Nat} (h : W.cell? ⟨g, 0, none⟩ = some (.int .i64 p.f0) ∧ W.cell? ⟨g, 1, none⟩ = some (.string p.f1) ∧ W.cell? ⟨g, 2, none⟩ = some (.slice A p.f2.length c) ∧ W.cell? ⟨g1, 0, none⟩ = some (.int .i64 q.f0) ∧ W.cell? ⟨g1, 1, none⟩ = some (.string q.f1) ∧ W.cell? ⟨g1, 2, none⟩ = some (.slice B q.f2.length d)) (hk : W.heap[g2]? = some (.cells #[.int .i64 1, .string Lang.wp, .slice none 0 0] 24 (0, 0))) : Try.Nine W g g1 g2 p q A c B d :=
  ⟨⟨h.1, h.2.1, h.2.2.1, h.2.2.2.1, h.2.2.2.2.1, h.2.2.2.2.2, (blk_cell hk 0).trans rfl, (blk_cell hk 1).trans rfl, (blk_cell hk 2).trans rfl⟩⟩
theorem Try.twenty {W W' : World} {a0 a1 a2 a3 a4 a5 a6 a7 a8 a9 a10 a11 a12 a13 a14 a15 a16 a17 a18 a19 : Addr} {v0 v1 v2 v3 v4 v5 v6 v7 v8 v9 v10 v11 v12 v13 v14 v15 v16 v17 v18 v19 : Value} (hb : Below W.heap.size W W') (h : W.cell? a0 = some v0 ∧ W.cell? a1 = some v1 ∧ W.cell? a2 = some v2 ∧ W.cell? a3 = some v3 ∧ W.cell? a4 = some v4 ∧ W.cell? a5 = some v5 ∧ W.cell? a6 = some v6 ∧ W.cell? a7 = some v7 ∧ W.cell? a8 = some v8 ∧ W.cell? a9 = some v9 ∧ W.cell? a10 = some v10 ∧ W.cell? a11 = some v11 ∧ W.cell? a12 = some v12 ∧ W.cell? a13 = some v13 ∧ W.cell? a14 = some v14 ∧ W.cell? a15 = some v15 ∧ W.cell? a16 = some v16 ∧ W.cell? a17 = some v17 ∧ W.cell? a18 = some v18 ∧ W.cell? a19 = some v19) : W'.cell? a0 = some v0 ∧ W'.cell? a1 = some v1 ∧ W'.cell? a2 = some v2 ∧ W'.cell? a3 = some v3 ∧ W'.cell? a4 = some v4 ∧ W'.cell? a5 = some v5 ∧ W'.cell? a6 = some v6 ∧ W'.cell? a7 = some v7 ∧ W'.cell? a8 = some v8 ∧ W'.cell? a9 = some v9 ∧ W'.cell? a10 = some v10 ∧ W'.cell? a11 = some v11 ∧ W'.cell? a12 = some v12 ∧ W'.cell? a13 = some v13 ∧ W'.cell? a14 = some v14 ∧ W'.cell? a15 = some v15 ∧ W'.cell? a16 = some v16 ∧ W'.cell? a17 = some v17 ∧ W'.cell? a18 = some v18 ∧ W'.cell? a19 = some v19 := by
  obtain ⟨h0, h1, h2, h3, h4, h5, h6, h7, h8, h9, h10, h11, h12, h13, h14, h15, h16, h17, h18, h19⟩ := h
  exact ⟨(hb.cell (World.block_lt_of_cell? _ _ h0)).trans h0, (hb.cell (World.block_lt_of_cell? _ _ h1)).trans h1, (hb.cell (World.block_lt_of_cell? _ _ h2)).trans h2, (hb.cell (World.block_lt_of_cell? _ _ h3)).trans h3, (hb.cell (World.block_lt_of_cell? _ _ h4)).trans h4, (hb.cell (World.block_lt_of_cell? _ _ h5)).trans h5, (hb.cell (World.block_lt_of_cell? _ _ h6)).trans h6, (hb.cell (World.block_lt_of_cell? _ _ h7)).trans h7, (hb.cell (World.block_lt_of_cell? _ _ h8)).trans h8, (hb.cell (World.block_lt_of_cell? _ _ h9)).trans h9, (hb.cell (World.block_lt_of_cell? _ _ h10)).trans h10, (hb.cell (World.block_lt_of_cell? _ _ h11)).trans h11, (hb.cell (World.block_lt_of_cell? _ _ h12)).trans h12, (hb.cell (World.block_lt_of_cell? _ _ h13)).trans h13, (hb.cell (World.block_lt_of_cell? _ _ h14)).trans h14, (hb.cell (World.block_lt_of_cell? _ _ h15)).trans h15, (hb.cell (World.block_lt_of_cell? _ _ h16)).trans h16, (hb.cell (World.block_lt_of_cell? _ _ h17)).trans h17, (hb.cell (World.block_lt_of_cell? _ _ h18)).trans h18, (hb.cell (World.block_lt_of_cell? _ _ h19)).trans h19⟩
theorem Try.box_cells {W : World} {g : Nat} {t : TypeId} {v0 v1 v2 v3 v4 : Value} (hk : W.heap[g]? = some (.cells #[v0, v1, v2, v3, v4] t (0, 0))) : W.cell? ⟨g, 0, none⟩ = some v0 ∧ W.cell? ⟨g, 1, none⟩ = some v1 ∧ W.cell? ⟨g, 2, none⟩ = some v2 ∧ W.cell? ⟨g, 3, none⟩ = some v3 ∧ W.cell? ⟨g, 4, none⟩ = some v4 :=
  ⟨(blk_cell hk 0).trans rfl, (blk_cell hk 1).trans rfl, (blk_cell hk 2).trans rfl, (blk_cell hk 3).trans rfl, (blk_cell hk 4).trans rfl⟩
theorem Try.C_two (x y : Lang.Path) {W : World} {g : Nat} {f : Nat × Nat} {Ax : Option Addr} {cx : Nat} {Ay : Option Addr} {cy : Nat} (hk : W.heap[g]? = some (.cells #[.int .i64 x.f0, .string x.f1, .slice Ax x.f2.length cx, .int .i64 y.f0, .string y.f1, .slice Ay y.f2.length cy] 24 f)) (lx : x.f2.length ≤ cx) (ly : y.f2.length ≤ cy) (hx : Kd.C k24 W Ax x.f2.length x.f2) (hy : Kd.C k24 W Ay y.f2.length y.f2) : Kd.C k24 W (some ⟨g, 0, none⟩) 2 [x, y] := Try.C_block (xs := [x, y]) hk (by simp) (fun j z hz => by
  rcases j with _ | _ | j
  · cases hz
    refine ⟨_, rfl, k24_mk W x lx hx, fun i u hu => ?_⟩
    rw [← Array.getElem?_toList]
    rcases i with _ | _ | _ | i
    · exact hu
    · exact hu
    · exact hu
    · simp at hu
  · cases hz
    refine ⟨_, rfl, k24_mk W y ly hy, fun i u hu => ?_⟩
    rw [← Array.getElem?_toList]
    rcases i with _ | _ | _ | i
    · exact hu
    · exact hu
    · exact hu
    · simp at hu
  · simp at hz)
theorem Try.C_three (x y z_ : Lang.Path) {W : World} {g : Nat} {f : Nat × Nat} {Ax : Option Addr} {cx : Nat} {Ay : Option Addr} {cy : Nat} {Az_ : Option Addr} {cz_ : Nat} (hk : W.heap[g]? = some (.cells #[.int .i64 x.f0, .string x.f1, .slice Ax x.f2.length cx, .int .i64 y.f0, .string y.f1, .slice Ay y.f2.length cy, .int .i64 z_.f0, .string z_.f1, .slice Az_ z_.f2.length cz_] 24 f)) (lx : x.f2.length ≤ cx) (ly : y.f2.length ≤ cy) (lz_ : z_.f2.length ≤ cz_) (hx : Kd.C k24 W Ax x.f2.length x.f2) (hy : Kd.C k24 W Ay y.f2.length y.f2) (hz_ : Kd.C k24 W Az_ z_.f2.length z_.f2) : Kd.C k24 W (some ⟨g, 0, none⟩) 3 [x, y, z_] := Try.C_block (xs := [x, y, z_]) hk (by simp) (fun j z hz => by
  rcases j with _ | _ | _ | j
  · cases hz
    refine ⟨_, rfl, k24_mk W x lx hx, fun i u hu => ?_⟩
    rw [← Array.getElem?_toList]
    rcases i with _ | _ | _ | i
    · exact hu
    · exact hu
    · exact hu
    · simp at hu
  · cases hz
    refine ⟨_, rfl, k24_mk W y ly hy, fun i u hu => ?_⟩
    rw [← Array.getElem?_toList]
    rcases i with _ | _ | _ | i
    · exact hu
    · exact hu
    · exact hu
    · simp at hu
  · cases hz
    refine ⟨_, rfl, k24_mk W z_ lz_ hz_, fun i u hu => ?_⟩
    rw [← Array.getElem?_toList]
    rcases i with _ | _ | _ | i
    · exact hu
    · exact hu
    · exact hu
    · simp at hu
  · simp at hz)
def Try.pa (p q : Lang.Path) : Lang.Path := ⟨3, ⟨#[]⟩, [p, q, ⟨1, Lang.wp, []⟩]⟩
def Try.pb (p q : Lang.Path) : Lang.Path := ⟨3, ⟨#[]⟩, [⟨1, Lang.wp, []⟩, ⟨3, ⟨#[]⟩, [q, p]⟩]⟩
def Try.pc (p q : Lang.Path) : Lang.Path := ⟨2, ⟨#[]⟩, [p, q, ⟨1, Lang.wp, []⟩]⟩
def Try.pd (p q : Lang.Path) : Lang.Path := ⟨2, ⟨#[]⟩, [p, ⟨2, ⟨#[]⟩, [q, ⟨1, Lang.wp, []⟩]⟩]⟩
def Try.Okk (p : Lang.Path) : Prop := Lang.okP p ∧ Lang.fitP p 12 ∧ Lang.places p ≤ 24
theorem Try.okk_of {p : Lang.Path} (h1 : Lang.fitP p 12) (h2 : Lang.places p ≤ 24) : Try.Okk p := ⟨Lang.fit_okP p 12 h1, h1, h2⟩
theorem Try.turns_ok {p q : Lang.Path} (h : Try.Rest p q) : Try.Okk (Try.pa p q) ∧ Try.Okk (Try.pb p q) ∧ Try.Okk (Try.pc p q) ∧ Try.Okk (Try.pd p q) := by
  obtain ⟨⟨⟨⟨⟨hp, _⟩, hq, _⟩, hn⟩, h1⟩, h2⟩ := h
  have hw : Lang.isWord Lang.wp = true := by decide
  have p11 : Lang.fitP p 11 := Lang.fit_less p 12 11 hp (by omega)
  have q11 : Lang.fitP q 11 := Lang.fit_less q 12 11 hq (by omega)
  have p10 : Lang.fitP p 10 := Lang.fit_less p 12 10 hp h1
  have q10 : Lang.fitP q 10 := Lang.fit_less q 12 10 hq h2
  refine ⟨Try.okk_of ?_ ?_, Try.okk_of ?_ ?_, Try.okk_of ?_ ?_, Try.okk_of ?_ ?_⟩
  · simp [Try.pa, Lang.fitP, Lang.fitL, p11, q11, hw]
  · simp [Try.pa, Lang.places, Lang.placesL]; omega
  · simp [Try.pb, Lang.fitP, Lang.fitL, p10, q10, hw]
  · simp [Try.pb, Lang.places, Lang.placesL]; omega
  · simp [Try.pc, Lang.fitP, Lang.fitL, p11, q11, hw]
  · simp [Try.pc, Lang.places, Lang.placesL]; omega
  · simp [Try.pd, Lang.fitP, Lang.fitL, p11, q10, hw]
  · simp [Try.pd, Lang.places, Lang.placesL]; omega
theorem Try.turns_eq {p q : Lang.Path} (h : Try.Rest p q) {a1 a2 a3 a4 : Lang.Auto} (h1 : Lang.AutoOf (Try.pa p q) a1) (h2 : Lang.AutoOf (Try.pb p q) a2) (h3 : Lang.AutoOf (Try.pc p q) a3) (h4 : Lang.AutoOf (Try.pd p q) a4) (l : List ByteArray) :
    Lang.accepts a1 l = Lang.accepts a2 l ∧ Lang.accepts a3 l = Lang.accepts a4 l := by
  obtain ⟨⟨_, f1, n1⟩, ⟨_, f2, n2⟩, ⟨_, f3, n3⟩, _, f4, n4⟩ := Try.turns_ok h
  constructor
  · rw [Bool.eq_iff_iff, Lang.accepts_lang _ _ h1 f1 n1, Lang.accepts_lang _ _ h2 f2 n2]
    exact Lang.turns_alt p q ⟨1, Lang.wp, []⟩ _ _ _ l
  · rw [Bool.eq_iff_iff, Lang.accepts_lang _ _ h3 f3 n3, Lang.accepts_lang _ _ h4 f4 n4]
    exact Lang.turns_seq p q ⟨1, Lang.wp, []⟩ _ _ _ l
set_option maxHeartbeats 8000000 in
set_option maxRecDepth 100000 in
theorem Try.pathTurns_calls (p q : Lang.Path) (hsp : Lang.small p) (hsq : Lang.small q) (l : List ByteArray) (w : World) (A B C : Option Addr) (c d cl : Nat) (hlp : Kd.C k24 w A p.f2.length p.f2) (hcp : p.f2.length ≤ c) (hlq : Kd.C k24 w B q.f2.length q.f2) (hcq : q.f2.length ≤ d) (hll : Kd.string.C w C l.length l) :
    Calls Try.prog 3 #[.agg #[.int .i64 p.f0, .string p.f1, .slice A p.f2.length c], .agg #[.int .i64 q.f0, .string q.f1, .slice B q.f2.length d], .slice C l.length cl] w fun e w' => e = .returned (.bool true) ∧ Below w.heap.size w w' := by
  obtain ⟨r1, hr1⟩ := Try.lflat_fix p hsp
  obtain ⟨r2, hr2⟩ := Try.lflat_fix q hsq
  obtain ⟨km1, m1, hm1, hf1⟩ := Try.may_at p hsp
  obtain ⟨km2, m2, hm2, hf2⟩ := Try.may_at q hsq
  have HSP := Aside0.mk hsp
  have HSQ := Aside0.mk hsq
  have HLP := Aside0.mk hlp
  have HCP := Aside0.mk hcp
  have HLQ := Aside0.mk hlq
  have HCQ := Aside0.mk hcq
  have HLL := Aside0.mk hll
  have HF1 := Aside0.mk hf1
  have HF2 := Aside0.mk hf2
  have KF1 : Aside0 (∀ W, Below w.heap.size w W → _) := ⟨fun W hb => hr1 W A c (Kd.C_below hlp hb) hcp⟩
  have KF2 : Aside0 (∀ W, Below w.heap.size w W → _) := ⟨fun W hb => hr2 W B d (Kd.C_below hlq hb) hcq⟩
  have KM1 : Aside0 (∀ W, Below w.heap.size w W → _) := ⟨fun W hb => sinewref09_MayPath.calls km1 p.f0 p.f1 A c p.f2 m1 W (Kd.C_below hlp hb) hcp hm1⟩
  have KM2 : Aside0 (∀ W, Below w.heap.size w W → _) := ⟨fun W hb => sinewref09_MayPath.calls km2 q.f0 q.f1 B d q.f2 m2 W (Kd.C_below hlq hb) hcq hm2⟩
  have hlen : l.length ≤ 9223372036854775807 := Kd.C_max hll
  clear hsp hsq hlp hcp hlq hcq hll hr1 hr2 hm1 hm2 hf1 hf2
  go_enter Try.func3, Try.ntmps3
  go_upto_region 1 with fail
  obtain ⟨W, hW⟩ : ∃ W, (w.alloc (.cells #[.int .i64 p.f0, .string p.f1, .slice A p.f2.length c] 24)).alloc (.cells #[.int .i64 q.f0, .string q.f1, .slice B q.f2.length d] 24) = W := ⟨_, rfl⟩
  obtain ⟨hsz, hk1, hk2, hbW⟩ := Try.two hW
  rw [hW]
  obtain ⟨g, hg⟩ : ∃ g, w.heap.size = g := ⟨_, rfl⟩
  obtain ⟨g1, hg1⟩ : ∃ g1, w.heap.size + 1 = g1 := ⟨_, rfl⟩
  rw [hg1]
  rw [hg1] at hk2
  have HW := Aside0.mk hW
  have HSZ := Aside0.mk hsz
  have HG1 := Aside0.mk hg1
  have HK1 := Aside0.mk hk1
  have HK2 := Aside0.mk hk2
  have HB := Aside0.mk (below_drew1 hbW)
  have c0 := (blk_cell hk1 0).trans (show _ = some (Value.int .i64 p.f0) from rfl)
  have c1 := (blk_cell hk1 1).trans (show _ = some (Value.string p.f1) from rfl)
  have c2 := (blk_cell hk1 2).trans (show _ = some (Value.slice A p.f2.length c) from rfl)
  have c3 := (blk_cell hk2 0).trans (show _ = some (Value.int .i64 q.f0) from rfl)
  have c4 := (blk_cell hk2 1).trans (show _ = some (Value.string q.f1) from rfl)
  have c5 := (blk_cell hk2 2).trans (show _ = some (Value.slice B q.f2.length d) from rfl)
  clear hW hsz hg1 hk1 hk2 hbW hg
  refine start_ (n := 41) (S := fun w' => w'.cell? ⟨w.heap.size, 0, none⟩ = some (.int .i64 p.f0) ∧ w'.cell? ⟨w.heap.size, 1, none⟩ = some (.string p.f1) ∧ w'.cell? ⟨w.heap.size, 2, none⟩ = some (.slice A p.f2.length c) ∧ w'.cell? ⟨g1, 0, none⟩ = some (.int .i64 q.f0) ∧ w'.cell? ⟨g1, 1, none⟩ = some (.string q.f1) ∧ w'.cell? ⟨g1, 2, none⟩ = some (.slice B q.f2.length d)) (ds := []) #[false, false, false, false, false, false, false, false, false, false, false, false, false, false, false, false, false, false, false, false, false, false, false, false, false, false, false, false, false, false, false, false, false, false, false, false, false, false, false, false, false] (by kernel_rfl) rfl rfl ⟨(by go_simp), (by go_simp), (by go_simp), (by go_simp), (by go_simp), (by go_simp)⟩ (fun hHeld => ?_)
  refine join_ (σ := Value × Value × Value × Bool) 37 #[true, true, true, true, false, false, false, false, false, false, false, false, false, false, false, false, false, false, false, false, false, false, false, false, false, false, false, false, false, false, false, false, false, false, false, false, false, false, false, false, false] (fun s => [(16, s.1), (17, s.2.1), (18, s.2.2.1), (19, .bool s.2.2.2)]) (fun s w' => (w'.cell? ⟨w.heap.size, 0, none⟩ = some (.int .i64 p.f0) ∧ w'.cell? ⟨w.heap.size, 1, none⟩ = some (.string p.f1) ∧ w'.cell? ⟨w.heap.size, 2, none⟩ = some (.slice A p.f2.length c) ∧ w'.cell? ⟨g1, 0, none⟩ = some (.int .i64 q.f0) ∧ w'.cell? ⟨g1, 1, none⟩ = some (.string q.f1) ∧ w'.cell? ⟨g1, 2, none⟩ = some (.slice B q.f2.length d)) ∧ Aside0 (Below w.heap.size w w') ∧ Aside0 (s.2.2.2 = false → True)) ?_ ?_
  rotate_left
  · intro hJ
    refine take_ (i := 0) (N := some 16) (v := ?_) (a' := ?_) #[true, false, false, false, false, false, false, false, false, false, false, false, false, false, false, false, false, false, false, false, false, false, false, false, false, false, false, false, false, false, false, false, false, false, false, false, false, false, false, false, false] rfl rfl (by kernel_rfl) (fun _ _ _ h => h) (Or.inl ⟨by rfl, ?_⟩) hHeld ?_ ?_
    rotate_left
    · rintro w' ⟨s0, s1, s2, s3, s4, s5⟩
      go_simp
      with_reducible rfl
    rotate_left
    · simp only [Act.put, List.setIfInBounds_toArray, List.set_cons_zero, List.set_cons_succ, i64_w, i32_w]
      rfl
    refine one_ (i := 1) (N := some 17) #[true, true, false, false, false, false, false, false, false, false, false, false, false, false, false, false, false, false, false, false, false, false, false, false, false, false, false, false, false, false, false, false, false, false, false, false, false, false, false, false, false] rfl rfl (by kernel_rfl) (by decide) (fun K hK => ?_)
    refine goes_ Try.func5 (by kernel_rfl) rfl #[.agg #[.int .i64 p.f0, .string p.f1, .slice A p.f2.length c]] (by rfl) rfl rfl (by simp only [List.map_toArray, List.map_cons, List.map_nil]; rfl) ?_
    with_reducible refine (KF1.out _ HB.out).mono ?_
    rintro e x1 ⟨rfl, hb⟩
    refine ⟨_, rfl, ?_⟩
    have HB1 := Aside0.mk (below_step HB.out hb)
    refine hK.out _ _ (Try.six hb hHeld) (fun hHeld => ?_)
    clear hK K
    refine norm_ (a' := ?_) ?_ ?_
    rotate_left
    · show Act.put _ (some 17) _ = _
      simp only [Act.put, List.setIfInBounds_toArray, List.set_cons_zero, List.set_cons_succ, i64_w, i32_w]
      rfl
    refine pure_ (i := 2) (N := some 18) (v := ?_) (a' := ?_) #[true, true, true, false, false, false, false, false, false, false, false, false, false, false, false, false, false, false, false, false, false, false, false, false, false, false, false, false, false, false, false, false, false, false, false, false, false, false, false, false, false] rfl rfl (by kernel_rfl) (fun _ _ _ h => h) (Or.inl ⟨by rfl, ?_⟩) ?_ ?_
    rotate_left
    · intro w'
      go_simp
      with_reducible rfl
    rotate_left
    · simp only [Act.put, List.setIfInBounds_toArray, List.set_cons_zero, List.set_cons_succ, i64_w, i32_w]
      rfl
    refine pure_ (i := 3) (N := some 19) (v := ?_) (a' := ?_) #[true, true, true, true, false, false, false, false, false, false, false, false, false, false, false, false, false, false, false, false, false, false, false, false, false, false, false, false, false, false, false, false, false, false, false, false, false, false, false, false, false] rfl rfl (by kernel_rfl) (fun _ _ _ h => h) (Or.inl ⟨by rfl, ?_⟩) ?_ ?_
    rotate_left
    · intro w'
      go_simp
      with_reducible rfl
    rotate_left
    · simp only [Act.put, List.setIfInBounds_toArray, List.set_cons_zero, List.set_cons_succ, i64_w, i32_w]
      rfl
    exact norm_ (by first | (simp only [putAll, Act.put, List.setIfInBounds_toArray, List.set_cons_zero, List.set_cons_succ]; done) | (simp only [putAll, Act.put, List.setIfInBounds_toArray, List.set_cons_zero, List.set_cons_succ]; rfl)) (hJ ⟨.agg #[.int .i64 p.f0, .string p.f1, .slice A p.f2.length c], .bool r1, .bool (!r1), (!r1)⟩ _ ⟨hHeld, HB1, ⟨fun _ => trivial⟩⟩)
  clear hHeld HB
  rintro ⟨u0_0, u0_1, u0_2, b⟩ y0 ⟨hHeld, HB, hQ⟩
  refine norm_ (a' := ?_) ?_ ?_
  rotate_left
  · simp only [putAll, Act.put, List.setIfInBounds_toArray, List.set_cons_zero, List.set_cons_succ]
    rfl
  refine join_ (σ := Value × Value × Value × Bool) 32 #[true, true, true, true, true, true, true, true, true, false, false, false, false, false, false, false, false, false, false, false, false, false, false, false, false, false, false, false, false, false, false, false, false, false, false, false, false, false, false, false, false] (fun s => [(20, s.1), (21, s.2.1), (22, s.2.2.1), (23, .bool s.2.2.2), (24, .bool s.2.2.2)]) (fun s w' => (w'.cell? ⟨w.heap.size, 0, none⟩ = some (.int .i64 p.f0) ∧ w'.cell? ⟨w.heap.size, 1, none⟩ = some (.string p.f1) ∧ w'.cell? ⟨w.heap.size, 2, none⟩ = some (.slice A p.f2.length c) ∧ w'.cell? ⟨g1, 0, none⟩ = some (.int .i64 q.f0) ∧ w'.cell? ⟨g1, 1, none⟩ = some (.string q.f1) ∧ w'.cell? ⟨g1, 2, none⟩ = some (.slice B q.f2.length d)) ∧ Aside0 (Below w.heap.size w w') ∧ Aside0 (s.2.2.2 = false → True)) ?_ ?_
  rotate_left
  · intro hJ
    cases b
    · skip
      refine take_ (i := 4) (N := some 20) (v := ?_) (a' := ?_) #[true, true, true, true, true, false, false, false, false, false, false, false, false, false, false, false, false, false, false, false, false, false, false, false, false, false, false, false, false, false, false, false, false, false, false, false, false, false, false, false, false] rfl rfl (by kernel_rfl) (fun _ _ _ h => h) (Or.inl ⟨by rfl, ?_⟩) hHeld ?_ ?_
      rotate_left
      · rintro w' ⟨s0, s1, s2, s3, s4, s5⟩
        go_simp
        with_reducible rfl
      rotate_left
      · simp only [Act.put, List.setIfInBounds_toArray, List.set_cons_zero, List.set_cons_succ, i64_w, i32_w]
        rfl
      refine one_ (i := 5) (N := some 21) #[true, true, true, true, true, true, false, false, false, false, false, false, false, false, false, false, false, false, false, false, false, false, false, false, false, false, false, false, false, false, false, false, false, false, false, false, false, false, false, false, false] rfl rfl (by kernel_rfl) (by decide) (fun K hK => ?_)
      refine goes_ Try.func5 (by kernel_rfl) rfl #[.agg #[.int .i64 q.f0, .string q.f1, .slice B q.f2.length d]] (by rfl) rfl rfl (by simp only [List.map_toArray, List.map_cons, List.map_nil]; rfl) ?_
      with_reducible refine (KF2.out _ HB.out).mono ?_
      rintro e x1 ⟨rfl, hb⟩
      refine ⟨_, rfl, ?_⟩
      have HB1 := Aside0.mk (below_step HB.out hb)
      refine hK.out _ _ (Try.six hb hHeld) (fun hHeld => ?_)
      clear hK K
      refine norm_ (a' := ?_) ?_ ?_
      rotate_left
      · show Act.put _ (some 21) _ = _
        simp only [Act.put, List.setIfInBounds_toArray, List.set_cons_zero, List.set_cons_succ, i64_w, i32_w]
        rfl
      refine pure_ (i := 6) (N := some 22) (v := ?_) (a' := ?_) #[true, true, true, true, true, true, true, false, false, false, false, false, false, false, false, false, false, false, false, false, false, false, false, false, false, false, false, false, false, false, false, false, false, false, false, false, false, false, false, false, false] rfl rfl (by kernel_rfl) (fun _ _ _ h => h) (Or.inl ⟨by rfl, ?_⟩) ?_ ?_
      rotate_left
      · intro w'
        go_simp
        with_reducible rfl
      rotate_left
      · simp only [Act.put, List.setIfInBounds_toArray, List.set_cons_zero, List.set_cons_succ, i64_w, i32_w]
        rfl
      refine pure_ (i := 7) (N := some 23) (v := ?_) (a' := ?_) #[true, true, true, true, true, true, true, true, false, false, false, false, false, false, false, false, false, false, false, false, false, false, false, false, false, false, false, false, false, false, false, false, false, false, false, false, false, false, false, false, false] rfl rfl (by kernel_rfl) (fun _ _ _ h => h) (Or.inl ⟨by rfl, ?_⟩) ?_ ?_
      rotate_left
      · intro w'
        go_simp
        with_reducible rfl
      rotate_left
      · simp only [Act.put, List.setIfInBounds_toArray, List.set_cons_zero, List.set_cons_succ, i64_w, i32_w]
        rfl
      refine pure_ (i := 8) (N := some 24) (v := ?_) (a' := ?_) #[true, true, true, true, true, true, true, true, true, false, false, false, false, false, false, false, false, false, false, false, false, false, false, false, false, false, false, false, false, false, false, false, false, false, false, false, false, false, false, false, false] rfl rfl (by kernel_rfl) (fun _ _ _ h => h) (Or.inl ⟨by rfl, ?_⟩) ?_ ?_
      rotate_left
      · intro w'
        go_simp
        with_reducible rfl
      rotate_left
      · simp only [Act.put, List.setIfInBounds_toArray, List.set_cons_zero, List.set_cons_succ, i64_w, i32_w]
        rfl
      exact norm_ (by first | (simp only [putAll, Act.put, List.setIfInBounds_toArray, List.set_cons_zero, List.set_cons_succ]; done) | (simp only [putAll, Act.put, List.setIfInBounds_toArray, List.set_cons_zero, List.set_cons_succ]; rfl)) (hJ ⟨.agg #[.int .i64 q.f0, .string q.f1, .slice B q.f2.length d], .bool r2, .bool (!r2), (!r2)⟩ _ ⟨hHeld, HB1, ⟨fun _ => trivial⟩⟩)
    · skip
      refine pure_ (i := 4) (N := some 20) (v := undef) (a' := ?_) #[true, true, true, true, true, false, false, false, false, false, false, false, false, false, false, false, false, false, false, false, false, false, false, false, false, false, false, false, false, false, false, false, false, false, false, false, false, false, false, false, false] rfl rfl (by kernel_rfl) (fun _ _ _ h => h) (Or.inr ⟨by rfl, rfl⟩) ?_ ?_
      rotate_left
      · simp only [Act.put, List.setIfInBounds_toArray, List.set_cons_zero, List.set_cons_succ, i64_w, i32_w]
        rfl
      refine pure_ (i := 5) (N := some 21) (v := undef) (a' := ?_) #[true, true, true, true, true, true, false, false, false, false, false, false, false, false, false, false, false, false, false, false, false, false, false, false, false, false, false, false, false, false, false, false, false, false, false, false, false, false, false, false, false] rfl rfl (by kernel_rfl) (fun _ _ _ h => h) (Or.inr ⟨by rfl, rfl⟩) ?_ ?_
      rotate_left
      · simp only [Act.put, List.setIfInBounds_toArray, List.set_cons_zero, List.set_cons_succ, i64_w, i32_w]
        rfl
      refine pure_ (i := 6) (N := some 22) (v := undef) (a' := ?_) #[true, true, true, true, true, true, true, false, false, false, false, false, false, false, false, false, false, false, false, false, false, false, false, false, false, false, false, false, false, false, false, false, false, false, false, false, false, false, false, false, false] rfl rfl (by kernel_rfl) (fun _ _ _ h => h) (Or.inr ⟨by rfl, rfl⟩) ?_ ?_
      rotate_left
      · simp only [Act.put, List.setIfInBounds_toArray, List.set_cons_zero, List.set_cons_succ, i64_w, i32_w]
        rfl
      refine pure_ (i := 7) (N := some 23) (v := ?_) (a' := ?_) #[true, true, true, true, true, true, true, true, false, false, false, false, false, false, false, false, false, false, false, false, false, false, false, false, false, false, false, false, false, false, false, false, false, false, false, false, false, false, false, false, false] rfl rfl (by kernel_rfl) (fun _ _ _ h => h) (Or.inl ⟨by rfl, ?_⟩) ?_ ?_
      rotate_left
      · intro w'
        go_simp
        with_reducible rfl
      rotate_left
      · simp only [Act.put, List.setIfInBounds_toArray, List.set_cons_zero, List.set_cons_succ, i64_w, i32_w]
        rfl
      refine pure_ (i := 8) (N := some 24) (v := ?_) (a' := ?_) #[true, true, true, true, true, true, true, true, true, false, false, false, false, false, false, false, false, false, false, false, false, false, false, false, false, false, false, false, false, false, false, false, false, false, false, false, false, false, false, false, false] rfl rfl (by kernel_rfl) (fun _ _ _ h => h) (Or.inl ⟨by rfl, ?_⟩) ?_ ?_
      rotate_left
      · intro w'
        go_simp
        with_reducible rfl
      rotate_left
      · simp only [Act.put, List.setIfInBounds_toArray, List.set_cons_zero, List.set_cons_succ, i64_w, i32_w]
        rfl
      exact norm_ (by first | (simp only [putAll, Act.put, List.setIfInBounds_toArray, List.set_cons_zero, List.set_cons_succ]; done) | (simp only [putAll, Act.put, List.setIfInBounds_toArray, List.set_cons_zero, List.set_cons_succ]; rfl)) (hJ ⟨undef, undef, undef, true⟩ _ ⟨hHeld, HB, ⟨fun h => by cases h⟩⟩)
  clear hHeld HB hQ
  rintro ⟨u1_0, u1_1, u1_2, b⟩ y1 ⟨hHeld, HB, hQ⟩
  refine norm_ (a' := ?_) ?_ ?_
  rotate_left
  · simp only [putAll, Act.put, List.setIfInBounds_toArray, List.set_cons_zero, List.set_cons_succ]
    rfl
  refine join_ (σ := Value × Value × Value × Bool) 27 #[true, true, true, true, true, true, true, true, true, true, true, true, true, true, false, false, false, false, false, false, false, false, false, false, false, false, false, false, false, false, false, false, false, false, false, false, false, false, false, false, false] (fun s => [(25, s.1), (26, s.2.1), (27, s.2.2.1), (28, .bool s.2.2.2), (29, .bool s.2.2.2)]) (fun s w' => (w'.cell? ⟨w.heap.size, 0, none⟩ = some (.int .i64 p.f0) ∧ w'.cell? ⟨w.heap.size, 1, none⟩ = some (.string p.f1) ∧ w'.cell? ⟨w.heap.size, 2, none⟩ = some (.slice A p.f2.length c) ∧ w'.cell? ⟨g1, 0, none⟩ = some (.int .i64 q.f0) ∧ w'.cell? ⟨g1, 1, none⟩ = some (.string q.f1) ∧ w'.cell? ⟨g1, 2, none⟩ = some (.slice B q.f2.length d)) ∧ Aside0 (Below w.heap.size w w') ∧ Aside0 (s.2.2.2 = false → Lang.fitP p 12 ∧ Lang.places p ≤ 24)) ?_ ?_
  rotate_left
  · intro hJ
    cases b
    · skip
      refine take_ (i := 9) (N := some 25) (v := ?_) (a' := ?_) #[true, true, true, true, true, true, true, true, true, true, false, false, false, false, false, false, false, false, false, false, false, false, false, false, false, false, false, false, false, false, false, false, false, false, false, false, false, false, false, false, false] rfl rfl (by kernel_rfl) (fun _ _ _ h => h) (Or.inl ⟨by rfl, ?_⟩) hHeld ?_ ?_
      rotate_left
      · rintro w' ⟨s0, s1, s2, s3, s4, s5⟩
        go_simp
        with_reducible rfl
      rotate_left
      · simp only [Act.put, List.setIfInBounds_toArray, List.set_cons_zero, List.set_cons_succ, i64_w, i32_w]
        rfl
      refine one_ (i := 10) (N := some 26) #[true, true, true, true, true, true, true, true, true, true, true, false, false, false, false, false, false, false, false, false, false, false, false, false, false, false, false, false, false, false, false, false, false, false, false, false, false, false, false, false, false] rfl rfl (by kernel_rfl) (by decide) (fun K hK => ?_)
      refine goes_ Try.func6 (by kernel_rfl) rfl #[.agg #[.int .i64 p.f0, .string p.f1, .slice A p.f2.length c]] (by rfl) rfl rfl (by simp only [List.map_toArray, List.map_cons, List.map_nil]; rfl) ?_
      with_reducible refine (KM1.out _ HB.out).mono ?_
      rintro e x1 ⟨rfl, hb⟩
      refine ⟨_, rfl, ?_⟩
      have HB1 := Aside0.mk (below_step HB.out hb)
      refine hK.out _ _ (Try.six hb hHeld) (fun hHeld => ?_)
      clear hK K
      refine norm_ (a' := ?_) ?_ ?_
      rotate_left
      · show Act.put _ (some 26) _ = _
        simp only [Act.put, List.setIfInBounds_toArray, List.set_cons_zero, List.set_cons_succ, i64_w, i32_w]
        rfl
      refine pure_ (i := 11) (N := some 27) (v := ?_) (a' := ?_) #[true, true, true, true, true, true, true, true, true, true, true, true, false, false, false, false, false, false, false, false, false, false, false, false, false, false, false, false, false, false, false, false, false, false, false, false, false, false, false, false, false] rfl rfl (by kernel_rfl) (fun _ _ _ h => h) (Or.inl ⟨by rfl, ?_⟩) ?_ ?_
      rotate_left
      · intro w'
        go_simp
        with_reducible rfl
      rotate_left
      · simp only [Act.put, List.setIfInBounds_toArray, List.set_cons_zero, List.set_cons_succ, i64_w, i32_w]
        rfl
      refine pure_ (i := 12) (N := some 28) (v := ?_) (a' := ?_) #[true, true, true, true, true, true, true, true, true, true, true, true, true, false, false, false, false, false, false, false, false, false, false, false, false, false, false, false, false, false, false, false, false, false, false, false, false, false, false, false, false] rfl rfl (by kernel_rfl) (fun _ _ _ h => h) (Or.inl ⟨by rfl, ?_⟩) ?_ ?_
      rotate_left
      · intro w'
        go_simp
        with_reducible rfl
      rotate_left
      · simp only [Act.put, List.setIfInBounds_toArray, List.set_cons_zero, List.set_cons_succ, i64_w, i32_w]
        rfl
      refine pure_ (i := 13) (N := some 29) (v := ?_) (a' := ?_) #[true, true, true, true, true, true, true, true, true, true, true, true, true, true, false, false, false, false, false, false, false, false, false, false, false, false, false, false, false, false, false, false, false, false, false, false, false, false, false, false, false] rfl rfl (by kernel_rfl) (fun _ _ _ h => h) (Or.inl ⟨by rfl, ?_⟩) ?_ ?_
      rotate_left
      · intro w'
        go_simp
        with_reducible rfl
      rotate_left
      · simp only [Act.put, List.setIfInBounds_toArray, List.set_cons_zero, List.set_cons_succ, i64_w, i32_w]
        rfl
      exact norm_ (by first | (simp only [putAll, Act.put, List.setIfInBounds_toArray, List.set_cons_zero, List.set_cons_succ]; done) | (simp only [putAll, Act.put, List.setIfInBounds_toArray, List.set_cons_zero, List.set_cons_succ]; rfl)) (hJ ⟨.agg #[.int .i64 p.f0, .string p.f1, .slice A p.f2.length c], .bool m1, .bool (!m1), (!m1)⟩ _ ⟨hHeld, HB1, ⟨fun h => HF1.out (by simpa using h)⟩⟩)
    · skip
      refine pure_ (i := 9) (N := some 25) (v := undef) (a' := ?_) #[true, true, true, true, true, true, true, true, true, true, false, false, false, false, false, false, false, false, false, false, false, false, false, false, false, false, false, false, false, false, false, false, false, false, false, false, false, false, false, false, false] rfl rfl (by kernel_rfl) (fun _ _ _ h => h) (Or.inr ⟨by rfl, rfl⟩) ?_ ?_
      rotate_left
      · simp only [Act.put, List.setIfInBounds_toArray, List.set_cons_zero, List.set_cons_succ, i64_w, i32_w]
        rfl
      refine pure_ (i := 10) (N := some 26) (v := undef) (a' := ?_) #[true, true, true, true, true, true, true, true, true, true, true, false, false, false, false, false, false, false, false, false, false, false, false, false, false, false, false, false, false, false, false, false, false, false, false, false, false, false, false, false, false] rfl rfl (by kernel_rfl) (fun _ _ _ h => h) (Or.inr ⟨by rfl, rfl⟩) ?_ ?_
      rotate_left
      · simp only [Act.put, List.setIfInBounds_toArray, List.set_cons_zero, List.set_cons_succ, i64_w, i32_w]
        rfl
      refine pure_ (i := 11) (N := some 27) (v := undef) (a' := ?_) #[true, true, true, true, true, true, true, true, true, true, true, true, false, false, false, false, false, false, false, false, false, false, false, false, false, false, false, false, false, false, false, false, false, false, false, false, false, false, false, false, false] rfl rfl (by kernel_rfl) (fun _ _ _ h => h) (Or.inr ⟨by rfl, rfl⟩) ?_ ?_
      rotate_left
      · simp only [Act.put, List.setIfInBounds_toArray, List.set_cons_zero, List.set_cons_succ, i64_w, i32_w]
        rfl
      refine pure_ (i := 12) (N := some 28) (v := ?_) (a' := ?_) #[true, true, true, true, true, true, true, true, true, true, true, true, true, false, false, false, false, false, false, false, false, false, false, false, false, false, false, false, false, false, false, false, false, false, false, false, false, false, false, false, false] rfl rfl (by kernel_rfl) (fun _ _ _ h => h) (Or.inl ⟨by rfl, ?_⟩) ?_ ?_
      rotate_left
      · intro w'
        go_simp
        with_reducible rfl
      rotate_left
      · simp only [Act.put, List.setIfInBounds_toArray, List.set_cons_zero, List.set_cons_succ, i64_w, i32_w]
        rfl
      refine pure_ (i := 13) (N := some 29) (v := ?_) (a' := ?_) #[true, true, true, true, true, true, true, true, true, true, true, true, true, true, false, false, false, false, false, false, false, false, false, false, false, false, false, false, false, false, false, false, false, false, false, false, false, false, false, false, false] rfl rfl (by kernel_rfl) (fun _ _ _ h => h) (Or.inl ⟨by rfl, ?_⟩) ?_ ?_
      rotate_left
      · intro w'
        go_simp
        with_reducible rfl
      rotate_left
      · simp only [Act.put, List.setIfInBounds_toArray, List.set_cons_zero, List.set_cons_succ, i64_w, i32_w]
        rfl
      exact norm_ (by first | (simp only [putAll, Act.put, List.setIfInBounds_toArray, List.set_cons_zero, List.set_cons_succ]; done) | (simp only [putAll, Act.put, List.setIfInBounds_toArray, List.set_cons_zero, List.set_cons_succ]; rfl)) (hJ ⟨undef, undef, undef, true⟩ _ ⟨hHeld, HB, ⟨fun h => by cases h⟩⟩)
  clear hHeld HB hQ
  rintro ⟨u2_0, u2_1, u2_2, b⟩ y2 ⟨hHeld, HB, hQ⟩
  refine norm_ (a' := ?_) ?_ ?_
  rotate_left
  · simp only [putAll, Act.put, List.setIfInBounds_toArray, List.set_cons_zero, List.set_cons_succ]
    rfl
  refine join_ (σ := Value × Value × Value × Bool) 22 #[true, true, true, true, true, true, true, true, true, true, true, true, true, true, true, true, true, true, true, false, false, false, false, false, false, false, false, false, false, false, false, false, false, false, false, false, false, false, false, false, false] (fun s => [(30, s.1), (31, s.2.1), (32, s.2.2.1), (33, .bool s.2.2.2), (34, .bool s.2.2.2)]) (fun s w' => (w'.cell? ⟨w.heap.size, 0, none⟩ = some (.int .i64 p.f0) ∧ w'.cell? ⟨w.heap.size, 1, none⟩ = some (.string p.f1) ∧ w'.cell? ⟨w.heap.size, 2, none⟩ = some (.slice A p.f2.length c) ∧ w'.cell? ⟨g1, 0, none⟩ = some (.int .i64 q.f0) ∧ w'.cell? ⟨g1, 1, none⟩ = some (.string q.f1) ∧ w'.cell? ⟨g1, 2, none⟩ = some (.slice B q.f2.length d)) ∧ Aside0 (Below w.heap.size w w') ∧ Aside0 (s.2.2.2 = false → ((Lang.fitP p 12 ∧ Lang.places p ≤ 24) ∧ Lang.fitP q 12 ∧ Lang.places q ≤ 24))) ?_ ?_
  rotate_left
  · intro hJ
    cases b
    · skip
      refine take_ (i := 14) (N := some 30) (v := ?_) (a' := ?_) #[true, true, true, true, true, true, true, true, true, true, true, true, true, true, true, false, false, false, false, false, false, false, false, false, false, false, false, false, false, false, false, false, false, false, false, false, false, false, false, false, false] rfl rfl (by kernel_rfl) (fun _ _ _ h => h) (Or.inl ⟨by rfl, ?_⟩) hHeld ?_ ?_
      rotate_left
      · rintro w' ⟨s0, s1, s2, s3, s4, s5⟩
        go_simp
        with_reducible rfl
      rotate_left
      · simp only [Act.put, List.setIfInBounds_toArray, List.set_cons_zero, List.set_cons_succ, i64_w, i32_w]
        rfl
      refine one_ (i := 15) (N := some 31) #[true, true, true, true, true, true, true, true, true, true, true, true, true, true, true, true, false, false, false, false, false, false, false, false, false, false, false, false, false, false, false, false, false, false, false, false, false, false, false, false, false] rfl rfl (by kernel_rfl) (by decide) (fun K hK => ?_)
      refine goes_ Try.func6 (by kernel_rfl) rfl #[.agg #[.int .i64 q.f0, .string q.f1, .slice B q.f2.length d]] (by rfl) rfl rfl (by simp only [List.map_toArray, List.map_cons, List.map_nil]; rfl) ?_
      with_reducible refine (KM2.out _ HB.out).mono ?_
      rintro e x1 ⟨rfl, hb⟩
      refine ⟨_, rfl, ?_⟩
      have HB1 := Aside0.mk (below_step HB.out hb)
      refine hK.out _ _ (Try.six hb hHeld) (fun hHeld => ?_)
      clear hK K
      refine norm_ (a' := ?_) ?_ ?_
      rotate_left
      · show Act.put _ (some 31) _ = _
        simp only [Act.put, List.setIfInBounds_toArray, List.set_cons_zero, List.set_cons_succ, i64_w, i32_w]
        rfl
      refine pure_ (i := 16) (N := some 32) (v := ?_) (a' := ?_) #[true, true, true, true, true, true, true, true, true, true, true, true, true, true, true, true, true, false, false, false, false, false, false, false, false, false, false, false, false, false, false, false, false, false, false, false, false, false, false, false, false] rfl rfl (by kernel_rfl) (fun _ _ _ h => h) (Or.inl ⟨by rfl, ?_⟩) ?_ ?_
      rotate_left
      · intro w'
        go_simp
        with_reducible rfl
      rotate_left
      · simp only [Act.put, List.setIfInBounds_toArray, List.set_cons_zero, List.set_cons_succ, i64_w, i32_w]
        rfl
      refine pure_ (i := 17) (N := some 33) (v := ?_) (a' := ?_) #[true, true, true, true, true, true, true, true, true, true, true, true, true, true, true, true, true, true, false, false, false, false, false, false, false, false, false, false, false, false, false, false, false, false, false, false, false, false, false, false, false] rfl rfl (by kernel_rfl) (fun _ _ _ h => h) (Or.inl ⟨by rfl, ?_⟩) ?_ ?_
      rotate_left
      · intro w'
        go_simp
        with_reducible rfl
      rotate_left
      · simp only [Act.put, List.setIfInBounds_toArray, List.set_cons_zero, List.set_cons_succ, i64_w, i32_w]
        rfl
      refine pure_ (i := 18) (N := some 34) (v := ?_) (a' := ?_) #[true, true, true, true, true, true, true, true, true, true, true, true, true, true, true, true, true, true, true, false, false, false, false, false, false, false, false, false, false, false, false, false, false, false, false, false, false, false, false, false, false] rfl rfl (by kernel_rfl) (fun _ _ _ h => h) (Or.inl ⟨by rfl, ?_⟩) ?_ ?_
      rotate_left
      · intro w'
        go_simp
        with_reducible rfl
      rotate_left
      · simp only [Act.put, List.setIfInBounds_toArray, List.set_cons_zero, List.set_cons_succ, i64_w, i32_w]
        rfl
      exact norm_ (by first | (simp only [putAll, Act.put, List.setIfInBounds_toArray, List.set_cons_zero, List.set_cons_succ]; done) | (simp only [putAll, Act.put, List.setIfInBounds_toArray, List.set_cons_zero, List.set_cons_succ]; rfl)) (hJ ⟨.agg #[.int .i64 q.f0, .string q.f1, .slice B q.f2.length d], .bool m2, .bool (!m2), (!m2)⟩ _ ⟨hHeld, HB1, ⟨fun h => ⟨hQ.out rfl, HF2.out (by simpa using h)⟩⟩⟩)
    · skip
      refine pure_ (i := 14) (N := some 30) (v := undef) (a' := ?_) #[true, true, true, true, true, true, true, true, true, true, true, true, true, true, true, false, false, false, false, false, false, false, false, false, false, false, false, false, false, false, false, false, false, false, false, false, false, false, false, false, false] rfl rfl (by kernel_rfl) (fun _ _ _ h => h) (Or.inr ⟨by rfl, rfl⟩) ?_ ?_
      rotate_left
      · simp only [Act.put, List.setIfInBounds_toArray, List.set_cons_zero, List.set_cons_succ, i64_w, i32_w]
        rfl
      refine pure_ (i := 15) (N := some 31) (v := undef) (a' := ?_) #[true, true, true, true, true, true, true, true, true, true, true, true, true, true, true, true, false, false, false, false, false, false, false, false, false, false, false, false, false, false, false, false, false, false, false, false, false, false, false, false, false] rfl rfl (by kernel_rfl) (fun _ _ _ h => h) (Or.inr ⟨by rfl, rfl⟩) ?_ ?_
      rotate_left
      · simp only [Act.put, List.setIfInBounds_toArray, List.set_cons_zero, List.set_cons_succ, i64_w, i32_w]
        rfl
      refine pure_ (i := 16) (N := some 32) (v := undef) (a' := ?_) #[true, true, true, true, true, true, true, true, true, true, true, true, true, true, true, true, true, false, false, false, false, false, false, false, false, false, false, false, false, false, false, false, false, false, false, false, false, false, false, false, false] rfl rfl (by kernel_rfl) (fun _ _ _ h => h) (Or.inr ⟨by rfl, rfl⟩) ?_ ?_
      rotate_left
      · simp only [Act.put, List.setIfInBounds_toArray, List.set_cons_zero, List.set_cons_succ, i64_w, i32_w]
        rfl
      refine pure_ (i := 17) (N := some 33) (v := ?_) (a' := ?_) #[true, true, true, true, true, true, true, true, true, true, true, true, true, true, true, true, true, true, false, false, false, false, false, false, false, false, false, false, false, false, false, false, false, false, false, false, false, false, false, false, false] rfl rfl (by kernel_rfl) (fun _ _ _ h => h) (Or.inl ⟨by rfl, ?_⟩) ?_ ?_
      rotate_left
      · intro w'
        go_simp
        with_reducible rfl
      rotate_left
      · simp only [Act.put, List.setIfInBounds_toArray, List.set_cons_zero, List.set_cons_succ, i64_w, i32_w]
        rfl
      refine pure_ (i := 18) (N := some 34) (v := ?_) (a' := ?_) #[true, true, true, true, true, true, true, true, true, true, true, true, true, true, true, true, true, true, true, false, false, false, false, false, false, false, false, false, false, false, false, false, false, false, false, false, false, false, false, false, false] rfl rfl (by kernel_rfl) (fun _ _ _ h => h) (Or.inl ⟨by rfl, ?_⟩) ?_ ?_
      rotate_left
      · intro w'
        go_simp
        with_reducible rfl
      rotate_left
      · simp only [Act.put, List.setIfInBounds_toArray, List.set_cons_zero, List.set_cons_succ, i64_w, i32_w]
        rfl
      exact norm_ (by first | (simp only [putAll, Act.put, List.setIfInBounds_toArray, List.set_cons_zero, List.set_cons_succ]; done) | (simp only [putAll, Act.put, List.setIfInBounds_toArray, List.set_cons_zero, List.set_cons_succ]; rfl)) (hJ ⟨undef, undef, undef, true⟩ _ ⟨hHeld, HB, ⟨fun h => by cases h⟩⟩)
  clear hHeld HB hQ
  rintro ⟨u3_0, u3_1, u3_2, b⟩ y3 ⟨hHeld, HB, hQ⟩
  refine norm_ (a' := ?_) ?_ ?_
  rotate_left
  · simp only [putAll, Act.put, List.setIfInBounds_toArray, List.set_cons_zero, List.set_cons_succ]
    rfl
  refine join_ (σ := Value × Value × Value × Value × Value × Value × Bool) 14 #[true, true, true, true, true, true, true, true, true, true, true, true, true, true, true, true, true, true, true, true, true, true, true, true, true, true, true, false, false, false, false, false, false, false, false, false, false, false, false, false, false] (fun s => [(35, s.1), (36, s.2.1), (37, s.2.2.1), (38, s.2.2.2.1), (39, s.2.2.2.2.1), (40, s.2.2.2.2.2.1), (41, .bool s.2.2.2.2.2.2), (42, .bool s.2.2.2.2.2.2)]) (fun s w' => (w'.cell? ⟨w.heap.size, 0, none⟩ = some (.int .i64 p.f0) ∧ w'.cell? ⟨w.heap.size, 1, none⟩ = some (.string p.f1) ∧ w'.cell? ⟨w.heap.size, 2, none⟩ = some (.slice A p.f2.length c) ∧ w'.cell? ⟨g1, 0, none⟩ = some (.int .i64 q.f0) ∧ w'.cell? ⟨g1, 1, none⟩ = some (.string q.f1) ∧ w'.cell? ⟨g1, 2, none⟩ = some (.slice B q.f2.length d)) ∧ Aside0 (Below w.heap.size w w') ∧ Aside0 (s.2.2.2.2.2.2 = false → Try.Tf p q)) ?_ ?_
  rotate_left
  · intro hJ
    cases b
    · skip
      have hq := hQ.out rfl
      obtain ⟨kp, hkp⟩ := Try.pl_at p HSP.out (by omega)
      obtain ⟨kq, hkq⟩ := Try.pl_at q HSQ.out (by omega)
      have HKP := Aside0.mk hkp
      have HKQ := Aside0.mk hkq
      have HQ := Aside0.mk hq
      obtain ⟨np, hnp⟩ : ∃ np : Int, (Lang.places p : Int) = np := ⟨_, rfl⟩
      obtain ⟨nq, hnq⟩ : ∃ nq : Int, (Lang.places q : Int) = nq := ⟨_, rfl⟩
      rw [hnp] at HKP
      rw [hnq] at HKQ
      have HNP := Aside0.mk hnp
      have HNQ := Aside0.mk hnq
      clear hkp hkq hq hnp hnq
      refine take_ (i := 19) (N := some 35) (v := ?_) (a' := ?_) #[true, true, true, true, true, true, true, true, true, true, true, true, true, true, true, true, true, true, true, true, false, false, false, false, false, false, false, false, false, false, false, false, false, false, false, false, false, false, false, false, false] rfl rfl (by kernel_rfl) (fun _ _ _ h => h) (Or.inl ⟨by rfl, ?_⟩) hHeld ?_ ?_
      rotate_left
      · rintro w' ⟨s0, s1, s2, s3, s4, s5⟩
        go_simp
        with_reducible rfl
      rotate_left
      · simp only [Act.put, List.setIfInBounds_toArray, List.set_cons_zero, List.set_cons_succ, i64_w, i32_w]
        rfl
      refine take_ (i := 21) (N := some 37) (v := ?_) (a' := ?_) #[true, true, true, true, true, true, true, true, true, true, true, true, true, true, true, true, true, true, true, true, false, true, false, false, false, false, false, false, false, false, false, false, false, false, false, false, false, false, false, false, false] rfl rfl (by kernel_rfl) (fun _ _ _ h => h) (Or.inl ⟨by rfl, ?_⟩) hHeld ?_ ?_
      rotate_left
      · rintro w' ⟨s0, s1, s2, s3, s4, s5⟩
        go_simp
        with_reducible rfl
      rotate_left
      · simp only [Act.put, List.setIfInBounds_toArray, List.set_cons_zero, List.set_cons_succ, i64_w, i32_w]
        rfl
      refine one_ (i := 20) (N := some 36) #[true, true, true, true, true, true, true, true, true, true, true, true, true, true, true, true, true, true, true, true, true, true, false, false, false, false, false, false, false, false, false, false, false, false, false, false, false, false, false, false, false] rfl rfl (by kernel_rfl) (by decide) (fun K hK => ?_)
      refine goes_ Try.func7 (by kernel_rfl) rfl #[.agg #[.int .i64 p.f0, .string p.f1, .slice A p.f2.length c]] (by rfl) rfl rfl (by simp only [List.map_toArray, List.map_cons, List.map_nil]; rfl) ?_
      with_reducible refine (sinewref09_Places.calls kp p.f0 p.f1 A c p.f2 _ _ (Kd.C_below HLP.out HB.out) HCP.out HKP.out).mono ?_
      rintro e x1 ⟨rfl, hb⟩
      refine ⟨_, rfl, ?_⟩
      have HB1 := Aside0.mk (below_step HB.out hb)
      refine hK.out _ _ (Try.six hb hHeld) (fun hHeld => ?_)
      clear hK K
      refine norm_ (a' := ?_) ?_ ?_
      rotate_left
      · show Act.put _ (some 36) _ = _
        simp only [Act.put, List.setIfInBounds_toArray, List.set_cons_zero, List.set_cons_succ, i64_w, i32_w]
        rfl
      refine one_ (i := 22) (N := some 38) #[true, true, true, true, true, true, true, true, true, true, true, true, true, true, true, true, true, true, true, true, true, true, true, false, false, false, false, false, false, false, false, false, false, false, false, false, false, false, false, false, false] rfl rfl (by kernel_rfl) (by decide) (fun K hK => ?_)
      refine goes_ Try.func7 (by kernel_rfl) rfl #[.agg #[.int .i64 q.f0, .string q.f1, .slice B q.f2.length d]] (by rfl) rfl rfl (by simp only [List.map_toArray, List.map_cons, List.map_nil]; rfl) ?_
      with_reducible refine (sinewref09_Places.calls kq q.f0 q.f1 B d q.f2 _ _ (Kd.C_below HLQ.out HB1.out) HCQ.out HKQ.out).mono ?_
      rintro e x1 ⟨rfl, hb⟩
      refine ⟨_, rfl, ?_⟩
      have HB2 := Aside0.mk (below_step HB1.out hb)
      refine hK.out _ _ (Try.six hb hHeld) (fun hHeld => ?_)
      clear hK K
      refine norm_ (a' := ?_) ?_ ?_
      rotate_left
      · show Act.put _ (some 38) _ = _
        simp only [Act.put, List.setIfInBounds_toArray, List.set_cons_zero, List.set_cons_succ, i64_w, i32_w]
        rfl
      refine pure_ (i := 23) (N := some 39) (v := ?_) (a' := ?_) #[true, true, true, true, true, true, true, true, true, true, true, true, true, true, true, true, true, true, true, true, true, true, true, true, false, false, false, false, false, false, false, false, false, false, false, false, false, false, false, false, false] rfl rfl (by kernel_rfl) (fun _ _ _ h => h) (Or.inl ⟨by rfl, ?_⟩) ?_ ?_
      rotate_left
      · intro w'
        go_simp
        with_reducible rfl
      rotate_left
      · simp only [Act.put, List.setIfInBounds_toArray, List.set_cons_zero, List.set_cons_succ, i64_w, i32_w]
        rfl
      refine pure_ (i := 24) (N := some 40) (v := ?_) (a' := ?_) #[true, true, true, true, true, true, true, true, true, true, true, true, true, true, true, true, true, true, true, true, true, true, true, true, true, false, false, false, false, false, false, false, false, false, false, false, false, false, false, false, false] rfl rfl (by kernel_rfl) (fun _ _ _ h => h) (Or.inl ⟨by rfl, ?_⟩) ?_ ?_
      rotate_left
      · intro w'
        go_simp
        with_reducible rfl
      rotate_left
      · simp only [Act.put, List.setIfInBounds_toArray, List.set_cons_zero, List.set_cons_succ, i64_w, i32_w]
        rfl
      refine pure_ (i := 25) (N := some 41) (v := ?_) (a' := ?_) #[true, true, true, true, true, true, true, true, true, true, true, true, true, true, true, true, true, true, true, true, true, true, true, true, true, true, false, false, false, false, false, false, false, false, false, false, false, false, false, false, false] rfl rfl (by kernel_rfl) (fun _ _ _ h => h) (Or.inl ⟨by rfl, ?_⟩) ?_ ?_
      rotate_left
      · intro w'
        go_simp
        with_reducible rfl
      rotate_left
      · simp only [Act.put, List.setIfInBounds_toArray, List.set_cons_zero, List.set_cons_succ, i64_w, i32_w]
        rfl
      refine pure_ (i := 26) (N := some 42) (v := ?_) (a' := ?_) #[true, true, true, true, true, true, true, true, true, true, true, true, true, true, true, true, true, true, true, true, true, true, true, true, true, true, true, false, false, false, false, false, false, false, false, false, false, false, false, false, false] rfl rfl (by kernel_rfl) (fun _ _ _ h => h) (Or.inl ⟨by rfl, ?_⟩) ?_ ?_
      rotate_left
      · intro w'
        go_simp
        with_reducible rfl
      rotate_left
      · simp only [Act.put, List.setIfInBounds_toArray, List.set_cons_zero, List.set_cons_succ, i64_w, i32_w]
        rfl
      exact norm_ (by first | (simp only [putAll, Act.put, List.setIfInBounds_toArray, List.set_cons_zero, List.set_cons_succ]; done) | (simp only [putAll, Act.put, List.setIfInBounds_toArray, List.set_cons_zero, List.set_cons_succ]; rfl)) (hJ ⟨.agg #[.int .i64 p.f0, .string p.f1, .slice A p.f2.length c], .int .i64 np, .agg #[.int .i64 q.f0, .string q.f1, .slice B q.f2.length d], .int .i64 nq, .int .i64 (wrap64 (np + nq)), .bool (decide (16 < wrap64 (np + nq))), decide (16 < wrap64 (np + nq))⟩ _ ⟨hHeld, HB2, ⟨fun h => ⟨HQ.out, Try.sum_of HNP.out HNQ.out HQ.out h⟩⟩⟩)
    · skip
      refine pure_ (i := 19) (N := some 35) (v := undef) (a' := ?_) #[true, true, true, true, true, true, true, true, true, true, true, true, true, true, true, true, true, true, true, true, false, false, false, false, false, false, false, false, false, false, false, false, false, false, false, false, false, false, false, false, false] rfl rfl (by kernel_rfl) (fun _ _ _ h => h) (Or.inr ⟨by rfl, rfl⟩) ?_ ?_
      rotate_left
      · simp only [Act.put, List.setIfInBounds_toArray, List.set_cons_zero, List.set_cons_succ, i64_w, i32_w]
        rfl
      refine pure_ (i := 20) (N := some 36) (v := undef) (a' := ?_) #[true, true, true, true, true, true, true, true, true, true, true, true, true, true, true, true, true, true, true, true, true, false, false, false, false, false, false, false, false, false, false, false, false, false, false, false, false, false, false, false, false] rfl rfl (by kernel_rfl) (fun _ _ _ h => h) (Or.inr ⟨by rfl, rfl⟩) ?_ ?_
      rotate_left
      · simp only [Act.put, List.setIfInBounds_toArray, List.set_cons_zero, List.set_cons_succ, i64_w, i32_w]
        rfl
      refine pure_ (i := 21) (N := some 37) (v := undef) (a' := ?_) #[true, true, true, true, true, true, true, true, true, true, true, true, true, true, true, true, true, true, true, true, true, true, false, false, false, false, false, false, false, false, false, false, false, false, false, false, false, false, false, false, false] rfl rfl (by kernel_rfl) (fun _ _ _ h => h) (Or.inr ⟨by rfl, rfl⟩) ?_ ?_
      rotate_left
      · simp only [Act.put, List.setIfInBounds_toArray, List.set_cons_zero, List.set_cons_succ, i64_w, i32_w]
        rfl
      refine pure_ (i := 22) (N := some 38) (v := undef) (a' := ?_) #[true, true, true, true, true, true, true, true, true, true, true, true, true, true, true, true, true, true, true, true, true, true, true, false, false, false, false, false, false, false, false, false, false, false, false, false, false, false, false, false, false] rfl rfl (by kernel_rfl) (fun _ _ _ h => h) (Or.inr ⟨by rfl, rfl⟩) ?_ ?_
      rotate_left
      · simp only [Act.put, List.setIfInBounds_toArray, List.set_cons_zero, List.set_cons_succ, i64_w, i32_w]
        rfl
      refine pure_ (i := 23) (N := some 39) (v := undef) (a' := ?_) #[true, true, true, true, true, true, true, true, true, true, true, true, true, true, true, true, true, true, true, true, true, true, true, true, false, false, false, false, false, false, false, false, false, false, false, false, false, false, false, false, false] rfl rfl (by kernel_rfl) (fun _ _ _ h => h) (Or.inr ⟨by rfl, rfl⟩) ?_ ?_
      rotate_left
      · simp only [Act.put, List.setIfInBounds_toArray, List.set_cons_zero, List.set_cons_succ, i64_w, i32_w]
        rfl
      refine pure_ (i := 24) (N := some 40) (v := undef) (a' := ?_) #[true, true, true, true, true, true, true, true, true, true, true, true, true, true, true, true, true, true, true, true, true, true, true, true, true, false, false, false, false, false, false, false, false, false, false, false, false, false, false, false, false] rfl rfl (by kernel_rfl) (fun _ _ _ h => h) (Or.inr ⟨by rfl, rfl⟩) ?_ ?_
      rotate_left
      · simp only [Act.put, List.setIfInBounds_toArray, List.set_cons_zero, List.set_cons_succ, i64_w, i32_w]
        rfl
      refine pure_ (i := 25) (N := some 41) (v := ?_) (a' := ?_) #[true, true, true, true, true, true, true, true, true, true, true, true, true, true, true, true, true, true, true, true, true, true, true, true, true, true, false, false, false, false, false, false, false, false, false, false, false, false, false, false, false] rfl rfl (by kernel_rfl) (fun _ _ _ h => h) (Or.inl ⟨by rfl, ?_⟩) ?_ ?_
      rotate_left
      · intro w'
        go_simp
        with_reducible rfl
      rotate_left
      · simp only [Act.put, List.setIfInBounds_toArray, List.set_cons_zero, List.set_cons_succ, i64_w, i32_w]
        rfl
      refine pure_ (i := 26) (N := some 42) (v := ?_) (a' := ?_) #[true, true, true, true, true, true, true, true, true, true, true, true, true, true, true, true, true, true, true, true, true, true, true, true, true, true, true, false, false, false, false, false, false, false, false, false, false, false, false, false, false] rfl rfl (by kernel_rfl) (fun _ _ _ h => h) (Or.inl ⟨by rfl, ?_⟩) ?_ ?_
      rotate_left
      · intro w'
        go_simp
        with_reducible rfl
      rotate_left
      · simp only [Act.put, List.setIfInBounds_toArray, List.set_cons_zero, List.set_cons_succ, i64_w, i32_w]
        rfl
      exact norm_ (by first | (simp only [putAll, Act.put, List.setIfInBounds_toArray, List.set_cons_zero, List.set_cons_succ]; done) | (simp only [putAll, Act.put, List.setIfInBounds_toArray, List.set_cons_zero, List.set_cons_succ]; rfl)) (hJ ⟨undef, undef, undef, undef, undef, undef, true⟩ _ ⟨hHeld, HB, ⟨fun h => by cases h⟩⟩)
  clear hHeld HB hQ
  rintro ⟨u4_0, u4_1, u4_2, u4_3, u4_4, u4_5, b⟩ y4 ⟨hHeld, HB, hQ⟩
  refine norm_ (a' := ?_) ?_ ?_
  rotate_left
  · simp only [putAll, Act.put, List.setIfInBounds_toArray, List.set_cons_zero, List.set_cons_succ]
    rfl
  refine join_ (σ := Value × Value × Value × Bool) 9 #[true, true, true, true, true, true, true, true, true, true, true, true, true, true, true, true, true, true, true, true, true, true, true, true, true, true, true, true, true, true, true, true, false, false, false, false, false, false, false, false, false] (fun s => [(43, s.1), (44, s.2.1), (45, s.2.2.1), (46, .bool s.2.2.2), (47, .bool s.2.2.2)]) (fun s w' => (w'.cell? ⟨w.heap.size, 0, none⟩ = some (.int .i64 p.f0) ∧ w'.cell? ⟨w.heap.size, 1, none⟩ = some (.string p.f1) ∧ w'.cell? ⟨w.heap.size, 2, none⟩ = some (.slice A p.f2.length c) ∧ w'.cell? ⟨g1, 0, none⟩ = some (.int .i64 q.f0) ∧ w'.cell? ⟨g1, 1, none⟩ = some (.string q.f1) ∧ w'.cell? ⟨g1, 2, none⟩ = some (.slice B q.f2.length d)) ∧ Aside0 (Below w.heap.size w w') ∧ Aside0 (s.2.2.2 = false → Try.Tf p q ∧ Lang.deep p ≤ 10)) ?_ ?_
  rotate_left
  · intro hJ
    cases b
    · skip
      have hq := hQ.out rfl
      have hd := Lang.fit_deep p 12 hq.1.1.1
      obtain ⟨kp, hkp⟩ := Try.dp_at p HSP.out (by omega)
      have HKP := Aside0.mk hkp
      have HQ := Aside0.mk hq
      obtain ⟨np, hnp⟩ : ∃ np : Int, (Lang.deep p : Int) = np := ⟨_, rfl⟩
      rw [hnp] at HKP
      have HNP := Aside0.mk hnp
      clear hkp hq hnp hd
      refine take_ (i := 27) (N := some 43) (v := ?_) (a' := ?_) #[true, true, true, true, true, true, true, true, true, true, true, true, true, true, true, true, true, true, true, true, true, true, true, true, true, true, true, true, false, false, false, false, false, false, false, false, false, false, false, false, false] rfl rfl (by kernel_rfl) (fun _ _ _ h => h) (Or.inl ⟨by rfl, ?_⟩) hHeld ?_ ?_
      rotate_left
      · rintro w' ⟨s0, s1, s2, s3, s4, s5⟩
        go_simp
        with_reducible rfl
      rotate_left
      · simp only [Act.put, List.setIfInBounds_toArray, List.set_cons_zero, List.set_cons_succ, i64_w, i32_w]
        rfl
      refine one_ (i := 28) (N := some 44) #[true, true, true, true, true, true, true, true, true, true, true, true, true, true, true, true, true, true, true, true, true, true, true, true, true, true, true, true, true, false, false, false, false, false, false, false, false, false, false, false, false] rfl rfl (by kernel_rfl) (by decide) (fun K hK => ?_)
      refine goes_ Try.func8 (by kernel_rfl) rfl #[.agg #[.int .i64 p.f0, .string p.f1, .slice A p.f2.length c]] (by rfl) rfl rfl (by simp only [List.map_toArray, List.map_cons, List.map_nil]; rfl) ?_
      with_reducible refine (sinewref09_Deep.calls kp p.f0 p.f1 A c p.f2 _ _ (Kd.C_below HLP.out HB.out) HCP.out HKP.out).mono ?_
      rintro e x1 ⟨rfl, hb⟩
      refine ⟨_, rfl, ?_⟩
      have HB1 := Aside0.mk (below_step HB.out hb)
      refine hK.out _ _ (Try.six hb hHeld) (fun hHeld => ?_)
      clear hK K
      refine norm_ (a' := ?_) ?_ ?_
      rotate_left
      · show Act.put _ (some 44) _ = _
        simp only [Act.put, List.setIfInBounds_toArray, List.set_cons_zero, List.set_cons_succ, i64_w, i32_w]
        rfl
      refine pure_ (i := 29) (N := some 45) (v := ?_) (a' := ?_) #[true, true, true, true, true, true, true, true, true, true, true, true, true, true, true, true, true, true, true, true, true, true, true, true, true, true, true, true, true, true, false, false, false, false, false, false, false, false, false, false, false] rfl rfl (by kernel_rfl) (fun _ _ _ h => h) (Or.inl ⟨by rfl, ?_⟩) ?_ ?_
      rotate_left
      · intro w'
        go_simp
        with_reducible rfl
      rotate_left
      · simp only [Act.put, List.setIfInBounds_toArray, List.set_cons_zero, List.set_cons_succ, i64_w, i32_w]
        rfl
      refine pure_ (i := 30) (N := some 46) (v := ?_) (a' := ?_) #[true, true, true, true, true, true, true, true, true, true, true, true, true, true, true, true, true, true, true, true, true, true, true, true, true, true, true, true, true, true, true, false, false, false, false, false, false, false, false, false, false] rfl rfl (by kernel_rfl) (fun _ _ _ h => h) (Or.inl ⟨by rfl, ?_⟩) ?_ ?_
      rotate_left
      · intro w'
        go_simp
        with_reducible rfl
      rotate_left
      · simp only [Act.put, List.setIfInBounds_toArray, List.set_cons_zero, List.set_cons_succ, i64_w, i32_w]
        rfl
      refine pure_ (i := 31) (N := some 47) (v := ?_) (a' := ?_) #[true, true, true, true, true, true, true, true, true, true, true, true, true, true, true, true, true, true, true, true, true, true, true, true, true, true, true, true, true, true, true, true, false, false, false, false, false, false, false, false, false] rfl rfl (by kernel_rfl) (fun _ _ _ h => h) (Or.inl ⟨by rfl, ?_⟩) ?_ ?_
      rotate_left
      · intro w'
        go_simp
        with_reducible rfl
      rotate_left
      · simp only [Act.put, List.setIfInBounds_toArray, List.set_cons_zero, List.set_cons_succ, i64_w, i32_w]
        rfl
      exact norm_ (by first | (simp only [putAll, Act.put, List.setIfInBounds_toArray, List.set_cons_zero, List.set_cons_succ]; done) | (simp only [putAll, Act.put, List.setIfInBounds_toArray, List.set_cons_zero, List.set_cons_succ]; rfl)) (hJ ⟨.agg #[.int .i64 p.f0, .string p.f1, .slice A p.f2.length c], .int .i64 np, .bool (decide (10 < np)), decide (10 < np)⟩ _ ⟨hHeld, HB1, ⟨fun h => ⟨HQ.out, Try.deep_of HNP.out h⟩⟩⟩)
    · skip
      refine pure_ (i := 27) (N := some 43) (v := undef) (a' := ?_) #[true, true, true, true, true, true, true, true, true, true, true, true, true, true, true, true, true, true, true, true, true, true, true, true, true, true, true, true, false, false, false, false, false, false, false, false, false, false, false, false, false] rfl rfl (by kernel_rfl) (fun _ _ _ h => h) (Or.inr ⟨by rfl, rfl⟩) ?_ ?_
      rotate_left
      · simp only [Act.put, List.setIfInBounds_toArray, List.set_cons_zero, List.set_cons_succ, i64_w, i32_w]
        rfl
      refine pure_ (i := 28) (N := some 44) (v := undef) (a' := ?_) #[true, true, true, true, true, true, true, true, true, true, true, true, true, true, true, true, true, true, true, true, true, true, true, true, true, true, true, true, true, false, false, false, false, false, false, false, false, false, false, false, false] rfl rfl (by kernel_rfl) (fun _ _ _ h => h) (Or.inr ⟨by rfl, rfl⟩) ?_ ?_
      rotate_left
      · simp only [Act.put, List.setIfInBounds_toArray, List.set_cons_zero, List.set_cons_succ, i64_w, i32_w]
        rfl
      refine pure_ (i := 29) (N := some 45) (v := undef) (a' := ?_) #[true, true, true, true, true, true, true, true, true, true, true, true, true, true, true, true, true, true, true, true, true, true, true, true, true, true, true, true, true, true, false, false, false, false, false, false, false, false, false, false, false] rfl rfl (by kernel_rfl) (fun _ _ _ h => h) (Or.inr ⟨by rfl, rfl⟩) ?_ ?_
      rotate_left
      · simp only [Act.put, List.setIfInBounds_toArray, List.set_cons_zero, List.set_cons_succ, i64_w, i32_w]
        rfl
      refine pure_ (i := 30) (N := some 46) (v := ?_) (a' := ?_) #[true, true, true, true, true, true, true, true, true, true, true, true, true, true, true, true, true, true, true, true, true, true, true, true, true, true, true, true, true, true, true, false, false, false, false, false, false, false, false, false, false] rfl rfl (by kernel_rfl) (fun _ _ _ h => h) (Or.inl ⟨by rfl, ?_⟩) ?_ ?_
      rotate_left
      · intro w'
        go_simp
        with_reducible rfl
      rotate_left
      · simp only [Act.put, List.setIfInBounds_toArray, List.set_cons_zero, List.set_cons_succ, i64_w, i32_w]
        rfl
      refine pure_ (i := 31) (N := some 47) (v := ?_) (a' := ?_) #[true, true, true, true, true, true, true, true, true, true, true, true, true, true, true, true, true, true, true, true, true, true, true, true, true, true, true, true, true, true, true, true, false, false, false, false, false, false, false, false, false] rfl rfl (by kernel_rfl) (fun _ _ _ h => h) (Or.inl ⟨by rfl, ?_⟩) ?_ ?_
      rotate_left
      · intro w'
        go_simp
        with_reducible rfl
      rotate_left
      · simp only [Act.put, List.setIfInBounds_toArray, List.set_cons_zero, List.set_cons_succ, i64_w, i32_w]
        rfl
      exact norm_ (by first | (simp only [putAll, Act.put, List.setIfInBounds_toArray, List.set_cons_zero, List.set_cons_succ]; done) | (simp only [putAll, Act.put, List.setIfInBounds_toArray, List.set_cons_zero, List.set_cons_succ]; rfl)) (hJ ⟨undef, undef, undef, true⟩ _ ⟨hHeld, HB, ⟨fun h => by cases h⟩⟩)
  clear hHeld HB hQ
  rintro ⟨u5_0, u5_1, u5_2, b⟩ y5 ⟨hHeld, HB, hQ⟩
  refine norm_ (a' := ?_) ?_ ?_
  rotate_left
  · simp only [putAll, Act.put, List.setIfInBounds_toArray, List.set_cons_zero, List.set_cons_succ]
    rfl
  refine join_ (σ := Value × Value × Value × Bool) 4 #[true, true, true, true, true, true, true, true, true, true, true, true, true, true, true, true, true, true, true, true, true, true, true, true, true, true, true, true, true, true, true, true, true, true, true, true, true, false, false, false, false] (fun s => [(48, s.1), (49, s.2.1), (50, s.2.2.1), (51, .bool s.2.2.2), (52, .bool s.2.2.2)]) (fun s w' => (w'.cell? ⟨w.heap.size, 0, none⟩ = some (.int .i64 p.f0) ∧ w'.cell? ⟨w.heap.size, 1, none⟩ = some (.string p.f1) ∧ w'.cell? ⟨w.heap.size, 2, none⟩ = some (.slice A p.f2.length c) ∧ w'.cell? ⟨g1, 0, none⟩ = some (.int .i64 q.f0) ∧ w'.cell? ⟨g1, 1, none⟩ = some (.string q.f1) ∧ w'.cell? ⟨g1, 2, none⟩ = some (.slice B q.f2.length d)) ∧ Aside0 (Below w.heap.size w w') ∧ Aside0 (s.2.2.2 = false → Try.Rest p q)) ?_ ?_
  rotate_left
  · intro hJ
    cases b
    · skip
      have hq := hQ.out rfl
      have hd := Lang.fit_deep q 12 hq.1.1.2.1
      obtain ⟨kp, hkp⟩ := Try.dp_at q HSQ.out (by omega)
      have HKP := Aside0.mk hkp
      have HQ := Aside0.mk hq
      obtain ⟨np, hnp⟩ : ∃ np : Int, (Lang.deep q : Int) = np := ⟨_, rfl⟩
      rw [hnp] at HKP
      have HNP := Aside0.mk hnp
      clear hkp hq hnp hd
      refine take_ (i := 32) (N := some 48) (v := ?_) (a' := ?_) #[true, true, true, true, true, true, true, true, true, true, true, true, true, true, true, true, true, true, true, true, true, true, true, true, true, true, true, true, true, true, true, true, true, false, false, false, false, false, false, false, false] rfl rfl (by kernel_rfl) (fun _ _ _ h => h) (Or.inl ⟨by rfl, ?_⟩) hHeld ?_ ?_
      rotate_left
      · rintro w' ⟨s0, s1, s2, s3, s4, s5⟩
        go_simp
        with_reducible rfl
      rotate_left
      · simp only [Act.put, List.setIfInBounds_toArray, List.set_cons_zero, List.set_cons_succ, i64_w, i32_w]
        rfl
      refine one_ (i := 33) (N := some 49) #[true, true, true, true, true, true, true, true, true, true, true, true, true, true, true, true, true, true, true, true, true, true, true, true, true, true, true, true, true, true, true, true, true, true, false, false, false, false, false, false, false] rfl rfl (by kernel_rfl) (by decide) (fun K hK => ?_)
      refine goes_ Try.func8 (by kernel_rfl) rfl #[.agg #[.int .i64 q.f0, .string q.f1, .slice B q.f2.length d]] (by rfl) rfl rfl (by simp only [List.map_toArray, List.map_cons, List.map_nil]; rfl) ?_
      with_reducible refine (sinewref09_Deep.calls kp q.f0 q.f1 B d q.f2 _ _ (Kd.C_below HLQ.out HB.out) HCQ.out HKP.out).mono ?_
      rintro e x1 ⟨rfl, hb⟩
      refine ⟨_, rfl, ?_⟩
      have HB1 := Aside0.mk (below_step HB.out hb)
      refine hK.out _ _ (Try.six hb hHeld) (fun hHeld => ?_)
      clear hK K
      refine norm_ (a' := ?_) ?_ ?_
      rotate_left
      · show Act.put _ (some 49) _ = _
        simp only [Act.put, List.setIfInBounds_toArray, List.set_cons_zero, List.set_cons_succ, i64_w, i32_w]
        rfl
      refine pure_ (i := 34) (N := some 50) (v := ?_) (a' := ?_) #[true, true, true, true, true, true, true, true, true, true, true, true, true, true, true, true, true, true, true, true, true, true, true, true, true, true, true, true, true, true, true, true, true, true, true, false, false, false, false, false, false] rfl rfl (by kernel_rfl) (fun _ _ _ h => h) (Or.inl ⟨by rfl, ?_⟩) ?_ ?_
      rotate_left
      · intro w'
        go_simp
        with_reducible rfl
      rotate_left
      · simp only [Act.put, List.setIfInBounds_toArray, List.set_cons_zero, List.set_cons_succ, i64_w, i32_w]
        rfl
      refine pure_ (i := 35) (N := some 51) (v := ?_) (a' := ?_) #[true, true, true, true, true, true, true, true, true, true, true, true, true, true, true, true, true, true, true, true, true, true, true, true, true, true, true, true, true, true, true, true, true, true, true, true, false, false, false, false, false] rfl rfl (by kernel_rfl) (fun _ _ _ h => h) (Or.inl ⟨by rfl, ?_⟩) ?_ ?_
      rotate_left
      · intro w'
        go_simp
        with_reducible rfl
      rotate_left
      · simp only [Act.put, List.setIfInBounds_toArray, List.set_cons_zero, List.set_cons_succ, i64_w, i32_w]
        rfl
      refine pure_ (i := 36) (N := some 52) (v := ?_) (a' := ?_) #[true, true, true, true, true, true, true, true, true, true, true, true, true, true, true, true, true, true, true, true, true, true, true, true, true, true, true, true, true, true, true, true, true, true, true, true, true, false, false, false, false] rfl rfl (by kernel_rfl) (fun _ _ _ h => h) (Or.inl ⟨by rfl, ?_⟩) ?_ ?_
      rotate_left
      · intro w'
        go_simp
        with_reducible rfl
      rotate_left
      · simp only [Act.put, List.setIfInBounds_toArray, List.set_cons_zero, List.set_cons_succ, i64_w, i32_w]
        rfl
      exact norm_ (by first | (simp only [putAll, Act.put, List.setIfInBounds_toArray, List.set_cons_zero, List.set_cons_succ]; done) | (simp only [putAll, Act.put, List.setIfInBounds_toArray, List.set_cons_zero, List.set_cons_succ]; rfl)) (hJ ⟨.agg #[.int .i64 q.f0, .string q.f1, .slice B q.f2.length d], .int .i64 np, .bool (decide (10 < np)), decide (10 < np)⟩ _ ⟨hHeld, HB1, ⟨fun h => Try.rest_of HQ.out.1 HQ.out.2 (Try.deep_of HNP.out h)⟩⟩)
    · skip
      refine pure_ (i := 32) (N := some 48) (v := undef) (a' := ?_) #[true, true, true, true, true, true, true, true, true, true, true, true, true, true, true, true, true, true, true, true, true, true, true, true, true, true, true, true, true, true, true, true, true, false, false, false, false, false, false, false, false] rfl rfl (by kernel_rfl) (fun _ _ _ h => h) (Or.inr ⟨by rfl, rfl⟩) ?_ ?_
      rotate_left
      · simp only [Act.put, List.setIfInBounds_toArray, List.set_cons_zero, List.set_cons_succ, i64_w, i32_w]
        rfl
      refine pure_ (i := 33) (N := some 49) (v := undef) (a' := ?_) #[true, true, true, true, true, true, true, true, true, true, true, true, true, true, true, true, true, true, true, true, true, true, true, true, true, true, true, true, true, true, true, true, true, true, false, false, false, false, false, false, false] rfl rfl (by kernel_rfl) (fun _ _ _ h => h) (Or.inr ⟨by rfl, rfl⟩) ?_ ?_
      rotate_left
      · simp only [Act.put, List.setIfInBounds_toArray, List.set_cons_zero, List.set_cons_succ, i64_w, i32_w]
        rfl
      refine pure_ (i := 34) (N := some 50) (v := undef) (a' := ?_) #[true, true, true, true, true, true, true, true, true, true, true, true, true, true, true, true, true, true, true, true, true, true, true, true, true, true, true, true, true, true, true, true, true, true, true, false, false, false, false, false, false] rfl rfl (by kernel_rfl) (fun _ _ _ h => h) (Or.inr ⟨by rfl, rfl⟩) ?_ ?_
      rotate_left
      · simp only [Act.put, List.setIfInBounds_toArray, List.set_cons_zero, List.set_cons_succ, i64_w, i32_w]
        rfl
      refine pure_ (i := 35) (N := some 51) (v := ?_) (a' := ?_) #[true, true, true, true, true, true, true, true, true, true, true, true, true, true, true, true, true, true, true, true, true, true, true, true, true, true, true, true, true, true, true, true, true, true, true, true, false, false, false, false, false] rfl rfl (by kernel_rfl) (fun _ _ _ h => h) (Or.inl ⟨by rfl, ?_⟩) ?_ ?_
      rotate_left
      · intro w'
        go_simp
        with_reducible rfl
      rotate_left
      · simp only [Act.put, List.setIfInBounds_toArray, List.set_cons_zero, List.set_cons_succ, i64_w, i32_w]
        rfl
      refine pure_ (i := 36) (N := some 52) (v := ?_) (a' := ?_) #[true, true, true, true, true, true, true, true, true, true, true, true, true, true, true, true, true, true, true, true, true, true, true, true, true, true, true, true, true, true, true, true, true, true, true, true, true, false, false, false, false] rfl rfl (by kernel_rfl) (fun _ _ _ h => h) (Or.inl ⟨by rfl, ?_⟩) ?_ ?_
      rotate_left
      · intro w'
        go_simp
        with_reducible rfl
      rotate_left
      · simp only [Act.put, List.setIfInBounds_toArray, List.set_cons_zero, List.set_cons_succ, i64_w, i32_w]
        rfl
      exact norm_ (by first | (simp only [putAll, Act.put, List.setIfInBounds_toArray, List.set_cons_zero, List.set_cons_succ]; done) | (simp only [putAll, Act.put, List.setIfInBounds_toArray, List.set_cons_zero, List.set_cons_succ]; rfl)) (hJ ⟨undef, undef, undef, true⟩ _ ⟨hHeld, HB, ⟨fun h => by cases h⟩⟩)
  clear hHeld HB hQ
  rintro ⟨u6_0, u6_1, u6_2, b⟩ y6 ⟨hHeld, HB, hQ⟩
  refine norm_ (a' := ?_) ?_ ?_
  rotate_left
  · simp only [putAll, Act.put, List.setIfInBounds_toArray, List.set_cons_zero, List.set_cons_succ]
    rfl
  refine join_ (σ := Value × Value × Value × Bool) 0 #[true, true, true, true, true, true, true, true, true, true, true, true, true, true, true, true, true, true, true, true, true, true, true, true, true, true, true, true, true, true, true, true, true, true, true, true, true, true, true, true, true] (fun s => [(53, s.1), (54, s.2.1), (55, s.2.2.1), (56, .bool s.2.2.2)]) (fun s w' => (w'.cell? ⟨w.heap.size, 0, none⟩ = some (.int .i64 p.f0) ∧ w'.cell? ⟨w.heap.size, 1, none⟩ = some (.string p.f1) ∧ w'.cell? ⟨w.heap.size, 2, none⟩ = some (.slice A p.f2.length c) ∧ w'.cell? ⟨g1, 0, none⟩ = some (.int .i64 q.f0) ∧ w'.cell? ⟨g1, 1, none⟩ = some (.string q.f1) ∧ w'.cell? ⟨g1, 2, none⟩ = some (.slice B q.f2.length d)) ∧ Aside0 (Below w.heap.size w w') ∧ Aside0 (s.2.2.2 = false → Try.Rest p q)) ?_ ?_
  rotate_left
  · intro hJ
    cases b
    · skip
      refine pure_ (i := 37) (N := some 53) (v := ?_) (a' := ?_) #[true, true, true, true, true, true, true, true, true, true, true, true, true, true, true, true, true, true, true, true, true, true, true, true, true, true, true, true, true, true, true, true, true, true, true, true, true, true, false, false, false] rfl rfl (by kernel_rfl) (fun _ _ _ h => h) (Or.inl ⟨by rfl, ?_⟩) ?_ ?_
      rotate_left
      · intro w'
        go_simp
        with_reducible rfl
      rotate_left
      · simp only [Act.put, List.setIfInBounds_toArray, List.set_cons_zero, List.set_cons_succ, i64_w, i32_w]
        rfl
      refine pure_ (i := 38) (N := some 54) (v := ?_) (a' := ?_) #[true, true, true, true, true, true, true, true, true, true, true, true, true, true, true, true, true, true, true, true, true, true, true, true, true, true, true, true, true, true, true, true, true, true, true, true, true, true, true, false, false] rfl rfl (by kernel_rfl) (fun _ _ _ h => h) (Or.inl ⟨by rfl, ?_⟩) ?_ ?_
      rotate_left
      · intro w'
        go_simp
        with_reducible rfl
      rotate_left
      · simp only [Act.put, List.setIfInBounds_toArray, List.set_cons_zero, List.set_cons_succ, i64_w, i32_w]
        rfl
      refine pure_ (i := 39) (N := some 55) (v := ?_) (a' := ?_) #[true, true, true, true, true, true, true, true, true, true, true, true, true, true, true, true, true, true, true, true, true, true, true, true, true, true, true, true, true, true, true, true, true, true, true, true, true, true, true, true, false] rfl rfl (by kernel_rfl) (fun _ _ _ h => h) (Or.inl ⟨by rfl, ?_⟩) ?_ ?_
      rotate_left
      · intro w'
        go_simp
        with_reducible rfl
      rotate_left
      · simp only [Act.put, List.setIfInBounds_toArray, List.set_cons_zero, List.set_cons_succ, i64_w, i32_w]
        rfl
      refine pure_ (i := 40) (N := some 56) (v := ?_) (a' := ?_) #[true, true, true, true, true, true, true, true, true, true, true, true, true, true, true, true, true, true, true, true, true, true, true, true, true, true, true, true, true, true, true, true, true, true, true, true, true, true, true, true, true] rfl rfl (by kernel_rfl) (fun _ _ _ h => h) (Or.inl ⟨by rfl, ?_⟩) ?_ ?_
      rotate_left
      · intro w'
        go_simp
        with_reducible rfl
      rotate_left
      · simp only [Act.put, List.setIfInBounds_toArray, List.set_cons_zero, List.set_cons_succ, i64_w, i32_w]
        rfl
      exact norm_ (by first | (simp only [putAll, Act.put, List.setIfInBounds_toArray, List.set_cons_zero, List.set_cons_succ]; done) | (simp only [putAll, Act.put, List.setIfInBounds_toArray, List.set_cons_zero, List.set_cons_succ]; rfl)) (hJ ⟨.slice C l.length cl, .int .i64 l.length, .bool (decide (6 < (l.length : Int))), decide (6 < (l.length : Int))⟩ _ ⟨hHeld, HB, ⟨fun _ => hQ.out rfl⟩⟩)
    · skip
      refine pure_ (i := 37) (N := some 53) (v := undef) (a' := ?_) #[true, true, true, true, true, true, true, true, true, true, true, true, true, true, true, true, true, true, true, true, true, true, true, true, true, true, true, true, true, true, true, true, true, true, true, true, true, true, false, false, false] rfl rfl (by kernel_rfl) (fun _ _ _ h => h) (Or.inr ⟨by rfl, rfl⟩) ?_ ?_
      rotate_left
      · simp only [Act.put, List.setIfInBounds_toArray, List.set_cons_zero, List.set_cons_succ, i64_w, i32_w]
        rfl
      refine pure_ (i := 38) (N := some 54) (v := undef) (a' := ?_) #[true, true, true, true, true, true, true, true, true, true, true, true, true, true, true, true, true, true, true, true, true, true, true, true, true, true, true, true, true, true, true, true, true, true, true, true, true, true, true, false, false] rfl rfl (by kernel_rfl) (fun _ _ _ h => h) (Or.inr ⟨by rfl, rfl⟩) ?_ ?_
      rotate_left
      · simp only [Act.put, List.setIfInBounds_toArray, List.set_cons_zero, List.set_cons_succ, i64_w, i32_w]
        rfl
      refine pure_ (i := 39) (N := some 55) (v := undef) (a' := ?_) #[true, true, true, true, true, true, true, true, true, true, true, true, true, true, true, true, true, true, true, true, true, true, true, true, true, true, true, true, true, true, true, true, true, true, true, true, true, true, true, true, false] rfl rfl (by kernel_rfl) (fun _ _ _ h => h) (Or.inr ⟨by rfl, rfl⟩) ?_ ?_
      rotate_left
      · simp only [Act.put, List.setIfInBounds_toArray, List.set_cons_zero, List.set_cons_succ, i64_w, i32_w]
        rfl
      refine pure_ (i := 40) (N := some 56) (v := ?_) (a' := ?_) #[true, true, true, true, true, true, true, true, true, true, true, true, true, true, true, true, true, true, true, true, true, true, true, true, true, true, true, true, true, true, true, true, true, true, true, true, true, true, true, true, true] rfl rfl (by kernel_rfl) (fun _ _ _ h => h) (Or.inl ⟨by rfl, ?_⟩) ?_ ?_
      rotate_left
      · intro w'
        go_simp
        with_reducible rfl
      rotate_left
      · simp only [Act.put, List.setIfInBounds_toArray, List.set_cons_zero, List.set_cons_succ, i64_w, i32_w]
        rfl
      exact norm_ (by first | (simp only [putAll, Act.put, List.setIfInBounds_toArray, List.set_cons_zero, List.set_cons_succ]; done) | (simp only [putAll, Act.put, List.setIfInBounds_toArray, List.set_cons_zero, List.set_cons_succ]; rfl)) (hJ ⟨undef, undef, undef, true⟩ _ ⟨hHeld, HB, ⟨fun h => by cases h⟩⟩)
  clear hHeld HB hQ
  rintro ⟨u7_0, u7_1, u7_2, b⟩ y7 ⟨hHeld, HB, hQ⟩
  refine norm_ (a' := ?_) ?_ ?_
  rotate_left
  · simp only [putAll, Act.put, List.setIfInBounds_toArray, List.set_cons_zero, List.set_cons_succ]
    rfl
  refine done_ (by kernel_rfl) ?_
  cases b
  rotate_left
  · skip
    go_wp2_with fail
    refine (Try.awake_calls _).mono ?_
    rintro e w2 ⟨rfl, hb2⟩
    have HB2 := Aside0.mk (below_step HB.out hb2)
    clear hb2
    go_wp2_with fail
    go_ret
    exact ⟨rfl, HB2.out⟩
  have HR := Aside0.mk (hQ.out rfl)
  clear hQ HF1 HF2 KF1 KF2 KM1 KM2 HW HSZ HK1 HK2 c0 c1 c2 c3 c4 c5
  go_wp2_with fail
  refine (Try.lword_calls Lang.wp _).mono ?_
  rintro e w1 ⟨rfl, hb1⟩
  have HH := Aside0.mk (Try.six hb1 hHeld)
  have HB1 := Aside0.mk (below_step HB.out hb1)
  clear hb1 hHeld HB
  go_upto_region 4 with fail
  obtain ⟨W1, hW1⟩ : ∃ W1, w1.alloc (.cells #[.int .i64 1, .string Lang.wp, .slice none 0 0] 24) = W1 := ⟨_, rfl⟩
  rw [hW1]
  obtain ⟨g2, hg2⟩ : ∃ g2, w1.heap.size = g2 := ⟨_, rfl⟩
  rw [hg2]
  have hbW1 : Below w1.heap.size w1 W1 := by rw [← hW1]; exact below_alloc (Below.refl _ w1) _
  have HN1 : Aside0 (Try.Nine W1 w.heap.size g1 g2 p q A c B d) := ⟨Try.nine_of (Try.six hbW1 HH.out) (by rw [← hW1, ← hg2]; exact (MapKept.heap_alloc w1 _).1)⟩
  have HBW1 := Aside0.mk (below_step HB1.out hbW1)
  clear HH HB1 hbW1 hW1 hg2
  have HLP1 := Aside0.mk (Kd.C_below HLP.out HBW1.out)
  have HLQ1 := Aside0.mk (Kd.C_below HLQ.out HBW1.out)
  obtain ⟨n0, n1, n2, n3, n4, n5, n6, n7, n8⟩ := HN1.out.all
  obtain ⟨X1, hX1⟩ : ∃ X, W1.alloc (.cells #[.int .i64 p.f0, .string p.f1, .slice A p.f2.length c, .int .i64 q.f0, .string q.f1, .slice B q.f2.length d, .int .i64 1, .string Lang.wp, .slice none 0 0] 24) = X := ⟨_, rfl⟩
  have hbX1 : Below W1.heap.size W1 X1 := by rw [← hX1]; exact below_alloc (Below.refl _ W1) _
  have hk1 : X1.heap[W1.heap.size]? = some (.cells #[.int .i64 p.f0, .string p.f1, .slice A p.f2.length c, .int .i64 q.f0, .string q.f1, .slice B q.f2.length d, .int .i64 1, .string Lang.wp, .slice none 0 0] 24 (0, 0)) := by rw [← hX1]; exact (MapKept.heap_alloc W1 _).1
  have hC1 := Try.C_three p q ⟨1, Lang.wp, []⟩ hk1 HCP.out HCQ.out (by simp) (Kd.C_below HLP1.out hbX1) (Kd.C_below HLQ1.out hbX1) (Kd.C_nil _ _)
  have hof := Try.of_calls X1 (Try.pa p q) (Try.turns_ok HR.out).1.1 (Try.turns_ok HR.out).1.2.1 (Try.turns_ok HR.out).1.2.2 (some ⟨W1.heap.size, 0, none⟩) 3 hC1 (Nat.le_refl _)
  rw [← hX1] at hof
  have HX1 := Aside0.mk hX1
  have HBX1 := Aside0.mk (below_step HBW1.out hbX1)
  have HNX1 := Aside0.mk (HN1.out.below hbX1)
  clear hX1 hbX1 hk1 hC1
  clear HLP1 HLQ1 HN1 HBW1
  go_wp2_with fail
  refine hof.mono ?_
  rw [HX1.out]
  rintro e v1 ⟨A0_1, A1_1, A2_1, A3_1, c0_1, c1_1, c2_1, c3_1, a1, rfl, hin, ha, hb, hc0⟩
  have HA1 := Aside0.mk ha
  have HBV := Aside0.mk (below_step HBX1.out hb)
  have HNV := Aside0.mk (HNX1.out.below hb)
  have HIV1 := Aside0.mk hin
  clear hof hin ha hb hc0 n0 n1 n2 n3 n4 n5 n6 n7 n8 HX1 HBX1 HNX1
  go_upto_region 5 with fail
  obtain ⟨W2, hW⟩ : ∃ W, v1.alloc (.cells #[.slice A0_1 a1.words.length c0_1, .slice A1_1 a1.first.length c1_1, .slice A2_1 a1.last.length c2_1, .slice A3_1 a1.follow.length c3_1, .bool a1.empty] 33) = W := ⟨_, rfl⟩
  rw [hW]
  obtain ⟨x1, hx⟩ : ∃ x, v1.heap.size = x := ⟨_, rfl⟩
  rw [hx]
  have hb : Below v1.heap.size v1 W2 := by rw [← hW]; exact below_alloc (Below.refl _ v1) _
  have HO1_2 : Aside0 (W2.heap[x1]? = some (.cells #[.slice A0_1 a1.words.length c0_1, .slice A1_1 a1.first.length c1_1, .slice A2_1 a1.last.length c2_1, .slice A3_1 a1.follow.length c3_1, .bool a1.empty] 33 (0, 0))) := ⟨by rw [← hW, ← hx]; exact (MapKept.heap_alloc v1 _).1⟩
  have HBW2 := Aside0.mk (below_step HBV.out hb)
  have HN2 := Aside0.mk (HNV.out.below hb)
  have HI1_2 := Aside0.mk (HIV1.out.below hb)
  clear hW hx hb HBV HNV HIV1
  have HLP2 := Aside0.mk (Kd.C_below HLP.out HBW2.out)
  have HLQ2 := Aside0.mk (Kd.C_below HLQ.out HBW2.out)
  obtain ⟨n0, n1, n2, n3, n4, n5, n6, n7, n8⟩ := HN2.out.all
  obtain ⟨X2, hX2⟩ : ∃ X, (W2.alloc (.cells #[.int .i64 q.f0, .string q.f1, .slice B q.f2.length d, .int .i64 p.f0, .string p.f1, .slice A p.f2.length c] 24)).alloc (.cells #[.int .i64 1, .string Lang.wp, .slice none 0 0, .int .i64 3, .string ⟨#[]⟩, .slice (some ⟨W2.heap.size, 0, none⟩) 2 2] 24) = X := ⟨_, rfl⟩
  obtain ⟨hsz2, hk2, hj2, hbX2⟩ := Try.two hX2
  have hD2 := Try.C_two q p hk2 HCQ.out HCP.out (Kd.C_below HLQ2.out hbX2) (Kd.C_below HLP2.out hbX2)
  have hC2 := Try.C_two ⟨1, Lang.wp, []⟩ ⟨3, ⟨#[]⟩, [q, p]⟩ hj2 (by simp) (Nat.le_refl _) (Kd.C_nil _ _) hD2
  have hof := Try.of_calls X2 (Try.pb p q) (Try.turns_ok HR.out).2.1.1 (Try.turns_ok HR.out).2.1.2.1 (Try.turns_ok HR.out).2.1.2.2 (some ⟨W2.heap.size + 1, 0, none⟩) 2 hC2 (Nat.le_refl _)
  rw [← hX2] at hof
  have HX2 := Aside0.mk hX2
  have HBX2 := Aside0.mk (below_step HBW2.out hbX2)
  have HNX2 := Aside0.mk (HN2.out.below hbX2)
  have HIN1_2 := Aside0.mk (HI1_2.out.below hbX2)
  have HBO1_2 := Aside0.mk (Try.blk_then hbX2 HO1_2.out)
  clear hX2 hbX2 hk2 hj2 hD2 hC2 hsz2
  clear HLP2 HLQ2 HN2 HBW2 HI1_2 HO1_2
  go_wp2_with fail
  refine hof.mono ?_
  rw [HX2.out]
  rintro e v2 ⟨A0_2, A1_2, A2_2, A3_2, c0_2, c1_2, c2_2, c3_2, a2, rfl, hin, ha, hb, hc0⟩
  have HA2 := Aside0.mk ha
  have HBV := Aside0.mk (below_step HBX2.out hb)
  have HNV := Aside0.mk (HNX2.out.below hb)
  have HIV1 := Aside0.mk (HIN1_2.out.below hb)
  have HOV1 := Aside0.mk (Try.blk_then hb HBO1_2.out)
  have HIV2 := Aside0.mk hin
  clear hof hin ha hb hc0 n0 n1 n2 n3 n4 n5 n6 n7 n8 HX2 HBX2 HNX2 HIN1_2 HBO1_2
  go_upto_region 6 with fail
  obtain ⟨W3, hW⟩ : ∃ W, v2.alloc (.cells #[.slice A0_2 a2.words.length c0_2, .slice A1_2 a2.first.length c1_2, .slice A2_2 a2.last.length c2_2, .slice A3_2 a2.follow.length c3_2, .bool a2.empty] 33) = W := ⟨_, rfl⟩
  rw [hW]
  obtain ⟨x2, hx⟩ : ∃ x, v2.heap.size = x := ⟨_, rfl⟩
  rw [hx]
  have hb : Below v2.heap.size v2 W3 := by rw [← hW]; exact below_alloc (Below.refl _ v2) _
  have HO2_3 : Aside0 (W3.heap[x2]? = some (.cells #[.slice A0_2 a2.words.length c0_2, .slice A1_2 a2.first.length c1_2, .slice A2_2 a2.last.length c2_2, .slice A3_2 a2.follow.length c3_2, .bool a2.empty] 33 (0, 0))) := ⟨by rw [← hW, ← hx]; exact (MapKept.heap_alloc v2 _).1⟩
  have HBW3 := Aside0.mk (below_step HBV.out hb)
  have HN3 := Aside0.mk (HNV.out.below hb)
  have HI1_3 := Aside0.mk (HIV1.out.below hb)
  have HI2_3 := Aside0.mk (HIV2.out.below hb)
  have HO1_3 := Aside0.mk (Try.blk_then hb HOV1.out)
  clear hW hx hb HBV HNV HIV1 HIV2 HOV1
  have HLP3 := Aside0.mk (Kd.C_below HLP.out HBW3.out)
  have HLQ3 := Aside0.mk (Kd.C_below HLQ.out HBW3.out)
  obtain ⟨n0, n1, n2, n3, n4, n5, n6, n7, n8⟩ := HN3.out.all
  obtain ⟨X3, hX3⟩ : ∃ X, W3.alloc (.cells #[.int .i64 p.f0, .string p.f1, .slice A p.f2.length c, .int .i64 q.f0, .string q.f1, .slice B q.f2.length d, .int .i64 1, .string Lang.wp, .slice none 0 0] 24) = X := ⟨_, rfl⟩
  have hbX3 : Below W3.heap.size W3 X3 := by rw [← hX3]; exact below_alloc (Below.refl _ W3) _
  have hk3 : X3.heap[W3.heap.size]? = some (.cells #[.int .i64 p.f0, .string p.f1, .slice A p.f2.length c, .int .i64 q.f0, .string q.f1, .slice B q.f2.length d, .int .i64 1, .string Lang.wp, .slice none 0 0] 24 (0, 0)) := by rw [← hX3]; exact (MapKept.heap_alloc W3 _).1
  have hC3 := Try.C_three p q ⟨1, Lang.wp, []⟩ hk3 HCP.out HCQ.out (by simp) (Kd.C_below HLP3.out hbX3) (Kd.C_below HLQ3.out hbX3) (Kd.C_nil _ _)
  have hof := Try.of_calls X3 (Try.pc p q) (Try.turns_ok HR.out).2.2.1.1 (Try.turns_ok HR.out).2.2.1.2.1 (Try.turns_ok HR.out).2.2.1.2.2 (some ⟨W3.heap.size, 0, none⟩) 3 hC3 (Nat.le_refl _)
  rw [← hX3] at hof
  have HX3 := Aside0.mk hX3
  have HBX3 := Aside0.mk (below_step HBW3.out hbX3)
  have HNX3 := Aside0.mk (HN3.out.below hbX3)
  have HIN1_3 := Aside0.mk (HI1_3.out.below hbX3)
  have HBO1_3 := Aside0.mk (Try.blk_then hbX3 HO1_3.out)
  have HIN2_3 := Aside0.mk (HI2_3.out.below hbX3)
  have HBO2_3 := Aside0.mk (Try.blk_then hbX3 HO2_3.out)
  clear hX3 hbX3 hk3 hC3
  clear HLP3 HLQ3 HN3 HBW3 HI1_3 HO1_3 HI2_3 HO2_3
  go_wp2_with fail
  refine hof.mono ?_
  rw [HX3.out]
  rintro e v3 ⟨A0_3, A1_3, A2_3, A3_3, c0_3, c1_3, c2_3, c3_3, a3, rfl, hin, ha, hb, hc0⟩
  have HA3 := Aside0.mk ha
  have HBV := Aside0.mk (below_step HBX3.out hb)
  have HNV := Aside0.mk (HNX3.out.below hb)
  have HIV1 := Aside0.mk (HIN1_3.out.below hb)
  have HOV1 := Aside0.mk (Try.blk_then hb HBO1_3.out)
  have HIV2 := Aside0.mk (HIN2_3.out.below hb)
  have HOV2 := Aside0.mk (Try.blk_then hb HBO2_3.out)
  have HIV3 := Aside0.mk hin
  clear hof hin ha hb hc0 n0 n1 n2 n3 n4 n5 n6 n7 n8 HX3 HBX3 HNX3 HIN1_3 HBO1_3 HIN2_3 HBO2_3
  go_upto_region 7 with fail
  obtain ⟨W4, hW⟩ : ∃ W, v3.alloc (.cells #[.slice A0_3 a3.words.length c0_3, .slice A1_3 a3.first.length c1_3, .slice A2_3 a3.last.length c2_3, .slice A3_3 a3.follow.length c3_3, .bool a3.empty] 33) = W := ⟨_, rfl⟩
  rw [hW]
  obtain ⟨x3, hx⟩ : ∃ x, v3.heap.size = x := ⟨_, rfl⟩
  rw [hx]
  have hb : Below v3.heap.size v3 W4 := by rw [← hW]; exact below_alloc (Below.refl _ v3) _
  have HO3_4 : Aside0 (W4.heap[x3]? = some (.cells #[.slice A0_3 a3.words.length c0_3, .slice A1_3 a3.first.length c1_3, .slice A2_3 a3.last.length c2_3, .slice A3_3 a3.follow.length c3_3, .bool a3.empty] 33 (0, 0))) := ⟨by rw [← hW, ← hx]; exact (MapKept.heap_alloc v3 _).1⟩
  have HBW4 := Aside0.mk (below_step HBV.out hb)
  have HN4 := Aside0.mk (HNV.out.below hb)
  have HI1_4 := Aside0.mk (HIV1.out.below hb)
  have HI2_4 := Aside0.mk (HIV2.out.below hb)
  have HI3_4 := Aside0.mk (HIV3.out.below hb)
  have HO1_4 := Aside0.mk (Try.blk_then hb HOV1.out)
  have HO2_4 := Aside0.mk (Try.blk_then hb HOV2.out)
  clear hW hx hb HBV HNV HIV1 HIV2 HIV3 HOV1 HOV2
  have HLP4 := Aside0.mk (Kd.C_below HLP.out HBW4.out)
  have HLQ4 := Aside0.mk (Kd.C_below HLQ.out HBW4.out)
  obtain ⟨n0, n1, n2, n3, n4, n5, n6, n7, n8⟩ := HN4.out.all
  obtain ⟨X4, hX4⟩ : ∃ X, (W4.alloc (.cells #[.int .i64 q.f0, .string q.f1, .slice B q.f2.length d, .int .i64 1, .string Lang.wp, .slice none 0 0] 24)).alloc (.cells #[.int .i64 p.f0, .string p.f1, .slice A p.f2.length c, .int .i64 2, .string ⟨#[]⟩, .slice (some ⟨W4.heap.size, 0, none⟩) 2 2] 24) = X := ⟨_, rfl⟩
  obtain ⟨hsz4, hk4, hj4, hbX4⟩ := Try.two hX4
  have hD4 := Try.C_two q ⟨1, Lang.wp, []⟩ hk4 HCQ.out (by simp) (Kd.C_below HLQ4.out hbX4) (Kd.C_nil _ _)
  have hC4 := Try.C_two p ⟨2, ⟨#[]⟩, [q, ⟨1, Lang.wp, []⟩]⟩ hj4 HCP.out (Nat.le_refl _) (Kd.C_below HLP4.out hbX4) hD4
  have hof := Try.of_calls X4 (Try.pd p q) (Try.turns_ok HR.out).2.2.2.1 (Try.turns_ok HR.out).2.2.2.2.1 (Try.turns_ok HR.out).2.2.2.2.2 (some ⟨W4.heap.size + 1, 0, none⟩) 2 hC4 (Nat.le_refl _)
  rw [← hX4] at hof
  have HX4 := Aside0.mk hX4
  have HBX4 := Aside0.mk (below_step HBW4.out hbX4)
  have HNX4 := Aside0.mk (HN4.out.below hbX4)
  have HIN1_4 := Aside0.mk (HI1_4.out.below hbX4)
  have HBO1_4 := Aside0.mk (Try.blk_then hbX4 HO1_4.out)
  have HIN2_4 := Aside0.mk (HI2_4.out.below hbX4)
  have HBO2_4 := Aside0.mk (Try.blk_then hbX4 HO2_4.out)
  have HIN3_4 := Aside0.mk (HI3_4.out.below hbX4)
  have HBO3_4 := Aside0.mk (Try.blk_then hbX4 HO3_4.out)
  clear hX4 hbX4 hk4 hj4 hD4 hC4 hsz4
  clear HLP4 HLQ4 HN4 HBW4 HI1_4 HO1_4 HI2_4 HO2_4 HI3_4 HO3_4
  go_wp2_with fail
  refine hof.mono ?_
  rw [HX4.out]
  rintro e v4 ⟨A0_4, A1_4, A2_4, A3_4, c0_4, c1_4, c2_4, c3_4, a4, rfl, hin, ha, hb, hc0⟩
  have HA4 := Aside0.mk ha
  have HBV := Aside0.mk (below_step HBX4.out hb)
  have HNV := Aside0.mk (HNX4.out.below hb)
  have HIV1 := Aside0.mk (HIN1_4.out.below hb)
  have HOV1 := Aside0.mk (Try.blk_then hb HBO1_4.out)
  have HIV2 := Aside0.mk (HIN2_4.out.below hb)
  have HOV2 := Aside0.mk (Try.blk_then hb HBO2_4.out)
  have HIV3 := Aside0.mk (HIN3_4.out.below hb)
  have HOV3 := Aside0.mk (Try.blk_then hb HBO3_4.out)
  have HIV4 := Aside0.mk hin
  clear hof hin ha hb hc0 n0 n1 n2 n3 n4 n5 n6 n7 n8 HX4 HBX4 HNX4 HIN1_4 HBO1_4 HIN2_4 HBO2_4 HIN3_4 HBO3_4
  go_upto_region 8 with fail
  obtain ⟨W5, hW⟩ : ∃ W, v4.alloc (.cells #[.slice A0_4 a4.words.length c0_4, .slice A1_4 a4.first.length c1_4, .slice A2_4 a4.last.length c2_4, .slice A3_4 a4.follow.length c3_4, .bool a4.empty] 33) = W := ⟨_, rfl⟩
  rw [hW]
  obtain ⟨x4, hx⟩ : ∃ x, v4.heap.size = x := ⟨_, rfl⟩
  rw [hx]
  have hb : Below v4.heap.size v4 W5 := by rw [← hW]; exact below_alloc (Below.refl _ v4) _
  have HO4_5 : Aside0 (W5.heap[x4]? = some (.cells #[.slice A0_4 a4.words.length c0_4, .slice A1_4 a4.first.length c1_4, .slice A2_4 a4.last.length c2_4, .slice A3_4 a4.follow.length c3_4, .bool a4.empty] 33 (0, 0))) := ⟨by rw [← hW, ← hx]; exact (MapKept.heap_alloc v4 _).1⟩
  have HBW5 := Aside0.mk (below_step HBV.out hb)
  have HN5 := Aside0.mk (HNV.out.below hb)
  have HI1_5 := Aside0.mk (HIV1.out.below hb)
  have HI2_5 := Aside0.mk (HIV2.out.below hb)
  have HI3_5 := Aside0.mk (HIV3.out.below hb)
  have HI4_5 := Aside0.mk (HIV4.out.below hb)
  have HO1_5 := Aside0.mk (Try.blk_then hb HOV1.out)
  have HO2_5 := Aside0.mk (Try.blk_then hb HOV2.out)
  have HO3_5 := Aside0.mk (Try.blk_then hb HOV3.out)
  clear hW hx hb HBV HNV HIV1 HIV2 HIV3 HIV4 HOV1 HOV2 HOV3
  obtain ⟨z1, hz1⟩ : ∃ z, Lang.accepts a1 l = z := ⟨_, rfl⟩
  obtain ⟨z2, hz2⟩ : ∃ z, Lang.accepts a3 l = z := ⟨_, rfl⟩
  have hz3 : Lang.accepts a2 l = z1 := by rw [← hz1]; exact (Try.turns_eq HR.out HA1.out HA2.out HA3.out HA4.out l).1.symm
  have hz4 : Lang.accepts a4 l = z2 := by rw [← hz2]; exact (Try.turns_eq HR.out HA1.out HA2.out HA3.out HA4.out l).2.symm
  have KA1 : Aside0 (∀ W, Below W5.heap.size W5 W → Calls Try.prog 12 #[.agg #[.slice A0_1 a1.words.length c0_1, .slice A1_1 a1.first.length c1_1, .slice A2_1 a1.last.length c2_1, .slice A3_1 a1.follow.length c3_1, .bool a1.empty], .slice C l.length cl] W fun e w' => e = .returned (.bool z1) ∧ Below W.heap.size W w') := ⟨fun W hb => by
    have := Try.accepts_calls A0_1 A1_1 A2_1 A3_1 C c0_1 c1_1 c2_1 c3_1 cl a1 l W (HI1_5.out.below hb) (Kd.C_below (Kd.C_below HLL.out HBW5.out) hb)
    rwa [hz1] at this⟩
  have KA2 : Aside0 (∀ W, Below W5.heap.size W5 W → Calls Try.prog 12 #[.agg #[.slice A0_2 a2.words.length c0_2, .slice A1_2 a2.first.length c1_2, .slice A2_2 a2.last.length c2_2, .slice A3_2 a2.follow.length c3_2, .bool a2.empty], .slice C l.length cl] W fun e w' => e = .returned (.bool z1) ∧ Below W.heap.size W w') := ⟨fun W hb => by
    have := Try.accepts_calls A0_2 A1_2 A2_2 A3_2 C c0_2 c1_2 c2_2 c3_2 cl a2 l W (HI2_5.out.below hb) (Kd.C_below (Kd.C_below HLL.out HBW5.out) hb)
    rwa [hz3] at this⟩
  have KA3 : Aside0 (∀ W, Below W5.heap.size W5 W → Calls Try.prog 12 #[.agg #[.slice A0_3 a3.words.length c0_3, .slice A1_3 a3.first.length c1_3, .slice A2_3 a3.last.length c2_3, .slice A3_3 a3.follow.length c3_3, .bool a3.empty], .slice C l.length cl] W fun e w' => e = .returned (.bool z2) ∧ Below W.heap.size W w') := ⟨fun W hb => by
    have := Try.accepts_calls A0_3 A1_3 A2_3 A3_3 C c0_3 c1_3 c2_3 c3_3 cl a3 l W (HI3_5.out.below hb) (Kd.C_below (Kd.C_below HLL.out HBW5.out) hb)
    rwa [hz2] at this⟩
  have KA4 : Aside0 (∀ W, Below W5.heap.size W5 W → Calls Try.prog 12 #[.agg #[.slice A0_4 a4.words.length c0_4, .slice A1_4 a4.first.length c1_4, .slice A2_4 a4.last.length c2_4, .slice A3_4 a4.follow.length c3_4, .bool a4.empty], .slice C l.length cl] W fun e w' => e = .returned (.bool z2) ∧ Below W.heap.size W w') := ⟨fun W hb => by
    have := Try.accepts_calls A0_4 A1_4 A2_4 A3_4 C c0_4 c1_4 c2_4 c3_4 cl a4 l W (HI4_5.out.below hb) (Kd.C_below (Kd.C_below HLL.out HBW5.out) hb)
    rwa [hz4] at this⟩
  clear hz1 hz2 hz3 hz4 HA1 HA2 HA3 HA4 HR HI1_5 HI2_5 HI3_5 HI4_5 HN5 HLL HLP HLQ HCP HCQ HSP HSQ HG1
  have hB1 := Try.box_cells HO1_5.out
  have hB2 := Try.box_cells HO2_5.out
  have hB3 := Try.box_cells HO3_5.out
  have hB4 := Try.box_cells HO4_5.out
  obtain ⟨d0, d1, d2, d3, d4⟩ := hB1
  obtain ⟨d5, d6, d7, d8, d9⟩ := hB2
  obtain ⟨d10, d11, d12, d13, d14⟩ := hB3
  obtain ⟨d15, d16, d17, d18, d19⟩ := hB4
  have HBD := Aside0.mk (below_drew1 (Below.refl W5.heap.size W5))
  clear HO1_5 HO2_5 HO3_5 HO4_5
  refine start_ (n := 36) (S := fun w' => w'.cell? ⟨x1, 0, none⟩ = some (.slice A0_1 a1.words.length c0_1) ∧ w'.cell? ⟨x1, 1, none⟩ = some (.slice A1_1 a1.first.length c1_1) ∧ w'.cell? ⟨x1, 2, none⟩ = some (.slice A2_1 a1.last.length c2_1) ∧ w'.cell? ⟨x1, 3, none⟩ = some (.slice A3_1 a1.follow.length c3_1) ∧ w'.cell? ⟨x1, 4, none⟩ = some (.bool a1.empty) ∧ w'.cell? ⟨x2, 0, none⟩ = some (.slice A0_2 a2.words.length c0_2) ∧ w'.cell? ⟨x2, 1, none⟩ = some (.slice A1_2 a2.first.length c1_2) ∧ w'.cell? ⟨x2, 2, none⟩ = some (.slice A2_2 a2.last.length c2_2) ∧ w'.cell? ⟨x2, 3, none⟩ = some (.slice A3_2 a2.follow.length c3_2) ∧ w'.cell? ⟨x2, 4, none⟩ = some (.bool a2.empty) ∧ w'.cell? ⟨x3, 0, none⟩ = some (.slice A0_3 a3.words.length c0_3) ∧ w'.cell? ⟨x3, 1, none⟩ = some (.slice A1_3 a3.first.length c1_3) ∧ w'.cell? ⟨x3, 2, none⟩ = some (.slice A2_3 a3.last.length c2_3) ∧ w'.cell? ⟨x3, 3, none⟩ = some (.slice A3_3 a3.follow.length c3_3) ∧ w'.cell? ⟨x3, 4, none⟩ = some (.bool a3.empty) ∧ w'.cell? ⟨x4, 0, none⟩ = some (.slice A0_4 a4.words.length c0_4) ∧ w'.cell? ⟨x4, 1, none⟩ = some (.slice A1_4 a4.first.length c1_4) ∧ w'.cell? ⟨x4, 2, none⟩ = some (.slice A2_4 a4.last.length c2_4) ∧ w'.cell? ⟨x4, 3, none⟩ = some (.slice A3_4 a4.follow.length c3_4) ∧ w'.cell? ⟨x4, 4, none⟩ = some (.bool a4.empty)) (ds := []) #[false, false, false, false, false, false, false, false, false, false, false, false, false, false, false, false, false, false, false, false, false, false, false, false, false, false, false, false, false, false, false, false, false, false, false, false] (by kernel_rfl) rfl rfl ⟨(by go_simp), (by go_simp), (by go_simp), (by go_simp), (by go_simp), (by go_simp), (by go_simp), (by go_simp), (by go_simp), (by go_simp), (by go_simp), (by go_simp), (by go_simp), (by go_simp), (by go_simp), (by go_simp), (by go_simp), (by go_simp), (by go_simp), (by go_simp)⟩ (fun hHeld => ?_)
  refine pure_ (i := 0) (N := some 99) (v := ?_) (a' := ?_) #[true, false, false, false, false, false, false, false, false, false, false, false, false, false, false, false, false, false, false, false, false, false, false, false, false, false, false, false, false, false, false, false, false, false, false, false] rfl rfl (by kernel_rfl) (fun _ _ _ h => h) (Or.inl ⟨by rfl, ?_⟩) ?_ ?_
  rotate_left
  · intro w'
    go_simp
    with_reducible rfl
  rotate_left
  · simp only [Act.put, List.setIfInBounds_toArray, List.set_cons_zero, List.set_cons_succ, i64_w, i32_w]
    rfl
  refine pure_ (i := 1) (N := some 100) (v := ?_) (a' := ?_) #[true, true, false, false, false, false, false, false, false, false, false, false, false, false, false, false, false, false, false, false, false, false, false, false, false, false, false, false, false, false, false, false, false, false, false, false] rfl rfl (by kernel_rfl) (fun _ _ _ h => h) (Or.inl ⟨by rfl, ?_⟩) ?_ ?_
  rotate_left
  · intro w'
    go_simp
    with_reducible rfl
  rotate_left
  · simp only [Act.put, List.setIfInBounds_toArray, List.set_cons_zero, List.set_cons_succ, i64_w, i32_w]
    rfl
  refine pure_ (i := 2) (N := some 101) (v := ?_) (a' := ?_) #[true, true, true, false, false, false, false, false, false, false, false, false, false, false, false, false, false, false, false, false, false, false, false, false, false, false, false, false, false, false, false, false, false, false, false, false] rfl rfl (by kernel_rfl) (fun _ _ _ h => h) (Or.inl ⟨by rfl, ?_⟩) ?_ ?_
  rotate_left
  · intro w'
    go_simp
    with_reducible rfl
  rotate_left
  · simp only [Act.put, List.setIfInBounds_toArray, List.set_cons_zero, List.set_cons_succ, i64_w, i32_w]
    rfl
  refine pure_ (i := 3) (N := some 102) (v := ?_) (a' := ?_) #[true, true, true, true, false, false, false, false, false, false, false, false, false, false, false, false, false, false, false, false, false, false, false, false, false, false, false, false, false, false, false, false, false, false, false, false] rfl rfl (by kernel_rfl) (fun _ _ _ h => h) (Or.inl ⟨by rfl, ?_⟩) ?_ ?_
  rotate_left
  · intro w'
    go_simp
    with_reducible rfl
  rotate_left
  · simp only [Act.put, List.setIfInBounds_toArray, List.set_cons_zero, List.set_cons_succ, i64_w, i32_w]
    rfl
  refine pure_ (i := 4) (N := some 103) (v := ?_) (a' := ?_) #[true, true, true, true, true, false, false, false, false, false, false, false, false, false, false, false, false, false, false, false, false, false, false, false, false, false, false, false, false, false, false, false, false, false, false, false] rfl rfl (by kernel_rfl) (fun _ _ _ h => h) (Or.inl ⟨by rfl, ?_⟩) ?_ ?_
  rotate_left
  · intro w'
    go_simp
    with_reducible rfl
  rotate_left
  · simp only [Act.put, List.setIfInBounds_toArray, List.set_cons_zero, List.set_cons_succ, i64_w, i32_w]
    rfl
  refine pure_ (i := 5) (N := some 104) (v := ?_) (a' := ?_) #[true, true, true, true, true, true, false, false, false, false, false, false, false, false, false, false, false, false, false, false, false, false, false, false, false, false, false, false, false, false, false, false, false, false, false, false] rfl rfl (by kernel_rfl) (fun _ _ _ h => h) (Or.inl ⟨by rfl, ?_⟩) ?_ ?_
  rotate_left
  · intro w'
    go_simp
    with_reducible rfl
  rotate_left
  · simp only [Act.put, List.setIfInBounds_toArray, List.set_cons_zero, List.set_cons_succ, i64_w, i32_w]
    rfl
  refine pure_ (i := 6) (N := some 105) (v := ?_) (a' := ?_) #[true, true, true, true, true, true, true, false, false, false, false, false, false, false, false, false, false, false, false, false, false, false, false, false, false, false, false, false, false, false, false, false, false, false, false, false] rfl rfl (by kernel_rfl) (fun _ _ _ h => h) (Or.inl ⟨by rfl, ?_⟩) ?_ ?_
  rotate_left
  · intro w'
    go_simp
    with_reducible rfl
  rotate_left
  · simp only [Act.put, List.setIfInBounds_toArray, List.set_cons_zero, List.set_cons_succ, i64_w, i32_w]
    rfl
  refine pure_ (i := 7) (N := some 106) (v := ?_) (a' := ?_) #[true, true, true, true, true, true, true, true, false, false, false, false, false, false, false, false, false, false, false, false, false, false, false, false, false, false, false, false, false, false, false, false, false, false, false, false] rfl rfl (by kernel_rfl) (fun _ _ _ h => h) (Or.inl ⟨by rfl, ?_⟩) ?_ ?_
  rotate_left
  · intro w'
    go_simp
    with_reducible rfl
  rotate_left
  · simp only [Act.put, List.setIfInBounds_toArray, List.set_cons_zero, List.set_cons_succ, i64_w, i32_w]
    rfl
  refine pure_ (i := 8) (N := some 107) (v := ?_) (a' := ?_) #[true, true, true, true, true, true, true, true, true, false, false, false, false, false, false, false, false, false, false, false, false, false, false, false, false, false, false, false, false, false, false, false, false, false, false, false] rfl rfl (by kernel_rfl) (fun _ _ _ h => h) (Or.inl ⟨by rfl, ?_⟩) ?_ ?_
  rotate_left
  · intro w'
    go_simp
    with_reducible rfl
  rotate_left
  · simp only [Act.put, List.setIfInBounds_toArray, List.set_cons_zero, List.set_cons_succ, i64_w, i32_w]
    rfl
  refine pure_ (i := 9) (N := some 108) (v := ?_) (a' := ?_) #[true, true, true, true, true, true, true, true, true, true, false, false, false, false, false, false, false, false, false, false, false, false, false, false, false, false, false, false, false, false, false, false, false, false, false, false] rfl rfl (by kernel_rfl) (fun _ _ _ h => h) (Or.inl ⟨by rfl, ?_⟩) ?_ ?_
  rotate_left
  · intro w'
    go_simp
    with_reducible rfl
  rotate_left
  · simp only [Act.put, List.setIfInBounds_toArray, List.set_cons_zero, List.set_cons_succ, i64_w, i32_w]
    rfl
  refine pure_ (i := 10) (N := some 109) (v := ?_) (a' := ?_) #[true, true, true, true, true, true, true, true, true, true, true, false, false, false, false, false, false, false, false, false, false, false, false, false, false, false, false, false, false, false, false, false, false, false, false, false] rfl rfl (by kernel_rfl) (fun _ _ _ h => h) (Or.inl ⟨by rfl, ?_⟩) ?_ ?_
  rotate_left
  · intro w'
    go_simp
    with_reducible rfl
  rotate_left
  · simp only [Act.put, List.setIfInBounds_toArray, List.set_cons_zero, List.set_cons_succ, i64_w, i32_w]
    rfl
  refine pure_ (i := 11) (N := some 110) (v := ?_) (a' := ?_) #[true, true, true, true, true, true, true, true, true, true, true, true, false, false, false, false, false, false, false, false, false, false, false, false, false, false, false, false, false, false, false, false, false, false, false, false] rfl rfl (by kernel_rfl) (fun _ _ _ h => h) (Or.inl ⟨by rfl, ?_⟩) ?_ ?_
  rotate_left
  · intro w'
    go_simp
    with_reducible rfl
  rotate_left
  · simp only [Act.put, List.setIfInBounds_toArray, List.set_cons_zero, List.set_cons_succ, i64_w, i32_w]
    rfl
  refine pure_ (i := 12) (N := some 111) (v := ?_) (a' := ?_) #[true, true, true, true, true, true, true, true, true, true, true, true, true, false, false, false, false, false, false, false, false, false, false, false, false, false, false, false, false, false, false, false, false, false, false, false] rfl rfl (by kernel_rfl) (fun _ _ _ h => h) (Or.inl ⟨by rfl, ?_⟩) ?_ ?_
  rotate_left
  · intro w'
    go_simp
    with_reducible rfl
  rotate_left
  · simp only [Act.put, List.setIfInBounds_toArray, List.set_cons_zero, List.set_cons_succ, i64_w, i32_w]
    rfl
  refine pure_ (i := 13) (N := some 112) (v := ?_) (a' := ?_) #[true, true, true, true, true, true, true, true, true, true, true, true, true, true, false, false, false, false, false, false, false, false, false, false, false, false, false, false, false, false, false, false, false, false, false, false] rfl rfl (by kernel_rfl) (fun _ _ _ h => h) (Or.inl ⟨by rfl, ?_⟩) ?_ ?_
  rotate_left
  · intro w'
    go_simp
    with_reducible rfl
  rotate_left
  · simp only [Act.put, List.setIfInBounds_toArray, List.set_cons_zero, List.set_cons_succ, i64_w, i32_w]
    rfl
  refine pure_ (i := 14) (N := some 113) (v := ?_) (a' := ?_) #[true, true, true, true, true, true, true, true, true, true, true, true, true, true, true, false, false, false, false, false, false, false, false, false, false, false, false, false, false, false, false, false, false, false, false, false] rfl rfl (by kernel_rfl) (fun _ _ _ h => h) (Or.inl ⟨by rfl, ?_⟩) ?_ ?_
  rotate_left
  · intro w'
    go_simp
    with_reducible rfl
  rotate_left
  · simp only [Act.put, List.setIfInBounds_toArray, List.set_cons_zero, List.set_cons_succ, i64_w, i32_w]
    rfl
  refine pure_ (i := 16) (N := some 115) (v := ?_) (a' := ?_) #[true, true, true, true, true, true, true, true, true, true, true, true, true, true, true, false, true, false, false, false, false, false, false, false, false, false, false, false, false, false, false, false, false, false, false, false] rfl rfl (by kernel_rfl) (fun _ _ _ h => h) (Or.inl ⟨by rfl, ?_⟩) ?_ ?_
  rotate_left
  · intro w'
    go_simp
    with_reducible rfl
  rotate_left
  · simp only [Act.put, List.setIfInBounds_toArray, List.set_cons_zero, List.set_cons_succ, i64_w, i32_w]
    rfl
  refine pure_ (i := 19) (N := some 118) (v := ?_) (a' := ?_) #[true, true, true, true, true, true, true, true, true, true, true, true, true, true, true, false, true, false, false, true, false, false, false, false, false, false, false, false, false, false, false, false, false, false, false, false] rfl rfl (by kernel_rfl) (fun _ _ _ h => h) (Or.inl ⟨by rfl, ?_⟩) ?_ ?_
  rotate_left
  · intro w'
    go_simp
    with_reducible rfl
  rotate_left
  · simp only [Act.put, List.setIfInBounds_toArray, List.set_cons_zero, List.set_cons_succ, i64_w, i32_w]
    rfl
  refine take_ (i := 15) (N := some 114) (v := ?_) (a' := ?_) #[true, true, true, true, true, true, true, true, true, true, true, true, true, true, true, true, true, false, false, true, false, false, false, false, false, false, false, false, false, false, false, false, false, false, false, false] rfl rfl (by kernel_rfl) (fun _ _ _ h => h) (Or.inl ⟨by rfl, ?_⟩) hHeld ?_ ?_
  rotate_left
  · rintro w' ⟨s0, s1, s2, s3, s4, s5, s6, s7, s8, s9, s10, s11, s12, s13, s14, s15, s16, s17, s18, s19⟩
    go_simp
    with_reducible rfl
  rotate_left
  · simp only [Act.put, List.setIfInBounds_toArray, List.set_cons_zero, List.set_cons_succ, i64_w, i32_w]
    rfl
  refine take_ (i := 18) (N := some 117) (v := ?_) (a' := ?_) #[true, true, true, true, true, true, true, true, true, true, true, true, true, true, true, true, true, false, true, true, false, false, false, false, false, false, false, false, false, false, false, false, false, false, false, false] rfl rfl (by kernel_rfl) (fun _ _ _ h => h) (Or.inl ⟨by rfl, ?_⟩) hHeld ?_ ?_
  rotate_left
  · rintro w' ⟨s0, s1, s2, s3, s4, s5, s6, s7, s8, s9, s10, s11, s12, s13, s14, s15, s16, s17, s18, s19⟩
    go_simp
    with_reducible rfl
  rotate_left
  · simp only [Act.put, List.setIfInBounds_toArray, List.set_cons_zero, List.set_cons_succ, i64_w, i32_w]
    rfl
  refine one_ (i := 17) (N := some 116) #[true, true, true, true, true, true, true, true, true, true, true, true, true, true, true, true, true, true, true, true, false, false, false, false, false, false, false, false, false, false, false, false, false, false, false, false] rfl rfl (by kernel_rfl) (by decide) (fun K hK => ?_)
  refine goes_ Try.func12 (by kernel_rfl) rfl #[.agg #[.slice A0_1 a1.words.length c0_1, .slice A1_1 a1.first.length c1_1, .slice A2_1 a1.last.length c2_1, .slice A3_1 a1.follow.length c3_1, .bool a1.empty], .slice C l.length cl] (by rfl) rfl rfl (by simp only [List.map_toArray, List.map_cons, List.map_nil]; rfl) ?_
  with_reducible refine (KA1.out _ HBD.out).mono ?_
  rintro e t1 ⟨rfl, hb⟩
  refine ⟨_, rfl, ?_⟩
  have HD1 := Aside0.mk (below_step HBD.out hb)
  have hKept := Try.twenty hb hHeld
  clear hb
  refine hK.out _ _ ⟨hKept.1, hKept.2.1, hKept.2.2.1, hKept.2.2.2.1, hKept.2.2.2.2.1, hKept.2.2.2.2.2.1, hKept.2.2.2.2.2.2.1, hKept.2.2.2.2.2.2.2.1, hKept.2.2.2.2.2.2.2.2.1, hKept.2.2.2.2.2.2.2.2.2.1, hKept.2.2.2.2.2.2.2.2.2.2.1, hKept.2.2.2.2.2.2.2.2.2.2.2.1, hKept.2.2.2.2.2.2.2.2.2.2.2.2.1, hKept.2.2.2.2.2.2.2.2.2.2.2.2.2.1, hKept.2.2.2.2.2.2.2.2.2.2.2.2.2.2.1, hKept.2.2.2.2.2.2.2.2.2.2.2.2.2.2.2.1, hKept.2.2.2.2.2.2.2.2.2.2.2.2.2.2.2.2.1, hKept.2.2.2.2.2.2.2.2.2.2.2.2.2.2.2.2.2.1, hKept.2.2.2.2.2.2.2.2.2.2.2.2.2.2.2.2.2.2.1, hKept.2.2.2.2.2.2.2.2.2.2.2.2.2.2.2.2.2.2.2⟩ (fun hHeld => ?_)
  clear hK K
  refine norm_ (a' := ?_) ?_ ?_
  rotate_left
  · show Act.put _ (some 116) _ = _
    simp only [Act.put, List.setIfInBounds_toArray, List.set_cons_zero, List.set_cons_succ, i64_w, i32_w]
    rfl
  refine one_ (i := 20) (N := some 119) #[true, true, true, true, true, true, true, true, true, true, true, true, true, true, true, true, true, true, true, true, true, false, false, false, false, false, false, false, false, false, false, false, false, false, false, false] rfl rfl (by kernel_rfl) (by decide) (fun K hK => ?_)
  refine goes_ Try.func12 (by kernel_rfl) rfl #[.agg #[.slice A0_2 a2.words.length c0_2, .slice A1_2 a2.first.length c1_2, .slice A2_2 a2.last.length c2_2, .slice A3_2 a2.follow.length c3_2, .bool a2.empty], .slice C l.length cl] (by rfl) rfl rfl (by simp only [List.map_toArray, List.map_cons, List.map_nil]; rfl) ?_
  with_reducible refine (KA2.out _ HD1.out).mono ?_
  rintro e t2 ⟨rfl, hb⟩
  refine ⟨_, rfl, ?_⟩
  have HD2 := Aside0.mk (below_step HD1.out hb)
  have hKept := Try.twenty hb hHeld
  clear hb
  refine hK.out _ _ ⟨hKept.1, hKept.2.1, hKept.2.2.1, hKept.2.2.2.1, hKept.2.2.2.2.1, hKept.2.2.2.2.2.1, hKept.2.2.2.2.2.2.1, hKept.2.2.2.2.2.2.2.1, hKept.2.2.2.2.2.2.2.2.1, hKept.2.2.2.2.2.2.2.2.2.1, hKept.2.2.2.2.2.2.2.2.2.2.1, hKept.2.2.2.2.2.2.2.2.2.2.2.1, hKept.2.2.2.2.2.2.2.2.2.2.2.2.1, hKept.2.2.2.2.2.2.2.2.2.2.2.2.2.1, hKept.2.2.2.2.2.2.2.2.2.2.2.2.2.2.1, hKept.2.2.2.2.2.2.2.2.2.2.2.2.2.2.2.1, hKept.2.2.2.2.2.2.2.2.2.2.2.2.2.2.2.2.1, hKept.2.2.2.2.2.2.2.2.2.2.2.2.2.2.2.2.2.1, hKept.2.2.2.2.2.2.2.2.2.2.2.2.2.2.2.2.2.2.1, hKept.2.2.2.2.2.2.2.2.2.2.2.2.2.2.2.2.2.2.2⟩ (fun hHeld => ?_)
  clear hK K
  refine norm_ (a' := ?_) ?_ ?_
  rotate_left
  · show Act.put _ (some 119) _ = _
    simp only [Act.put, List.setIfInBounds_toArray, List.set_cons_zero, List.set_cons_succ, i64_w, i32_w]
    rfl
  refine pure_ (i := 21) (N := some 120) (v := ?_) (a' := ?_) #[true, true, true, true, true, true, true, true, true, true, true, true, true, true, true, true, true, true, true, true, true, true, false, false, false, false, false, false, false, false, false, false, false, false, false, false] rfl rfl (by kernel_rfl) (fun _ _ _ h => h) (Or.inl ⟨by rfl, ?_⟩) ?_ ?_
  rotate_left
  · intro w'
    go_simp
    with_reducible rfl
  rotate_left
  · simp only [Act.put, List.setIfInBounds_toArray, List.set_cons_zero, List.set_cons_succ, i64_w, i32_w]
    rfl
  refine pure_ (i := 22) (N := some 121) (v := ?_) (a' := ?_) #[true, true, true, true, true, true, true, true, true, true, true, true, true, true, true, true, true, true, true, true, true, true, true, false, false, false, false, false, false, false, false, false, false, false, false, false] rfl rfl (by kernel_rfl) (fun _ _ _ h => h) (Or.inl ⟨by rfl, ?_⟩) ?_ ?_
  rotate_left
  · intro w'
    go_simp
    with_reducible rfl
  rotate_left
  · simp only [Act.put, List.setIfInBounds_toArray, List.set_cons_zero, List.set_cons_succ, i64_w, i32_w]
    rfl
  refine pure_ (i := 23) (N := some 122) (v := ?_) (a' := ?_) #[true, true, true, true, true, true, true, true, true, true, true, true, true, true, true, true, true, true, true, true, true, true, true, true, false, false, false, false, false, false, false, false, false, false, false, false] rfl rfl (by kernel_rfl) (fun _ _ _ h => h) (Or.inl ⟨by rfl, ?_⟩) ?_ ?_
  rotate_left
  · intro w'
    go_simp
    with_reducible rfl
  rotate_left
  · simp only [Act.put, List.setIfInBounds_toArray, List.set_cons_zero, List.set_cons_succ, i64_w, i32_w]
    rfl
  refine pure_ (i := 25) (N := some 124) (v := ?_) (a' := ?_) #[true, true, true, true, true, true, true, true, true, true, true, true, true, true, true, true, true, true, true, true, true, true, true, true, false, true, false, false, false, false, false, false, false, false, false, false] rfl rfl (by kernel_rfl) (fun _ _ _ h => h) (Or.inl ⟨by rfl, ?_⟩) ?_ ?_
  rotate_left
  · intro w'
    go_simp
    with_reducible rfl
  rotate_left
  · simp only [Act.put, List.setIfInBounds_toArray, List.set_cons_zero, List.set_cons_succ, i64_w, i32_w]
    rfl
  refine pure_ (i := 28) (N := some 127) (v := ?_) (a' := ?_) #[true, true, true, true, true, true, true, true, true, true, true, true, true, true, true, true, true, true, true, true, true, true, true, true, false, true, false, false, true, false, false, false, false, false, false, false] rfl rfl (by kernel_rfl) (fun _ _ _ h => h) (Or.inl ⟨by rfl, ?_⟩) ?_ ?_
  rotate_left
  · intro w'
    go_simp
    with_reducible rfl
  rotate_left
  · simp only [Act.put, List.setIfInBounds_toArray, List.set_cons_zero, List.set_cons_succ, i64_w, i32_w]
    rfl
  refine take_ (i := 24) (N := some 123) (v := ?_) (a' := ?_) #[true, true, true, true, true, true, true, true, true, true, true, true, true, true, true, true, true, true, true, true, true, true, true, true, true, true, false, false, true, false, false, false, false, false, false, false] rfl rfl (by kernel_rfl) (fun _ _ _ h => h) (Or.inl ⟨by rfl, ?_⟩) hHeld ?_ ?_
  rotate_left
  · rintro w' ⟨s0, s1, s2, s3, s4, s5, s6, s7, s8, s9, s10, s11, s12, s13, s14, s15, s16, s17, s18, s19⟩
    go_simp
    with_reducible rfl
  rotate_left
  · simp only [Act.put, List.setIfInBounds_toArray, List.set_cons_zero, List.set_cons_succ, i64_w, i32_w]
    rfl
  refine take_ (i := 27) (N := some 126) (v := ?_) (a' := ?_) #[true, true, true, true, true, true, true, true, true, true, true, true, true, true, true, true, true, true, true, true, true, true, true, true, true, true, false, true, true, false, false, false, false, false, false, false] rfl rfl (by kernel_rfl) (fun _ _ _ h => h) (Or.inl ⟨by rfl, ?_⟩) hHeld ?_ ?_
  rotate_left
  · rintro w' ⟨s0, s1, s2, s3, s4, s5, s6, s7, s8, s9, s10, s11, s12, s13, s14, s15, s16, s17, s18, s19⟩
    go_simp
    with_reducible rfl
  rotate_left
  · simp only [Act.put, List.setIfInBounds_toArray, List.set_cons_zero, List.set_cons_succ, i64_w, i32_w]
    rfl
  refine one_ (i := 26) (N := some 125) #[true, true, true, true, true, true, true, true, true, true, true, true, true, true, true, true, true, true, true, true, true, true, true, true, true, true, true, true, true, false, false, false, false, false, false, false] rfl rfl (by kernel_rfl) (by decide) (fun K hK => ?_)
  refine goes_ Try.func12 (by kernel_rfl) rfl #[.agg #[.slice A0_3 a3.words.length c0_3, .slice A1_3 a3.first.length c1_3, .slice A2_3 a3.last.length c2_3, .slice A3_3 a3.follow.length c3_3, .bool a3.empty], .slice C l.length cl] (by rfl) rfl rfl (by simp only [List.map_toArray, List.map_cons, List.map_nil]; rfl) ?_
  with_reducible refine (KA3.out _ HD2.out).mono ?_
  rintro e t3 ⟨rfl, hb⟩
  refine ⟨_, rfl, ?_⟩
  have HD3 := Aside0.mk (below_step HD2.out hb)
  have hKept := Try.twenty hb hHeld
  clear hb
  refine hK.out _ _ ⟨hKept.1, hKept.2.1, hKept.2.2.1, hKept.2.2.2.1, hKept.2.2.2.2.1, hKept.2.2.2.2.2.1, hKept.2.2.2.2.2.2.1, hKept.2.2.2.2.2.2.2.1, hKept.2.2.2.2.2.2.2.2.1, hKept.2.2.2.2.2.2.2.2.2.1, hKept.2.2.2.2.2.2.2.2.2.2.1, hKept.2.2.2.2.2.2.2.2.2.2.2.1, hKept.2.2.2.2.2.2.2.2.2.2.2.2.1, hKept.2.2.2.2.2.2.2.2.2.2.2.2.2.1, hKept.2.2.2.2.2.2.2.2.2.2.2.2.2.2.1, hKept.2.2.2.2.2.2.2.2.2.2.2.2.2.2.2.1, hKept.2.2.2.2.2.2.2.2.2.2.2.2.2.2.2.2.1, hKept.2.2.2.2.2.2.2.2.2.2.2.2.2.2.2.2.2.1, hKept.2.2.2.2.2.2.2.2.2.2.2.2.2.2.2.2.2.2.1, hKept.2.2.2.2.2.2.2.2.2.2.2.2.2.2.2.2.2.2.2⟩ (fun hHeld => ?_)
  clear hK K
  refine norm_ (a' := ?_) ?_ ?_
  rotate_left
  · show Act.put _ (some 125) _ = _
    simp only [Act.put, List.setIfInBounds_toArray, List.set_cons_zero, List.set_cons_succ, i64_w, i32_w]
    rfl
  refine one_ (i := 29) (N := some 128) #[true, true, true, true, true, true, true, true, true, true, true, true, true, true, true, true, true, true, true, true, true, true, true, true, true, true, true, true, true, true, false, false, false, false, false, false] rfl rfl (by kernel_rfl) (by decide) (fun K hK => ?_)
  refine goes_ Try.func12 (by kernel_rfl) rfl #[.agg #[.slice A0_4 a4.words.length c0_4, .slice A1_4 a4.first.length c1_4, .slice A2_4 a4.last.length c2_4, .slice A3_4 a4.follow.length c3_4, .bool a4.empty], .slice C l.length cl] (by rfl) rfl rfl (by simp only [List.map_toArray, List.map_cons, List.map_nil]; rfl) ?_
  with_reducible refine (KA4.out _ HD3.out).mono ?_
  rintro e t4 ⟨rfl, hb⟩
  refine ⟨_, rfl, ?_⟩
  have HD4 := Aside0.mk (below_step HD3.out hb)
  have hKept := Try.twenty hb hHeld
  clear hb
  refine hK.out _ _ ⟨hKept.1, hKept.2.1, hKept.2.2.1, hKept.2.2.2.1, hKept.2.2.2.2.1, hKept.2.2.2.2.2.1, hKept.2.2.2.2.2.2.1, hKept.2.2.2.2.2.2.2.1, hKept.2.2.2.2.2.2.2.2.1, hKept.2.2.2.2.2.2.2.2.2.1, hKept.2.2.2.2.2.2.2.2.2.2.1, hKept.2.2.2.2.2.2.2.2.2.2.2.1, hKept.2.2.2.2.2.2.2.2.2.2.2.2.1, hKept.2.2.2.2.2.2.2.2.2.2.2.2.2.1, hKept.2.2.2.2.2.2.2.2.2.2.2.2.2.2.1, hKept.2.2.2.2.2.2.2.2.2.2.2.2.2.2.2.1, hKept.2.2.2.2.2.2.2.2.2.2.2.2.2.2.2.2.1, hKept.2.2.2.2.2.2.2.2.2.2.2.2.2.2.2.2.2.1, hKept.2.2.2.2.2.2.2.2.2.2.2.2.2.2.2.2.2.2.1, hKept.2.2.2.2.2.2.2.2.2.2.2.2.2.2.2.2.2.2.2⟩ (fun hHeld => ?_)
  clear hK K
  refine norm_ (a' := ?_) ?_ ?_
  rotate_left
  · show Act.put _ (some 128) _ = _
    simp only [Act.put, List.setIfInBounds_toArray, List.set_cons_zero, List.set_cons_succ, i64_w, i32_w]
    rfl
  refine pure_ (i := 30) (N := some 129) (v := ?_) (a' := ?_) #[true, true, true, true, true, true, true, true, true, true, true, true, true, true, true, true, true, true, true, true, true, true, true, true, true, true, true, true, true, true, true, false, false, false, false, false] rfl rfl (by kernel_rfl) (fun _ _ _ h => h) (Or.inl ⟨by rfl, ?_⟩) ?_ ?_
  rotate_left
  · intro w'
    go_simp
    with_reducible rfl
  rotate_left
  · simp only [Act.put, List.setIfInBounds_toArray, List.set_cons_zero, List.set_cons_succ, i64_w, i32_w]
    rfl
  refine pure_ (i := 31) (N := some 130) (v := ?_) (a' := ?_) #[true, true, true, true, true, true, true, true, true, true, true, true, true, true, true, true, true, true, true, true, true, true, true, true, true, true, true, true, true, true, true, true, false, false, false, false] rfl rfl (by kernel_rfl) (fun _ _ _ h => h) (Or.inl ⟨by rfl, ?_⟩) ?_ ?_
  rotate_left
  · intro w'
    go_simp
    with_reducible rfl
  rotate_left
  · simp only [Act.put, List.setIfInBounds_toArray, List.set_cons_zero, List.set_cons_succ, i64_w, i32_w]
    rfl
  refine pure_ (i := 32) (N := some 131) (v := ?_) (a' := ?_) #[true, true, true, true, true, true, true, true, true, true, true, true, true, true, true, true, true, true, true, true, true, true, true, true, true, true, true, true, true, true, true, true, true, false, false, false] rfl rfl (by kernel_rfl) (fun _ _ _ h => h) (Or.inl ⟨by rfl, ?_⟩) ?_ ?_
  rotate_left
  · intro w'
    go_simp
    with_reducible rfl
  rotate_left
  · simp only [Act.put, List.setIfInBounds_toArray, List.set_cons_zero, List.set_cons_succ, i64_w, i32_w]
    rfl
  refine one_ (i := 33) (N := some 132) #[true, true, true, true, true, true, true, true, true, true, true, true, true, true, true, true, true, true, true, true, true, true, true, true, true, true, true, true, true, true, true, true, true, true, false, false] rfl rfl (by kernel_rfl) (by decide) (fun K hK => ?_)
  refine goes_ Try.func9 (by kernel_rfl) rfl #[] (by rfl) rfl rfl (by simp only [List.map_toArray, List.map_nil]) ?_
  with_reducible refine (Try.awake_calls _).mono ?_
  rintro e t5 ⟨rfl, hb⟩
  refine ⟨_, rfl, ?_⟩
  have HD5 := Aside0.mk (below_step HD4.out hb)
  have hKept := Try.twenty hb hHeld
  clear hb
  refine hK.out _ _ ⟨hKept.1, hKept.2.1, hKept.2.2.1, hKept.2.2.2.1, hKept.2.2.2.2.1, hKept.2.2.2.2.2.1, hKept.2.2.2.2.2.2.1, hKept.2.2.2.2.2.2.2.1, hKept.2.2.2.2.2.2.2.2.1, hKept.2.2.2.2.2.2.2.2.2.1, hKept.2.2.2.2.2.2.2.2.2.2.1, hKept.2.2.2.2.2.2.2.2.2.2.2.1, hKept.2.2.2.2.2.2.2.2.2.2.2.2.1, hKept.2.2.2.2.2.2.2.2.2.2.2.2.2.1, hKept.2.2.2.2.2.2.2.2.2.2.2.2.2.2.1, hKept.2.2.2.2.2.2.2.2.2.2.2.2.2.2.2.1, hKept.2.2.2.2.2.2.2.2.2.2.2.2.2.2.2.2.1, hKept.2.2.2.2.2.2.2.2.2.2.2.2.2.2.2.2.2.1, hKept.2.2.2.2.2.2.2.2.2.2.2.2.2.2.2.2.2.2.1, hKept.2.2.2.2.2.2.2.2.2.2.2.2.2.2.2.2.2.2.2⟩ (fun hHeld => ?_)
  clear hK K
  refine norm_ (a' := ?_) ?_ ?_
  rotate_left
  · show Act.put _ (some 132) _ = _
    simp only [Act.put, List.setIfInBounds_toArray, List.set_cons_zero, List.set_cons_succ, i64_w, i32_w]
    rfl
  refine pure_ (i := 34) (N := some 133) (v := ?_) (a' := ?_) #[true, true, true, true, true, true, true, true, true, true, true, true, true, true, true, true, true, true, true, true, true, true, true, true, true, true, true, true, true, true, true, true, true, true, true, false] rfl rfl (by kernel_rfl) (fun _ _ _ h => h) (Or.inl ⟨by rfl, ?_⟩) ?_ ?_
  rotate_left
  · intro w'
    go_simp
    with_reducible rfl
  rotate_left
  · simp only [Act.put, List.setIfInBounds_toArray, List.set_cons_zero, List.set_cons_succ, i64_w, i32_w]
    rfl
  refine pure_ (i := 35) (N := some 6) (v := ?_) (a' := ?_) #[true, true, true, true, true, true, true, true, true, true, true, true, true, true, true, true, true, true, true, true, true, true, true, true, true, true, true, true, true, true, true, true, true, true, true, true] rfl rfl (by kernel_rfl) (fun _ _ _ h => h) (Or.inl ⟨by rfl, ?_⟩) ?_ ?_
  rotate_left
  · intro w'
    go_simp
    with_reducible rfl
  rotate_left
  · simp only [Act.put, List.setIfInBounds_toArray, List.set_cons_zero, List.set_cons_succ, i64_w, i32_w]
    rfl
  refine done_ (by kernel_rfl) ?_
  go_wp2_with fail
  go_ret
  exact ⟨rfl, below_step HBW5.out HD5.out⟩
end Go.Proofs

namespace Go.Proofs
open Go.RowKit Go.Shelf Go.Proofs.YtjobnfbianlpnaaW.PrintWords Go.Proofs.YtjobnfbianlpnaaW.PrintLast Go.Proofs.Ytjobnfbianlpnaa.P
theorem Try.cells24 : Try.prog.cellsOf 24 = 3 := by kernel_rfl
theorem Try.cells22 : Try.prog.cellsOf 22 = 1 := by kernel_rfl
theorem Try.cells9 : Try.prog.cellsOf 9 = 1 := by kernel_rfl
theorem Try.cells3 : Try.prog.cellsOf 3 = 1 := by kernel_rfl
def Try.PathCells (w : World) (cs : List Value) (p : Lang.Path) : Prop := ∃ A c, cs = [.int .i64 p.f0, .string p.f1, .slice A p.f2.length c] ∧ p.f2.length ≤ c ∧ Kd.C k24 w A p.f2.length p.f2 ∧ Lang.small p
theorem Try.open_path {H : Type} {enc : TypeId × Value → H} {w : World} {base : Nat} {spare : Nat → Bool} {held : Bool} : ∀ (N fuel : Nat), fuel ≤ N → ∀ (cs : List Value) (x : DataW H × List MemPlace), DataW.trod enc Try.prog w base spare held fuel 24 cs = some x → ∃ p, Try.PathCells w cs p
  | 0, fuel, hN, cs, x, h => by
    obtain rfl : fuel = 0 := by omega
    simp [DataW.trod] at h
  | N + 1, fuel, hN, cs, x, h => by
    obtain ⟨xs, n, hn, _, hl, _, hf⟩ := DataW.trod_struct Try.underlying24 h
    rw [Try.cells24] at hl
    obtain ⟨v0, v1, v2, rfl⟩ : ∃ v0 v1 v2, cs = [v0, v1, v2] := by
      rcases cs with _ | ⟨a, _ | ⟨b, _ | ⟨c, _ | ⟨d, r⟩⟩⟩⟩
      · simp at hl
      · simp at hl
      · simp at hl
      · exact ⟨a, b, c, rfl⟩
      · simp at hl
    have h0 : DataW.trod enc Try.prog w base spare held n 3 [v0] = xs[0]? := by have := hf 0 _ rfl; simpa [Try.cells3] using this
    have h1 : DataW.trod enc Try.prog w base spare held n 9 [v1] = xs[1]? := by have := hf 1 _ rfl; simpa [Try.cells9] using this
    have h2 : DataW.trod enc Try.prog w base spare held n 22 [v2] = xs[2]? := by have := hf 2 _ rfl; simpa [Try.cells22] using this
    rcases hx0 : xs[0]? with _ | y0
    · rename_i hlen
      rw [List.getElem?_eq_none_iff] at hx0
      simp at hlen
      omega
    rcases hx1 : xs[1]? with _ | y1
    · rename_i hlen
      rw [List.getElem?_eq_none_iff] at hx1
      simp at hlen
      omega
    rcases hx2 : xs[2]? with _ | y2
    · rename_i hlen
      rw [List.getElem?_eq_none_iff] at hx2
      simp at hlen
      omega
    rw [hx0] at h0
    rw [hx1] at h1
    rw [hx2] at h2
    obtain ⟨k, e0, _, _⟩ := DataW.trod_int Try.underlying3 h0
    obtain ⟨s, e1, _, hs⟩ := DataW.trod_string Try.underlying9 h1
    cases e0
    cases e1
    rcases DataW.trod_slice Try.underlying22 h2 with ⟨e2, _⟩ | ⟨a, len, cap, elems, rest, m, hm, e2, _, _, hlc, hcm, hlen, hel, _, _⟩
    · cases e2
      exact ⟨⟨k, s, []⟩, none, 0, rfl, Nat.le_refl _, Kd.C_nil _ _, ⟨by unfold maxLen at hs; omega, by simp, trivial⟩⟩
    · cases e2
      unfold maxLen at hs hcm
      have hkid : ∀ i, i < len → ∃ q : Lang.Path, ∃ cs', w.cells? base (a.add (i * 3)) 3 = some cs' ∧ Try.PathCells w cs' q := fun i hi => by
        have h3 := hel i hi
        rw [List.getElem?_eq_getElem (by omega)] at h3
        obtain ⟨cs', h4, h5⟩ := Option.bind_eq_some_iff.1 h3
        rw [Try.cells24] at h4
        obtain ⟨q, hq⟩ := Try.open_path N m (by omega) cs' _ h5
        exact ⟨q, cs', h4, hq⟩
      obtain ⟨f, hf'⟩ := Classical.axiomOfChoice (show ∀ i : Nat, ∃ q : Lang.Path, i < len → ∃ cs', w.cells? base (a.add (i * 3)) 3 = some cs' ∧ Try.PathCells w cs' q from fun i => by
        by_cases hi : i < len
        · obtain ⟨q, h⟩ := hkid i hi
          exact ⟨q, fun _ => h⟩
        · exact ⟨⟨0, s, []⟩, fun h => absurd h hi⟩)
      have hsm : ∀ l : List Nat, (∀ i ∈ l, i < len) → Lang.smallL (l.map f) := by
        intro l
        induction l with
        | nil => intro _; trivial
        | cons i l ih =>
          intro h
          obtain ⟨_, _, A', c', _, _, _, hsm⟩ := hf' i (h i (by simp))
          exact ⟨hsm, ih (fun j hj => h j (List.mem_cons_of_mem _ hj))⟩
      have hll : ((List.range len).map f).length = len := by simp
      refine ⟨⟨k, s, (List.range len).map f⟩, some a, cap, by rw [hll], by rw [hll]; exact hlc, ?_, ⟨by omega, by rw [hll]; omega, hsm _ (fun i hi => List.mem_range.1 hi)⟩⟩
      refine ⟨rfl, by rw [hll]; omega, fun _ => ⟨a, rfl, fun j q hq => ?_⟩⟩
      have hj : j < len := by
        have := (List.getElem?_eq_some_iff.1 hq).1
        rwa [hll] at this
      have hqf : q = f j := by
        rw [List.getElem?_map, List.getElem?_range hj] at hq
        exact (Option.some.inj hq).symm
      subst hqf
      obtain ⟨cs', hc, A', c', rfl, hl', hC', _⟩ := hf' j hj
      obtain ⟨_, _, hcell⟩ := World.cells?_some hc
      refine ⟨_, rfl, k24_mk w (f j) hl' hC', fun i u hu => ?_⟩
      have hi3 : i < 3 := by
        have := (List.getElem?_eq_some_iff.1 hu).1
        simpa using this
      have h6 := hcell i hi3
      rw [hu] at h6
      rw [← h6]
      show w.cell? (a.add (j * 3 + i)) = _
      congr 1
      exact (Addr.add_add a (j * 3) i).symm
end Go.Proofs

