/- Lemmas and walks that the proof of this claim uses: TbCoreD, TbCoreSpec4, TbCoreMath, TbCoreMath2, TbCoreMath3, TbCoreMath4, TbCoreEq, TbCoreSpec5, D3libD, D3lib, D3m1D, D3m1, D3m2D. -/
import Derived.Test.YtmjadkjcbaohbaaCoreEither1
import Derived.Test.YtmjadkjcbaohbaaProg
import Derived.KernelRfl
namespace Go.Core
open Go.Tb Go.Proofs
set_option linter.unusedVariables false
set_option linter.unusedSimpArgs false

theorem c58 : callable Try.prog 58 = true := by kernel_rfl
theorem c60 : callable Try.prog 60 = true := by kernel_rfl
theorem c61 : callable Try.prog 61 = true := by kernel_rfl
theorem c66 : callable Try.prog 66 = true := by kernel_rfl
theorem c81 : callable Try.prog 81 = true := by kernel_rfl


set_option maxRecDepth 20000 in
theorem core_tables {c : Core} {A_c_bounds : Option Addr} {c_c_bounds : Nat} {w : World} (h_c_bounds : Sl w A_c_bounds c_c_bounds 3 (c.bounds.map encB)) (hv : validate c = 0) : Calls Try.prog 60 #[.agg #[.int .i64 c.layers, .slice A_c_bounds c.bounds.length c_c_bounds]] w (fun e w' => ∃ (A0 : Option Addr) (c0 : Nat) (hs0 : List (Option Addr × Nat)), e = .returned (.tuple #[.slice A0 (((tables c).1).length) c0, .int .i64 ((tables c).2)]) ∧ Hp w w' [.tab A0 c0 76 hs0 75 2 (encM encT (((tables c).1)))]) := by
  refine calls_of_cw (args := [.agg #[.int .i64 c.layers, .slice A_c_bounds c.bounds.length c_c_bounds]]) Try.func60 rfl rfl rfl rfl ?_
  have H := Hp.start w
  have R0 := H.ext
  refine CW.seq fun K1 hK1 => ?_
  refine CW.region ?_
  refine LW.go rfl rfl (OW.box rfl fun b1 w1 N1 => ?_)
  replace H : Hp w w1 [.blk b1 24 [.int .i64 c.layers, .slice A_c_bounds c.bounds.length c_c_bounds]] := H.new N1 N1.blk
  replace R0 := H.ext
  refine LW.pure rfl rfl (RV.assign rfl) ?_
  refine LW.pure rfl rfl (RV.assign rfl) ?_
  refine LW.nil (hK1 _ _ ?_)
  refine CW.seq fun K2 hK2 => ?_
  refine CW.seq fun K3 hK3 => ?_
  refine CW.region ?_
  refine LW.pure rfl rfl (RV.loadA [.int .i64 c.layers, .slice A_c_bounds c.bounds.length c_c_bounds] k24 rfl (H.blk 0 rfl).cells rfl rfl) ?_
  refine LW.go rfl rfl (OW.call c68 rfl (core_clashes (c := c) (h_c_bounds.ext R0) (hv)) ?_)
  rintro _ w2 ⟨rfl, E1⟩
  refine ⟨_, rfl, ?_⟩
  replace H := H.grow E1
  replace R0 := H.ext
  refine LW.nil (hK3 _ _ ?_)
  refine CW.cond rfl (fun h1 => ?_) (fun h1 => ?_)
  ·
    refine CW.seq fun K4 hK4 => ?_
    refine CW.region ?_
    refine LW.pure rfl rfl (RV.assign rfl) ?_
    refine LW.pure rfl rfl (RV.assign rfl) ?_
    refine LW.nil (hK4 _ _ ?_)
    refine CW.ret ?_
    refine ⟨_, (ResOK.two rfl rfl), ?_⟩
    replace H : Hp w w2 [.tab none 0 76 ([]) 75 2 (encM encT (([] : List (List Tight)))), .blk b1 24 [.int .i64 c.layers, .slice A_c_bounds c.bounds.length c_c_bounds]] := H.nilTab encT 76 75 2
    replace R0 := H.ext
    replace H : Hp w w2 [.tab none 0 76 ([]) 75 2 (encM encT (([] : List (List Tight))))] := H.pick [0] (by decide) rfl
    replace R0 := H.ext
    refine ⟨none, 0, ([]), ?_, ?_⟩
    · simp [tables, h1]
    · have e : (tables c).1 = [] := by simp [tables, h1]
      rw [e]; exact H
  ·
    refine CW.skip (hK2 _ _ ?_)
    refine CW.seq fun K5 hK5 => ?_
    refine CW.region ?_
    refine LW.pure rfl rfl (RV.loadA [.int .i64 c.layers, .slice A_c_bounds c.bounds.length c_c_bounds] k24 rfl (H.blk 0 rfl).cells rfl rfl) ?_
    refine LW.go rfl rfl (OW.call c81 rfl (core_table (c := c) (h_c_bounds.ext R0) (hv) (pot_of hv h1)) ?_)
    rintro _ w3 ⟨A2_0, c2_0, hs2_0, rfl, E2⟩
    refine ⟨_, rfl, ?_⟩
    replace H : Hp w w3 [.tab A2_0 c2_0 76 hs2_0 75 2 (encM encT ((table c))), .blk b1 24 [.int .i64 c.layers, .slice A_c_bounds c.bounds.length c_c_bounds]] := H.append E2
    replace R0 := H.ext
    refine LW.pure rfl rfl (RV.assign rfl) ?_
    refine LW.pure rfl rfl (RV.assign rfl) ?_
    refine LW.nil (hK5 _ _ ?_)
    refine CW.ret ?_
    refine ⟨_, (ResOK.two rfl rfl), ?_⟩
    replace H : Hp w w3 [.tab A2_0 c2_0 76 hs2_0 75 2 (encM encT ((table c)))] := H.pick [0] (by decide) rfl
    replace R0 := H.ext
    refine ⟨A2_0, c2_0, hs2_0, ?_, ?_⟩
    · simp [tables, h1]
    · have e : (tables c).1 = table c := by simp [tables, h1]
      rw [e]; exact H

set_option maxRecDepth 20000 in
theorem core_follows {m : List (List Tight)} {A_m : Option Addr} {c_m : Nat} {x : Bound} {n : Nat} {w : World} (h_m : Sl2 w A_m c_m 2 encT m) (hq : Sq n m) (hn : 0 ≤ x.a ∧ x.a < n ∧ 0 ≤ x.b ∧ x.b < n) : Calls Try.prog 61 #[.slice A_m m.length c_m, .agg #[.int .i64 x.a, .int .i64 x.b, .int .i64 x.most]] w (Ret w (.bool (followsM m x))) := by
  refine calls_of_cw (args := [.slice A_m m.length c_m, .agg #[.int .i64 x.a, .int .i64 x.b, .int .i64 x.most]]) Try.func61 rfl rfl rfl rfl ?_
  have H := Hp.start w
  have R0 := H.ext
  have hqn := hq.len
  refine CW.seq fun K1 hK1 => ?_
  refine CW.region ?_
  refine LW.go rfl rfl (OW.box rfl fun b1 w1 N1 => ?_)
  replace H : Hp w w1 [.blk b1 26 [.int .i64 x.a, .int .i64 x.b, .int .i64 x.most]] := H.new N1 N1.blk
  replace R0 := H.ext
  refine LW.pure rfl rfl (RV.assign rfl) ?_
  refine LW.nil (hK1 _ _ ?_)
  refine CW.seq fun K2 hK2 => ?_
  refine CW.draw [] (fun _ => True) (.cons 0 1 (.cons 1 1 (.cons 2 1 (.cons 3 1 (.cons 4 1 (.cons 5 1 (.cons 6 1 (.cons 7 1 (.cons 8 1 (.cons 9 1 (.cons 10 1 (.cons 11 1 (.cons 12 1 (.cons 13 1 (.cons 14 1 (.cons 15 1 (.cons 16 1 (.cons 17 1 (.cons 18 1 (.cons 19 1 (.cons 20 1 (.cons 21 1 (.cons 22 1 (.cons 23 1 (.cons 24 1 (.cons 25 1 .nil)))))))))))))))))))))))))) mixed (by kernel_rfl) fun w2 E1 => ?_
  replace H := H.grow E1
  replace R0 := H.ext
  refine DW.fix rfl rfl rfl (fun _ EQ => RV.move rfl) ?_
  refine DW.fix rfl rfl rfl (fun _ EQ => RV.fieldAddr f26_0 rfl) ?_
  refine DW.fix rfl rfl rfl (fun _ EQ => RV.load1 k3 rfl (((H.grow EQ).blk 0 rfl).cells.off 0) rfl) ?_
  have hb1 : 0 ≤ ((x.a) : Int) ∧ ((x.a) : Int) < ((m.length : Nat) : Int) := by omega
  obtain ⟨x1, hx1⟩ := ex_at (l := m) (j := Int.toNat x.a) (by first | omega | (simp; omega))
  have hlx1 := hq.rowAt hx1
  obtain ⟨A1, c1, hC1, hS1⟩ := h_m.at_ hx1
  refine DW.fix rfl rfl rfl (fun _ EQ => RV.indexAddr s69 rfl rfl hb1 (h_m.addr hb1)) ?_
  refine DW.fix rfl rfl rfl (fun _ EQ => RV.load1 k76 rfl (hC1.ext (R0.trans EQ)) rfl) ?_
  refine DW.fix rfl rfl rfl (fun _ EQ => RV.fieldAddr f26_1 rfl) ?_
  refine DW.fix rfl rfl rfl (fun _ EQ => RV.load1 k3 rfl (((H.grow EQ).blk 0 rfl).cells.off 1) rfl) ?_
  have hb2 : 0 ≤ ((x.b) : Int) ∧ ((x.b) : Int) < ((x1.length : Nat) : Int) := by omega
  obtain ⟨x2, hx2⟩ := ex_at (l := x1) (j := Int.toNat x.b) (by first | omega | (simp; omega))
  have hmx2 := mg_of hx1 hx2
  refine DW.fix rfl rfl rfl (fun _ EQ => RV.indexAddr s76 rfl rfl hb2 (hS1.addr hb2)) ?_
  refine DW.fix rfl rfl rfl (fun _ EQ => RV.fieldAddr f75_0 rfl) ?_
  refine DW.fix rfl rfl rfl (fun _ EQ => RV.load1 k4 rfl (((hS1.at_ hx2).ext (R0.trans EQ)).off 0) rfl) ?_
  refine DW.fix rfl rfl rfl (fun _ EQ => RV.move rfl) ?_
  cases h1 : x2.known
  ·
    refine DW.fixN rfl rfl rfl rfl rfl rfl ?_
    refine DW.fixN rfl rfl rfl rfl rfl rfl ?_
    refine DW.fixN rfl rfl rfl rfl rfl rfl ?_
    refine DW.fixN rfl rfl rfl rfl rfl rfl ?_
    refine DW.fixN rfl rfl rfl rfl rfl rfl ?_
    refine DW.fixN rfl rfl rfl rfl rfl rfl ?_
    refine DW.fixN rfl rfl rfl rfl rfl rfl ?_
    refine DW.fixN rfl rfl rfl rfl rfl rfl ?_
    refine DW.fixN rfl rfl rfl rfl rfl rfl ?_
    refine DW.fixN rfl rfl rfl rfl rfl rfl ?_
    refine DW.fixN rfl rfl rfl rfl rfl rfl ?_
    refine DW.fixN rfl rfl rfl rfl rfl rfl ?_
    refine DW.fixN rfl rfl rfl rfl rfl rfl ?_
    refine DW.fix rfl rfl rfl (fun _ EQ => RV.pickF rfl rfl) ?_
    refine DW.fix rfl rfl rfl (fun _ EQ => RV.assign rfl) ?_
    refine DW.nil (hK2 _ _ ?_)
    refine CW.ret ?_
    refine ⟨_, (ResOK.one rfl), ?_⟩
    refine ⟨?_, R0⟩
    · simp [followsM, hmx2, h1]
  ·
    refine DW.fixY rfl rfl rfl rfl rfl (fun _ EQ => RV.move rfl) ?_
    refine DW.fixY rfl rfl rfl rfl rfl (fun _ EQ => RV.fieldAddr f26_0 rfl) ?_
    refine DW.fixY rfl rfl rfl rfl rfl (fun _ EQ => RV.load1 k3 rfl (((H.grow EQ).blk 0 rfl).cells.off 0) rfl) ?_
    have hb3 : 0 ≤ ((x.a) : Int) ∧ ((x.a) : Int) < ((m.length : Nat) : Int) := by omega
    have kx1 : m[Int.toNat x.a]? = some x1 := hx1
    obtain ⟨A2, c2, hC2, hS2⟩ := h_m.at_ kx1
    refine DW.fixY rfl rfl rfl rfl rfl (fun _ EQ => RV.indexAddr s69 rfl rfl hb3 (h_m.addr hb3)) ?_
    refine DW.fixY rfl rfl rfl rfl rfl (fun _ EQ => RV.load1 k76 rfl (hC2.ext (R0.trans EQ)) rfl) ?_
    refine DW.fixY rfl rfl rfl rfl rfl (fun _ EQ => RV.fieldAddr f26_1 rfl) ?_
    refine DW.fixY rfl rfl rfl rfl rfl (fun _ EQ => RV.load1 k3 rfl (((H.grow EQ).blk 0 rfl).cells.off 1) rfl) ?_
    have hb4 : 0 ≤ ((x.b) : Int) ∧ ((x.b) : Int) < ((x1.length : Nat) : Int) := by omega
    have kx2 : x1[Int.toNat x.b]? = some x2 := hx2
    refine DW.fixY rfl rfl rfl rfl rfl (fun _ EQ => RV.indexAddr s76 rfl rfl hb4 (hS2.addr hb4)) ?_
    refine DW.fixY rfl rfl rfl rfl rfl (fun _ EQ => RV.fieldAddr f75_1 rfl) ?_
    refine DW.fixY rfl rfl rfl rfl rfl (fun _ EQ => RV.load1 k3 rfl (((hS2.at_ kx2).ext (R0.trans EQ)).off 1) rfl) ?_
    refine DW.fixY rfl rfl rfl rfl rfl (fun _ EQ => RV.fieldAddr f26_2 rfl) ?_
    refine DW.fixY rfl rfl rfl rfl rfl (fun _ EQ => RV.load1 k3 rfl (((H.grow EQ).blk 0 rfl).cells.off 2) rfl) ?_
    refine DW.fixY rfl rfl rfl rfl rfl (fun _ EQ => RV.leq rfl rfl) ?_
    refine DW.fix rfl rfl rfl (fun _ EQ => RV.pickT rfl rfl) ?_
    refine DW.fix rfl rfl rfl (fun _ EQ => RV.assign rfl) ?_
    refine DW.nil (hK2 _ _ ?_)
    refine CW.ret ?_
    refine ⟨_, (ResOK.one rfl), ?_⟩
    refine ⟨?_, R0⟩
    · simp [followsM, hmx2, h1]

set_option maxRecDepth 20000 in
theorem core_fixed {m : List (List Tight)} {A_m : Option Addr} {c_m : Nat} {a : Int} {b : Int} {n : Nat} {w : World} (h_m : Sl2 w A_m c_m 2 encT m) (hq : Sq n m) (hn : 0 ≤ a ∧ a < n ∧ 0 ≤ b ∧ b < n) (hb : ∀ i j : Nat, i < n → j < n → -2560000 ≤ (mg m i j).most ∧ (mg m i j).most ≤ 2560000) : Calls Try.prog 66 #[.slice A_m m.length c_m, .int .i64 a, .int .i64 b] w (Ret w (.bool (fixedM m a b))) := by
  refine calls_of_cw (args := [.slice A_m m.length c_m, .int .i64 a, .int .i64 b]) Try.func66 rfl rfl rfl rfl ?_
  have H := Hp.start w
  have R0 := H.ext
  have hqn := hq.len
  refine CW.seq fun K1 hK1 => ?_
  refine CW.region ?_
  refine LW.pure rfl rfl (RV.assign rfl) ?_
  refine LW.nil (hK1 _ _ ?_)
  refine CW.seq fun K2 hK2 => ?_
  refine CW.draw [] (fun _ => True) (.cons 0 1 (.cons 1 1 (.cons 2 1 (.cons 3 1 (.cons 4 1 (.cons 5 1 (.cons 6 1 (.cons 7 1 (.cons 8 1 (.cons 9 1 (.cons 10 1 (.cons 11 1 (.cons 12 1 (.cons 13 1 (.cons 14 1 (.cons 15 1 (.cons 16 1 (.cons 17 1 (.cons 18 1 (.cons 19 1 (.cons 20 1 (.cons 21 1 (.cons 22 1 (.cons 23 1 (.cons 24 1 (.cons 25 1 (.cons 26 1 (.cons 27 1 (.cons 28 1 (.cons 29 1 (.cons 30 1 (.cons 31 1 (.cons 32 1 (.cons 33 1 (.cons 34 1 (.cons 35 1 (.cons 36 1 (.cons 37 1 (.cons 38 1 .nil))))))))))))))))))))))))))))))))))))))) mixed (by kernel_rfl) fun w1 E1 => ?_
  replace H := H.grow E1
  replace R0 := H.ext
  refine DW.fix rfl rfl rfl (fun _ EQ => RV.move rfl) ?_
  refine DW.fix rfl rfl rfl (fun _ EQ => RV.move rfl) ?_
  have hb1 : 0 ≤ ((a) : Int) ∧ ((a) : Int) < ((m.length : Nat) : Int) := by omega
  obtain ⟨x1, hx1⟩ := ex_at (l := m) (j := Int.toNat a) (by first | omega | (simp; omega))
  have hlx1 := hq.rowAt hx1
  obtain ⟨A1, c1, hC1, hS1⟩ := h_m.at_ hx1
  refine DW.fix rfl rfl rfl (fun _ EQ => RV.indexAddr s69 rfl rfl hb1 (h_m.addr hb1)) ?_
  refine DW.fix rfl rfl rfl (fun _ EQ => RV.load1 k76 rfl (hC1.ext (R0.trans EQ)) rfl) ?_
  refine DW.fix rfl rfl rfl (fun _ EQ => RV.move rfl) ?_
  have hb2 : 0 ≤ ((b) : Int) ∧ ((b) : Int) < ((x1.length : Nat) : Int) := by omega
  obtain ⟨x2, hx2⟩ := ex_at (l := x1) (j := Int.toNat b) (by first | omega | (simp; omega))
  have hmx2 := mg_of hx1 hx2
  try have hbx2 := hb b.toNat a.toNat (by omega) (by omega); rw [hmx2] at hbx2
  refine DW.fix rfl rfl rfl (fun _ EQ => RV.indexAddr s76 rfl rfl hb2 (hS1.addr hb2)) ?_
  refine DW.fix rfl rfl rfl (fun _ EQ => RV.fieldAddr f75_0 rfl) ?_
  refine DW.fix rfl rfl rfl (fun _ EQ => RV.load1 k4 rfl (((hS1.at_ hx2).ext (R0.trans EQ)).off 0) rfl) ?_
  refine DW.fix rfl rfl rfl (fun _ EQ => RV.move rfl) ?_
  cases h1 : x2.known
  ·
    refine DW.fixN rfl rfl rfl rfl rfl rfl ?_
    refine DW.fixN rfl rfl rfl rfl rfl rfl ?_
    refine DW.fixN rfl rfl rfl rfl rfl rfl ?_
    refine DW.fixN rfl rfl rfl rfl rfl rfl ?_
    refine DW.fixN rfl rfl rfl rfl rfl rfl ?_
    refine DW.fixN rfl rfl rfl rfl rfl rfl ?_
    refine DW.fixN rfl rfl rfl rfl rfl rfl ?_
    refine DW.fixN rfl rfl rfl rfl rfl rfl ?_
    refine DW.fix rfl rfl rfl (fun _ EQ => RV.pickF rfl rfl) ?_
    refine DW.fix rfl rfl rfl (fun _ EQ => RV.move rfl) ?_
    refine DW.fixN rfl rfl rfl rfl rfl rfl ?_
    refine DW.fixN rfl rfl rfl rfl rfl rfl ?_
    refine DW.fixN rfl rfl rfl rfl rfl rfl ?_
    refine DW.fixN rfl rfl rfl rfl rfl rfl ?_
    refine DW.fixN rfl rfl rfl rfl rfl rfl ?_
    refine DW.fixN rfl rfl rfl rfl rfl rfl ?_
    refine DW.fixN rfl rfl rfl rfl rfl rfl ?_
    refine DW.fixN rfl rfl rfl rfl rfl rfl ?_
    refine DW.fixN rfl rfl rfl rfl rfl rfl ?_
    refine DW.fixN rfl rfl rfl rfl rfl rfl ?_
    refine DW.fixN rfl rfl rfl rfl rfl rfl ?_
    refine DW.fixN rfl rfl rfl rfl rfl rfl ?_
    refine DW.fixN rfl rfl rfl rfl rfl rfl ?_
    refine DW.fixN rfl rfl rfl rfl rfl rfl ?_
    refine DW.fixN rfl rfl rfl rfl rfl rfl ?_
    refine DW.fixN rfl rfl rfl rfl rfl rfl ?_
    refine DW.fixN rfl rfl rfl rfl rfl rfl ?_
    refine DW.fixN rfl rfl rfl rfl rfl rfl ?_
    refine DW.fix rfl rfl rfl (fun _ EQ => RV.pickF rfl rfl) ?_
    refine DW.fix rfl rfl rfl (fun _ EQ => RV.assign rfl) ?_
    refine DW.nil (hK2 _ _ ?_)
    refine CW.ret ?_
    refine ⟨_, (ResOK.one rfl), ?_⟩
    refine ⟨?_, R0⟩
    · simp [fixedM, hmx2, h1]
  ·
    refine DW.fixY rfl rfl rfl rfl rfl (fun _ EQ => RV.move rfl) ?_
    refine DW.fixY rfl rfl rfl rfl rfl (fun _ EQ => RV.move rfl) ?_
    have hb3 : 0 ≤ ((b) : Int) ∧ ((b) : Int) < ((m.length : Nat) : Int) := by omega
    obtain ⟨x3, hx3⟩ := ex_at (l := m) (j := Int.toNat b) (by first | omega | (simp; omega))
    have hlx3 := hq.rowAt hx3
    obtain ⟨A2, c2, hC2, hS2⟩ := h_m.at_ hx3
    refine DW.fixY rfl rfl rfl rfl rfl (fun _ EQ => RV.indexAddr s69 rfl rfl hb3 (h_m.addr hb3)) ?_
    refine DW.fixY rfl rfl rfl rfl rfl (fun _ EQ => RV.load1 k76 rfl (hC2.ext (R0.trans EQ)) rfl) ?_
    refine DW.fixY rfl rfl rfl rfl rfl (fun _ EQ => RV.move rfl) ?_
    have hb4 : 0 ≤ ((a) : Int) ∧ ((a) : Int) < ((x3.length : Nat) : Int) := by omega
    obtain ⟨x4, hx4⟩ := ex_at (l := x3) (j := Int.toNat a) (by first | omega | (simp; omega))
    have hmx4 := mg_of hx3 hx4
    try have hbx4 := hb b.toNat a.toNat (by omega) (by omega); rw [hmx4] at hbx4
    refine DW.fixY rfl rfl rfl rfl rfl (fun _ EQ => RV.indexAddr s76 rfl rfl hb4 (hS2.addr hb4)) ?_
    refine DW.fixY rfl rfl rfl rfl rfl (fun _ EQ => RV.fieldAddr f75_0 rfl) ?_
    refine DW.fixY rfl rfl rfl rfl rfl (fun _ EQ => RV.load1 k4 rfl (((hS2.at_ hx4).ext (R0.trans EQ)).off 0) rfl) ?_
    refine DW.fix rfl rfl rfl (fun _ EQ => RV.pickT rfl rfl) ?_
    refine DW.fix rfl rfl rfl (fun _ EQ => RV.move rfl) ?_
    cases h2 : x4.known
    ·
      refine DW.fixN rfl rfl rfl rfl rfl rfl ?_
      refine DW.fixN rfl rfl rfl rfl rfl rfl ?_
      refine DW.fixN rfl rfl rfl rfl rfl rfl ?_
      refine DW.fixN rfl rfl rfl rfl rfl rfl ?_
      refine DW.fixN rfl rfl rfl rfl rfl rfl ?_
      refine DW.fixN rfl rfl rfl rfl rfl rfl ?_
      refine DW.fixN rfl rfl rfl rfl rfl rfl ?_
      refine DW.fixN rfl rfl rfl rfl rfl rfl ?_
      refine DW.fixN rfl rfl rfl rfl rfl rfl ?_
      refine DW.fixN rfl rfl rfl rfl rfl rfl ?_
      refine DW.fixN rfl rfl rfl rfl rfl rfl ?_
      refine DW.fixN rfl rfl rfl rfl rfl rfl ?_
      refine DW.fixN rfl rfl rfl rfl rfl rfl ?_
      refine DW.fixN rfl rfl rfl rfl rfl rfl ?_
      refine DW.fixN rfl rfl rfl rfl rfl rfl ?_
      refine DW.fixN rfl rfl rfl rfl rfl rfl ?_
      refine DW.fixN rfl rfl rfl rfl rfl rfl ?_
      refine DW.fixN rfl rfl rfl rfl rfl rfl ?_
      refine DW.fix rfl rfl rfl (fun _ EQ => RV.pickF rfl rfl) ?_
      refine DW.fix rfl rfl rfl (fun _ EQ => RV.assign rfl) ?_
      refine DW.nil (hK2 _ _ ?_)
      refine CW.ret ?_
      refine ⟨_, (ResOK.one rfl), ?_⟩
      refine ⟨?_, R0⟩
      · simp [fixedM, hmx2, h1, hmx4, h2]
    ·
      refine DW.fixY rfl rfl rfl rfl rfl (fun _ EQ => RV.move rfl) ?_
      refine DW.fixY rfl rfl rfl rfl rfl (fun _ EQ => RV.move rfl) ?_
      have hb5 : 0 ≤ ((a) : Int) ∧ ((a) : Int) < ((m.length : Nat) : Int) := by omega
      have kx1 : m[Int.toNat a]? = some x1 := hx1
      obtain ⟨A3, c3, hC3, hS3⟩ := h_m.at_ kx1
      refine DW.fixY rfl rfl rfl rfl rfl (fun _ EQ => RV.indexAddr s69 rfl rfl hb5 (h_m.addr hb5)) ?_
      refine DW.fixY rfl rfl rfl rfl rfl (fun _ EQ => RV.load1 k76 rfl (hC3.ext (R0.trans EQ)) rfl) ?_
      refine DW.fixY rfl rfl rfl rfl rfl (fun _ EQ => RV.move rfl) ?_
      have hb6 : 0 ≤ ((b) : Int) ∧ ((b) : Int) < ((x1.length : Nat) : Int) := by omega
      have kx2 : x1[Int.toNat b]? = some x2 := hx2
      refine DW.fixY rfl rfl rfl rfl rfl (fun _ EQ => RV.indexAddr s76 rfl rfl hb6 (hS3.addr hb6)) ?_
      refine DW.fixY rfl rfl rfl rfl rfl (fun _ EQ => RV.fieldAddr f75_1 rfl) ?_
      refine DW.fixY rfl rfl rfl rfl rfl (fun _ EQ => RV.load1 k3 rfl (((hS3.at_ kx2).ext (R0.trans EQ)).off 1) rfl) ?_
      refine DW.fixY rfl rfl rfl rfl rfl (fun _ EQ => RV.move rfl) ?_
      refine DW.fixY rfl rfl rfl rfl rfl (fun _ EQ => RV.move rfl) ?_
      have hb7 : 0 ≤ ((b) : Int) ∧ ((b) : Int) < ((m.length : Nat) : Int) := by omega
      have kx3 : m[Int.toNat b]? = some x3 := hx3
      obtain ⟨A4, c4, hC4, hS4⟩ := h_m.at_ kx3
      refine DW.fixY rfl rfl rfl rfl rfl (fun _ EQ => RV.indexAddr s69 rfl rfl hb7 (h_m.addr hb7)) ?_
      refine DW.fixY rfl rfl rfl rfl rfl (fun _ EQ => RV.load1 k76 rfl (hC4.ext (R0.trans EQ)) rfl) ?_
      refine DW.fixY rfl rfl rfl rfl rfl (fun _ EQ => RV.move rfl) ?_
      have hb8 : 0 ≤ ((a) : Int) ∧ ((a) : Int) < ((x3.length : Nat) : Int) := by omega
      have kx4 : x3[Int.toNat a]? = some x4 := hx4
      refine DW.fixY rfl rfl rfl rfl rfl (fun _ EQ => RV.indexAddr s76 rfl rfl hb8 (hS4.addr hb8)) ?_
      refine DW.fixY rfl rfl rfl rfl rfl (fun _ EQ => RV.fieldAddr f75_1 rfl) ?_
      refine DW.fixY rfl rfl rfl rfl rfl (fun _ EQ => RV.load1 k3 rfl (((hS4.at_ kx4).ext (R0.trans EQ)).off 1) rfl) ?_
      refine DW.fixY rfl rfl rfl rfl rfl (fun _ EQ => RV.neg rfl (by omega)) ?_
      refine DW.fixY rfl rfl rfl rfl rfl (fun _ EQ => RV.eqi rfl rfl) ?_
      refine DW.fix rfl rfl rfl (fun _ EQ => RV.pickT rfl rfl) ?_
      refine DW.fix rfl rfl rfl (fun _ EQ => RV.assign rfl) ?_
      refine DW.nil (hK2 _ _ ?_)
      refine CW.ret ?_
      refine ⟨_, (ResOK.one rfl), ?_⟩
      refine ⟨?_, R0⟩
      · simp [fixedM, hmx2, h1, hmx4, h2]

set_option maxRecDepth 20000 in
theorem core_Tightest {c : Core} {A_c_bounds : Option Addr} {c_c_bounds : Nat} {a : Int} {b : Int} {w : World} (h_c_bounds : Sl w A_c_bounds c_c_bounds 3 (c.bounds.map encB)) : Calls Try.prog 21 #[.agg #[.int .i64 c.layers, .slice A_c_bounds c.bounds.length c_c_bounds], .int .i64 a, .int .i64 b] w (Ret w (.tuple #[.int .i64 ((tightest c a b).1), .bool ((tightest c a b).2.1), .int .i64 ((tightest c a b).2.2)])) := by
  refine calls_of_cw (args := [.agg #[.int .i64 c.layers, .slice A_c_bounds c.bounds.length c_c_bounds], .int .i64 a, .int .i64 b]) Try.func21 rfl rfl rfl rfl ?_
  have H := Hp.start w
  have R0 := H.ext
  refine CW.seq fun K1 hK1 => ?_
  refine CW.region ?_
  refine LW.go rfl rfl (OW.box rfl fun b1 w1 N1 => ?_)
  replace H : Hp w w1 [.blk b1 24 [.int .i64 c.layers, .slice A_c_bounds c.bounds.length c_c_bounds]] := H.new N1 N1.blk
  replace R0 := H.ext
  refine LW.pure rfl rfl (RV.assign rfl) ?_
  refine LW.pure rfl rfl (RV.assign rfl) ?_
  refine LW.pure rfl rfl (RV.assign rfl) ?_
  refine LW.nil (hK1 _ _ ?_)
  refine CW.seq fun K2 hK2 => ?_
  refine CW.seq fun K3 hK3 => ?_
  refine CW.region ?_
  refine LW.pure rfl rfl (RV.loadA [.int .i64 c.layers, .slice A_c_bounds c.bounds.length c_c_bounds] k24 rfl (H.blk 0 rfl).cells rfl rfl) ?_
  refine LW.pure rfl rfl (RV.move rfl) ?_
  refine LW.pure rfl rfl (RV.move rfl) ?_
  refine LW.go rfl rfl (OW.buildSlice (e := 3) (vs := [.int .i64 a, .int .i64 b]) (cs := [.int .i64 a, .int .i64 b]) rfl (fun _ => by kernel_rfl) fun b2 w2 N2 => ?_)
  replace H : Hp w w2 [.own (some ⟨b2, 0, none⟩) 2 3 1 (List.map encI (([a, b] : List Int))), .blk b1 24 [.int .i64 c.layers, .slice A_c_bounds c.bounds.length c_c_bounds]] := H.made' (enc := encI) (l := ([a, b] : List Int)) N2 N2.blk (fun _ => rfl) (by simp) (by first | decide | omega | simp)
  replace R0 := H.ext
  refine LW.go rfl rfl (OW.call c58 rfl (core_layers (c := c) (l := ([a, b] : List Int)) (h_c_bounds.ext R0) (H.own 0 rfl).sl) ?_)
  rintro _ w3 ⟨rfl, E1⟩
  refine ⟨_, rfl, ?_⟩
  replace H := H.grow E1
  replace R0 := H.ext
  refine LW.pure rfl rfl (RV.assign rfl) ?_
  refine LW.nil (hK3 _ _ ?_)
  refine CW.seq fun K4 hK4 => ?_
  refine CW.region ?_
  refine LW.pure rfl rfl (RV.move rfl) ?_
  refine LW.pure rfl rfl (RV.nei rfl rfl) ?_
  refine LW.nil (hK4 _ _ ?_)
  refine CW.cond rfl (fun h1 => ?_) (fun h1 => ?_)
  ·
    have h1 := (Bool.not_eq_true' _).mp h1
    have h1 := of_decide_eq_false h1
    refine CW.seq fun K5 hK5 => ?_
    refine CW.region ?_
    refine LW.pure rfl rfl (RV.move rfl) ?_
    refine LW.pure rfl rfl (RV.assign rfl) ?_
    refine LW.pure rfl rfl (RV.assign rfl) ?_
    refine LW.pure rfl rfl (RV.assign rfl) ?_
    refine LW.nil (hK5 _ _ ?_)
    refine CW.ret ?_
    refine ⟨_, (ResOK.three rfl rfl rfl), ?_⟩
    refine ⟨?_, R0⟩
    · simp [tightest, h1]
  ·
    have h1 := (Bool.not_eq_false' _).mp h1
    have h1 := of_decide_eq_true h1
    have h1e := layers_ok2 h1
    have hvv := validate_ok h1e.1
    refine CW.skip (hK2 _ _ ?_)
    refine CW.seq fun K6 hK6 => ?_
    refine CW.region ?_
    refine LW.pure rfl rfl (RV.loadA [.int .i64 c.layers, .slice A_c_bounds c.bounds.length c_c_bounds] k24 rfl (H.blk 1 rfl).cells rfl rfl) ?_
    refine LW.go rfl rfl (OW.call c60 rfl (core_tables (c := c) (h_c_bounds.ext R0) (h1e.1)) ?_)
    rintro _ w4 ⟨A2_0, c2_0, hs2_0, rfl, E2⟩
    refine ⟨_, rfl, ?_⟩
    replace H : Hp w w4 [.tab A2_0 c2_0 76 hs2_0 75 2 (encM encT (((tables c).1))), .own (some ⟨b2, 0, none⟩) 2 3 1 (List.map encI (([a, b] : List Int))), .blk b1 24 [.int .i64 c.layers, .slice A_c_bounds c.bounds.length c_c_bounds]] := H.append E2
    replace R0 := H.ext
    refine LW.pure rfl rfl (RV.move rfl) ?_
    refine LW.pure rfl rfl (RV.extract rfl rfl) ?_
    refine LW.pure rfl rfl (RV.extract rfl rfl) ?_
    refine LW.pure rfl rfl (RV.assign rfl) ?_
    refine LW.pure rfl rfl (RV.assign rfl) ?_
    refine LW.nil (hK6 _ _ ?_)
    refine CW.seq fun K7 hK7 => ?_
    refine CW.seq fun K8 hK8 => ?_
    refine CW.region ?_
    refine LW.pure rfl rfl (RV.move rfl) ?_
    refine LW.pure rfl rfl (RV.nei rfl rfl) ?_
    refine LW.pure rfl rfl (RV.move rfl) ?_
    cases h2 : !(decide (((tables c).2) = 0))
    ·
      have h2 := (Bool.not_eq_false' _).mp h2
      have h2 := of_decide_eq_true h2
      obtain ⟨hcl, hte, hT⟩ := tables_ok h1e.1 h2
      have hTl := hT.sq.len
      refine LW.pureY rfl rfl rfl rfl (RV.move rfl) ?_
      refine LW.pureY rfl rfl rfl rfl (RV.move rfl) ?_
      have hb1 : 0 ≤ ((a) : Int) ∧ ((a) : Int) < ((((tables c).1).length : Nat) : Int) := by omega
      obtain ⟨x1, hx1⟩ := ex_at (l := ((tables c).1)) (j := Int.toNat a) (by first | omega | (simp; omega))
      have hlx1 := hT.sq.rowAt hx1
      obtain ⟨B1, e1, hh1⟩ := (H.tab 0 rfl).hd hx1
      refine LW.pureY rfl rfl rfl rfl (RV.indexAddr s69 rfl rfl hb1 ((H.tab 0 rfl).addr_ hx1)) ?_
      refine LW.pureY rfl rfl rfl rfl (RV.load1 k76 rfl ((H.tab 0 rfl).cell hx1 hh1) rfl) ?_
      refine LW.pureY rfl rfl rfl rfl (RV.move rfl) ?_
      have hb2 : 0 ≤ ((b) : Int) ∧ ((b) : Int) < ((x1.length : Nat) : Int) := by omega
      obtain ⟨x2, hx2⟩ := ex_at (l := x1) (j := Int.toNat b) (by first | omega | (simp; omega))
      have hmx2 := mg_of hx1 hx2
      refine LW.pureY rfl rfl rfl rfl (RV.indexAddr s76 rfl rfl hb2 (((H.tab 0 rfl).rowO hx1 hh1).sl.addr_ hx2)) ?_
      refine LW.pureY rfl rfl rfl rfl (RV.fieldAddr f75_0 rfl) ?_
      refine LW.pureY rfl rfl rfl rfl (RV.load1 k4 rfl ((((H.tab 0 rfl).rowO hx1 hh1).sl.at_ hx2).off 0) rfl) ?_
      refine LW.pureY rfl rfl rfl rfl (RV.not rfl) ?_
      refine LW.pure rfl rfl (RV.pickF rfl rfl) ?_
      refine LW.nil (hK8 _ _ ?_)
      refine CW.cond rfl (fun h3 => ?_) (fun h3 => ?_)
      ·
        have h3 := (Bool.not_eq_true' _).mp h3
        refine CW.seq fun K9 hK9 => ?_
        refine CW.region ?_
        refine LW.pure rfl rfl (RV.move rfl) ?_
        refine LW.pure rfl rfl (RV.assign rfl) ?_
        refine LW.pure rfl rfl (RV.assign rfl) ?_
        refine LW.pure rfl rfl (RV.assign rfl) ?_
        refine LW.nil (hK9 _ _ ?_)
        refine CW.ret ?_
        refine ⟨_, (ResOK.three rfl rfl rfl), ?_⟩
        refine ⟨?_, R0⟩
        · simp [tightest, h1, hcl, ← hte, hmx2, h3, h2]
      ·
        have h3 := (Bool.not_eq_false' _).mp h3
        refine CW.skip (hK7 _ _ ?_)
        refine CW.seq fun K10 hK10 => ?_
        refine CW.region ?_
        refine LW.pure rfl rfl (RV.move rfl) ?_
        refine LW.pure rfl rfl (RV.move rfl) ?_
        have hb3 : 0 ≤ ((a) : Int) ∧ ((a) : Int) < ((((tables c).1).length : Nat) : Int) := by omega
        have kx1 : (((tables c).1))[Int.toNat a]? = some x1 := hx1
        obtain ⟨B2, e2, hh2⟩ := (H.tab 0 rfl).hd kx1
        refine LW.pure rfl rfl (RV.indexAddr s69 rfl rfl hb3 ((H.tab 0 rfl).addr_ kx1)) ?_
        refine LW.pure rfl rfl (RV.load1 k76 rfl ((H.tab 0 rfl).cell kx1 hh2) rfl) ?_
        refine LW.pure rfl rfl (RV.move rfl) ?_
        have hb4 : 0 ≤ ((b) : Int) ∧ ((b) : Int) < ((x1.length : Nat) : Int) := by omega
        have kx2 : x1[Int.toNat b]? = some x2 := hx2
        refine LW.pure rfl rfl (RV.indexAddr s76 rfl rfl hb4 (((H.tab 0 rfl).rowO kx1 hh2).sl.addr_ kx2)) ?_
        refine LW.pure rfl rfl (RV.fieldAddr f75_1 rfl) ?_
        refine LW.pure rfl rfl (RV.load1 k3 rfl ((((H.tab 0 rfl).rowO kx1 hh2).sl.at_ kx2).off 1) rfl) ?_
        refine LW.pure rfl rfl (RV.assign rfl) ?_
        refine LW.pure rfl rfl (RV.assign rfl) ?_
        refine LW.pure rfl rfl (RV.assign rfl) ?_
        refine LW.nil (hK10 _ _ ?_)
        refine CW.ret ?_
        refine ⟨_, (ResOK.three rfl rfl rfl), ?_⟩
        refine ⟨?_, R0⟩
        · simp [tightest, h1, hcl, ← hte, hmx2, h3]
    ·
      have h2 := (Bool.not_eq_true' _).mp h2
      have h2 := of_decide_eq_false h2
      obtain ⟨hcl, hce⟩ := tables_no h2
      refine LW.no rfl rfl rfl rfl rfl ?_
      refine LW.no rfl rfl rfl rfl rfl ?_
      refine LW.no rfl rfl rfl rfl rfl ?_
      refine LW.no rfl rfl rfl rfl rfl ?_
      refine LW.no rfl rfl rfl rfl rfl ?_
      refine LW.no rfl rfl rfl rfl rfl ?_
      refine LW.no rfl rfl rfl rfl rfl ?_
      refine LW.no rfl rfl rfl rfl rfl ?_
      refine LW.no rfl rfl rfl rfl rfl ?_
      refine LW.pure rfl rfl (RV.pickT rfl rfl) ?_
      refine LW.nil (hK8 _ _ ?_)
      refine CW.cond rfl (fun _ => ?_) (fun h => by cases h)
      refine CW.seq fun K11 hK11 => ?_
      refine CW.region ?_
      refine LW.pure rfl rfl (RV.move rfl) ?_
      refine LW.pure rfl rfl (RV.assign rfl) ?_
      refine LW.pure rfl rfl (RV.assign rfl) ?_
      refine LW.pure rfl rfl (RV.assign rfl) ?_
      refine LW.nil (hK11 _ _ ?_)
      refine CW.ret ?_
      refine ⟨_, (ResOK.three rfl rfl rfl), ?_⟩
      refine ⟨?_, R0⟩
      · simp [tightest, h1, hcl, hce]

set_option maxRecDepth 20000 in
theorem core_Follows {c : Core} {A_c_bounds : Option Addr} {c_c_bounds : Nat} {x : Bound} {w : World} (h_c_bounds : Sl w A_c_bounds c_c_bounds 3 (c.bounds.map encB)) : Calls Try.prog 19 #[.agg #[.int .i64 c.layers, .slice A_c_bounds c.bounds.length c_c_bounds], .agg #[.int .i64 x.a, .int .i64 x.b, .int .i64 x.most]] w (Ret w (.tuple #[.bool ((follows c x).1), .int .i64 ((follows c x).2)])) := by
  refine calls_of_cw (args := [.agg #[.int .i64 c.layers, .slice A_c_bounds c.bounds.length c_c_bounds], .agg #[.int .i64 x.a, .int .i64 x.b, .int .i64 x.most]]) Try.func19 rfl rfl rfl rfl ?_
  have H := Hp.start w
  have R0 := H.ext
  refine CW.seq fun K1 hK1 => ?_
  refine CW.region ?_
  refine LW.go rfl rfl (OW.box rfl fun b1 w1 N1 => ?_)
  replace H : Hp w w1 [.blk b1 24 [.int .i64 c.layers, .slice A_c_bounds c.bounds.length c_c_bounds]] := H.new N1 N1.blk
  replace R0 := H.ext
  refine LW.go rfl rfl (OW.box rfl fun b2 w2 N2 => ?_)
  replace H : Hp w w2 [.blk b2 26 [.int .i64 x.a, .int .i64 x.b, .int .i64 x.most], .blk b1 24 [.int .i64 c.layers, .slice A_c_bounds c.bounds.length c_c_bounds]] := H.new N2 N2.blk
  replace R0 := H.ext
  refine LW.pure rfl rfl (RV.assign rfl) ?_
  refine LW.pure rfl rfl (RV.assign rfl) ?_
  refine LW.nil (hK1 _ _ ?_)
  refine CW.seq fun K2 hK2 => ?_
  refine CW.seq fun K3 hK3 => ?_
  refine CW.region ?_
  refine LW.pure rfl rfl (RV.loadA [.int .i64 c.layers, .slice A_c_bounds c.bounds.length c_c_bounds] k24 rfl (H.blk 1 rfl).cells rfl rfl) ?_
  refine LW.pure rfl rfl (RV.fieldAddr f26_0 rfl) ?_
  refine LW.pure rfl rfl (RV.load1 k3 rfl ((H.blk 0 rfl).cells.off 0) rfl) ?_
  refine LW.pure rfl rfl (RV.fieldAddr f26_1 rfl) ?_
  refine LW.pure rfl rfl (RV.load1 k3 rfl ((H.blk 0 rfl).cells.off 1) rfl) ?_
  refine LW.go rfl rfl (OW.buildSlice (e := 3) (vs := [.int .i64 x.a, .int .i64 x.b]) (cs := [.int .i64 x.a, .int .i64 x.b]) rfl (fun _ => by kernel_rfl) fun b3 w3 N3 => ?_)
  replace H : Hp w w3 [.own (some ⟨b3, 0, none⟩) 2 3 1 (List.map encI (([x.a, x.b] : List Int))), .blk b2 26 [.int .i64 x.a, .int .i64 x.b, .int .i64 x.most], .blk b1 24 [.int .i64 c.layers, .slice A_c_bounds c.bounds.length c_c_bounds]] := H.made' (enc := encI) (l := ([x.a, x.b] : List Int)) N3 N3.blk (fun _ => rfl) (by simp) (by first | decide | omega | simp)
  replace R0 := H.ext
  refine LW.go rfl rfl (OW.call c58 rfl (core_layers (c := c) (l := ([x.a, x.b] : List Int)) (h_c_bounds.ext R0) (H.own 0 rfl).sl) ?_)
  rintro _ w4 ⟨rfl, E1⟩
  refine ⟨_, rfl, ?_⟩
  replace H := H.grow E1
  replace R0 := H.ext
  refine LW.pure rfl rfl (RV.assign rfl) ?_
  refine LW.nil (hK3 _ _ ?_)
  refine CW.seq fun K4 hK4 => ?_
  refine CW.region ?_
  refine LW.pure rfl rfl (RV.move rfl) ?_
  refine LW.pure rfl rfl (RV.nei rfl rfl) ?_
  refine LW.nil (hK4 _ _ ?_)
  refine CW.cond rfl (fun h1 => ?_) (fun h1 => ?_)
  ·
    have h1 := (Bool.not_eq_true' _).mp h1
    have h1 := of_decide_eq_false h1
    refine CW.seq fun K5 hK5 => ?_
    refine CW.region ?_
    refine LW.pure rfl rfl (RV.move rfl) ?_
    refine LW.pure rfl rfl (RV.assign rfl) ?_
    refine LW.pure rfl rfl (RV.assign rfl) ?_
    refine LW.nil (hK5 _ _ ?_)
    refine CW.ret ?_
    refine ⟨_, (ResOK.two rfl rfl), ?_⟩
    refine ⟨?_, R0⟩
    · simp [follows, h1]
  ·
    have h1 := (Bool.not_eq_false' _).mp h1
    have h1 := of_decide_eq_true h1
    have h1e := layers_ok2 h1
    have hvv := validate_ok h1e.1
    refine CW.skip (hK2 _ _ ?_)
    refine CW.seq fun K6 hK6 => ?_
    refine CW.seq fun K7 hK7 => ?_
    refine CW.region ?_
    refine LW.pure rfl rfl (RV.loadA [.int .i64 x.a, .int .i64 x.b, .int .i64 x.most] k26 rfl (H.blk 1 rfl).cells rfl rfl) ?_
    refine LW.pure rfl rfl (RV.fieldAddr f24_0 rfl) ?_
    refine LW.pure rfl rfl (RV.load1 k3 rfl ((H.blk 2 rfl).cells.off 0) rfl) ?_
    refine LW.go rfl rfl (OW.call c59 rfl (core_right (x := x) (layers := c.layers) (by omega)) ?_)
    rintro _ w5 ⟨rfl, E2⟩
    refine ⟨_, rfl, ?_⟩
    replace H := H.grow E2
    replace R0 := H.ext
    refine LW.pure rfl rfl (RV.not rfl) ?_
    refine LW.nil (hK7 _ _ ?_)
    refine CW.cond rfl (fun h2 => ?_) (fun h2 => ?_)
    ·
      have h2 := (Bool.not_eq_true' _).mp h2
      refine CW.seq fun K8 hK8 => ?_
      refine CW.region ?_
      refine LW.pure rfl rfl (RV.assign rfl) ?_
      refine LW.pure rfl rfl (RV.assign rfl) ?_
      refine LW.nil (hK8 _ _ ?_)
      refine CW.ret ?_
      refine ⟨_, (ResOK.two rfl rfl), ?_⟩
      refine ⟨?_, R0⟩
      · simp [follows, h1, h2]
    ·
      have h2 := (Bool.not_eq_false' _).mp h2
      refine CW.skip (hK6 _ _ ?_)
      refine CW.seq fun K9 hK9 => ?_
      refine CW.region ?_
      refine LW.pure rfl rfl (RV.loadA [.int .i64 c.layers, .slice A_c_bounds c.bounds.length c_c_bounds] k24 rfl (H.blk 2 rfl).cells rfl rfl) ?_
      refine LW.go rfl rfl (OW.call c60 rfl (core_tables (c := c) (h_c_bounds.ext R0) (h1e.1)) ?_)
      rintro _ w6 ⟨A3_0, c3_0, hs3_0, rfl, E3⟩
      refine ⟨_, rfl, ?_⟩
      replace H : Hp w w6 [.tab A3_0 c3_0 76 hs3_0 75 2 (encM encT (((tables c).1))), .own (some ⟨b3, 0, none⟩) 2 3 1 (List.map encI (([x.a, x.b] : List Int))), .blk b2 26 [.int .i64 x.a, .int .i64 x.b, .int .i64 x.most], .blk b1 24 [.int .i64 c.layers, .slice A_c_bounds c.bounds.length c_c_bounds]] := H.append E3
      replace R0 := H.ext
      refine LW.pure rfl rfl (RV.move rfl) ?_
      refine LW.pure rfl rfl (RV.extract rfl rfl) ?_
      refine LW.pure rfl rfl (RV.extract rfl rfl) ?_
      refine LW.pure rfl rfl (RV.assign rfl) ?_
      refine LW.pure rfl rfl (RV.assign rfl) ?_
      refine LW.nil (hK9 _ _ ?_)
      refine CW.seq fun K10 hK10 => ?_
      refine CW.region ?_
      refine LW.pure rfl rfl (RV.move rfl) ?_
      refine LW.pure rfl rfl (RV.eqi rfl rfl) ?_
      refine LW.pure rfl rfl (RV.move rfl) ?_
      cases h3 : decide (((tables c).2) = 0)
      ·
        have h3 := of_decide_eq_false h3
        obtain ⟨hcl, hce⟩ := tables_no h3
        refine LW.no rfl rfl rfl rfl rfl ?_
        refine LW.no rfl rfl rfl rfl rfl ?_
        refine LW.no rfl rfl rfl rfl rfl ?_
        refine LW.pure rfl rfl (RV.pickF rfl rfl) ?_
        refine LW.pure rfl rfl (RV.move rfl) ?_
        refine LW.pure rfl rfl (RV.assign rfl) ?_
        refine LW.pure rfl rfl (RV.assign rfl) ?_
        refine LW.nil (hK10 _ _ ?_)
        refine CW.ret ?_
        refine ⟨_, (ResOK.two rfl rfl), ?_⟩
        refine ⟨?_, R0⟩
        · simp [follows, h1, h2, hcl, hce]
      ·
        have h3 := of_decide_eq_true h3
        obtain ⟨hcl, hte, hT⟩ := tables_ok h1e.1 h3
        have hTl := hT.sq.len
        refine LW.pureY rfl rfl rfl rfl (RV.move rfl) ?_
        refine LW.pureY rfl rfl rfl rfl (RV.loadA [.int .i64 x.a, .int .i64 x.b, .int .i64 x.most] k26 rfl (H.blk 2 rfl).cells rfl rfl) ?_
        refine LW.yes rfl rfl rfl rfl (OW.call c61 rfl (core_follows (m := ((tables c).1)) (x := x) (H.tab 0 rfl).sl2 (hT.sq) (by omega)) ?_)
        rintro _ w7 ⟨rfl, E4⟩
        refine ⟨_, rfl, ?_⟩
        replace H := H.grow E4
        replace R0 := H.ext
        refine LW.pure rfl rfl (RV.pickT rfl rfl) ?_
        refine LW.pure rfl rfl (RV.move rfl) ?_
        refine LW.pure rfl rfl (RV.assign rfl) ?_
        refine LW.pure rfl rfl (RV.assign rfl) ?_
        refine LW.nil (hK10 _ _ ?_)
        refine CW.ret ?_
        refine ⟨_, (ResOK.two rfl rfl), ?_⟩
        refine ⟨?_, R0⟩
        · simp [follows, h1, h2, hcl, hte, h3]

set_option maxRecDepth 20000 in
theorem core_Fixed {c : Core} {A_c_bounds : Option Addr} {c_c_bounds : Nat} {a : Int} {b : Int} {w : World} (h_c_bounds : Sl w A_c_bounds c_c_bounds 3 (c.bounds.map encB)) : Calls Try.prog 23 #[.agg #[.int .i64 c.layers, .slice A_c_bounds c.bounds.length c_c_bounds], .int .i64 a, .int .i64 b] w (Ret w (.tuple #[.int .i64 ((fixed c a b).1), .bool ((fixed c a b).2.1), .int .i64 ((fixed c a b).2.2)])) := by
  refine calls_of_cw (args := [.agg #[.int .i64 c.layers, .slice A_c_bounds c.bounds.length c_c_bounds], .int .i64 a, .int .i64 b]) Try.func23 rfl rfl rfl rfl ?_
  have H := Hp.start w
  have R0 := H.ext
  refine CW.seq fun K1 hK1 => ?_
  refine CW.region ?_
  refine LW.go rfl rfl (OW.box rfl fun b1 w1 N1 => ?_)
  replace H : Hp w w1 [.blk b1 24 [.int .i64 c.layers, .slice A_c_bounds c.bounds.length c_c_bounds]] := H.new N1 N1.blk
  replace R0 := H.ext
  refine LW.pure rfl rfl (RV.assign rfl) ?_
  refine LW.pure rfl rfl (RV.assign rfl) ?_
  refine LW.pure rfl rfl (RV.assign rfl) ?_
  refine LW.nil (hK1 _ _ ?_)
  refine CW.seq fun K2 hK2 => ?_
  refine CW.seq fun K3 hK3 => ?_
  refine CW.region ?_
  refine LW.pure rfl rfl (RV.loadA [.int .i64 c.layers, .slice A_c_bounds c.bounds.length c_c_bounds] k24 rfl (H.blk 0 rfl).cells rfl rfl) ?_
  refine LW.pure rfl rfl (RV.move rfl) ?_
  refine LW.pure rfl rfl (RV.move rfl) ?_
  refine LW.go rfl rfl (OW.buildSlice (e := 3) (vs := [.int .i64 a, .int .i64 b]) (cs := [.int .i64 a, .int .i64 b]) rfl (fun _ => by kernel_rfl) fun b2 w2 N2 => ?_)
  replace H : Hp w w2 [.own (some ⟨b2, 0, none⟩) 2 3 1 (List.map encI (([a, b] : List Int))), .blk b1 24 [.int .i64 c.layers, .slice A_c_bounds c.bounds.length c_c_bounds]] := H.made' (enc := encI) (l := ([a, b] : List Int)) N2 N2.blk (fun _ => rfl) (by simp) (by first | decide | omega | simp)
  replace R0 := H.ext
  refine LW.go rfl rfl (OW.call c58 rfl (core_layers (c := c) (l := ([a, b] : List Int)) (h_c_bounds.ext R0) (H.own 0 rfl).sl) ?_)
  rintro _ w3 ⟨rfl, E1⟩
  refine ⟨_, rfl, ?_⟩
  replace H := H.grow E1
  replace R0 := H.ext
  refine LW.pure rfl rfl (RV.assign rfl) ?_
  refine LW.nil (hK3 _ _ ?_)
  refine CW.seq fun K4 hK4 => ?_
  refine CW.region ?_
  refine LW.pure rfl rfl (RV.move rfl) ?_
  refine LW.pure rfl rfl (RV.nei rfl rfl) ?_
  refine LW.nil (hK4 _ _ ?_)
  refine CW.cond rfl (fun h1 => ?_) (fun h1 => ?_)
  ·
    have h1 := (Bool.not_eq_true' _).mp h1
    have h1 := of_decide_eq_false h1
    refine CW.seq fun K5 hK5 => ?_
    refine CW.region ?_
    refine LW.pure rfl rfl (RV.move rfl) ?_
    refine LW.pure rfl rfl (RV.assign rfl) ?_
    refine LW.pure rfl rfl (RV.assign rfl) ?_
    refine LW.pure rfl rfl (RV.assign rfl) ?_
    refine LW.nil (hK5 _ _ ?_)
    refine CW.ret ?_
    refine ⟨_, (ResOK.three rfl rfl rfl), ?_⟩
    refine ⟨?_, R0⟩
    · simp [fixed, h1]
  ·
    have h1 := (Bool.not_eq_false' _).mp h1
    have h1 := of_decide_eq_true h1
    have h1e := layers_ok2 h1
    have hvv := validate_ok h1e.1
    refine CW.skip (hK2 _ _ ?_)
    refine CW.seq fun K6 hK6 => ?_
    refine CW.region ?_
    refine LW.pure rfl rfl (RV.loadA [.int .i64 c.layers, .slice A_c_bounds c.bounds.length c_c_bounds] k24 rfl (H.blk 1 rfl).cells rfl rfl) ?_
    refine LW.go rfl rfl (OW.call c60 rfl (core_tables (c := c) (h_c_bounds.ext R0) (h1e.1)) ?_)
    rintro _ w4 ⟨A2_0, c2_0, hs2_0, rfl, E2⟩
    refine ⟨_, rfl, ?_⟩
    replace H : Hp w w4 [.tab A2_0 c2_0 76 hs2_0 75 2 (encM encT (((tables c).1))), .own (some ⟨b2, 0, none⟩) 2 3 1 (List.map encI (([a, b] : List Int))), .blk b1 24 [.int .i64 c.layers, .slice A_c_bounds c.bounds.length c_c_bounds]] := H.append E2
    replace R0 := H.ext
    refine LW.pure rfl rfl (RV.move rfl) ?_
    refine LW.pure rfl rfl (RV.extract rfl rfl) ?_
    refine LW.pure rfl rfl (RV.extract rfl rfl) ?_
    refine LW.pure rfl rfl (RV.assign rfl) ?_
    refine LW.pure rfl rfl (RV.assign rfl) ?_
    refine LW.nil (hK6 _ _ ?_)
    refine CW.seq fun K7 hK7 => ?_
    refine CW.seq fun K8 hK8 => ?_
    refine CW.region ?_
    refine LW.pure rfl rfl (RV.move rfl) ?_
    refine LW.pure rfl rfl (RV.nei rfl rfl) ?_
    refine LW.pure rfl rfl (RV.move rfl) ?_
    cases h2 : !(decide (((tables c).2) = 0))
    ·
      have h2 := (Bool.not_eq_false' _).mp h2
      have h2 := of_decide_eq_true h2
      obtain ⟨hcl, hte, hT⟩ := tables_ok h1e.1 h2
      have hTl := hT.sq.len
      refine LW.pureY rfl rfl rfl rfl (RV.move rfl) ?_
      refine LW.pureY rfl rfl rfl rfl (RV.move rfl) ?_
      refine LW.pureY rfl rfl rfl rfl (RV.move rfl) ?_
      refine LW.yes rfl rfl rfl rfl (OW.call c66 rfl (core_fixed (m := ((tables c).1)) (a := a) (b := b) (H.tab 0 rfl).sl2 (hT.sq) (by omega) (hT.bnd)) ?_)
      rintro _ w5 ⟨rfl, E3⟩
      refine ⟨_, rfl, ?_⟩
      replace H := H.grow E3
      replace R0 := H.ext
      refine LW.pureY rfl rfl rfl rfl (RV.not rfl) ?_
      refine LW.pure rfl rfl (RV.pickF rfl rfl) ?_
      refine LW.nil (hK8 _ _ ?_)
      refine CW.cond rfl (fun h3 => ?_) (fun h3 => ?_)
      ·
        have h3 := (Bool.not_eq_true' _).mp h3
        refine CW.seq fun K9 hK9 => ?_
        refine CW.region ?_
        refine LW.pure rfl rfl (RV.move rfl) ?_
        refine LW.pure rfl rfl (RV.assign rfl) ?_
        refine LW.pure rfl rfl (RV.assign rfl) ?_
        refine LW.pure rfl rfl (RV.assign rfl) ?_
        refine LW.nil (hK9 _ _ ?_)
        refine CW.ret ?_
        refine ⟨_, (ResOK.three rfl rfl rfl), ?_⟩
        refine ⟨?_, R0⟩
        · simp [fixed, h1, hcl, ← hte, h2, h3]
      ·
        have h3 := (Bool.not_eq_false' _).mp h3
        refine CW.skip (hK7 _ _ ?_)
        refine CW.seq fun K10 hK10 => ?_
        refine CW.region ?_
        refine LW.pure rfl rfl (RV.move rfl) ?_
        refine LW.pure rfl rfl (RV.move rfl) ?_
        have hb1 : 0 ≤ ((a) : Int) ∧ ((a) : Int) < ((((tables c).1).length : Nat) : Int) := by omega
        obtain ⟨x1, hx1⟩ := ex_at (l := ((tables c).1)) (j := Int.toNat a) (by first | omega | (simp; omega))
        have hlx1 := hT.sq.rowAt hx1
        obtain ⟨B1, e1, hh1⟩ := (H.tab 0 rfl).hd hx1
        refine LW.pure rfl rfl (RV.indexAddr s69 rfl rfl hb1 ((H.tab 0 rfl).addr_ hx1)) ?_
        refine LW.pure rfl rfl (RV.load1 k76 rfl ((H.tab 0 rfl).cell hx1 hh1) rfl) ?_
        refine LW.pure rfl rfl (RV.move rfl) ?_
        have hb2 : 0 ≤ ((b) : Int) ∧ ((b) : Int) < ((x1.length : Nat) : Int) := by omega
        obtain ⟨x2, hx2⟩ := ex_at (l := x1) (j := Int.toNat b) (by first | omega | (simp; omega))
        have hmx2 := mg_of hx1 hx2
        refine LW.pure rfl rfl (RV.indexAddr s76 rfl rfl hb2 (((H.tab 0 rfl).rowO hx1 hh1).sl.addr_ hx2)) ?_
        refine LW.pure rfl rfl (RV.fieldAddr f75_1 rfl) ?_
        refine LW.pure rfl rfl (RV.load1 k3 rfl ((((H.tab 0 rfl).rowO hx1 hh1).sl.at_ hx2).off 1) rfl) ?_
        refine LW.pure rfl rfl (RV.assign rfl) ?_
        refine LW.pure rfl rfl (RV.assign rfl) ?_
        refine LW.pure rfl rfl (RV.assign rfl) ?_
        refine LW.nil (hK10 _ _ ?_)
        refine CW.ret ?_
        refine ⟨_, (ResOK.three rfl rfl rfl), ?_⟩
        refine ⟨?_, R0⟩
        · simp [fixed, h1, hcl, ← hte, hmx2, h3]
    ·
      have h2 := (Bool.not_eq_true' _).mp h2
      have h2 := of_decide_eq_false h2
      obtain ⟨hcl, hce⟩ := tables_no h2
      refine LW.no rfl rfl rfl rfl rfl ?_
      refine LW.no rfl rfl rfl rfl rfl ?_
      refine LW.no rfl rfl rfl rfl rfl ?_
      refine LW.no rfl rfl rfl rfl rfl ?_
      refine LW.no rfl rfl rfl rfl rfl ?_
      refine LW.pure rfl rfl (RV.pickT rfl rfl) ?_
      refine LW.nil (hK8 _ _ ?_)
      refine CW.cond rfl (fun _ => ?_) (fun h => by cases h)
      refine CW.seq fun K11 hK11 => ?_
      refine CW.region ?_
      refine LW.pure rfl rfl (RV.move rfl) ?_
      refine LW.pure rfl rfl (RV.assign rfl) ?_
      refine LW.pure rfl rfl (RV.assign rfl) ?_
      refine LW.pure rfl rfl (RV.assign rfl) ?_
      refine LW.nil (hK11 _ _ ?_)
      refine CW.ret ?_
      refine ⟨_, (ResOK.three rfl rfl rfl), ?_⟩
      refine ⟨?_, R0⟩
      · simp [fixed, h1, hcl, hce]

end Go.Core

namespace Go.Core
open Go.Tb

def gb (l : List Bool) (i : Int) : Bool := l.getD i.toNat false
theorem gb_of {l : List Bool} {i : Int} {y : Bool} (h : l[i.toNat]? = some y) : gb l i = y := by simp [gb, List.getD, h]
abbrev WS := List Int × List Bool
def wB (p s : WS) (x : Bound) : WS :=
  if (gb p.2 x.a && (!gb s.2 x.b || decide (gi p.1 x.a + x.most < gi s.1 x.b))) = true then (s.1.set x.b.toNat (gi p.1 x.a + x.most), s.2.set x.b.toNat true) else s
def wTo (bs : List Bound) (p : WS) : Nat → WS
  | 0 => p
  | j + 1 => match bs[j]? with
    | some x => wB p (wTo bs p j) x
    | none => wTo bs p j
def wN (c : Core) (a : Nat) : Nat → WS
  | 0 => (List.replicate c.layers.toNat 0, (List.replicate c.layers.toNat false).set a true)
  | k + 1 => wTo c.bounds (wN c a k) c.bounds.length
def wsT (c : Core) (k : Nat) : Nat → List (List Int)
  | 0 => List.replicate c.layers.toNat []
  | a + 1 => (wsT c k a).set a (wN c a k).1
def wkT (c : Core) (k : Nat) : Nat → List (List Bool)
  | 0 => List.replicate c.layers.toNat []
  | a + 1 => (wkT c k a).set a (wN c a k).2

theorem wTo_succ {bs : List Bound} {p : WS} {j : Nat} {x : Bound} (hx : bs[j]? = some x) : wTo bs p (j + 1) = wB p (wTo bs p j) x := by simp only [wTo, hx]
theorem wsT_len (c : Core) (k : Nat) : ∀ a : Nat, (wsT c k a).length = c.layers.toNat
  | 0 => by simp [wsT]
  | a + 1 => by simp [wsT, wsT_len c k a]
theorem wkT_len (c : Core) (k : Nat) : ∀ a : Nat, (wkT c k a).length = c.layers.toNat
  | 0 => by simp [wkT]
  | a + 1 => by simp [wkT, wkT_len c k a]
theorem wsT_at (c : Core) (k : Nat) : ∀ a : Nat, a ≤ c.layers.toNat → ∀ i : Nat, i < a → (wsT c k a)[i]? = some (wN c i k).1
  | 0, _, i, h => by omega
  | a + 1, ha, i, h => by
    unfold wsT
    by_cases hi : i = a
    · subst hi; rw [List.getElem?_set_self (by rw [wsT_len]; omega)]
    · rw [List.getElem?_set_ne (by omega)]; exact wsT_at c k a (by omega) i (by omega)
theorem wkT_at (c : Core) (k : Nat) : ∀ a : Nat, a ≤ c.layers.toNat → ∀ i : Nat, i < a → (wkT c k a)[i]? = some (wN c i k).2
  | 0, _, i, h => by omega
  | a + 1, ha, i, h => by
    unfold wkT
    by_cases hi : i = a
    · subst hi; rw [List.getElem?_set_self (by rw [wkT_len]; omega)]
    · rw [List.getElem?_set_ne (by omega)]; exact wkT_at c k a (by omega) i (by omega)

structure WInv (n : Nat) (B : Int) (s : WS) : Prop where
  l1 : s.1.length = n
  l2 : s.2.length = n
  bnd : ∀ d ∈ s.1, -B ≤ d ∧ d ≤ B
theorem WInv.at_ {n : Nat} {B : Int} {s : WS} (h : WInv n B s) {j : Nat} {d : Int} (hd : s.1[j]? = some d) : -B ≤ d ∧ d ≤ B := h.bnd d (List.mem_of_getElem? hd)
theorem WInv.mono {n : Nat} {B B' : Int} {s : WS} (h : WInv n B s) (hB : B ≤ B') : WInv n B' s := ⟨h.l1, h.l2, fun d hd => by have := h.bnd d hd; omega⟩
theorem WInv.gi {n : Nat} {B : Int} {s : WS} (h : WInv n B s) (i : Int) (hB : 0 ≤ B) : -B ≤ Core.gi s.1 i ∧ Core.gi s.1 i ≤ B := by
  unfold Core.gi List.getD
  cases hd : s.1[i.toNat]? with
  | none => simp; omega
  | some d => simpa using h.at_ hd
theorem wB_inv {n : Nat} {B : Int} {p s : WS} {x : Bound} (hB : 0 ≤ B) (hp : WInv n B p) (hs : WInv n (B + 10000) s) (hm : -10000 ≤ x.most ∧ x.most ≤ 10000) : WInv n (B + 10000) (wB p s x) := by
  have := hp.gi x.a hB
  unfold wB
  split
  · refine ⟨by simp [hs.l1], by simp [hs.l2], fun d hd => ?_⟩
    rcases List.mem_or_eq_of_mem_set hd with hd | rfl
    · exact hs.bnd d hd
    · omega
  · exact hs
theorem wTo_inv {c : Core} (hv : validate c = 0) {n : Nat} {B : Int} {p : WS} (hB : 0 ≤ B) (hp : WInv n B p) : ∀ j : Nat, WInv n (B + 10000) (wTo c.bounds p j)
  | 0 => hp.mono (by omega)
  | j + 1 => by
    have ih := wTo_inv hv hB hp j
    cases hx : c.bounds[j]? with
    | none => simp only [wTo, hx]; exact ih
    | some x =>
      rw [wTo_succ hx]
      have := bound_ok hv hx
      exact wB_inv hB hp ih (by omega)
theorem wN_inv {c : Core} (hv : validate c = 0) (a : Nat) : ∀ k : Nat, WInv c.layers.toNat (10000 * (k : Int)) (wN c a k)
  | 0 => ⟨by simp [wN], by simp [wN], fun d hd => by simp [wN] at hd; omega⟩
  | k + 1 => by
    have := wTo_inv hv (by omega) (wN_inv hv a k) c.bounds.length
    exact this.mono (by omega)
theorem wN_inv' {c : Core} (hv : validate c = 0) (a : Nat) {k : Nat} (hk : k ≤ 8) : WInv c.layers.toNat 80000 (wN c a k) := (wN_inv hv a k).mono (by omega)
theorem wTo_inv' {c : Core} (hv : validate c = 0) (a : Nat) {k : Nat} (hk : k ≤ 8) (j : Nat) : WInv c.layers.toNat 90000 (wTo c.bounds (wN c a k) j) := wTo_inv hv (by omega) (wN_inv' hv a hk) j

def rclash (c : Core) : Bool := (List.range c.layers.toNat).any fun a => decide (gi (wN c a c.layers.toNat).1 a < 0)
def layered (c : Core) (a b : Int) : Int :=
  if validate c = 0 then
    if within a 0 (c.layers - 1) = true ∧ within b 0 (c.layers - 1) = true then (if rclash c = true then 10 else 0) else 4
  else validate c
def rtightest (c : Core) (a b : Int) : Int × Bool × Int :=
  if layered c a b = 0 then
    if gb (wN c a.toNat c.layers.toNat).2 b = true then (gi (wN c a.toNat c.layers.toNat).1 b, true, 0) else (0, false, 0)
  else (0, false, layered c a b)
def rfollows (c : Core) (x : Bound) : Bool × Int :=
  if validate c = 0 then
    if within x.a 0 (c.layers - 1) = true ∧ within x.b 0 (c.layers - 1) = true then
      if right x c.layers = true then ((rtightest c x.a x.b).2.1 && decide ((rtightest c x.a x.b).1 ≤ x.most), (rtightest c x.a x.b).2.2) else (false, 1)
    else (false, 4)
  else (false, validate c)
def rfixed (c : Core) (a b : Int) : Int × Bool × Int :=
  if layered c a b = 0 then
    if gb (wN c a.toNat c.layers.toNat).2 b = true ∧ gb (wN c b.toNat c.layers.toNat).2 a = true ∧ gi (wN c a.toNat c.layers.toNat).1 b = -gi (wN c b.toNat c.layers.toNat).1 a then (gi (wN c a.toNat c.layers.toNat).1 b, true, 0) else (0, false, 0)
  else (0, false, layered c a b)
theorem layered_ok {c : Core} {a b : Int} (h : layered c a b = 0) : validate c = 0 ∧ 0 ≤ a ∧ a < c.layers ∧ 0 ≤ b ∧ b < c.layers ∧ rclash c = false := by
  unfold layered at h
  split at h
  · rename_i hv
    split at h
    · rename_i hw
      have h1 := within_iff.1 hw.1
      have h2 := within_iff.1 hw.2
      refine ⟨hv, by omega, by omega, by omega, by omega, ?_⟩
      cases hr : rclash c
      · rfl
      · simp [hr] at h
    · omega
  · rename_i hv; exact absurd h hv
end Go.Core

namespace Go.Core
open Go.Tb

/-! ### paths along bounds -/
/-- The bounds es lead from a to v. -/
inductive Path (c : Core) : Nat → List Bound → Nat → Prop
  | nil (a : Nat) : Path c a [] a
  | cons {x : Bound} {es : List Bound} {v : Nat} (hx : x ∈ c.bounds) (h : Path c x.b.toNat es v) : Path c x.a.toNat (x :: es) v
def wt : List Bound → Int
  | [] => 0
  | x :: r => x.most + wt r
theorem wt_append (a b : List Bound) : wt (a ++ b) = wt a + wt b := by
  induction a with
  | nil => simp [wt]
  | cons x r ih => simp only [List.cons_append, wt, ih]; omega
theorem Path.append {c : Core} {a u v : Nat} {e f : List Bound} (h : Path c a e u) (k : Path c u f v) : Path c a (e ++ f) v := by
  induction h with
  | nil => exact k
  | cons hx _ ih => exact .cons hx (ih k)
theorem Path.split {c : Core} : ∀ {a v : Nat} (e : List Bound) {f : List Bound}, Path c a (e ++ f) v → ∃ u, Path c a e u ∧ Path c u f v
  | a, _, [], _, h => ⟨a, .nil a, h⟩
  | _, _, x :: r, f, h => by
    cases h with
    | cons hx h =>
      obtain ⟨u, h1, h2⟩ := Path.split r h
      exact ⟨u, .cons hx h1, h2⟩
theorem Path.single {c : Core} {x : Bound} (hx : x ∈ c.bounds) : Path c x.a.toNat [x] x.b.toNat := .cons hx (.nil _)
theorem Path.snoc {c : Core} {a : Nat} {e : List Bound} {x : Bound} (h : Path c a e x.a.toNat) (hx : x ∈ c.bounds) : Path c a (e ++ [x]) x.b.toNat := h.append (Path.single hx)
/-- All ends of the bounds are layers. -/
def Lay (c : Core) (n : Nat) : Prop := ∀ x ∈ c.bounds, x.a.toNat < n ∧ x.b.toNat < n
theorem lay_of {c : Core} (hv : validate c = 0) : Lay c c.layers.toNat := fun x hx => by
  obtain ⟨j, hj⟩ := List.getElem?_of_mem hx
  have := bound_ok hv hj
  omega
theorem Path.lt {c : Core} {n : Nat} (hl : Lay c n) {a v : Nat} {e : List Bound} (h : Path c a e v) (ha : a < n) : v < n := by
  induction h with
  | nil => exact ha
  | cons hx _ ih => exact ih (hl _ hx).2
theorem Path.pot {c : Core} {p : Nat → Int} (hp : Pot c p) {a v : Nat} {e : List Bound} (h : Path c a e v) : p v - p a ≤ wt e := by
  induction h with
  | nil => simp [wt]
  | cons hx _ ih => have := hp _ hx; simp only [wt]; omega

/-! ### a path that is too long has a round -/
theorem nodup_len : ∀ (n : Nat) (l : List Nat), l.Nodup → (∀ x ∈ l, x < n) → l.length ≤ n
  | 0, l, _, h => by
    cases l with
    | nil => simp
    | cons x r => have := h x (by simp); omega
  | n + 1, l, hd, h => by
    have h1 := nodup_len n (l.erase n) (hd.erase n) (fun x hx => by
      have h2 := h x (List.mem_of_mem_erase hx)
      have h3 : x ≠ n := fun e => by subst e; exact (List.Nodup.not_mem_erase hd) hx
      omega)
    by_cases hm : n ∈ l
    · rw [List.length_erase_of_mem hm] at h1; omega
    · rw [List.erase_of_not_mem hm] at h1; omega
/-- The layers along a path, without its last one. -/
def at_ (e : List Bound) : List Nat := e.map fun x => x.a.toNat
theorem Path.find {c : Core} {u : Nat} : ∀ {a v : Nat} {e : List Bound}, Path c a e v → u ∈ at_ e → ∃ e1 e2, e = e1 ++ e2 ∧ Path c a e1 u ∧ Path c u e2 v ∧ e2 ≠ []
  | _, _, _, .nil a, h => by simp [at_] at h
  | _, _, _, @Path.cons _ x es v hx k, h => by
    simp only [at_, List.map_cons, List.mem_cons] at h
    by_cases hu : u = x.a.toNat
    · subst hu
      exact ⟨[], x :: es, rfl, .nil _, .cons hx k, by simp⟩
    · rcases h with h | h
      · exact absurd h hu
      · obtain ⟨e1, e2, he, h1, h2, h3⟩ := Path.find k h
        exact ⟨x :: e1, e2, by rw [he]; rfl, .cons hx h1, h2, h3⟩
theorem Path.dup {c : Core} : ∀ {a v : Nat} {e : List Bound}, Path c a e v → ¬ (at_ e ++ [v]).Nodup → ∃ e1 e2 e3 u, e = e1 ++ e2 ++ e3 ∧ Path c a e1 u ∧ Path c u e2 u ∧ Path c u e3 v ∧ e2 ≠ []
  | _, _, _, .nil a, h => by simp [at_] at h
  | _, _, _, @Path.cons _ x es v hx k, h => by
    simp only [at_, List.map_cons, List.cons_append, List.nodup_cons] at h
    by_cases hm : x.a.toNat ∈ es.map (fun x => x.a.toNat) ++ [v]
    · rcases List.mem_append.1 hm with hm | hm
      · obtain ⟨e1, e2, he, h1, h2, _⟩ := Path.find (u := x.a.toNat) k hm
        exact ⟨[], x :: e1, e2, x.a.toNat, by rw [he]; rfl, .nil _, .cons hx h1, h2, by simp⟩
      · simp at hm
        rw [← hm] at k
        refine ⟨[], x :: es, [], x.a.toNat, by simp, .nil _, .cons hx k, ?_, by simp⟩
        rw [← hm]; exact .nil _
    · have hd : ¬ (at_ es ++ [v]).Nodup := fun hd => h ⟨hm, hd⟩
      obtain ⟨e1, e2, e3, u, he, h1, h2, h3, h4⟩ := Path.dup k hd
      exact ⟨x :: e1, e2, e3, u, by rw [he]; rfl, .cons hx h1, h2, h3, h4⟩
theorem Path.at_lt {c : Core} {n : Nat} (hl : Lay c n) {a v : Nat} {e : List Bound} (h : Path c a e v) : ∀ x ∈ at_ e, x < n := by
  induction h with
  | nil => simp [at_]
  | cons hx _ ih =>
    intro y hy
    simp only [at_, List.map_cons, List.mem_cons] at hy
    rcases hy with rfl | hy
    · exact (hl _ hx).1
    · exact ih y hy
/-- No round of at most n bounds is below 0. -/
def NoNeg (c : Core) (n : Nat) : Prop := ∀ (u : Nat) (e : List Bound), u < n → Path c u e u → e.length ≤ n → 0 ≤ wt e
/-- A path of n bounds or more has a shorter one that is no heavier. -/
theorem Path.short1 {c : Core} {n : Nat} (hl : Lay c n) (hn : NoNeg c n) {a v : Nat} {e : List Bound} (h : Path c a e v) (ha : a < n) (hlen : n ≤ e.length) : ∃ e', Path c a e' v ∧ e'.length < e.length ∧ wt e' ≤ wt e := by
  have he : e = e.take n ++ e.drop n := (List.take_append_drop n e).symm
  rw [he] at h
  obtain ⟨u, h1, h2⟩ := Path.split (e.take n) h
  have hu := h1.lt hl ha
  have hdup : ¬ (at_ (e.take n) ++ [u]).Nodup := fun hd => by
    have := nodup_len n _ hd (fun x hx => by
      rcases List.mem_append.1 hx with hx | hx
      · exact h1.at_lt hl x hx
      · simp at hx; omega)
    simp [at_] at this
    omega
  obtain ⟨e1, e2, e3, q, hq, p1, p2, p3, p4⟩ := Path.dup h1 hdup
  have hlq := p1.lt hl ha
  have hle : e2.length ≤ n := by
    have : (e.take n).length = (e1 ++ e2 ++ e3).length := by rw [← hq]
    simp at this
    omega
  have hw := hn q e2 hlq p2 hle
  have hpos : 0 < e2.length := List.length_pos_iff.2 p4
  refine ⟨e1 ++ (e3 ++ e.drop n), p1.append (p3.append h2), ?_, ?_⟩
  · have h3 : e.length = (e1 ++ e2 ++ e3 ++ e.drop n).length := by rw [← hq, List.take_append_drop]
    rw [h3]; simp only [List.length_append]; omega
  · have h3 : wt e = wt (e1 ++ e2 ++ e3 ++ e.drop n) := by rw [← hq, List.take_append_drop]
    rw [h3]; simp only [wt_append]; omega
theorem Path.short {c : Core} {n : Nat} (hl : Lay c n) (hn : NoNeg c n) {a v : Nat} (ha : a < n) : ∀ (l : Nat) (e : List Bound), e.length ≤ l → Path c a e v → ∃ e', Path c a e' v ∧ e'.length < n ∧ wt e' ≤ wt e
  | 0, e, hle, h => ⟨e, h, by omega, Int.le_refl _⟩
  | l + 1, e, hle, h => by
    by_cases hlen : e.length < n
    · exact ⟨e, h, hlen, Int.le_refl _⟩
    · obtain ⟨e', h1, h2, h3⟩ := h.short1 hl hn ha (by omega)
      obtain ⟨e'', k1, k2, k3⟩ := Path.short hl hn ha l e' (by omega) h1
      exact ⟨e'', k1, k2, by omega⟩
end Go.Core

set_option linter.unusedVariables false
set_option linter.unusedSimpArgs false
namespace Go.Core
open Go.Tb

/-! ### what the document's walks find -/
theorem Path.last {c : Core} {a v : Nat} {e : List Bound} (h : Path c a e v) : (e = [] ∧ v = a) ∨ ∃ e' x, e = e' ++ [x] ∧ x ∈ c.bounds ∧ Path c a e' x.a.toNat ∧ x.b.toNat = v := by
  induction h with
  | nil => exact .inl ⟨rfl, rfl⟩
  | @cons x es v hx k ih =>
    rcases ih with ⟨rfl, rfl⟩ | ⟨e', y, rfl, hy, h1, h2⟩
    · exact .inr ⟨[], x, rfl, hx, .nil _, rfl⟩
    · exact .inr ⟨x :: e', y, rfl, hy, .cons hx h1, h2⟩
def sm (s : WS) (v : Nat) : Int := s.1.getD v 0
def kn (s : WS) (v : Nat) : Bool := s.2.getD v false
theorem gi_sm (s : WS) (i : Int) : gi s.1 i = sm s i.toNat := rfl
theorem gb_kn (s : WS) (i : Int) : gb s.2 i = kn s i.toNat := rfl
structure Len (n : Nat) (s : WS) : Prop where
  l1 : s.1.length = n
  l2 : s.2.length = n
theorem wB_len {n : Nat} {p s : WS} {x : Bound} (h : Len n s) : Len n (wB p s x) := by
  unfold wB; split
  · exact ⟨by simp [h.l1], by simp [h.l2]⟩
  · exact h
theorem set_getD {α : Type} {l : List α} {i j : Nat} {x d : α} : (l.set i x).getD j d = if j = i ∧ i < l.length then x else l.getD j d := by
  simp only [List.getD, List.getElem?_set]
  by_cases h : i = j
  · subst h
    by_cases hi : i < l.length
    · simp [hi]
    · simp [hi, List.getElem?_eq_none (Nat.le_of_not_lt hi)]
  · simp [h, Ne.symm h]
/-- What one bound does. -/
theorem wB_spec {n : Nat} {p s : WS} {x : Bound} (h : Len n s) (hb : x.b.toNat < n) (v : Nat) :
    (kn s v = true → kn (wB p s x) v = true ∧ sm (wB p s x) v ≤ sm s v) ∧
    (v = x.b.toNat → kn p x.a.toNat = true → kn (wB p s x) v = true ∧ sm (wB p s x) v ≤ sm p x.a.toNat + x.most) ∧
    (kn (wB p s x) v = true → (kn s v = true ∧ sm (wB p s x) v = sm s v) ∨ (v = x.b.toNat ∧ kn p x.a.toNat = true ∧ sm (wB p s x) v = sm p x.a.toNat + x.most)) := by
  unfold wB
  rw [gb_kn, gb_kn, gi_sm, gi_sm]
  split
  · rename_i hc
    simp only [Bool.and_eq_true, Bool.or_eq_true, Bool.not_eq_true', decide_eq_true_eq] at hc
    have e1 : ∀ v, sm (s.1.set x.b.toNat (sm p x.a.toNat + x.most), s.2.set x.b.toNat true) v = if v = x.b.toNat then sm p x.a.toNat + x.most else sm s v := by
      intro v; simp only [sm]; rw [set_getD]; simp [h.l1, hb]
    have e2 : ∀ v, kn (s.1.set x.b.toNat (sm p x.a.toNat + x.most), s.2.set x.b.toNat true) v = if v = x.b.toNat then true else kn s v := by
      intro v; simp only [kn]; rw [set_getD]; simp [h.l2, hb]
    rw [e1, e2]
    by_cases hv : v = x.b.toNat
    · subst hv
      simp only [if_true]
      refine ⟨fun hk => ⟨trivial, ?_⟩, fun _ _ => ⟨trivial, Int.le_refl _⟩, fun _ => .inr ⟨trivial, hc.1, trivial⟩⟩
      rcases hc.2 with h2 | h2
      · rw [hk] at h2; cases h2
      · omega
    · simp only [if_neg hv]
      exact ⟨fun hk => ⟨hk, Int.le_refl _⟩, fun e => absurd e hv, fun hk => .inl ⟨hk, trivial⟩⟩
  · rename_i hc
    simp only [Bool.and_eq_true, Bool.or_eq_true, Bool.not_eq_true', decide_eq_true_eq, not_and, not_or] at hc
    refine ⟨fun hk => ⟨hk, Int.le_refl _⟩, fun e hk => ?_, fun hk => .inl ⟨hk, rfl⟩⟩
    subst e
    have := hc hk
    refine ⟨by cases hh : kn s x.b.toNat <;> simp_all, by omega⟩
theorem wTo_len {n : Nat} {bs : List Bound} {p : WS} (h : Len n p) : ∀ j : Nat, Len n (wTo bs p j)
  | 0 => h
  | j + 1 => by
    cases hx : bs[j]? with
    | none => simp only [wTo, hx]; exact wTo_len h j
    | some x => rw [wTo_succ hx]; exact wB_len (wTo_len h j)
theorem wTo_spec {n : Nat} {bs : List Bound} {p : WS} (h : Len n p) (hb : ∀ x ∈ bs, x.b.toNat < n) : ∀ (j : Nat) (v : Nat),
    (kn p v = true → kn (wTo bs p j) v = true ∧ sm (wTo bs p j) v ≤ sm p v) ∧
    (∀ (i : Nat) (x : Bound), i < j → bs[i]? = some x → v = x.b.toNat → kn p x.a.toNat = true → kn (wTo bs p j) v = true ∧ sm (wTo bs p j) v ≤ sm p x.a.toNat + x.most) ∧
    (kn (wTo bs p j) v = true → (kn p v = true ∧ sm (wTo bs p j) v = sm p v) ∨ ∃ x ∈ bs, v = x.b.toNat ∧ kn p x.a.toNat = true ∧ sm (wTo bs p j) v = sm p x.a.toNat + x.most)
  | 0, v => ⟨fun h => ⟨h, Int.le_refl _⟩, fun i x hi => by omega, fun h => .inl ⟨h, rfl⟩⟩
  | j + 1, v => by
    obtain ⟨i1, i2, i3⟩ := wTo_spec h hb j v
    cases hx : bs[j]? with
    | none =>
      simp only [wTo, hx]
      refine ⟨i1, fun i x hi hix => ?_, i3⟩
      by_cases hij : i = j
      · subst hij; rw [hx] at hix; cases hix
      · exact i2 i x (by omega) hix
    | some y =>
      rw [wTo_succ hx]
      obtain ⟨b1, b2, b3⟩ := wB_spec (p := p) (wTo_len h j) (hb y (List.mem_of_getElem? hx)) v
      refine ⟨fun hk => ?_, fun i x hi hix hv hk => ?_, fun hk => ?_⟩
      · obtain ⟨k1, k2⟩ := i1 hk
        obtain ⟨k3, k4⟩ := b1 k1
        exact ⟨k3, by omega⟩
      · by_cases hij : i = j
        · subst hij; rw [hx] at hix; cases hix
          exact b2 hv hk
        · obtain ⟨k1, k2⟩ := i2 i x (by omega) hix hv hk
          obtain ⟨k3, k4⟩ := b1 k1
          exact ⟨k3, by omega⟩
      · rcases b3 hk with ⟨k1, k2⟩ | ⟨k1, k2, k3⟩
        · rcases i3 k1 with ⟨q1, q2⟩ | ⟨x, hxm, q1, q2, q3⟩
          · exact .inl ⟨q1, by omega⟩
          · exact .inr ⟨x, hxm, q1, q2, by omega⟩
        · exact .inr ⟨y, List.mem_of_getElem? hx, k1, k2, k3⟩
theorem wN_len (c : Core) (a : Nat) : ∀ k : Nat, Len c.layers.toNat (wN c a k)
  | 0 => ⟨by simp [wN], by simp [wN]⟩
  | k + 1 => wTo_len (wN_len c a k) _
/-- The walks of at most k bounds from a. -/
theorem wN_spec {c : Core} (hl : Lay c c.layers.toNat) {a : Nat} (ha : a < c.layers.toNat) : ∀ (k : Nat) (v : Nat),
    (kn (wN c a k) v = true → ∃ e, Path c a e v ∧ e.length ≤ k ∧ wt e = sm (wN c a k) v) ∧
    (∀ e, Path c a e v → e.length ≤ k → kn (wN c a k) v = true ∧ sm (wN c a k) v ≤ wt e)
  | 0, v => by
    have hk : kn (wN c a 0) v = decide (v = a) := by
      simp only [kn, wN]
      rw [set_getD]
      by_cases hv : v = a
      · subst hv; simp [ha]
      · simp [hv, List.getD, List.getElem?_replicate]; split <;> rfl
    have hs : sm (wN c a 0) v = 0 := by
      simp only [sm, wN, List.getD, List.getElem?_replicate]; split <;> rfl
    rw [hk, hs]
    refine ⟨fun h => ?_, fun e he hlen => ?_⟩
    · have := of_decide_eq_true h; subst this
      exact ⟨[], .nil _, by simp, rfl⟩
    · cases e with
      | nil => cases he; simp [wt]
      | cons x r => simp at hlen
  | k + 1, v => by
    have hb : ∀ x ∈ c.bounds, x.b.toNat < c.layers.toNat := fun x hx => (hl x hx).2
    obtain ⟨s1, s2, s3⟩ := wTo_spec (wN_len c a k) hb c.bounds.length v
    have ih := wN_spec hl ha k
    show (kn (wTo c.bounds (wN c a k) c.bounds.length) v = true → _) ∧ _
    refine ⟨fun hk => ?_, fun e he hlen => ?_⟩
    · rcases s3 hk with ⟨k1, k2⟩ | ⟨x, hx, k1, k2, k3⟩
      · obtain ⟨e, h1, h2, h3⟩ := (ih v).1 k1
        exact ⟨e, h1, by omega, by rw [h3]; exact k2.symm⟩
      · obtain ⟨e, h1, h2, h3⟩ := (ih x.a.toNat).1 k2
        refine ⟨e ++ [x], ?_, by simp; omega, by rw [wt_append]; simp only [wt]; rw [h3]; simp only [wN]; omega⟩
        rw [k1]; exact h1.snoc hx
    · rcases he.last with ⟨rfl, rfl⟩ | ⟨e', x, rfl, hx, h1, rfl⟩
      · obtain ⟨k1, k2⟩ := (ih v).2 [] (.nil _) (by simp)
        obtain ⟨k3, k4⟩ := s1 k1
        exact ⟨k3, Int.le_trans k4 k2⟩
      · simp at hlen
        obtain ⟨k1, k2⟩ := (ih x.a.toNat).2 e' h1 hlen
        obtain ⟨i, hi⟩ := List.getElem?_of_mem hx
        obtain ⟨k3, k4⟩ := s2 i x (lt_of_at hi) hi rfl k1
        refine ⟨k3, ?_⟩
        rw [wt_append]; simp only [wt, wN]; omega
theorem noNeg_of {c : Core} (hl : Lay c c.layers.toNat) (h : rclash c = false) : NoNeg c c.layers.toNat := by
  intro u e hu he hlen
  obtain ⟨h1, h2⟩ := (wN_spec hl hu c.layers.toNat u).2 e he hlen
  have h3 := List.any_eq_false.1 h u (by simpa using hu)
  have h4 : ¬ sm (wN c u c.layers.toNat) u < 0 := fun hc => h3 (decide_eq_true hc)
  omega
theorem neg_of {c : Core} (hl : Lay c c.layers.toNat) (h : rclash c = true) : ∃ u e, u < c.layers.toNat ∧ Path c u e u ∧ wt e < 0 := by
  obtain ⟨u, hu, hd⟩ := List.any_eq_true.1 h
  have hu' : u < c.layers.toNat := by simpa using hu
  have h4 : sm (wN c u c.layers.toNat) u < 0 := of_decide_eq_true hd
  obtain ⟨k1, k2⟩ := (wN_spec hl hu' c.layers.toNat u).2 [] (.nil _) (by simp)
  obtain ⟨e, h1, h2, h3⟩ := (wN_spec hl hu' c.layers.toNat u).1 k1
  exact ⟨u, e, hu', h1, by omega⟩
end Go.Core

namespace Go.Core
open Go.Tb

/-! ### what the program's rounds find -/
def ds (s : RS) (v : Nat) : Int := s.1.getD v 0
theorem gi_ds (s : RS) (i : Int) : gi s.1 i = ds s i.toNat := rfl
theorem relaxB_ds {s : RS} {k : Nat} {x : Bound} {n : Nat} (hl : s.1.length = n) (hb : x.b.toNat < n) (v : Nat) : ds (relaxB s k x) v = if v = x.b.toNat ∧ ds s x.a.toNat + x.most < ds s x.b.toNat then ds s x.a.toNat + x.most else ds s v := by
  unfold relaxB
  rw [gi_ds, gi_ds]
  by_cases hc : ds s x.a.toNat + x.most < ds s x.b.toNat
  · rw [if_pos hc]
    simp only [hc, and_true]
    show (s.1.set x.b.toNat _).getD v 0 = _
    rw [set_getD]
    simp [hl, hb, ds]
  · rw [if_neg hc]; simp [hc]
theorem relaxB_len {s : RS} {k : Nat} {x : Bound} : (relaxB s k x).1.length = s.1.length := by unfold relaxB; split <;> simp
theorem relaxTo_len {bs : List Bound} {s : RS} : ∀ j : Nat, (relaxTo bs s j).1.length = s.1.length
  | 0 => rfl
  | j + 1 => by
    cases hx : bs[j]? with
    | none => simp only [relaxTo, hx]; exact relaxTo_len j
    | some x => rw [relaxTo_succ hx, relaxB_len]; exact relaxTo_len j
/-- Each date is the weight of some path. -/
def Real (c : Core) (s : RS) : Prop := ∀ v : Nat, v < c.layers.toNat → ∃ u e, u < c.layers.toNat ∧ Path c u e v ∧ wt e = ds s v
theorem relaxB_real {c : Core} (hl : Lay c c.layers.toNat) {s : RS} {k : Nat} {x : Bound} (hx : x ∈ c.bounds) (hn : s.1.length = c.layers.toNat) (h : Real c s) : Real c (relaxB s k x) := by
  intro v hv
  rw [relaxB_ds hn (hl x hx).2]
  split
  · rename_i hc
    obtain ⟨u, e, hu, he, hw⟩ := h x.a.toNat (hl x hx).1
    refine ⟨u, e ++ [x], hu, ?_, by rw [wt_append]; simp only [wt]; omega⟩
    rw [hc.1]; exact he.snoc hx
  · exact h v hv
theorem relaxTo_real {c : Core} (hl : Lay c c.layers.toNat) {s : RS} (hn : s.1.length = c.layers.toNat) (h : Real c s) : ∀ j : Nat, Real c (relaxTo c.bounds s j)
  | 0 => h
  | j + 1 => by
    have ih := relaxTo_real hl hn h j
    cases hx : c.bounds[j]? with
    | none => simp only [relaxTo, hx]; exact ih
    | some x => rw [relaxTo_succ hx]; exact relaxB_real hl (List.mem_of_getElem? hx) (by rw [relaxTo_len, hn]) ih
theorem relaxN_len (c : Core) : ∀ i : Nat, (relaxN c i).1.length = c.layers.toNat
  | 0 => by simp [relaxN]
  | i + 1 => by simp only [relaxN]; rw [relaxTo_len]; exact relaxN_len c i
theorem relaxN_real {c : Core} (hl : Lay c c.layers.toNat) : ∀ i : Nat, Real c (relaxN c i)
  | 0 => fun v hv => ⟨v, [], hv, .nil _, by simp [wt, ds, relaxN, List.getD, List.getElem?_replicate]; split <;> rfl⟩
  | i + 1 => relaxTo_real hl (s := ((relaxN c i).1, (relaxN c i).2.1, -1)) (relaxN_len c i) (relaxN_real hl i) c.bounds.length
theorem relaxTo_le {c : Core} (hl : Lay c c.layers.toNat) {s : RS} (hn : s.1.length = c.layers.toNat) : ∀ (j : Nat) (v : Nat), ds (relaxTo c.bounds s j) v ≤ ds s v ∧ ∀ (i : Nat) (x : Bound), i < j → c.bounds[i]? = some x → v = x.b.toNat → ds (relaxTo c.bounds s j) v ≤ ds s x.a.toNat + x.most
  | 0, v => ⟨Int.le_refl _, fun i x hi => by omega⟩
  | j + 1, v => by
    obtain ⟨i1, i2⟩ := relaxTo_le hl hn j v
    cases hx : c.bounds[j]? with
    | none =>
      simp only [relaxTo, hx]
      refine ⟨i1, fun i x hi hix => ?_⟩
      by_cases hij : i = j
      · subst hij; rw [hx] at hix; cases hix
      · exact i2 i x (by omega) hix
    | some y =>
      have hy := hl y (List.mem_of_getElem? hx)
      have ha := (relaxTo_le hl hn j y.a.toNat).1
      have e1 := relaxB_ds (s := relaxTo c.bounds s j) (k := j) (x := y) (by rw [relaxTo_len, hn]) hy.2 v
      rw [relaxTo_succ hx]
      have hle : ds (relaxB (relaxTo c.bounds s j) j y) v ≤ ds (relaxTo c.bounds s j) v := by
        rw [e1]
        split
        · rename_i hc; rw [hc.1]; omega
        · exact Int.le_refl _
      refine ⟨by omega, fun i x hi hix hv => ?_⟩
      by_cases hij : i = j
      · subst hij; rw [hx] at hix; cases hix
        rw [e1]
        split
        · omega
        · rename_i hc
          have : ¬ ds (relaxTo c.bounds s i) y.a.toNat + y.most < ds (relaxTo c.bounds s i) y.b.toNat := fun h => hc ⟨hv, h⟩
          rw [hv]; omega
      · have := i2 i x (by omega) hix hv
        omega
theorem relaxN_le {c : Core} (hv : validate c = 0) (hl : Lay c c.layers.toNat) : ∀ (i : Nat) (u v : Nat) (e : List Bound), Path c u e v → e.length ≤ i → ds (relaxN c i) v ≤ wt e
  | 0, u, v, e, h, hlen => by
    cases e with
    | nil => simp [wt, ds, relaxN, List.getD, List.getElem?_replicate]; split <;> simp
    | cons x r => simp at hlen
  | i + 1, u, v, e, h, hlen => by
    have hT := relaxTo_le hl (s := ((relaxN c i).1, (relaxN c i).2.1, -1)) (relaxN_len c i) c.bounds.length v
    show ds (relaxTo c.bounds ((relaxN c i).1, (relaxN c i).2.1, -1) c.bounds.length) v ≤ wt e
    rcases h.last with ⟨rfl, rfl⟩ | ⟨e', x, rfl, hx, h1, rfl⟩
    · exact Int.le_trans hT.1 (relaxN_le hv hl i _ _ [] (.nil _) (by simp))
    · simp at hlen
      obtain ⟨k, hk⟩ := List.getElem?_of_mem hx
      have h2 := hT.2 k x (lt_of_at hk) hk rfl
      have h3 := relaxN_le hv hl i u _ e' h1 hlen
      rw [wt_append]; simp only [wt]
      have h4 : ds ((relaxN c i).1, (relaxN c i).2.1, -1) x.a.toNat = ds (relaxN c i) x.a.toNat := rfl
      omega
theorem relaxTo_fire {bs : List Bound} {s : RS} (hs : s.2.2 < 0) : ∀ j : Nat, 0 ≤ (relaxTo bs s j).2.2 → ∃ (i : Nat) (x : Bound), bs[i]? = some x ∧ ds (relaxTo bs s i) x.a.toNat + x.most < ds (relaxTo bs s i) x.b.toNat
  | 0, h => by simp only [relaxTo] at h; omega
  | j + 1, h => by
    cases hx : bs[j]? with
    | none => simp only [relaxTo, hx] at h; exact relaxTo_fire hs j h
    | some x =>
      rw [relaxTo_succ hx] at h
      unfold relaxB at h
      rw [gi_ds, gi_ds] at h
      split at h
      · rename_i hc; exact ⟨j, x, hx, hc⟩
      · exact relaxTo_fire hs j h
theorem clash_iff {c : Core} (hv : validate c = 0) : clashes c = rclash c := by
  have hl := lay_of hv
  have hvo := validate_ok hv
  cases hr : rclash c
  · have hn := noNeg_of hl hr
    cases hc : clashes c
    · rfl
    · exfalso
      obtain ⟨m, hm⟩ : ∃ m, c.layers.toNat = m + 1 := ⟨c.layers.toNat - 1, by omega⟩
      have hre : relax c = relaxTo c.bounds ((relaxN c m).1, (relaxN c m).2.1, -1) c.bounds.length := by unfold relax; rw [hm]; rfl
      have h0 : 0 ≤ (relax c).2.2 := of_decide_eq_true hc
      rw [hre] at h0
      obtain ⟨i, x, hx, hlt⟩ := relaxTo_fire (by simp) _ h0
      have hxm := List.mem_of_getElem? hx
      have hR := relaxTo_real hl (s := ((relaxN c m).1, (relaxN c m).2.1, -1)) (relaxN_len c m) (relaxN_real hl m) i
      obtain ⟨u, e, hu, he, hw⟩ := hR x.a.toNat (hl x hxm).1
      obtain ⟨e', p1, p2, p3⟩ := Path.short hl hn hu _ _ (Nat.le_refl _) (he.snoc hxm)
      have h1 := relaxN_le hv hl m u _ e' p1 (by omega)
      have h2 := (relaxTo_le hl (s := ((relaxN c m).1, (relaxN c m).2.1, -1)) (relaxN_len c m) i x.b.toNat).1
      have h3 : ds ((relaxN c m).1, (relaxN c m).2.1, -1) x.b.toNat = ds (relaxN c m) x.b.toNat := rfl
      rw [wt_append] at p3
      simp only [wt] at p3
      omega
  · cases hc : clashes c
    · exfalso
      obtain ⟨u, e, hu, he, hw⟩ := neg_of hl hr
      have := he.pot (pot_of hv hc)
      omega
    · rfl
end Go.Core

namespace Go.Core
open Go.Tb

/-! ### what the table finds -/
theorem tighter_spec (t o : Tight) : (t.known = true → (tighter t o).known = true ∧ (tighter t o).most ≤ t.most) ∧ (o.known = true → (tighter t o).known = true ∧ (tighter t o).most ≤ o.most) ∧
    ((tighter t o).known = true → (t.known = true ∧ (tighter t o).most = t.most) ∨ (o.known = true ∧ (tighter t o).most = o.most)) := by
  unfold tighter
  cases t with
  | mk k m =>
    cases o with
    | mk k' m' =>
      cases k <;> cases k' <;> simp
      by_cases h : m' < m <;> simp [h] <;> omega
theorem fwJ_cell {n : Nat} {p : Nat → Int} {B : Int} {m0 m : TM} {k i : Nat} (hB : 0 ≤ B) (h0 : TInv n p B m0) (h : FInv n p B m0 k m) (hk : k < n) (hi : i < n) : ∀ j : Nat, j ≤ n → ∀ a b : Nat, a < n → b < n →
    mg (fwJ m k i j) a b = if a = i ∧ b < j then tighter (mg m a b) (tover (mg m0 a k) (mg m0 k b)) else mg m a b
  | 0, _, a, b, _, _ => by simp [fwJ]
  | j + 1, hj, a, b, ha, hb => by
    have ih := fwJ_cell hB h0 h hk hi j (by omega)
    have hF := fwJ_inv hB h0 h hk hi j (by omega)
    simp only [fwJ, fwAt]
    rw [mg_put hF.inv.sq hi (by omega), hF.col i hi, hF.row j (by omega), ih i j hi (by omega), ih a b ha hb]
    by_cases h1 : a = i
    · subst h1
      by_cases h2 : b = j
      · subst h2; simp
      · by_cases h3 : b < j
        · simp [h2, h3, show b < j + 1 by omega]
        · simp [h2, h3, show ¬ b < j + 1 by omega]
    · simp [h1]
theorem fwI_cell {n : Nat} {p : Nat → Int} {B : Int} {m0 : TM} {k : Nat} (hB : 0 ≤ B) (h0 : TInv n p B m0) (hk : k < n) : ∀ i : Nat, i ≤ n → ∀ a b : Nat, a < n → b < n →
    mg (fwI n m0 k i) a b = if a < i then tighter (mg m0 a b) (tover (mg m0 a k) (mg m0 k b)) else mg m0 a b
  | 0, _, a, b, _, _ => by simp [fwI]
  | i + 1, hi, a, b, ha, hb => by
    have ih := fwI_cell hB h0 hk i (by omega) a b ha hb
    simp only [fwI]
    rw [fwJ_cell hB h0 (fwI_inv hB h0 hk i (by omega)) hk (by omega) n (Nat.le_refl n) a b ha hb, ih]
    by_cases h1 : a = i
    · subst h1; simp [hb]
    · by_cases h2 : a < i
      · simp [h1, h2, show a < i + 1 by omega]
      · simp [h1, h2, show ¬ a < i + 1 by omega]

/-- The layers inside a path. -/
def mids : List Bound → List Nat
  | [] => []
  | _ :: r => at_ r
structure TS (c : Core) (n K : Nat) (m : TM) : Prop where
  real : ∀ i j : Nat, i < n → j < n → (mg m i j).known = true → ∃ e, Path c i e j ∧ wt e = (mg m i j).most
  low : ∀ (i j : Nat) (e : List Bound), i < n → Path c i e j → (∀ u ∈ mids e, u < K) → (mg m i j).known = true ∧ (mg m i j).most ≤ wt e

theorem tB_spec {c : Core} {p : Nat → Int} (hv : validate c = 0) (hp : Pot c p) : ∀ j : Nat,
    (∀ a b : Nat, a < c.layers.toNat → b < c.layers.toNat → (mg (tB c.layers.toNat c.bounds j) a b).known = true → ∃ e, Path c a e b ∧ wt e = (mg (tB c.layers.toNat c.bounds j) a b).most) ∧
    (∀ (i : Nat) (x : Bound), i < j → c.bounds[i]? = some x → (mg (tB c.layers.toNat c.bounds j) x.a.toNat x.b.toNat).known = true ∧ (mg (tB c.layers.toNat c.bounds j) x.a.toNat x.b.toNat).most ≤ x.most)
  | 0 => by
    refine ⟨fun a b ha hb hk => ?_, fun i x hi => by omega⟩
    simp only [tB] at *
    rw [tI_mg ha hb] at *
    by_cases h : a = b
    · subst h; exact ⟨[], .nil _, by simp [wt]⟩
    · simp [h] at hk
  | j + 1 => by
    obtain ⟨i1, i2⟩ := tB_spec hv hp j
    have hI := tB_inv hv hp j
    have hl := lay_of hv
    cases hx : c.bounds[j]? with
    | none =>
      simp only [tB, hx]
      refine ⟨i1, fun i x hi hix => ?_⟩
      by_cases hij : i = j
      · subst hij; rw [hx] at hix; cases hix
      · exact i2 i x (by omega) hix
    | some y =>
      have hym := List.mem_of_getElem? hx
      have hy := hl y hym
      rw [tB_succ hx]
      obtain ⟨t1, t2, t3⟩ := tighter_spec (mg (tB c.layers.toNat c.bounds j) y.a.toNat y.b.toNat) ⟨true, y.most⟩
      refine ⟨fun a b ha hb hk => ?_, fun i x hi hix => ?_⟩
      · rw [mg_put hI.sq hy.1 hy.2] at *
        split at hk
        · rename_i he
          rw [if_pos he]
          obtain ⟨rfl, rfl⟩ := he
          rcases t3 hk with ⟨q1, q2⟩ | ⟨q1, q2⟩
          · obtain ⟨e, he, hw⟩ := i1 _ _ ha hb q1
            exact ⟨e, he, by rw [hw, q2]⟩
          · exact ⟨[y], Path.single hym, by rw [q2]; simp [wt]⟩
        · rename_i he
          rw [if_neg he]
          exact i1 a b ha hb hk
      · rw [mg_put hI.sq hy.1 hy.2]
        by_cases he : x.a.toNat = y.a.toNat ∧ x.b.toNat = y.b.toNat
        · rw [if_pos he]
          by_cases hij : i = j
          · subst hij; rw [hx] at hix; cases hix
            exact t2 rfl
          · obtain ⟨k1, k2⟩ := i2 i x (by omega) hix
            rw [he.1, he.2] at k1 k2
            obtain ⟨k3, k4⟩ := t1 k1
            exact ⟨k3, by omega⟩
        · rw [if_neg he]
          by_cases hij : i = j
          · subst hij; rw [hx] at hix; cases hix
            exact absurd ⟨rfl, rfl⟩ he
          · exact i2 i x (by omega) hix
theorem TS.base {c : Core} {p : Nat → Int} (hv : validate c = 0) (hp : Pot c p) : TS c c.layers.toNat 0 (tB c.layers.toNat c.bounds c.bounds.length) := by
  obtain ⟨h1, h2⟩ := tB_spec hv hp c.bounds.length
  refine ⟨h1, fun i j e hi he hm => ?_⟩
  cases he with
  | nil =>
    have := (tB_inv hv hp c.bounds.length).diag i hi
    rw [this]; simp [wt]
  | @cons x r _ hx k =>
    cases r with
    | nil =>
      obtain rfl : j = x.b.toNat := by
        rcases k.last with ⟨_, h⟩ | ⟨e', y, h, _⟩
        · exact h
        · simp at h
      obtain ⟨q, hq⟩ := List.getElem?_of_mem hx
      have := h2 q x (lt_of_at hq) hq
      simp only [wt]
      exact ⟨this.1, by omega⟩
    | cons y s =>
      have := hm y.a.toNat (by simp [mids, at_])
      omega
theorem Path.find1 {c : Core} {u : Nat} : ∀ {a v : Nat} {e : List Bound}, Path c a e v → u ∈ at_ e → ∃ e1 e2, e = e1 ++ e2 ∧ Path c a e1 u ∧ Path c u e2 v ∧ u ∉ at_ e1
  | _, _, _, .nil a, h => by simp [at_] at h
  | _, _, _, @Path.cons _ x es v hx k, h => by
    simp only [at_, List.map_cons, List.mem_cons] at h
    by_cases hu : u = x.a.toNat
    · subst hu
      exact ⟨[], x :: es, rfl, .nil _, .cons hx k, by simp [at_]⟩
    · rcases h with h | h
      · exact absurd h hu
      · obtain ⟨e1, e2, he, h1, h2, h3⟩ := Path.find1 k h
        exact ⟨x :: e1, e2, by rw [he]; rfl, .cons hx h1, h2, by simp only [at_, List.map_cons, List.mem_cons]; rintro (h | h); exact hu h; exact h3 h⟩
theorem at_app (a b : List Bound) : at_ (a ++ b) = at_ a ++ at_ b := by simp [at_]
theorem mids_sub {e : List Bound} : ∀ u ∈ mids e, u ∈ at_ e := by
  intro u hu
  cases e with
  | nil => exact hu
  | cons x r => simp only [at_, List.map_cons, List.mem_cons]; exact .inr hu
/-- From K on, within K. -/
theorem TS.fromK {c : Core} {n K : Nat} {m : TM} {p : Nat → Int} (hp : Pot c p) (h : TS c n K m) (hK : K < n) : ∀ (l : Nat) (e : List Bound) (j : Nat), e.length ≤ l → Path c K e j → (∀ u ∈ mids e, u < K + 1) → (mg m K j).known = true ∧ (mg m K j).most ≤ wt e
  | 0, e, j, hlen, he, hm => by
    have : e = [] := List.eq_nil_of_length_eq_zero (by omega)
    subst this
    exact h.low K j [] hK he (by simp [mids])
  | l + 1, e, j, hlen, he, hm => by
    by_cases hin : K ∈ mids e
    · cases e with
      | nil => simp [mids] at hin
      | cons x r =>
        cases he with
        | cons hx k =>
          obtain ⟨s1, s2, hs, p1, p2, _⟩ := Path.find1 k hin
          have hc : Path c x.a.toNat (x :: s1) x.a.toNat := .cons hx p1
          have hw := hc.pot hp
          have hlen2 : s2.length ≤ l := by have : r.length = (s1 ++ s2).length := by rw [hs]
                                           simp at this hlen; omega
          obtain ⟨q1, q2⟩ := TS.fromK hp h hK l s2 j hlen2 p2 (fun u hu => hm u (by show u ∈ at_ r; rw [hs, at_app]; exact List.mem_append_right _ (mids_sub u hu)))
          refine ⟨q1, ?_⟩
          have hw2 : wt (x :: r) = wt (x :: s1) + wt s2 := by rw [hs, ← List.cons_append, wt_append]
          omega
    · exact h.low K j e hK he (fun u hu => by
        have h1 := hm u hu
        have h2 : u ≠ K := fun e' => hin (e' ▸ hu)
        omega)
theorem TS.step {c : Core} {n K : Nat} {m : TM} {p : Nat → Int} {B : Int} (hl : Lay c n) (hp : Pot c p) (hB : 0 ≤ B) (h0 : TInv n p B m) (h : TS c n K m) (hK : K < n) : TS c n (K + 1) (fwI n m K n) := by
  have cell : ∀ a b : Nat, a < n → b < n → mg (fwI n m K n) a b = tighter (mg m a b) (tover (mg m a K) (mg m K b)) := fun a b ha hb => by rw [fwI_cell hB h0 hK n (Nat.le_refl n) a b ha hb, if_pos ha]
  refine ⟨fun i j hi hj hk => ?_, fun i j e hi he hm => ?_⟩
  · rw [cell i j hi hj] at *
    rcases (tighter_spec _ _).2.2 hk with ⟨q1, q2⟩ | ⟨q1, q2⟩
    · obtain ⟨e, he, hw⟩ := h.real i j hi hj q1
      exact ⟨e, he, by rw [hw, q2]⟩
    · simp only [tover, Bool.and_eq_true] at q1
      obtain ⟨e1, he1, hw1⟩ := h.real i K hi hK q1.1
      obtain ⟨e2, he2, hw2⟩ := h.real K j hK hj q1.2
      exact ⟨e1 ++ e2, he1.append he2, by rw [wt_append, hw1, hw2, q2]; rfl⟩
  · have hj := he.lt hl hi
    rw [cell i j hi hj]
    by_cases hin : K ∈ mids e
    · cases e with
      | nil => simp [mids] at hin
      | cons x r =>
        cases he with
        | cons hx k =>
          obtain ⟨s1, s2, hs, p1, p2, hno⟩ := Path.find1 k hin
          have c1 : Path c x.a.toNat (x :: s1) K := .cons hx p1
          obtain ⟨q1, q2⟩ := h.low _ K (x :: s1) hi c1 (fun u hu => by
            have h1 := hm u (by show u ∈ at_ r; rw [hs, at_app]; exact List.mem_append_left _ hu)
            have h2 : u ≠ K := fun e' => hno (e' ▸ hu)
            omega)
          obtain ⟨q3, q4⟩ := TS.fromK hp h hK _ s2 j (Nat.le_refl _) p2 (fun u hu => hm u (by show u ∈ at_ r; rw [hs, at_app]; exact List.mem_append_right _ (mids_sub u hu)))
          have hw2 : wt (x :: r) = wt (x :: s1) + wt s2 := by rw [hs, ← List.cons_append, wt_append]
          obtain ⟨r1, r2⟩ := (tighter_spec (mg m x.a.toNat j) (tover (mg m x.a.toNat K) (mg m K j))).2.1 (by simp [tover, q1, q3])
          refine ⟨r1, ?_⟩
          simp only [tover] at r2 ⊢
          omega
    · obtain ⟨q1, q2⟩ := h.low i j e hi he (fun u hu => by
        have h1 := hm u hu
        have h2 : u ≠ K := fun e' => hin (e' ▸ hu)
        omega)
      obtain ⟨r1, r2⟩ := (tighter_spec (mg m i j) (tover (mg m i K) (mg m K j))).1 q1
      exact ⟨r1, by omega⟩
theorem tK_spec {c : Core} {p : Nat → Int} (hv : validate c = 0) (hp : Pot c p) : ∀ K : Nat, K ≤ c.layers.toNat → TS c c.layers.toNat K (tK c K)
  | 0, _ => TS.base hv hp
  | K + 1, hK => TS.step (lay_of hv) hp (by omega) (tK_inv hv hp (k := K) (by omega)) (tK_spec hv hp K (by omega)) (by omega)
/-- The table, in words of paths. -/
theorem table_spec {c : Core} (hv : validate c = 0) (hc : clashes c = false) {i j : Nat} (hi : i < c.layers.toNat) (hj : j < c.layers.toNat) :
    ((mg (table c) i j).known = true → ∃ e, Path c i e j ∧ wt e = (mg (table c) i j).most) ∧ (∀ e, Path c i e j → (mg (table c) i j).known = true ∧ (mg (table c) i j).most ≤ wt e) := by
  have h := tK_spec hv (pot_of hv hc) c.layers.toNat (Nat.le_refl _)
  have hl := lay_of hv
  exact ⟨h.real i j hi hj, fun e he => h.low i j e hi he (fun u hu => he.at_lt hl u (mids_sub u hu))⟩
theorem table_wN {c : Core} (hv : validate c = 0) (hc : clashes c = false) {i j : Nat} (hi : i < c.layers.toNat) (hj : j < c.layers.toNat) :
    (mg (table c) i j).known = kn (wN c i c.layers.toNat) j ∧ ((mg (table c) i j).known = true → (mg (table c) i j).most = sm (wN c i c.layers.toNat) j) := by
  have hl := lay_of hv
  have hn := noNeg_of hl (by rw [← clash_iff hv]; exact hc)
  obtain ⟨t1, t2⟩ := table_spec hv hc hi hj
  obtain ⟨w1, w2⟩ := wN_spec hl hi c.layers.toNat j
  have fwd : (mg (table c) i j).known = true → kn (wN c i c.layers.toNat) j = true ∧ sm (wN c i c.layers.toNat) j ≤ (mg (table c) i j).most := fun hk => by
    obtain ⟨e, he, hw⟩ := t1 hk
    obtain ⟨e', p1, p2, p3⟩ := Path.short hl hn hi _ e (Nat.le_refl _) he
    obtain ⟨q1, q2⟩ := w2 e' p1 (by omega)
    exact ⟨q1, by omega⟩
  have bwd : kn (wN c i c.layers.toNat) j = true → (mg (table c) i j).known = true ∧ (mg (table c) i j).most ≤ sm (wN c i c.layers.toNat) j := fun hk => by
    obtain ⟨e, he, _, hw⟩ := w1 hk
    obtain ⟨q1, q2⟩ := t2 e he
    exact ⟨q1, by omega⟩
  refine ⟨?_, fun hk => ?_⟩
  · cases h1 : (mg (table c) i j).known
    · cases h2 : kn (wN c i c.layers.toNat) j
      · rfl
      · have := (bwd h2).1; rw [h1] at this; cases this
    · exact (fwd h1).1.symm
  · have h1 := fwd hk
    have h2 := bwd h1.1
    omega
end Go.Core

namespace Go.Core
open Go.Tb

theorem layersE_two {c : Core} {a b : Int} (hv : validate c = 0) : layersE c [a, b] = if within a 0 (c.layers - 1) = true ∧ within b 0 (c.layers - 1) = true then 0 else 4 := by
  unfold layersE
  rw [if_pos hv]
  by_cases h1 : within a 0 (c.layers - 1) = true <;> by_cases h2 : within b 0 (c.layers - 1) = true <;> simp [h1, h2]
theorem layersE_bad {c : Core} {l : List Int} (hv : ¬ validate c = 0) : layersE c l = validate c := by unfold layersE; rw [if_neg hv]
theorem layered_bad {c : Core} {a b : Int} (hv : ¬ validate c = 0) : layered c a b = validate c := by unfold layered; rw [if_neg hv]
theorem layered_two {c : Core} {a b : Int} (hv : validate c = 0) : layered c a b = if within a 0 (c.layers - 1) = true ∧ within b 0 (c.layers - 1) = true then (if clashes c = true then 10 else 0) else 4 := by
  unfold layered
  rw [if_pos hv, clash_iff hv]
/-- The ways that both take. -/
theorem both_ways {c : Core} {a b : Int} : (¬ validate c = 0 ∧ layersE c [a, b] = validate c ∧ layered c a b = validate c) ∨
    (validate c = 0 ∧ ¬ (within a 0 (c.layers - 1) = true ∧ within b 0 (c.layers - 1) = true) ∧ layersE c [a, b] = 4 ∧ layered c a b = 4) ∨
    (validate c = 0 ∧ (within a 0 (c.layers - 1) = true ∧ within b 0 (c.layers - 1) = true) ∧ layersE c [a, b] = 0 ∧ clashes c = true ∧ layered c a b = 10) ∨
    (validate c = 0 ∧ (within a 0 (c.layers - 1) = true ∧ within b 0 (c.layers - 1) = true) ∧ layersE c [a, b] = 0 ∧ clashes c = false ∧ layered c a b = 0 ∧ a.toNat < c.layers.toNat ∧ b.toNat < c.layers.toNat) := by
  by_cases hv : validate c = 0
  · by_cases hw : within a 0 (c.layers - 1) = true ∧ within b 0 (c.layers - 1) = true
    · cases hc : clashes c
      · refine .inr (.inr (.inr ⟨hv, hw, by rw [layersE_two hv, if_pos hw], rfl, by rw [layered_two hv, if_pos hw, hc]; rfl, ?_⟩))
        have h1 := within_iff.1 hw.1
        have h2 := within_iff.1 hw.2
        omega
      · exact .inr (.inr (.inl ⟨hv, hw, by rw [layersE_two hv, if_pos hw], rfl, by rw [layered_two hv, if_pos hw, hc]; rfl⟩))
    · exact .inr (.inl ⟨hv, hw, by rw [layersE_two hv, if_neg hw], by rw [layered_two hv, if_neg hw]⟩)
  · exact .inl ⟨hv, layersE_bad hv, layered_bad hv⟩
theorem math_tightest (c : Core) (a b : Int) : tightest c a b = rtightest c a b := by
  unfold tightest rtightest
  rcases both_ways (c := c) (a := a) (b := b) with ⟨hv, h1, h2⟩ | ⟨hv, _, h1, h2⟩ | ⟨hv, _, h1, hc, h2⟩ | ⟨hv, _, h1, hc, h2, ha, hb⟩
  · rw [h1, h2, if_neg hv, if_neg hv]
  · rw [h1, h2]; simp
  · rw [h1, h2]; simp [hc]
  · obtain ⟨k1, k2⟩ := table_wN hv hc ha hb
    rw [h1, h2, gb_kn, gi_sm, ← k1]
    simp only [hc]
    by_cases hk : (mg (table c) a.toNat b.toNat).known = true
    · simp [hk, k2 hk]
    · simp [hk]
theorem math_fixed (c : Core) (a b : Int) : fixed c a b = rfixed c a b := by
  unfold fixed rfixed fixedM
  rcases both_ways (c := c) (a := a) (b := b) with ⟨hv, h1, h2⟩ | ⟨hv, _, h1, h2⟩ | ⟨hv, _, h1, hc, h2⟩ | ⟨hv, _, h1, hc, h2, ha, hb⟩
  · rw [h1, h2, if_neg hv, if_neg hv]
  · rw [h1, h2]; simp
  · rw [h1, h2]; simp [hc]
  · obtain ⟨k1, k2⟩ := table_wN hv hc ha hb
    obtain ⟨k3, k4⟩ := table_wN hv hc hb ha
    rw [h1, h2, gb_kn, gi_sm, gb_kn, gi_sm, ← k1, ← k3]
    simp only [hc]
    by_cases hk : (mg (table c) a.toNat b.toNat).known = true
    · by_cases hk' : (mg (table c) b.toNat a.toNat).known = true
      · simp [hk, hk', k2 hk, k4 hk']
      · simp [hk']
    · simp [hk]
theorem right_within {x : Bound} {n : Int} (h : right x n = true) : within x.a 0 (n - 1) = true ∧ within x.b 0 (n - 1) = true := by
  simp only [right, Bool.and_eq_true] at h
  exact ⟨h.1.1.1, h.1.1.2⟩
theorem math_follows (c : Core) (x : Bound) : follows c x = rfollows c x := by
  have hT := math_tightest c x.a x.b
  unfold follows rfollows
  rcases both_ways (c := c) (a := x.a) (b := x.b) with ⟨hv, h1, h2⟩ | ⟨hv, hw, h1, h2⟩ | ⟨hv, hw, h1, hc, h2⟩ | ⟨hv, hw, h1, hc, h2, ha, hb⟩
  · rw [h1, if_neg hv, if_neg hv]
  · rw [h1, if_neg hw, if_pos hv]; simp
  · rw [h1, if_pos hw, if_pos hv, ← hT]
    unfold tightest
    rw [h1]
    simp [hc]
  · rw [h1, if_pos hw, if_pos hv, ← hT]
    unfold tightest followsM
    rw [h1]
    simp only [hc]
    by_cases hk : (mg (table c) x.a.toNat x.b.toNat).known = true
    · simp [hk]
    · simp [hk]
/-- Two layers. -/
structure Two where
  a : Int
  b : Int
/-- The document's own example. -/
def exC : Core := ⟨3, [⟨0, 1, 10⟩, ⟨1, 2, 5⟩, ⟨0, 2, 20⟩]⟩
theorem ex_tight : tightest exC 0 2 = (15, true, 0) := by decide +kernel
end Go.Core

namespace Go.Core
open Go.Tb

structure Mark where
  known : Bool
  date : Int
def encMk (x : Mark) : List Value := [.bool x.known, .int .i64 x.date]
def mkL (t : Tight) : Mark := ⟨t.known, if t.known = true then t.most else 0⟩
def mkE (t : Tight) : Mark := ⟨t.known, -(if t.known = true then t.most else 0)⟩
def latest (c : Core) (a : Int) : List Mark × Int :=
  if layersE c [a] = 0 then
    if clashes c = true then ([], 10) else ((List.range c.layers.toNat).map fun b => mkL (mg (table c) a.toNat b), 0)
  else ([], layersE c [a])
def earliest (c : Core) (a : Int) : List Mark × Int :=
  if layersE c [a] = 0 then
    if clashes c = true then ([], 10) else ((List.range c.layers.toNat).map fun b => mkE (mg (table c) b a.toNat), 0)
  else ([], layersE c [a])
def rmL (c : Core) (a b : Nat) : Mark := ⟨kn (wN c a c.layers.toNat) b, if kn (wN c a c.layers.toNat) b = true then sm (wN c a c.layers.toNat) b else 0⟩
def rmE (c : Core) (a b : Nat) : Mark := ⟨kn (wN c b c.layers.toNat) a, if kn (wN c b c.layers.toNat) a = true then -sm (wN c b c.layers.toNat) a else 0⟩
def rlatest (c : Core) (a : Int) : List Mark × Int := if layered c a a = 0 then ((List.range c.layers.toNat).map (rmL c a.toNat), 0) else ([], layered c a a)
def rearliest (c : Core) (a : Int) : List Mark × Int := if layered c a a = 0 then ((List.range c.layers.toNat).map (rmE c a.toNat), 0) else ([], layered c a a)

theorem layersE_one {c : Core} {a : Int} : layersE c [a] = layersE c [a, a] := by
  unfold layersE
  by_cases hv : validate c = 0
  · rw [if_pos hv, if_pos hv]
    cases h : within a 0 (c.layers - 1) <;> simp [h]
  · rw [if_neg hv, if_neg hv]
theorem math_marks (c : Core) (a : Int) : latest c a = rlatest c a ∧ earliest c a = rearliest c a := by
  unfold latest rlatest earliest rearliest
  rw [layersE_one]
  rcases both_ways (c := c) (a := a) (b := a) with ⟨hv, h1, h2⟩ | ⟨hv, _, h1, h2⟩ | ⟨hv, _, h1, hc, h2⟩ | ⟨hv, _, h1, hc, h2, ha, _⟩
  · rw [h1, h2, if_neg hv, if_neg hv, if_neg hv, if_neg hv]; exact ⟨rfl, rfl⟩
  · rw [h1, h2]; simp
  · rw [h1, h2]; simp [hc]
  · rw [h1, h2]
    simp only [hc, if_true, Bool.false_eq_true, if_false]
    refine ⟨?_, ?_⟩
    · congr 1
      refine List.map_congr_left fun b hb => ?_
      obtain ⟨k1, k2⟩ := table_wN hv hc ha (by simpa using hb : b < c.layers.toNat)
      unfold mkL rmL
      rw [← k1]
      cases hk : (mg (table c) a.toNat b).known
      · simp
      · simp [k2 hk]
    · congr 1
      refine List.map_congr_left fun b hb => ?_
      obtain ⟨k1, k2⟩ := table_wN hv hc (by simpa using hb : b < c.layers.toNat) ha
      unfold mkE rmE
      rw [← k1]
      cases hk : (mg (table c) b a.toNat).known
      · simp
      · simp [k2 hk]
theorem kn_of {s : WS} {v : Nat} {y : Bool} (h : s.2[v]? = some y) : kn s v = y := by simp [kn, List.getD, h]
theorem sm_of {s : WS} {v : Nat} {y : Int} (h : s.1[v]? = some y) : sm s v = y := by simp [sm, List.getD, h]
end Go.Core

set_option linter.unusedVariables false
namespace Go.D3
open Go.Tb Go.Core




def slices_Repeat_int (a0 : List Int) (a1 : Int) : Option (List Int) :=
  match a0 with
  | [v] => gd (1 ≤ a1 ∧ a1 ≤ 8) <| some (List.replicate a1.toNat v)
  | _ => none
end Go.D3

set_option linter.unusedVariables false
set_option linter.unusedSimpArgs false
namespace Go.D3
open Go.Tb Go.Proofs Go.RowKit Go.Core



theorem slices_Repeat_int_ok {a0 : List Int} {a1 : Int} {A_a0 : Option Addr} {c_a0 : Nat} {w : World} {res : List Int} (h_a0 : Sl w A_a0 c_a0 1 (a0.map encN)) (F : slices_Repeat_int a0 a1 = some res) : Calls Try.prog 87 #[.slice A_a0 a0.length c_a0, .int .i64 a1] w (fun e w' => ∃ (A0 : Option Addr) (c0 : Nat), e = .returned (.slice A0 res.length c0) ∧ Hp w w' [.own A0 c0 3 1 (List.map encN res)]) := by
  unfold slices_Repeat_int at F
  split at F
  · rename_i v
    obtain ⟨hc, F⟩ := gd_some F
    cases F
    exact Go.Core.slices_Repeat (x := [v]) h_a0 rfl hc
  · cases F

end Go.D3

set_option linter.unusedVariables false
namespace Go.D3
open Go.Tb Go.Core


def encBound (x : Bound) : List Value := [.int .i64 x.a, .int .i64 x.b, .int .i64 x.most]

def law03_Long (a0 : Core) : Option Bool :=
  some (decide ((100 : Int) < ((a0.bounds.length : Int))))
def core_within (a0 : Int) (a1 : Int) (a2 : Int) : Option Bool :=
  if a1 ≤ a0 then
    some (decide (a0 ≤ a2))
  else
    some false
def core_right (a0 : Bound) (a1 : Int) : Option Bool :=
  gd (InR (a1 - 1)) <|
  bnd (core_within a0.a ((0 : Int)) (a1 - 1)) fun r1 =>
  if r1 = true then
    gd (InR (a1 - 1)) <|
    bnd (core_within a0.b ((0 : Int)) (a1 - 1)) fun r2 =>
    if r2 = true then
      if a0.a = a0.b then
        some false
      else
        bnd (core_within a0.most ((-10000 : Int)) ((10000 : Int))) fun r3 =>
        some r3
    else
      some false
  else
    some false
def core_Validate_k1 : Option Int :=
  some ((0 : Int))
def core_Validate_B1 (a0 : Core) (rec1 : Int → Option Int) (t16_1 : Int) : Option Int :=
  if t16_1 < ((a0.bounds.length : Int)) then
    ix a0.bounds t16_1 fun x1 =>
    bnd (core_right x1 a0.layers) fun r1 =>
    if r1 = true then
      gd (InR (t16_1 + 1)) <|
      rec1 ((t16_1 + 1))
    else
      some ((1 : Int))
  else
    core_Validate_k1
def core_Validate_L1 (a0 : Core) : Nat → Int → Option Int
  | 0, _ => none
  | n_ + 1, t16_1 => core_Validate_B1 a0 (core_Validate_L1 a0 n_) t16_1
theorem core_Validate_L1_s {a0 : Core} {m_ : Nat} {t16_1 : Int} {res : Int} (h : core_Validate_L1 a0 m_ t16_1 = some res) : ∃ k, m_ = k + 1 ∧ core_Validate_B1 a0 (core_Validate_L1 a0 k) t16_1 = some res := by
  cases m_ with
  | zero => cases h
  | succ k => exact ⟨k, rfl, h⟩
def core_Validate (a0 : Core) : Option Int :=
  bnd (core_within a0.layers ((1 : Int)) ((8 : Int))) fun r2 =>
  if r2 = true then
    if (20 : Int) < ((a0.bounds.length : Int)) then
      some ((3 : Int))
    else
      core_Validate_L1 a0 FU (((0 : Int)))
  else
    some ((1 : Int))
def core_layers_k1 : Option Int :=
  some ((0 : Int))
def core_layers_B1 (a0 : Core) (a1 : List Int) (rec1 : Int → Option Int) (t15_1 : Int) : Option Int :=
  if t15_1 < ((a1.length : Int)) then
    ix a1 t15_1 fun x1 =>
    gd (InR (a0.layers - 1)) <|
    bnd (core_within x1 ((0 : Int)) (a0.layers - 1)) fun r1 =>
    if r1 = true then
      gd (InR (t15_1 + 1)) <|
      rec1 ((t15_1 + 1))
    else
      some ((4 : Int))
  else
    core_layers_k1
def core_layers_L1 (a0 : Core) (a1 : List Int) : Nat → Int → Option Int
  | 0, _ => none
  | n_ + 1, t15_1 => core_layers_B1 a0 a1 (core_layers_L1 a0 a1 n_) t15_1
theorem core_layers_L1_s {a0 : Core} {a1 : List Int} {m_ : Nat} {t15_1 : Int} {res : Int} (h : core_layers_L1 a0 a1 m_ t15_1 = some res) : ∃ k, m_ = k + 1 ∧ core_layers_B1 a0 a1 (core_layers_L1 a0 a1 k) t15_1 = some res := by
  cases m_ with
  | zero => cases h
  | succ k => exact ⟨k, rfl, h⟩
def core_layers (a0 : Core) (a1 : List Int) : Option Int :=
  bnd (core_Validate a0) fun r2 =>
  if r2 = 0 then
    core_layers_L1 a0 a1 FU (((0 : Int)))
  else
    some r2
def core_relax_k1 (t4_1 : Int) (l1 : List Int) (l2 : List Int) : Option ((List Int) × (List Int) × Int) :=
  some (l1, l2, t4_1)
def core_relax_k2 (t16_1 : Int) (rec1 : Int → Int → (List Int) → (List Int) → Option ((List Int) × (List Int) × Int)) (t4_2 : Int) (l3 : List Int) (l4 : List Int) : Option ((List Int) × (List Int) × Int) :=
  gd (InR (t16_1 + 1)) <|
  rec1 t4_2 ((t16_1 + 1)) l3 l4
def core_relax_k3 (t21_1 : Int) (rec2 : Int → Int → (List Int) → (List Int) → Option ((List Int) × (List Int) × Int)) (t4_3 : Int) (l5 : List Int) (l6 : List Int) : Option ((List Int) × (List Int) × Int) :=
  gd (InR (t21_1 + 1)) <|
  rec2 t4_3 ((t21_1 + 1)) l5 l6
def core_relax_B1 (a0 : Core) (t16_1 : Int) (rec1 : Int → Int → (List Int) → (List Int) → Option ((List Int) × (List Int) × Int)) (rec2 : Int → Int → (List Int) → (List Int) → Option ((List Int) × (List Int) × Int)) (t4_4 : Int) (t21_1 : Int) (l7 : List Int) (l8 : List Int) : Option ((List Int) × (List Int) × Int) :=
  if t21_1 < ((a0.bounds.length : Int)) then
    ix a0.bounds t21_1 fun x1 =>
    ix l7 x1.a fun x2 =>
    gd (InR (x2 + x1.most)) <|
    ix l7 x1.b fun x3 =>
    if (x2 + x1.most) < x3 then
      ix l7 x1.a fun x4 =>
      gd (InR (x4 + x1.most)) <|
      ix l7 x1.b fun x5 =>
      ix l8 x1.b fun x6 =>
      core_relax_k3 t21_1 rec2 x1.b (((l7.set (Int.toNat x1.b) (x4 + x1.most)))) (((l8.set (Int.toNat x1.b) t21_1)))
    else
      core_relax_k3 t21_1 rec2 t4_4 l7 l8
  else
    core_relax_k2 t16_1 rec1 t4_4 l7 l8
def core_relax_L1 (a0 : Core) (t16_1 : Int) (rec1 : Int → Int → (List Int) → (List Int) → Option ((List Int) × (List Int) × Int)) : Nat → Int → Int → (List Int) → (List Int) → Option ((List Int) × (List Int) × Int)
  | 0, _, _, _, _ => none
  | n_ + 1, t4_4, t21_1, l7, l8 => core_relax_B1 a0 t16_1 rec1 (core_relax_L1 a0 t16_1 rec1 n_) t4_4 t21_1 l7 l8
theorem core_relax_L1_s {a0 : Core} {t16_1 : Int} {rec1 : Int → Int → (List Int) → (List Int) → Option ((List Int) × (List Int) × Int)} {m_ : Nat} {t4_4 : Int} {t21_1 : Int} {l7 : List Int} {l8 : List Int} {res : (List Int) × (List Int) × Int} (h : core_relax_L1 a0 t16_1 rec1 m_ t4_4 t21_1 l7 l8 = some res) : ∃ k, m_ = k + 1 ∧ core_relax_B1 a0 t16_1 rec1 (core_relax_L1 a0 t16_1 rec1 k) t4_4 t21_1 l7 l8 = some res := by
  cases m_ with
  | zero => cases h
  | succ k => exact ⟨k, rfl, h⟩
def core_relax_B2 (a0 : Core) (rec1 : Int → Int → (List Int) → (List Int) → Option ((List Int) × (List Int) × Int)) (t4_5 : Int) (t16_1 : Int) (l9 : List Int) (l10 : List Int) : Option ((List Int) × (List Int) × Int) :=
  if t16_1 < a0.layers then
    core_relax_L1 a0 t16_1 rec1 FU (((-1 : Int))) (((0 : Int))) l9 l10
  else
    core_relax_k1 t4_5 l9 l10
def core_relax_L2 (a0 : Core) : Nat → Int → Int → (List Int) → (List Int) → Option ((List Int) × (List Int) × Int)
  | 0, _, _, _, _ => none
  | n_ + 1, t4_5, t16_1, l9, l10 => core_relax_B2 a0 (core_relax_L2 a0 n_) t4_5 t16_1 l9 l10
theorem core_relax_L2_s {a0 : Core} {m_ : Nat} {t4_5 : Int} {t16_1 : Int} {l9 : List Int} {l10 : List Int} {res : (List Int) × (List Int) × Int} (h : core_relax_L2 a0 m_ t4_5 t16_1 l9 l10 = some res) : ∃ k, m_ = k + 1 ∧ core_relax_B2 a0 (core_relax_L2 a0 k) t4_5 t16_1 l9 l10 = some res := by
  cases m_ with
  | zero => cases h
  | succ k => exact ⟨k, rfl, h⟩
def core_relax (a0 : Core) : Option ((List Int) × (List Int) × Int) :=
  gd (0 ≤ a0.layers ∧ a0.layers ≤ 1000000) <|
  bnd (slices_Repeat_int (([-1] : List Int)) a0.layers) fun r1 =>
  core_relax_L2 a0 FU (((0 : Int))) (((0 : Int))) (((List.replicate (Int.toNat a0.layers) (0 : Int)))) r1
end Go.D3

set_option linter.unusedVariables false
set_option linter.unusedSimpArgs false
namespace Go.D3
open Go.Tb Go.Proofs Go.RowKit Go.Core

theorem Tc36 : callable Try.prog 36 = true := by kernel_rfl
theorem Tc59 : callable Try.prog 59 = true := by kernel_rfl
theorem Tc70 : callable Try.prog 70 = true := by kernel_rfl
theorem Tc87 : callable Try.prog 87 = true := by kernel_rfl
theorem Tf24_0 : tyF Try.prog 24 0 = some 0 := by kernel_rfl
theorem Tf24_1 : tyF Try.prog 24 1 = some 1 := by kernel_rfl
theorem Tf26_0 : tyF Try.prog 26 0 = some 0 := by kernel_rfl
theorem Tf26_1 : tyF Try.prog 26 1 = some 1 := by kernel_rfl
theorem Tf26_2 : tyF Try.prog 26 2 = some 2 := by kernel_rfl
theorem Tk22 : tyK Try.prog 22 = some (false, 1) := by kernel_rfl
theorem Tk24 : tyK Try.prog 24 = some (true, 2) := by kernel_rfl
theorem Tk26 : tyK Try.prog 26 = some (true, 3) := by kernel_rfl
theorem Tk3 : tyK Try.prog 3 = some (false, 1) := by kernel_rfl
theorem mixed : Try.prog.follows .mixedOrders = true := by kernel_rfl
theorem Ts22 : tyS Try.prog 22 = some (26, 3, 24, [.int .i64 0, .int .i64 0, .int .i64 0]) := by kernel_rfl
theorem Ts43 : tyS Try.prog 43 = some (3, 1, 8, [.int .i64 0]) := by kernel_rfl
theorem Tu119 : Try.prog.underlying 119 = some (.int .u32) := by kernel_rfl
theorem Tu119s : (Try.prog.underlying 119).isSome = true := by kernel_rfl
theorem Tu122 : Try.prog.underlying 122 = some (.int .u64) := by kernel_rfl
theorem Tu122s : (Try.prog.underlying 122).isSome = true := by kernel_rfl
theorem Tz26 : tyZ Try.prog 26 = some (.agg #[.int .i64 0, .int .i64 0, .int .i64 0]) := by kernel_rfl

set_option maxRecDepth 20000 in
set_option maxHeartbeats 1000000 in
theorem law03_Long_ok {a0 : Core} {A_a0_bounds : Option Addr} {c_a0_bounds : Nat} {w : World} {res : Bool} (h_a0_bounds : Sl w A_a0_bounds c_a0_bounds 3 (a0.bounds.map encBound)) (F : law03_Long a0 = some res) : Calls Try.prog 17 #[.agg #[.int .i64 a0.layers, .slice A_a0_bounds a0.bounds.length c_a0_bounds]] w (Rt w (.bool res)) := by
  refine calls_of_cw (args := [.agg #[.int .i64 a0.layers, .slice A_a0_bounds a0.bounds.length c_a0_bounds]]) Try.func17 rfl rfl rfl rfl ?_
  have H := Hp.start w
  have R0 := H.ext
  unfold law03_Long at F
  refine CW.seq fun K1 hK1 => ?_
  refine CW.region ?_
  refine LW.go rfl rfl (OW.box rfl fun b1 w1 N1 => ?_)
  replace H := H.new N1 N1.blk
  replace R0 := H.ext
  refine LW.pure rfl rfl (RV.assign rfl) ?_
  refine LW.nil (hK1 _ _ ?_)
  refine CW.seq fun K2 hK2 => ?_
  refine CW.region ?_
  refine LW.pure rfl rfl (RV.fieldAddr Tf24_1 rfl) ?_
  refine LW.pure rfl rfl (RV.load1 Tk22 rfl ((H.blk 0 rfl).cells.off 1) rfl) ?_
  refine LW.pure rfl rfl (RV.len Ts22 rfl) ?_
  refine LW.pure rfl rfl (RV.gtr rfl rfl) ?_
  refine LW.pure rfl rfl (RV.assign rfl) ?_
  refine LW.nil (hK2 _ _ ?_)
  refine CW.ret ?_
  obtain rfl := Option.some.inj F
  refine ⟨_, (ResOK.one rfl), ?_⟩
  refine ⟨(by first | rfl | simp), R0⟩

set_option maxRecDepth 20000 in
set_option maxHeartbeats 1000000 in
theorem core_within_ok {a0 : Int} {a1 : Int} {a2 : Int} {w : World} {res : Bool} (F : core_within a0 a1 a2 = some res) : Calls Try.prog 70 #[.int .i64 a0, .int .i64 a1, .int .i64 a2] w (Rt w (.bool res)) := by
  refine calls_of_cw (args := [.int .i64 a0, .int .i64 a1, .int .i64 a2]) Try.func70 rfl rfl rfl rfl ?_
  have H := Hp.start w
  have R0 := H.ext
  unfold core_within at F
  refine CW.seq fun K1 hK1 => ?_
  refine CW.region ?_
  refine LW.pure rfl rfl (RV.assign rfl) ?_
  refine LW.nil (hK1 _ _ ?_)
  refine CW.seq fun K2 hK2 => ?_
  by_cases hp1 : a1 ≤ a0
  ·
    replace F := ite_y hp1 F
    have hq1 := dec_t hp1
    refine CW.region ?_
    refine LW.pure rfl rfl (RV.move rfl) ?_
    refine LW.pure rfl rfl (RV.move rfl) ?_
    refine LW.pure rfl rfl (RV.geq rfl rfl) ?_
    refine LW.pure rfl rfl (RV.move rfl) ?_
    refine LW.pureYB rfl rfl rfl rfl hq1 (RV.move rfl) ?_
    refine LW.pureYB rfl rfl rfl rfl hq1 (RV.move rfl) ?_
    refine LW.pureYB rfl rfl rfl rfl hq1 (RV.leq rfl rfl) ?_
    refine LW.pure rfl rfl (RV.pickTB rfl hq1 rfl) ?_
    refine LW.pure rfl rfl (RV.assign rfl) ?_
    refine LW.nil (hK2 _ _ ?_)
    refine CW.ret ?_
    obtain rfl := Option.some.inj F
    refine ⟨_, (ResOK.one rfl), ?_⟩
    refine ⟨(by first | rfl | simp), R0⟩
  ·
    replace F := ite_n hp1 F
    have hq1 := dec_f hp1
    refine CW.region ?_
    refine LW.pure rfl rfl (RV.move rfl) ?_
    refine LW.pure rfl rfl (RV.move rfl) ?_
    refine LW.pure rfl rfl (RV.geq rfl rfl) ?_
    refine LW.pure rfl rfl (RV.move rfl) ?_
    refine LW.noB rfl rfl rfl rfl (ne_beq (v := false) hq1 rfl) ?_
    refine LW.noB rfl rfl rfl rfl (ne_beq (v := false) hq1 rfl) ?_
    refine LW.noB rfl rfl rfl rfl (ne_beq (v := false) hq1 rfl) ?_
    refine LW.pure rfl rfl (RV.pickFB rfl hq1 rfl) ?_
    refine LW.pure rfl rfl (RV.assign rfl) ?_
    refine LW.nil (hK2 _ _ ?_)
    refine CW.ret ?_
    obtain rfl := Option.some.inj F
    refine ⟨_, (ResOK.one rfl), ?_⟩
    refine ⟨(by first | rfl | simp), R0⟩

set_option maxRecDepth 20000 in
set_option maxHeartbeats 1000000 in
theorem core_right_ok {a0 : Bound} {a1 : Int} {w : World} {res : Bool} (F : core_right a0 a1 = some res) : Calls Try.prog 59 #[.agg #[.int .i64 a0.a, .int .i64 a0.b, .int .i64 a0.most], .int .i64 a1] w (Rt w (.bool res)) := by
  refine calls_of_cw (args := [.agg #[.int .i64 a0.a, .int .i64 a0.b, .int .i64 a0.most], .int .i64 a1]) Try.func59 rfl rfl rfl rfl ?_
  have H := Hp.start w
  have R0 := H.ext
  unfold core_right at F
  refine CW.seq fun K1 hK1 => ?_
  refine CW.region ?_
  refine LW.go rfl rfl (OW.box rfl fun b1 w1 N1 => ?_)
  replace H := H.new N1 N1.blk
  replace R0 := H.ext
  refine LW.pure rfl rfl (RV.assign rfl) ?_
  refine LW.nil (hK1 _ _ ?_)
  refine CW.seq fun K2 hK2 => ?_
  obtain ⟨hg1, F⟩ := gd_some F
  obtain ⟨r1, hr1, F⟩ := bnd_some F
  by_cases hp1 : r1 = true
  ·
    replace F := ite_y hp1 F
    have hq1 : r1 = true := hp1
    obtain ⟨hg2, F⟩ := gd_some F
    obtain ⟨r2, hr2, F⟩ := bnd_some F
    by_cases hp2 : r2 = true
    ·
      replace F := ite_y hp2 F
      have hq2 : r2 = true := hp2
      by_cases hp3 : a0.a = a0.b
      ·
        replace F := ite_y hp3 F
        have hq3 := dec_t hp3
        refine CW.region ?_
        refine LW.pure rfl rfl (RV.fieldAddr Tf26_0 rfl) ?_
        refine LW.pure rfl rfl (RV.load1 Tk3 rfl ((H.blk 0 rfl).cells.off 0) rfl) ?_
        refine LW.pure rfl rfl (RV.move rfl) ?_
        refine LW.pure rfl rfl (RV.sub rfl rfl hg1) ?_
        refine LW.go rfl rfl (OW.call Tc70 rfl (core_within_ok (a0 := a0.a) (a1 := (0 : Int)) (a2 := a1 - 1) hr1) ?_)
        rintro _ w2 ⟨rfl, E1⟩
        refine ⟨_, rfl, ?_⟩
        replace H := H.grow E1
        replace R0 := H.ext
        refine LW.pure rfl rfl (RV.move rfl) ?_
        refine LW.pureYB rfl rfl rfl rfl hq1 (RV.fieldAddr Tf26_1 rfl) ?_
        refine LW.pureYB rfl rfl rfl rfl hq1 (RV.load1 Tk3 rfl ((H.blk 0 rfl).cells.off 1) rfl) ?_
        refine LW.pureYB rfl rfl rfl rfl hq1 (RV.move rfl) ?_
        refine LW.pureYB rfl rfl rfl rfl hq1 (RV.sub rfl rfl hg2) ?_
        refine LW.yesB rfl rfl rfl rfl hq1 (OW.call Tc70 rfl (core_within_ok (a0 := a0.b) (a1 := (0 : Int)) (a2 := a1 - 1) hr2) ?_)
        rintro _ w3 ⟨rfl, E2⟩
        refine ⟨_, rfl, ?_⟩
        replace H := H.grow E2
        replace R0 := H.ext
        refine LW.pure rfl rfl (RV.pickTB rfl hq1 rfl) ?_
        refine LW.pure rfl rfl (RV.move rfl) ?_
        refine LW.pureYB rfl rfl rfl rfl hq2 (RV.fieldAddr Tf26_0 rfl) ?_
        refine LW.pureYB rfl rfl rfl rfl hq2 (RV.load1 Tk3 rfl ((H.blk 0 rfl).cells.off 0) rfl) ?_
        refine LW.pureYB rfl rfl rfl rfl hq2 (RV.fieldAddr Tf26_1 rfl) ?_
        refine LW.pureYB rfl rfl rfl rfl hq2 (RV.load1 Tk3 rfl ((H.blk 0 rfl).cells.off 1) rfl) ?_
        refine LW.pureYB rfl rfl rfl rfl hq2 (RV.nei rfl rfl) ?_
        refine LW.pure rfl rfl (RV.pickTB rfl hq2 rfl) ?_
        refine LW.pure rfl rfl (RV.move rfl) ?_
        refine LW.noB rfl rfl rfl rfl (ne_beq (v := false) (not_f hq3) rfl) ?_
        refine LW.noB rfl rfl rfl rfl (ne_beq (v := false) (not_f hq3) rfl) ?_
        refine LW.noB rfl rfl rfl rfl (ne_beq (v := false) (not_f hq3) rfl) ?_
        refine LW.pure rfl rfl (RV.pickFB rfl (not_f hq3) rfl) ?_
        refine LW.pure rfl rfl (RV.assign rfl) ?_
        refine LW.nil (hK2 _ _ ?_)
        refine CW.ret ?_
        obtain rfl := Option.some.inj F
        refine ⟨_, (ResOK.one rfl), ?_⟩
        refine ⟨(by first | rfl | simp), R0⟩
      ·
        replace F := ite_n hp3 F
        have hq3 := dec_f hp3
        obtain ⟨r3, hr3, F⟩ := bnd_some F
        refine CW.region ?_
        refine LW.pure rfl rfl (RV.fieldAddr Tf26_0 rfl) ?_
        refine LW.pure rfl rfl (RV.load1 Tk3 rfl ((H.blk 0 rfl).cells.off 0) rfl) ?_
        refine LW.pure rfl rfl (RV.move rfl) ?_
        refine LW.pure rfl rfl (RV.sub rfl rfl hg1) ?_
        refine LW.go rfl rfl (OW.call Tc70 rfl (core_within_ok (a0 := a0.a) (a1 := (0 : Int)) (a2 := a1 - 1) hr1) ?_)
        rintro _ w4 ⟨rfl, E3⟩
        refine ⟨_, rfl, ?_⟩
        replace H := H.grow E3
        replace R0 := H.ext
        refine LW.pure rfl rfl (RV.move rfl) ?_
        refine LW.pureYB rfl rfl rfl rfl hq1 (RV.fieldAddr Tf26_1 rfl) ?_
        refine LW.pureYB rfl rfl rfl rfl hq1 (RV.load1 Tk3 rfl ((H.blk 0 rfl).cells.off 1) rfl) ?_
        refine LW.pureYB rfl rfl rfl rfl hq1 (RV.move rfl) ?_
        refine LW.pureYB rfl rfl rfl rfl hq1 (RV.sub rfl rfl hg2) ?_
        refine LW.yesB rfl rfl rfl rfl hq1 (OW.call Tc70 rfl (core_within_ok (a0 := a0.b) (a1 := (0 : Int)) (a2 := a1 - 1) hr2) ?_)
        rintro _ w5 ⟨rfl, E4⟩
        refine ⟨_, rfl, ?_⟩
        replace H := H.grow E4
        replace R0 := H.ext
        refine LW.pure rfl rfl (RV.pickTB rfl hq1 rfl) ?_
        refine LW.pure rfl rfl (RV.move rfl) ?_
        refine LW.pureYB rfl rfl rfl rfl hq2 (RV.fieldAddr Tf26_0 rfl) ?_
        refine LW.pureYB rfl rfl rfl rfl hq2 (RV.load1 Tk3 rfl ((H.blk 0 rfl).cells.off 0) rfl) ?_
        refine LW.pureYB rfl rfl rfl rfl hq2 (RV.fieldAddr Tf26_1 rfl) ?_
        refine LW.pureYB rfl rfl rfl rfl hq2 (RV.load1 Tk3 rfl ((H.blk 0 rfl).cells.off 1) rfl) ?_
        refine LW.pureYB rfl rfl rfl rfl hq2 (RV.nei rfl rfl) ?_
        refine LW.pure rfl rfl (RV.pickTB rfl hq2 rfl) ?_
        refine LW.pure rfl rfl (RV.move rfl) ?_
        refine LW.pureYB rfl rfl rfl rfl (not_t hq3) (RV.fieldAddr Tf26_2 rfl) ?_
        refine LW.pureYB rfl rfl rfl rfl (not_t hq3) (RV.load1 Tk3 rfl ((H.blk 0 rfl).cells.off 2) rfl) ?_
        refine LW.yesB rfl rfl rfl rfl (not_t hq3) (OW.call Tc70 rfl (core_within_ok (a0 := a0.most) (a1 := (-10000 : Int)) (a2 := (10000 : Int)) hr3) ?_)
        rintro _ w6 ⟨rfl, E5⟩
        refine ⟨_, rfl, ?_⟩
        replace H := H.grow E5
        replace R0 := H.ext
        refine LW.pure rfl rfl (RV.pickTB rfl (not_t hq3) rfl) ?_
        refine LW.pure rfl rfl (RV.assign rfl) ?_
        refine LW.nil (hK2 _ _ ?_)
        refine CW.ret ?_
        obtain rfl := Option.some.inj F
        refine ⟨_, (ResOK.one rfl), ?_⟩
        refine ⟨(by first | rfl | simp), R0⟩
    ·
      replace F := ite_n hp2 F
      have hq2 : r2 = false := raw_f hp2
      refine CW.region ?_
      refine LW.pure rfl rfl (RV.fieldAddr Tf26_0 rfl) ?_
      refine LW.pure rfl rfl (RV.load1 Tk3 rfl ((H.blk 0 rfl).cells.off 0) rfl) ?_
      refine LW.pure rfl rfl (RV.move rfl) ?_
      refine LW.pure rfl rfl (RV.sub rfl rfl hg1) ?_
      refine LW.go rfl rfl (OW.call Tc70 rfl (core_within_ok (a0 := a0.a) (a1 := (0 : Int)) (a2 := a1 - 1) hr1) ?_)
      rintro _ w7 ⟨rfl, E6⟩
      refine ⟨_, rfl, ?_⟩
      replace H := H.grow E6
      replace R0 := H.ext
      refine LW.pure rfl rfl (RV.move rfl) ?_
      refine LW.pureYB rfl rfl rfl rfl hq1 (RV.fieldAddr Tf26_1 rfl) ?_
      refine LW.pureYB rfl rfl rfl rfl hq1 (RV.load1 Tk3 rfl ((H.blk 0 rfl).cells.off 1) rfl) ?_
      refine LW.pureYB rfl rfl rfl rfl hq1 (RV.move rfl) ?_
      refine LW.pureYB rfl rfl rfl rfl hq1 (RV.sub rfl rfl hg2) ?_
      refine LW.yesB rfl rfl rfl rfl hq1 (OW.call Tc70 rfl (core_within_ok (a0 := a0.b) (a1 := (0 : Int)) (a2 := a1 - 1) hr2) ?_)
      rintro _ w8 ⟨rfl, E7⟩
      refine ⟨_, rfl, ?_⟩
      replace H := H.grow E7
      replace R0 := H.ext
      refine LW.pure rfl rfl (RV.pickTB rfl hq1 rfl) ?_
      refine LW.pure rfl rfl (RV.move rfl) ?_
      refine LW.noB rfl rfl rfl rfl (ne_beq (v := false) hq2 rfl) ?_
      refine LW.noB rfl rfl rfl rfl (ne_beq (v := false) hq2 rfl) ?_
      refine LW.noB rfl rfl rfl rfl (ne_beq (v := false) hq2 rfl) ?_
      refine LW.noB rfl rfl rfl rfl (ne_beq (v := false) hq2 rfl) ?_
      refine LW.noB rfl rfl rfl rfl (ne_beq (v := false) hq2 rfl) ?_
      refine LW.pure rfl rfl (RV.pickFB rfl hq2 rfl) ?_
      refine LW.pure rfl rfl (RV.move rfl) ?_
      refine LW.noB rfl rfl rfl rfl (ne_beq (v := false) rfl rfl) ?_
      refine LW.noB rfl rfl rfl rfl (ne_beq (v := false) rfl rfl) ?_
      refine LW.noB rfl rfl rfl rfl (ne_beq (v := false) rfl rfl) ?_
      refine LW.pure rfl rfl (RV.pickFB rfl rfl rfl) ?_
      refine LW.pure rfl rfl (RV.assign rfl) ?_
      refine LW.nil (hK2 _ _ ?_)
      refine CW.ret ?_
      obtain rfl := Option.some.inj F
      refine ⟨_, (ResOK.one rfl), ?_⟩
      refine ⟨(by first | rfl | simp), R0⟩
  ·
    replace F := ite_n hp1 F
    have hq1 : r1 = false := raw_f hp1
    refine CW.region ?_
    refine LW.pure rfl rfl (RV.fieldAddr Tf26_0 rfl) ?_
    refine LW.pure rfl rfl (RV.load1 Tk3 rfl ((H.blk 0 rfl).cells.off 0) rfl) ?_
    refine LW.pure rfl rfl (RV.move rfl) ?_
    refine LW.pure rfl rfl (RV.sub rfl rfl hg1) ?_
    refine LW.go rfl rfl (OW.call Tc70 rfl (core_within_ok (a0 := a0.a) (a1 := (0 : Int)) (a2 := a1 - 1) hr1) ?_)
    rintro _ w9 ⟨rfl, E8⟩
    refine ⟨_, rfl, ?_⟩
    replace H := H.grow E8
    replace R0 := H.ext
    refine LW.pure rfl rfl (RV.move rfl) ?_
    refine LW.noB rfl rfl rfl rfl (ne_beq (v := false) hq1 rfl) ?_
    refine LW.noB rfl rfl rfl rfl (ne_beq (v := false) hq1 rfl) ?_
    refine LW.noB rfl rfl rfl rfl (ne_beq (v := false) hq1 rfl) ?_
    refine LW.noB rfl rfl rfl rfl (ne_beq (v := false) hq1 rfl) ?_
    refine LW.noB rfl rfl rfl rfl (ne_beq (v := false) hq1 rfl) ?_
    refine LW.pure rfl rfl (RV.pickFB rfl hq1 rfl) ?_
    refine LW.pure rfl rfl (RV.move rfl) ?_
    refine LW.noB rfl rfl rfl rfl (ne_beq (v := false) rfl rfl) ?_
    refine LW.noB rfl rfl rfl rfl (ne_beq (v := false) rfl rfl) ?_
    refine LW.noB rfl rfl rfl rfl (ne_beq (v := false) rfl rfl) ?_
    refine LW.noB rfl rfl rfl rfl (ne_beq (v := false) rfl rfl) ?_
    refine LW.noB rfl rfl rfl rfl (ne_beq (v := false) rfl rfl) ?_
    refine LW.pure rfl rfl (RV.pickFB rfl rfl rfl) ?_
    refine LW.pure rfl rfl (RV.move rfl) ?_
    refine LW.noB rfl rfl rfl rfl (ne_beq (v := false) rfl rfl) ?_
    refine LW.noB rfl rfl rfl rfl (ne_beq (v := false) rfl rfl) ?_
    refine LW.noB rfl rfl rfl rfl (ne_beq (v := false) rfl rfl) ?_
    refine LW.pure rfl rfl (RV.pickFB rfl rfl rfl) ?_
    refine LW.pure rfl rfl (RV.assign rfl) ?_
    refine LW.nil (hK2 _ _ ?_)
    refine CW.ret ?_
    obtain rfl := Option.some.inj F
    refine ⟨_, (ResOK.one rfl), ?_⟩
    refine ⟨(by first | rfl | simp), R0⟩

set_option maxRecDepth 20000 in
set_option maxHeartbeats 1000000 in
theorem core_Validate_ok {a0 : Core} {A_a0_bounds : Option Addr} {c_a0_bounds : Nat} {w : World} {res : Int} (h_a0_bounds : Sl w A_a0_bounds c_a0_bounds 3 (a0.bounds.map encBound)) (F : core_Validate a0 = some res) : Calls Try.prog 36 #[.agg #[.int .i64 a0.layers, .slice A_a0_bounds a0.bounds.length c_a0_bounds]] w (Rt w (.int .i64 res)) := by
  refine calls_of_cw (args := [.agg #[.int .i64 a0.layers, .slice A_a0_bounds a0.bounds.length c_a0_bounds]]) Try.func36 rfl rfl rfl rfl ?_
  have H := Hp.start w
  have R0 := H.ext
  unfold core_Validate at F
  refine CW.seq fun K1 hK1 => ?_
  refine CW.region ?_
  refine LW.go rfl rfl (OW.box rfl fun b1 w1 N1 => ?_)
  replace H := H.new N1 N1.blk
  replace R0 := H.ext
  refine LW.pure rfl rfl (RV.assign rfl) ?_
  refine LW.nil (hK1 _ _ ?_)
  refine CW.seq fun K2 hK2 => ?_
  refine CW.seq fun K3 hK3 => ?_
  obtain ⟨r2, hr2, F⟩ := bnd_some F
  refine CW.region ?_
  refine LW.pure rfl rfl (RV.fieldAddr Tf24_0 rfl) ?_
  refine LW.pure rfl rfl (RV.load1 Tk3 rfl ((H.blk 0 rfl).cells.off 0) rfl) ?_
  refine LW.go rfl rfl (OW.call Tc70 rfl (core_within_ok (a0 := a0.layers) (a1 := (1 : Int)) (a2 := (8 : Int)) hr2) ?_)
  rintro _ w2 ⟨rfl, E1⟩
  refine ⟨_, rfl, ?_⟩
  replace H := H.grow E1
  replace R0 := H.ext
  refine LW.pure rfl rfl (RV.not rfl) ?_
  refine LW.nil (hK3 _ _ ?_)
  by_cases hp1 : r2 = true
  ·
    replace F := ite_y hp1 F
    have hq1 : r2 = true := hp1
    refine CW.condF rfl (not_f hq1) ?_
    refine CW.skip (hK2 _ _ ?_)
    refine CW.seq fun K4 hK4 => ?_
    refine CW.seq fun K5 hK5 => ?_
    refine CW.region ?_
    refine LW.pure rfl rfl (RV.fieldAddr Tf24_1 rfl) ?_
    refine LW.pure rfl rfl (RV.load1 Tk22 rfl ((H.blk 0 rfl).cells.off 1) rfl) ?_
    refine LW.pure rfl rfl (RV.len Ts22 rfl) ?_
    refine LW.pure rfl rfl (RV.gtr rfl rfl) ?_
    refine LW.nil (hK5 _ _ ?_)
    by_cases hp2 : (20 : Int) < ((a0.bounds.length : Int))
    ·
      replace F := ite_y hp2 F
      have hq2 := dec_t hp2
      refine CW.condT rfl hq2 ?_
      refine CW.seq fun K6 hK6 => ?_
      refine CW.region ?_
      refine LW.pure rfl rfl (RV.assign rfl) ?_
      refine LW.nil (hK6 _ _ ?_)
      refine CW.ret ?_
      obtain rfl := Option.some.inj F
      refine ⟨_, (ResOK.one rfl), ?_⟩
      refine ⟨(by first | rfl | simp), R0⟩
    ·
      replace F := ite_n hp2 F
      have hq2 := dec_f hp2
      refine CW.condF rfl hq2 ?_
      refine CW.skip (hK4 _ _ ?_)
      refine CW.seqJ (fun ρ wl1 => (core_Validate_k1 = some res ∧ ρ = [(2, .int .i64 0)] ∧ Hp w wl1 [])) ?_ ?_
      ·
        rintro _ wl1 ⟨F, rfl, H⟩
        have R0 := H.ext
        unfold core_Validate_k1 at F
        refine CW.seq fun K7 hK7 => ?_
        refine CW.region ?_
        refine LW.pure rfl rfl (RV.assign rfl) ?_
        refine LW.nil (hK7 _ _ ?_)
        refine CW.ret ?_
        obtain rfl := Option.some.inj F
        refine ⟨_, (ResOK.one rfl), ?_⟩
        refine ⟨(by first | rfl | simp), R0⟩
      ·
        intro K8 hK8 jK74
        refine CW.seq fun K9 hK9 => ?_
        refine CW.region ?_
        refine LW.pure rfl rfl (RV.fieldAddr Tf24_1 rfl) ?_
        refine LW.pure rfl rfl (RV.load1 Tk22 rfl ((H.blk 0 rfl).cells.off 1) rfl) ?_
        refine LW.pure rfl rfl (RV.len Ts22 rfl) ?_
        refine LW.pure rfl rfl (RV.move rfl) ?_
        refine LW.nil (hK9 _ _ ?_)
        refine CW.block ?_
        refine CW.loop (fun meas ρ wl2 => ∃ (t16_1 : Int), core_Validate_L1 a0 meas t16_1 = some res ∧ ρ = [(1, .pointer (some (⟨b1, 0, none⟩))), (2, .int .i64 0), (14, .slice A_a0_bounds a0.bounds.length c_a0_bounds), (15, .int .i64 ((a0.bounds.length : Int))), (16, .int .i64 t16_1)] ∧ Hp w wl2 [.blk b1 24 [.int .i64 a0.layers, .slice A_a0_bounds a0.bounds.length c_a0_bounds]]) FU ⟨_, ?_, ((0 : Int)), F, rfl, H⟩ ?_
        · exact ⟨rfl, rfl, rfl, rfl, rfl, trivial⟩
        rintro mk1 _ wl2 ⟨t16_1, F, rfl, H⟩
        have R0 := H.ext
        replace F := core_Validate_L1_s F
        obtain ⟨mk1, rfl, F⟩ := F
        generalize hrec1 : core_Validate_L1 a0 mk1 = rec1 at F
        unfold core_Validate_B1 at F
        refine CW.seq fun K10 hK10 => ?_
        refine CW.region ?_
        refine LW.pure rfl rfl (RV.lss rfl rfl) ?_
        refine LW.nil (hK10 _ _ ?_)
        refine CW.seq fun K11 hK11 => ?_
        by_cases hp3 : t16_1 < ((a0.bounds.length : Int))
        ·
          replace F := ite_y hp3 F
          have hq3 := dec_t hp3
          refine CW.condT rfl hq3 ?_
          refine CW.skip (hK11 _ _ ?_)
          refine CW.seq fun K12 hK12 => ?_
          refine CW.block ?_
          refine CW.seq fun K13 hK13 => ?_
          obtain ⟨x1, hbx1, hx1, F⟩ := ix_some F
          refine CW.region ?_
          refine LW.pure rfl rfl (RV.indexAddr Ts22 rfl rfl hbx1 (h_a0_bounds.addr_ hx1)) ?_
          refine LW.pure rfl rfl (RV.loadA [.int .i64 x1.a, .int .i64 x1.b, .int .i64 x1.most] Tk26 rfl ((h_a0_bounds.at_ hx1).ext R0) rfl rfl) ?_
          refine LW.go rfl rfl (OW.alloc Tz26 fun b2 w3 N2 => ?_)
          replace H := H.new N2 N2.blk
          replace R0 := H.ext
          refine LW.go rfl rfl (OW.store Tk26 rfl rfl (H.blk 0 rfl) (off := 0) (vs := [.int .i64 x1.a, .int .i64 x1.b, .int .i64 x1.most]) rfl rfl rfl rfl rfl fun w4 S1 => ?_)
          replace H : Hp w w4 [.blk b2 26 [.int .i64 x1.a, .int .i64 x1.b, .int .i64 x1.most], .blk b1 24 [.int .i64 a0.layers, .slice A_a0_bounds a0.bounds.length c_a0_bounds]] := H.stored 0 rfl S1
          replace R0 := H.ext
          refine LW.nil (hK13 _ _ ?_)
          refine CW.seq fun K14 hK14 => ?_
          obtain ⟨r1, hr1, F⟩ := bnd_some F
          refine CW.region ?_
          refine LW.pure rfl rfl (RV.loadA [.int .i64 x1.a, .int .i64 x1.b, .int .i64 x1.most] Tk26 rfl (H.blk 0 rfl).cells rfl rfl) ?_
          refine LW.pure rfl rfl (RV.fieldAddr Tf24_0 rfl) ?_
          refine LW.pure rfl rfl (RV.load1 Tk3 rfl ((H.blk 1 rfl).cells.off 0) rfl) ?_
          refine LW.go rfl rfl (OW.call Tc59 rfl (core_right_ok (a0 := x1) (a1 := a0.layers) hr1) ?_)
          rintro _ w5 ⟨rfl, E2⟩
          refine ⟨_, rfl, ?_⟩
          replace H := H.grow E2
          replace R0 := H.ext
          refine LW.pure rfl rfl (RV.not rfl) ?_
          refine LW.nil (hK14 _ _ ?_)
          by_cases hp4 : r1 = true
          ·
            replace F := ite_y hp4 F
            have hq4 : r1 = true := hp4
            refine CW.condF rfl (not_f hq4) ?_
            refine CW.skip (hK12 _ _ ?_)
            obtain ⟨hg1, F⟩ := gd_some F
            refine CW.region ?_
            refine LW.pure rfl rfl (RV.add rfl rfl hg1) ?_
            refine LW.pure rfl rfl (RV.move rfl) ?_
            refine LW.nil ?_
            replace H := H.pick (L' := [.blk b1 24 [.int .i64 a0.layers, .slice A_a0_bounds a0.bounds.length c_a0_bounds]]) [1] (by decide) rfl
            replace R0 := H.ext
            subst hrec1
            refine ⟨mk1, Nat.lt_succ_self _, _, ?_, (t16_1 + 1), F, rfl, H⟩
            exact ⟨rfl, rfl, rfl, rfl, rfl, trivial⟩
          ·
            replace F := ite_n hp4 F
            have hq4 : r1 = false := raw_f hp4
            refine CW.condT rfl (not_t hq4) ?_
            refine CW.seq fun K15 hK15 => ?_
            refine CW.region ?_
            refine LW.pure rfl rfl (RV.assign rfl) ?_
            refine LW.nil (hK15 _ _ ?_)
            refine CW.ret ?_
            obtain rfl := Option.some.inj F
            refine ⟨_, (ResOK.one rfl), ?_⟩
            refine ⟨(by first | rfl | simp), R0⟩
        ·
          replace F := ite_n hp3 F
          have hq3 := dec_f hp3
          refine CW.condF rfl hq3 ?_
          replace H := H.pick (L' := []) [] (by decide) rfl
          replace R0 := H.ext
          refine CW.exit (jK74 _ _ ⟨_, ?_, ⟨F, rfl, H⟩⟩)
          exact ⟨rfl, trivial⟩
  ·
    replace F := ite_n hp1 F
    have hq1 : r2 = false := raw_f hp1
    refine CW.condT rfl (not_t hq1) ?_
    refine CW.seq fun K16 hK16 => ?_
    refine CW.region ?_
    refine LW.pure rfl rfl (RV.assign rfl) ?_
    refine LW.nil (hK16 _ _ ?_)
    refine CW.ret ?_
    obtain rfl := Option.some.inj F
    refine ⟨_, (ResOK.one rfl), ?_⟩
    refine ⟨(by first | rfl | simp), R0⟩

set_option maxRecDepth 20000 in
set_option maxHeartbeats 1000000 in
theorem core_layers_ok {a0 : Core} {a1 : List Int} {A_a0_bounds : Option Addr} {c_a0_bounds : Nat} {A_a1 : Option Addr} {c_a1 : Nat} {w : World} {res : Int} (h_a0_bounds : Sl w A_a0_bounds c_a0_bounds 3 (a0.bounds.map encBound)) (h_a1 : Sl w A_a1 c_a1 1 (a1.map encN)) (F : core_layers a0 a1 = some res) : Calls Try.prog 58 #[.agg #[.int .i64 a0.layers, .slice A_a0_bounds a0.bounds.length c_a0_bounds], .slice A_a1 a1.length c_a1] w (Rt w (.int .i64 res)) := by
  refine calls_of_cw (args := [.agg #[.int .i64 a0.layers, .slice A_a0_bounds a0.bounds.length c_a0_bounds], .slice A_a1 a1.length c_a1]) Try.func58 rfl rfl rfl rfl ?_
  have H := Hp.start w
  have R0 := H.ext
  unfold core_layers at F
  refine CW.seq fun K1 hK1 => ?_
  refine CW.region ?_
  refine LW.go rfl rfl (OW.box rfl fun b1 w1 N1 => ?_)
  replace H := H.new N1 N1.blk
  replace R0 := H.ext
  refine LW.pure rfl rfl (RV.assign rfl) ?_
  refine LW.nil (hK1 _ _ ?_)
  refine CW.seq fun K2 hK2 => ?_
  refine CW.seq fun K3 hK3 => ?_
  obtain ⟨r2, hr2, F⟩ := bnd_some F
  refine CW.region ?_
  refine LW.pure rfl rfl (RV.loadA [.int .i64 a0.layers, .slice A_a0_bounds a0.bounds.length c_a0_bounds] Tk24 rfl (H.blk 0 rfl).cells rfl rfl) ?_
  refine LW.go rfl rfl (OW.call Tc36 rfl (core_Validate_ok (a0 := a0) (h_a0_bounds.ext R0) hr2) ?_)
  rintro _ w2 ⟨rfl, E1⟩
  refine ⟨_, rfl, ?_⟩
  replace H := H.grow E1
  replace R0 := H.ext
  refine LW.pure rfl rfl (RV.assign rfl) ?_
  refine LW.nil (hK3 _ _ ?_)
  refine CW.seq fun K4 hK4 => ?_
  refine CW.region ?_
  refine LW.pure rfl rfl (RV.move rfl) ?_
  refine LW.pure rfl rfl (RV.nei rfl rfl) ?_
  refine LW.nil (hK4 _ _ ?_)
  by_cases hp1 : r2 = 0
  ·
    replace F := ite_y hp1 F
    have hq1 := dec_t hp1
    refine CW.condF rfl (not_f hq1) ?_
    refine CW.skip (hK2 _ _ ?_)
    refine CW.seqJ (fun ρ wl1 => (core_layers_k1 = some res ∧ ρ = [(4, .int .i64 0)] ∧ Hp w wl1 [])) ?_ ?_
    ·
      rintro _ wl1 ⟨F, rfl, H⟩
      have R0 := H.ext
      unfold core_layers_k1 at F
      refine CW.seq fun K5 hK5 => ?_
      refine CW.region ?_
      refine LW.pure rfl rfl (RV.assign rfl) ?_
      refine LW.nil (hK5 _ _ ?_)
      refine CW.ret ?_
      obtain rfl := Option.some.inj F
      refine ⟨_, (ResOK.one rfl), ?_⟩
      refine ⟨(by first | rfl | simp), R0⟩
    ·
      intro K6 hK6 jK70
      refine CW.seq fun K7 hK7 => ?_
      refine CW.region ?_
      refine LW.pure rfl rfl (RV.move rfl) ?_
      refine LW.pure rfl rfl (RV.len Ts43 rfl) ?_
      refine LW.pure rfl rfl (RV.move rfl) ?_
      refine LW.nil (hK7 _ _ ?_)
      refine CW.block ?_
      refine CW.loop (fun meas ρ wl2 => ∃ (t15_1 : Int), core_layers_L1 a0 a1 meas t15_1 = some res ∧ ρ = [(2, .pointer (some (⟨b1, 0, none⟩))), (4, .int .i64 0), (13, .slice A_a1 a1.length c_a1), (14, .int .i64 ((a1.length : Int))), (15, .int .i64 t15_1)] ∧ Hp w wl2 [.blk b1 24 [.int .i64 a0.layers, .slice A_a0_bounds a0.bounds.length c_a0_bounds]]) FU ⟨_, ?_, ((0 : Int)), F, rfl, H⟩ ?_
      · exact ⟨rfl, rfl, rfl, rfl, rfl, trivial⟩
      rintro mk1 _ wl2 ⟨t15_1, F, rfl, H⟩
      have R0 := H.ext
      replace F := core_layers_L1_s F
      obtain ⟨mk1, rfl, F⟩ := F
      generalize hrec1 : core_layers_L1 a0 a1 mk1 = rec1 at F
      unfold core_layers_B1 at F
      refine CW.seq fun K8 hK8 => ?_
      refine CW.region ?_
      refine LW.pure rfl rfl (RV.lss rfl rfl) ?_
      refine LW.nil (hK8 _ _ ?_)
      refine CW.seq fun K9 hK9 => ?_
      by_cases hp2 : t15_1 < ((a1.length : Int))
      ·
        replace F := ite_y hp2 F
        have hq2 := dec_t hp2
        refine CW.condT rfl hq2 ?_
        refine CW.skip (hK9 _ _ ?_)
        refine CW.seq fun K10 hK10 => ?_
        refine CW.block ?_
        refine CW.seq fun K11 hK11 => ?_
        obtain ⟨x1, hbx1, hx1, F⟩ := ix_some F
        refine CW.region ?_
        refine LW.pure rfl rfl (RV.indexAddr Ts43 rfl rfl hbx1 (h_a1.addr_ hx1)) ?_
        refine LW.pure rfl rfl (RV.load1 Tk3 rfl ((h_a1.at_ hx1).ext R0) rfl) ?_
        refine LW.pure rfl rfl (RV.assign rfl) ?_
        refine LW.nil (hK11 _ _ ?_)
        refine CW.seq fun K12 hK12 => ?_
        obtain ⟨hg1, F⟩ := gd_some F
        obtain ⟨r1, hr1, F⟩ := bnd_some F
        refine CW.region ?_
        refine LW.pure rfl rfl (RV.move rfl) ?_
        refine LW.pure rfl rfl (RV.fieldAddr Tf24_0 rfl) ?_
        refine LW.pure rfl rfl (RV.load1 Tk3 rfl ((H.blk 0 rfl).cells.off 0) rfl) ?_
        refine LW.pure rfl rfl (RV.sub rfl rfl hg1) ?_
        refine LW.go rfl rfl (OW.call Tc70 rfl (core_within_ok (a0 := x1) (a1 := (0 : Int)) (a2 := a0.layers - 1) hr1) ?_)
        rintro _ w3 ⟨rfl, E2⟩
        refine ⟨_, rfl, ?_⟩
        replace H := H.grow E2
        replace R0 := H.ext
        refine LW.pure rfl rfl (RV.not rfl) ?_
        refine LW.nil (hK12 _ _ ?_)
        by_cases hp3 : r1 = true
        ·
          replace F := ite_y hp3 F
          have hq3 : r1 = true := hp3
          refine CW.condF rfl (not_f hq3) ?_
          refine CW.skip (hK10 _ _ ?_)
          obtain ⟨hg2, F⟩ := gd_some F
          refine CW.region ?_
          refine LW.pure rfl rfl (RV.add rfl rfl hg2) ?_
          refine LW.pure rfl rfl (RV.move rfl) ?_
          refine LW.nil ?_
          subst hrec1
          refine ⟨mk1, Nat.lt_succ_self _, _, ?_, (t15_1 + 1), F, rfl, H⟩
          exact ⟨rfl, rfl, rfl, rfl, rfl, trivial⟩
        ·
          replace F := ite_n hp3 F
          have hq3 : r1 = false := raw_f hp3
          refine CW.condT rfl (not_t hq3) ?_
          refine CW.seq fun K13 hK13 => ?_
          refine CW.region ?_
          refine LW.pure rfl rfl (RV.assign rfl) ?_
          refine LW.nil (hK13 _ _ ?_)
          refine CW.ret ?_
          obtain rfl := Option.some.inj F
          refine ⟨_, (ResOK.one rfl), ?_⟩
          refine ⟨(by first | rfl | simp), R0⟩
      ·
        replace F := ite_n hp2 F
        have hq2 := dec_f hp2
        refine CW.condF rfl hq2 ?_
        replace H := H.pick (L' := []) [] (by decide) rfl
        replace R0 := H.ext
        refine CW.exit (jK70 _ _ ⟨_, ?_, ⟨F, rfl, H⟩⟩)
        exact ⟨rfl, trivial⟩
  ·
    replace F := ite_n hp1 F
    have hq1 := dec_f hp1
    refine CW.condT rfl (not_t hq1) ?_
    refine CW.seq fun K14 hK14 => ?_
    refine CW.region ?_
    refine LW.pure rfl rfl (RV.move rfl) ?_
    refine LW.pure rfl rfl (RV.assign rfl) ?_
    refine LW.nil (hK14 _ _ ?_)
    refine CW.ret ?_
    obtain rfl := Option.some.inj F
    refine ⟨_, (ResOK.one rfl), ?_⟩
    refine ⟨(by first | rfl | simp), R0⟩

set_option maxRecDepth 20000 in
set_option maxHeartbeats 1000000 in
theorem core_relax_ok {a0 : Core} {A_a0_bounds : Option Addr} {c_a0_bounds : Nat} {w : World} {res : (List Int) × (List Int) × Int} (h_a0_bounds : Sl w A_a0_bounds c_a0_bounds 3 (a0.bounds.map encBound)) (F : core_relax a0 = some res) : Calls Try.prog 72 #[.agg #[.int .i64 a0.layers, .slice A_a0_bounds a0.bounds.length c_a0_bounds]] w (fun e w' => ∃ (A0 : Option Addr) (c0 : Nat) (A1 : Option Addr) (c1 : Nat), e = .returned (.tuple #[.slice A0 res.1.length c0, .slice A1 res.2.1.length c1, .int .i64 res.2.2]) ∧ Hp w w' [.own A0 c0 3 1 (List.map encN res.1), .own A1 c1 3 1 (List.map encN res.2.1)]) := by
  refine calls_of_cw (args := [.agg #[.int .i64 a0.layers, .slice A_a0_bounds a0.bounds.length c_a0_bounds]]) Try.func72 rfl rfl rfl rfl ?_
  have H := Hp.start w
  have R0 := H.ext
  unfold core_relax at F
  refine CW.seq fun K1 hK1 => ?_
  refine CW.region ?_
  refine LW.go rfl rfl (OW.box rfl fun b1 w1 N1 => ?_)
  replace H := H.new N1 N1.blk
  replace R0 := H.ext
  refine LW.pure rfl rfl (RV.assign rfl) ?_
  refine LW.pure rfl rfl (RV.assign rfl) ?_
  refine LW.pure rfl rfl (RV.assign rfl) ?_
  refine LW.nil (hK1 _ _ ?_)
  refine CW.seq fun K2 hK2 => ?_
  obtain ⟨hg1, F⟩ := gd_some F
  refine CW.region ?_
  refine LW.pure rfl rfl (RV.fieldAddr Tf24_0 rfl) ?_
  refine LW.pure rfl rfl (RV.load1 Tk3 rfl ((H.blk 0 rfl).cells.off 0) rfl) ?_
  refine LW.go rfl rfl (OW.makeR (enc := encN) (0 : Int) Ts43 rfl rfl rfl rfl rfl hg1 (by decide) fun b2 w2 N2 => ?_)
  replace H := H.made' (k := 1) (t := 3) (enc := encN) (l := (List.replicate (Int.toNat a0.layers) (0 : Int))) N2 N2.blk (fun _ => rfl) rfl (by first | decide | omega | (simp; done) | (simp; omega))
  replace R0 := H.ext
  refine LW.pure rfl rfl (RV.assign rfl) ?_
  refine LW.nil (hK2 _ _ ?_)
  refine CW.seq fun K3 hK3 => ?_
  obtain ⟨r1, hr1, F⟩ := bnd_some F
  refine CW.region ?_
  refine LW.go rfl rfl (OW.buildSlice (e := 3) (vs := [.int .i64 (-1)]) (cs := [.int .i64 (-1)]) rfl (fun _ => by kernel_rfl) fun b3 w3 N3 => ?_)
  replace H := H.made' (k := 1) (t := 3) (enc := encN) (l := ([-1] : List Int)) N3 N3.blk (fun _ => rfl) rfl (by first | decide | omega | (simp; done) | (simp; omega))
  replace R0 := H.ext
  refine LW.pure rfl rfl (RV.fieldAddr Tf24_0 rfl) ?_
  refine LW.pure rfl rfl (RV.load1 Tk3 rfl ((H.blk 2 rfl).cells.off 0) rfl) ?_
  refine LW.go rfl rfl (OW.call Tc87 rfl (slices_Repeat_int_ok (a0 := ([-1] : List Int)) (a1 := a0.layers) (H.own 0 rfl).sl hr1) ?_)
  rintro _ w4 ⟨A3_0, c3_0, rfl, E1⟩
  refine ⟨_, rfl, ?_⟩
  replace H : Hp w w4 [.own A3_0 c3_0 3 1 (List.map encN r1), .own (some ⟨b3, 0, none⟩) ((([-1] : List Int)).length) 3 1 (List.map encN (([-1] : List Int))), .own (some ⟨b2, 0, none⟩) (((List.replicate (Int.toNat a0.layers) (0 : Int))).length) 3 1 (List.map encN ((List.replicate (Int.toNat a0.layers) (0 : Int)))), .blk b1 24 [.int .i64 a0.layers, .slice A_a0_bounds a0.bounds.length c_a0_bounds]] := H.append E1
  replace R0 := H.ext
  refine LW.pure rfl rfl (RV.assign rfl) ?_
  refine LW.nil (hK3 _ _ ?_)
  refine CW.seqJ (fun ρ wl1 => (∃ (t4_1 : Int) (l1 : List Int) (l2 : List Int), core_relax_k1 t4_1 l1 l2 = some res ∧ ρ = [(2, .slice (some ⟨b2, 0, none⟩) l1.length (((List.replicate (Int.toNat a0.layers) (0 : Int))).length)), (3, .slice A3_0 l2.length c3_0), (4, .int .i64 t4_1)] ∧ Hp w wl1 [.own (some ⟨b2, 0, none⟩) (((List.replicate (Int.toNat a0.layers) (0 : Int))).length) 3 1 (List.map encN l1), .own A3_0 c3_0 3 1 (List.map encN l2)])) ?_ ?_
  ·
    rintro _ wl1 ⟨t4_1, l1, l2, F, rfl, H⟩
    have R0 := H.ext
    unfold core_relax_k1 at F
    refine CW.seq fun K4 hK4 => ?_
    refine CW.region ?_
    refine LW.pure rfl rfl (RV.move rfl) ?_
    refine LW.pure rfl rfl (RV.move rfl) ?_
    refine LW.pure rfl rfl (RV.move rfl) ?_
    refine LW.pure rfl rfl (RV.assign rfl) ?_
    refine LW.pure rfl rfl (RV.assign rfl) ?_
    refine LW.pure rfl rfl (RV.assign rfl) ?_
    refine LW.nil (hK4 _ _ ?_)
    refine CW.ret ?_
    obtain rfl := Option.some.inj F
    refine ⟨_, (ResOK.three rfl rfl rfl), ?_⟩
    exact ⟨(some ⟨b2, 0, none⟩), (((List.replicate (Int.toNat a0.layers) (0 : Int))).length), A3_0, c3_0, (by first | rfl | (simp; done) | (simp; omega)), H⟩
  ·
    intro K5 hK5 jK454
    refine CW.seq fun K6 hK6 => ?_
    refine CW.region ?_
    refine LW.pure rfl rfl (RV.fieldAddr Tf24_0 rfl) ?_
    refine LW.pure rfl rfl (RV.load1 Tk3 rfl ((H.blk 3 rfl).cells.off 0) rfl) ?_
    refine LW.pure rfl rfl (RV.move rfl) ?_
    refine LW.nil (hK6 _ _ ?_)
    refine CW.block ?_
    replace H := H.pick (L' := [.own (some ⟨b2, 0, none⟩) (((List.replicate (Int.toNat a0.layers) (0 : Int))).length) 3 1 (List.map encN ((List.replicate (Int.toNat a0.layers) (0 : Int)))), .own A3_0 c3_0 3 1 (List.map encN r1), .blk b1 24 [.int .i64 a0.layers, .slice A_a0_bounds a0.bounds.length c_a0_bounds]]) [2, 0, 3] (by decide) rfl
    replace R0 := H.ext
    refine CW.loop (fun meas ρ wl2 => ∃ (t4_5 : Int) (t16_1 : Int) (l9 : List Int) (l10 : List Int), core_relax_L2 a0 meas t4_5 t16_1 l9 l10 = some res ∧ ρ = [(1, .pointer (some (⟨b1, 0, none⟩))), (2, .slice (some ⟨b2, 0, none⟩) l9.length (((List.replicate (Int.toNat a0.layers) (0 : Int))).length)), (3, .slice A3_0 l10.length c3_0), (4, .int .i64 t4_5), (15, .int .i64 a0.layers), (16, .int .i64 t16_1)] ∧ Hp w wl2 [.own (some ⟨b2, 0, none⟩) (((List.replicate (Int.toNat a0.layers) (0 : Int))).length) 3 1 (List.map encN l9), .own A3_0 c3_0 3 1 (List.map encN l10), .blk b1 24 [.int .i64 a0.layers, .slice A_a0_bounds a0.bounds.length c_a0_bounds]]) FU ⟨_, ?_, ((0 : Int)), ((0 : Int)), ((List.replicate (Int.toNat a0.layers) (0 : Int))), r1, F, rfl, H⟩ ?_
    · exact ⟨rfl, (look_slice rfl (by first | rfl | (simp; done) | (simp; omega))), (look_slice rfl (by first | rfl | (simp; done) | (simp; omega))), rfl, rfl, rfl, trivial⟩
    rintro mk1 _ wl2 ⟨t4_5, t16_1, l9, l10, F, rfl, H⟩
    have R0 := H.ext
    replace F := core_relax_L2_s F
    obtain ⟨mk1, rfl, F⟩ := F
    generalize hrec1 : core_relax_L2 a0 mk1 = rec1 at F
    unfold core_relax_B2 at F
    refine CW.seq fun K7 hK7 => ?_
    refine CW.region ?_
    refine LW.pure rfl rfl (RV.lss rfl rfl) ?_
    refine LW.nil (hK7 _ _ ?_)
    refine CW.seq fun K8 hK8 => ?_
    by_cases hp1 : t16_1 < a0.layers
    ·
      replace F := ite_y hp1 F
      have hq1 := dec_t hp1
      refine CW.condT rfl hq1 ?_
      refine CW.skip (hK8 _ _ ?_)
      refine CW.seqJ (fun ρ wl3 => (∃ (t4_2 : Int) (l3 : List Int) (l4 : List Int), core_relax_k2 t16_1 rec1 t4_2 l3 l4 = some res ∧ ρ = [(1, .pointer (some (⟨b1, 0, none⟩))), (2, .slice (some ⟨b2, 0, none⟩) l3.length (((List.replicate (Int.toNat a0.layers) (0 : Int))).length)), (3, .slice A3_0 l4.length c3_0), (4, .int .i64 t4_2), (15, .int .i64 a0.layers), (16, .int .i64 t16_1)] ∧ Hp w wl3 [.own (some ⟨b2, 0, none⟩) (((List.replicate (Int.toNat a0.layers) (0 : Int))).length) 3 1 (List.map encN l3), .own A3_0 c3_0 3 1 (List.map encN l4), .blk b1 24 [.int .i64 a0.layers, .slice A_a0_bounds a0.bounds.length c_a0_bounds]])) ?_ ?_
      ·
        rintro _ wl3 ⟨t4_2, l3, l4, F, rfl, H⟩
        have R0 := H.ext
        unfold core_relax_k2 at F
        obtain ⟨hg2, F⟩ := gd_some F
        refine CW.region ?_
        refine LW.pure rfl rfl (RV.add rfl rfl hg2) ?_
        refine LW.pure rfl rfl (RV.move rfl) ?_
        refine LW.nil ?_
        subst hrec1
        refine ⟨mk1, Nat.lt_succ_self _, _, ?_, t4_2, (t16_1 + 1), l3, l4, F, rfl, H⟩
        exact ⟨rfl, (look_slice rfl (by first | rfl | (simp; done) | (simp; omega))), (look_slice rfl (by first | rfl | (simp; done) | (simp; omega))), rfl, rfl, rfl, trivial⟩
      ·
        intro K9 hK9 jK579
        refine CW.block ?_
        refine CW.seq fun K10 hK10 => ?_
        refine CW.region ?_
        refine LW.pure rfl rfl (RV.assign rfl) ?_
        refine LW.nil (hK10 _ _ ?_)
        refine CW.seq fun K11 hK11 => ?_
        refine CW.region ?_
        refine LW.pure rfl rfl (RV.fieldAddr Tf24_1 rfl) ?_
        refine LW.pure rfl rfl (RV.load1 Tk22 rfl ((H.blk 2 rfl).cells.off 1) rfl) ?_
        refine LW.pure rfl rfl (RV.len Ts22 rfl) ?_
        refine LW.pure rfl rfl (RV.move rfl) ?_
        refine LW.nil (hK11 _ _ ?_)
        refine CW.block ?_
        refine CW.loop (fun meas ρ wl4 => ∃ (t4_4 : Int) (t21_1 : Int) (l7 : List Int) (l8 : List Int), core_relax_L1 a0 t16_1 rec1 meas t4_4 t21_1 l7 l8 = some res ∧ ρ = [(1, .pointer (some (⟨b1, 0, none⟩))), (2, .slice (some ⟨b2, 0, none⟩) l7.length (((List.replicate (Int.toNat a0.layers) (0 : Int))).length)), (3, .slice A3_0 l8.length c3_0), (4, .int .i64 t4_4), (15, .int .i64 a0.layers), (16, .int .i64 t16_1), (19, .slice A_a0_bounds a0.bounds.length c_a0_bounds), (20, .int .i64 ((a0.bounds.length : Int))), (21, .int .i64 t21_1)] ∧ Hp w wl4 [.own (some ⟨b2, 0, none⟩) (((List.replicate (Int.toNat a0.layers) (0 : Int))).length) 3 1 (List.map encN l7), .own A3_0 c3_0 3 1 (List.map encN l8), .blk b1 24 [.int .i64 a0.layers, .slice A_a0_bounds a0.bounds.length c_a0_bounds]]) FU ⟨_, ?_, ((-1 : Int)), ((0 : Int)), l9, l10, F, rfl, H⟩ ?_
        · exact ⟨rfl, (look_slice rfl (by first | rfl | (simp; done) | (simp; omega))), (look_slice rfl (by first | rfl | (simp; done) | (simp; omega))), rfl, rfl, rfl, rfl, rfl, rfl, trivial⟩
        rintro mk2 _ wl4 ⟨t4_4, t21_1, l7, l8, F, rfl, H⟩
        have R0 := H.ext
        replace F := core_relax_L1_s F
        obtain ⟨mk2, rfl, F⟩ := F
        generalize hrec2 : core_relax_L1 a0 t16_1 rec1 mk2 = rec2 at F
        unfold core_relax_B1 at F
        refine CW.seq fun K12 hK12 => ?_
        refine CW.region ?_
        refine LW.pure rfl rfl (RV.lss rfl rfl) ?_
        refine LW.nil (hK12 _ _ ?_)
        refine CW.seq fun K13 hK13 => ?_
        by_cases hp2 : t21_1 < ((a0.bounds.length : Int))
        ·
          replace F := ite_y hp2 F
          have hq2 := dec_t hp2
          refine CW.condT rfl hq2 ?_
          refine CW.skip (hK13 _ _ ?_)
          refine CW.seqJ (fun ρ wl5 => (∃ (t4_3 : Int) (l5 : List Int) (l6 : List Int), core_relax_k3 t21_1 rec2 t4_3 l5 l6 = some res ∧ ρ = [(1, .pointer (some (⟨b1, 0, none⟩))), (2, .slice (some ⟨b2, 0, none⟩) l5.length (((List.replicate (Int.toNat a0.layers) (0 : Int))).length)), (3, .slice A3_0 l6.length c3_0), (4, .int .i64 t4_3), (15, .int .i64 a0.layers), (16, .int .i64 t16_1), (19, .slice A_a0_bounds a0.bounds.length c_a0_bounds), (20, .int .i64 ((a0.bounds.length : Int))), (21, .int .i64 t21_1)] ∧ Hp w wl5 [.own (some ⟨b2, 0, none⟩) (((List.replicate (Int.toNat a0.layers) (0 : Int))).length) 3 1 (List.map encN l5), .own A3_0 c3_0 3 1 (List.map encN l6), .blk b1 24 [.int .i64 a0.layers, .slice A_a0_bounds a0.bounds.length c_a0_bounds]])) ?_ ?_
          ·
            rintro _ wl5 ⟨t4_3, l5, l6, F, rfl, H⟩
            have R0 := H.ext
            unfold core_relax_k3 at F
            obtain ⟨hg3, F⟩ := gd_some F
            refine CW.region ?_
            refine LW.pure rfl rfl (RV.add rfl rfl hg3) ?_
            refine LW.pure rfl rfl (RV.move rfl) ?_
            refine LW.nil ?_
            subst hrec2
            refine ⟨mk2, Nat.lt_succ_self _, _, ?_, t4_3, (t21_1 + 1), l5, l6, F, rfl, H⟩
            exact ⟨rfl, (look_slice rfl (by first | rfl | (simp; done) | (simp; omega))), (look_slice rfl (by first | rfl | (simp; done) | (simp; omega))), rfl, rfl, rfl, rfl, rfl, rfl, trivial⟩
          ·
            intro K14 hK14 jK600
            refine CW.block ?_
            refine CW.seq fun K15 hK15 => ?_
            obtain ⟨x1, hbx1, hx1, F⟩ := ix_some F
            refine CW.region ?_
            refine LW.pure rfl rfl (RV.move rfl) ?_
            refine LW.pure rfl rfl (RV.indexAddr Ts22 rfl rfl hbx1 (h_a0_bounds.addr_ hx1)) ?_
            refine LW.pure rfl rfl (RV.loadA [.int .i64 x1.a, .int .i64 x1.b, .int .i64 x1.most] Tk26 rfl ((h_a0_bounds.at_ hx1).ext R0) rfl rfl) ?_
            refine LW.go rfl rfl (OW.alloc Tz26 fun b4 w5 N4 => ?_)
            replace H := H.new N4 N4.blk
            replace R0 := H.ext
            refine LW.pure rfl rfl (RV.assign rfl) ?_
            refine LW.go rfl rfl (OW.store Tk26 rfl rfl (H.blk 0 rfl) (off := 0) (vs := [.int .i64 x1.a, .int .i64 x1.b, .int .i64 x1.most]) rfl rfl rfl rfl rfl fun w6 S1 => ?_)
            replace H : Hp w w6 [.blk b4 26 [.int .i64 x1.a, .int .i64 x1.b, .int .i64 x1.most], .own (some ⟨b2, 0, none⟩) (((List.replicate (Int.toNat a0.layers) (0 : Int))).length) 3 1 (List.map encN l7), .own A3_0 c3_0 3 1 (List.map encN l8), .blk b1 24 [.int .i64 a0.layers, .slice A_a0_bounds a0.bounds.length c_a0_bounds]] := H.stored 0 rfl S1
            replace R0 := H.ext
            refine LW.nil (hK15 _ _ ?_)
            refine CW.seq fun K16 hK16 => ?_
            obtain ⟨x2, hbx2, hx2, F⟩ := ix_some F
            obtain ⟨hg4, F⟩ := gd_some F
            obtain ⟨x3, hbx3, hx3, F⟩ := ix_some F
            refine CW.draw [] (fun _ => True) (.cons 0 1 (.cons 1 1 (.cons 2 1 (.cons 3 1 (.cons 4 1 (.cons 5 1 (.cons 6 1 (.cons 7 1 (.cons 8 1 (.cons 9 1 (.cons 10 1 (.cons 11 1 (.cons 12 1 (.cons 13 1 .nil)))))))))))))) mixed (by kernel_rfl) fun w7 E2 => ?_
            replace H := H.grow E2
            replace R0 := H.ext
            refine DW.fix rfl rfl rfl (fun _ EQ => RV.move rfl) ?_
            refine DW.fix rfl rfl rfl (fun _ EQ => RV.fieldAddr Tf26_0 rfl) ?_
            refine DW.fix rfl rfl rfl (fun _ EQ => RV.load1 Tk3 rfl (((H.grow EQ).blk 0 rfl).cells.off 0) rfl) ?_
            refine DW.fix rfl rfl rfl (fun _ EQ => RV.indexAddr Ts43 rfl rfl hbx2 ⟨_, rfl⟩) ?_
            refine DW.fix rfl rfl rfl (fun _ EQ => RV.load1 Tk3 rfl (((H.grow EQ).own 1 rfl).sl.at_ hx2) rfl) ?_
            refine DW.fix rfl rfl rfl (fun _ EQ => RV.fieldAddr Tf26_2 rfl) ?_
            refine DW.fix rfl rfl rfl (fun _ EQ => RV.load1 Tk3 rfl (((H.grow EQ).blk 0 rfl).cells.off 2) rfl) ?_
            refine DW.fix rfl rfl rfl (fun _ EQ => RV.add rfl rfl hg4) ?_
            refine DW.fix rfl rfl rfl (fun _ EQ => RV.move rfl) ?_
            refine DW.fix rfl rfl rfl (fun _ EQ => RV.fieldAddr Tf26_1 rfl) ?_
            refine DW.fix rfl rfl rfl (fun _ EQ => RV.load1 Tk3 rfl (((H.grow EQ).blk 0 rfl).cells.off 1) rfl) ?_
            refine DW.fix rfl rfl rfl (fun _ EQ => RV.indexAddr Ts43 rfl rfl hbx3 ⟨_, rfl⟩) ?_
            refine DW.fix rfl rfl rfl (fun _ EQ => RV.load1 Tk3 rfl (((H.grow EQ).own 1 rfl).sl.at_ hx3) rfl) ?_
            refine DW.fix rfl rfl rfl (fun _ EQ => RV.lss rfl rfl) ?_
            refine DW.nil (hK16 _ _ ?_)
            by_cases hp3 : (x2 + x1.most) < x3
            ·
              replace F := ite_y hp3 F
              have hq3 := dec_t hp3
              refine CW.condT rfl hq3 ?_
              obtain ⟨x4, hbx4, hx4, F⟩ := ix_some F
              obtain ⟨hg5, F⟩ := gd_some F
              obtain ⟨x5, hbx5, hx5, F⟩ := ix_some F
              obtain ⟨x6, hbx6, hx6, F⟩ := ix_some F
              have H0 := H
              have hz : w7.heap.size ≤ w7.heap.size := Nat.le_refl _
              refine CW.draw [18, 20] (XB w7 [.blk b4 26 [.int .i64 x1.a, .int .i64 x1.b, .int .i64 x1.most], .own (some ⟨b2, 0, none⟩) (((List.replicate (Int.toNat a0.layers) (0 : Int))).length) 3 1 (List.map encN l7), .own A3_0 c3_0 3 1 (List.map encN l8), .blk b1 24 [.int .i64 a0.layers, .slice A_a0_bounds a0.bounds.length c_a0_bounds]] [1, 2]) (.cons 0 1 (.cons 1 1 (.cons 2 1 (.cons 6 1 (.cons 7 1 (.cons 8 1 (.cons 9 1 (.cons 10 1 (.cons 11 1 (.cons 12 1 (.cons 13 1 (.cons 17 1 (.cons 3 2 (.cons 4 2 (.cons 5 2 (.cons 14 2 (.cons 15 2 (.cons 16 2 (.cons 18 0 (.cons 19 2 (.cons 20 0 (.cons 21 2 .nil)))))))))))))))))))))) mixed (by kernel_rfl) fun w8 E3 => ?_
              replace H := H.grow E3
              replace R0 := H.ext
              replace hz := Nat.le_trans hz (Ext.size E3)
              refine DW.fix rfl rfl rfl (fun _ EQ => RV.move rfl) ?_
              refine DW.fix rfl rfl rfl (fun _ EQ => RV.fieldAddr Tf26_1 rfl) ?_
              refine DW.fix rfl rfl rfl (fun _ EQ => RV.load1 Tk3 rfl (((H.grow EQ).blk 0 rfl).cells.off 1) rfl) ?_
              refine DW.fix rfl rfl rfl (fun _ EQ => RV.move rfl) ?_
              refine DW.fix rfl rfl rfl (fun _ EQ => RV.fieldAddr Tf26_0 rfl) ?_
              refine DW.fix rfl rfl rfl (fun _ EQ => RV.load1 Tk3 rfl (((H.grow EQ).blk 0 rfl).cells.off 0) rfl) ?_
              refine DW.fix rfl rfl rfl (fun _ EQ => RV.indexAddr Ts43 rfl rfl hbx4 ⟨_, rfl⟩) ?_
              refine DW.fix rfl rfl rfl (fun _ EQ => RV.load1 Tk3 rfl (((H.grow EQ).own 1 rfl).sl.at_ hx4) rfl) ?_
              refine DW.fix rfl rfl rfl (fun _ EQ => RV.fieldAddr Tf26_2 rfl) ?_
              refine DW.fix rfl rfl rfl (fun _ EQ => RV.load1 Tk3 rfl (((H.grow EQ).blk 0 rfl).cells.off 2) rfl) ?_
              refine DW.fix rfl rfl rfl (fun _ EQ => RV.add rfl rfl hg5) ?_
              refine DW.fix rfl rfl rfl (fun _ EQ => RV.indexAddr Ts43 rfl rfl hbx5 ⟨_, rfl⟩) ?_
              refine DW.thru rfl rfl rfl (fun _ EQ => RV.move rfl) ?_
              refine DW.thru rfl rfl rfl (fun _ EQ => RV.fieldAddr Tf26_1 rfl) ?_
              refine DW.thru rfl rfl rfl (fun _ EQ => RV.load1 Tk3 rfl ((H.thruB 0 rfl EQ (H0.notX [1, 2] 0 rfl (by decide))).cells.off 1) rfl) ?_
              refine DW.thru rfl rfl rfl (fun _ EQ => RV.move rfl) ?_
              refine DW.thru rfl rfl rfl (fun _ EQ => RV.fieldAddr Tf26_1 rfl) ?_
              refine DW.thru rfl rfl rfl (fun _ EQ => RV.load1 Tk3 rfl ((H.thruB 0 rfl EQ (H0.notX [1, 2] 0 rfl (by decide))).cells.off 1) rfl) ?_
              refine DW.sole rfl rfl rfl (OW.storeO (enc := encN) (vs := [.int .i64 (x4 + x1.most)]) 0 (x4 + x1.most) Tk3 rfl rfl (H.own 1 rfl) (fun _ => rfl) rfl hx5 rfl rfl (by decide) rfl rfl fun w9 M1 O1 => ?_)
              refine ⟨fun h => absurd h (by decide), M1.modx (XB.own_ 1 (by decide) rfl), ?_⟩
              replace H : Hp w w9 [.blk b4 26 [.int .i64 x1.a, .int .i64 x1.b, .int .i64 x1.most], .own (some ⟨b2, 0, none⟩) (((List.replicate (Int.toNat a0.layers) (0 : Int))).length) 3 1 (List.map encN ((l7.set (Int.toNat x1.b) (x4 + x1.most)))), .own A3_0 c3_0 3 1 (List.map encN l8), .blk b1 24 [.int .i64 a0.layers, .slice A_a0_bounds a0.bounds.length c_a0_bounds]] := H.mod 1 rfl M1 O1 (.inl rfl)
              replace R0 := H.ext
              replace hz := Nat.le_trans hz M1.size
              refine DW.thru rfl rfl rfl (fun _ EQ => RV.indexAddr Ts43 rfl rfl hbx6 ((H.own 2 rfl).sl.addr_ hx6)) ?_
              refine DW.sole rfl rfl rfl (OW.storeO (enc := encN) (vs := [.int .i64 t21_1]) 0 (t21_1) Tk3 rfl rfl (H.own 2 rfl) (fun _ => rfl) rfl hx6 rfl rfl (by decide) rfl rfl fun w10 M2 O2 => ?_)
              refine ⟨fun h => absurd h (by decide), M2.modx (XB.own_ 2 (by decide) rfl), ?_⟩
              replace H : Hp w w10 [.blk b4 26 [.int .i64 x1.a, .int .i64 x1.b, .int .i64 x1.most], .own (some ⟨b2, 0, none⟩) (((List.replicate (Int.toNat a0.layers) (0 : Int))).length) 3 1 (List.map encN ((l7.set (Int.toNat x1.b) (x4 + x1.most)))), .own A3_0 c3_0 3 1 (List.map encN ((l8.set (Int.toNat x1.b) t21_1))), .blk b1 24 [.int .i64 a0.layers, .slice A_a0_bounds a0.bounds.length c_a0_bounds]] := H.mod 2 rfl M2 O2 (.inl rfl)
              replace R0 := H.ext
              replace hz := Nat.le_trans hz M2.size
              refine DW.thru rfl rfl rfl (fun _ EQ => RV.assign rfl) ?_
              replace H := H.pick (L' := [.own (some ⟨b2, 0, none⟩) (((List.replicate (Int.toNat a0.layers) (0 : Int))).length) 3 1 (List.map encN ((l7.set (Int.toNat x1.b) (x4 + x1.most)))), .own A3_0 c3_0 3 1 (List.map encN ((l8.set (Int.toNat x1.b) t21_1))), .blk b1 24 [.int .i64 a0.layers, .slice A_a0_bounds a0.bounds.length c_a0_bounds]]) [1, 2, 3] (by decide) rfl
              replace R0 := H.ext
              refine DW.nil (jK600 _ _ ⟨_, ?_, ⟨x1.b, ((l7.set (Int.toNat x1.b) (x4 + x1.most))), ((l8.set (Int.toNat x1.b) t21_1)), F, rfl, H⟩⟩)
              exact ⟨rfl, (look_slice rfl (by first | rfl | (simp; done) | (simp; omega))), (look_slice rfl (by first | rfl | (simp; done) | (simp; omega))), rfl, rfl, rfl, rfl, rfl, rfl, trivial⟩
            ·
              replace F := ite_n hp3 F
              have hq3 := dec_f hp3
              refine CW.condF rfl hq3 ?_
              replace H := H.pick (L' := [.own (some ⟨b2, 0, none⟩) (((List.replicate (Int.toNat a0.layers) (0 : Int))).length) 3 1 (List.map encN l7), .own A3_0 c3_0 3 1 (List.map encN l8), .blk b1 24 [.int .i64 a0.layers, .slice A_a0_bounds a0.bounds.length c_a0_bounds]]) [1, 2, 3] (by decide) rfl
              replace R0 := H.ext
              refine CW.skip (jK600 _ _ ⟨_, ?_, ⟨t4_4, l7, l8, F, rfl, H⟩⟩)
              exact ⟨rfl, (look_slice rfl (by first | rfl | (simp; done) | (simp; omega))), (look_slice rfl (by first | rfl | (simp; done) | (simp; omega))), rfl, rfl, rfl, rfl, rfl, rfl, trivial⟩
        ·
          replace F := ite_n hp2 F
          have hq2 := dec_f hp2
          refine CW.condF rfl hq2 ?_
          refine CW.exit (jK579 _ _ ⟨_, ?_, ⟨t4_4, l7, l8, F, rfl, H⟩⟩)
          exact ⟨rfl, (look_slice rfl (by first | rfl | (simp; done) | (simp; omega))), (look_slice rfl (by first | rfl | (simp; done) | (simp; omega))), rfl, rfl, rfl, trivial⟩
    ·
      replace F := ite_n hp1 F
      have hq1 := dec_f hp1
      refine CW.condF rfl hq1 ?_
      replace H := H.pick (L' := [.own (some ⟨b2, 0, none⟩) (((List.replicate (Int.toNat a0.layers) (0 : Int))).length) 3 1 (List.map encN l9), .own A3_0 c3_0 3 1 (List.map encN l10)]) [0, 1] (by decide) rfl
      replace R0 := H.ext
      refine CW.exit (jK454 _ _ ⟨_, ?_, ⟨t4_5, l9, l10, F, rfl, H⟩⟩)
      exact ⟨(look_slice rfl (by first | rfl | (simp; done) | (simp; omega))), (look_slice rfl (by first | rfl | (simp; done) | (simp; omega))), rfl, trivial⟩

end Go.D3

set_option linter.unusedVariables false
namespace Go.D3
open Go.Tb Go.Core


def encTight (x : Tight) : List Value := [.bool x.known, .int .i64 x.most]

def core_clashes (a0 : Core) : Option Bool :=
  bnd (core_relax a0) fun r1 =>
  some (decide ((0 : Int) ≤ r1.2.2))
def core_tight_tighter_k1 (a0 : Tight) (a1 : Tight) (t18_1 : Bool) : Option Tight :=
  if t18_1 = true then
    some a1
  else
    some a0
def core_tight_tighter (a0 : Tight) (a1 : Tight) : Option Tight :=
  if a0.known = true then
    if a1.known = true then
      core_tight_tighter_k1 a0 a1 ((decide (a1.most < a0.most)))
    else
      core_tight_tighter_k1 a0 a1 false
  else
    core_tight_tighter_k1 a0 a1 true
def core_tight_over (a0 : Tight) (a1 : Tight) : Option Tight :=
  if a0.known = true then
    gd (InR (a0.most + a1.most)) <|
    some ((⟨a1.known, a0.most + a1.most⟩ : Tight))
  else
    gd (InR (a0.most + a1.most)) <|
    some ((⟨false, a0.most + a1.most⟩ : Tight))
def core_table_k1 (m1 : List (List Tight)) : Option ((List (List Tight))) :=
  some m1
def core_table_k2 (t63_1 : Int) (rec1 : Int → (List (List Tight)) → Option ((List (List Tight)))) (m2 : List (List Tight)) : Option ((List (List Tight))) :=
  gd (InR (t63_1 + 1)) <|
  rec1 ((t63_1 + 1)) m2
def core_table_k3 (t68_1 : Int) (rec2 : Int → (List (List Tight)) → Option ((List (List Tight)))) (m3 : List (List Tight)) : Option ((List (List Tight))) :=
  gd (InR (t68_1 + 1)) <|
  rec2 ((t68_1 + 1)) m3
def core_table_B1 (a0 : Core) (t63_1 : Int) (t68_1 : Int) (rec2 : Int → (List (List Tight)) → Option ((List (List Tight)))) (rec3 : Int → (List (List Tight)) → Option ((List (List Tight)))) (t73_1 : Int) (m4 : List (List Tight)) : Option ((List (List Tight))) :=
  if t73_1 < a0.layers then
    ix m4 t68_1 fun x1 =>
    ix m4 t68_1 fun x2 =>
    ix x2 t73_1 fun x3 =>
    ix m4 t68_1 fun x4 =>
    ix x4 t63_1 fun x5 =>
    ix m4 t63_1 fun x6 =>
    ix x6 t73_1 fun x7 =>
    bnd (core_tight_over x5 x7) fun r1 =>
    bnd (core_tight_tighter x3 r1) fun r2 =>
    ix x1 t73_1 fun x8 =>
    gd (InR (t73_1 + 1)) <|
    rec3 ((t73_1 + 1)) (((m4.set (Int.toNat t68_1) (x1.set (Int.toNat t73_1) r2))))
  else
    core_table_k3 t68_1 rec2 m4
def core_table_L1 (a0 : Core) (t63_1 : Int) (t68_1 : Int) (rec2 : Int → (List (List Tight)) → Option ((List (List Tight)))) : Nat → Int → (List (List Tight)) → Option ((List (List Tight)))
  | 0, _, _ => none
  | n_ + 1, t73_1, m4 => core_table_B1 a0 t63_1 t68_1 rec2 (core_table_L1 a0 t63_1 t68_1 rec2 n_) t73_1 m4
theorem core_table_L1_s {a0 : Core} {t63_1 : Int} {t68_1 : Int} {rec2 : Int → (List (List Tight)) → Option ((List (List Tight)))} {m_ : Nat} {t73_1 : Int} {m4 : List (List Tight)} {res : (List (List Tight))} (h : core_table_L1 a0 t63_1 t68_1 rec2 m_ t73_1 m4 = some res) : ∃ k, m_ = k + 1 ∧ core_table_B1 a0 t63_1 t68_1 rec2 (core_table_L1 a0 t63_1 t68_1 rec2 k) t73_1 m4 = some res := by
  cases m_ with
  | zero => cases h
  | succ k => exact ⟨k, rfl, h⟩
def core_table_B2 (a0 : Core) (t63_1 : Int) (rec1 : Int → (List (List Tight)) → Option ((List (List Tight)))) (rec2 : Int → (List (List Tight)) → Option ((List (List Tight)))) (t68_1 : Int) (m5 : List (List Tight)) : Option ((List (List Tight))) :=
  if t68_1 < a0.layers then
    core_table_L1 a0 t63_1 t68_1 rec2 FU (((0 : Int))) m5
  else
    core_table_k2 t63_1 rec1 m5
def core_table_L2 (a0 : Core) (t63_1 : Int) (rec1 : Int → (List (List Tight)) → Option ((List (List Tight)))) : Nat → Int → (List (List Tight)) → Option ((List (List Tight)))
  | 0, _, _ => none
  | n_ + 1, t68_1, m5 => core_table_B2 a0 t63_1 rec1 (core_table_L2 a0 t63_1 rec1 n_) t68_1 m5
theorem core_table_L2_s {a0 : Core} {t63_1 : Int} {rec1 : Int → (List (List Tight)) → Option ((List (List Tight)))} {m_ : Nat} {t68_1 : Int} {m5 : List (List Tight)} {res : (List (List Tight))} (h : core_table_L2 a0 t63_1 rec1 m_ t68_1 m5 = some res) : ∃ k, m_ = k + 1 ∧ core_table_B2 a0 t63_1 rec1 (core_table_L2 a0 t63_1 rec1 k) t68_1 m5 = some res := by
  cases m_ with
  | zero => cases h
  | succ k => exact ⟨k, rfl, h⟩
def core_table_B3 (a0 : Core) (rec1 : Int → (List (List Tight)) → Option ((List (List Tight)))) (t63_1 : Int) (m6 : List (List Tight)) : Option ((List (List Tight))) :=
  if t63_1 < a0.layers then
    core_table_L2 a0 t63_1 rec1 FU (((0 : Int))) m6
  else
    core_table_k1 m6
def core_table_L3 (a0 : Core) : Nat → Int → (List (List Tight)) → Option ((List (List Tight)))
  | 0, _, _ => none
  | n_ + 1, t63_1, m6 => core_table_B3 a0 (core_table_L3 a0 n_) t63_1 m6
theorem core_table_L3_s {a0 : Core} {m_ : Nat} {t63_1 : Int} {m6 : List (List Tight)} {res : (List (List Tight))} (h : core_table_L3 a0 m_ t63_1 m6 = some res) : ∃ k, m_ = k + 1 ∧ core_table_B3 a0 (core_table_L3 a0 k) t63_1 m6 = some res := by
  cases m_ with
  | zero => cases h
  | succ k => exact ⟨k, rfl, h⟩
def core_table_k4 (a0 : Core) (m7 : List (List Tight)) : Option ((List (List Tight))) :=
  core_table_L3 a0 FU (((0 : Int))) m7
def core_table_B4 (a0 : Core) (rec4 : Int → (List (List Tight)) → Option ((List (List Tight)))) (t35_1 : Int) (m8 : List (List Tight)) : Option ((List (List Tight))) :=
  if t35_1 < ((a0.bounds.length : Int)) then
    ix a0.bounds t35_1 fun x9 =>
    ix m8 x9.a fun x10 =>
    ix m8 x9.a fun x11 =>
    ix x11 x9.b fun x12 =>
    bnd (core_tight_tighter x12 ((⟨true, x9.most⟩ : Tight))) fun r3 =>
    ix x10 x9.b fun x13 =>
    gd (InR (t35_1 + 1)) <|
    rec4 ((t35_1 + 1)) (((m8.set (Int.toNat x9.a) (x10.set (Int.toNat x9.b) r3))))
  else
    core_table_k4 a0 m8
def core_table_L4 (a0 : Core) : Nat → Int → (List (List Tight)) → Option ((List (List Tight)))
  | 0, _, _ => none
  | n_ + 1, t35_1, m8 => core_table_B4 a0 (core_table_L4 a0 n_) t35_1 m8
theorem core_table_L4_s {a0 : Core} {m_ : Nat} {t35_1 : Int} {m8 : List (List Tight)} {res : (List (List Tight))} (h : core_table_L4 a0 m_ t35_1 m8 = some res) : ∃ k, m_ = k + 1 ∧ core_table_B4 a0 (core_table_L4 a0 k) t35_1 m8 = some res := by
  cases m_ with
  | zero => cases h
  | succ k => exact ⟨k, rfl, h⟩
def core_table_k5 (a0 : Core) (m9 : List (List Tight)) : Option ((List (List Tight))) :=
  core_table_L4 a0 FU (((0 : Int))) m9
def core_table_B5 (a0 : Core) (rec5 : Int → (List (List Tight)) → Option ((List (List Tight)))) (t15_1 : Int) (m10 : List (List Tight)) : Option ((List (List Tight))) :=
  if t15_1 < (((List.replicate (Int.toNat a0.layers) (() : Unit)).length : Int)) then
    gd (0 ≤ a0.layers ∧ a0.layers ≤ 1000000) <|
    ix m10 t15_1 fun x14 =>
    ix ((m10.set (Int.toNat t15_1) ((List.replicate (Int.toNat a0.layers) ((⟨false, 0⟩ : Tight) : Tight))))) t15_1 fun x15 =>
    ix x15 t15_1 fun x16 =>
    gd (InR (t15_1 + 1)) <|
    rec5 ((t15_1 + 1)) (((((m10.set (Int.toNat t15_1) ((List.replicate (Int.toNat a0.layers) ((⟨false, 0⟩ : Tight) : Tight))))).set (Int.toNat t15_1) (x15.set (Int.toNat t15_1) ((⟨true, x16.most⟩ : Tight))))))
  else
    core_table_k5 a0 m10
def core_table_L5 (a0 : Core) : Nat → Int → (List (List Tight)) → Option ((List (List Tight)))
  | 0, _, _ => none
  | n_ + 1, t15_1, m10 => core_table_B5 a0 (core_table_L5 a0 n_) t15_1 m10
theorem core_table_L5_s {a0 : Core} {m_ : Nat} {t15_1 : Int} {m10 : List (List Tight)} {res : (List (List Tight))} (h : core_table_L5 a0 m_ t15_1 m10 = some res) : ∃ k, m_ = k + 1 ∧ core_table_B5 a0 (core_table_L5 a0 k) t15_1 m10 = some res := by
  cases m_ with
  | zero => cases h
  | succ k => exact ⟨k, rfl, h⟩
def core_table (a0 : Core) : Option ((List (List Tight))) :=
  gd (0 ≤ a0.layers ∧ a0.layers ≤ 1000000) <|
  core_table_L5 a0 FU (((0 : Int))) (((List.replicate (Int.toNat a0.layers) ([] : List Tight))))
end Go.D3

