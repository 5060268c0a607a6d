/- Lemmas and walks that the proof of this claim uses: TbCoreD. -/
import Derived.Test.YtmjadkjcbaohbaaTbCoreSpec3
import Derived.Test.YtmjadkjcbaohbaaProg
import Derived.KernelRfl
namespace Go.Core
open Go.Tb Go.Proofs
set_option linter.unusedVariables false
set_option linter.unusedSimpArgs false

theorem c58 : callable Try.prog 58 = true := by kernel_rfl
theorem c60 : callable Try.prog 60 = true := by kernel_rfl
theorem c61 : callable Try.prog 61 = true := by kernel_rfl
theorem c66 : callable Try.prog 66 = true := by kernel_rfl
theorem c81 : callable Try.prog 81 = true := by kernel_rfl


set_option maxRecDepth 20000 in
theorem core_tables {c : Core} {A_c_bounds : Option Addr} {c_c_bounds : Nat} {w : World} (h_c_bounds : Sl w A_c_bounds c_c_bounds 3 (c.bounds.map encB)) (hv : validate c = 0) : Calls Try.prog 60 #[.agg #[.int .i64 c.layers, .slice A_c_bounds c.bounds.length c_c_bounds]] w (fun e w' => ∃ (A0 : Option Addr) (c0 : Nat) (hs0 : List (Option Addr × Nat)), e = .returned (.tuple #[.slice A0 (((tables c).1).length) c0, .int .i64 ((tables c).2)]) ∧ Hp w w' [.tab A0 c0 76 hs0 75 2 (encM encT (((tables c).1)))]) := by
  refine calls_of_cw (args := [.agg #[.int .i64 c.layers, .slice A_c_bounds c.bounds.length c_c_bounds]]) Try.func60 rfl rfl rfl rfl ?_
  have H := Hp.start w
  have R0 := H.ext
  refine CW.seq fun K1 hK1 => ?_
  refine CW.region ?_
  refine LW.go rfl rfl (OW.box rfl fun b1 w1 N1 => ?_)
  replace H : Hp w w1 [.blk b1 24 [.int .i64 c.layers, .slice A_c_bounds c.bounds.length c_c_bounds]] := H.new N1 N1.blk
  replace R0 := H.ext
  refine LW.pure rfl rfl (RV.assign rfl) ?_
  refine LW.pure rfl rfl (RV.assign rfl) ?_
  refine LW.nil (hK1 _ _ ?_)
  refine CW.seq fun K2 hK2 => ?_
  refine CW.seq fun K3 hK3 => ?_
  refine CW.region ?_
  refine LW.pure rfl rfl (RV.loadA [.int .i64 c.layers, .slice A_c_bounds c.bounds.length c_c_bounds] k24 rfl (H.blk 0 rfl).cells rfl rfl) ?_
  refine LW.go rfl rfl (OW.call c68 rfl (core_clashes (c := c) (h_c_bounds.ext R0) (hv)) ?_)
  rintro _ w2 ⟨rfl, E1⟩
  refine ⟨_, rfl, ?_⟩
  replace H := H.grow E1
  replace R0 := H.ext
  refine LW.nil (hK3 _ _ ?_)
  refine CW.cond rfl (fun h1 => ?_) (fun h1 => ?_)
  ·
    refine CW.seq fun K4 hK4 => ?_
    refine CW.region ?_
    refine LW.pure rfl rfl (RV.assign rfl) ?_
    refine LW.pure rfl rfl (RV.assign rfl) ?_
    refine LW.nil (hK4 _ _ ?_)
    refine CW.ret ?_
    refine ⟨_, (ResOK.two rfl rfl), ?_⟩
    replace H : Hp w w2 [.tab none 0 76 ([]) 75 2 (encM encT (([] : List (List Tight)))), .blk b1 24 [.int .i64 c.layers, .slice A_c_bounds c.bounds.length c_c_bounds]] := H.nilTab encT 76 75 2
    replace R0 := H.ext
    replace H : Hp w w2 [.tab none 0 76 ([]) 75 2 (encM encT (([] : List (List Tight))))] := H.pick [0] (by decide) rfl
    replace R0 := H.ext
    refine ⟨none, 0, ([]), ?_, ?_⟩
    · simp [tables, h1]
    · have e : (tables c).1 = [] := by simp [tables, h1]
      rw [e]; exact H
  ·
    refine CW.skip (hK2 _ _ ?_)
    refine CW.seq fun K5 hK5 => ?_
    refine CW.region ?_
    refine LW.pure rfl rfl (RV.loadA [.int .i64 c.layers, .slice A_c_bounds c.bounds.length c_c_bounds] k24 rfl (H.blk 0 rfl).cells rfl rfl) ?_
    refine LW.go rfl rfl (OW.call c81 rfl (core_table (c := c) (h_c_bounds.ext R0) (hv) (pot_of hv h1)) ?_)
    rintro _ w3 ⟨A2_0, c2_0, hs2_0, rfl, E2⟩
    refine ⟨_, rfl, ?_⟩
    replace H : Hp w w3 [.tab A2_0 c2_0 76 hs2_0 75 2 (encM encT ((table c))), .blk b1 24 [.int .i64 c.layers, .slice A_c_bounds c.bounds.length c_c_bounds]] := H.append E2
    replace R0 := H.ext
    refine LW.pure rfl rfl (RV.assign rfl) ?_
    refine LW.pure rfl rfl (RV.assign rfl) ?_
    refine LW.nil (hK5 _ _ ?_)
    refine CW.ret ?_
    refine ⟨_, (ResOK.two rfl rfl), ?_⟩
    replace H : Hp w w3 [.tab A2_0 c2_0 76 hs2_0 75 2 (encM encT ((table c)))] := H.pick [0] (by decide) rfl
    replace R0 := H.ext
    refine ⟨A2_0, c2_0, hs2_0, ?_, ?_⟩
    · simp [tables, h1]
    · have e : (tables c).1 = table c := by simp [tables, h1]
      rw [e]; exact H

set_option maxRecDepth 20000 in
theorem core_follows {m : List (List Tight)} {A_m : Option Addr} {c_m : Nat} {x : Bound} {n : Nat} {w : World} (h_m : Sl2 w A_m c_m 2 encT m) (hq : Sq n m) (hn : 0 ≤ x.a ∧ x.a < n ∧ 0 ≤ x.b ∧ x.b < n) : Calls Try.prog 61 #[.slice A_m m.length c_m, .agg #[.int .i64 x.a, .int .i64 x.b, .int .i64 x.most]] w (Ret w (.bool (followsM m x))) := by
  refine calls_of_cw (args := [.slice A_m m.length c_m, .agg #[.int .i64 x.a, .int .i64 x.b, .int .i64 x.most]]) Try.func61 rfl rfl rfl rfl ?_
  have H := Hp.start w
  have R0 := H.ext
  have hqn := hq.len
  refine CW.seq fun K1 hK1 => ?_
  refine CW.region ?_
  refine LW.go rfl rfl (OW.box rfl fun b1 w1 N1 => ?_)
  replace H : Hp w w1 [.blk b1 26 [.int .i64 x.a, .int .i64 x.b, .int .i64 x.most]] := H.new N1 N1.blk
  replace R0 := H.ext
  refine LW.pure rfl rfl (RV.assign rfl) ?_
  refine LW.nil (hK1 _ _ ?_)
  refine CW.seq fun K2 hK2 => ?_
  refine CW.draw [] (fun _ => True) (.cons 0 1 (.cons 1 1 (.cons 2 1 (.cons 3 1 (.cons 4 1 (.cons 5 1 (.cons 6 1 (.cons 7 1 (.cons 8 1 (.cons 9 1 (.cons 10 1 (.cons 11 1 (.cons 12 1 (.cons 13 1 (.cons 14 1 (.cons 15 1 (.cons 16 1 (.cons 17 1 (.cons 18 1 (.cons 19 1 (.cons 20 1 (.cons 21 1 (.cons 22 1 (.cons 23 1 (.cons 24 1 (.cons 25 1 .nil)))))))))))))))))))))))))) mixed (by kernel_rfl) fun w2 E1 => ?_
  replace H := H.grow E1
  replace R0 := H.ext
  refine DW.fix rfl rfl rfl (fun _ EQ => RV.move rfl) ?_
  refine DW.fix rfl rfl rfl (fun _ EQ => RV.fieldAddr f26_0 rfl) ?_
  refine DW.fix rfl rfl rfl (fun _ EQ => RV.load1 k3 rfl (((H.grow EQ).blk 0 rfl).cells.off 0) rfl) ?_
  have hb1 : 0 ≤ ((x.a) : Int) ∧ ((x.a) : Int) < ((m.length : Nat) : Int) := by omega
  obtain ⟨x1, hx1⟩ := ex_at (l := m) (j := Int.toNat x.a) (by first | omega | (simp; omega))
  have hlx1 := hq.rowAt hx1
  obtain ⟨A1, c1, hC1, hS1⟩ := h_m.at_ hx1
  refine DW.fix rfl rfl rfl (fun _ EQ => RV.indexAddr s69 rfl rfl hb1 (h_m.addr hb1)) ?_
  refine DW.fix rfl rfl rfl (fun _ EQ => RV.load1 k76 rfl (hC1.ext (R0.trans EQ)) rfl) ?_
  refine DW.fix rfl rfl rfl (fun _ EQ => RV.fieldAddr f26_1 rfl) ?_
  refine DW.fix rfl rfl rfl (fun _ EQ => RV.load1 k3 rfl (((H.grow EQ).blk 0 rfl).cells.off 1) rfl) ?_
  have hb2 : 0 ≤ ((x.b) : Int) ∧ ((x.b) : Int) < ((x1.length : Nat) : Int) := by omega
  obtain ⟨x2, hx2⟩ := ex_at (l := x1) (j := Int.toNat x.b) (by first | omega | (simp; omega))
  have hmx2 := mg_of hx1 hx2
  refine DW.fix rfl rfl rfl (fun _ EQ => RV.indexAddr s76 rfl rfl hb2 (hS1.addr hb2)) ?_
  refine DW.fix rfl rfl rfl (fun _ EQ => RV.fieldAddr f75_0 rfl) ?_
  refine DW.fix rfl rfl rfl (fun _ EQ => RV.load1 k4 rfl (((hS1.at_ hx2).ext (R0.trans EQ)).off 0) rfl) ?_
  refine DW.fix rfl rfl rfl (fun _ EQ => RV.move rfl) ?_
  cases h1 : x2.known
  ·
    refine DW.fixN rfl rfl rfl rfl rfl rfl ?_
    refine DW.fixN rfl rfl rfl rfl rfl rfl ?_
    refine DW.fixN rfl rfl rfl rfl rfl rfl ?_
    refine DW.fixN rfl rfl rfl rfl rfl rfl ?_
    refine DW.fixN rfl rfl rfl rfl rfl rfl ?_
    refine DW.fixN rfl rfl rfl rfl rfl rfl ?_
    refine DW.fixN rfl rfl rfl rfl rfl rfl ?_
    refine DW.fixN rfl rfl rfl rfl rfl rfl ?_
    refine DW.fixN rfl rfl rfl rfl rfl rfl ?_
    refine DW.fixN rfl rfl rfl rfl rfl rfl ?_
    refine DW.fixN rfl rfl rfl rfl rfl rfl ?_
    refine DW.fixN rfl rfl rfl rfl rfl rfl ?_
    refine DW.fixN rfl rfl rfl rfl rfl rfl ?_
    refine DW.fix rfl rfl rfl (fun _ EQ => RV.pickF rfl rfl) ?_
    refine DW.fix rfl rfl rfl (fun _ EQ => RV.assign rfl) ?_
    refine DW.nil (hK2 _ _ ?_)
    refine CW.ret ?_
    refine ⟨_, (ResOK.one rfl), ?_⟩
    refine ⟨?_, R0⟩
    · simp [followsM, hmx2, h1]
  ·
    refine DW.fixY rfl rfl rfl rfl rfl (fun _ EQ => RV.move rfl) ?_
    refine DW.fixY rfl rfl rfl rfl rfl (fun _ EQ => RV.fieldAddr f26_0 rfl) ?_
    refine DW.fixY rfl rfl rfl rfl rfl (fun _ EQ => RV.load1 k3 rfl (((H.grow EQ).blk 0 rfl).cells.off 0) rfl) ?_
    have hb3 : 0 ≤ ((x.a) : Int) ∧ ((x.a) : Int) < ((m.length : Nat) : Int) := by omega
    have kx1 : m[Int.toNat x.a]? = some x1 := hx1
    obtain ⟨A2, c2, hC2, hS2⟩ := h_m.at_ kx1
    refine DW.fixY rfl rfl rfl rfl rfl (fun _ EQ => RV.indexAddr s69 rfl rfl hb3 (h_m.addr hb3)) ?_
    refine DW.fixY rfl rfl rfl rfl rfl (fun _ EQ => RV.load1 k76 rfl (hC2.ext (R0.trans EQ)) rfl) ?_
    refine DW.fixY rfl rfl rfl rfl rfl (fun _ EQ => RV.fieldAddr f26_1 rfl) ?_
    refine DW.fixY rfl rfl rfl rfl rfl (fun _ EQ => RV.load1 k3 rfl (((H.grow EQ).blk 0 rfl).cells.off 1) rfl) ?_
    have hb4 : 0 ≤ ((x.b) : Int) ∧ ((x.b) : Int) < ((x1.length : Nat) : Int) := by omega
    have kx2 : x1[Int.toNat x.b]? = some x2 := hx2
    refine DW.fixY rfl rfl rfl rfl rfl (fun _ EQ => RV.indexAddr s76 rfl rfl hb4 (hS2.addr hb4)) ?_
    refine DW.fixY rfl rfl rfl rfl rfl (fun _ EQ => RV.fieldAddr f75_1 rfl) ?_
    refine DW.fixY rfl rfl rfl rfl rfl (fun _ EQ => RV.load1 k3 rfl (((hS2.at_ kx2).ext (R0.trans EQ)).off 1) rfl) ?_
    refine DW.fixY rfl rfl rfl rfl rfl (fun _ EQ => RV.fieldAddr f26_2 rfl) ?_
    refine DW.fixY rfl rfl rfl rfl rfl (fun _ EQ => RV.load1 k3 rfl (((H.grow EQ).blk 0 rfl).cells.off 2) rfl) ?_
    refine DW.fixY rfl rfl rfl rfl rfl (fun _ EQ => RV.leq rfl rfl) ?_
    refine DW.fix rfl rfl rfl (fun _ EQ => RV.pickT rfl rfl) ?_
    refine DW.fix rfl rfl rfl (fun _ EQ => RV.assign rfl) ?_
    refine DW.nil (hK2 _ _ ?_)
    refine CW.ret ?_
    refine ⟨_, (ResOK.one rfl), ?_⟩
    refine ⟨?_, R0⟩
    · simp [followsM, hmx2, h1]

set_option maxRecDepth 20000 in
theorem core_fixed {m : List (List Tight)} {A_m : Option Addr} {c_m : Nat} {a : Int} {b : Int} {n : Nat} {w : World} (h_m : Sl2 w A_m c_m 2 encT m) (hq : Sq n m) (hn : 0 ≤ a ∧ a < n ∧ 0 ≤ b ∧ b < n) (hb : ∀ i j : Nat, i < n → j < n → -2560000 ≤ (mg m i j).most ∧ (mg m i j).most ≤ 2560000) : Calls Try.prog 66 #[.slice A_m m.length c_m, .int .i64 a, .int .i64 b] w (Ret w (.bool (fixedM m a b))) := by
  refine calls_of_cw (args := [.slice A_m m.length c_m, .int .i64 a, .int .i64 b]) Try.func66 rfl rfl rfl rfl ?_
  have H := Hp.start w
  have R0 := H.ext
  have hqn := hq.len
  refine CW.seq fun K1 hK1 => ?_
  refine CW.region ?_
  refine LW.pure rfl rfl (RV.assign rfl) ?_
  refine LW.nil (hK1 _ _ ?_)
  refine CW.seq fun K2 hK2 => ?_
  refine CW.draw [] (fun _ => True) (.cons 0 1 (.cons 1 1 (.cons 2 1 (.cons 3 1 (.cons 4 1 (.cons 5 1 (.cons 6 1 (.cons 7 1 (.cons 8 1 (.cons 9 1 (.cons 10 1 (.cons 11 1 (.cons 12 1 (.cons 13 1 (.cons 14 1 (.cons 15 1 (.cons 16 1 (.cons 17 1 (.cons 18 1 (.cons 19 1 (.cons 20 1 (.cons 21 1 (.cons 22 1 (.cons 23 1 (.cons 24 1 (.cons 25 1 (.cons 26 1 (.cons 27 1 (.cons 28 1 (.cons 29 1 (.cons 30 1 (.cons 31 1 (.cons 32 1 (.cons 33 1 (.cons 34 1 (.cons 35 1 (.cons 36 1 (.cons 37 1 (.cons 38 1 .nil))))))))))))))))))))))))))))))))))))))) mixed (by kernel_rfl) fun w1 E1 => ?_
  replace H := H.grow E1
  replace R0 := H.ext
  refine DW.fix rfl rfl rfl (fun _ EQ => RV.move rfl) ?_
  refine DW.fix rfl rfl rfl (fun _ EQ => RV.move rfl) ?_
  have hb1 : 0 ≤ ((a) : Int) ∧ ((a) : Int) < ((m.length : Nat) : Int) := by omega
  obtain ⟨x1, hx1⟩ := ex_at (l := m) (j := Int.toNat a) (by first | omega | (simp; omega))
  have hlx1 := hq.rowAt hx1
  obtain ⟨A1, c1, hC1, hS1⟩ := h_m.at_ hx1
  refine DW.fix rfl rfl rfl (fun _ EQ => RV.indexAddr s69 rfl rfl hb1 (h_m.addr hb1)) ?_
  refine DW.fix rfl rfl rfl (fun _ EQ => RV.load1 k76 rfl (hC1.ext (R0.trans EQ)) rfl) ?_
  refine DW.fix rfl rfl rfl (fun _ EQ => RV.move rfl) ?_
  have hb2 : 0 ≤ ((b) : Int) ∧ ((b) : Int) < ((x1.length : Nat) : Int) := by omega
  obtain ⟨x2, hx2⟩ := ex_at (l := x1) (j := Int.toNat b) (by first | omega | (simp; omega))
  have hmx2 := mg_of hx1 hx2
  try have hbx2 := hb b.toNat a.toNat (by omega) (by omega); rw [hmx2] at hbx2
  refine DW.fix rfl rfl rfl (fun _ EQ => RV.indexAddr s76 rfl rfl hb2 (hS1.addr hb2)) ?_
  refine DW.fix rfl rfl rfl (fun _ EQ => RV.fieldAddr f75_0 rfl) ?_
  refine DW.fix rfl rfl rfl (fun _ EQ => RV.load1 k4 rfl (((hS1.at_ hx2).ext (R0.trans EQ)).off 0) rfl) ?_
  refine DW.fix rfl rfl rfl (fun _ EQ => RV.move rfl) ?_
  cases h1 : x2.known
  ·
    refine DW.fixN rfl rfl rfl rfl rfl rfl ?_
    refine DW.fixN rfl rfl rfl rfl rfl rfl ?_
    refine DW.fixN rfl rfl rfl rfl rfl rfl ?_
    refine DW.fixN rfl rfl rfl rfl rfl rfl ?_
    refine DW.fixN rfl rfl rfl rfl rfl rfl ?_
    refine DW.fixN rfl rfl rfl rfl rfl rfl ?_
    refine DW.fixN rfl rfl rfl rfl rfl rfl ?_
    refine DW.fixN rfl rfl rfl rfl rfl rfl ?_
    refine DW.fix rfl rfl rfl (fun _ EQ => RV.pickF rfl rfl) ?_
    refine DW.fix rfl rfl rfl (fun _ EQ => RV.move rfl) ?_
    refine DW.fixN rfl rfl rfl rfl rfl rfl ?_
    refine DW.fixN rfl rfl rfl rfl rfl rfl ?_
    refine DW.fixN rfl rfl rfl rfl rfl rfl ?_
    refine DW.fixN rfl rfl rfl rfl rfl rfl ?_
    refine DW.fixN rfl rfl rfl rfl rfl rfl ?_
    refine DW.fixN rfl rfl rfl rfl rfl rfl ?_
    refine DW.fixN rfl rfl rfl rfl rfl rfl ?_
    refine DW.fixN rfl rfl rfl rfl rfl rfl ?_
    refine DW.fixN rfl rfl rfl rfl rfl rfl ?_
    refine DW.fixN rfl rfl rfl rfl rfl rfl ?_
    refine DW.fixN rfl rfl rfl rfl rfl rfl ?_
    refine DW.fixN rfl rfl rfl rfl rfl rfl ?_
    refine DW.fixN rfl rfl rfl rfl rfl rfl ?_
    refine DW.fixN rfl rfl rfl rfl rfl rfl ?_
    refine DW.fixN rfl rfl rfl rfl rfl rfl ?_
    refine DW.fixN rfl rfl rfl rfl rfl rfl ?_
    refine DW.fixN rfl rfl rfl rfl rfl rfl ?_
    refine DW.fixN rfl rfl rfl rfl rfl rfl ?_
    refine DW.fix rfl rfl rfl (fun _ EQ => RV.pickF rfl rfl) ?_
    refine DW.fix rfl rfl rfl (fun _ EQ => RV.assign rfl) ?_
    refine DW.nil (hK2 _ _ ?_)
    refine CW.ret ?_
    refine ⟨_, (ResOK.one rfl), ?_⟩
    refine ⟨?_, R0⟩
    · simp [fixedM, hmx2, h1]
  ·
    refine DW.fixY rfl rfl rfl rfl rfl (fun _ EQ => RV.move rfl) ?_
    refine DW.fixY rfl rfl rfl rfl rfl (fun _ EQ => RV.move rfl) ?_
    have hb3 : 0 ≤ ((b) : Int) ∧ ((b) : Int) < ((m.length : Nat) : Int) := by omega
    obtain ⟨x3, hx3⟩ := ex_at (l := m) (j := Int.toNat b) (by first | omega | (simp; omega))
    have hlx3 := hq.rowAt hx3
    obtain ⟨A2, c2, hC2, hS2⟩ := h_m.at_ hx3
    refine DW.fixY rfl rfl rfl rfl rfl (fun _ EQ => RV.indexAddr s69 rfl rfl hb3 (h_m.addr hb3)) ?_
    refine DW.fixY rfl rfl rfl rfl rfl (fun _ EQ => RV.load1 k76 rfl (hC2.ext (R0.trans EQ)) rfl) ?_
    refine DW.fixY rfl rfl rfl rfl rfl (fun _ EQ => RV.move rfl) ?_
    have hb4 : 0 ≤ ((a) : Int) ∧ ((a) : Int) < ((x3.length : Nat) : Int) := by omega
    obtain ⟨x4, hx4⟩ := ex_at (l := x3) (j := Int.toNat a) (by first | omega | (simp; omega))
    have hmx4 := mg_of hx3 hx4
    try have hbx4 := hb b.toNat a.toNat (by omega) (by omega); rw [hmx4] at hbx4
    refine DW.fixY rfl rfl rfl rfl rfl (fun _ EQ => RV.indexAddr s76 rfl rfl hb4 (hS2.addr hb4)) ?_
    refine DW.fixY rfl rfl rfl rfl rfl (fun _ EQ => RV.fieldAddr f75_0 rfl) ?_
    refine DW.fixY rfl rfl rfl rfl rfl (fun _ EQ => RV.load1 k4 rfl (((hS2.at_ hx4).ext (R0.trans EQ)).off 0) rfl) ?_
    refine DW.fix rfl rfl rfl (fun _ EQ => RV.pickT rfl rfl) ?_
    refine DW.fix rfl rfl rfl (fun _ EQ => RV.move rfl) ?_
    cases h2 : x4.known
    ·
      refine DW.fixN rfl rfl rfl rfl rfl rfl ?_
      refine DW.fixN rfl rfl rfl rfl rfl rfl ?_
      refine DW.fixN rfl rfl rfl rfl rfl rfl ?_
      refine DW.fixN rfl rfl rfl rfl rfl rfl ?_
      refine DW.fixN rfl rfl rfl rfl rfl rfl ?_
      refine DW.fixN rfl rfl rfl rfl rfl rfl ?_
      refine DW.fixN rfl rfl rfl rfl rfl rfl ?_
      refine DW.fixN rfl rfl rfl rfl rfl rfl ?_
      refine DW.fixN rfl rfl rfl rfl rfl rfl ?_
      refine DW.fixN rfl rfl rfl rfl rfl rfl ?_
      refine DW.fixN rfl rfl rfl rfl rfl rfl ?_
      refine DW.fixN rfl rfl rfl rfl rfl rfl ?_
      refine DW.fixN rfl rfl rfl rfl rfl rfl ?_
      refine DW.fixN rfl rfl rfl rfl rfl rfl ?_
      refine DW.fixN rfl rfl rfl rfl rfl rfl ?_
      refine DW.fixN rfl rfl rfl rfl rfl rfl ?_
      refine DW.fixN rfl rfl rfl rfl rfl rfl ?_
      refine DW.fixN rfl rfl rfl rfl rfl rfl ?_
      refine DW.fix rfl rfl rfl (fun _ EQ => RV.pickF rfl rfl) ?_
      refine DW.fix rfl rfl rfl (fun _ EQ => RV.assign rfl) ?_
      refine DW.nil (hK2 _ _ ?_)
      refine CW.ret ?_
      refine ⟨_, (ResOK.one rfl), ?_⟩
      refine ⟨?_, R0⟩
      · simp [fixedM, hmx2, h1, hmx4, h2]
    ·
      refine DW.fixY rfl rfl rfl rfl rfl (fun _ EQ => RV.move rfl) ?_
      refine DW.fixY rfl rfl rfl rfl rfl (fun _ EQ => RV.move rfl) ?_
      have hb5 : 0 ≤ ((a) : Int) ∧ ((a) : Int) < ((m.length : Nat) : Int) := by omega
      have kx1 : m[Int.toNat a]? = some x1 := hx1
      obtain ⟨A3, c3, hC3, hS3⟩ := h_m.at_ kx1
      refine DW.fixY rfl rfl rfl rfl rfl (fun _ EQ => RV.indexAddr s69 rfl rfl hb5 (h_m.addr hb5)) ?_
      refine DW.fixY rfl rfl rfl rfl rfl (fun _ EQ => RV.load1 k76 rfl (hC3.ext (R0.trans EQ)) rfl) ?_
      refine DW.fixY rfl rfl rfl rfl rfl (fun _ EQ => RV.move rfl) ?_
      have hb6 : 0 ≤ ((b) : Int) ∧ ((b) : Int) < ((x1.length : Nat) : Int) := by omega
      have kx2 : x1[Int.toNat b]? = some x2 := hx2
      refine DW.fixY rfl rfl rfl rfl rfl (fun _ EQ => RV.indexAddr s76 rfl rfl hb6 (hS3.addr hb6)) ?_
      refine DW.fixY rfl rfl rfl rfl rfl (fun _ EQ => RV.fieldAddr f75_1 rfl) ?_
      refine DW.fixY rfl rfl rfl rfl rfl (fun _ EQ => RV.load1 k3 rfl (((hS3.at_ kx2).ext (R0.trans EQ)).off 1) rfl) ?_
      refine DW.fixY rfl rfl rfl rfl rfl (fun _ EQ => RV.move rfl) ?_
      refine DW.fixY rfl rfl rfl rfl rfl (fun _ EQ => RV.move rfl) ?_
      have hb7 : 0 ≤ ((b) : Int) ∧ ((b) : Int) < ((m.length : Nat) : Int) := by omega
      have kx3 : m[Int.toNat b]? = some x3 := hx3
      obtain ⟨A4, c4, hC4, hS4⟩ := h_m.at_ kx3
      refine DW.fixY rfl rfl rfl rfl rfl (fun _ EQ => RV.indexAddr s69 rfl rfl hb7 (h_m.addr hb7)) ?_
      refine DW.fixY rfl rfl rfl rfl rfl (fun _ EQ => RV.load1 k76 rfl (hC4.ext (R0.trans EQ)) rfl) ?_
      refine DW.fixY rfl rfl rfl rfl rfl (fun _ EQ => RV.move rfl) ?_
      have hb8 : 0 ≤ ((a) : Int) ∧ ((a) : Int) < ((x3.length : Nat) : Int) := by omega
      have kx4 : x3[Int.toNat a]? = some x4 := hx4
      refine DW.fixY rfl rfl rfl rfl rfl (fun _ EQ => RV.indexAddr s76 rfl rfl hb8 (hS4.addr hb8)) ?_
      refine DW.fixY rfl rfl rfl rfl rfl (fun _ EQ => RV.fieldAddr f75_1 rfl) ?_
      refine DW.fixY rfl rfl rfl rfl rfl (fun _ EQ => RV.load1 k3 rfl (((hS4.at_ kx4).ext (R0.trans EQ)).off 1) rfl) ?_
      refine DW.fixY rfl rfl rfl rfl rfl (fun _ EQ => RV.neg rfl (by omega)) ?_
      refine DW.fixY rfl rfl rfl rfl rfl (fun _ EQ => RV.eqi rfl rfl) ?_
      refine DW.fix rfl rfl rfl (fun _ EQ => RV.pickT rfl rfl) ?_
      refine DW.fix rfl rfl rfl (fun _ EQ => RV.assign rfl) ?_
      refine DW.nil (hK2 _ _ ?_)
      refine CW.ret ?_
      refine ⟨_, (ResOK.one rfl), ?_⟩
      refine ⟨?_, R0⟩
      · simp [fixedM, hmx2, h1, hmx4, h2]

set_option maxRecDepth 20000 in
theorem core_Tightest {c : Core} {A_c_bounds : Option Addr} {c_c_bounds : Nat} {a : Int} {b : Int} {w : World} (h_c_bounds : Sl w A_c_bounds c_c_bounds 3 (c.bounds.map encB)) : Calls Try.prog 21 #[.agg #[.int .i64 c.layers, .slice A_c_bounds c.bounds.length c_c_bounds], .int .i64 a, .int .i64 b] w (Ret w (.tuple #[.int .i64 ((tightest c a b).1), .bool ((tightest c a b).2.1), .int .i64 ((tightest c a b).2.2)])) := by
  refine calls_of_cw (args := [.agg #[.int .i64 c.layers, .slice A_c_bounds c.bounds.length c_c_bounds], .int .i64 a, .int .i64 b]) Try.func21 rfl rfl rfl rfl ?_
  have H := Hp.start w
  have R0 := H.ext
  refine CW.seq fun K1 hK1 => ?_
  refine CW.region ?_
  refine LW.go rfl rfl (OW.box rfl fun b1 w1 N1 => ?_)
  replace H : Hp w w1 [.blk b1 24 [.int .i64 c.layers, .slice A_c_bounds c.bounds.length c_c_bounds]] := H.new N1 N1.blk
  replace R0 := H.ext
  refine LW.pure rfl rfl (RV.assign rfl) ?_
  refine LW.pure rfl rfl (RV.assign rfl) ?_
  refine LW.pure rfl rfl (RV.assign rfl) ?_
  refine LW.nil (hK1 _ _ ?_)
  refine CW.seq fun K2 hK2 => ?_
  refine CW.seq fun K3 hK3 => ?_
  refine CW.region ?_
  refine LW.pure rfl rfl (RV.loadA [.int .i64 c.layers, .slice A_c_bounds c.bounds.length c_c_bounds] k24 rfl (H.blk 0 rfl).cells rfl rfl) ?_
  refine LW.pure rfl rfl (RV.move rfl) ?_
  refine LW.pure rfl rfl (RV.move rfl) ?_
  refine LW.go rfl rfl (OW.buildSlice (e := 3) (vs := [.int .i64 a, .int .i64 b]) (cs := [.int .i64 a, .int .i64 b]) rfl (fun _ => by kernel_rfl) fun b2 w2 N2 => ?_)
  replace H : Hp w w2 [.own (some ⟨b2, 0, none⟩) 2 3 1 (List.map encI (([a, b] : List Int))), .blk b1 24 [.int .i64 c.layers, .slice A_c_bounds c.bounds.length c_c_bounds]] := H.made' (enc := encI) (l := ([a, b] : List Int)) N2 N2.blk (fun _ => rfl) (by simp) (by first | decide | omega | simp)
  replace R0 := H.ext
  refine LW.go rfl rfl (OW.call c58 rfl (core_layers (c := c) (l := ([a, b] : List Int)) (h_c_bounds.ext R0) (H.own 0 rfl).sl) ?_)
  rintro _ w3 ⟨rfl, E1⟩
  refine ⟨_, rfl, ?_⟩
  replace H := H.grow E1
  replace R0 := H.ext
  refine LW.pure rfl rfl (RV.assign rfl) ?_
  refine LW.nil (hK3 _ _ ?_)
  refine CW.seq fun K4 hK4 => ?_
  refine CW.region ?_
  refine LW.pure rfl rfl (RV.move rfl) ?_
  refine LW.pure rfl rfl (RV.nei rfl rfl) ?_
  refine LW.nil (hK4 _ _ ?_)
  refine CW.cond rfl (fun h1 => ?_) (fun h1 => ?_)
  ·
    have h1 := (Bool.not_eq_true' _).mp h1
    have h1 := of_decide_eq_false h1
    refine CW.seq fun K5 hK5 => ?_
    refine CW.region ?_
    refine LW.pure rfl rfl (RV.move rfl) ?_
    refine LW.pure rfl rfl (RV.assign rfl) ?_
    refine LW.pure rfl rfl (RV.assign rfl) ?_
    refine LW.pure rfl rfl (RV.assign rfl) ?_
    refine LW.nil (hK5 _ _ ?_)
    refine CW.ret ?_
    refine ⟨_, (ResOK.three rfl rfl rfl), ?_⟩
    refine ⟨?_, R0⟩
    · simp [tightest, h1]
  ·
    have h1 := (Bool.not_eq_false' _).mp h1
    have h1 := of_decide_eq_true h1
    have h1e := layers_ok2 h1
    have hvv := validate_ok h1e.1
    refine CW.skip (hK2 _ _ ?_)
    refine CW.seq fun K6 hK6 => ?_
    refine CW.region ?_
    refine LW.pure rfl rfl (RV.loadA [.int .i64 c.layers, .slice A_c_bounds c.bounds.length c_c_bounds] k24 rfl (H.blk 1 rfl).cells rfl rfl) ?_
    refine LW.go rfl rfl (OW.call c60 rfl (core_tables (c := c) (h_c_bounds.ext R0) (h1e.1)) ?_)
    rintro _ w4 ⟨A2_0, c2_0, hs2_0, rfl, E2⟩
    refine ⟨_, rfl, ?_⟩
    replace H : Hp w w4 [.tab A2_0 c2_0 76 hs2_0 75 2 (encM encT (((tables c).1))), .own (some ⟨b2, 0, none⟩) 2 3 1 (List.map encI (([a, b] : List Int))), .blk b1 24 [.int .i64 c.layers, .slice A_c_bounds c.bounds.length c_c_bounds]] := H.append E2
    replace R0 := H.ext
    refine LW.pure rfl rfl (RV.move rfl) ?_
    refine LW.pure rfl rfl (RV.extract rfl rfl) ?_
    refine LW.pure rfl rfl (RV.extract rfl rfl) ?_
    refine LW.pure rfl rfl (RV.assign rfl) ?_
    refine LW.pure rfl rfl (RV.assign rfl) ?_
    refine LW.nil (hK6 _ _ ?_)
    refine CW.seq fun K7 hK7 => ?_
    refine CW.seq fun K8 hK8 => ?_
    refine CW.region ?_
    refine LW.pure rfl rfl (RV.move rfl) ?_
    refine LW.pure rfl rfl (RV.nei rfl rfl) ?_
    refine LW.pure rfl rfl (RV.move rfl) ?_
    cases h2 : !(decide (((tables c).2) = 0))
    ·
      have h2 := (Bool.not_eq_false' _).mp h2
      have h2 := of_decide_eq_true h2
      obtain ⟨hcl, hte, hT⟩ := tables_ok h1e.1 h2
      have hTl := hT.sq.len
      refine LW.pureY rfl rfl rfl rfl (RV.move rfl) ?_
      refine LW.pureY rfl rfl rfl rfl (RV.move rfl) ?_
      have hb1 : 0 ≤ ((a) : Int) ∧ ((a) : Int) < ((((tables c).1).length : Nat) : Int) := by omega
      obtain ⟨x1, hx1⟩ := ex_at (l := ((tables c).1)) (j := Int.toNat a) (by first | omega | (simp; omega))
      have hlx1 := hT.sq.rowAt hx1
      obtain ⟨B1, e1, hh1⟩ := (H.tab 0 rfl).hd hx1
      refine LW.pureY rfl rfl rfl rfl (RV.indexAddr s69 rfl rfl hb1 ((H.tab 0 rfl).addr_ hx1)) ?_
      refine LW.pureY rfl rfl rfl rfl (RV.load1 k76 rfl ((H.tab 0 rfl).cell hx1 hh1) rfl) ?_
      refine LW.pureY rfl rfl rfl rfl (RV.move rfl) ?_
      have hb2 : 0 ≤ ((b) : Int) ∧ ((b) : Int) < ((x1.length : Nat) : Int) := by omega
      obtain ⟨x2, hx2⟩ := ex_at (l := x1) (j := Int.toNat b) (by first | omega | (simp; omega))
      have hmx2 := mg_of hx1 hx2
      refine LW.pureY rfl rfl rfl rfl (RV.indexAddr s76 rfl rfl hb2 (((H.tab 0 rfl).rowO hx1 hh1).sl.addr_ hx2)) ?_
      refine LW.pureY rfl rfl rfl rfl (RV.fieldAddr f75_0 rfl) ?_
      refine LW.pureY rfl rfl rfl rfl (RV.load1 k4 rfl ((((H.tab 0 rfl).rowO hx1 hh1).sl.at_ hx2).off 0) rfl) ?_
      refine LW.pureY rfl rfl rfl rfl (RV.not rfl) ?_
      refine LW.pure rfl rfl (RV.pickF rfl rfl) ?_
      refine LW.nil (hK8 _ _ ?_)
      refine CW.cond rfl (fun h3 => ?_) (fun h3 => ?_)
      ·
        have h3 := (Bool.not_eq_true' _).mp h3
        refine CW.seq fun K9 hK9 => ?_
        refine CW.region ?_
        refine LW.pure rfl rfl (RV.move rfl) ?_
        refine LW.pure rfl rfl (RV.assign rfl) ?_
        refine LW.pure rfl rfl (RV.assign rfl) ?_
        refine LW.pure rfl rfl (RV.assign rfl) ?_
        refine LW.nil (hK9 _ _ ?_)
        refine CW.ret ?_
        refine ⟨_, (ResOK.three rfl rfl rfl), ?_⟩
        refine ⟨?_, R0⟩
        · simp [tightest, h1, hcl, ← hte, hmx2, h3, h2]
      ·
        have h3 := (Bool.not_eq_false' _).mp h3
        refine CW.skip (hK7 _ _ ?_)
        refine CW.seq fun K10 hK10 => ?_
        refine CW.region ?_
        refine LW.pure rfl rfl (RV.move rfl) ?_
        refine LW.pure rfl rfl (RV.move rfl) ?_
        have hb3 : 0 ≤ ((a) : Int) ∧ ((a) : Int) < ((((tables c).1).length : Nat) : Int) := by omega
        have kx1 : (((tables c).1))[Int.toNat a]? = some x1 := hx1
        obtain ⟨B2, e2, hh2⟩ := (H.tab 0 rfl).hd kx1
        refine LW.pure rfl rfl (RV.indexAddr s69 rfl rfl hb3 ((H.tab 0 rfl).addr_ kx1)) ?_
        refine LW.pure rfl rfl (RV.load1 k76 rfl ((H.tab 0 rfl).cell kx1 hh2) rfl) ?_
        refine LW.pure rfl rfl (RV.move rfl) ?_
        have hb4 : 0 ≤ ((b) : Int) ∧ ((b) : Int) < ((x1.length : Nat) : Int) := by omega
        have kx2 : x1[Int.toNat b]? = some x2 := hx2
        refine LW.pure rfl rfl (RV.indexAddr s76 rfl rfl hb4 (((H.tab 0 rfl).rowO kx1 hh2).sl.addr_ kx2)) ?_
        refine LW.pure rfl rfl (RV.fieldAddr f75_1 rfl) ?_
        refine LW.pure rfl rfl (RV.load1 k3 rfl ((((H.tab 0 rfl).rowO kx1 hh2).sl.at_ kx2).off 1) rfl) ?_
        refine LW.pure rfl rfl (RV.assign rfl) ?_
        refine LW.pure rfl rfl (RV.assign rfl) ?_
        refine LW.pure rfl rfl (RV.assign rfl) ?_
        refine LW.nil (hK10 _ _ ?_)
        refine CW.ret ?_
        refine ⟨_, (ResOK.three rfl rfl rfl), ?_⟩
        refine ⟨?_, R0⟩
        · simp [tightest, h1, hcl, ← hte, hmx2, h3]
    ·
      have h2 := (Bool.not_eq_true' _).mp h2
      have h2 := of_decide_eq_false h2
      obtain ⟨hcl, hce⟩ := tables_no h2
      refine LW.no rfl rfl rfl rfl rfl ?_
      refine LW.no rfl rfl rfl rfl rfl ?_
      refine LW.no rfl rfl rfl rfl rfl ?_
      refine LW.no rfl rfl rfl rfl rfl ?_
      refine LW.no rfl rfl rfl rfl rfl ?_
      refine LW.no rfl rfl rfl rfl rfl ?_
      refine LW.no rfl rfl rfl rfl rfl ?_
      refine LW.no rfl rfl rfl rfl rfl ?_
      refine LW.no rfl rfl rfl rfl rfl ?_
      refine LW.pure rfl rfl (RV.pickT rfl rfl) ?_
      refine LW.nil (hK8 _ _ ?_)
      refine CW.cond rfl (fun _ => ?_) (fun h => by cases h)
      refine CW.seq fun K11 hK11 => ?_
      refine CW.region ?_
      refine LW.pure rfl rfl (RV.move rfl) ?_
      refine LW.pure rfl rfl (RV.assign rfl) ?_
      refine LW.pure rfl rfl (RV.assign rfl) ?_
      refine LW.pure rfl rfl (RV.assign rfl) ?_
      refine LW.nil (hK11 _ _ ?_)
      refine CW.ret ?_
      refine ⟨_, (ResOK.three rfl rfl rfl), ?_⟩
      refine ⟨?_, R0⟩
      · simp [tightest, h1, hcl, hce]

set_option maxRecDepth 20000 in
theorem core_Follows {c : Core} {A_c_bounds : Option Addr} {c_c_bounds : Nat} {x : Bound} {w : World} (h_c_bounds : Sl w A_c_bounds c_c_bounds 3 (c.bounds.map encB)) : Calls Try.prog 19 #[.agg #[.int .i64 c.layers, .slice A_c_bounds c.bounds.length c_c_bounds], .agg #[.int .i64 x.a, .int .i64 x.b, .int .i64 x.most]] w (Ret w (.tuple #[.bool ((follows c x).1), .int .i64 ((follows c x).2)])) := by
  refine calls_of_cw (args := [.agg #[.int .i64 c.layers, .slice A_c_bounds c.bounds.length c_c_bounds], .agg #[.int .i64 x.a, .int .i64 x.b, .int .i64 x.most]]) Try.func19 rfl rfl rfl rfl ?_
  have H := Hp.start w
  have R0 := H.ext
  refine CW.seq fun K1 hK1 => ?_
  refine CW.region ?_
  refine LW.go rfl rfl (OW.box rfl fun b1 w1 N1 => ?_)
  replace H : Hp w w1 [.blk b1 24 [.int .i64 c.layers, .slice A_c_bounds c.bounds.length c_c_bounds]] := H.new N1 N1.blk
  replace R0 := H.ext
  refine LW.go rfl rfl (OW.box rfl fun b2 w2 N2 => ?_)
  replace H : Hp w w2 [.blk b2 26 [.int .i64 x.a, .int .i64 x.b, .int .i64 x.most], .blk b1 24 [.int .i64 c.layers, .slice A_c_bounds c.bounds.length c_c_bounds]] := H.new N2 N2.blk
  replace R0 := H.ext
  refine LW.pure rfl rfl (RV.assign rfl) ?_
  refine LW.pure rfl rfl (RV.assign rfl) ?_
  refine LW.nil (hK1 _ _ ?_)
  refine CW.seq fun K2 hK2 => ?_
  refine CW.seq fun K3 hK3 => ?_
  refine CW.region ?_
  refine LW.pure rfl rfl (RV.loadA [.int .i64 c.layers, .slice A_c_bounds c.bounds.length c_c_bounds] k24 rfl (H.blk 1 rfl).cells rfl rfl) ?_
  refine LW.pure rfl rfl (RV.fieldAddr f26_0 rfl) ?_
  refine LW.pure rfl rfl (RV.load1 k3 rfl ((H.blk 0 rfl).cells.off 0) rfl) ?_
  refine LW.pure rfl rfl (RV.fieldAddr f26_1 rfl) ?_
  refine LW.pure rfl rfl (RV.load1 k3 rfl ((H.blk 0 rfl).cells.off 1) rfl) ?_
  refine LW.go rfl rfl (OW.buildSlice (e := 3) (vs := [.int .i64 x.a, .int .i64 x.b]) (cs := [.int .i64 x.a, .int .i64 x.b]) rfl (fun _ => by kernel_rfl) fun b3 w3 N3 => ?_)
  replace H : Hp w w3 [.own (some ⟨b3, 0, none⟩) 2 3 1 (List.map encI (([x.a, x.b] : List Int))), .blk b2 26 [.int .i64 x.a, .int .i64 x.b, .int .i64 x.most], .blk b1 24 [.int .i64 c.layers, .slice A_c_bounds c.bounds.length c_c_bounds]] := H.made' (enc := encI) (l := ([x.a, x.b] : List Int)) N3 N3.blk (fun _ => rfl) (by simp) (by first | decide | omega | simp)
  replace R0 := H.ext
  refine LW.go rfl rfl (OW.call c58 rfl (core_layers (c := c) (l := ([x.a, x.b] : List Int)) (h_c_bounds.ext R0) (H.own 0 rfl).sl) ?_)
  rintro _ w4 ⟨rfl, E1⟩
  refine ⟨_, rfl, ?_⟩
  replace H := H.grow E1
  replace R0 := H.ext
  refine LW.pure rfl rfl (RV.assign rfl) ?_
  refine LW.nil (hK3 _ _ ?_)
  refine CW.seq fun K4 hK4 => ?_
  refine CW.region ?_
  refine LW.pure rfl rfl (RV.move rfl) ?_
  refine LW.pure rfl rfl (RV.nei rfl rfl) ?_
  refine LW.nil (hK4 _ _ ?_)
  refine CW.cond rfl (fun h1 => ?_) (fun h1 => ?_)
  ·
    have h1 := (Bool.not_eq_true' _).mp h1
    have h1 := of_decide_eq_false h1
    refine CW.seq fun K5 hK5 => ?_
    refine CW.region ?_
    refine LW.pure rfl rfl (RV.move rfl) ?_
    refine LW.pure rfl rfl (RV.assign rfl) ?_
    refine LW.pure rfl rfl (RV.assign rfl) ?_
    refine LW.nil (hK5 _ _ ?_)
    refine CW.ret ?_
    refine ⟨_, (ResOK.two rfl rfl), ?_⟩
    refine ⟨?_, R0⟩
    · simp [follows, h1]
  ·
    have h1 := (Bool.not_eq_false' _).mp h1
    have h1 := of_decide_eq_true h1
    have h1e := layers_ok2 h1
    have hvv := validate_ok h1e.1
    refine CW.skip (hK2 _ _ ?_)
    refine CW.seq fun K6 hK6 => ?_
    refine CW.seq fun K7 hK7 => ?_
    refine CW.region ?_
    refine LW.pure rfl rfl (RV.loadA [.int .i64 x.a, .int .i64 x.b, .int .i64 x.most] k26 rfl (H.blk 1 rfl).cells rfl rfl) ?_
    refine LW.pure rfl rfl (RV.fieldAddr f24_0 rfl) ?_
    refine LW.pure rfl rfl (RV.load1 k3 rfl ((H.blk 2 rfl).cells.off 0) rfl) ?_
    refine LW.go rfl rfl (OW.call c59 rfl (core_right (x := x) (layers := c.layers) (by omega)) ?_)
    rintro _ w5 ⟨rfl, E2⟩
    refine ⟨_, rfl, ?_⟩
    replace H := H.grow E2
    replace R0 := H.ext
    refine LW.pure rfl rfl (RV.not rfl) ?_
    refine LW.nil (hK7 _ _ ?_)
    refine CW.cond rfl (fun h2 => ?_) (fun h2 => ?_)
    ·
      have h2 := (Bool.not_eq_true' _).mp h2
      refine CW.seq fun K8 hK8 => ?_
      refine CW.region ?_
      refine LW.pure rfl rfl (RV.assign rfl) ?_
      refine LW.pure rfl rfl (RV.assign rfl) ?_
      refine LW.nil (hK8 _ _ ?_)
      refine CW.ret ?_
      refine ⟨_, (ResOK.two rfl rfl), ?_⟩
      refine ⟨?_, R0⟩
      · simp [follows, h1, h2]
    ·
      have h2 := (Bool.not_eq_false' _).mp h2
      refine CW.skip (hK6 _ _ ?_)
      refine CW.seq fun K9 hK9 => ?_
      refine CW.region ?_
      refine LW.pure rfl rfl (RV.loadA [.int .i64 c.layers, .slice A_c_bounds c.bounds.length c_c_bounds] k24 rfl (H.blk 2 rfl).cells rfl rfl) ?_
      refine LW.go rfl rfl (OW.call c60 rfl (core_tables (c := c) (h_c_bounds.ext R0) (h1e.1)) ?_)
      rintro _ w6 ⟨A3_0, c3_0, hs3_0, rfl, E3⟩
      refine ⟨_, rfl, ?_⟩
      replace H : Hp w w6 [.tab A3_0 c3_0 76 hs3_0 75 2 (encM encT (((tables c).1))), .own (some ⟨b3, 0, none⟩) 2 3 1 (List.map encI (([x.a, x.b] : List Int))), .blk b2 26 [.int .i64 x.a, .int .i64 x.b, .int .i64 x.most], .blk b1 24 [.int .i64 c.layers, .slice A_c_bounds c.bounds.length c_c_bounds]] := H.append E3
      replace R0 := H.ext
      refine LW.pure rfl rfl (RV.move rfl) ?_
      refine LW.pure rfl rfl (RV.extract rfl rfl) ?_
      refine LW.pure rfl rfl (RV.extract rfl rfl) ?_
      refine LW.pure rfl rfl (RV.assign rfl) ?_
      refine LW.pure rfl rfl (RV.assign rfl) ?_
      refine LW.nil (hK9 _ _ ?_)
      refine CW.seq fun K10 hK10 => ?_
      refine CW.region ?_
      refine LW.pure rfl rfl (RV.move rfl) ?_
      refine LW.pure rfl rfl (RV.eqi rfl rfl) ?_
      refine LW.pure rfl rfl (RV.move rfl) ?_
      cases h3 : decide (((tables c).2) = 0)
      ·
        have h3 := of_decide_eq_false h3
        obtain ⟨hcl, hce⟩ := tables_no h3
        refine LW.no rfl rfl rfl rfl rfl ?_
        refine LW.no rfl rfl rfl rfl rfl ?_
        refine LW.no rfl rfl rfl rfl rfl ?_
        refine LW.pure rfl rfl (RV.pickF rfl rfl) ?_
        refine LW.pure rfl rfl (RV.move rfl) ?_
        refine LW.pure rfl rfl (RV.assign rfl) ?_
        refine LW.pure rfl rfl (RV.assign rfl) ?_
        refine LW.nil (hK10 _ _ ?_)
        refine CW.ret ?_
        refine ⟨_, (ResOK.two rfl rfl), ?_⟩
        refine ⟨?_, R0⟩
        · simp [follows, h1, h2, hcl, hce]
      ·
        have h3 := of_decide_eq_true h3
        obtain ⟨hcl, hte, hT⟩ := tables_ok h1e.1 h3
        have hTl := hT.sq.len
        refine LW.pureY rfl rfl rfl rfl (RV.move rfl) ?_
        refine LW.pureY rfl rfl rfl rfl (RV.loadA [.int .i64 x.a, .int .i64 x.b, .int .i64 x.most] k26 rfl (H.blk 2 rfl).cells rfl rfl) ?_
        refine LW.yes rfl rfl rfl rfl (OW.call c61 rfl (core_follows (m := ((tables c).1)) (x := x) (H.tab 0 rfl).sl2 (hT.sq) (by omega)) ?_)
        rintro _ w7 ⟨rfl, E4⟩
        refine ⟨_, rfl, ?_⟩
        replace H := H.grow E4
        replace R0 := H.ext
        refine LW.pure rfl rfl (RV.pickT rfl rfl) ?_
        refine LW.pure rfl rfl (RV.move rfl) ?_
        refine LW.pure rfl rfl (RV.assign rfl) ?_
        refine LW.pure rfl rfl (RV.assign rfl) ?_
        refine LW.nil (hK10 _ _ ?_)
        refine CW.ret ?_
        refine ⟨_, (ResOK.two rfl rfl), ?_⟩
        refine ⟨?_, R0⟩
        · simp [follows, h1, h2, hcl, hte, h3]

set_option maxRecDepth 20000 in
theorem core_Fixed {c : Core} {A_c_bounds : Option Addr} {c_c_bounds : Nat} {a : Int} {b : Int} {w : World} (h_c_bounds : Sl w A_c_bounds c_c_bounds 3 (c.bounds.map encB)) : Calls Try.prog 23 #[.agg #[.int .i64 c.layers, .slice A_c_bounds c.bounds.length c_c_bounds], .int .i64 a, .int .i64 b] w (Ret w (.tuple #[.int .i64 ((fixed c a b).1), .bool ((fixed c a b).2.1), .int .i64 ((fixed c a b).2.2)])) := by
  refine calls_of_cw (args := [.agg #[.int .i64 c.layers, .slice A_c_bounds c.bounds.length c_c_bounds], .int .i64 a, .int .i64 b]) Try.func23 rfl rfl rfl rfl ?_
  have H := Hp.start w
  have R0 := H.ext
  refine CW.seq fun K1 hK1 => ?_
  refine CW.region ?_
  refine LW.go rfl rfl (OW.box rfl fun b1 w1 N1 => ?_)
  replace H : Hp w w1 [.blk b1 24 [.int .i64 c.layers, .slice A_c_bounds c.bounds.length c_c_bounds]] := H.new N1 N1.blk
  replace R0 := H.ext
  refine LW.pure rfl rfl (RV.assign rfl) ?_
  refine LW.pure rfl rfl (RV.assign rfl) ?_
  refine LW.pure rfl rfl (RV.assign rfl) ?_
  refine LW.nil (hK1 _ _ ?_)
  refine CW.seq fun K2 hK2 => ?_
  refine CW.seq fun K3 hK3 => ?_
  refine CW.region ?_
  refine LW.pure rfl rfl (RV.loadA [.int .i64 c.layers, .slice A_c_bounds c.bounds.length c_c_bounds] k24 rfl (H.blk 0 rfl).cells rfl rfl) ?_
  refine LW.pure rfl rfl (RV.move rfl) ?_
  refine LW.pure rfl rfl (RV.move rfl) ?_
  refine LW.go rfl rfl (OW.buildSlice (e := 3) (vs := [.int .i64 a, .int .i64 b]) (cs := [.int .i64 a, .int .i64 b]) rfl (fun _ => by kernel_rfl) fun b2 w2 N2 => ?_)
  replace H : Hp w w2 [.own (some ⟨b2, 0, none⟩) 2 3 1 (List.map encI (([a, b] : List Int))), .blk b1 24 [.int .i64 c.layers, .slice A_c_bounds c.bounds.length c_c_bounds]] := H.made' (enc := encI) (l := ([a, b] : List Int)) N2 N2.blk (fun _ => rfl) (by simp) (by first | decide | omega | simp)
  replace R0 := H.ext
  refine LW.go rfl rfl (OW.call c58 rfl (core_layers (c := c) (l := ([a, b] : List Int)) (h_c_bounds.ext R0) (H.own 0 rfl).sl) ?_)
  rintro _ w3 ⟨rfl, E1⟩
  refine ⟨_, rfl, ?_⟩
  replace H := H.grow E1
  replace R0 := H.ext
  refine LW.pure rfl rfl (RV.assign rfl) ?_
  refine LW.nil (hK3 _ _ ?_)
  refine CW.seq fun K4 hK4 => ?_
  refine CW.region ?_
  refine LW.pure rfl rfl (RV.move rfl) ?_
  refine LW.pure rfl rfl (RV.nei rfl rfl) ?_
  refine LW.nil (hK4 _ _ ?_)
  refine CW.cond rfl (fun h1 => ?_) (fun h1 => ?_)
  ·
    have h1 := (Bool.not_eq_true' _).mp h1
    have h1 := of_decide_eq_false h1
    refine CW.seq fun K5 hK5 => ?_
    refine CW.region ?_
    refine LW.pure rfl rfl (RV.move rfl) ?_
    refine LW.pure rfl rfl (RV.assign rfl) ?_
    refine LW.pure rfl rfl (RV.assign rfl) ?_
    refine LW.pure rfl rfl (RV.assign rfl) ?_
    refine LW.nil (hK5 _ _ ?_)
    refine CW.ret ?_
    refine ⟨_, (ResOK.three rfl rfl rfl), ?_⟩
    refine ⟨?_, R0⟩
    · simp [fixed, h1]
  ·
    have h1 := (Bool.not_eq_false' _).mp h1
    have h1 := of_decide_eq_true h1
    have h1e := layers_ok2 h1
    have hvv := validate_ok h1e.1
    refine CW.skip (hK2 _ _ ?_)
    refine CW.seq fun K6 hK6 => ?_
    refine CW.region ?_
    refine LW.pure rfl rfl (RV.loadA [.int .i64 c.layers, .slice A_c_bounds c.bounds.length c_c_bounds] k24 rfl (H.blk 1 rfl).cells rfl rfl) ?_
    refine LW.go rfl rfl (OW.call c60 rfl (core_tables (c := c) (h_c_bounds.ext R0) (h1e.1)) ?_)
    rintro _ w4 ⟨A2_0, c2_0, hs2_0, rfl, E2⟩
    refine ⟨_, rfl, ?_⟩
    replace H : Hp w w4 [.tab A2_0 c2_0 76 hs2_0 75 2 (encM encT (((tables c).1))), .own (some ⟨b2, 0, none⟩) 2 3 1 (List.map encI (([a, b] : List Int))), .blk b1 24 [.int .i64 c.layers, .slice A_c_bounds c.bounds.length c_c_bounds]] := H.append E2
    replace R0 := H.ext
    refine LW.pure rfl rfl (RV.move rfl) ?_
    refine LW.pure rfl rfl (RV.extract rfl rfl) ?_
    refine LW.pure rfl rfl (RV.extract rfl rfl) ?_
    refine LW.pure rfl rfl (RV.assign rfl) ?_
    refine LW.pure rfl rfl (RV.assign rfl) ?_
    refine LW.nil (hK6 _ _ ?_)
    refine CW.seq fun K7 hK7 => ?_
    refine CW.seq fun K8 hK8 => ?_
    refine CW.region ?_
    refine LW.pure rfl rfl (RV.move rfl) ?_
    refine LW.pure rfl rfl (RV.nei rfl rfl) ?_
    refine LW.pure rfl rfl (RV.move rfl) ?_
    cases h2 : !(decide (((tables c).2) = 0))
    ·
      have h2 := (Bool.not_eq_false' _).mp h2
      have h2 := of_decide_eq_true h2
      obtain ⟨hcl, hte, hT⟩ := tables_ok h1e.1 h2
      have hTl := hT.sq.len
      refine LW.pureY rfl rfl rfl rfl (RV.move rfl) ?_
      refine LW.pureY rfl rfl rfl rfl (RV.move rfl) ?_
      refine LW.pureY rfl rfl rfl rfl (RV.move rfl) ?_
      refine LW.yes rfl rfl rfl rfl (OW.call c66 rfl (core_fixed (m := ((tables c).1)) (a := a) (b := b) (H.tab 0 rfl).sl2 (hT.sq) (by omega) (hT.bnd)) ?_)
      rintro _ w5 ⟨rfl, E3⟩
      refine ⟨_, rfl, ?_⟩
      replace H := H.grow E3
      replace R0 := H.ext
      refine LW.pureY rfl rfl rfl rfl (RV.not rfl) ?_
      refine LW.pure rfl rfl (RV.pickF rfl rfl) ?_
      refine LW.nil (hK8 _ _ ?_)
      refine CW.cond rfl (fun h3 => ?_) (fun h3 => ?_)
      ·
        have h3 := (Bool.not_eq_true' _).mp h3
        refine CW.seq fun K9 hK9 => ?_
        refine CW.region ?_
        refine LW.pure rfl rfl (RV.move rfl) ?_
        refine LW.pure rfl rfl (RV.assign rfl) ?_
        refine LW.pure rfl rfl (RV.assign rfl) ?_
        refine LW.pure rfl rfl (RV.assign rfl) ?_
        refine LW.nil (hK9 _ _ ?_)
        refine CW.ret ?_
        refine ⟨_, (ResOK.three rfl rfl rfl), ?_⟩
        refine ⟨?_, R0⟩
        · simp [fixed, h1, hcl, ← hte, h2, h3]
      ·
        have h3 := (Bool.not_eq_false' _).mp h3
        refine CW.skip (hK7 _ _ ?_)
        refine CW.seq fun K10 hK10 => ?_
        refine CW.region ?_
        refine LW.pure rfl rfl (RV.move rfl) ?_
        refine LW.pure rfl rfl (RV.move rfl) ?_
        have hb1 : 0 ≤ ((a) : Int) ∧ ((a) : Int) < ((((tables c).1).length : Nat) : Int) := by omega
        obtain ⟨x1, hx1⟩ := ex_at (l := ((tables c).1)) (j := Int.toNat a) (by first | omega | (simp; omega))
        have hlx1 := hT.sq.rowAt hx1
        obtain ⟨B1, e1, hh1⟩ := (H.tab 0 rfl).hd hx1
        refine LW.pure rfl rfl (RV.indexAddr s69 rfl rfl hb1 ((H.tab 0 rfl).addr_ hx1)) ?_
        refine LW.pure rfl rfl (RV.load1 k76 rfl ((H.tab 0 rfl).cell hx1 hh1) rfl) ?_
        refine LW.pure rfl rfl (RV.move rfl) ?_
        have hb2 : 0 ≤ ((b) : Int) ∧ ((b) : Int) < ((x1.length : Nat) : Int) := by omega
        obtain ⟨x2, hx2⟩ := ex_at (l := x1) (j := Int.toNat b) (by first | omega | (simp; omega))
        have hmx2 := mg_of hx1 hx2
        refine LW.pure rfl rfl (RV.indexAddr s76 rfl rfl hb2 (((H.tab 0 rfl).rowO hx1 hh1).sl.addr_ hx2)) ?_
        refine LW.pure rfl rfl (RV.fieldAddr f75_1 rfl) ?_
        refine LW.pure rfl rfl (RV.load1 k3 rfl ((((H.tab 0 rfl).rowO hx1 hh1).sl.at_ hx2).off 1) rfl) ?_
        refine LW.pure rfl rfl (RV.assign rfl) ?_
        refine LW.pure rfl rfl (RV.assign rfl) ?_
        refine LW.pure rfl rfl (RV.assign rfl) ?_
        refine LW.nil (hK10 _ _ ?_)
        refine CW.ret ?_
        refine ⟨_, (ResOK.three rfl rfl rfl), ?_⟩
        refine ⟨?_, R0⟩
        · simp [fixed, h1, hcl, ← hte, hmx2, h3]
    ·
      have h2 := (Bool.not_eq_true' _).mp h2
      have h2 := of_decide_eq_false h2
      obtain ⟨hcl, hce⟩ := tables_no h2
      refine LW.no rfl rfl rfl rfl rfl ?_
      refine LW.no rfl rfl rfl rfl rfl ?_
      refine LW.no rfl rfl rfl rfl rfl ?_
      refine LW.no rfl rfl rfl rfl rfl ?_
      refine LW.no rfl rfl rfl rfl rfl ?_
      refine LW.pure rfl rfl (RV.pickT rfl rfl) ?_
      refine LW.nil (hK8 _ _ ?_)
      refine CW.cond rfl (fun _ => ?_) (fun h => by cases h)
      refine CW.seq fun K11 hK11 => ?_
      refine CW.region ?_
      refine LW.pure rfl rfl (RV.move rfl) ?_
      refine LW.pure rfl rfl (RV.assign rfl) ?_
      refine LW.pure rfl rfl (RV.assign rfl) ?_
      refine LW.pure rfl rfl (RV.assign rfl) ?_
      refine LW.nil (hK11 _ _ ?_)
      refine CW.ret ?_
      refine ⟨_, (ResOK.three rfl rfl rfl), ?_⟩
      refine ⟨?_, R0⟩
      · simp [fixed, h1, hcl, hce]

end Go.Core
