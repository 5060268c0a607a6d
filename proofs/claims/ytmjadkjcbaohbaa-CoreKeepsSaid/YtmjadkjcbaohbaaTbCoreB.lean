/- Lemmas and walks that the proof of this claim uses: TbCoreB. -/
import Derived.Test.YtmjadkjcbaohbaaTbCoreB0
import Derived.Test.YtmjadkjcbaohbaaProg
import Derived.KernelRfl
namespace Go.Core
open Go.Tb Go.Proofs
set_option linter.unusedVariables false
set_option linter.unusedSimpArgs false

theorem c87 : callable Try.prog 87 = true := by kernel_rfl


theorem slices_Repeat {x : List Int} {A_x : Option Addr} {c_x : Nat} {count : Int} {v : Int} {w : World} (h_x : Sl w A_x c_x 1 (x.map encI)) (hx : x = [v]) (hc : 1 ≤ count ∧ count ≤ 8) : Calls Try.prog 87 #[.slice A_x x.length c_x, .int .i64 count] w (fun e w' => ∃ (A0 : Option Addr) (c0 : Nat), e = .returned (.slice A0 ((List.replicate (Int.toNat count) v).length) c0) ∧ Hp w w' [.own A0 c0 3 1 (List.map encI ((List.replicate (Int.toNat count) v)))]) := by
  refine (slices_Repeat0 h_x hx hc).mono fun e w' ⟨b, he, hB, hG, hE⟩ => ⟨some ⟨b, 0, none⟩, (List.replicate (Int.toNat count) v).length, he, ?_⟩
  exact (Hp.start w).newOwn hE (Blk.own_ hB (fun _ => rfl) (by simp; omega)) (by intro a ha; cases ha; exact hG)

set_option maxRecDepth 20000 in
theorem core_relax {c : Core} {A_c_bounds : Option Addr} {c_c_bounds : Nat} {w : World} (h_c_bounds : Sl w A_c_bounds c_c_bounds 3 (c.bounds.map encB)) (hv : validate c = 0) : Calls Try.prog 72 #[.agg #[.int .i64 c.layers, .slice A_c_bounds c.bounds.length c_c_bounds]] w (fun e w' => ∃ (A0 : Option Addr) (c0 : Nat) (A1 : Option Addr) (c1 : Nat), e = .returned (.tuple #[.slice A0 (((relax c).1).length) c0, .slice A1 (((relax c).2.1).length) c1, .int .i64 ((relax c).2.2)]) ∧ Hp w w' [.own A0 c0 3 1 (List.map encI (((relax c).1))), .own A1 c1 3 1 (List.map encI (((relax c).2.1)))]) := by
  refine calls_of_cw (args := [.agg #[.int .i64 c.layers, .slice A_c_bounds c.bounds.length c_c_bounds]]) Try.func72 rfl rfl rfl rfl ?_
  have H := Hp.start w
  have R0 := H.ext
  have hvo := validate_ok hv
  have hrl : (List.replicate (Int.toNat c.layers) (-1 : Int)).length = Int.toNat c.layers := by simp
  refine CW.seq fun K1 hK1 => ?_
  refine CW.region ?_
  refine LW.go rfl rfl (OW.box rfl fun b1 w1 N1 => ?_)
  replace H : Hp w w1 [.blk b1 24 [.int .i64 c.layers, .slice A_c_bounds c.bounds.length c_c_bounds]] := H.new N1 N1.blk
  replace R0 := H.ext
  refine LW.pure rfl rfl (RV.assign rfl) ?_
  refine LW.pure rfl rfl (RV.assign rfl) ?_
  refine LW.pure rfl rfl (RV.assign rfl) ?_
  refine LW.nil (hK1 _ _ ?_)
  refine CW.seq fun K2 hK2 => ?_
  refine CW.region ?_
  refine LW.pure rfl rfl (RV.fieldAddr f24_0 rfl) ?_
  refine LW.pure rfl rfl (RV.load1 k3 rfl ((H.blk 0 rfl).cells.off 0) rfl) ?_
  refine LW.go rfl rfl (OW.makeL (enc := encI) 0 s43 rfl rfl rfl rfl rfl (by omega) (by omega) (by omega) fun b2 w2 N2 => ?_)
  replace H : Hp w w2 [.own (some ⟨b2, 0, none⟩) (Int.toNat c.layers) 3 1 (List.map encI ((List.replicate (Int.toNat c.layers) 0))), .blk b1 24 [.int .i64 c.layers, .slice A_c_bounds c.bounds.length c_c_bounds]] := H.made' (enc := encI) (l := (List.replicate (Int.toNat c.layers) 0)) N2 N2.blk (fun _ => rfl) (by simp) (by first | decide | omega | simp)
  replace R0 := H.ext
  refine LW.pure rfl rfl (RV.assign rfl) ?_
  refine LW.nil (hK2 _ _ ?_)
  refine CW.seq fun K3 hK3 => ?_
  refine CW.region ?_
  refine LW.go rfl rfl (OW.buildSlice (e := 3) (vs := [.int .i64 (-1)]) (cs := [.int .i64 (-1)]) rfl (fun _ => by kernel_rfl) fun b3 w3 N3 => ?_)
  replace H : Hp w w3 [.own (some ⟨b3, 0, none⟩) 1 3 1 (List.map encI (([-1] : List Int))), .own (some ⟨b2, 0, none⟩) (Int.toNat c.layers) 3 1 (List.map encI ((List.replicate (Int.toNat c.layers) 0))), .blk b1 24 [.int .i64 c.layers, .slice A_c_bounds c.bounds.length c_c_bounds]] := H.made' (enc := encI) (l := ([-1] : List Int)) N3 N3.blk (fun _ => rfl) (by simp) (by first | decide | omega | simp)
  replace R0 := H.ext
  refine LW.pure rfl rfl (RV.fieldAddr f24_0 rfl) ?_
  refine LW.pure rfl rfl (RV.load1 k3 rfl ((H.blk 2 rfl).cells.off 0) rfl) ?_
  refine LW.go rfl rfl (OW.call c87 rfl (slices_Repeat (x := ([-1] : List Int)) (count := c.layers) (H.own 0 rfl).sl (rfl) (by omega)) ?_)
  rintro _ w4 ⟨A1_0, c1_0, rfl, E1⟩
  refine ⟨_, rfl, ?_⟩
  replace H : Hp w w4 [.own A1_0 c1_0 3 1 (List.map encI ((List.replicate (Int.toNat c.layers) (-1)))), .own (some ⟨b3, 0, none⟩) 1 3 1 (List.map encI (([-1] : List Int))), .own (some ⟨b2, 0, none⟩) (Int.toNat c.layers) 3 1 (List.map encI ((List.replicate (Int.toNat c.layers) 0))), .blk b1 24 [.int .i64 c.layers, .slice A_c_bounds c.bounds.length c_c_bounds]] := H.append E1
  replace R0 := H.ext
  refine LW.pure rfl rfl (RV.assign rfl) ?_
  refine LW.nil (hK3 _ _ ?_)
  refine CW.seq fun K4 hK4 => ?_
  refine CW.seq fun K5 hK5 => ?_
  refine CW.region ?_
  refine LW.pure rfl rfl (RV.fieldAddr f24_0 rfl) ?_
  refine LW.pure rfl rfl (RV.load1 k3 rfl ((H.blk 3 rfl).cells.off 0) rfl) ?_
  refine LW.pure rfl rfl (RV.move rfl) ?_
  refine LW.nil (hK5 _ _ ?_)
  refine CW.block ?_
  refine CW.loop (fun meas ρ wl1 => ∃ (i : Nat), meas = c.layers.toNat - i ∧ ρ = [(1, .pointer (some (⟨b1, 0, none⟩))), (2, .slice (some ⟨b2, 0, none⟩) (Int.toNat c.layers) (Int.toNat c.layers)), (3, .slice A1_0 ((List.replicate (Int.toNat c.layers) (-1)).length) c1_0), (4, .int .i64 ((relaxN c i).2.2)), (15, .int .i64 c.layers), (16, .int .i64 (↑i))] ∧ Hp w wl1 [.own A1_0 c1_0 3 1 (List.map encI ((relaxN c i).2.1)), .own (some ⟨b3, 0, none⟩) 1 3 1 (List.map encI (([-1] : List Int))), .own (some ⟨b2, 0, none⟩) (Int.toNat c.layers) 3 1 (List.map encI ((relaxN c i).1)), .blk b1 24 [.int .i64 c.layers, .slice A_c_bounds c.bounds.length c_c_bounds]] ∧ (i ≤ c.layers.toNat)) (c.layers.toNat - 0) ⟨_, ?_, 0, rfl, rfl, ?_, ?_⟩ ?_
  · exact ⟨rfl, look_slice rfl (by first | rfl | omega | (simp; done)), look_slice rfl (by first | rfl | omega | (simp; done)), look_int rfl (by first | rfl | omega | (simp; omega) | (have e : j = c.bounds.length := (by omega); subst e; rfl)), rfl, look_int rfl (by first | rfl | omega | (simp; omega) | (have e : j = c.bounds.length := (by omega); subst e; rfl)), trivial⟩
  · exact H
  · omega
  rintro _ _ wl1 ⟨i, rfl, rfl, H, hI1⟩
  have R0 := H.ext
  refine CW.seq fun K6 hK6 => ?_
  refine CW.region ?_
  refine LW.pure rfl rfl (RV.lss rfl rfl) ?_
  refine LW.nil (hK6 _ _ ?_)
  refine CW.seq fun K7 hK7 => ?_
  refine CW.cond rfl (fun h1 => ?_) (fun h1 => ?_)
  ·
    have h1 := of_decide_eq_true h1
    refine CW.skip (hK7 _ _ ?_)
    refine CW.seq fun K8 hK8 => ?_
    refine CW.block ?_
    refine CW.seq fun K9 hK9 => ?_
    refine CW.region ?_
    refine LW.pure rfl rfl (RV.assign rfl) ?_
    refine LW.nil (hK9 _ _ ?_)
    refine CW.seq fun K10 hK10 => ?_
    refine CW.region ?_
    refine LW.pure rfl rfl (RV.fieldAddr f24_1 rfl) ?_
    refine LW.pure rfl rfl (RV.load1 k22 rfl ((H.blk 3 rfl).cells.off 1) rfl) ?_
    refine LW.pure rfl rfl (RV.len s22 rfl) ?_
    refine LW.pure rfl rfl (RV.move rfl) ?_
    refine LW.nil (hK10 _ _ ?_)
    refine CW.block ?_
    refine CW.loop (fun meas ρ wl2 => ∃ (j : Nat), meas = c.bounds.length - j ∧ ρ = [(1, .pointer (some (⟨b1, 0, none⟩))), (2, .slice (some ⟨b2, 0, none⟩) (Int.toNat c.layers) (Int.toNat c.layers)), (3, .slice A1_0 ((List.replicate (Int.toNat c.layers) (-1)).length) c1_0), (4, .int .i64 ((relaxAt c i j).2.2)), (15, .int .i64 c.layers), (16, .int .i64 (↑i)), (19, .slice A_c_bounds c.bounds.length c_c_bounds), (20, .int .i64 (((c.bounds.length : Nat) : Int))), (21, .int .i64 (↑j))] ∧ Hp w wl2 [.own A1_0 c1_0 3 1 (List.map encI ((relaxAt c i j).2.1)), .own (some ⟨b3, 0, none⟩) 1 3 1 (List.map encI (([-1] : List Int))), .own (some ⟨b2, 0, none⟩) (Int.toNat c.layers) 3 1 (List.map encI ((relaxAt c i j).1)), .blk b1 24 [.int .i64 c.layers, .slice A_c_bounds c.bounds.length c_c_bounds]] ∧ (j ≤ c.bounds.length)) (c.bounds.length - 0) ⟨_, ?_, 0, rfl, rfl, ?_, ?_⟩ ?_
    · exact ⟨rfl, look_slice rfl (by first | rfl | omega | (simp; done)), look_slice rfl (by first | rfl | omega | (simp; done)), look_int rfl (by first | rfl | omega | (simp; omega) | (rw [hst])), rfl, rfl, rfl, rfl, look_int rfl (by first | rfl | omega | (simp; omega) | (rw [hst])), trivial⟩
    · exact H
    · omega
    rintro _ _ wl2 ⟨j, rfl, rfl, H, hI2⟩
    have R0 := H.ext
    have hV := relaxAt_inv (i := i) (j := j) hv (by omega) (by omega)
    have hl1 := hV.l1
    have hl2 := hV.l2
    refine CW.seq fun K11 hK11 => ?_
    refine CW.region ?_
    refine LW.pure rfl rfl (RV.lss rfl rfl) ?_
    refine LW.nil (hK11 _ _ ?_)
    refine CW.seq fun K12 hK12 => ?_
    refine CW.cond rfl (fun h2 => ?_) (fun h2 => ?_)
    ·
      have h2 := of_decide_eq_true h2
      refine CW.skip (hK12 _ _ ?_)
      refine CW.seq fun K13 hK13 => ?_
      refine CW.block ?_
      refine CW.seq fun K14 hK14 => ?_
      refine CW.region ?_
      refine LW.pure rfl rfl (RV.move rfl) ?_
      have hb1 : 0 ≤ ((↑j) : Int) ∧ ((↑j) : Int) < ((c.bounds.length : Nat) : Int) := by omega
      obtain ⟨x1, hx1⟩ := ex_at (l := c.bounds) (j := j) (by first | omega | (simp; omega))
      have hr := bound_ok hv hx1
      refine LW.pure rfl rfl (RV.indexAddr s22 rfl rfl hb1 (h_c_bounds.addr hb1)) ?_
      refine LW.pure rfl rfl (RV.loadA [.int .i64 x1.a, .int .i64 x1.b, .int .i64 x1.most] k26 rfl ((h_c_bounds.at_ hx1).ext R0) rfl rfl) ?_
      refine LW.go rfl rfl (OW.alloc z26 fun b4 w5 N4 => ?_)
      replace H : Hp w w5 [.blk b4 26 [.int .i64 0, .int .i64 0, .int .i64 0], .own A1_0 c1_0 3 1 (List.map encI ((relaxAt c i j).2.1)), .own (some ⟨b3, 0, none⟩) 1 3 1 (List.map encI (([-1] : List Int))), .own (some ⟨b2, 0, none⟩) (Int.toNat c.layers) 3 1 (List.map encI ((relaxAt c i j).1)), .blk b1 24 [.int .i64 c.layers, .slice A_c_bounds c.bounds.length c_c_bounds]] := H.new N4 N4.blk
      replace R0 := H.ext
      refine LW.pure rfl rfl (RV.assign rfl) ?_
      refine LW.go rfl rfl (OW.store k26 rfl rfl (H.blk 0 rfl) (off := 0) (vs := [.int .i64 x1.a, .int .i64 x1.b, .int .i64 x1.most]) rfl rfl rfl rfl rfl fun w6 S1 => ?_)
      replace H : Hp w w6 [.blk b4 26 [.int .i64 x1.a, .int .i64 x1.b, .int .i64 x1.most], .own A1_0 c1_0 3 1 (List.map encI ((relaxAt c i j).2.1)), .own (some ⟨b3, 0, none⟩) 1 3 1 (List.map encI (([-1] : List Int))), .own (some ⟨b2, 0, none⟩) (Int.toNat c.layers) 3 1 (List.map encI ((relaxAt c i j).1)), .blk b1 24 [.int .i64 c.layers, .slice A_c_bounds c.bounds.length c_c_bounds]] := H.stored 0 rfl S1
      replace R0 := H.ext
      refine LW.nil (hK14 _ _ ?_)
      refine CW.seq fun K15 hK15 => ?_
      refine CW.draw [] (fun _ => True) (.cons 0 1 (.cons 1 1 (.cons 2 1 (.cons 3 1 (.cons 4 1 (.cons 5 1 (.cons 6 1 (.cons 7 1 (.cons 8 1 (.cons 9 1 (.cons 10 1 (.cons 11 1 (.cons 12 1 (.cons 13 1 .nil)))))))))))))) mixed (by kernel_rfl) fun w7 E2 => ?_
      replace H := H.grow E2
      replace R0 := H.ext
      refine DW.fix rfl rfl rfl (fun _ EQ => RV.move rfl) ?_
      refine DW.fix rfl rfl rfl (fun _ EQ => RV.fieldAddr f26_0 rfl) ?_
      refine DW.fix rfl rfl rfl (fun _ EQ => RV.load1 k3 rfl (((H.grow EQ).blk 0 rfl).cells.off 0) rfl) ?_
      have hb2 : 0 ≤ ((x1.a) : Int) ∧ ((x1.a) : Int) < ((Int.toNat c.layers : Nat) : Int) := by omega
      obtain ⟨x2, hx2⟩ := ex_at (l := (relaxAt c i j).1) (j := Int.toNat x1.a) (by first | omega | (simp; omega))
      have hdx2 := hV.at_ hx2
      refine DW.fix rfl rfl rfl (fun _ EQ => RV.indexAddr s43 rfl rfl hb2 ⟨_, rfl⟩) ?_
      refine DW.fix rfl rfl rfl (fun _ EQ => RV.load1 k3 rfl (((H.grow EQ).own 3 rfl).sl.at_ hx2) rfl) ?_
      refine DW.fix rfl rfl rfl (fun _ EQ => RV.fieldAddr f26_2 rfl) ?_
      refine DW.fix rfl rfl rfl (fun _ EQ => RV.load1 k3 rfl (((H.grow EQ).blk 0 rfl).cells.off 2) rfl) ?_
      refine DW.fix rfl rfl rfl (fun _ EQ => RV.add rfl rfl (by omega)) ?_
      refine DW.fix rfl rfl rfl (fun _ EQ => RV.move rfl) ?_
      refine DW.fix rfl rfl rfl (fun _ EQ => RV.fieldAddr f26_1 rfl) ?_
      refine DW.fix rfl rfl rfl (fun _ EQ => RV.load1 k3 rfl (((H.grow EQ).blk 0 rfl).cells.off 1) rfl) ?_
      have hb3 : 0 ≤ ((x1.b) : Int) ∧ ((x1.b) : Int) < ((Int.toNat c.layers : Nat) : Int) := by omega
      obtain ⟨x3, hx3⟩ := ex_at (l := (relaxAt c i j).1) (j := Int.toNat x1.b) (by first | omega | (simp; omega))
      have hdx3 := hV.at_ hx3
      refine DW.fix rfl rfl rfl (fun _ EQ => RV.indexAddr s43 rfl rfl hb3 ⟨_, rfl⟩) ?_
      refine DW.fix rfl rfl rfl (fun _ EQ => RV.load1 k3 rfl (((H.grow EQ).own 3 rfl).sl.at_ hx3) rfl) ?_
      refine DW.fix rfl rfl rfl (fun _ EQ => RV.lss rfl rfl) ?_
      refine DW.nil (hK15 _ _ ?_)
      refine CW.cond rfl (fun h3 => ?_) (fun h3 => ?_)
      ·
        have h3 := of_decide_eq_true h3
        have hst := relaxAt_yes hx1 hx2 hx3 h3
        have H0 := H
        have hz : w7.heap.size ≤ w7.heap.size := Nat.le_refl _
        refine CW.draw [18, 20] (XB w7 [.blk b4 26 [.int .i64 x1.a, .int .i64 x1.b, .int .i64 x1.most], .own A1_0 c1_0 3 1 (List.map encI ((relaxAt c i j).2.1)), .own (some ⟨b3, 0, none⟩) 1 3 1 (List.map encI (([-1] : List Int))), .own (some ⟨b2, 0, none⟩) (Int.toNat c.layers) 3 1 (List.map encI ((relaxAt c i j).1)), .blk b1 24 [.int .i64 c.layers, .slice A_c_bounds c.bounds.length c_c_bounds]] [3, 1]) (.cons 0 1 (.cons 1 1 (.cons 2 1 (.cons 6 1 (.cons 7 1 (.cons 8 1 (.cons 9 1 (.cons 10 1 (.cons 11 1 (.cons 12 1 (.cons 13 1 (.cons 17 1 (.cons 3 2 (.cons 4 2 (.cons 5 2 (.cons 14 2 (.cons 15 2 (.cons 16 2 (.cons 18 0 (.cons 19 2 (.cons 20 0 (.cons 21 2 .nil)))))))))))))))))))))) mixed (by kernel_rfl) fun w8 E3 => ?_
        replace H := H.grow E3
        replace R0 := H.ext
        replace hz := Nat.le_trans hz (Ext.size E3)
        refine DW.fix rfl rfl rfl (fun _ EQ => RV.move rfl) ?_
        refine DW.fix rfl rfl rfl (fun _ EQ => RV.fieldAddr f26_1 rfl) ?_
        refine DW.fix rfl rfl rfl (fun _ EQ => RV.load1 k3 rfl (((H.grow EQ).blk 0 rfl).cells.off 1) rfl) ?_
        refine DW.fix rfl rfl rfl (fun _ EQ => RV.move rfl) ?_
        refine DW.fix rfl rfl rfl (fun _ EQ => RV.fieldAddr f26_0 rfl) ?_
        refine DW.fix rfl rfl rfl (fun _ EQ => RV.load1 k3 rfl (((H.grow EQ).blk 0 rfl).cells.off 0) rfl) ?_
        have hb4 : 0 ≤ ((x1.a) : Int) ∧ ((x1.a) : Int) < ((Int.toNat c.layers : Nat) : Int) := by omega
        obtain ⟨x4, hx4⟩ := ex_at (l := (relaxAt c i j).1) (j := Int.toNat x1.a) (by first | omega | (simp; omega))
        have hdx4 := hV.at_ hx4
        refine DW.fix rfl rfl rfl (fun _ EQ => RV.indexAddr s43 rfl rfl hb4 ⟨_, rfl⟩) ?_
        refine DW.fix rfl rfl rfl (fun _ EQ => RV.load1 k3 rfl (((H.grow EQ).own 3 rfl).sl.at_ hx4) rfl) ?_
        refine DW.fix rfl rfl rfl (fun _ EQ => RV.fieldAddr f26_2 rfl) ?_
        refine DW.fix rfl rfl rfl (fun _ EQ => RV.load1 k3 rfl (((H.grow EQ).blk 0 rfl).cells.off 2) rfl) ?_
        refine DW.fix rfl rfl rfl (fun _ EQ => RV.add rfl rfl (by omega)) ?_
        have hb5 : 0 ≤ ((x1.b) : Int) ∧ ((x1.b) : Int) < ((Int.toNat c.layers : Nat) : Int) := by omega
        obtain ⟨x5, hx5⟩ := ex_at (l := (relaxAt c i j).1) (j := Int.toNat x1.b) (by first | omega | (simp; omega))
        refine DW.fix rfl rfl rfl (fun _ EQ => RV.indexAddr s43 rfl rfl hb5 ⟨_, rfl⟩) ?_
        refine DW.thru rfl rfl rfl (fun _ EQ => RV.move rfl) ?_
        refine DW.thru rfl rfl rfl (fun _ EQ => RV.fieldAddr f26_1 rfl) ?_
        refine DW.thru rfl rfl rfl (fun _ EQ => RV.load1 k3 rfl ((H.thruB 0 rfl EQ (H0.notX [3, 1] 0 rfl (by decide))).cells.off 1) rfl) ?_
        refine DW.thru rfl rfl rfl (fun _ EQ => RV.move rfl) ?_
        refine DW.thru rfl rfl rfl (fun _ EQ => RV.fieldAddr f26_1 rfl) ?_
        refine DW.thru rfl rfl rfl (fun _ EQ => RV.load1 k3 rfl ((H.thruB 0 rfl EQ (H0.notX [3, 1] 0 rfl (by decide))).cells.off 1) rfl) ?_
        refine DW.sole rfl rfl rfl (OW.storeO (enc := encI) (vs := [.int .i64 (x4 + x1.most)]) 0 (x4 + x1.most) k3 rfl rfl (H.own 3 rfl) (fun _ => rfl) rfl hx5 rfl rfl (by decide) rfl rfl fun w9 M1 O1 => ?_)
        refine ⟨fun h => absurd h (by decide), M1.modx (XB.own_ 3 (by decide) rfl), ?_⟩
        replace H : Hp w w9 [.blk b4 26 [.int .i64 x1.a, .int .i64 x1.b, .int .i64 x1.most], .own A1_0 c1_0 3 1 (List.map encI ((relaxAt c i j).2.1)), .own (some ⟨b3, 0, none⟩) 1 3 1 (List.map encI (([-1] : List Int))), .own (some ⟨b2, 0, none⟩) (Int.toNat c.layers) 3 1 (List.map encI ((((relaxAt c i j).1).set (Int.toNat x1.b) (x4 + x1.most)))), .blk b1 24 [.int .i64 c.layers, .slice A_c_bounds c.bounds.length c_c_bounds]] := H.mod 3 rfl M1 O1 (.inl rfl)
        replace R0 := H.ext
        replace hz := Nat.le_trans hz M1.size
        have hb6 : 0 ≤ ((x1.b) : Int) ∧ ((x1.b) : Int) < (((List.replicate (Int.toNat c.layers) (-1)).length : Nat) : Int) := by omega
        obtain ⟨x6, hx6⟩ := ex_at (l := (relaxAt c i j).2.1) (j := Int.toNat x1.b) (by first | omega | (simp; omega))
        refine DW.thru rfl rfl rfl (fun _ EQ => RV.indexAddr s43 rfl rfl hb6 ((H.own 1 rfl).sl.addr_ hx6)) ?_
        refine DW.sole rfl rfl rfl (OW.storeO (enc := encI) (vs := [.int .i64 (↑j)]) 0 (↑j) k3 rfl rfl (H.own 1 rfl) (fun _ => rfl) rfl hx6 rfl rfl (by decide) rfl rfl fun w10 M2 O2 => ?_)
        refine ⟨fun h => absurd h (by decide), M2.modx (XB.own_ 1 (by decide) rfl), ?_⟩
        replace H : Hp w w10 [.blk b4 26 [.int .i64 x1.a, .int .i64 x1.b, .int .i64 x1.most], .own A1_0 c1_0 3 1 (List.map encI ((((relaxAt c i j).2.1).set (Int.toNat x1.b) (↑j)))), .own (some ⟨b3, 0, none⟩) 1 3 1 (List.map encI (([-1] : List Int))), .own (some ⟨b2, 0, none⟩) (Int.toNat c.layers) 3 1 (List.map encI ((((relaxAt c i j).1).set (Int.toNat x1.b) (x4 + x1.most)))), .blk b1 24 [.int .i64 c.layers, .slice A_c_bounds c.bounds.length c_c_bounds]] := H.mod 1 rfl M2 O2 (.inl rfl)
        replace R0 := H.ext
        replace hz := Nat.le_trans hz M2.size
        refine DW.thru rfl rfl rfl (fun _ EQ => RV.assign rfl) ?_
        refine DW.nil (hK13 _ _ ?_)
        refine CW.region ?_
        refine LW.pure rfl rfl (RV.add rfl rfl (by omega)) ?_
        refine LW.pure rfl rfl (RV.move rfl) ?_
        refine LW.nil ?_
        replace H : Hp w w10 [.own A1_0 c1_0 3 1 (List.map encI ((((relaxAt c i j).2.1).set (Int.toNat x1.b) (↑j)))), .own (some ⟨b3, 0, none⟩) 1 3 1 (List.map encI (([-1] : List Int))), .own (some ⟨b2, 0, none⟩) (Int.toNat c.layers) 3 1 (List.map encI ((((relaxAt c i j).1).set (Int.toNat x1.b) (x4 + x1.most)))), .blk b1 24 [.int .i64 c.layers, .slice A_c_bounds c.bounds.length c_c_bounds]] := H.pick [1, 2, 3, 4] (by decide) rfl
        replace R0 := H.ext
        refine ⟨_, ?_, _, ?_, j + 1, rfl, rfl, ?_, ?_⟩
        · omega
        · exact ⟨rfl, look_slice rfl (by first | rfl | omega | (simp; done)), look_slice rfl (by first | rfl | omega | (simp; done)), look_int rfl (by first | rfl | omega | (simp; omega) | (rw [hst])), rfl, rfl, rfl, rfl, look_int rfl (by first | rfl | omega | (simp; omega) | (rw [hst])), trivial⟩
        · rw [hst]; first | exact H | (have e := Option.some.inj (hx2.symm.trans hx4); subst e; exact H)
        · omega
      ·
        have h3 := of_decide_eq_false h3
        have hst := relaxAt_no hx1 hx2 hx3 h3
        refine CW.skip (hK13 _ _ ?_)
        refine CW.region ?_
        refine LW.pure rfl rfl (RV.add rfl rfl (by omega)) ?_
        refine LW.pure rfl rfl (RV.move rfl) ?_
        refine LW.nil ?_
        replace H : Hp w w7 [.own A1_0 c1_0 3 1 (List.map encI ((relaxAt c i j).2.1)), .own (some ⟨b3, 0, none⟩) 1 3 1 (List.map encI (([-1] : List Int))), .own (some ⟨b2, 0, none⟩) (Int.toNat c.layers) 3 1 (List.map encI ((relaxAt c i j).1)), .blk b1 24 [.int .i64 c.layers, .slice A_c_bounds c.bounds.length c_c_bounds]] := H.pick [1, 2, 3, 4] (by decide) rfl
        replace R0 := H.ext
        refine ⟨_, ?_, _, ?_, j + 1, rfl, rfl, ?_, ?_⟩
        · omega
        · exact ⟨rfl, look_slice rfl (by first | rfl | omega | (simp; done)), look_slice rfl (by first | rfl | omega | (simp; done)), look_int rfl (by first | rfl | omega | (simp; omega) | (rw [hst])), rfl, rfl, rfl, rfl, look_int rfl (by first | rfl | omega | (simp; omega) | (rw [hst])), trivial⟩
        · rw [hst]; first | exact H | (have e := Option.some.inj (hx2.symm.trans hx4); subst e; exact H)
        · omega
    ·
      have h2 := of_decide_eq_false h2
      refine CW.exit (hK8 _ _ ?_)
      refine CW.region ?_
      refine LW.pure rfl rfl (RV.add rfl rfl (by omega)) ?_
      refine LW.pure rfl rfl (RV.move rfl) ?_
      refine LW.nil ?_
      refine ⟨_, ?_, _, ?_, i + 1, rfl, rfl, ?_, ?_⟩
      · omega
      · exact ⟨rfl, look_slice rfl (by first | rfl | omega | (simp; done)), look_slice rfl (by first | rfl | omega | (simp; done)), look_int rfl (by first | rfl | omega | (simp; omega) | (have e : j = c.bounds.length := (by omega); subst e; rfl)), rfl, look_int rfl (by first | rfl | omega | (simp; omega) | (have e : j = c.bounds.length := (by omega); subst e; rfl)), trivial⟩
      · have e : j = c.bounds.length := (by omega)
        subst e; exact H
      · omega
  ·
    have h1 := of_decide_eq_false h1
    refine CW.exit (hK4 _ _ ?_)
    refine CW.seq fun K16 hK16 => ?_
    refine CW.region ?_
    refine LW.pure rfl rfl (RV.move rfl) ?_
    refine LW.pure rfl rfl (RV.move rfl) ?_
    refine LW.pure rfl rfl (RV.move rfl) ?_
    refine LW.pure rfl rfl (RV.assign rfl) ?_
    refine LW.pure rfl rfl (RV.assign rfl) ?_
    refine LW.pure rfl rfl (RV.assign rfl) ?_
    refine LW.nil (hK16 _ _ ?_)
    refine CW.ret ?_
    refine ⟨_, (ResOK.three rfl rfl rfl), ?_⟩
    replace H : Hp w wl1 [.own (some ⟨b2, 0, none⟩) (Int.toNat c.layers) 3 1 (List.map encI ((relaxN c i).1)), .own A1_0 c1_0 3 1 (List.map encI ((relaxN c i).2.1))] := H.pick [2, 0] (by decide) rfl
    replace R0 := H.ext
    refine ⟨(some ⟨b2, 0, none⟩), (Int.toNat c.layers), A1_0, c1_0, ?_, ?_⟩
    · have e : i = c.layers.toNat := by omega
      subst e; have hV := relaxN_inv hv c.layers.toNat; simp [relax, hV.l1, hV.l2]
    · have e : i = c.layers.toNat := by omega
      subst e; exact H

end Go.Core
