/- Lemmas and walks that the proof of this claim uses: TbCoreE. -/
import Derived.Test.YtmjadkjcbaohbaaTbCoreSpec4
import Derived.Test.YtmjadkjcbaohbaaProg
import Derived.KernelRfl
namespace Go.Core
open Go.Tb Go.Proofs
set_option linter.unusedVariables false
set_option linter.unusedSimpArgs false

theorem k43 : tyK Try.prog 43 = some (false, 1) := by kernel_rfl
theorem k81 : tyK Try.prog 81 = some (false, 1) := by kernel_rfl
theorem s58 : tyS Try.prog 58 = some (43, 1, 24, [.slice none 0 0]) := by kernel_rfl
theorem s78 : tyS Try.prog 78 = some (81, 1, 24, [.slice none 0 0]) := by kernel_rfl
theorem s81 : tyS Try.prog 81 = some (4, 1, 1, [.bool false]) := by kernel_rfl


set_option maxRecDepth 20000 in
theorem ref_walks {c : Core} {A_c_bounds : Option Addr} {c_c_bounds : Nat} {k : Int} {w : World} (h_c_bounds : Sl w A_c_bounds c_c_bounds 3 (c.bounds.map encB)) (hv : validate c = 0) (hk : 0 ≤ k ∧ k ≤ 8) : Calls Try.prog 65 #[.agg #[.int .i64 c.layers, .slice A_c_bounds c.bounds.length c_c_bounds], .int .i64 k] w (fun e w' => ∃ (A0 : Option Addr) (c0 : Nat) (hs0 : List (Option Addr × Nat)) (A1 : Option Addr) (c1 : Nat) (hs1 : List (Option Addr × Nat)), e = .returned (.tuple #[.slice A0 ((wsT c (Int.toNat k) (Int.toNat c.layers)).length) c0, .slice A1 ((wkT c (Int.toNat k) (Int.toNat c.layers)).length) c1]) ∧ Hp w w' [.tab A0 c0 43 hs0 3 1 (encM encI ((wsT c (Int.toNat k) (Int.toNat c.layers)))), .tab A1 c1 81 hs1 4 1 (encM encBo ((wkT c (Int.toNat k) (Int.toNat c.layers))))]) := by
  refine calls_of_cw (args := [.agg #[.int .i64 c.layers, .slice A_c_bounds c.bounds.length c_c_bounds], .int .i64 k]) Try.func65 rfl rfl rfl rfl ?_
  have H := Hp.start w
  have R0 := H.ext
  have hvo := validate_ok hv
  have hrp : (List.replicate (Int.toNat c.layers) false).length = Int.toNat c.layers := by simp
  have hrq : (List.replicate (Int.toNat c.layers) (0 : Int)).length = Int.toNat c.layers := by simp
  have hmx := h_c_bounds.max
  refine CW.seq fun K1 hK1 => ?_
  refine CW.region ?_
  refine LW.go rfl rfl (OW.box rfl fun b1 w1 N1 => ?_)
  replace H : Hp w w1 [.blk b1 24 [.int .i64 c.layers, .slice A_c_bounds c.bounds.length c_c_bounds]] := H.new N1 N1.blk
  replace R0 := H.ext
  refine LW.pure rfl rfl (RV.assign rfl) ?_
  refine LW.pure rfl rfl (RV.assign rfl) ?_
  refine LW.nil (hK1 _ _ ?_)
  refine CW.cut (fun ρ wl1 => ∃ (hsL1_6 : List (Option Addr × Nat)) (AL1_6 : Option Addr) (cL1_6 : Nat) (hsL1_7 : List (Option Addr × Nat)) (AL1_7 : Option Addr) (cL1_7 : Nat), ρ = [(1, .int .i64 k), (2, .pointer (some (⟨b1, 0, none⟩))), (4, .slice none 0 0), (5, .slice none 0 0), (6, .slice AL1_6 (Int.toNat c.layers) cL1_6), (7, .slice AL1_7 (Int.toNat c.layers) cL1_7)] ∧ Hp w wl1 [.tab AL1_6 cL1_6 43 hsL1_6 3 1 (encM encI (List.replicate (Int.toNat c.layers) ([] : List Int))), .tab AL1_7 cL1_7 81 hsL1_7 4 1 (encM encBo (List.replicate (Int.toNat c.layers) ([] : List Bool))), .blk b1 24 [.int .i64 c.layers, .slice A_c_bounds c.bounds.length c_c_bounds]] ∧ (True)) ?_ ?_
  ·
    refine CW.draw [] (fun _ => True) (.cons 0 1 (.cons 1 1 (.cons 3 1 (.cons 4 1 (.alt 2 (.cons 6 1 (.cons 5 0 (.cons 7 1 .nil))) (.cons 5 0 (.cons 2 0 (.cons 6 1 (.cons 7 1 .nil))))))))) mixed (by kernel_rfl) fun w2 E1 => ?_
    replace H := H.grow E1
    replace R0 := H.ext
    refine DW.fix rfl rfl rfl (fun _ EQ => RV.fieldAddr f24_0 rfl) ?_
    refine DW.fix rfl rfl rfl (fun _ EQ => RV.load1 k3 rfl (((H.grow EQ).blk 0 rfl).cells.off 0) rfl) ?_
    refine DW.fix rfl rfl rfl (fun _ EQ => RV.fieldAddr f24_0 rfl) ?_
    refine DW.fix rfl rfl rfl (fun _ EQ => RV.load1 k3 rfl (((H.grow EQ).blk 0 rfl).cells.off 0) rfl) ?_
    refine DW.alt ?_ ?_
    ·
      refine DW.sole rfl rfl rfl (OW.makeL (enc := (fun (_ : Unit) => [Value.slice none 0 0])) () s58 rfl rfl rfl rfl rfl (by omega) (by omega) (by omega) fun b2 w3 N2 => ?_)
      refine ⟨fun _ => N2.ext, ModX.ext N2.ext, ?_⟩
      replace H : Hp w w3 [.own (some ⟨b2, 0, none⟩) (Int.toNat c.layers) 43 1 (List.map (fun (_ : Unit) => [Value.slice none 0 0]) ((List.replicate (Int.toNat c.layers) ()))), .blk b1 24 [.int .i64 c.layers, .slice A_c_bounds c.bounds.length c_c_bounds]] := H.made' (enc := (fun (_ : Unit) => [Value.slice none 0 0])) (l := (List.replicate (Int.toNat c.layers) ())) N2 N2.blk (fun _ => rfl) (by simp) (by first | decide | omega | simp)
      replace R0 := H.ext
      replace H : Hp w w3 [.tab (some ⟨b2, 0, none⟩) (Int.toNat c.layers) 43 (List.replicate (Int.toNat c.layers) (none, 0)) 3 1 (encM encI (List.replicate (Int.toNat c.layers) ([] : List Int))), .blk b1 24 [.int .i64 c.layers, .slice A_c_bounds c.bounds.length c_c_bounds]] := H.asTab encI 0 3 1 rfl
      replace R0 := H.ext
      refine DW.fix rfl rfl rfl (fun _ EQ => RV.assign rfl) ?_
      refine DW.sole rfl rfl rfl (OW.makeL (enc := (fun (_ : Unit) => [Value.slice none 0 0])) () s78 rfl rfl rfl rfl rfl (by omega) (by omega) (by omega) fun b3 w4 N3 => ?_)
      refine ⟨fun _ => N3.ext, ModX.ext N3.ext, ?_⟩
      replace H : Hp w w4 [.own (some ⟨b3, 0, none⟩) (Int.toNat c.layers) 81 1 (List.map (fun (_ : Unit) => [Value.slice none 0 0]) ((List.replicate (Int.toNat c.layers) ()))), .tab (some ⟨b2, 0, none⟩) (Int.toNat c.layers) 43 (List.replicate (Int.toNat c.layers) (none, 0)) 3 1 (encM encI (List.replicate (Int.toNat c.layers) ([] : List Int))), .blk b1 24 [.int .i64 c.layers, .slice A_c_bounds c.bounds.length c_c_bounds]] := H.made' (enc := (fun (_ : Unit) => [Value.slice none 0 0])) (l := (List.replicate (Int.toNat c.layers) ())) N3 N3.blk (fun _ => rfl) (by simp) (by first | decide | omega | simp)
      replace R0 := H.ext
      replace H : Hp w w4 [.tab (some ⟨b3, 0, none⟩) (Int.toNat c.layers) 81 (List.replicate (Int.toNat c.layers) (none, 0)) 4 1 (encM encBo (List.replicate (Int.toNat c.layers) ([] : List Bool))), .tab (some ⟨b2, 0, none⟩) (Int.toNat c.layers) 43 (List.replicate (Int.toNat c.layers) (none, 0)) 3 1 (encM encI (List.replicate (Int.toNat c.layers) ([] : List Int))), .blk b1 24 [.int .i64 c.layers, .slice A_c_bounds c.bounds.length c_c_bounds]] := H.asTab encBo 0 4 1 rfl
      replace R0 := H.ext
      refine DW.fix rfl rfl rfl (fun _ EQ => RV.assign rfl) ?_
      refine DW.nil ?_
      replace H : Hp w w4 [.tab (some ⟨b2, 0, none⟩) (Int.toNat c.layers) 43 (List.replicate (Int.toNat c.layers) (none, 0)) 3 1 (encM encI (List.replicate (Int.toNat c.layers) ([] : List Int))), .tab (some ⟨b3, 0, none⟩) (Int.toNat c.layers) 81 (List.replicate (Int.toNat c.layers) (none, 0)) 4 1 (encM encBo (List.replicate (Int.toNat c.layers) ([] : List Bool))), .blk b1 24 [.int .i64 c.layers, .slice A_c_bounds c.bounds.length c_c_bounds]] := H.pick [1, 0, 2] (by decide) rfl
      replace R0 := H.ext
      refine ⟨_, ?_, (List.replicate (Int.toNat c.layers) (none, 0)), (some ⟨b2, 0, none⟩), (Int.toNat c.layers), (List.replicate (Int.toNat c.layers) (none, 0)), (some ⟨b3, 0, none⟩), (Int.toNat c.layers), rfl, ?_, ?_⟩
      · exact ⟨rfl, rfl, rfl, rfl, look_slice rfl (by first | rfl | omega | (simp; done)), look_slice rfl (by first | rfl | omega | (simp; done)), trivial⟩
      · exact H
      · trivial
    ·
      refine DW.sole rfl rfl rfl (OW.makeL (enc := (fun (_ : Unit) => [Value.slice none 0 0])) () s78 rfl rfl rfl rfl rfl (by omega) (by omega) (by omega) fun b4 w5 N4 => ?_)
      refine ⟨fun _ => N4.ext, ModX.ext N4.ext, ?_⟩
      replace H : Hp w w5 [.own (some ⟨b4, 0, none⟩) (Int.toNat c.layers) 81 1 (List.map (fun (_ : Unit) => [Value.slice none 0 0]) ((List.replicate (Int.toNat c.layers) ()))), .blk b1 24 [.int .i64 c.layers, .slice A_c_bounds c.bounds.length c_c_bounds]] := H.made' (enc := (fun (_ : Unit) => [Value.slice none 0 0])) (l := (List.replicate (Int.toNat c.layers) ())) N4 N4.blk (fun _ => rfl) (by simp) (by first | decide | omega | simp)
      replace R0 := H.ext
      replace H : Hp w w5 [.tab (some ⟨b4, 0, none⟩) (Int.toNat c.layers) 81 (List.replicate (Int.toNat c.layers) (none, 0)) 4 1 (encM encBo (List.replicate (Int.toNat c.layers) ([] : List Bool))), .blk b1 24 [.int .i64 c.layers, .slice A_c_bounds c.bounds.length c_c_bounds]] := H.asTab encBo 0 4 1 rfl
      replace R0 := H.ext
      refine DW.sole rfl rfl rfl (OW.makeL (enc := (fun (_ : Unit) => [Value.slice none 0 0])) () s58 rfl rfl rfl rfl rfl (by omega) (by omega) (by omega) fun b5 w6 N5 => ?_)
      refine ⟨fun _ => N5.ext, ModX.ext N5.ext, ?_⟩
      replace H : Hp w w6 [.own (some ⟨b5, 0, none⟩) (Int.toNat c.layers) 43 1 (List.map (fun (_ : Unit) => [Value.slice none 0 0]) ((List.replicate (Int.toNat c.layers) ()))), .tab (some ⟨b4, 0, none⟩) (Int.toNat c.layers) 81 (List.replicate (Int.toNat c.layers) (none, 0)) 4 1 (encM encBo (List.replicate (Int.toNat c.layers) ([] : List Bool))), .blk b1 24 [.int .i64 c.layers, .slice A_c_bounds c.bounds.length c_c_bounds]] := H.made' (enc := (fun (_ : Unit) => [Value.slice none 0 0])) (l := (List.replicate (Int.toNat c.layers) ())) N5 N5.blk (fun _ => rfl) (by simp) (by first | decide | omega | simp)
      replace R0 := H.ext
      replace H : Hp w w6 [.tab (some ⟨b5, 0, none⟩) (Int.toNat c.layers) 43 (List.replicate (Int.toNat c.layers) (none, 0)) 3 1 (encM encI (List.replicate (Int.toNat c.layers) ([] : List Int))), .tab (some ⟨b4, 0, none⟩) (Int.toNat c.layers) 81 (List.replicate (Int.toNat c.layers) (none, 0)) 4 1 (encM encBo (List.replicate (Int.toNat c.layers) ([] : List Bool))), .blk b1 24 [.int .i64 c.layers, .slice A_c_bounds c.bounds.length c_c_bounds]] := H.asTab encI 0 3 1 rfl
      replace R0 := H.ext
      refine DW.fix rfl rfl rfl (fun _ EQ => RV.assign rfl) ?_
      refine DW.fix rfl rfl rfl (fun _ EQ => RV.assign rfl) ?_
      refine DW.nil ?_
      refine ⟨_, ?_, (List.replicate (Int.toNat c.layers) (none, 0)), (some ⟨b5, 0, none⟩), (Int.toNat c.layers), (List.replicate (Int.toNat c.layers) (none, 0)), (some ⟨b4, 0, none⟩), (Int.toNat c.layers), rfl, ?_, ?_⟩
      · exact ⟨rfl, rfl, rfl, rfl, look_slice rfl (by first | rfl | omega | (simp; done)), look_slice rfl (by first | rfl | omega | (simp; done)), trivial⟩
      · exact H
      · trivial
  ·
    rintro _ wl1 ⟨hsL1_6, AL1_6, cL1_6, hsL1_7, AL1_7, cL1_7, rfl, H, hI1⟩
    have R0 := H.ext
    refine CW.seq fun K2 hK2 => ?_
    refine CW.seq fun K3 hK3 => ?_
    refine CW.region ?_
    refine LW.pure rfl rfl (RV.assign rfl) ?_
    refine LW.nil (hK3 _ _ ?_)
    refine CW.block ?_
    refine CW.loop (fun meas ρ wl2 => ∃ (a : Nat) (hsL2_6 : List (Option Addr × Nat)) (hsL2_7 : List (Option Addr × Nat)), meas = Int.toNat c.layers - a ∧ ρ = [(1, .int .i64 k), (2, .pointer (some (⟨b1, 0, none⟩))), (4, .slice none 0 0), (5, .slice none 0 0), (6, .slice AL1_6 (Int.toNat c.layers) cL1_6), (7, .slice AL1_7 (Int.toNat c.layers) cL1_7), (8, .int .i64 (↑a))] ∧ Hp w wl2 [.tab AL1_6 cL1_6 43 hsL2_6 3 1 (encM encI (wsT c (Int.toNat k) a)), .tab AL1_7 cL1_7 81 hsL2_7 4 1 (encM encBo (wkT c (Int.toNat k) a)), .blk b1 24 [.int .i64 c.layers, .slice A_c_bounds c.bounds.length c_c_bounds]] ∧ (a ≤ Int.toNat c.layers)) (Int.toNat c.layers - 0) ⟨_, ?_, 0, hsL1_6, hsL1_7, rfl, rfl, ?_, ?_⟩ ?_
    · exact ⟨rfl, rfl, rfl, rfl, look_slice rfl (by first | rfl | omega | (simp; done)), look_slice rfl (by first | rfl | omega | (simp; done)), look_int rfl (by first | rfl | omega | (simp; omega)), trivial⟩
    · exact H
    · omega
    rintro _ _ wl2 ⟨a, hsL2_6, hsL2_7, rfl, rfl, H, hI2⟩
    have R0 := H.ext
    have hs1 := wsT_len c (Int.toNat k) a
    have hs2 := wkT_len c (Int.toNat k) a
    refine CW.seq fun K4 hK4 => ?_
    refine CW.seq fun K5 hK5 => ?_
    refine CW.region ?_
    refine LW.pure rfl rfl (RV.move rfl) ?_
    refine LW.pure rfl rfl (RV.fieldAddr f24_0 rfl) ?_
    refine LW.pure rfl rfl (RV.load1 k3 rfl ((H.blk 2 rfl).cells.off 0) rfl) ?_
    refine LW.pure rfl rfl (RV.lss rfl rfl) ?_
    refine LW.nil (hK5 _ _ ?_)
    refine CW.cond rfl (fun h1 => ?_) (fun h1 => ?_)
    ·
      have h1 := of_decide_eq_true h1
      refine CW.skip (hK4 _ _ ?_)
      refine CW.seq fun K6 hK6 => ?_
      refine CW.block ?_
      refine CW.cut (fun ρ wl3 => ∃ (hsL3_6 : List (Option Addr × Nat)) (hsL3_7 : List (Option Addr × Nat)), ρ = [(1, .int .i64 k), (2, .pointer (some (⟨b1, 0, none⟩))), (4, .slice none 0 0), (5, .slice none 0 0), (6, .slice AL1_6 (Int.toNat c.layers) cL1_6), (7, .slice AL1_7 (Int.toNat c.layers) cL1_7), (8, .int .i64 (↑a))] ∧ Hp w wl3 [.tab AL1_6 cL1_6 43 hsL3_6 3 1 (encM encI ((wsT c (Int.toNat k) a).set a (List.replicate (Int.toNat c.layers) 0))), .tab AL1_7 cL1_7 81 hsL3_7 4 1 (encM encBo ((wkT c (Int.toNat k) a).set a (List.replicate (Int.toNat c.layers) false))), .blk b1 24 [.int .i64 c.layers, .slice A_c_bounds c.bounds.length c_c_bounds]] ∧ (True)) ?_ ?_
      ·
        have H0 := H
        have hz : wl2.heap.size ≤ wl2.heap.size := Nat.le_refl _
        refine CW.draw [11, 13] (XB wl2 [.tab AL1_6 cL1_6 43 hsL2_6 3 1 (encM encI (wsT c (Int.toNat k) a)), .tab AL1_7 cL1_7 81 hsL2_7 4 1 (encM encBo (wkT c (Int.toNat k) a)), .blk b1 24 [.int .i64 c.layers, .slice A_c_bounds c.bounds.length c_c_bounds]] [0, 1]) (.cons 0 1 (.cons 1 1 (.cons 4 1 (.cons 5 1 (.cons 2 2 (.cons 3 2 (.cons 7 2 (.cons 8 2 (.alt 6 (.cons 10 1 (.alt 9 (.cons 11 0 (.cons 12 2 (.cons 13 0 .nil))) (.cons 11 0 (.cons 9 0 (.cons 12 2 (.cons 13 0 .nil)))))) (.cons 9 0 (.cons 6 0 (.cons 10 1 (.cons 11 0 (.cons 12 2 (.cons 13 0 .nil))))))))))))))) mixed (by kernel_rfl) fun w7 E2 => ?_
        replace H := H.grow E2
        replace R0 := H.ext
        replace hz := Nat.le_trans hz (Ext.size E2)
        refine DW.fix rfl rfl rfl (fun _ EQ => RV.move rfl) ?_
        refine DW.fix rfl rfl rfl (fun _ EQ => RV.move rfl) ?_
        refine DW.fix rfl rfl rfl (fun _ EQ => RV.fieldAddr f24_0 rfl) ?_
        refine DW.fix rfl rfl rfl (fun _ EQ => RV.load1 k3 rfl (((H.grow EQ).blk 2 rfl).cells.off 0) rfl) ?_
        refine DW.thru rfl rfl rfl (fun _ EQ => RV.move rfl) ?_
        refine DW.thru rfl rfl rfl (fun _ EQ => RV.move rfl) ?_
        refine DW.thru rfl rfl rfl (fun _ EQ => RV.fieldAddr f24_0 rfl) ?_
        refine DW.thru rfl rfl rfl (fun _ EQ => RV.load1 k3 rfl ((H.thruB 2 rfl EQ (H0.notX [0, 1] 2 rfl (by decide))).cells.off 0) rfl) ?_
        refine DW.alt ?_ ?_
        ·
          refine DW.sole rfl rfl rfl (OW.makeL (enc := encI) 0 s43 rfl rfl rfl rfl rfl (by omega) (by omega) (by omega) fun b6 w8 N6 => ?_)
          refine ⟨fun _ => N6.ext, ModX.ext N6.ext, ?_⟩
          have G0_b6 : wl2.heap.size ≤ b6 := by rw [N6.at_]; exact hz
          replace H : Hp w w8 [.own (some ⟨b6, 0, none⟩) (Int.toNat c.layers) 3 1 (List.map encI ((List.replicate (Int.toNat c.layers) 0))), .tab AL1_6 cL1_6 43 hsL2_6 3 1 (encM encI (wsT c (Int.toNat k) a)), .tab AL1_7 cL1_7 81 hsL2_7 4 1 (encM encBo (wkT c (Int.toNat k) a)), .blk b1 24 [.int .i64 c.layers, .slice A_c_bounds c.bounds.length c_c_bounds]] := H.made' (enc := encI) (l := (List.replicate (Int.toNat c.layers) 0)) N6 N6.blk (fun _ => rfl) (by simp) (by first | decide | omega | simp)
          replace R0 := H.ext
          replace hz := Nat.le_trans hz (Ext.size N6.ext)
          have hb1 : 0 ≤ ((↑a) : Int) ∧ ((↑a) : Int) < ((Int.toNat c.layers : Nat) : Int) := by omega
          obtain ⟨x1, hx1⟩ := ex_at (l := wsT c (Int.toNat k) a) (j := a) (by first | omega | (simp; omega))
          obtain ⟨B1, e1, hh1⟩ := (H.tab 1 rfl).hd hx1
          refine DW.fix rfl rfl rfl (fun _ EQ => RV.indexAddr s58 rfl rfl hb1 ((H.tab 1 rfl).addr_ hx1)) ?_
          refine DW.alt ?_ ?_
          ·
            refine DW.sole rfl rfl rfl (OW.makeL (enc := encBo) false s81 rfl rfl rfl rfl rfl (by omega) (by omega) (by omega) fun b7 w9 N7 => ?_)
            refine ⟨fun _ => N7.ext, ModX.ext N7.ext, ?_⟩
            have G0_b7 : wl2.heap.size ≤ b7 := by rw [N7.at_]; exact hz
            replace H : Hp w w9 [.own (some ⟨b7, 0, none⟩) (Int.toNat c.layers) 4 1 (List.map encBo ((List.replicate (Int.toNat c.layers) false))), .own (some ⟨b6, 0, none⟩) (Int.toNat c.layers) 3 1 (List.map encI ((List.replicate (Int.toNat c.layers) 0))), .tab AL1_6 cL1_6 43 hsL2_6 3 1 (encM encI (wsT c (Int.toNat k) a)), .tab AL1_7 cL1_7 81 hsL2_7 4 1 (encM encBo (wkT c (Int.toNat k) a)), .blk b1 24 [.int .i64 c.layers, .slice A_c_bounds c.bounds.length c_c_bounds]] := H.made' (enc := encBo) (l := (List.replicate (Int.toNat c.layers) false)) N7 N7.blk (fun _ => rfl) (by simp) (by first | decide | omega | simp)
            replace R0 := H.ext
            replace hz := Nat.le_trans hz (Ext.size N7.ext)
            refine DW.sole rfl rfl rfl (OW.storeO (enc := encH) (vs := [.slice (some ⟨b6, 0, none⟩) (Int.toNat c.layers) (Int.toNat c.layers)]) 0 ((some ⟨b6, 0, none⟩, Int.toNat c.layers), List.map encI ((List.replicate (Int.toNat c.layers) 0))) k43 rfl rfl (H.tab 2 rfl).outer (fun _ => rfl) rfl ((H.tab 2 rfl).zipAt hx1 hh1) rfl rfl (by decide) rfl (by simp [encH, over]) fun w10 M1 O1 => ?_)
            refine ⟨fun h => absurd h (by decide), M1.modx (XB.tabO 0 (by decide) rfl), ?_⟩
            replace H : Hp w w10 [.own (some ⟨b7, 0, none⟩) (Int.toNat c.layers) 4 1 (List.map encBo ((List.replicate (Int.toNat c.layers) false))), .tab AL1_6 cL1_6 43 ((hsL2_6.set a (some ⟨b6, 0, none⟩, Int.toNat c.layers))) 3 1 (encM encI (((wsT c (Int.toNat k) a).set a ((List.replicate (Int.toNat c.layers) 0))))), .tab AL1_7 cL1_7 81 hsL2_7 4 1 (encM encBo (wkT c (Int.toNat k) a)), .blk b1 24 [.int .i64 c.layers, .slice A_c_bounds c.bounds.length c_c_bounds]] := H.tabSet 2 1 (by decide) rfl rfl (lt_of_at hx1) M1 O1
            replace R0 := H.ext
            replace hz := Nat.le_trans hz M1.size
            have hb2 : 0 ≤ ((↑a) : Int) ∧ ((↑a) : Int) < ((Int.toNat c.layers : Nat) : Int) := by omega
            obtain ⟨x2, hx2⟩ := ex_at (l := wkT c (Int.toNat k) a) (j := a) (by first | omega | (simp; omega))
            obtain ⟨B2, e2, hh2⟩ := (H.tab 2 rfl).hd hx2
            refine DW.thru rfl rfl rfl (fun _ EQ => RV.indexAddr s78 rfl rfl hb2 ((H.tab 2 rfl).addr_ hx2)) ?_
            refine DW.sole rfl rfl rfl (OW.storeO (enc := encH) (vs := [.slice (some ⟨b7, 0, none⟩) (Int.toNat c.layers) (Int.toNat c.layers)]) 0 ((some ⟨b7, 0, none⟩, Int.toNat c.layers), List.map encBo ((List.replicate (Int.toNat c.layers) false))) k81 rfl rfl (H.tab 2 rfl).outer (fun _ => rfl) rfl ((H.tab 2 rfl).zipAt hx2 hh2) rfl rfl (by decide) rfl (by simp [encH, over]) fun w11 M2 O2 => ?_)
            refine ⟨fun h => absurd h (by decide), M2.modx (XB.tabO 1 (by decide) rfl), ?_⟩
            replace H : Hp w w11 [.tab AL1_6 cL1_6 43 ((hsL2_6.set a (some ⟨b6, 0, none⟩, Int.toNat c.layers))) 3 1 (encM encI (((wsT c (Int.toNat k) a).set a ((List.replicate (Int.toNat c.layers) 0))))), .tab AL1_7 cL1_7 81 ((hsL2_7.set a (some ⟨b7, 0, none⟩, Int.toNat c.layers))) 4 1 (encM encBo (((wkT c (Int.toNat k) a).set a ((List.replicate (Int.toNat c.layers) false))))), .blk b1 24 [.int .i64 c.layers, .slice A_c_bounds c.bounds.length c_c_bounds]] := H.tabSet 2 0 (by decide) rfl rfl (lt_of_at hx2) M2 O2
            replace R0 := H.ext
            replace hz := Nat.le_trans hz M2.size
            refine DW.nil ?_
            refine ⟨_, ?_, ((hsL2_6.set a (some ⟨b6, 0, none⟩, Int.toNat c.layers))), ((hsL2_7.set a (some ⟨b7, 0, none⟩, Int.toNat c.layers))), rfl, ?_, ?_⟩
            · exact ⟨rfl, rfl, rfl, rfl, look_slice rfl (by first | rfl | omega | (simp; done)), look_slice rfl (by first | rfl | omega | (simp; done)), rfl, trivial⟩
            · exact H
            · trivial
          ·
            refine DW.sole rfl rfl rfl (OW.storeO (enc := encH) (vs := [.slice (some ⟨b6, 0, none⟩) (Int.toNat c.layers) (Int.toNat c.layers)]) 0 ((some ⟨b6, 0, none⟩, Int.toNat c.layers), List.map encI ((List.replicate (Int.toNat c.layers) 0))) k43 rfl rfl (H.tab 1 rfl).outer (fun _ => rfl) rfl ((H.tab 1 rfl).zipAt hx1 hh1) rfl rfl (by decide) rfl (by simp [encH, over]) fun w12 M3 O3 => ?_)
            refine ⟨fun h => absurd h (by decide), M3.modx (XB.tabO 0 (by decide) rfl), ?_⟩
            replace H : Hp w w12 [.tab AL1_6 cL1_6 43 ((hsL2_6.set a (some ⟨b6, 0, none⟩, Int.toNat c.layers))) 3 1 (encM encI (((wsT c (Int.toNat k) a).set a ((List.replicate (Int.toNat c.layers) 0))))), .tab AL1_7 cL1_7 81 hsL2_7 4 1 (encM encBo (wkT c (Int.toNat k) a)), .blk b1 24 [.int .i64 c.layers, .slice A_c_bounds c.bounds.length c_c_bounds]] := H.tabSet 1 0 (by decide) rfl rfl (lt_of_at hx1) M3 O3
            replace R0 := H.ext
            replace hz := Nat.le_trans hz M3.size
            refine DW.sole rfl rfl rfl (OW.makeL (enc := encBo) false s81 rfl rfl rfl rfl rfl (by omega) (by omega) (by omega) fun b8 w13 N8 => ?_)
            refine ⟨fun _ => N8.ext, ModX.ext N8.ext, ?_⟩
            have G0_b8 : wl2.heap.size ≤ b8 := by rw [N8.at_]; exact hz
            replace H : Hp w w13 [.own (some ⟨b8, 0, none⟩) (Int.toNat c.layers) 4 1 (List.map encBo ((List.replicate (Int.toNat c.layers) false))), .tab AL1_6 cL1_6 43 ((hsL2_6.set a (some ⟨b6, 0, none⟩, Int.toNat c.layers))) 3 1 (encM encI (((wsT c (Int.toNat k) a).set a ((List.replicate (Int.toNat c.layers) 0))))), .tab AL1_7 cL1_7 81 hsL2_7 4 1 (encM encBo (wkT c (Int.toNat k) a)), .blk b1 24 [.int .i64 c.layers, .slice A_c_bounds c.bounds.length c_c_bounds]] := H.made' (enc := encBo) (l := (List.replicate (Int.toNat c.layers) false)) N8 N8.blk (fun _ => rfl) (by simp) (by first | decide | omega | simp)
            replace R0 := H.ext
            replace hz := Nat.le_trans hz (Ext.size N8.ext)
            have hb3 : 0 ≤ ((↑a) : Int) ∧ ((↑a) : Int) < ((Int.toNat c.layers : Nat) : Int) := by omega
            obtain ⟨x3, hx3⟩ := ex_at (l := wkT c (Int.toNat k) a) (j := a) (by first | omega | (simp; omega))
            obtain ⟨B3, e3, hh3⟩ := (H.tab 2 rfl).hd hx3
            refine DW.thru rfl rfl rfl (fun _ EQ => RV.indexAddr s78 rfl rfl hb3 ((H.tab 2 rfl).addr_ hx3)) ?_
            refine DW.sole rfl rfl rfl (OW.storeO (enc := encH) (vs := [.slice (some ⟨b8, 0, none⟩) (Int.toNat c.layers) (Int.toNat c.layers)]) 0 ((some ⟨b8, 0, none⟩, Int.toNat c.layers), List.map encBo ((List.replicate (Int.toNat c.layers) false))) k81 rfl rfl (H.tab 2 rfl).outer (fun _ => rfl) rfl ((H.tab 2 rfl).zipAt hx3 hh3) rfl rfl (by decide) rfl (by simp [encH, over]) fun w14 M4 O4 => ?_)
            refine ⟨fun h => absurd h (by decide), M4.modx (XB.tabO 1 (by decide) rfl), ?_⟩
            replace H : Hp w w14 [.tab AL1_6 cL1_6 43 ((hsL2_6.set a (some ⟨b6, 0, none⟩, Int.toNat c.layers))) 3 1 (encM encI (((wsT c (Int.toNat k) a).set a ((List.replicate (Int.toNat c.layers) 0))))), .tab AL1_7 cL1_7 81 ((hsL2_7.set a (some ⟨b8, 0, none⟩, Int.toNat c.layers))) 4 1 (encM encBo (((wkT c (Int.toNat k) a).set a ((List.replicate (Int.toNat c.layers) false))))), .blk b1 24 [.int .i64 c.layers, .slice A_c_bounds c.bounds.length c_c_bounds]] := H.tabSet 2 0 (by decide) rfl rfl (lt_of_at hx3) M4 O4
            replace R0 := H.ext
            replace hz := Nat.le_trans hz M4.size
            refine DW.nil ?_
            refine ⟨_, ?_, ((hsL2_6.set a (some ⟨b6, 0, none⟩, Int.toNat c.layers))), ((hsL2_7.set a (some ⟨b8, 0, none⟩, Int.toNat c.layers))), rfl, ?_, ?_⟩
            · exact ⟨rfl, rfl, rfl, rfl, look_slice rfl (by first | rfl | omega | (simp; done)), look_slice rfl (by first | rfl | omega | (simp; done)), rfl, trivial⟩
            · exact H
            · trivial
        ·
          refine DW.sole rfl rfl rfl (OW.makeL (enc := encBo) false s81 rfl rfl rfl rfl rfl (by omega) (by omega) (by omega) fun b9 w15 N9 => ?_)
          refine ⟨fun _ => N9.ext, ModX.ext N9.ext, ?_⟩
          have G0_b9 : wl2.heap.size ≤ b9 := by rw [N9.at_]; exact hz
          replace H : Hp w w15 [.own (some ⟨b9, 0, none⟩) (Int.toNat c.layers) 4 1 (List.map encBo ((List.replicate (Int.toNat c.layers) false))), .tab AL1_6 cL1_6 43 hsL2_6 3 1 (encM encI (wsT c (Int.toNat k) a)), .tab AL1_7 cL1_7 81 hsL2_7 4 1 (encM encBo (wkT c (Int.toNat k) a)), .blk b1 24 [.int .i64 c.layers, .slice A_c_bounds c.bounds.length c_c_bounds]] := H.made' (enc := encBo) (l := (List.replicate (Int.toNat c.layers) false)) N9 N9.blk (fun _ => rfl) (by simp) (by first | decide | omega | simp)
          replace R0 := H.ext
          replace hz := Nat.le_trans hz (Ext.size N9.ext)
          refine DW.sole rfl rfl rfl (OW.makeL (enc := encI) 0 s43 rfl rfl rfl rfl rfl (by omega) (by omega) (by omega) fun b10 w16 N10 => ?_)
          refine ⟨fun _ => N10.ext, ModX.ext N10.ext, ?_⟩
          have G0_b10 : wl2.heap.size ≤ b10 := by rw [N10.at_]; exact hz
          replace H : Hp w w16 [.own (some ⟨b10, 0, none⟩) (Int.toNat c.layers) 3 1 (List.map encI ((List.replicate (Int.toNat c.layers) 0))), .own (some ⟨b9, 0, none⟩) (Int.toNat c.layers) 4 1 (List.map encBo ((List.replicate (Int.toNat c.layers) false))), .tab AL1_6 cL1_6 43 hsL2_6 3 1 (encM encI (wsT c (Int.toNat k) a)), .tab AL1_7 cL1_7 81 hsL2_7 4 1 (encM encBo (wkT c (Int.toNat k) a)), .blk b1 24 [.int .i64 c.layers, .slice A_c_bounds c.bounds.length c_c_bounds]] := H.made' (enc := encI) (l := (List.replicate (Int.toNat c.layers) 0)) N10 N10.blk (fun _ => rfl) (by simp) (by first | decide | omega | simp)
          replace R0 := H.ext
          replace hz := Nat.le_trans hz (Ext.size N10.ext)
          have hb4 : 0 ≤ ((↑a) : Int) ∧ ((↑a) : Int) < ((Int.toNat c.layers : Nat) : Int) := by omega
          obtain ⟨x4, hx4⟩ := ex_at (l := wsT c (Int.toNat k) a) (j := a) (by first | omega | (simp; omega))
          obtain ⟨B4, e4, hh4⟩ := (H.tab 2 rfl).hd hx4
          refine DW.fix rfl rfl rfl (fun _ EQ => RV.indexAddr s58 rfl rfl hb4 ((H.tab 2 rfl).addr_ hx4)) ?_
          refine DW.sole rfl rfl rfl (OW.storeO (enc := encH) (vs := [.slice (some ⟨b10, 0, none⟩) (Int.toNat c.layers) (Int.toNat c.layers)]) 0 ((some ⟨b10, 0, none⟩, Int.toNat c.layers), List.map encI ((List.replicate (Int.toNat c.layers) 0))) k43 rfl rfl (H.tab 2 rfl).outer (fun _ => rfl) rfl ((H.tab 2 rfl).zipAt hx4 hh4) rfl rfl (by decide) rfl (by simp [encH, over]) fun w17 M5 O5 => ?_)
          refine ⟨fun h => absurd h (by decide), M5.modx (XB.tabO 0 (by decide) rfl), ?_⟩
          replace H : Hp w w17 [.own (some ⟨b9, 0, none⟩) (Int.toNat c.layers) 4 1 (List.map encBo ((List.replicate (Int.toNat c.layers) false))), .tab AL1_6 cL1_6 43 ((hsL2_6.set a (some ⟨b10, 0, none⟩, Int.toNat c.layers))) 3 1 (encM encI (((wsT c (Int.toNat k) a).set a ((List.replicate (Int.toNat c.layers) 0))))), .tab AL1_7 cL1_7 81 hsL2_7 4 1 (encM encBo (wkT c (Int.toNat k) a)), .blk b1 24 [.int .i64 c.layers, .slice A_c_bounds c.bounds.length c_c_bounds]] := H.tabSet 2 0 (by decide) rfl rfl (lt_of_at hx4) M5 O5
          replace R0 := H.ext
          replace hz := Nat.le_trans hz M5.size
          have hb5 : 0 ≤ ((↑a) : Int) ∧ ((↑a) : Int) < ((Int.toNat c.layers : Nat) : Int) := by omega
          obtain ⟨x5, hx5⟩ := ex_at (l := wkT c (Int.toNat k) a) (j := a) (by first | omega | (simp; omega))
          obtain ⟨B5, e5, hh5⟩ := (H.tab 2 rfl).hd hx5
          refine DW.thru rfl rfl rfl (fun _ EQ => RV.indexAddr s78 rfl rfl hb5 ((H.tab 2 rfl).addr_ hx5)) ?_
          refine DW.sole rfl rfl rfl (OW.storeO (enc := encH) (vs := [.slice (some ⟨b9, 0, none⟩) (Int.toNat c.layers) (Int.toNat c.layers)]) 0 ((some ⟨b9, 0, none⟩, Int.toNat c.layers), List.map encBo ((List.replicate (Int.toNat c.layers) false))) k81 rfl rfl (H.tab 2 rfl).outer (fun _ => rfl) rfl ((H.tab 2 rfl).zipAt hx5 hh5) rfl rfl (by decide) rfl (by simp [encH, over]) fun w18 M6 O6 => ?_)
          refine ⟨fun h => absurd h (by decide), M6.modx (XB.tabO 1 (by decide) rfl), ?_⟩
          replace H : Hp w w18 [.tab AL1_6 cL1_6 43 ((hsL2_6.set a (some ⟨b10, 0, none⟩, Int.toNat c.layers))) 3 1 (encM encI (((wsT c (Int.toNat k) a).set a ((List.replicate (Int.toNat c.layers) 0))))), .tab AL1_7 cL1_7 81 ((hsL2_7.set a (some ⟨b9, 0, none⟩, Int.toNat c.layers))) 4 1 (encM encBo (((wkT c (Int.toNat k) a).set a ((List.replicate (Int.toNat c.layers) false))))), .blk b1 24 [.int .i64 c.layers, .slice A_c_bounds c.bounds.length c_c_bounds]] := H.tabSet 2 0 (by decide) rfl rfl (lt_of_at hx5) M6 O6
          replace R0 := H.ext
          replace hz := Nat.le_trans hz M6.size
          refine DW.nil ?_
          refine ⟨_, ?_, ((hsL2_6.set a (some ⟨b10, 0, none⟩, Int.toNat c.layers))), ((hsL2_7.set a (some ⟨b9, 0, none⟩, Int.toNat c.layers))), rfl, ?_, ?_⟩
          · exact ⟨rfl, rfl, rfl, rfl, look_slice rfl (by first | rfl | omega | (simp; done)), look_slice rfl (by first | rfl | omega | (simp; done)), rfl, trivial⟩
          · exact H
          · trivial
      ·
        rintro _ wl3 ⟨hsL3_6, hsL3_7, rfl, H, hI3⟩
        have R0 := H.ext
        refine CW.seq fun K7 hK7 => ?_
        refine CW.region ?_
        refine LW.pure rfl rfl (RV.move rfl) ?_
        refine LW.pure rfl rfl (RV.move rfl) ?_
        have hb6 : 0 ≤ ((↑a) : Int) ∧ ((↑a) : Int) < ((Int.toNat c.layers : Nat) : Int) := by omega
        have kx1 : ((wkT c (Int.toNat k) a).set a (List.replicate (Int.toNat c.layers) false))[a]? = some (List.replicate (Int.toNat c.layers) false) := List.getElem?_set_self (by omega)
        obtain ⟨B6, e6, hh6⟩ := (H.tab 1 rfl).hd kx1
        refine LW.pure rfl rfl (RV.indexAddr s78 rfl rfl hb6 ((H.tab 1 rfl).addr_ kx1)) ?_
        refine LW.pure rfl rfl (RV.load1 k81 rfl ((H.tab 1 rfl).cell kx1 hh6) rfl) ?_
        refine LW.pure rfl rfl (RV.move rfl) ?_
        have hb7 : 0 ≤ ((↑a) : Int) ∧ ((↑a) : Int) < (((List.replicate (Int.toNat c.layers) false).length : Nat) : Int) := by omega
        have kx2 : (List.replicate (Int.toNat c.layers) false)[a]? = some false := by simp [List.getElem?_replicate]; omega
        refine LW.pure rfl rfl (RV.indexAddr s81 rfl rfl hb7 (((H.tab 1 rfl).rowO kx1 hh6).sl.addr_ kx2)) ?_
        refine LW.go rfl rfl (OW.storeO (enc := encBo) (vs := [.bool true]) 0 (true) k4 rfl rfl ((H.tab 1 rfl).rowO kx1 hh6) (fun _ => rfl) rfl kx2 rfl rfl (by decide) rfl rfl fun w19 M7 O7 => ?_)
        replace H : Hp w w19 [.tab AL1_6 cL1_6 43 hsL3_6 3 1 (encM encI ((wsT c (Int.toNat k) a).set a (List.replicate (Int.toNat c.layers) 0))), .tab AL1_7 cL1_7 81 hsL3_7 4 1 (encM encBo ((((wkT c (Int.toNat k) a).set a (List.replicate (Int.toNat c.layers) false)).set a ((List.replicate (Int.toNat c.layers) false).set a true)))), .blk b1 24 [.int .i64 c.layers, .slice A_c_bounds c.bounds.length c_c_bounds]] := H.tabRow 1 rfl hh6 kx1 (by simp) M7 O7
        replace R0 := H.ext
        have hr1 : ((((wkT c (Int.toNat k) a).set a (List.replicate (Int.toNat c.layers) false)).set a ((List.replicate (Int.toNat c.layers) false).set a true)))[a]? = some ((List.replicate (Int.toNat c.layers) false).set a true) := List.getElem?_set_self (lt_of_at kx1)
        refine LW.nil (hK7 _ _ ?_)
        refine CW.seq fun K8 hK8 => ?_
        refine CW.region ?_
        refine LW.pure rfl rfl (RV.assign rfl) ?_
        refine LW.nil (hK8 _ _ ?_)
        refine CW.block ?_
        refine CW.loop (fun meas ρ wl4 => ∃ (r : Nat) (hsL4_6 : List (Option Addr × Nat)) (hsL4_7 : List (Option Addr × Nat)), meas = Int.toNat k - r ∧ ρ = [(1, .int .i64 k), (2, .pointer (some (⟨b1, 0, none⟩))), (4, .slice none 0 0), (5, .slice none 0 0), (6, .slice AL1_6 (Int.toNat c.layers) cL1_6), (7, .slice AL1_7 (Int.toNat c.layers) cL1_7), (8, .int .i64 (↑a)), (9, .int .i64 (↑r))] ∧ Hp w wl4 [.tab AL1_6 cL1_6 43 hsL4_6 3 1 (encM encI ((wsT c (Int.toNat k) a).set a (wN c a r).1)), .tab AL1_7 cL1_7 81 hsL4_7 4 1 (encM encBo ((wkT c (Int.toNat k) a).set a (wN c a r).2)), .blk b1 24 [.int .i64 c.layers, .slice A_c_bounds c.bounds.length c_c_bounds]] ∧ (r ≤ Int.toNat k)) (Int.toNat k - 0) ⟨_, ?_, 0, hsL3_6, hsL3_7, rfl, rfl, ?_, ?_⟩ ?_
        · exact ⟨rfl, rfl, rfl, rfl, look_slice rfl (by first | rfl | omega | (simp; done)), look_slice rfl (by first | rfl | omega | (simp; done)), rfl, look_int rfl (by first | rfl | omega | (simp; omega)), trivial⟩
        · simp only [List.set_set] at H; exact H
        · omega
        rintro _ _ wl4 ⟨r, hsL4_6, hsL4_7, rfl, rfl, H, hI4⟩
        have R0 := H.ext
        have hP := wN_inv' hv a (k := r) (by omega)
        have hP1 := hP.l1
        have hP2 := hP.l2
        refine CW.seq fun K9 hK9 => ?_
        refine CW.seq fun K10 hK10 => ?_
        refine CW.region ?_
        refine LW.pure rfl rfl (RV.move rfl) ?_
        refine LW.pure rfl rfl (RV.move rfl) ?_
        refine LW.pure rfl rfl (RV.lss rfl rfl) ?_
        refine LW.nil (hK10 _ _ ?_)
        refine CW.cond rfl (fun h2 => ?_) (fun h2 => ?_)
        ·
          have h2 := of_decide_eq_true h2
          refine CW.skip (hK9 _ _ ?_)
          refine CW.seq fun K11 hK11 => ?_
          refine CW.block ?_
          refine CW.cut (fun ρ wl5 => ∃ (AL5_10 : Option Addr) (cL5_10 : Nat) (AL5_11 : Option Addr) (cL5_11 : Nat), ρ = [(1, .int .i64 k), (2, .pointer (some (⟨b1, 0, none⟩))), (4, .slice none 0 0), (5, .slice none 0 0), (6, .slice AL1_6 (Int.toNat c.layers) cL1_6), (7, .slice AL1_7 (Int.toNat c.layers) cL1_7), (8, .int .i64 (↑a)), (9, .int .i64 (↑r)), (10, .slice AL5_10 (((wN c a r).1).length) cL5_10), (11, .slice AL5_11 (((wN c a r).2).length) cL5_11)] ∧ Hp w wl5 [.own AL5_10 cL5_10 3 1 (List.map encI ((wN c a r).1)), .own AL5_11 cL5_11 4 1 (List.map encBo ((wN c a r).2)), .tab AL1_6 cL1_6 43 hsL4_6 3 1 (encM encI ((wsT c (Int.toNat k) a).set a (wN c a r).1)), .tab AL1_7 cL1_7 81 hsL4_7 4 1 (encM encBo ((wkT c (Int.toNat k) a).set a (wN c a r).2)), .blk b1 24 [.int .i64 c.layers, .slice A_c_bounds c.bounds.length c_c_bounds]] ∧ (True)) ?_ ?_
          ·
            have H0 := H
            have hz : wl4.heap.size ≤ wl4.heap.size := Nat.le_refl _
            refine CW.draw [5, 11] (XB wl4 [.tab AL1_6 cL1_6 43 hsL4_6 3 1 (encM encI ((wsT c (Int.toNat k) a).set a (wN c a r).1)), .tab AL1_7 cL1_7 81 hsL4_7 4 1 (encM encBo ((wkT c (Int.toNat k) a).set a (wN c a r).2)), .blk b1 24 [.int .i64 c.layers, .slice A_c_bounds c.bounds.length c_c_bounds]] []) (.cons 1 2 (.cons 2 2 (.cons 3 2 (.cons 4 2 (.cons 7 2 (.cons 8 2 (.cons 9 2 (.cons 10 2 (.alt 0 (.alt 5 (.cons 6 0 (.cons 11 0 (.cons 12 2 (.cons 13 2 .nil)))) (.cons 6 0 (.cons 5 0 (.cons 11 0 (.cons 12 2 (.cons 13 2 .nil)))))) (.cons 6 0 (.cons 0 0 (.cons 5 0 (.cons 11 0 (.cons 12 2 (.cons 13 2 .nil))))))))))))))) mixed (by kernel_rfl) fun w20 E3 => ?_
            replace H := H.grow E3
            replace R0 := H.ext
            replace hz := Nat.le_trans hz (Ext.size E3)
            refine DW.thru rfl rfl rfl (fun _ EQ => RV.move rfl) ?_
            refine DW.thru rfl rfl rfl (fun _ EQ => RV.move rfl) ?_
            have hb8 : 0 ≤ ((↑a) : Int) ∧ ((↑a) : Int) < ((Int.toNat c.layers : Nat) : Int) := by omega
            have kx3 : ((wsT c (Int.toNat k) a).set a (wN c a r).1)[a]? = some ((wN c a r).1) := List.getElem?_set_self (by omega)
            obtain ⟨B7, e7, hh7⟩ := (H.tab 0 rfl).hd kx3
            refine DW.thru rfl rfl rfl (fun _ EQ => RV.indexAddr s58 rfl rfl hb8 ((H.tab 0 rfl).addr_ kx3)) ?_
            refine DW.thru rfl rfl rfl (fun _ EQ => RV.load1 k43 rfl ((H.thruT 0 rfl EQ (H0.notX [] 0 rfl (by decide))).cell kx3 hh7) rfl) ?_
            refine DW.thru rfl rfl rfl (fun _ EQ => RV.move rfl) ?_
            refine DW.thru rfl rfl rfl (fun _ EQ => RV.move rfl) ?_
            have hb9 : 0 ≤ ((↑a) : Int) ∧ ((↑a) : Int) < ((Int.toNat c.layers : Nat) : Int) := by omega
            have kx4 : ((wkT c (Int.toNat k) a).set a (wN c a r).2)[a]? = some ((wN c a r).2) := List.getElem?_set_self (by omega)
            obtain ⟨B8, e8, hh8⟩ := (H.tab 1 rfl).hd kx4
            refine DW.thru rfl rfl rfl (fun _ EQ => RV.indexAddr s78 rfl rfl hb9 ((H.tab 1 rfl).addr_ kx4)) ?_
            refine DW.thru rfl rfl rfl (fun _ EQ => RV.load1 k81 rfl ((H.thruT 1 rfl EQ (H0.notX [] 1 rfl (by decide))).cell kx4 hh8) rfl) ?_
            refine DW.alt ?_ ?_
            ·
              refine DW.sole rfl rfl rfl (OW.buildSlice (e := 3) (vs := []) (cs := []) rfl (fun _ => by kernel_rfl) fun b11 w21 N11 => ?_)
              refine ⟨fun _ => N11.ext, ModX.ext N11.ext, ?_⟩
              have G0_b11 : wl4.heap.size ≤ b11 := by rw [N11.at_]; exact hz
              replace H : Hp w w21 [.own (some ⟨b11, 0, none⟩) 0 3 1 (List.map encI (([] : List Int))), .tab AL1_6 cL1_6 43 hsL4_6 3 1 (encM encI ((wsT c (Int.toNat k) a).set a (wN c a r).1)), .tab AL1_7 cL1_7 81 hsL4_7 4 1 (encM encBo ((wkT c (Int.toNat k) a).set a (wN c a r).2)), .blk b1 24 [.int .i64 c.layers, .slice A_c_bounds c.bounds.length c_c_bounds]] := H.made' (enc := encI) (l := ([] : List Int)) N11 N11.blk (fun _ => rfl) (by simp) (by first | decide | omega | simp)
              replace R0 := H.ext
              replace hz := Nat.le_trans hz (Ext.size N11.ext)
              refine DW.alt ?_ ?_
              ·
                refine DW.sole rfl rfl rfl (OW.appendL (enc := encI) (l := ([] : List Int)) (xs := (wN c a r).1) s43 rfl rfl (H.own 0 rfl) ((H.tab 1 rfl).rowO kx3 hh7).sl (fun _ => rfl) rfl rfl (by first | omega | (simp; omega)) (by first | omega | (simp; omega)) fun A1 c1 w22 O8 M8 D1 => ?_)
                refine ⟨fun h => absurd h (by decide), M8.modx (XB.new_ G0_b11), ?_⟩
                replace H : Hp w w22 [.own A1 c1 3 1 (List.map encI ((wN c a r).1)), .tab AL1_6 cL1_6 43 hsL4_6 3 1 (encM encI ((wsT c (Int.toNat k) a).set a (wN c a r).1)), .tab AL1_7 cL1_7 81 hsL4_7 4 1 (encM encBo ((wkT c (Int.toNat k) a).set a (wN c a r).2)), .blk b1 24 [.int .i64 c.layers, .slice A_c_bounds c.bounds.length c_c_bounds]] := H.mod 0 rfl M8 O8 D1
                replace R0 := H.ext
                replace hz := Nat.le_trans hz M8.size
                refine DW.sole rfl rfl rfl (OW.buildSlice (e := 4) (vs := []) (cs := []) rfl (fun _ => by kernel_rfl) fun b12 w23 N12 => ?_)
                refine ⟨fun _ => N12.ext, ModX.ext N12.ext, ?_⟩
                have G0_b12 : wl4.heap.size ≤ b12 := by rw [N12.at_]; exact hz
                replace H : Hp w w23 [.own (some ⟨b12, 0, none⟩) 0 4 1 (List.map encBo (([] : List Bool))), .own A1 c1 3 1 (List.map encI ((wN c a r).1)), .tab AL1_6 cL1_6 43 hsL4_6 3 1 (encM encI ((wsT c (Int.toNat k) a).set a (wN c a r).1)), .tab AL1_7 cL1_7 81 hsL4_7 4 1 (encM encBo ((wkT c (Int.toNat k) a).set a (wN c a r).2)), .blk b1 24 [.int .i64 c.layers, .slice A_c_bounds c.bounds.length c_c_bounds]] := H.made' (enc := encBo) (l := ([] : List Bool)) N12 N12.blk (fun _ => rfl) (by simp) (by first | decide | omega | simp)
                replace R0 := H.ext
                replace hz := Nat.le_trans hz (Ext.size N12.ext)
                refine DW.sole rfl rfl rfl (OW.appendL (enc := encBo) (l := ([] : List Bool)) (xs := (wN c a r).2) s81 rfl rfl (H.own 0 rfl) ((H.tab 3 rfl).rowO kx4 hh8).sl (fun _ => rfl) rfl rfl (by first | omega | (simp; omega)) (by first | omega | (simp; omega)) fun A2 c2 w24 O9 M9 D2 => ?_)
                refine ⟨fun h => absurd h (by decide), M9.modx (XB.new_ G0_b12), ?_⟩
                replace H : Hp w w24 [.own A2 c2 4 1 (List.map encBo ((wN c a r).2)), .own A1 c1 3 1 (List.map encI ((wN c a r).1)), .tab AL1_6 cL1_6 43 hsL4_6 3 1 (encM encI ((wsT c (Int.toNat k) a).set a (wN c a r).1)), .tab AL1_7 cL1_7 81 hsL4_7 4 1 (encM encBo ((wkT c (Int.toNat k) a).set a (wN c a r).2)), .blk b1 24 [.int .i64 c.layers, .slice A_c_bounds c.bounds.length c_c_bounds]] := H.mod 0 rfl M9 O9 D2
                replace R0 := H.ext
                replace hz := Nat.le_trans hz M9.size
                refine DW.thru rfl rfl rfl (fun _ EQ => RV.assign rfl) ?_
                refine DW.thru rfl rfl rfl (fun _ EQ => RV.assign rfl) ?_
                refine DW.nil ?_
                replace H : Hp w w24 [.own A1 c1 3 1 (List.map encI ((wN c a r).1)), .own A2 c2 4 1 (List.map encBo ((wN c a r).2)), .tab AL1_6 cL1_6 43 hsL4_6 3 1 (encM encI ((wsT c (Int.toNat k) a).set a (wN c a r).1)), .tab AL1_7 cL1_7 81 hsL4_7 4 1 (encM encBo ((wkT c (Int.toNat k) a).set a (wN c a r).2)), .blk b1 24 [.int .i64 c.layers, .slice A_c_bounds c.bounds.length c_c_bounds]] := H.pick [1, 0, 2, 3, 4] (by decide) rfl
                replace R0 := H.ext
                refine ⟨_, ?_, A1, c1, A2, c2, rfl, ?_, ?_⟩
                · exact ⟨rfl, rfl, rfl, rfl, rfl, rfl, rfl, rfl, look_slice rfl (by first | rfl | omega | (simp; done)), look_slice rfl (by first | rfl | omega | (simp; done)), trivial⟩
                · exact H
                · trivial
              ·
                refine DW.sole rfl rfl rfl (OW.buildSlice (e := 4) (vs := []) (cs := []) rfl (fun _ => by kernel_rfl) fun b13 w25 N13 => ?_)
                refine ⟨fun _ => N13.ext, ModX.ext N13.ext, ?_⟩
                have G0_b13 : wl4.heap.size ≤ b13 := by rw [N13.at_]; exact hz
                replace H : Hp w w25 [.own (some ⟨b13, 0, none⟩) 0 4 1 (List.map encBo (([] : List Bool))), .own (some ⟨b11, 0, none⟩) 0 3 1 (List.map encI (([] : List Int))), .tab AL1_6 cL1_6 43 hsL4_6 3 1 (encM encI ((wsT c (Int.toNat k) a).set a (wN c a r).1)), .tab AL1_7 cL1_7 81 hsL4_7 4 1 (encM encBo ((wkT c (Int.toNat k) a).set a (wN c a r).2)), .blk b1 24 [.int .i64 c.layers, .slice A_c_bounds c.bounds.length c_c_bounds]] := H.made' (enc := encBo) (l := ([] : List Bool)) N13 N13.blk (fun _ => rfl) (by simp) (by first | decide | omega | simp)
                replace R0 := H.ext
                replace hz := Nat.le_trans hz (Ext.size N13.ext)
                refine DW.sole rfl rfl rfl (OW.appendL (enc := encI) (l := ([] : List Int)) (xs := (wN c a r).1) s43 rfl rfl (H.own 1 rfl) ((H.tab 2 rfl).rowO kx3 hh7).sl (fun _ => rfl) rfl rfl (by first | omega | (simp; omega)) (by first | omega | (simp; omega)) fun A3 c3 w26 O10 M10 D3 => ?_)
                refine ⟨fun h => absurd h (by decide), M10.modx (XB.new_ G0_b11), ?_⟩
                replace H : Hp w w26 [.own (some ⟨b13, 0, none⟩) 0 4 1 (List.map encBo (([] : List Bool))), .own A3 c3 3 1 (List.map encI ((wN c a r).1)), .tab AL1_6 cL1_6 43 hsL4_6 3 1 (encM encI ((wsT c (Int.toNat k) a).set a (wN c a r).1)), .tab AL1_7 cL1_7 81 hsL4_7 4 1 (encM encBo ((wkT c (Int.toNat k) a).set a (wN c a r).2)), .blk b1 24 [.int .i64 c.layers, .slice A_c_bounds c.bounds.length c_c_bounds]] := H.mod 1 rfl M10 O10 D3
                replace R0 := H.ext
                replace hz := Nat.le_trans hz M10.size
                refine DW.sole rfl rfl rfl (OW.appendL (enc := encBo) (l := ([] : List Bool)) (xs := (wN c a r).2) s81 rfl rfl (H.own 0 rfl) ((H.tab 3 rfl).rowO kx4 hh8).sl (fun _ => rfl) rfl rfl (by first | omega | (simp; omega)) (by first | omega | (simp; omega)) fun A4 c4 w27 O11 M11 D4 => ?_)
                refine ⟨fun h => absurd h (by decide), M11.modx (XB.new_ G0_b13), ?_⟩
                replace H : Hp w w27 [.own A4 c4 4 1 (List.map encBo ((wN c a r).2)), .own A3 c3 3 1 (List.map encI ((wN c a r).1)), .tab AL1_6 cL1_6 43 hsL4_6 3 1 (encM encI ((wsT c (Int.toNat k) a).set a (wN c a r).1)), .tab AL1_7 cL1_7 81 hsL4_7 4 1 (encM encBo ((wkT c (Int.toNat k) a).set a (wN c a r).2)), .blk b1 24 [.int .i64 c.layers, .slice A_c_bounds c.bounds.length c_c_bounds]] := H.mod 0 rfl M11 O11 D4
                replace R0 := H.ext
                replace hz := Nat.le_trans hz M11.size
                refine DW.thru rfl rfl rfl (fun _ EQ => RV.assign rfl) ?_
                refine DW.thru rfl rfl rfl (fun _ EQ => RV.assign rfl) ?_
                refine DW.nil ?_
                replace H : Hp w w27 [.own A3 c3 3 1 (List.map encI ((wN c a r).1)), .own A4 c4 4 1 (List.map encBo ((wN c a r).2)), .tab AL1_6 cL1_6 43 hsL4_6 3 1 (encM encI ((wsT c (Int.toNat k) a).set a (wN c a r).1)), .tab AL1_7 cL1_7 81 hsL4_7 4 1 (encM encBo ((wkT c (Int.toNat k) a).set a (wN c a r).2)), .blk b1 24 [.int .i64 c.layers, .slice A_c_bounds c.bounds.length c_c_bounds]] := H.pick [1, 0, 2, 3, 4] (by decide) rfl
                replace R0 := H.ext
                refine ⟨_, ?_, A3, c3, A4, c4, rfl, ?_, ?_⟩
                · exact ⟨rfl, rfl, rfl, rfl, rfl, rfl, rfl, rfl, look_slice rfl (by first | rfl | omega | (simp; done)), look_slice rfl (by first | rfl | omega | (simp; done)), trivial⟩
                · exact H
                · trivial
            ·
              refine DW.sole rfl rfl rfl (OW.buildSlice (e := 4) (vs := []) (cs := []) rfl (fun _ => by kernel_rfl) fun b14 w28 N14 => ?_)
              refine ⟨fun _ => N14.ext, ModX.ext N14.ext, ?_⟩
              have G0_b14 : wl4.heap.size ≤ b14 := by rw [N14.at_]; exact hz
              replace H : Hp w w28 [.own (some ⟨b14, 0, none⟩) 0 4 1 (List.map encBo (([] : List Bool))), .tab AL1_6 cL1_6 43 hsL4_6 3 1 (encM encI ((wsT c (Int.toNat k) a).set a (wN c a r).1)), .tab AL1_7 cL1_7 81 hsL4_7 4 1 (encM encBo ((wkT c (Int.toNat k) a).set a (wN c a r).2)), .blk b1 24 [.int .i64 c.layers, .slice A_c_bounds c.bounds.length c_c_bounds]] := H.made' (enc := encBo) (l := ([] : List Bool)) N14 N14.blk (fun _ => rfl) (by simp) (by first | decide | omega | simp)
              replace R0 := H.ext
              replace hz := Nat.le_trans hz (Ext.size N14.ext)
              refine DW.sole rfl rfl rfl (OW.buildSlice (e := 3) (vs := []) (cs := []) rfl (fun _ => by kernel_rfl) fun b15 w29 N15 => ?_)
              refine ⟨fun _ => N15.ext, ModX.ext N15.ext, ?_⟩
              have G0_b15 : wl4.heap.size ≤ b15 := by rw [N15.at_]; exact hz
              replace H : Hp w w29 [.own (some ⟨b15, 0, none⟩) 0 3 1 (List.map encI (([] : List Int))), .own (some ⟨b14, 0, none⟩) 0 4 1 (List.map encBo (([] : List Bool))), .tab AL1_6 cL1_6 43 hsL4_6 3 1 (encM encI ((wsT c (Int.toNat k) a).set a (wN c a r).1)), .tab AL1_7 cL1_7 81 hsL4_7 4 1 (encM encBo ((wkT c (Int.toNat k) a).set a (wN c a r).2)), .blk b1 24 [.int .i64 c.layers, .slice A_c_bounds c.bounds.length c_c_bounds]] := H.made' (enc := encI) (l := ([] : List Int)) N15 N15.blk (fun _ => rfl) (by simp) (by first | decide | omega | simp)
              replace R0 := H.ext
              replace hz := Nat.le_trans hz (Ext.size N15.ext)
              refine DW.sole rfl rfl rfl (OW.appendL (enc := encI) (l := ([] : List Int)) (xs := (wN c a r).1) s43 rfl rfl (H.own 0 rfl) ((H.tab 2 rfl).rowO kx3 hh7).sl (fun _ => rfl) rfl rfl (by first | omega | (simp; omega)) (by first | omega | (simp; omega)) fun A5 c5 w30 O12 M12 D5 => ?_)
              refine ⟨fun h => absurd h (by decide), M12.modx (XB.new_ G0_b15), ?_⟩
              replace H : Hp w w30 [.own A5 c5 3 1 (List.map encI ((wN c a r).1)), .own (some ⟨b14, 0, none⟩) 0 4 1 (List.map encBo (([] : List Bool))), .tab AL1_6 cL1_6 43 hsL4_6 3 1 (encM encI ((wsT c (Int.toNat k) a).set a (wN c a r).1)), .tab AL1_7 cL1_7 81 hsL4_7 4 1 (encM encBo ((wkT c (Int.toNat k) a).set a (wN c a r).2)), .blk b1 24 [.int .i64 c.layers, .slice A_c_bounds c.bounds.length c_c_bounds]] := H.mod 0 rfl M12 O12 D5
              replace R0 := H.ext
              replace hz := Nat.le_trans hz M12.size
              refine DW.sole rfl rfl rfl (OW.appendL (enc := encBo) (l := ([] : List Bool)) (xs := (wN c a r).2) s81 rfl rfl (H.own 1 rfl) ((H.tab 3 rfl).rowO kx4 hh8).sl (fun _ => rfl) rfl rfl (by first | omega | (simp; omega)) (by first | omega | (simp; omega)) fun A6 c6 w31 O13 M13 D6 => ?_)
              refine ⟨fun h => absurd h (by decide), M13.modx (XB.new_ G0_b14), ?_⟩
              replace H : Hp w w31 [.own A5 c5 3 1 (List.map encI ((wN c a r).1)), .own A6 c6 4 1 (List.map encBo ((wN c a r).2)), .tab AL1_6 cL1_6 43 hsL4_6 3 1 (encM encI ((wsT c (Int.toNat k) a).set a (wN c a r).1)), .tab AL1_7 cL1_7 81 hsL4_7 4 1 (encM encBo ((wkT c (Int.toNat k) a).set a (wN c a r).2)), .blk b1 24 [.int .i64 c.layers, .slice A_c_bounds c.bounds.length c_c_bounds]] := H.mod 1 rfl M13 O13 D6
              replace R0 := H.ext
              replace hz := Nat.le_trans hz M13.size
              refine DW.thru rfl rfl rfl (fun _ EQ => RV.assign rfl) ?_
              refine DW.thru rfl rfl rfl (fun _ EQ => RV.assign rfl) ?_
              refine DW.nil ?_
              refine ⟨_, ?_, A5, c5, A6, c6, rfl, ?_, ?_⟩
              · exact ⟨rfl, rfl, rfl, rfl, rfl, rfl, rfl, rfl, look_slice rfl (by first | rfl | omega | (simp; done)), look_slice rfl (by first | rfl | omega | (simp; done)), trivial⟩
              · exact H
              · trivial
          ·
            rintro _ wl5 ⟨AL5_10, cL5_10, AL5_11, cL5_11, rfl, H, hI5⟩
            have R0 := H.ext
            refine CW.seq fun K12 hK12 => ?_
            refine CW.seq fun K13 hK13 => ?_
            refine CW.region ?_
            refine LW.pure rfl rfl (RV.assign rfl) ?_
            refine LW.nil (hK13 _ _ ?_)
            refine CW.block ?_
            refine CW.loop (fun meas ρ wl6 => ∃ (i : Nat), meas = c.bounds.length - i ∧ ρ = [(1, .int .i64 k), (2, .pointer (some (⟨b1, 0, none⟩))), (4, .slice none 0 0), (5, .slice none 0 0), (6, .slice AL1_6 (Int.toNat c.layers) cL1_6), (7, .slice AL1_7 (Int.toNat c.layers) cL1_7), (8, .int .i64 (↑a)), (9, .int .i64 (↑r)), (10, .slice AL5_10 (((wN c a r).1).length) cL5_10), (11, .slice AL5_11 (((wN c a r).2).length) cL5_11), (12, .int .i64 (↑i))] ∧ Hp w wl6 [.own AL5_10 cL5_10 3 1 (List.map encI ((wTo c.bounds (wN c a r) i).1)), .own AL5_11 cL5_11 4 1 (List.map encBo ((wTo c.bounds (wN c a r) i).2)), .tab AL1_6 cL1_6 43 hsL4_6 3 1 (encM encI ((wsT c (Int.toNat k) a).set a (wN c a r).1)), .tab AL1_7 cL1_7 81 hsL4_7 4 1 (encM encBo ((wkT c (Int.toNat k) a).set a (wN c a r).2)), .blk b1 24 [.int .i64 c.layers, .slice A_c_bounds c.bounds.length c_c_bounds]] ∧ (i ≤ c.bounds.length)) (c.bounds.length - 0) ⟨_, ?_, 0, rfl, rfl, ?_, ?_⟩ ?_
            · exact ⟨rfl, rfl, rfl, rfl, rfl, rfl, rfl, rfl, look_slice rfl (by first | rfl | omega | (simp; done)), look_slice rfl (by first | rfl | omega | (simp; done)), look_int rfl (by first | rfl | omega | (simp; omega)), trivial⟩
            · exact H
            · omega
            rintro _ _ wl6 ⟨i, rfl, rfl, H, hI6⟩
            have R0 := H.ext
            have hW := wTo_inv' hv a (k := r) (by omega) i
            have hW1 := hW.l1
            have hW2 := hW.l2
            refine CW.seq fun K14 hK14 => ?_
            refine CW.seq fun K15 hK15 => ?_
            refine CW.region ?_
            refine LW.pure rfl rfl (RV.move rfl) ?_
            refine LW.pure rfl rfl (RV.fieldAddr f24_1 rfl) ?_
            refine LW.pure rfl rfl (RV.load1 k22 rfl ((H.blk 4 rfl).cells.off 1) rfl) ?_
            refine LW.pure rfl rfl (RV.len s22 rfl) ?_
            refine LW.pure rfl rfl (RV.lss rfl rfl) ?_
            refine LW.nil (hK15 _ _ ?_)
            refine CW.cond rfl (fun h3 => ?_) (fun h3 => ?_)
            ·
              have h3 := of_decide_eq_true h3
              refine CW.skip (hK14 _ _ ?_)
              refine CW.seq fun K16 hK16 => ?_
              refine CW.block ?_
              refine CW.seq fun K17 hK17 => ?_
              refine CW.region ?_
              refine LW.pure rfl rfl (RV.fieldAddr f24_1 rfl) ?_
              refine LW.pure rfl rfl (RV.load1 k22 rfl ((H.blk 4 rfl).cells.off 1) rfl) ?_
              refine LW.pure rfl rfl (RV.move rfl) ?_
              have hb10 : 0 ≤ ((↑i) : Int) ∧ ((↑i) : Int) < ((c.bounds.length : Nat) : Int) := by omega
              obtain ⟨x6, hx6⟩ := ex_at (l := c.bounds) (j := i) (by first | omega | (simp; omega))
              have hr := bound_ok hv hx6
              refine LW.pure rfl rfl (RV.indexAddr s22 rfl rfl hb10 (h_c_bounds.addr hb10)) ?_
              refine LW.pure rfl rfl (RV.loadA [.int .i64 x6.a, .int .i64 x6.b, .int .i64 x6.most] k26 rfl ((h_c_bounds.at_ hx6).ext R0) rfl rfl) ?_
              refine LW.go rfl rfl (OW.alloc z26 fun b16 w32 N16 => ?_)
              replace H : Hp w w32 [.blk b16 26 [.int .i64 0, .int .i64 0, .int .i64 0], .own AL5_10 cL5_10 3 1 (List.map encI ((wTo c.bounds (wN c a r) i).1)), .own AL5_11 cL5_11 4 1 (List.map encBo ((wTo c.bounds (wN c a r) i).2)), .tab AL1_6 cL1_6 43 hsL4_6 3 1 (encM encI ((wsT c (Int.toNat k) a).set a (wN c a r).1)), .tab AL1_7 cL1_7 81 hsL4_7 4 1 (encM encBo ((wkT c (Int.toNat k) a).set a (wN c a r).2)), .blk b1 24 [.int .i64 c.layers, .slice A_c_bounds c.bounds.length c_c_bounds]] := H.new N16 N16.blk
              replace R0 := H.ext
              refine LW.go rfl rfl (OW.store k26 rfl rfl (H.blk 0 rfl) (off := 0) (vs := [.int .i64 x6.a, .int .i64 x6.b, .int .i64 x6.most]) rfl rfl rfl rfl rfl fun w33 S1 => ?_)
              replace H : Hp w w33 [.blk b16 26 [.int .i64 x6.a, .int .i64 x6.b, .int .i64 x6.most], .own AL5_10 cL5_10 3 1 (List.map encI ((wTo c.bounds (wN c a r) i).1)), .own AL5_11 cL5_11 4 1 (List.map encBo ((wTo c.bounds (wN c a r) i).2)), .tab AL1_6 cL1_6 43 hsL4_6 3 1 (encM encI ((wsT c (Int.toNat k) a).set a (wN c a r).1)), .tab AL1_7 cL1_7 81 hsL4_7 4 1 (encM encBo ((wkT c (Int.toNat k) a).set a (wN c a r).2)), .blk b1 24 [.int .i64 c.layers, .slice A_c_bounds c.bounds.length c_c_bounds]] := H.stored 0 rfl S1
              replace R0 := H.ext
              refine LW.nil (hK17 _ _ ?_)
              refine CW.seq fun K18 hK18 => ?_
              refine CW.draw [] (fun _ => True) (.cons 0 1 (.cons 1 1 (.cons 2 1 (.cons 3 1 (.cons 4 1 (.cons 5 1 (.cons 6 1 (.cons 7 1 (.cons 8 1 (.cons 9 1 (.cons 10 1 (.cons 11 1 .nil)))))))))))) mixed (by kernel_rfl) fun w34 E4 => ?_
              replace H := H.grow E4
              replace R0 := H.ext
              refine DW.fix rfl rfl rfl (fun _ EQ => RV.move rfl) ?_
              refine DW.fix rfl rfl rfl (fun _ EQ => RV.move rfl) ?_
              have hb11 : 0 ≤ ((↑a) : Int) ∧ ((↑a) : Int) < ((Int.toNat c.layers : Nat) : Int) := by omega
              have kx5 : ((wsT c (Int.toNat k) a).set a (wN c a r).1)[a]? = some ((wN c a r).1) := List.getElem?_set_self (by omega)
              obtain ⟨B9, e9, hh9⟩ := (H.tab 3 rfl).hd kx5
              refine DW.fix rfl rfl rfl (fun _ EQ => RV.indexAddr s58 rfl rfl hb11 ((H.tab 3 rfl).addr_ kx5)) ?_
              refine DW.fix rfl rfl rfl (fun _ EQ => RV.load1 k43 rfl (((H.grow EQ).tab 3 rfl).cell kx5 hh9) rfl) ?_
              refine DW.fix rfl rfl rfl (fun _ EQ => RV.fieldAddr f26_0 rfl) ?_
              refine DW.fix rfl rfl rfl (fun _ EQ => RV.load1 k3 rfl (((H.grow EQ).blk 0 rfl).cells.off 0) rfl) ?_
              have hb12 : 0 ≤ ((x6.a) : Int) ∧ ((x6.a) : Int) < ((((wN c a r).1).length : Nat) : Int) := by omega
              obtain ⟨x7, hx7⟩ := ex_at (l := (wN c a r).1) (j := Int.toNat x6.a) (by first | omega | (simp; omega))
              have hgx7 := gi_of hx7
              have hdx7 := hP.at_ hx7
              refine DW.fix rfl rfl rfl (fun _ EQ => RV.indexAddr s43 rfl rfl hb12 (((H.tab 3 rfl).rowO kx5 hh9).sl.addr_ hx7)) ?_
              refine DW.fix rfl rfl rfl (fun _ EQ => RV.load1 k3 rfl ((((H.grow EQ).tab 3 rfl).rowO kx5 hh9).sl.at_ hx7) rfl) ?_
              refine DW.fix rfl rfl rfl (fun _ EQ => RV.fieldAddr f26_2 rfl) ?_
              refine DW.fix rfl rfl rfl (fun _ EQ => RV.load1 k3 rfl (((H.grow EQ).blk 0 rfl).cells.off 2) rfl) ?_
              refine DW.fix rfl rfl rfl (fun _ EQ => RV.add rfl rfl (by omega)) ?_
              refine DW.fix rfl rfl rfl (fun _ EQ => RV.assign rfl) ?_
              refine DW.nil (hK18 _ _ ?_)
              refine CW.seq fun K19 hK19 => ?_
              refine CW.draw [] (fun _ => True) (.cons 0 1 (.cons 1 1 (.cons 2 1 (.cons 3 1 (.cons 4 1 (.cons 5 1 (.cons 6 1 (.cons 7 1 (.cons 8 1 (.cons 9 1 (.cons 10 1 (.cons 11 1 (.cons 12 1 (.cons 13 1 (.cons 14 1 (.cons 15 1 (.cons 16 1 (.cons 17 1 (.cons 18 1 (.cons 19 1 (.cons 20 1 (.cons 21 1 (.cons 22 1 (.cons 23 1 (.cons 24 1 .nil))))))))))))))))))))))))) mixed (by kernel_rfl) fun w35 E5 => ?_
              replace H := H.grow E5
              replace R0 := H.ext
              refine DW.fix rfl rfl rfl (fun _ EQ => RV.move rfl) ?_
              refine DW.fix rfl rfl rfl (fun _ EQ => RV.move rfl) ?_
              have hb13 : 0 ≤ ((↑a) : Int) ∧ ((↑a) : Int) < ((Int.toNat c.layers : Nat) : Int) := by omega
              have kx6 : ((wkT c (Int.toNat k) a).set a (wN c a r).2)[a]? = some ((wN c a r).2) := List.getElem?_set_self (by omega)
              obtain ⟨B10, e10, hh10⟩ := (H.tab 4 rfl).hd kx6
              refine DW.fix rfl rfl rfl (fun _ EQ => RV.indexAddr s78 rfl rfl hb13 ((H.tab 4 rfl).addr_ kx6)) ?_
              refine DW.fix rfl rfl rfl (fun _ EQ => RV.load1 k81 rfl (((H.grow EQ).tab 4 rfl).cell kx6 hh10) rfl) ?_
              refine DW.fix rfl rfl rfl (fun _ EQ => RV.fieldAddr f26_0 rfl) ?_
              refine DW.fix rfl rfl rfl (fun _ EQ => RV.load1 k3 rfl (((H.grow EQ).blk 0 rfl).cells.off 0) rfl) ?_
              have hb14 : 0 ≤ ((x6.a) : Int) ∧ ((x6.a) : Int) < ((((wN c a r).2).length : Nat) : Int) := by omega
              obtain ⟨x8, hx8⟩ := ex_at (l := (wN c a r).2) (j := Int.toNat x6.a) (by first | omega | (simp; omega))
              have hgx8 := gb_of hx8
              refine DW.fix rfl rfl rfl (fun _ EQ => RV.indexAddr s81 rfl rfl hb14 (((H.tab 4 rfl).rowO kx6 hh10).sl.addr_ hx8)) ?_
              refine DW.fix rfl rfl rfl (fun _ EQ => RV.load1 k4 rfl ((((H.grow EQ).tab 4 rfl).rowO kx6 hh10).sl.at_ hx8) rfl) ?_
              refine DW.fix rfl rfl rfl (fun _ EQ => RV.move rfl) ?_
              cases h4 : x8
              ·
                refine DW.fixN rfl rfl rfl rfl rfl rfl ?_
                refine DW.fixN rfl rfl rfl rfl rfl rfl ?_
                refine DW.fixN rfl rfl rfl rfl rfl rfl ?_
                refine DW.fixN rfl rfl rfl rfl rfl rfl ?_
                refine DW.fixN rfl rfl rfl rfl rfl rfl ?_
                refine DW.fixN rfl rfl rfl rfl rfl rfl ?_
                refine DW.fixN rfl rfl rfl rfl rfl rfl ?_
                refine DW.fixNU rfl rfl rfl rfl rfl ?_
                refine DW.fixNU rfl rfl rfl rfl rfl ?_
                refine DW.fixNU rfl rfl rfl rfl rfl ?_
                refine DW.fixNU rfl rfl rfl rfl rfl ?_
                refine DW.fixNU rfl rfl rfl rfl rfl ?_
                refine DW.fixNU rfl rfl rfl rfl rfl ?_
                refine DW.fixNU rfl rfl rfl rfl rfl ?_
                refine DW.fixN rfl rfl rfl rfl rfl rfl ?_
                refine DW.fix rfl rfl rfl (fun _ EQ => RV.pickF rfl rfl) ?_
                refine DW.nil (hK19 _ _ ?_)
                refine CW.cond rfl (fun h => by cases h) (fun _ => ?_)
                refine CW.skip (hK16 _ _ ?_)
                refine CW.region ?_
                refine LW.pure rfl rfl (RV.move rfl) ?_
                refine LW.pure rfl rfl (RV.add rfl rfl (by omega)) ?_
                refine LW.pure rfl rfl (RV.assign rfl) ?_
                refine LW.nil ?_
                replace H : Hp w w35 [.own AL5_10 cL5_10 3 1 (List.map encI ((wTo c.bounds (wN c a r) i).1)), .own AL5_11 cL5_11 4 1 (List.map encBo ((wTo c.bounds (wN c a r) i).2)), .tab AL1_6 cL1_6 43 hsL4_6 3 1 (encM encI ((wsT c (Int.toNat k) a).set a (wN c a r).1)), .tab AL1_7 cL1_7 81 hsL4_7 4 1 (encM encBo ((wkT c (Int.toNat k) a).set a (wN c a r).2)), .blk b1 24 [.int .i64 c.layers, .slice A_c_bounds c.bounds.length c_c_bounds]] := H.pick [1, 2, 3, 4, 5] (by decide) rfl
                replace R0 := H.ext
                refine ⟨_, ?_, _, ?_, i + 1, rfl, rfl, ?_, ?_⟩
                · omega
                · exact ⟨rfl, rfl, rfl, rfl, rfl, rfl, rfl, rfl, look_slice rfl (by first | rfl | omega | (simp; done)), look_slice rfl (by first | rfl | omega | (simp; done)), look_int rfl (by first | rfl | omega | (simp; omega)), trivial⟩
                · have hst := wTo_succ (p := wN c a r) hx6
                  unfold wB at hst
                  simp [hgx7, hgx8, h4] at hst
                  rw [hst]; exact H
                · omega
              ·
                refine DW.fixY rfl rfl rfl rfl rfl (fun _ EQ => RV.move rfl) ?_
                refine DW.fixY rfl rfl rfl rfl rfl (fun _ EQ => RV.fieldAddr f26_1 rfl) ?_
                refine DW.fixY rfl rfl rfl rfl rfl (fun _ EQ => RV.load1 k3 rfl (((H.grow EQ).blk 0 rfl).cells.off 1) rfl) ?_
                have hb15 : 0 ≤ ((x6.b) : Int) ∧ ((x6.b) : Int) < ((((wN c a r).2).length : Nat) : Int) := by omega
                obtain ⟨x9, hx9⟩ := ex_at (l := (wTo c.bounds (wN c a r) i).2) (j := Int.toNat x6.b) (by first | omega | (simp; omega))
                have hgx9 := gb_of hx9
                refine DW.fixY rfl rfl rfl rfl rfl (fun _ EQ => RV.indexAddr s81 rfl rfl hb15 ((H.own 2 rfl).sl.addr_ hx9)) ?_
                refine DW.fixY rfl rfl rfl rfl rfl (fun _ EQ => RV.load1 k4 rfl (((H.grow EQ).own 2 rfl).sl.at_ hx9) rfl) ?_
                refine DW.fixY rfl rfl rfl rfl rfl (fun _ EQ => RV.not rfl) ?_
                refine DW.fixY rfl rfl rfl rfl rfl (fun _ EQ => RV.move rfl) ?_
                cases h5 : !x9
                ·
                  have h5 := (Bool.not_eq_false' _).mp h5
                  refine DW.fixY rfl rfl rfl rfl rfl (fun _ EQ => RV.move rfl) ?_
                  refine DW.fixY rfl rfl rfl rfl rfl (fun _ EQ => RV.move rfl) ?_
                  refine DW.fixY rfl rfl rfl rfl rfl (fun _ EQ => RV.fieldAddr f26_1 rfl) ?_
                  refine DW.fixY rfl rfl rfl rfl rfl (fun _ EQ => RV.load1 k3 rfl (((H.grow EQ).blk 0 rfl).cells.off 1) rfl) ?_
                  have hb16 : 0 ≤ ((x6.b) : Int) ∧ ((x6.b) : Int) < ((((wN c a r).1).length : Nat) : Int) := by omega
                  obtain ⟨x10, hx10⟩ := ex_at (l := (wTo c.bounds (wN c a r) i).1) (j := Int.toNat x6.b) (by first | omega | (simp; omega))
                  have hgx10 := gi_of hx10
                  refine DW.fixY rfl rfl rfl rfl rfl (fun _ EQ => RV.indexAddr s43 rfl rfl hb16 ((H.own 1 rfl).sl.addr_ hx10)) ?_
                  refine DW.fixY rfl rfl rfl rfl rfl (fun _ EQ => RV.load1 k3 rfl (((H.grow EQ).own 1 rfl).sl.at_ hx10) rfl) ?_
                  refine DW.fixY rfl rfl rfl rfl rfl (fun _ EQ => RV.lss rfl rfl) ?_
                  refine DW.fixY rfl rfl rfl rfl rfl (fun _ EQ => RV.pickF rfl rfl) ?_
                  refine DW.fix rfl rfl rfl (fun _ EQ => RV.pickT rfl rfl) ?_
                  refine DW.nil (hK19 _ _ ?_)
                  refine CW.cond rfl (fun h6 => ?_) (fun h6 => ?_)
                  ·
                    have h6 := of_decide_eq_true h6
                    have H0 := H
                    have hz : w35.heap.size ≤ w35.heap.size := Nat.le_refl _
                    refine CW.draw [8, 10] (XB w35 [.blk b16 26 [.int .i64 x6.a, .int .i64 x6.b, .int .i64 x6.most], .own AL5_10 cL5_10 3 1 (List.map encI ((wTo c.bounds (wN c a r) i).1)), .own AL5_11 cL5_11 4 1 (List.map encBo ((wTo c.bounds (wN c a r) i).2)), .tab AL1_6 cL1_6 43 hsL4_6 3 1 (encM encI ((wsT c (Int.toNat k) a).set a (wN c a r).1)), .tab AL1_7 cL1_7 81 hsL4_7 4 1 (encM encBo ((wkT c (Int.toNat k) a).set a (wN c a r).2)), .blk b1 24 [.int .i64 c.layers, .slice A_c_bounds c.bounds.length c_c_bounds]] [1, 2]) (.cons 0 1 (.cons 1 1 (.cons 2 1 (.cons 6 1 (.cons 7 1 (.cons 3 2 (.cons 4 2 (.cons 5 2 (.cons 8 0 (.cons 9 2 (.cons 10 0 .nil))))))))))) mixed (by kernel_rfl) fun w36 E6 => ?_
                    replace H := H.grow E6
                    replace R0 := H.ext
                    replace hz := Nat.le_trans hz (Ext.size E6)
                    refine DW.fix rfl rfl rfl (fun _ EQ => RV.move rfl) ?_
                    refine DW.fix rfl rfl rfl (fun _ EQ => RV.fieldAddr f26_1 rfl) ?_
                    refine DW.fix rfl rfl rfl (fun _ EQ => RV.load1 k3 rfl (((H.grow EQ).blk 0 rfl).cells.off 1) rfl) ?_
                    refine DW.fix rfl rfl rfl (fun _ EQ => RV.move rfl) ?_
                    have hb17 : 0 ≤ ((x6.b) : Int) ∧ ((x6.b) : Int) < ((((wN c a r).1).length : Nat) : Int) := by omega
                    obtain ⟨x11, hx11⟩ := ex_at (l := (wTo c.bounds (wN c a r) i).1) (j := Int.toNat x6.b) (by first | omega | (simp; omega))
                    refine DW.fix rfl rfl rfl (fun _ EQ => RV.indexAddr s43 rfl rfl hb17 ((H.own 1 rfl).sl.addr_ hx11)) ?_
                    refine DW.thru rfl rfl rfl (fun _ EQ => RV.move rfl) ?_
                    refine DW.thru rfl rfl rfl (fun _ EQ => RV.fieldAddr f26_1 rfl) ?_
                    refine DW.thru rfl rfl rfl (fun _ EQ => RV.load1 k3 rfl ((H.thruB 0 rfl EQ (H0.notX [1, 2] 0 rfl (by decide))).cells.off 1) rfl) ?_
                    refine DW.sole rfl rfl rfl (OW.storeO (enc := encI) (vs := [.int .i64 (x7 + x6.most)]) 0 (x7 + x6.most) k3 rfl rfl (H.own 1 rfl) (fun _ => rfl) rfl hx11 rfl rfl (by decide) rfl rfl fun w37 M14 O14 => ?_)
                    refine ⟨fun h => absurd h (by decide), M14.modx (XB.own_ 1 (by decide) rfl), ?_⟩
                    replace H : Hp w w37 [.blk b16 26 [.int .i64 x6.a, .int .i64 x6.b, .int .i64 x6.most], .own AL5_10 cL5_10 3 1 (List.map encI ((((wTo c.bounds (wN c a r) i).1).set (Int.toNat x6.b) (x7 + x6.most)))), .own AL5_11 cL5_11 4 1 (List.map encBo ((wTo c.bounds (wN c a r) i).2)), .tab AL1_6 cL1_6 43 hsL4_6 3 1 (encM encI ((wsT c (Int.toNat k) a).set a (wN c a r).1)), .tab AL1_7 cL1_7 81 hsL4_7 4 1 (encM encBo ((wkT c (Int.toNat k) a).set a (wN c a r).2)), .blk b1 24 [.int .i64 c.layers, .slice A_c_bounds c.bounds.length c_c_bounds]] := H.mod 1 rfl M14 O14 (.inl rfl)
                    replace R0 := H.ext
                    replace hz := Nat.le_trans hz M14.size
                    have hb18 : 0 ≤ ((x6.b) : Int) ∧ ((x6.b) : Int) < ((((wN c a r).2).length : Nat) : Int) := by omega
                    obtain ⟨x12, hx12⟩ := ex_at (l := (wTo c.bounds (wN c a r) i).2) (j := Int.toNat x6.b) (by first | omega | (simp; omega))
                    refine DW.thru rfl rfl rfl (fun _ EQ => RV.indexAddr s81 rfl rfl hb18 ((H.own 2 rfl).sl.addr_ hx12)) ?_
                    refine DW.sole rfl rfl rfl (OW.storeO (enc := encBo) (vs := [.bool true]) 0 (true) k4 rfl rfl (H.own 2 rfl) (fun _ => rfl) rfl hx12 rfl rfl (by decide) rfl rfl fun w38 M15 O15 => ?_)
                    refine ⟨fun h => absurd h (by decide), M15.modx (XB.own_ 2 (by decide) rfl), ?_⟩
                    replace H : Hp w w38 [.blk b16 26 [.int .i64 x6.a, .int .i64 x6.b, .int .i64 x6.most], .own AL5_10 cL5_10 3 1 (List.map encI ((((wTo c.bounds (wN c a r) i).1).set (Int.toNat x6.b) (x7 + x6.most)))), .own AL5_11 cL5_11 4 1 (List.map encBo ((((wTo c.bounds (wN c a r) i).2).set (Int.toNat x6.b) true))), .tab AL1_6 cL1_6 43 hsL4_6 3 1 (encM encI ((wsT c (Int.toNat k) a).set a (wN c a r).1)), .tab AL1_7 cL1_7 81 hsL4_7 4 1 (encM encBo ((wkT c (Int.toNat k) a).set a (wN c a r).2)), .blk b1 24 [.int .i64 c.layers, .slice A_c_bounds c.bounds.length c_c_bounds]] := H.mod 2 rfl M15 O15 (.inl rfl)
                    replace R0 := H.ext
                    replace hz := Nat.le_trans hz M15.size
                    refine DW.nil (hK16 _ _ ?_)
                    refine CW.region ?_
                    refine LW.pure rfl rfl (RV.move rfl) ?_
                    refine LW.pure rfl rfl (RV.add rfl rfl (by omega)) ?_
                    refine LW.pure rfl rfl (RV.assign rfl) ?_
                    refine LW.nil ?_
                    replace H : Hp w w38 [.own AL5_10 cL5_10 3 1 (List.map encI ((((wTo c.bounds (wN c a r) i).1).set (Int.toNat x6.b) (x7 + x6.most)))), .own AL5_11 cL5_11 4 1 (List.map encBo ((((wTo c.bounds (wN c a r) i).2).set (Int.toNat x6.b) true))), .tab AL1_6 cL1_6 43 hsL4_6 3 1 (encM encI ((wsT c (Int.toNat k) a).set a (wN c a r).1)), .tab AL1_7 cL1_7 81 hsL4_7 4 1 (encM encBo ((wkT c (Int.toNat k) a).set a (wN c a r).2)), .blk b1 24 [.int .i64 c.layers, .slice A_c_bounds c.bounds.length c_c_bounds]] := H.pick [1, 2, 3, 4, 5] (by decide) rfl
                    replace R0 := H.ext
                    refine ⟨_, ?_, _, ?_, i + 1, rfl, rfl, ?_, ?_⟩
                    · omega
                    · exact ⟨rfl, rfl, rfl, rfl, rfl, rfl, rfl, rfl, look_slice rfl (by first | rfl | omega | (simp; done)), look_slice rfl (by first | rfl | omega | (simp; done)), look_int rfl (by first | rfl | omega | (simp; omega)), trivial⟩
                    · have hst := wTo_succ (p := wN c a r) hx6
                      unfold wB at hst
                      simp [hgx7, hgx8, h4, hgx9, h5, hgx10, h6] at hst
                      rw [hst]; exact H
                    · omega
                  ·
                    have h6 := of_decide_eq_false h6
                    refine CW.skip (hK16 _ _ ?_)
                    refine CW.region ?_
                    refine LW.pure rfl rfl (RV.move rfl) ?_
                    refine LW.pure rfl rfl (RV.add rfl rfl (by omega)) ?_
                    refine LW.pure rfl rfl (RV.assign rfl) ?_
                    refine LW.nil ?_
                    replace H : Hp w w35 [.own AL5_10 cL5_10 3 1 (List.map encI ((wTo c.bounds (wN c a r) i).1)), .own AL5_11 cL5_11 4 1 (List.map encBo ((wTo c.bounds (wN c a r) i).2)), .tab AL1_6 cL1_6 43 hsL4_6 3 1 (encM encI ((wsT c (Int.toNat k) a).set a (wN c a r).1)), .tab AL1_7 cL1_7 81 hsL4_7 4 1 (encM encBo ((wkT c (Int.toNat k) a).set a (wN c a r).2)), .blk b1 24 [.int .i64 c.layers, .slice A_c_bounds c.bounds.length c_c_bounds]] := H.pick [1, 2, 3, 4, 5] (by decide) rfl
                    replace R0 := H.ext
                    refine ⟨_, ?_, _, ?_, i + 1, rfl, rfl, ?_, ?_⟩
                    · omega
                    · exact ⟨rfl, rfl, rfl, rfl, rfl, rfl, rfl, rfl, look_slice rfl (by first | rfl | omega | (simp; done)), look_slice rfl (by first | rfl | omega | (simp; done)), look_int rfl (by first | rfl | omega | (simp; omega)), trivial⟩
                    · have hst := wTo_succ (p := wN c a r) hx6
                      unfold wB at hst
                      simp [hgx7, hgx8, h4, hgx9, h5, hgx10, h6] at hst
                      rw [hst]; exact H
                    · omega
                ·
                  have h5 := (Bool.not_eq_true' _).mp h5
                  refine DW.fixN rfl rfl rfl rfl rfl rfl ?_
                  refine DW.fixN rfl rfl rfl rfl rfl rfl ?_
                  refine DW.fixN rfl rfl rfl rfl rfl rfl ?_
                  refine DW.fixN rfl rfl rfl rfl rfl rfl ?_
                  refine DW.fixN rfl rfl rfl rfl rfl rfl ?_
                  refine DW.fixN rfl rfl rfl rfl rfl rfl ?_
                  refine DW.fixN rfl rfl rfl rfl rfl rfl ?_
                  refine DW.fixY rfl rfl rfl rfl rfl (fun _ EQ => RV.pickT rfl rfl) ?_
                  refine DW.fix rfl rfl rfl (fun _ EQ => RV.pickT rfl rfl) ?_
                  refine DW.nil (hK19 _ _ ?_)
                  refine CW.cond rfl (fun _ => ?_) (fun h => by cases h)
                  have H0 := H
                  have hz : w35.heap.size ≤ w35.heap.size := Nat.le_refl _
                  refine CW.draw [8, 10] (XB w35 [.blk b16 26 [.int .i64 x6.a, .int .i64 x6.b, .int .i64 x6.most], .own AL5_10 cL5_10 3 1 (List.map encI ((wTo c.bounds (wN c a r) i).1)), .own AL5_11 cL5_11 4 1 (List.map encBo ((wTo c.bounds (wN c a r) i).2)), .tab AL1_6 cL1_6 43 hsL4_6 3 1 (encM encI ((wsT c (Int.toNat k) a).set a (wN c a r).1)), .tab AL1_7 cL1_7 81 hsL4_7 4 1 (encM encBo ((wkT c (Int.toNat k) a).set a (wN c a r).2)), .blk b1 24 [.int .i64 c.layers, .slice A_c_bounds c.bounds.length c_c_bounds]] [1, 2]) (.cons 0 1 (.cons 1 1 (.cons 2 1 (.cons 6 1 (.cons 7 1 (.cons 3 2 (.cons 4 2 (.cons 5 2 (.cons 8 0 (.cons 9 2 (.cons 10 0 .nil))))))))))) mixed (by kernel_rfl) fun w39 E7 => ?_
                  replace H := H.grow E7
                  replace R0 := H.ext
                  replace hz := Nat.le_trans hz (Ext.size E7)
                  refine DW.fix rfl rfl rfl (fun _ EQ => RV.move rfl) ?_
                  refine DW.fix rfl rfl rfl (fun _ EQ => RV.fieldAddr f26_1 rfl) ?_
                  refine DW.fix rfl rfl rfl (fun _ EQ => RV.load1 k3 rfl (((H.grow EQ).blk 0 rfl).cells.off 1) rfl) ?_
                  refine DW.fix rfl rfl rfl (fun _ EQ => RV.move rfl) ?_
                  have hb19 : 0 ≤ ((x6.b) : Int) ∧ ((x6.b) : Int) < ((((wN c a r).1).length : Nat) : Int) := by omega
                  obtain ⟨x13, hx13⟩ := ex_at (l := (wTo c.bounds (wN c a r) i).1) (j := Int.toNat x6.b) (by first | omega | (simp; omega))
                  refine DW.fix rfl rfl rfl (fun _ EQ => RV.indexAddr s43 rfl rfl hb19 ((H.own 1 rfl).sl.addr_ hx13)) ?_
                  refine DW.thru rfl rfl rfl (fun _ EQ => RV.move rfl) ?_
                  refine DW.thru rfl rfl rfl (fun _ EQ => RV.fieldAddr f26_1 rfl) ?_
                  refine DW.thru rfl rfl rfl (fun _ EQ => RV.load1 k3 rfl ((H.thruB 0 rfl EQ (H0.notX [1, 2] 0 rfl (by decide))).cells.off 1) rfl) ?_
                  refine DW.sole rfl rfl rfl (OW.storeO (enc := encI) (vs := [.int .i64 (x7 + x6.most)]) 0 (x7 + x6.most) k3 rfl rfl (H.own 1 rfl) (fun _ => rfl) rfl hx13 rfl rfl (by decide) rfl rfl fun w40 M16 O16 => ?_)
                  refine ⟨fun h => absurd h (by decide), M16.modx (XB.own_ 1 (by decide) rfl), ?_⟩
                  replace H : Hp w w40 [.blk b16 26 [.int .i64 x6.a, .int .i64 x6.b, .int .i64 x6.most], .own AL5_10 cL5_10 3 1 (List.map encI ((((wTo c.bounds (wN c a r) i).1).set (Int.toNat x6.b) (x7 + x6.most)))), .own AL5_11 cL5_11 4 1 (List.map encBo ((wTo c.bounds (wN c a r) i).2)), .tab AL1_6 cL1_6 43 hsL4_6 3 1 (encM encI ((wsT c (Int.toNat k) a).set a (wN c a r).1)), .tab AL1_7 cL1_7 81 hsL4_7 4 1 (encM encBo ((wkT c (Int.toNat k) a).set a (wN c a r).2)), .blk b1 24 [.int .i64 c.layers, .slice A_c_bounds c.bounds.length c_c_bounds]] := H.mod 1 rfl M16 O16 (.inl rfl)
                  replace R0 := H.ext
                  replace hz := Nat.le_trans hz M16.size
                  have hb20 : 0 ≤ ((x6.b) : Int) ∧ ((x6.b) : Int) < ((((wN c a r).2).length : Nat) : Int) := by omega
                  obtain ⟨x14, hx14⟩ := ex_at (l := (wTo c.bounds (wN c a r) i).2) (j := Int.toNat x6.b) (by first | omega | (simp; omega))
                  refine DW.thru rfl rfl rfl (fun _ EQ => RV.indexAddr s81 rfl rfl hb20 ((H.own 2 rfl).sl.addr_ hx14)) ?_
                  refine DW.sole rfl rfl rfl (OW.storeO (enc := encBo) (vs := [.bool true]) 0 (true) k4 rfl rfl (H.own 2 rfl) (fun _ => rfl) rfl hx14 rfl rfl (by decide) rfl rfl fun w41 M17 O17 => ?_)
                  refine ⟨fun h => absurd h (by decide), M17.modx (XB.own_ 2 (by decide) rfl), ?_⟩
                  replace H : Hp w w41 [.blk b16 26 [.int .i64 x6.a, .int .i64 x6.b, .int .i64 x6.most], .own AL5_10 cL5_10 3 1 (List.map encI ((((wTo c.bounds (wN c a r) i).1).set (Int.toNat x6.b) (x7 + x6.most)))), .own AL5_11 cL5_11 4 1 (List.map encBo ((((wTo c.bounds (wN c a r) i).2).set (Int.toNat x6.b) true))), .tab AL1_6 cL1_6 43 hsL4_6 3 1 (encM encI ((wsT c (Int.toNat k) a).set a (wN c a r).1)), .tab AL1_7 cL1_7 81 hsL4_7 4 1 (encM encBo ((wkT c (Int.toNat k) a).set a (wN c a r).2)), .blk b1 24 [.int .i64 c.layers, .slice A_c_bounds c.bounds.length c_c_bounds]] := H.mod 2 rfl M17 O17 (.inl rfl)
                  replace R0 := H.ext
                  replace hz := Nat.le_trans hz M17.size
                  refine DW.nil (hK16 _ _ ?_)
                  refine CW.region ?_
                  refine LW.pure rfl rfl (RV.move rfl) ?_
                  refine LW.pure rfl rfl (RV.add rfl rfl (by omega)) ?_
                  refine LW.pure rfl rfl (RV.assign rfl) ?_
                  refine LW.nil ?_
                  replace H : Hp w w41 [.own AL5_10 cL5_10 3 1 (List.map encI ((((wTo c.bounds (wN c a r) i).1).set (Int.toNat x6.b) (x7 + x6.most)))), .own AL5_11 cL5_11 4 1 (List.map encBo ((((wTo c.bounds (wN c a r) i).2).set (Int.toNat x6.b) true))), .tab AL1_6 cL1_6 43 hsL4_6 3 1 (encM encI ((wsT c (Int.toNat k) a).set a (wN c a r).1)), .tab AL1_7 cL1_7 81 hsL4_7 4 1 (encM encBo ((wkT c (Int.toNat k) a).set a (wN c a r).2)), .blk b1 24 [.int .i64 c.layers, .slice A_c_bounds c.bounds.length c_c_bounds]] := H.pick [1, 2, 3, 4, 5] (by decide) rfl
                  replace R0 := H.ext
                  refine ⟨_, ?_, _, ?_, i + 1, rfl, rfl, ?_, ?_⟩
                  · omega
                  · exact ⟨rfl, rfl, rfl, rfl, rfl, rfl, rfl, rfl, look_slice rfl (by first | rfl | omega | (simp; done)), look_slice rfl (by first | rfl | omega | (simp; done)), look_int rfl (by first | rfl | omega | (simp; omega)), trivial⟩
                  · have hst := wTo_succ (p := wN c a r) hx6
                    unfold wB at hst
                    simp [hgx7, hgx8, h4, hgx9, h5] at hst
                    rw [hst]; exact H
                  · omega
            ·
              have h3 := of_decide_eq_false h3
              refine CW.exit (hK12 _ _ ?_)
              refine CW.region ?_
              refine LW.pure rfl rfl (RV.move rfl) ?_
              refine LW.pure rfl rfl (RV.move rfl) ?_
              refine LW.pure rfl rfl (RV.move rfl) ?_
              refine LW.pure rfl rfl (RV.move rfl) ?_
              refine LW.pure rfl rfl (RV.move rfl) ?_
              refine LW.pure rfl rfl (RV.move rfl) ?_
              have hb21 : 0 ≤ ((↑a) : Int) ∧ ((↑a) : Int) < ((Int.toNat c.layers : Nat) : Int) := by omega
              obtain ⟨x15, hx15⟩ := ex_at (l := (wsT c (Int.toNat k) a).set a (wN c a r).1) (j := a) (by first | omega | (simp; omega))
              obtain ⟨B11, e11, hh11⟩ := (H.tab 2 rfl).hd hx15
              refine LW.pure rfl rfl (RV.indexAddr s58 rfl rfl hb21 ((H.tab 2 rfl).addr_ hx15)) ?_
              refine LW.go rfl rfl (OW.storeO (enc := encH) (vs := [.slice AL5_10 (((wN c a r).1).length) cL5_10]) 0 ((AL5_10, cL5_10), List.map encI ((wTo c.bounds (wN c a r) i).1)) k43 rfl rfl (H.tab 2 rfl).outer (fun _ => rfl) rfl ((H.tab 2 rfl).zipAt hx15 hh11) rfl rfl (by decide) rfl (by simp [encH, over, hP1, hP2, hW1, hW2]) fun w42 M18 O18 => ?_)
              replace H : Hp w w42 [.own AL5_11 cL5_11 4 1 (List.map encBo ((wTo c.bounds (wN c a r) i).2)), .tab AL1_6 cL1_6 43 ((hsL4_6.set a (AL5_10, cL5_10))) 3 1 (encM encI ((((wsT c (Int.toNat k) a).set a (wN c a r).1).set a ((wTo c.bounds (wN c a r) i).1)))), .tab AL1_7 cL1_7 81 hsL4_7 4 1 (encM encBo ((wkT c (Int.toNat k) a).set a (wN c a r).2)), .blk b1 24 [.int .i64 c.layers, .slice A_c_bounds c.bounds.length c_c_bounds]] := H.tabSet 2 0 (by decide) rfl rfl (lt_of_at hx15) M18 O18
              replace R0 := H.ext
              have hb22 : 0 ≤ ((↑a) : Int) ∧ ((↑a) : Int) < ((Int.toNat c.layers : Nat) : Int) := by omega
              obtain ⟨x16, hx16⟩ := ex_at (l := (wkT c (Int.toNat k) a).set a (wN c a r).2) (j := a) (by first | omega | (simp; omega))
              obtain ⟨B12, e12, hh12⟩ := (H.tab 2 rfl).hd hx16
              refine LW.pure rfl rfl (RV.indexAddr s78 rfl rfl hb22 ((H.tab 2 rfl).addr_ hx16)) ?_
              refine LW.go rfl rfl (OW.storeO (enc := encH) (vs := [.slice AL5_11 (((wN c a r).2).length) cL5_11]) 0 ((AL5_11, cL5_11), List.map encBo ((wTo c.bounds (wN c a r) i).2)) k81 rfl rfl (H.tab 2 rfl).outer (fun _ => rfl) rfl ((H.tab 2 rfl).zipAt hx16 hh12) rfl rfl (by decide) rfl (by simp [encH, over, hP1, hP2, hW1, hW2]) fun w43 M19 O19 => ?_)
              replace H : Hp w w43 [.tab AL1_6 cL1_6 43 ((hsL4_6.set a (AL5_10, cL5_10))) 3 1 (encM encI ((((wsT c (Int.toNat k) a).set a (wN c a r).1).set a ((wTo c.bounds (wN c a r) i).1)))), .tab AL1_7 cL1_7 81 ((hsL4_7.set a (AL5_11, cL5_11))) 4 1 (encM encBo ((((wkT c (Int.toNat k) a).set a (wN c a r).2).set a ((wTo c.bounds (wN c a r) i).2)))), .blk b1 24 [.int .i64 c.layers, .slice A_c_bounds c.bounds.length c_c_bounds]] := H.tabSet 2 0 (by decide) rfl rfl (lt_of_at hx16) M19 O19
              replace R0 := H.ext
              refine LW.nil (hK11 _ _ ?_)
              refine CW.region ?_
              refine LW.pure rfl rfl (RV.move rfl) ?_
              refine LW.pure rfl rfl (RV.add rfl rfl (by omega)) ?_
              refine LW.pure rfl rfl (RV.assign rfl) ?_
              refine LW.nil ?_
              refine ⟨_, ?_, _, ?_, r + 1, ((hsL4_6.set a (AL5_10, cL5_10))), ((hsL4_7.set a (AL5_11, cL5_11))), rfl, rfl, ?_, ?_⟩
              · omega
              · exact ⟨rfl, rfl, rfl, rfl, look_slice rfl (by first | rfl | omega | (simp; done)), look_slice rfl (by first | rfl | omega | (simp; done)), rfl, look_int rfl (by first | rfl | omega | (simp; omega)), trivial⟩
              · have e : i = c.bounds.length := (by omega)
                subst e; simp only [List.set_set] at H; exact H
              · omega
        ·
          have h2 := of_decide_eq_false h2
          refine CW.exit (hK6 _ _ ?_)
          refine CW.region ?_
          refine LW.pure rfl rfl (RV.move rfl) ?_
          refine LW.pure rfl rfl (RV.add rfl rfl (by omega)) ?_
          refine LW.pure rfl rfl (RV.assign rfl) ?_
          refine LW.nil ?_
          refine ⟨_, ?_, _, ?_, a + 1, hsL4_6, hsL4_7, rfl, rfl, ?_, ?_⟩
          · omega
          · exact ⟨rfl, rfl, rfl, rfl, look_slice rfl (by first | rfl | omega | (simp; done)), look_slice rfl (by first | rfl | omega | (simp; done)), look_int rfl (by first | rfl | omega | (simp; omega)), trivial⟩
          · have e : r = Int.toNat k := (by omega)
            subst e; exact H
          · omega
    ·
      have h1 := of_decide_eq_false h1
      refine CW.exit (hK2 _ _ ?_)
      refine CW.seq fun K20 hK20 => ?_
      refine CW.region ?_
      refine LW.pure rfl rfl (RV.move rfl) ?_
      refine LW.pure rfl rfl (RV.move rfl) ?_
      refine LW.pure rfl rfl (RV.assign rfl) ?_
      refine LW.pure rfl rfl (RV.assign rfl) ?_
      refine LW.nil (hK20 _ _ ?_)
      refine CW.ret ?_
      refine ⟨_, (ResOK.two rfl rfl), ?_⟩
      replace H : Hp w wl2 [.tab AL1_6 cL1_6 43 hsL2_6 3 1 (encM encI (wsT c (Int.toNat k) a)), .tab AL1_7 cL1_7 81 hsL2_7 4 1 (encM encBo (wkT c (Int.toNat k) a))] := H.pick [0, 1] (by decide) rfl
      replace R0 := H.ext
      refine ⟨AL1_6, cL1_6, hsL2_6, AL1_7, cL1_7, hsL2_7, ?_, ?_⟩
      · have e : a = Int.toNat c.layers := by omega
        subst e; simp [wsT_len, wkT_len]
      · have e : a = Int.toNat c.layers := by omega
        subst e; exact H

end Go.Core
