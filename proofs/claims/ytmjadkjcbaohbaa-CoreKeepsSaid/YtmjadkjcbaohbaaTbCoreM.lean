/- Lemmas and walks that the proof of this claim uses: TbCoreM. -/
import Derived.Test.YtmjadkjcbaohbaaTbCoreL
import Derived.Test.YtmjadkjcbaohbaaTbCoreSpec7
import Derived.Test.YtmjadkjcbaohbaaProg
import Derived.KernelRfl
namespace Go.Core
open Go.Tb Go.Proofs
set_option linter.unusedVariables false
set_option linter.unusedSimpArgs false

theorem c33 : callable Try.prog 33 = true := by kernel_rfl


set_option maxRecDepth 20000 in
theorem law_CoreKeeps {c : Core} {A_c_bounds : Option Addr} {c_c_bounds : Nat} {l : List Int} {A_l : Option Addr} {c_l : Nat} {x : Bound} {w : World} (h_c_bounds : Sl w A_c_bounds c_c_bounds 3 (c.bounds.map encB)) (h_l : Sl w A_l c_l 1 (l.map encI)) : Calls Try.prog 7 #[.agg #[.int .i64 c.layers, .slice A_c_bounds c.bounds.length c_c_bounds], .slice A_l l.length c_l, .agg #[.int .i64 x.a, .int .i64 x.b, .int .i64 x.most]] w (Ret w (.bool true)) := by
  refine calls_of_cw (args := [.agg #[.int .i64 c.layers, .slice A_c_bounds c.bounds.length c_c_bounds], .slice A_l l.length c_l, .agg #[.int .i64 x.a, .int .i64 x.b, .int .i64 x.most]]) Try.func7 rfl rfl rfl rfl ?_
  have H := Hp.start w
  have R0 := H.ext
  refine CW.seq fun K1 hK1 => ?_
  refine CW.region ?_
  refine LW.go rfl rfl (OW.box rfl fun b1 w1 N1 => ?_)
  replace H : Hp w w1 [.blk b1 24 [.int .i64 c.layers, .slice A_c_bounds c.bounds.length c_c_bounds]] := H.new N1 N1.blk
  replace R0 := H.ext
  refine LW.go rfl rfl (OW.box rfl fun b2 w2 N2 => ?_)
  replace H : Hp w w2 [.blk b2 26 [.int .i64 x.a, .int .i64 x.b, .int .i64 x.most], .blk b1 24 [.int .i64 c.layers, .slice A_c_bounds c.bounds.length c_c_bounds]] := H.new N2 N2.blk
  replace R0 := H.ext
  refine LW.pure rfl rfl (RV.assign rfl) ?_
  refine LW.nil (hK1 _ _ ?_)
  refine CW.seq fun K2 hK2 => ?_
  refine CW.seq fun K3 hK3 => ?_
  refine CW.region ?_
  refine LW.pure rfl rfl (RV.loadA [.int .i64 c.layers, .slice A_c_bounds c.bounds.length c_c_bounds] k24 rfl (H.blk 1 rfl).cells rfl rfl) ?_
  refine LW.go rfl rfl (OW.call c17 rfl (law_Long (c := c) (h_c_bounds.ext R0)) ?_)
  rintro _ w3 ⟨rfl, E1⟩
  refine ⟨_, rfl, ?_⟩
  replace H := H.grow E1
  replace R0 := H.ext
  refine LW.pure rfl rfl (RV.move rfl) ?_
  cases h1 : decide (100 < ((c.bounds.length : Nat) : Int))
  ·
    refine LW.pureY rfl rfl rfl rfl (RV.move rfl) ?_
    refine LW.pureY rfl rfl rfl rfl (RV.len s43 rfl) ?_
    refine LW.pureY rfl rfl rfl rfl (RV.gtr rfl rfl) ?_
    refine LW.pure rfl rfl (RV.pickF rfl rfl) ?_
    refine LW.nil (hK3 _ _ ?_)
    refine CW.cond rfl (fun h2 => ?_) (fun h2 => ?_)
    ·
      have h2 := of_decide_eq_true h2
      refine CW.seq fun K4 hK4 => ?_
      refine CW.region ?_
      refine LW.go rfl rfl (OW.call c18 rfl (law_known) ?_)
      rintro _ w4 ⟨rfl, E2⟩
      refine ⟨_, rfl, ?_⟩
      replace H := H.grow E2
      replace R0 := H.ext
      refine LW.pure rfl rfl (RV.assign rfl) ?_
      refine LW.nil (hK4 _ _ ?_)
      refine CW.ret ?_
      refine ⟨_, (ResOK.one rfl), ?_⟩
      refine ⟨rfl, R0⟩
    ·
      have h2 := of_decide_eq_false h2
      refine CW.skip (hK2 _ _ ?_)
      refine CW.seq fun K5 hK5 => ?_
      refine CW.seq fun K6 hK6 => ?_
      refine CW.region ?_
      refine LW.pure rfl rfl (RV.loadA [.int .i64 c.layers, .slice A_c_bounds c.bounds.length c_c_bounds] k24 rfl (H.blk 1 rfl).cells rfl rfl) ?_
      refine LW.pure rfl rfl (RV.move rfl) ?_
      refine LW.go rfl rfl (OW.call c33 rfl (core_CheckDates (c := c) (l := l) (h_c_bounds.ext R0) (h_l.ext R0)) ?_)
      rintro _ w5 ⟨rfl, E3⟩
      refine ⟨_, rfl, ?_⟩
      replace H := H.grow E3
      replace R0 := H.ext
      refine LW.pure rfl rfl (RV.nei rfl rfl) ?_
      refine LW.nil (hK6 _ _ ?_)
      refine CW.cond rfl (fun h3 => ?_) (fun h3 => ?_)
      ·
        have h3 := (Bool.not_eq_true' _).mp h3
        have h3 := of_decide_eq_false h3
        refine CW.seq fun K7 hK7 => ?_
        refine CW.region ?_
        refine LW.go rfl rfl (OW.call c18 rfl (law_known) ?_)
        rintro _ w6 ⟨rfl, E4⟩
        refine ⟨_, rfl, ?_⟩
        replace H := H.grow E4
        replace R0 := H.ext
        refine LW.pure rfl rfl (RV.assign rfl) ?_
        refine LW.nil (hK7 _ _ ?_)
        refine CW.ret ?_
        refine ⟨_, (ResOK.one rfl), ?_⟩
        refine ⟨rfl, R0⟩
      ·
        have h3 := (Bool.not_eq_false' _).mp h3
        have h3 := of_decide_eq_true h3
        obtain ⟨hv0, hl0, hb0, hp0⟩ := checkDates_ok h3
        refine CW.skip (hK5 _ _ ?_)
        refine CW.seq fun K8 hK8 => ?_
        refine CW.region ?_
        refine LW.pure rfl rfl (RV.loadA [.int .i64 c.layers, .slice A_c_bounds c.bounds.length c_c_bounds] k24 rfl (H.blk 1 rfl).cells rfl rfl) ?_
        refine LW.pure rfl rfl (RV.loadA [.int .i64 x.a, .int .i64 x.b, .int .i64 x.most] k26 rfl (H.blk 0 rfl).cells rfl rfl) ?_
        refine LW.go rfl rfl (OW.call c19 rfl (core_Follows (c := c) (x := x) (h_c_bounds.ext R0)) ?_)
        rintro _ w7 ⟨rfl, E5⟩
        refine ⟨_, rfl, ?_⟩
        replace H := H.grow E5
        replace R0 := H.ext
        refine LW.pure rfl rfl (RV.move rfl) ?_
        refine LW.pure rfl rfl (RV.extract rfl rfl) ?_
        refine LW.pure rfl rfl (RV.extract rfl rfl) ?_
        refine LW.pure rfl rfl (RV.assign rfl) ?_
        refine LW.pure rfl rfl (RV.assign rfl) ?_
        refine LW.nil (hK8 _ _ ?_)
        refine CW.seq fun K9 hK9 => ?_
        refine CW.cut (fun ρ wl1 => ρ = [(1, .slice A_l l.length c_l), (3, .pointer (some (⟨b1, 0, none⟩))), (5, .pointer (some (⟨b2, 0, none⟩))), (6, .bool false), (75, .bool false)] ∧ Hp w wl1 [.blk b2 26 [.int .i64 x.a, .int .i64 x.b, .int .i64 x.most], .blk b1 24 [.int .i64 c.layers, .slice A_c_bounds c.bounds.length c_c_bounds]] ∧ (True)) ?_ ?_
        ·
          refine CW.draw [] (fun _ => True) (.cons 0 1 (.cons 1 1 (.cons 2 1 (.cons 3 1 (.cons 4 1 (.cons 5 1 (.cons 6 1 (.cons 7 1 (.cons 8 1 (.cons 9 1 (.cons 10 1 (.cons 11 1 (.cons 12 1 (.cons 13 1 (.cons 14 1 (.cons 15 1 (.cons 16 1 (.cons 17 1 (.cons 18 1 (.cons 19 1 (.cons 20 1 (.cons 21 1 (.cons 22 1 (.cons 23 1 (.cons 24 1 (.cons 25 1 (.cons 26 1 (.cons 27 1 (.cons 28 1 (.cons 29 1 (.cons 30 1 (.cons 31 1 (.cons 32 1 (.cons 33 1 (.cons 34 1 (.cons 35 1 (.cons 36 1 (.cons 37 1 (.cons 38 1 (.cons 39 1 (.cons 40 1 (.cons 41 1 (.cons 42 1 (.cons 43 1 (.cons 44 1 .nil))))))))))))))))))))))))))))))))))))))))))))) mixed (by kernel_rfl) fun w8 E6 => ?_
          replace H := H.grow E6
          replace R0 := H.ext
          refine DW.fix rfl rfl rfl (fun _ EQ => RV.move rfl) ?_
          refine DW.fix rfl rfl rfl (fun _ EQ => RV.eqi rfl rfl) ?_
          refine DW.fix rfl rfl rfl (fun _ EQ => RV.move rfl) ?_
          cases h4 : decide (((follows c x).2) = 0)
          ·
            have h4 := of_decide_eq_false h4
            refine DW.fixN rfl rfl rfl rfl rfl rfl ?_
            refine DW.fixN rfl rfl rfl rfl rfl rfl ?_
            refine DW.fixN rfl rfl rfl rfl rfl rfl ?_
            refine DW.fixN rfl rfl rfl rfl rfl rfl ?_
            refine DW.fixNU rfl rfl rfl rfl rfl ?_
            refine DW.fixNU rfl rfl rfl rfl rfl ?_
            refine DW.fixNU rfl rfl rfl rfl rfl ?_
            refine DW.fixNU rfl rfl rfl rfl rfl ?_
            refine DW.fixNU rfl rfl rfl rfl rfl ?_
            refine DW.fixN rfl rfl rfl rfl rfl rfl ?_
            refine DW.fixN rfl rfl rfl rfl rfl rfl ?_
            refine DW.fixNU rfl rfl rfl rfl rfl ?_
            refine DW.fixNU rfl rfl rfl rfl rfl ?_
            refine DW.fixNU rfl rfl rfl rfl rfl ?_
            refine DW.fixN rfl rfl rfl rfl rfl rfl ?_
            refine DW.fixN rfl rfl rfl rfl rfl rfl ?_
            refine DW.fixNU rfl rfl rfl rfl rfl ?_
            refine DW.fixNU rfl rfl rfl rfl rfl ?_
            refine DW.fixNU rfl rfl rfl rfl rfl ?_
            refine DW.fixNU rfl rfl rfl rfl rfl ?_
            refine DW.fixNU rfl rfl rfl rfl rfl ?_
            refine DW.fixN rfl rfl rfl rfl rfl rfl ?_
            refine DW.fixN rfl rfl rfl rfl rfl rfl ?_
            refine DW.fixNU rfl rfl rfl rfl rfl ?_
            refine DW.fixNU rfl rfl rfl rfl rfl ?_
            refine DW.fixNU rfl rfl rfl rfl rfl ?_
            refine DW.fixNU rfl rfl rfl rfl rfl ?_
            refine DW.fixNU rfl rfl rfl rfl rfl ?_
            refine DW.fixNU rfl rfl rfl rfl rfl ?_
            refine DW.fixNU rfl rfl rfl rfl rfl ?_
            refine DW.fixNU rfl rfl rfl rfl rfl ?_
            refine DW.fixNU rfl rfl rfl rfl rfl ?_
            refine DW.fixNU rfl rfl rfl rfl rfl ?_
            refine DW.fixNU rfl rfl rfl rfl rfl ?_
            refine DW.fixNU rfl rfl rfl rfl rfl ?_
            refine DW.fixNU rfl rfl rfl rfl rfl ?_
            refine DW.fixNU rfl rfl rfl rfl rfl ?_
            refine DW.fixNU rfl rfl rfl rfl rfl ?_
            refine DW.fixNU rfl rfl rfl rfl rfl ?_
            refine DW.fixNU rfl rfl rfl rfl rfl ?_
            refine DW.fixN rfl rfl rfl rfl rfl rfl ?_
            refine DW.fix rfl rfl rfl (fun _ EQ => RV.pickF rfl rfl) ?_
            refine DW.nil ?_
            refine ⟨_, ?_, rfl, ?_, ?_⟩
            · exact ⟨rfl, rfl, rfl, rfl, rfl, trivial⟩
            · exact H
            · trivial
          ·
            have h4 := of_decide_eq_true h4
            have hk := keeps_follows h3 h4
            refine DW.fixY rfl rfl rfl rfl rfl (fun _ EQ => RV.fieldAddr f26_0 rfl) ?_
            refine DW.fixY rfl rfl rfl rfl rfl (fun _ EQ => RV.load1 k3 rfl (((H.grow EQ).blk 0 rfl).cells.off 0) rfl) ?_
            refine DW.fixY rfl rfl rfl rfl rfl (fun _ EQ => RV.lss rfl rfl) ?_
            refine DW.fixY rfl rfl rfl rfl rfl (fun _ EQ => RV.move rfl) ?_
            cases h5 : decide (x.a < 0)
            ·
              have h5 := of_decide_eq_false h5
              refine DW.fixY rfl rfl rfl rfl rfl (fun _ EQ => RV.fieldAddr f26_0 rfl) ?_
              refine DW.fixY rfl rfl rfl rfl rfl (fun _ EQ => RV.load1 k3 rfl (((H.grow EQ).blk 0 rfl).cells.off 0) rfl) ?_
              refine DW.fixY rfl rfl rfl rfl rfl (fun _ EQ => RV.move rfl) ?_
              refine DW.fixY rfl rfl rfl rfl rfl (fun _ EQ => RV.len s43 rfl) ?_
              refine DW.fixY rfl rfl rfl rfl rfl (fun _ EQ => RV.geq rfl rfl) ?_
              refine DW.fixY rfl rfl rfl rfl rfl (fun _ EQ => RV.pickF rfl rfl) ?_
              refine DW.fixY rfl rfl rfl rfl rfl (fun _ EQ => RV.move rfl) ?_
              cases h6 : decide ((((l.length : Nat) : Int)) ≤ x.a)
              ·
                have h6 := of_decide_eq_false h6
                refine DW.fixY rfl rfl rfl rfl rfl (fun _ EQ => RV.fieldAddr f26_1 rfl) ?_
                refine DW.fixY rfl rfl rfl rfl rfl (fun _ EQ => RV.load1 k3 rfl (((H.grow EQ).blk 0 rfl).cells.off 1) rfl) ?_
                refine DW.fixY rfl rfl rfl rfl rfl (fun _ EQ => RV.lss rfl rfl) ?_
                refine DW.fixY rfl rfl rfl rfl rfl (fun _ EQ => RV.pickF rfl rfl) ?_
                refine DW.fixY rfl rfl rfl rfl rfl (fun _ EQ => RV.move rfl) ?_
                cases h7 : decide (x.b < 0)
                ·
                  have h7 := of_decide_eq_false h7
                  refine DW.fixY rfl rfl rfl rfl rfl (fun _ EQ => RV.fieldAddr f26_1 rfl) ?_
                  refine DW.fixY rfl rfl rfl rfl rfl (fun _ EQ => RV.load1 k3 rfl (((H.grow EQ).blk 0 rfl).cells.off 1) rfl) ?_
                  refine DW.fixY rfl rfl rfl rfl rfl (fun _ EQ => RV.move rfl) ?_
                  refine DW.fixY rfl rfl rfl rfl rfl (fun _ EQ => RV.len s43 rfl) ?_
                  refine DW.fixY rfl rfl rfl rfl rfl (fun _ EQ => RV.geq rfl rfl) ?_
                  refine DW.fixY rfl rfl rfl rfl rfl (fun _ EQ => RV.pickF rfl rfl) ?_
                  refine DW.fixY rfl rfl rfl rfl rfl (fun _ EQ => RV.move rfl) ?_
                  cases h8 : decide ((((l.length : Nat) : Int)) ≤ x.b)
                  ·
                    have h8 := of_decide_eq_false h8
                    refine DW.fixY rfl rfl rfl rfl rfl (fun _ EQ => RV.move rfl) ?_
                    refine DW.fixY rfl rfl rfl rfl rfl (fun _ EQ => RV.move rfl) ?_
                    cases h9 : (follows c x).1
                    ·
                      refine DW.fixN rfl rfl rfl rfl rfl rfl ?_
                      refine DW.fixN rfl rfl rfl rfl rfl rfl ?_
                      refine DW.fixN rfl rfl rfl rfl rfl rfl ?_
                      refine DW.fixN rfl rfl rfl rfl rfl rfl ?_
                      refine DW.fixN rfl rfl rfl rfl rfl rfl ?_
                      refine DW.fixN rfl rfl rfl rfl rfl rfl ?_
                      refine DW.fixN rfl rfl rfl rfl rfl rfl ?_
                      refine DW.fixN rfl rfl rfl rfl rfl rfl ?_
                      refine DW.fixN rfl rfl rfl rfl rfl rfl ?_
                      refine DW.fixN rfl rfl rfl rfl rfl rfl ?_
                      refine DW.fixN rfl rfl rfl rfl rfl rfl ?_
                      refine DW.fixN rfl rfl rfl rfl rfl rfl ?_
                      refine DW.fixN rfl rfl rfl rfl rfl rfl ?_
                      refine DW.fixN rfl rfl rfl rfl rfl rfl ?_
                      refine DW.fixY rfl rfl rfl rfl rfl (fun _ EQ => RV.pickF rfl rfl) ?_
                      refine DW.fixY rfl rfl rfl rfl rfl (fun _ EQ => RV.pickF rfl rfl) ?_
                      refine DW.fix rfl rfl rfl (fun _ EQ => RV.pickT rfl rfl) ?_
                      refine DW.nil ?_
                      refine ⟨_, ?_, rfl, ?_, ?_⟩
                      · exact ⟨rfl, rfl, rfl, rfl, rfl, trivial⟩
                      · exact H
                      · trivial
                    ·
                      have hk5 := hk.2.2.2.2 h9
                      refine DW.fixY rfl rfl rfl rfl rfl (fun _ EQ => RV.move rfl) ?_
                      refine DW.fixY rfl rfl rfl rfl rfl (fun _ EQ => RV.fieldAddr f26_1 rfl) ?_
                      refine DW.fixY rfl rfl rfl rfl rfl (fun _ EQ => RV.load1 k3 rfl (((H.grow EQ).blk 0 rfl).cells.off 1) rfl) ?_
                      have hb1 : 0 ≤ ((x.b) : Int) ∧ ((x.b) : Int) < ((l.length : Nat) : Int) := by omega
                      obtain ⟨x1, hx1⟩ := ex_at (l := l) (j := Int.toNat x.b) (by first | omega | (simp; omega))
                      have hgx1 := gi_of hx1
                      have hdx1 := hb0 x1 (List.mem_of_getElem? hx1)
                      refine DW.fixY rfl rfl rfl rfl rfl (fun _ EQ => RV.indexAddr s43 rfl rfl hb1 (h_l.addr hb1)) ?_
                      refine DW.fixY rfl rfl rfl rfl rfl (fun _ EQ => RV.load1 k3 rfl ((h_l.at_ hx1).ext (R0.trans EQ)) rfl) ?_
                      refine DW.fixY rfl rfl rfl rfl rfl (fun _ EQ => RV.move rfl) ?_
                      refine DW.fixY rfl rfl rfl rfl rfl (fun _ EQ => RV.fieldAddr f26_0 rfl) ?_
                      refine DW.fixY rfl rfl rfl rfl rfl (fun _ EQ => RV.load1 k3 rfl (((H.grow EQ).blk 0 rfl).cells.off 0) rfl) ?_
                      have hb2 : 0 ≤ ((x.a) : Int) ∧ ((x.a) : Int) < ((l.length : Nat) : Int) := by omega
                      obtain ⟨x2, hx2⟩ := ex_at (l := l) (j := Int.toNat x.a) (by first | omega | (simp; omega))
                      have hgx2 := gi_of hx2
                      have hdx2 := hb0 x2 (List.mem_of_getElem? hx2)
                      refine DW.fixY rfl rfl rfl rfl rfl (fun _ EQ => RV.indexAddr s43 rfl rfl hb2 (h_l.addr hb2)) ?_
                      refine DW.fixY rfl rfl rfl rfl rfl (fun _ EQ => RV.load1 k3 rfl ((h_l.at_ hx2).ext (R0.trans EQ)) rfl) ?_
                      refine DW.fixY rfl rfl rfl rfl rfl (fun _ EQ => RV.sub rfl rfl (by omega)) ?_
                      refine DW.fixY rfl rfl rfl rfl rfl (fun _ EQ => RV.fieldAddr f26_2 rfl) ?_
                      refine DW.fixY rfl rfl rfl rfl rfl (fun _ EQ => RV.load1 k3 rfl (((H.grow EQ).blk 0 rfl).cells.off 2) rfl) ?_
                      refine DW.fixY rfl rfl rfl rfl rfl (fun _ EQ => RV.gtr rfl rfl) ?_
                      refine DW.fixY rfl rfl rfl rfl rfl (fun _ EQ => RV.pickT rfl rfl) ?_
                      refine DW.fixY rfl rfl rfl rfl rfl (fun _ EQ => RV.pickF rfl rfl) ?_
                      refine DW.fix rfl rfl rfl (fun _ EQ => RV.pickT rfl rfl) ?_
                      refine DW.nil ?_
                      refine ⟨_, ?_, rfl, ?_, ?_⟩
                      · exact ⟨rfl, rfl, rfl, rfl, look_bool rfl (by first | rfl | (simp; omega)), trivial⟩
                      · exact H
                      · trivial
                  ·
                    have h8 := of_decide_eq_true h8
                    exfalso; omega
                ·
                  have h7 := of_decide_eq_true h7
                  exfalso; omega
              ·
                have h6 := of_decide_eq_true h6
                exfalso; omega
            ·
              have h5 := of_decide_eq_true h5
              exfalso; omega
        ·
          rintro _ wl1 ⟨rfl, H, hI1⟩
          have R0 := H.ext
          refine CW.cond rfl (fun h => by cases h) (fun _ => ?_)
          refine CW.skip (hK9 _ _ ?_)
          refine CW.seq fun K10 hK10 => ?_
          refine CW.region ?_
          refine LW.pure rfl rfl (RV.loadA [.int .i64 c.layers, .slice A_c_bounds c.bounds.length c_c_bounds] k24 rfl (H.blk 1 rfl).cells rfl rfl) ?_
          refine LW.pure rfl rfl (RV.fieldAddr f26_0 rfl) ?_
          refine LW.pure rfl rfl (RV.load1 k3 rfl ((H.blk 0 rfl).cells.off 0) rfl) ?_
          refine LW.pure rfl rfl (RV.fieldAddr f26_1 rfl) ?_
          refine LW.pure rfl rfl (RV.load1 k3 rfl ((H.blk 0 rfl).cells.off 1) rfl) ?_
          refine LW.go rfl rfl (OW.call c21 rfl (core_Tightest (c := c) (a := x.a) (b := x.b) (h_c_bounds.ext R0)) ?_)
          rintro _ w9 ⟨rfl, E7⟩
          refine ⟨_, rfl, ?_⟩
          replace H := H.grow E7
          replace R0 := H.ext
          refine LW.pure rfl rfl (RV.move rfl) ?_
          refine LW.pure rfl rfl (RV.extract rfl rfl) ?_
          refine LW.pure rfl rfl (RV.extract rfl rfl) ?_
          refine LW.pure rfl rfl (RV.extract rfl rfl) ?_
          refine LW.pure rfl rfl (RV.assign rfl) ?_
          refine LW.pure rfl rfl (RV.assign rfl) ?_
          refine LW.pure rfl rfl (RV.assign rfl) ?_
          refine LW.nil (hK10 _ _ ?_)
          refine CW.seq fun K11 hK11 => ?_
          refine CW.cut (fun ρ wl2 => ρ = [(6, .bool false), (129, .bool false)] ∧ Hp w wl2 [.blk b2 26 [.int .i64 x.a, .int .i64 x.b, .int .i64 x.most], .blk b1 24 [.int .i64 c.layers, .slice A_c_bounds c.bounds.length c_c_bounds]] ∧ (True)) ?_ ?_
          ·
            refine CW.draw [] (fun _ => True) (.cons 0 1 (.cons 1 1 (.cons 2 1 (.cons 3 1 (.cons 4 1 (.cons 5 1 (.cons 6 1 (.cons 7 1 (.cons 8 1 (.cons 9 1 (.cons 10 1 (.cons 11 1 (.cons 12 1 (.cons 13 1 (.cons 14 1 (.cons 15 1 (.cons 16 1 (.cons 17 1 (.cons 18 1 (.cons 19 1 (.cons 20 1 (.cons 21 1 (.cons 22 1 (.cons 23 1 (.cons 24 1 (.cons 25 1 (.cons 26 1 (.cons 27 1 (.cons 28 1 (.cons 29 1 (.cons 30 1 (.cons 31 1 (.cons 32 1 (.cons 33 1 (.cons 34 1 (.cons 35 1 (.cons 36 1 (.cons 37 1 (.cons 38 1 (.cons 39 1 (.cons 40 1 (.cons 41 1 (.cons 42 1 (.cons 43 1 .nil)))))))))))))))))))))))))))))))))))))))))))) mixed (by kernel_rfl) fun w10 E8 => ?_
            replace H := H.grow E8
            replace R0 := H.ext
            refine DW.fix rfl rfl rfl (fun _ EQ => RV.move rfl) ?_
            refine DW.fix rfl rfl rfl (fun _ EQ => RV.eqi rfl rfl) ?_
            refine DW.fix rfl rfl rfl (fun _ EQ => RV.move rfl) ?_
            cases h10 : decide (((tightest c x.a x.b).2.2) = 0)
            ·
              have h10 := of_decide_eq_false h10
              refine DW.fixN rfl rfl rfl rfl rfl rfl ?_
              refine DW.fixN rfl rfl rfl rfl rfl rfl ?_
              refine DW.fixN rfl rfl rfl rfl rfl rfl ?_
              refine DW.fixN rfl rfl rfl rfl rfl rfl ?_
              refine DW.fixNU rfl rfl rfl rfl rfl ?_
              refine DW.fixNU rfl rfl rfl rfl rfl ?_
              refine DW.fixNU rfl rfl rfl rfl rfl ?_
              refine DW.fixNU rfl rfl rfl rfl rfl ?_
              refine DW.fixNU rfl rfl rfl rfl rfl ?_
              refine DW.fixN rfl rfl rfl rfl rfl rfl ?_
              refine DW.fixN rfl rfl rfl rfl rfl rfl ?_
              refine DW.fixNU rfl rfl rfl rfl rfl ?_
              refine DW.fixNU rfl rfl rfl rfl rfl ?_
              refine DW.fixNU rfl rfl rfl rfl rfl ?_
              refine DW.fixN rfl rfl rfl rfl rfl rfl ?_
              refine DW.fixN rfl rfl rfl rfl rfl rfl ?_
              refine DW.fixNU rfl rfl rfl rfl rfl ?_
              refine DW.fixNU rfl rfl rfl rfl rfl ?_
              refine DW.fixNU rfl rfl rfl rfl rfl ?_
              refine DW.fixNU rfl rfl rfl rfl rfl ?_
              refine DW.fixNU rfl rfl rfl rfl rfl ?_
              refine DW.fixN rfl rfl rfl rfl rfl rfl ?_
              refine DW.fixN rfl rfl rfl rfl rfl rfl ?_
              refine DW.fixNU rfl rfl rfl rfl rfl ?_
              refine DW.fixNU rfl rfl rfl rfl rfl ?_
              refine DW.fixNU rfl rfl rfl rfl rfl ?_
              refine DW.fixNU rfl rfl rfl rfl rfl ?_
              refine DW.fixNU rfl rfl rfl rfl rfl ?_
              refine DW.fixNU rfl rfl rfl rfl rfl ?_
              refine DW.fixNU rfl rfl rfl rfl rfl ?_
              refine DW.fixNU rfl rfl rfl rfl rfl ?_
              refine DW.fixNU rfl rfl rfl rfl rfl ?_
              refine DW.fixNU rfl rfl rfl rfl rfl ?_
              refine DW.fixNU rfl rfl rfl rfl rfl ?_
              refine DW.fixNU rfl rfl rfl rfl rfl ?_
              refine DW.fixNU rfl rfl rfl rfl rfl ?_
              refine DW.fixNU rfl rfl rfl rfl rfl ?_
              refine DW.fixNU rfl rfl rfl rfl rfl ?_
              refine DW.fixNU rfl rfl rfl rfl rfl ?_
              refine DW.fixN rfl rfl rfl rfl rfl rfl ?_
              refine DW.fix rfl rfl rfl (fun _ EQ => RV.pickF rfl rfl) ?_
              refine DW.nil ?_
              refine ⟨_, ?_, rfl, ?_, ?_⟩
              · exact ⟨rfl, rfl, trivial⟩
              · exact H
              · trivial
            ·
              have h10 := of_decide_eq_true h10
              have hk := keeps_tight h3 h10
              refine DW.fixY rfl rfl rfl rfl rfl (fun _ EQ => RV.fieldAddr f26_0 rfl) ?_
              refine DW.fixY rfl rfl rfl rfl rfl (fun _ EQ => RV.load1 k3 rfl (((H.grow EQ).blk 0 rfl).cells.off 0) rfl) ?_
              refine DW.fixY rfl rfl rfl rfl rfl (fun _ EQ => RV.lss rfl rfl) ?_
              refine DW.fixY rfl rfl rfl rfl rfl (fun _ EQ => RV.move rfl) ?_
              cases h11 : decide (x.a < 0)
              ·
                have h11 := of_decide_eq_false h11
                refine DW.fixY rfl rfl rfl rfl rfl (fun _ EQ => RV.fieldAddr f26_0 rfl) ?_
                refine DW.fixY rfl rfl rfl rfl rfl (fun _ EQ => RV.load1 k3 rfl (((H.grow EQ).blk 0 rfl).cells.off 0) rfl) ?_
                refine DW.fixY rfl rfl rfl rfl rfl (fun _ EQ => RV.move rfl) ?_
                refine DW.fixY rfl rfl rfl rfl rfl (fun _ EQ => RV.len s43 rfl) ?_
                refine DW.fixY rfl rfl rfl rfl rfl (fun _ EQ => RV.geq rfl rfl) ?_
                refine DW.fixY rfl rfl rfl rfl rfl (fun _ EQ => RV.pickF rfl rfl) ?_
                refine DW.fixY rfl rfl rfl rfl rfl (fun _ EQ => RV.move rfl) ?_
                cases h12 : decide ((((l.length : Nat) : Int)) ≤ x.a)
                ·
                  have h12 := of_decide_eq_false h12
                  refine DW.fixY rfl rfl rfl rfl rfl (fun _ EQ => RV.fieldAddr f26_1 rfl) ?_
                  refine DW.fixY rfl rfl rfl rfl rfl (fun _ EQ => RV.load1 k3 rfl (((H.grow EQ).blk 0 rfl).cells.off 1) rfl) ?_
                  refine DW.fixY rfl rfl rfl rfl rfl (fun _ EQ => RV.lss rfl rfl) ?_
                  refine DW.fixY rfl rfl rfl rfl rfl (fun _ EQ => RV.pickF rfl rfl) ?_
                  refine DW.fixY rfl rfl rfl rfl rfl (fun _ EQ => RV.move rfl) ?_
                  cases h13 : decide (x.b < 0)
                  ·
                    have h13 := of_decide_eq_false h13
                    refine DW.fixY rfl rfl rfl rfl rfl (fun _ EQ => RV.fieldAddr f26_1 rfl) ?_
                    refine DW.fixY rfl rfl rfl rfl rfl (fun _ EQ => RV.load1 k3 rfl (((H.grow EQ).blk 0 rfl).cells.off 1) rfl) ?_
                    refine DW.fixY rfl rfl rfl rfl rfl (fun _ EQ => RV.move rfl) ?_
                    refine DW.fixY rfl rfl rfl rfl rfl (fun _ EQ => RV.len s43 rfl) ?_
                    refine DW.fixY rfl rfl rfl rfl rfl (fun _ EQ => RV.geq rfl rfl) ?_
                    refine DW.fixY rfl rfl rfl rfl rfl (fun _ EQ => RV.pickF rfl rfl) ?_
                    refine DW.fixY rfl rfl rfl rfl rfl (fun _ EQ => RV.move rfl) ?_
                    cases h14 : decide ((((l.length : Nat) : Int)) ≤ x.b)
                    ·
                      have h14 := of_decide_eq_false h14
                      refine DW.fixY rfl rfl rfl rfl rfl (fun _ EQ => RV.move rfl) ?_
                      refine DW.fixY rfl rfl rfl rfl rfl (fun _ EQ => RV.move rfl) ?_
                      cases h15 : (tightest c x.a x.b).2.1
                      ·
                        refine DW.fixN rfl rfl rfl rfl rfl rfl ?_
                        refine DW.fixN rfl rfl rfl rfl rfl rfl ?_
                        refine DW.fixN rfl rfl rfl rfl rfl rfl ?_
                        refine DW.fixN rfl rfl rfl rfl rfl rfl ?_
                        refine DW.fixN rfl rfl rfl rfl rfl rfl ?_
                        refine DW.fixN rfl rfl rfl rfl rfl rfl ?_
                        refine DW.fixN rfl rfl rfl rfl rfl rfl ?_
                        refine DW.fixN rfl rfl rfl rfl rfl rfl ?_
                        refine DW.fixN rfl rfl rfl rfl rfl rfl ?_
                        refine DW.fixN rfl rfl rfl rfl rfl rfl ?_
                        refine DW.fixN rfl rfl rfl rfl rfl rfl ?_
                        refine DW.fixN rfl rfl rfl rfl rfl rfl ?_
                        refine DW.fixN rfl rfl rfl rfl rfl rfl ?_
                        refine DW.fixY rfl rfl rfl rfl rfl (fun _ EQ => RV.pickF rfl rfl) ?_
                        refine DW.fixY rfl rfl rfl rfl rfl (fun _ EQ => RV.pickF rfl rfl) ?_
                        refine DW.fix rfl rfl rfl (fun _ EQ => RV.pickT rfl rfl) ?_
                        refine DW.nil ?_
                        refine ⟨_, ?_, rfl, ?_, ?_⟩
                        · exact ⟨rfl, rfl, trivial⟩
                        · exact H
                        · trivial
                      ·
                        have hk5 := hk.2.2.2.2 h15
                        refine DW.fixY rfl rfl rfl rfl rfl (fun _ EQ => RV.move rfl) ?_
                        refine DW.fixY rfl rfl rfl rfl rfl (fun _ EQ => RV.fieldAddr f26_1 rfl) ?_
                        refine DW.fixY rfl rfl rfl rfl rfl (fun _ EQ => RV.load1 k3 rfl (((H.grow EQ).blk 0 rfl).cells.off 1) rfl) ?_
                        have hb3 : 0 ≤ ((x.b) : Int) ∧ ((x.b) : Int) < ((l.length : Nat) : Int) := by omega
                        obtain ⟨x3, hx3⟩ := ex_at (l := l) (j := Int.toNat x.b) (by first | omega | (simp; omega))
                        have hgx3 := gi_of hx3
                        have hdx3 := hb0 x3 (List.mem_of_getElem? hx3)
                        refine DW.fixY rfl rfl rfl rfl rfl (fun _ EQ => RV.indexAddr s43 rfl rfl hb3 (h_l.addr hb3)) ?_
                        refine DW.fixY rfl rfl rfl rfl rfl (fun _ EQ => RV.load1 k3 rfl ((h_l.at_ hx3).ext (R0.trans EQ)) rfl) ?_
                        refine DW.fixY rfl rfl rfl rfl rfl (fun _ EQ => RV.move rfl) ?_
                        refine DW.fixY rfl rfl rfl rfl rfl (fun _ EQ => RV.fieldAddr f26_0 rfl) ?_
                        refine DW.fixY rfl rfl rfl rfl rfl (fun _ EQ => RV.load1 k3 rfl (((H.grow EQ).blk 0 rfl).cells.off 0) rfl) ?_
                        have hb4 : 0 ≤ ((x.a) : Int) ∧ ((x.a) : Int) < ((l.length : Nat) : Int) := by omega
                        obtain ⟨x4, hx4⟩ := ex_at (l := l) (j := Int.toNat x.a) (by first | omega | (simp; omega))
                        have hgx4 := gi_of hx4
                        have hdx4 := hb0 x4 (List.mem_of_getElem? hx4)
                        refine DW.fixY rfl rfl rfl rfl rfl (fun _ EQ => RV.indexAddr s43 rfl rfl hb4 (h_l.addr hb4)) ?_
                        refine DW.fixY rfl rfl rfl rfl rfl (fun _ EQ => RV.load1 k3 rfl ((h_l.at_ hx4).ext (R0.trans EQ)) rfl) ?_
                        refine DW.fixY rfl rfl rfl rfl rfl (fun _ EQ => RV.sub rfl rfl (by omega)) ?_
                        refine DW.fixY rfl rfl rfl rfl rfl (fun _ EQ => RV.move rfl) ?_
                        refine DW.fixY rfl rfl rfl rfl rfl (fun _ EQ => RV.gtr rfl rfl) ?_
                        refine DW.fixY rfl rfl rfl rfl rfl (fun _ EQ => RV.pickT rfl rfl) ?_
                        refine DW.fixY rfl rfl rfl rfl rfl (fun _ EQ => RV.pickF rfl rfl) ?_
                        refine DW.fix rfl rfl rfl (fun _ EQ => RV.pickT rfl rfl) ?_
                        refine DW.nil ?_
                        refine ⟨_, ?_, rfl, ?_, ?_⟩
                        · exact ⟨rfl, look_bool rfl (by first | rfl | (simp; omega)), trivial⟩
                        · exact H
                        · trivial
                    ·
                      have h14 := of_decide_eq_true h14
                      exfalso; omega
                  ·
                    have h13 := of_decide_eq_true h13
                    exfalso; omega
                ·
                  have h12 := of_decide_eq_true h12
                  exfalso; omega
              ·
                have h11 := of_decide_eq_true h11
                exfalso; omega
          ·
            rintro _ wl2 ⟨rfl, H, hI2⟩
            have R0 := H.ext
            refine CW.cond rfl (fun h => by cases h) (fun _ => ?_)
            refine CW.skip (hK11 _ _ ?_)
            refine CW.seq fun K12 hK12 => ?_
            refine CW.region ?_
            refine LW.go rfl rfl (OW.call c18 rfl (law_known) ?_)
            rintro _ w11 ⟨rfl, E9⟩
            refine ⟨_, rfl, ?_⟩
            replace H := H.grow E9
            replace R0 := H.ext
            refine LW.pure rfl rfl (RV.assign rfl) ?_
            refine LW.nil (hK12 _ _ ?_)
            refine CW.ret ?_
            refine ⟨_, (ResOK.one rfl), ?_⟩
            refine ⟨rfl, R0⟩
  ·
    refine LW.no rfl rfl rfl rfl rfl ?_
    refine LW.no rfl rfl rfl rfl rfl ?_
    refine LW.no rfl rfl rfl rfl rfl ?_
    refine LW.pure rfl rfl (RV.pickT rfl rfl) ?_
    refine LW.nil (hK3 _ _ ?_)
    refine CW.cond rfl (fun _ => ?_) (fun h => by cases h)
    refine CW.seq fun K13 hK13 => ?_
    refine CW.region ?_
    refine LW.go rfl rfl (OW.call c18 rfl (law_known) ?_)
    rintro _ w12 ⟨rfl, E10⟩
    refine ⟨_, rfl, ?_⟩
    replace H := H.grow E10
    replace R0 := H.ext
    refine LW.pure rfl rfl (RV.assign rfl) ?_
    refine LW.nil (hK13 _ _ ?_)
    refine CW.ret ?_
    refine ⟨_, (ResOK.one rfl), ?_⟩
    refine ⟨rfl, R0⟩

end Go.Core
