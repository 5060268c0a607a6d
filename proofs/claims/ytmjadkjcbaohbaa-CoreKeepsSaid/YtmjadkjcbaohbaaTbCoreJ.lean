/- Lemmas and walks that the proof of this claim uses: TbCoreJ. -/
import Derived.Test.YtmjadkjcbaohbaaTbCoreI
import Derived.Test.YtmjadkjcbaohbaaProg
import Derived.KernelRfl
namespace Go.Core
open Go.Tb Go.Proofs
set_option linter.unusedVariables false
set_option linter.unusedSimpArgs false

theorem c25 : callable Try.prog 25 = true := by kernel_rfl
theorem c26 : callable Try.prog 26 = true := by kernel_rfl
theorem c27 : callable Try.prog 27 = true := by kernel_rfl
theorem c28 : callable Try.prog 28 = true := by kernel_rfl
theorem c29 : callable Try.prog 29 = true := by kernel_rfl


set_option maxRecDepth 20000 in
theorem law_CoreMarks {c : Core} {A_c_bounds : Option Addr} {c_c_bounds : Nat} {a : Int} {w : World} (h_c_bounds : Sl w A_c_bounds c_c_bounds 3 (c.bounds.map encB)) : Calls Try.prog 5 #[.agg #[.int .i64 c.layers, .slice A_c_bounds c.bounds.length c_c_bounds], .int .i64 a] w (Ret w (.bool true)) := by
  refine calls_of_cw (args := [.agg #[.int .i64 c.layers, .slice A_c_bounds c.bounds.length c_c_bounds], .int .i64 a]) Try.func5 rfl rfl rfl rfl ?_
  have H := Hp.start w
  have R0 := H.ext
  have hm := math_marks c a
  refine CW.seq fun K1 hK1 => ?_
  refine CW.region ?_
  refine LW.go rfl rfl (OW.box rfl fun b1 w1 N1 => ?_)
  replace H : Hp w w1 [.blk b1 24 [.int .i64 c.layers, .slice A_c_bounds c.bounds.length c_c_bounds]] := H.new N1 N1.blk
  replace R0 := H.ext
  refine LW.pure rfl rfl (RV.assign rfl) ?_
  refine LW.nil (hK1 _ _ ?_)
  refine CW.seq fun K2 hK2 => ?_
  refine CW.seq fun K3 hK3 => ?_
  refine CW.region ?_
  refine LW.pure rfl rfl (RV.loadA [.int .i64 c.layers, .slice A_c_bounds c.bounds.length c_c_bounds] k24 rfl (H.blk 0 rfl).cells rfl rfl) ?_
  refine LW.go rfl rfl (OW.call c17 rfl (law_Long (c := c) (h_c_bounds.ext R0)) ?_)
  rintro _ w2 ⟨rfl, E1⟩
  refine ⟨_, rfl, ?_⟩
  replace H := H.grow E1
  replace R0 := H.ext
  refine LW.nil (hK3 _ _ ?_)
  refine CW.cond rfl (fun h1 => ?_) (fun h1 => ?_)
  ·
    refine CW.seq fun K4 hK4 => ?_
    refine CW.region ?_
    refine LW.go rfl rfl (OW.call c18 rfl (law_known) ?_)
    rintro _ w3 ⟨rfl, E2⟩
    refine ⟨_, rfl, ?_⟩
    replace H := H.grow E2
    replace R0 := H.ext
    refine LW.pure rfl rfl (RV.assign rfl) ?_
    refine LW.nil (hK4 _ _ ?_)
    refine CW.ret ?_
    refine ⟨_, (ResOK.one rfl), ?_⟩
    refine ⟨rfl, R0⟩
  ·
    refine CW.skip (hK2 _ _ ?_)
    refine CW.seq fun K5 hK5 => ?_
    refine CW.region ?_
    refine LW.pure rfl rfl (RV.loadA [.int .i64 c.layers, .slice A_c_bounds c.bounds.length c_c_bounds] k24 rfl (H.blk 0 rfl).cells rfl rfl) ?_
    refine LW.pure rfl rfl (RV.move rfl) ?_
    refine LW.go rfl rfl (OW.call c25 rfl (core_Latest (c := c) (a := a) (h_c_bounds.ext R0)) ?_)
    rintro _ w4 ⟨A3_0, c3_0, rfl, E3⟩
    refine ⟨_, rfl, ?_⟩
    replace H : Hp w w4 [.own A3_0 c3_0 84 2 (List.map encMk (((latest c a).1))), .blk b1 24 [.int .i64 c.layers, .slice A_c_bounds c.bounds.length c_c_bounds]] := H.append E3
    replace R0 := H.ext
    refine LW.pure rfl rfl (RV.move rfl) ?_
    refine LW.pure rfl rfl (RV.extract rfl rfl) ?_
    refine LW.pure rfl rfl (RV.extract rfl rfl) ?_
    refine LW.pure rfl rfl (RV.assign rfl) ?_
    refine LW.pure rfl rfl (RV.assign rfl) ?_
    refine LW.nil (hK5 _ _ ?_)
    refine CW.seq fun K6 hK6 => ?_
    refine CW.region ?_
    refine LW.pure rfl rfl (RV.loadA [.int .i64 c.layers, .slice A_c_bounds c.bounds.length c_c_bounds] k24 rfl (H.blk 1 rfl).cells rfl rfl) ?_
    refine LW.pure rfl rfl (RV.move rfl) ?_
    refine LW.go rfl rfl (OW.call c26 rfl (ref_Latest (c := c) (a := a) (h_c_bounds.ext R0)) ?_)
    rintro _ w5 ⟨A4_0, c4_0, rfl, E4⟩
    refine ⟨_, rfl, ?_⟩
    replace H : Hp w w5 [.own A4_0 c4_0 84 2 (List.map encMk (((rlatest c a).1))), .own A3_0 c3_0 84 2 (List.map encMk (((latest c a).1))), .blk b1 24 [.int .i64 c.layers, .slice A_c_bounds c.bounds.length c_c_bounds]] := H.append E4
    replace R0 := H.ext
    refine LW.pure rfl rfl (RV.move rfl) ?_
    refine LW.pure rfl rfl (RV.extract rfl rfl) ?_
    refine LW.pure rfl rfl (RV.extract rfl rfl) ?_
    refine LW.pure rfl rfl (RV.assign rfl) ?_
    refine LW.pure rfl rfl (RV.assign rfl) ?_
    refine LW.nil (hK6 _ _ ?_)
    refine CW.seq fun K7 hK7 => ?_
    refine CW.region ?_
    refine LW.pure rfl rfl (RV.loadA [.int .i64 c.layers, .slice A_c_bounds c.bounds.length c_c_bounds] k24 rfl (H.blk 2 rfl).cells rfl rfl) ?_
    refine LW.pure rfl rfl (RV.move rfl) ?_
    refine LW.go rfl rfl (OW.call c27 rfl (core_Earliest (c := c) (a := a) (h_c_bounds.ext R0)) ?_)
    rintro _ w6 ⟨A5_0, c5_0, rfl, E5⟩
    refine ⟨_, rfl, ?_⟩
    replace H : Hp w w6 [.own A5_0 c5_0 84 2 (List.map encMk (((earliest c a).1))), .own A4_0 c4_0 84 2 (List.map encMk (((rlatest c a).1))), .own A3_0 c3_0 84 2 (List.map encMk (((latest c a).1))), .blk b1 24 [.int .i64 c.layers, .slice A_c_bounds c.bounds.length c_c_bounds]] := H.append E5
    replace R0 := H.ext
    refine LW.pure rfl rfl (RV.move rfl) ?_
    refine LW.pure rfl rfl (RV.extract rfl rfl) ?_
    refine LW.pure rfl rfl (RV.extract rfl rfl) ?_
    refine LW.pure rfl rfl (RV.assign rfl) ?_
    refine LW.pure rfl rfl (RV.assign rfl) ?_
    refine LW.nil (hK7 _ _ ?_)
    refine CW.seq fun K8 hK8 => ?_
    refine CW.region ?_
    refine LW.pure rfl rfl (RV.loadA [.int .i64 c.layers, .slice A_c_bounds c.bounds.length c_c_bounds] k24 rfl (H.blk 3 rfl).cells rfl rfl) ?_
    refine LW.pure rfl rfl (RV.move rfl) ?_
    refine LW.go rfl rfl (OW.call c28 rfl (ref_Earliest (c := c) (a := a) (h_c_bounds.ext R0)) ?_)
    rintro _ w7 ⟨A6_0, c6_0, rfl, E6⟩
    refine ⟨_, rfl, ?_⟩
    replace H : Hp w w7 [.own A6_0 c6_0 84 2 (List.map encMk (((rearliest c a).1))), .own A5_0 c5_0 84 2 (List.map encMk (((earliest c a).1))), .own A4_0 c4_0 84 2 (List.map encMk (((rlatest c a).1))), .own A3_0 c3_0 84 2 (List.map encMk (((latest c a).1))), .blk b1 24 [.int .i64 c.layers, .slice A_c_bounds c.bounds.length c_c_bounds]] := H.append E6
    replace R0 := H.ext
    refine LW.pure rfl rfl (RV.move rfl) ?_
    refine LW.pure rfl rfl (RV.extract rfl rfl) ?_
    refine LW.pure rfl rfl (RV.extract rfl rfl) ?_
    refine LW.pure rfl rfl (RV.assign rfl) ?_
    refine LW.pure rfl rfl (RV.assign rfl) ?_
    refine LW.nil (hK8 _ _ ?_)
    refine CW.seq fun K9 hK9 => ?_
    refine CW.region ?_
    refine LW.pure rfl rfl (RV.move rfl) ?_
    refine LW.pure rfl rfl (RV.move rfl) ?_
    refine LW.go rfl rfl (OW.call c29 rfl (law_sameMarks (l := ((latest c a).1)) (r := ((rlatest c a).1)) (H.own 3 rfl).sl (H.own 2 rfl).sl (by rw [hm.1])) ?_)
    rintro _ w8 ⟨rfl, E7⟩
    refine ⟨_, rfl, ?_⟩
    replace H := H.grow E7
    replace R0 := H.ext
    refine LW.pure rfl rfl (RV.move rfl) ?_
    refine LW.pureY rfl rfl rfl rfl (RV.move rfl) ?_
    refine LW.pureY rfl rfl rfl rfl (RV.move rfl) ?_
    refine LW.pureY rfl rfl rfl rfl (RV.eqi rfl rfl) ?_
    refine LW.pure rfl rfl (RV.pickT rfl rfl) ?_
    refine LW.pure rfl rfl (RV.move rfl) ?_
    cases h2 : decide (((latest c a).2) = ((rlatest c a).2))
    ·
      have h2 := of_decide_eq_false h2
      exfalso; simp [hm.1, hm.2] at h2
    ·
      have h2 := of_decide_eq_true h2
      refine LW.pureY rfl rfl rfl rfl (RV.move rfl) ?_
      refine LW.pureY rfl rfl rfl rfl (RV.move rfl) ?_
      refine LW.yes rfl rfl rfl rfl (OW.call c29 rfl (law_sameMarks (l := ((earliest c a).1)) (r := ((rearliest c a).1)) (H.own 1 rfl).sl (H.own 0 rfl).sl (by rw [hm.2])) ?_)
      rintro _ w9 ⟨rfl, E8⟩
      refine ⟨_, rfl, ?_⟩
      replace H := H.grow E8
      replace R0 := H.ext
      refine LW.pure rfl rfl (RV.pickT rfl rfl) ?_
      refine LW.pure rfl rfl (RV.move rfl) ?_
      refine LW.pureY rfl rfl rfl rfl (RV.move rfl) ?_
      refine LW.pureY rfl rfl rfl rfl (RV.move rfl) ?_
      refine LW.pureY rfl rfl rfl rfl (RV.eqi rfl rfl) ?_
      refine LW.pure rfl rfl (RV.pickT rfl rfl) ?_
      refine LW.pure rfl rfl (RV.move rfl) ?_
      cases h3 : decide (((earliest c a).2) = ((rearliest c a).2))
      ·
        have h3 := of_decide_eq_false h3
        exfalso; simp [hm.1, hm.2] at h3
      ·
        have h3 := of_decide_eq_true h3
        refine LW.yes rfl rfl rfl rfl (OW.call c18 rfl (law_known) ?_)
        rintro _ w10 ⟨rfl, E9⟩
        refine ⟨_, rfl, ?_⟩
        replace H := H.grow E9
        replace R0 := H.ext
        refine LW.pure rfl rfl (RV.pickT rfl rfl) ?_
        refine LW.pure rfl rfl (RV.assign rfl) ?_
        refine LW.nil (hK9 _ _ ?_)
        refine CW.ret ?_
        refine ⟨_, (ResOK.one rfl), ?_⟩
        refine ⟨rfl, R0⟩

end Go.Core
