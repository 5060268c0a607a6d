/- Lemmas and walks that the proof of this claim uses: TbCoreG. -/
import Derived.Test.YtmjadkjcbaohbaaTbCoreF
import Derived.Test.YtmjadkjcbaohbaaTbCoreEq
import Derived.Test.YtmjadkjcbaohbaaProg
import Derived.KernelRfl
namespace Go.Core
open Go.Tb Go.Proofs
set_option linter.unusedVariables false
set_option linter.unusedSimpArgs false

theorem b4 : Try.prog.underlying 4 = some .bool := by kernel_rfl
theorem c17 : callable Try.prog 17 = true := by kernel_rfl
theorem c18 : callable Try.prog 18 = true := by kernel_rfl
theorem c19 : callable Try.prog 19 = true := by kernel_rfl
theorem c20 : callable Try.prog 20 = true := by kernel_rfl
theorem c21 : callable Try.prog 21 = true := by kernel_rfl
theorem c23 : callable Try.prog 23 = true := by kernel_rfl
theorem c24 : callable Try.prog 24 = true := by kernel_rfl
theorem f34_0 : tyF Try.prog 34 0 = some 0 := by kernel_rfl
theorem f34_1 : tyF Try.prog 34 1 = some 1 := by kernel_rfl
theorem z24 : tyZ Try.prog 24 = some (.agg #[.int .i64 0, .slice none 0 0]) := by kernel_rfl


set_option maxRecDepth 20000 in
theorem law_known  {w : World}  : Calls Try.prog 18 #[] w (Ret w (.bool true)) := by
  refine calls_of_cw (args := []) Try.func18 rfl rfl rfl rfl ?_
  have H := Hp.start w
  have R0 := H.ext
  refine CW.seq fun K1 hK1 => ?_
  refine CW.region ?_
  refine LW.pure rfl rfl (RV.assign rfl) ?_
  refine LW.nil (hK1 _ _ ?_)
  refine CW.seq fun K2 hK2 => ?_
  refine CW.region ?_
  refine LW.pure rfl rfl (RV.build (vs := [.int .i64 0, .int .i64 1, .int .i64 10]) (cs := [.int .i64 0, .int .i64 1, .int .i64 10]) rfl (fun _ => by kernel_rfl)) ?_
  refine LW.pure rfl rfl (RV.build (vs := [.int .i64 1, .int .i64 2, .int .i64 5]) (cs := [.int .i64 1, .int .i64 2, .int .i64 5]) rfl (fun _ => by kernel_rfl)) ?_
  refine LW.pure rfl rfl (RV.build (vs := [.int .i64 0, .int .i64 2, .int .i64 20]) (cs := [.int .i64 0, .int .i64 2, .int .i64 20]) rfl (fun _ => by kernel_rfl)) ?_
  refine LW.go rfl rfl (OW.buildSlice (e := 26) (vs := [.agg #[.int .i64 0, .int .i64 1, .int .i64 10], .agg #[.int .i64 1, .int .i64 2, .int .i64 5], .agg #[.int .i64 0, .int .i64 2, .int .i64 20]]) (cs := [.int .i64 0, .int .i64 1, .int .i64 10, .int .i64 1, .int .i64 2, .int .i64 5, .int .i64 0, .int .i64 2, .int .i64 20]) rfl (fun _ => by kernel_rfl) fun b1 w1 N1 => ?_)
  replace H : Hp w w1 [.own (some ⟨b1, 0, none⟩) 3 26 3 (List.map encB (([(⟨0, 1, 10⟩ : Bound), (⟨1, 2, 5⟩ : Bound), (⟨0, 2, 20⟩ : Bound)] : List Bound)))] := H.made' (enc := encB) (l := ([(⟨0, 1, 10⟩ : Bound), (⟨1, 2, 5⟩ : Bound), (⟨0, 2, 20⟩ : Bound)] : List Bound)) N1 N1.blk (fun _ => rfl) (by simp) (by first | decide | omega | simp)
  replace R0 := H.ext
  refine LW.pure rfl rfl (RV.build (vs := [.int .i64 3, .slice (some ⟨b1, 0, none⟩) 3 3]) (cs := [.int .i64 3, .slice (some ⟨b1, 0, none⟩) 3 3]) rfl (fun _ => by kernel_rfl)) ?_
  refine LW.go rfl rfl (OW.alloc z24 fun b2 w2 N2 => ?_)
  replace H : Hp w w2 [.blk b2 24 [.int .i64 0, .slice none 0 0], .own (some ⟨b1, 0, none⟩) 3 26 3 (List.map encB (([(⟨0, 1, 10⟩ : Bound), (⟨1, 2, 5⟩ : Bound), (⟨0, 2, 20⟩ : Bound)] : List Bound)))] := H.new N2 N2.blk
  replace R0 := H.ext
  refine LW.go rfl rfl (OW.store k24 rfl rfl (H.blk 0 rfl) (off := 0) (vs := [.int .i64 3, .slice (some ⟨b1, 0, none⟩) 3 3]) rfl rfl rfl rfl rfl fun w3 S1 => ?_)
  replace H : Hp w w3 [.blk b2 24 [.int .i64 3, .slice (some ⟨b1, 0, none⟩) 3 3], .own (some ⟨b1, 0, none⟩) 3 26 3 (List.map encB (([(⟨0, 1, 10⟩ : Bound), (⟨1, 2, 5⟩ : Bound), (⟨0, 2, 20⟩ : Bound)] : List Bound)))] := H.stored 0 rfl S1
  replace R0 := H.ext
  refine LW.nil (hK2 _ _ ?_)
  refine CW.seq fun K3 hK3 => ?_
  refine CW.region ?_
  refine LW.pure rfl rfl (RV.loadA [.int .i64 3, .slice (some ⟨b1, 0, none⟩) 3 3] k24 rfl (H.blk 0 rfl).cells rfl rfl) ?_
  refine LW.go rfl rfl (OW.call c21 rfl (core_Tightest (c := (⟨3, ([(⟨0, 1, 10⟩ : Bound), (⟨1, 2, 5⟩ : Bound), (⟨0, 2, 20⟩ : Bound)] : List Bound)⟩ : Core)) (a := 0) (b := 2) (H.own 1 rfl).sl) ?_)
  rintro _ w4 ⟨rfl, E1⟩
  refine ⟨_, rfl, ?_⟩
  replace H := H.grow E1
  replace R0 := H.ext
  refine LW.pure rfl rfl (RV.move rfl) ?_
  refine LW.pure rfl rfl (RV.extract rfl rfl) ?_
  refine LW.pure rfl rfl (RV.extract rfl rfl) ?_
  refine LW.pure rfl rfl (RV.extract rfl rfl) ?_
  refine LW.pure rfl rfl (RV.assign rfl) ?_
  refine LW.pure rfl rfl (RV.assign rfl) ?_
  refine LW.pure rfl rfl (RV.assign rfl) ?_
  refine LW.nil (hK3 _ _ ?_)
  refine CW.seq fun K4 hK4 => ?_
  refine CW.region ?_
  refine LW.pure rfl rfl (RV.move rfl) ?_
  refine LW.pure rfl rfl (RV.eqi rfl rfl) ?_
  refine LW.pure rfl rfl (RV.move rfl) ?_
  cases h1 : decide (((tightest ((⟨3, ([(⟨0, 1, 10⟩ : Bound), (⟨1, 2, 5⟩ : Bound), (⟨0, 2, 20⟩ : Bound)] : List Bound)⟩ : Core)) 0 2).2.2) = 0)
  ·
    have h1 := of_decide_eq_false h1
    exfalso; exact h1 (by decide +kernel)
  ·
    have h1 := of_decide_eq_true h1
    refine LW.pureY rfl rfl rfl rfl (RV.move rfl) ?_
    refine LW.pure rfl rfl (RV.pickT rfl rfl) ?_
    refine LW.pure rfl rfl (RV.move rfl) ?_
    cases h2 : (tightest ((⟨3, ([(⟨0, 1, 10⟩ : Bound), (⟨1, 2, 5⟩ : Bound), (⟨0, 2, 20⟩ : Bound)] : List Bound)⟩ : Core)) 0 2).2.1
    ·
      exfalso; exact absurd h2 (by decide +kernel)
    ·
      refine LW.pureY rfl rfl rfl rfl (RV.move rfl) ?_
      refine LW.pureY rfl rfl rfl rfl (RV.eqi rfl rfl) ?_
      refine LW.pure rfl rfl (RV.pickT rfl rfl) ?_
      refine LW.pure rfl rfl (RV.assign rfl) ?_
      refine LW.nil (hK4 _ _ ?_)
      refine CW.ret ?_
      refine ⟨_, (ResOK.one rfl), ?_⟩
      refine ⟨?_, R0⟩
      · first | rfl | (simp; decide +kernel)

set_option maxRecDepth 20000 in
theorem law_CoreFollows {c : Core} {A_c_bounds : Option Addr} {c_c_bounds : Nat} {x : Bound} {w : World} (h_c_bounds : Sl w A_c_bounds c_c_bounds 3 (c.bounds.map encB)) : Calls Try.prog 3 #[.agg #[.int .i64 c.layers, .slice A_c_bounds c.bounds.length c_c_bounds], .agg #[.int .i64 x.a, .int .i64 x.b, .int .i64 x.most]] w (Ret w (.bool true)) := by
  refine calls_of_cw (args := [.agg #[.int .i64 c.layers, .slice A_c_bounds c.bounds.length c_c_bounds], .agg #[.int .i64 x.a, .int .i64 x.b, .int .i64 x.most]]) Try.func3 rfl rfl rfl rfl ?_
  have H := Hp.start w
  have R0 := H.ext
  have hm := math_follows c x
  refine CW.seq fun K1 hK1 => ?_
  refine CW.region ?_
  refine LW.go rfl rfl (OW.box rfl fun b1 w1 N1 => ?_)
  replace H : Hp w w1 [.blk b1 24 [.int .i64 c.layers, .slice A_c_bounds c.bounds.length c_c_bounds]] := H.new N1 N1.blk
  replace R0 := H.ext
  refine LW.go rfl rfl (OW.box rfl fun b2 w2 N2 => ?_)
  replace H : Hp w w2 [.blk b2 26 [.int .i64 x.a, .int .i64 x.b, .int .i64 x.most], .blk b1 24 [.int .i64 c.layers, .slice A_c_bounds c.bounds.length c_c_bounds]] := H.new N2 N2.blk
  replace R0 := H.ext
  refine LW.pure rfl rfl (RV.assign rfl) ?_
  refine LW.nil (hK1 _ _ ?_)
  refine CW.seq fun K2 hK2 => ?_
  refine CW.seq fun K3 hK3 => ?_
  refine CW.region ?_
  refine LW.pure rfl rfl (RV.loadA [.int .i64 c.layers, .slice A_c_bounds c.bounds.length c_c_bounds] k24 rfl (H.blk 1 rfl).cells rfl rfl) ?_
  refine LW.go rfl rfl (OW.call c17 rfl (law_Long (c := c) (h_c_bounds.ext R0)) ?_)
  rintro _ w3 ⟨rfl, E1⟩
  refine ⟨_, rfl, ?_⟩
  replace H := H.grow E1
  replace R0 := H.ext
  refine LW.nil (hK3 _ _ ?_)
  refine CW.cond rfl (fun h1 => ?_) (fun h1 => ?_)
  ·
    refine CW.seq fun K4 hK4 => ?_
    refine CW.region ?_
    refine LW.go rfl rfl (OW.call c18 rfl (law_known) ?_)
    rintro _ w4 ⟨rfl, E2⟩
    refine ⟨_, rfl, ?_⟩
    replace H := H.grow E2
    replace R0 := H.ext
    refine LW.pure rfl rfl (RV.assign rfl) ?_
    refine LW.nil (hK4 _ _ ?_)
    refine CW.ret ?_
    refine ⟨_, (ResOK.one rfl), ?_⟩
    refine ⟨rfl, R0⟩
  ·
    refine CW.skip (hK2 _ _ ?_)
    refine CW.seq fun K5 hK5 => ?_
    refine CW.region ?_
    refine LW.pure rfl rfl (RV.loadA [.int .i64 c.layers, .slice A_c_bounds c.bounds.length c_c_bounds] k24 rfl (H.blk 1 rfl).cells rfl rfl) ?_
    refine LW.pure rfl rfl (RV.loadA [.int .i64 x.a, .int .i64 x.b, .int .i64 x.most] k26 rfl (H.blk 0 rfl).cells rfl rfl) ?_
    refine LW.go rfl rfl (OW.call c19 rfl (core_Follows (c := c) (x := x) (h_c_bounds.ext R0)) ?_)
    rintro _ w5 ⟨rfl, E3⟩
    refine ⟨_, rfl, ?_⟩
    replace H := H.grow E3
    replace R0 := H.ext
    refine LW.pure rfl rfl (RV.move rfl) ?_
    refine LW.pure rfl rfl (RV.extract rfl rfl) ?_
    refine LW.pure rfl rfl (RV.extract rfl rfl) ?_
    refine LW.pure rfl rfl (RV.assign rfl) ?_
    refine LW.pure rfl rfl (RV.assign rfl) ?_
    refine LW.nil (hK5 _ _ ?_)
    refine CW.seq fun K6 hK6 => ?_
    refine CW.region ?_
    refine LW.pure rfl rfl (RV.loadA [.int .i64 c.layers, .slice A_c_bounds c.bounds.length c_c_bounds] k24 rfl (H.blk 1 rfl).cells rfl rfl) ?_
    refine LW.pure rfl rfl (RV.loadA [.int .i64 x.a, .int .i64 x.b, .int .i64 x.most] k26 rfl (H.blk 0 rfl).cells rfl rfl) ?_
    refine LW.go rfl rfl (OW.call c20 rfl (ref_Follows (c := c) (x := x) (h_c_bounds.ext R0)) ?_)
    rintro _ w6 ⟨rfl, E4⟩
    refine ⟨_, rfl, ?_⟩
    replace H := H.grow E4
    replace R0 := H.ext
    refine LW.pure rfl rfl (RV.move rfl) ?_
    refine LW.pure rfl rfl (RV.extract rfl rfl) ?_
    refine LW.pure rfl rfl (RV.extract rfl rfl) ?_
    refine LW.pure rfl rfl (RV.assign rfl) ?_
    refine LW.pure rfl rfl (RV.assign rfl) ?_
    refine LW.nil (hK6 _ _ ?_)
    refine CW.seq fun K7 hK7 => ?_
    refine CW.region ?_
    refine LW.pure rfl rfl (RV.move rfl) ?_
    refine LW.pure rfl rfl (RV.move rfl) ?_
    refine LW.pure rfl rfl (RV.eqb b4 rfl rfl) ?_
    refine LW.pure rfl rfl (RV.move rfl) ?_
    cases h2 : ((follows c x).1) == ((rfollows c x).1)
    ·
      exfalso; simp [hm] at h2
    ·
      refine LW.pureY rfl rfl rfl rfl (RV.move rfl) ?_
      refine LW.pureY rfl rfl rfl rfl (RV.move rfl) ?_
      refine LW.pureY rfl rfl rfl rfl (RV.eqi rfl rfl) ?_
      refine LW.pure rfl rfl (RV.pickT rfl rfl) ?_
      refine LW.pure rfl rfl (RV.move rfl) ?_
      cases h3 : decide (((follows c x).2) = ((rfollows c x).2))
      ·
        have h3 := of_decide_eq_false h3
        exfalso; simp [hm] at h3
      ·
        have h3 := of_decide_eq_true h3
        refine LW.yes rfl rfl rfl rfl (OW.call c18 rfl (law_known) ?_)
        rintro _ w7 ⟨rfl, E5⟩
        refine ⟨_, rfl, ?_⟩
        replace H := H.grow E5
        replace R0 := H.ext
        refine LW.pure rfl rfl (RV.pickT rfl rfl) ?_
        refine LW.pure rfl rfl (RV.assign rfl) ?_
        refine LW.nil (hK7 _ _ ?_)
        refine CW.ret ?_
        refine ⟨_, (ResOK.one rfl), ?_⟩
        refine ⟨rfl, R0⟩

set_option maxRecDepth 20000 in
theorem law_CoreTightest {c : Core} {A_c_bounds : Option Addr} {c_c_bounds : Nat} {x : Two} {w : World} (h_c_bounds : Sl w A_c_bounds c_c_bounds 3 (c.bounds.map encB)) : Calls Try.prog 4 #[.agg #[.int .i64 c.layers, .slice A_c_bounds c.bounds.length c_c_bounds], .agg #[.int .i64 x.a, .int .i64 x.b]] w (Ret w (.bool true)) := by
  refine calls_of_cw (args := [.agg #[.int .i64 c.layers, .slice A_c_bounds c.bounds.length c_c_bounds], .agg #[.int .i64 x.a, .int .i64 x.b]]) Try.func4 rfl rfl rfl rfl ?_
  have H := Hp.start w
  have R0 := H.ext
  have hm := math_tightest c x.a x.b
  have hn := math_fixed c x.a x.b
  refine CW.seq fun K1 hK1 => ?_
  refine CW.region ?_
  refine LW.go rfl rfl (OW.box rfl fun b1 w1 N1 => ?_)
  replace H : Hp w w1 [.blk b1 24 [.int .i64 c.layers, .slice A_c_bounds c.bounds.length c_c_bounds]] := H.new N1 N1.blk
  replace R0 := H.ext
  refine LW.go rfl rfl (OW.box rfl fun b2 w2 N2 => ?_)
  replace H : Hp w w2 [.blk b2 34 [.int .i64 x.a, .int .i64 x.b], .blk b1 24 [.int .i64 c.layers, .slice A_c_bounds c.bounds.length c_c_bounds]] := H.new N2 N2.blk
  replace R0 := H.ext
  refine LW.pure rfl rfl (RV.assign rfl) ?_
  refine LW.nil (hK1 _ _ ?_)
  refine CW.seq fun K2 hK2 => ?_
  refine CW.seq fun K3 hK3 => ?_
  refine CW.region ?_
  refine LW.pure rfl rfl (RV.loadA [.int .i64 c.layers, .slice A_c_bounds c.bounds.length c_c_bounds] k24 rfl (H.blk 1 rfl).cells rfl rfl) ?_
  refine LW.go rfl rfl (OW.call c17 rfl (law_Long (c := c) (h_c_bounds.ext R0)) ?_)
  rintro _ w3 ⟨rfl, E1⟩
  refine ⟨_, rfl, ?_⟩
  replace H := H.grow E1
  replace R0 := H.ext
  refine LW.nil (hK3 _ _ ?_)
  refine CW.cond rfl (fun h1 => ?_) (fun h1 => ?_)
  ·
    refine CW.seq fun K4 hK4 => ?_
    refine CW.region ?_
    refine LW.go rfl rfl (OW.call c18 rfl (law_known) ?_)
    rintro _ w4 ⟨rfl, E2⟩
    refine ⟨_, rfl, ?_⟩
    replace H := H.grow E2
    replace R0 := H.ext
    refine LW.pure rfl rfl (RV.assign rfl) ?_
    refine LW.nil (hK4 _ _ ?_)
    refine CW.ret ?_
    refine ⟨_, (ResOK.one rfl), ?_⟩
    refine ⟨rfl, R0⟩
  ·
    refine CW.skip (hK2 _ _ ?_)
    refine CW.seq fun K5 hK5 => ?_
    refine CW.region ?_
    refine LW.pure rfl rfl (RV.loadA [.int .i64 c.layers, .slice A_c_bounds c.bounds.length c_c_bounds] k24 rfl (H.blk 1 rfl).cells rfl rfl) ?_
    refine LW.pure rfl rfl (RV.fieldAddr f34_0 rfl) ?_
    refine LW.pure rfl rfl (RV.load1 k3 rfl ((H.blk 0 rfl).cells.off 0) rfl) ?_
    refine LW.pure rfl rfl (RV.fieldAddr f34_1 rfl) ?_
    refine LW.pure rfl rfl (RV.load1 k3 rfl ((H.blk 0 rfl).cells.off 1) rfl) ?_
    refine LW.go rfl rfl (OW.call c21 rfl (core_Tightest (c := c) (a := x.a) (b := x.b) (h_c_bounds.ext R0)) ?_)
    rintro _ w5 ⟨rfl, E3⟩
    refine ⟨_, rfl, ?_⟩
    replace H := H.grow E3
    replace R0 := H.ext
    refine LW.pure rfl rfl (RV.move rfl) ?_
    refine LW.pure rfl rfl (RV.extract rfl rfl) ?_
    refine LW.pure rfl rfl (RV.extract rfl rfl) ?_
    refine LW.pure rfl rfl (RV.extract rfl rfl) ?_
    refine LW.pure rfl rfl (RV.assign rfl) ?_
    refine LW.pure rfl rfl (RV.assign rfl) ?_
    refine LW.pure rfl rfl (RV.assign rfl) ?_
    refine LW.nil (hK5 _ _ ?_)
    refine CW.seq fun K6 hK6 => ?_
    refine CW.region ?_
    refine LW.pure rfl rfl (RV.loadA [.int .i64 c.layers, .slice A_c_bounds c.bounds.length c_c_bounds] k24 rfl (H.blk 1 rfl).cells rfl rfl) ?_
    refine LW.pure rfl rfl (RV.fieldAddr f34_0 rfl) ?_
    refine LW.pure rfl rfl (RV.load1 k3 rfl ((H.blk 0 rfl).cells.off 0) rfl) ?_
    refine LW.pure rfl rfl (RV.fieldAddr f34_1 rfl) ?_
    refine LW.pure rfl rfl (RV.load1 k3 rfl ((H.blk 0 rfl).cells.off 1) rfl) ?_
    refine LW.go rfl rfl (OW.call c22 rfl (ref_Tightest (c := c) (a := x.a) (b := x.b) (h_c_bounds.ext R0)) ?_)
    rintro _ w6 ⟨rfl, E4⟩
    refine ⟨_, rfl, ?_⟩
    replace H := H.grow E4
    replace R0 := H.ext
    refine LW.pure rfl rfl (RV.move rfl) ?_
    refine LW.pure rfl rfl (RV.extract rfl rfl) ?_
    refine LW.pure rfl rfl (RV.extract rfl rfl) ?_
    refine LW.pure rfl rfl (RV.extract rfl rfl) ?_
    refine LW.pure rfl rfl (RV.assign rfl) ?_
    refine LW.pure rfl rfl (RV.assign rfl) ?_
    refine LW.pure rfl rfl (RV.assign rfl) ?_
    refine LW.nil (hK6 _ _ ?_)
    refine CW.seq fun K7 hK7 => ?_
    refine CW.region ?_
    refine LW.pure rfl rfl (RV.loadA [.int .i64 c.layers, .slice A_c_bounds c.bounds.length c_c_bounds] k24 rfl (H.blk 1 rfl).cells rfl rfl) ?_
    refine LW.pure rfl rfl (RV.fieldAddr f34_0 rfl) ?_
    refine LW.pure rfl rfl (RV.load1 k3 rfl ((H.blk 0 rfl).cells.off 0) rfl) ?_
    refine LW.pure rfl rfl (RV.fieldAddr f34_1 rfl) ?_
    refine LW.pure rfl rfl (RV.load1 k3 rfl ((H.blk 0 rfl).cells.off 1) rfl) ?_
    refine LW.go rfl rfl (OW.call c23 rfl (core_Fixed (c := c) (a := x.a) (b := x.b) (h_c_bounds.ext R0)) ?_)
    rintro _ w7 ⟨rfl, E5⟩
    refine ⟨_, rfl, ?_⟩
    replace H := H.grow E5
    replace R0 := H.ext
    refine LW.pure rfl rfl (RV.move rfl) ?_
    refine LW.pure rfl rfl (RV.extract rfl rfl) ?_
    refine LW.pure rfl rfl (RV.extract rfl rfl) ?_
    refine LW.pure rfl rfl (RV.extract rfl rfl) ?_
    refine LW.pure rfl rfl (RV.assign rfl) ?_
    refine LW.pure rfl rfl (RV.assign rfl) ?_
    refine LW.pure rfl rfl (RV.assign rfl) ?_
    refine LW.nil (hK7 _ _ ?_)
    refine CW.seq fun K8 hK8 => ?_
    refine CW.region ?_
    refine LW.pure rfl rfl (RV.loadA [.int .i64 c.layers, .slice A_c_bounds c.bounds.length c_c_bounds] k24 rfl (H.blk 1 rfl).cells rfl rfl) ?_
    refine LW.pure rfl rfl (RV.fieldAddr f34_0 rfl) ?_
    refine LW.pure rfl rfl (RV.load1 k3 rfl ((H.blk 0 rfl).cells.off 0) rfl) ?_
    refine LW.pure rfl rfl (RV.fieldAddr f34_1 rfl) ?_
    refine LW.pure rfl rfl (RV.load1 k3 rfl ((H.blk 0 rfl).cells.off 1) rfl) ?_
    refine LW.go rfl rfl (OW.call c24 rfl (ref_Fixed (c := c) (a := x.a) (b := x.b) (h_c_bounds.ext R0)) ?_)
    rintro _ w8 ⟨rfl, E6⟩
    refine ⟨_, rfl, ?_⟩
    replace H := H.grow E6
    replace R0 := H.ext
    refine LW.pure rfl rfl (RV.move rfl) ?_
    refine LW.pure rfl rfl (RV.extract rfl rfl) ?_
    refine LW.pure rfl rfl (RV.extract rfl rfl) ?_
    refine LW.pure rfl rfl (RV.extract rfl rfl) ?_
    refine LW.pure rfl rfl (RV.assign rfl) ?_
    refine LW.pure rfl rfl (RV.assign rfl) ?_
    refine LW.pure rfl rfl (RV.assign rfl) ?_
    refine LW.nil (hK8 _ _ ?_)
    refine CW.seq fun K9 hK9 => ?_
    refine CW.region ?_
    refine LW.pure rfl rfl (RV.move rfl) ?_
    refine LW.pure rfl rfl (RV.move rfl) ?_
    refine LW.pure rfl rfl (RV.eqi rfl rfl) ?_
    refine LW.pure rfl rfl (RV.move rfl) ?_
    cases h2 : decide (((tightest c x.a x.b).1) = ((rtightest c x.a x.b).1))
    ·
      have h2 := of_decide_eq_false h2
      exfalso; simp [hm, hn] at h2
    ·
      have h2 := of_decide_eq_true h2
      refine LW.pureY rfl rfl rfl rfl (RV.move rfl) ?_
      refine LW.pureY rfl rfl rfl rfl (RV.move rfl) ?_
      refine LW.pureY rfl rfl rfl rfl (RV.eqb b4 rfl rfl) ?_
      refine LW.pure rfl rfl (RV.pickT rfl rfl) ?_
      refine LW.pure rfl rfl (RV.move rfl) ?_
      cases h3 : ((tightest c x.a x.b).2.1) == ((rtightest c x.a x.b).2.1)
      ·
        exfalso; simp [hm, hn] at h3
      ·
        refine LW.pureY rfl rfl rfl rfl (RV.move rfl) ?_
        refine LW.pureY rfl rfl rfl rfl (RV.move rfl) ?_
        refine LW.pureY rfl rfl rfl rfl (RV.eqi rfl rfl) ?_
        refine LW.pure rfl rfl (RV.pickT rfl rfl) ?_
        refine LW.pure rfl rfl (RV.move rfl) ?_
        cases h4 : decide (((tightest c x.a x.b).2.2) = ((rtightest c x.a x.b).2.2))
        ·
          have h4 := of_decide_eq_false h4
          exfalso; simp [hm, hn] at h4
        ·
          have h4 := of_decide_eq_true h4
          refine LW.pureY rfl rfl rfl rfl (RV.move rfl) ?_
          refine LW.pureY rfl rfl rfl rfl (RV.move rfl) ?_
          refine LW.pureY rfl rfl rfl rfl (RV.eqi rfl rfl) ?_
          refine LW.pure rfl rfl (RV.pickT rfl rfl) ?_
          refine LW.pure rfl rfl (RV.move rfl) ?_
          cases h5 : decide (((fixed c x.a x.b).1) = ((rfixed c x.a x.b).1))
          ·
            have h5 := of_decide_eq_false h5
            exfalso; simp [hm, hn] at h5
          ·
            have h5 := of_decide_eq_true h5
            refine LW.pureY rfl rfl rfl rfl (RV.move rfl) ?_
            refine LW.pureY rfl rfl rfl rfl (RV.move rfl) ?_
            refine LW.pureY rfl rfl rfl rfl (RV.eqb b4 rfl rfl) ?_
            refine LW.pure rfl rfl (RV.pickT rfl rfl) ?_
            refine LW.pure rfl rfl (RV.move rfl) ?_
            cases h6 : ((fixed c x.a x.b).2.1) == ((rfixed c x.a x.b).2.1)
            ·
              exfalso; simp [hm, hn] at h6
            ·
              refine LW.pureY rfl rfl rfl rfl (RV.move rfl) ?_
              refine LW.pureY rfl rfl rfl rfl (RV.move rfl) ?_
              refine LW.pureY rfl rfl rfl rfl (RV.eqi rfl rfl) ?_
              refine LW.pure rfl rfl (RV.pickT rfl rfl) ?_
              refine LW.pure rfl rfl (RV.move rfl) ?_
              cases h7 : decide (((fixed c x.a x.b).2.2) = ((rfixed c x.a x.b).2.2))
              ·
                have h7 := of_decide_eq_false h7
                exfalso; simp [hm, hn] at h7
              ·
                have h7 := of_decide_eq_true h7
                refine LW.yes rfl rfl rfl rfl (OW.call c18 rfl (law_known) ?_)
                rintro _ w9 ⟨rfl, E7⟩
                refine ⟨_, rfl, ?_⟩
                replace H := H.grow E7
                replace R0 := H.ext
                refine LW.pure rfl rfl (RV.pickT rfl rfl) ?_
                refine LW.pure rfl rfl (RV.assign rfl) ?_
                refine LW.nil (hK9 _ _ ?_)
                refine CW.ret ?_
                refine ⟨_, (ResOK.one rfl), ?_⟩
                refine ⟨rfl, R0⟩

end Go.Core
