/- Lemmas and walks that the proof of this claim uses: TbCoreL. -/
import Derived.Test.YtmjadkjcbaohbaaTbCoreK
import Derived.Test.YtmjadkjcbaohbaaProg
import Derived.KernelRfl
namespace Go.Core
open Go.Tb Go.Proofs
set_option linter.unusedVariables false
set_option linter.unusedSimpArgs false

theorem c67 : callable Try.prog 67 = true := by kernel_rfl
theorem c71 : callable Try.prog 71 = true := by kernel_rfl


set_option maxRecDepth 20000 in
theorem core_CheckDates {c : Core} {A_c_bounds : Option Addr} {c_c_bounds : Nat} {l : List Int} {A_l : Option Addr} {c_l : Nat} {w : World} (h_c_bounds : Sl w A_c_bounds c_c_bounds 3 (c.bounds.map encB)) (h_l : Sl w A_l c_l 1 (l.map encI)) : Calls Try.prog 33 #[.agg #[.int .i64 c.layers, .slice A_c_bounds c.bounds.length c_c_bounds], .slice A_l l.length c_l] w (Ret w (.int .i64 (checkDates c l))) := by
  refine calls_of_cw (args := [.agg #[.int .i64 c.layers, .slice A_c_bounds c.bounds.length c_c_bounds], .slice A_l l.length c_l]) Try.func33 rfl rfl rfl rfl ?_
  have H := Hp.start w
  have R0 := H.ext
  refine CW.seq fun K1 hK1 => ?_
  refine CW.region ?_
  refine LW.go rfl rfl (OW.box rfl fun b1 w1 N1 => ?_)
  replace H : Hp w w1 [.blk b1 24 [.int .i64 c.layers, .slice A_c_bounds c.bounds.length c_c_bounds]] := H.new N1 N1.blk
  replace R0 := H.ext
  refine LW.pure rfl rfl (RV.assign rfl) ?_
  refine LW.nil (hK1 _ _ ?_)
  refine CW.seq fun K2 hK2 => ?_
  refine CW.seq fun K3 hK3 => ?_
  refine CW.region ?_
  refine LW.pure rfl rfl (RV.loadA [.int .i64 c.layers, .slice A_c_bounds c.bounds.length c_c_bounds] k24 rfl (H.blk 0 rfl).cells rfl rfl) ?_
  refine LW.pure rfl rfl (RV.move rfl) ?_
  refine LW.go rfl rfl (OW.call c67 rfl (core_dated (c := c) (l := l) (h_c_bounds.ext R0) (h_l.ext R0)) ?_)
  rintro _ w2 ⟨rfl, E1⟩
  refine ⟨_, rfl, ?_⟩
  replace H := H.grow E1
  replace R0 := H.ext
  refine LW.pure rfl rfl (RV.assign rfl) ?_
  refine LW.nil (hK3 _ _ ?_)
  refine CW.seq fun K4 hK4 => ?_
  refine CW.region ?_
  refine LW.pure rfl rfl (RV.move rfl) ?_
  refine LW.pure rfl rfl (RV.nei rfl rfl) ?_
  refine LW.nil (hK4 _ _ ?_)
  refine CW.cond rfl (fun h1 => ?_) (fun h1 => ?_)
  ·
    have h1 := (Bool.not_eq_true' _).mp h1
    have h1 := of_decide_eq_false h1
    refine CW.seq fun K5 hK5 => ?_
    refine CW.region ?_
    refine LW.pure rfl rfl (RV.move rfl) ?_
    refine LW.pure rfl rfl (RV.assign rfl) ?_
    refine LW.nil (hK5 _ _ ?_)
    refine CW.ret ?_
    refine ⟨_, (ResOK.one rfl), ?_⟩
    refine ⟨?_, R0⟩
    · simp [checkDates, h1]
  ·
    have h1 := (Bool.not_eq_false' _).mp h1
    have h1 := of_decide_eq_true h1
    have hd := datedE_ok h1
    have hmx := h_c_bounds.max
    refine CW.skip (hK2 _ _ ?_)
    refine CW.seq fun K6 hK6 => ?_
    refine CW.seq fun K7 hK7 => ?_
    refine CW.region ?_
    refine LW.pure rfl rfl (RV.fieldAddr f24_1 rfl) ?_
    refine LW.pure rfl rfl (RV.load1 k22 rfl ((H.blk 0 rfl).cells.off 1) rfl) ?_
    refine LW.pure rfl rfl (RV.len s22 rfl) ?_
    refine LW.pure rfl rfl (RV.move rfl) ?_
    refine LW.nil (hK7 _ _ ?_)
    refine CW.block ?_
    refine CW.loop (fun meas ρ wl1 => ∃ (i : Nat), meas = c.bounds.length - i ∧ ρ = [(1, .slice A_l l.length c_l), (15, .slice A_c_bounds c.bounds.length c_c_bounds), (16, .int .i64 (((c.bounds.length : Nat) : Int))), (17, .int .i64 (↑i))] ∧ Hp w wl1 [.blk b1 24 [.int .i64 c.layers, .slice A_c_bounds c.bounds.length c_c_bounds]] ∧ (i ≤ c.bounds.length ∧ ((c.bounds.take i).all (keeps l) = true))) (c.bounds.length - 0) ⟨_, ?_, 0, rfl, rfl, ?_, ?_⟩ ?_
    · exact ⟨rfl, rfl, rfl, look_int rfl (by first | rfl | omega | (simp; omega)), trivial⟩
    · exact H
    · simp
    rintro _ _ wl1 ⟨i, rfl, rfl, H, hI1⟩
    have R0 := H.ext
    refine CW.seq fun K8 hK8 => ?_
    refine CW.region ?_
    refine LW.pure rfl rfl (RV.lss rfl rfl) ?_
    refine LW.nil (hK8 _ _ ?_)
    refine CW.seq fun K9 hK9 => ?_
    refine CW.cond rfl (fun h2 => ?_) (fun h2 => ?_)
    ·
      have h2 := of_decide_eq_true h2
      refine CW.skip (hK9 _ _ ?_)
      refine CW.seq fun K10 hK10 => ?_
      refine CW.block ?_
      refine CW.seq fun K11 hK11 => ?_
      refine CW.region ?_
      have hb1 : 0 ≤ ((↑i) : Int) ∧ ((↑i) : Int) < ((c.bounds.length : Nat) : Int) := by omega
      obtain ⟨x1, hx1⟩ := ex_at (l := c.bounds) (j := i) (by first | omega | (simp; omega))
      have hr := bound_ok hd.1 hx1
      refine LW.pure rfl rfl (RV.indexAddr s22 rfl rfl hb1 (h_c_bounds.addr hb1)) ?_
      refine LW.pure rfl rfl (RV.loadA [.int .i64 x1.a, .int .i64 x1.b, .int .i64 x1.most] k26 rfl ((h_c_bounds.at_ hx1).ext R0) rfl rfl) ?_
      refine LW.go rfl rfl (OW.alloc z26 fun b2 w3 N2 => ?_)
      replace H : Hp w w3 [.blk b2 26 [.int .i64 0, .int .i64 0, .int .i64 0], .blk b1 24 [.int .i64 c.layers, .slice A_c_bounds c.bounds.length c_c_bounds]] := H.new N2 N2.blk
      replace R0 := H.ext
      refine LW.go rfl rfl (OW.store k26 rfl rfl (H.blk 0 rfl) (off := 0) (vs := [.int .i64 x1.a, .int .i64 x1.b, .int .i64 x1.most]) rfl rfl rfl rfl rfl fun w4 S1 => ?_)
      replace H : Hp w w4 [.blk b2 26 [.int .i64 x1.a, .int .i64 x1.b, .int .i64 x1.most], .blk b1 24 [.int .i64 c.layers, .slice A_c_bounds c.bounds.length c_c_bounds]] := H.stored 0 rfl S1
      replace R0 := H.ext
      refine LW.nil (hK11 _ _ ?_)
      refine CW.seq fun K12 hK12 => ?_
      refine CW.draw [] (fun _ => True) (.cons 0 1 (.cons 1 1 (.cons 2 1 (.cons 3 1 (.cons 4 1 (.cons 5 1 (.cons 6 1 (.cons 7 1 (.cons 8 1 (.cons 9 1 (.cons 10 1 (.cons 11 1 (.cons 12 1 (.cons 13 1 .nil)))))))))))))) mixed (by kernel_rfl) fun w5 E2 => ?_
      replace H := H.grow E2
      replace R0 := H.ext
      refine DW.fix rfl rfl rfl (fun _ EQ => RV.move rfl) ?_
      refine DW.fix rfl rfl rfl (fun _ EQ => RV.fieldAddr f26_1 rfl) ?_
      refine DW.fix rfl rfl rfl (fun _ EQ => RV.load1 k3 rfl (((H.grow EQ).blk 0 rfl).cells.off 1) rfl) ?_
      have hb2 : 0 ≤ ((x1.b) : Int) ∧ ((x1.b) : Int) < ((l.length : Nat) : Int) := by omega
      obtain ⟨x2, hx2⟩ := ex_at (l := l) (j := Int.toNat x1.b) (by first | omega | (simp; omega))
      have hbx2 := hd.2.2 x2 (List.mem_of_getElem? hx2)
      have hgx2 := gi_of hx2
      refine DW.fix rfl rfl rfl (fun _ EQ => RV.indexAddr s43 rfl rfl hb2 (h_l.addr hb2)) ?_
      refine DW.fix rfl rfl rfl (fun _ EQ => RV.load1 k3 rfl ((h_l.at_ hx2).ext (R0.trans EQ)) rfl) ?_
      refine DW.fix rfl rfl rfl (fun _ EQ => RV.move rfl) ?_
      refine DW.fix rfl rfl rfl (fun _ EQ => RV.fieldAddr f26_0 rfl) ?_
      refine DW.fix rfl rfl rfl (fun _ EQ => RV.load1 k3 rfl (((H.grow EQ).blk 0 rfl).cells.off 0) rfl) ?_
      have hb3 : 0 ≤ ((x1.a) : Int) ∧ ((x1.a) : Int) < ((l.length : Nat) : Int) := by omega
      obtain ⟨x3, hx3⟩ := ex_at (l := l) (j := Int.toNat x1.a) (by first | omega | (simp; omega))
      have hbx3 := hd.2.2 x3 (List.mem_of_getElem? hx3)
      have hgx3 := gi_of hx3
      refine DW.fix rfl rfl rfl (fun _ EQ => RV.indexAddr s43 rfl rfl hb3 (h_l.addr hb3)) ?_
      refine DW.fix rfl rfl rfl (fun _ EQ => RV.load1 k3 rfl ((h_l.at_ hx3).ext (R0.trans EQ)) rfl) ?_
      refine DW.fix rfl rfl rfl (fun _ EQ => RV.sub rfl rfl (by omega)) ?_
      refine DW.fix rfl rfl rfl (fun _ EQ => RV.fieldAddr f26_2 rfl) ?_
      refine DW.fix rfl rfl rfl (fun _ EQ => RV.load1 k3 rfl (((H.grow EQ).blk 0 rfl).cells.off 2) rfl) ?_
      refine DW.fix rfl rfl rfl (fun _ EQ => RV.gtr rfl rfl) ?_
      refine DW.nil (hK12 _ _ ?_)
      refine CW.cond rfl (fun h3 => ?_) (fun h3 => ?_)
      ·
        have h3 := of_decide_eq_true h3
        refine CW.seq fun K13 hK13 => ?_
        refine CW.region ?_
        refine LW.pure rfl rfl (RV.assign rfl) ?_
        refine LW.nil (hK13 _ _ ?_)
        refine CW.ret ?_
        refine ⟨_, (ResOK.one rfl), ?_⟩
        refine ⟨?_, R0⟩
        · have e : checkDates c l = 7 := by simp [checkDates, h1, all_false_at (p := keeps l) hx1 (by simp only [keeps, hgx2, hgx3]; simp; omega)]
          rw [e]
      ·
        have h3 := of_decide_eq_false h3
        refine CW.skip (hK10 _ _ ?_)
        refine CW.region ?_
        refine LW.pure rfl rfl (RV.add rfl rfl (by omega)) ?_
        refine LW.pure rfl rfl (RV.move rfl) ?_
        refine LW.nil ?_
        replace H : Hp w w5 [.blk b1 24 [.int .i64 c.layers, .slice A_c_bounds c.bounds.length c_c_bounds]] := H.pick [1] (by decide) rfl
        replace R0 := H.ext
        refine ⟨_, ?_, _, ?_, i + 1, rfl, rfl, ?_, ?_⟩
        · omega
        · exact ⟨rfl, rfl, rfl, look_int rfl (by first | rfl | omega | (simp; omega)), trivial⟩
        · exact H
        · exact ⟨by omega, all_take_succ hx1 hI1.2 (by simp only [keeps, hgx2, hgx3]; simp; omega)⟩
    ·
      have h2 := of_decide_eq_false h2
      refine CW.exit (hK6 _ _ ?_)
      refine CW.seq fun K14 hK14 => ?_
      refine CW.region ?_
      refine LW.pure rfl rfl (RV.assign rfl) ?_
      refine LW.nil (hK14 _ _ ?_)
      refine CW.ret ?_
      refine ⟨_, (ResOK.one rfl), ?_⟩
      refine ⟨?_, R0⟩
      · have e : checkDates c l = 0 := by simp only [checkDates, h1, all_of_take h2 hI1.2]; simp
        rw [e]

set_option maxRecDepth 20000 in
theorem ref_isDates {c : Core} {A_c_bounds : Option Addr} {c_c_bounds : Nat} {l : List Int} {A_l : Option Addr} {c_l : Nat} {w : World} (h_c_bounds : Sl w A_c_bounds c_c_bounds 3 (c.bounds.map encB)) (h_l : Sl w A_l c_l 1 (l.map encI)) : Calls Try.prog 71 #[.agg #[.int .i64 c.layers, .slice A_c_bounds c.bounds.length c_c_bounds], .slice A_l l.length c_l] w (Ret w (.bool (isDatesS c l))) := by
  refine calls_of_cw (args := [.agg #[.int .i64 c.layers, .slice A_c_bounds c.bounds.length c_c_bounds], .slice A_l l.length c_l]) Try.func71 rfl rfl rfl rfl ?_
  have H := Hp.start w
  have R0 := H.ext
  have hmx := h_l.max
  refine CW.seq fun K1 hK1 => ?_
  refine CW.region ?_
  refine LW.go rfl rfl (OW.box rfl fun b1 w1 N1 => ?_)
  replace H : Hp w w1 [.blk b1 24 [.int .i64 c.layers, .slice A_c_bounds c.bounds.length c_c_bounds]] := H.new N1 N1.blk
  replace R0 := H.ext
  refine LW.pure rfl rfl (RV.assign rfl) ?_
  refine LW.nil (hK1 _ _ ?_)
  refine CW.seq fun K2 hK2 => ?_
  refine CW.seq fun K3 hK3 => ?_
  refine CW.region ?_
  refine LW.pure rfl rfl (RV.move rfl) ?_
  refine LW.pure rfl rfl (RV.len s43 rfl) ?_
  refine LW.pure rfl rfl (RV.fieldAddr f24_0 rfl) ?_
  refine LW.pure rfl rfl (RV.load1 k3 rfl ((H.blk 0 rfl).cells.off 0) rfl) ?_
  refine LW.pure rfl rfl (RV.nei rfl rfl) ?_
  refine LW.nil (hK3 _ _ ?_)
  refine CW.cond rfl (fun h1 => ?_) (fun h1 => ?_)
  ·
    have h1 := (Bool.not_eq_true' _).mp h1
    have h1 := of_decide_eq_false h1
    refine CW.seq fun K4 hK4 => ?_
    refine CW.region ?_
    refine LW.pure rfl rfl (RV.assign rfl) ?_
    refine LW.nil (hK4 _ _ ?_)
    refine CW.ret ?_
    refine ⟨_, (ResOK.one rfl), ?_⟩
    refine ⟨?_, R0⟩
    · simp [isDatesS, h1]
  ·
    have h1 := (Bool.not_eq_false' _).mp h1
    have h1 := of_decide_eq_true h1
    refine CW.skip (hK2 _ _ ?_)
    refine CW.seq fun K5 hK5 => ?_
    refine CW.seq fun K6 hK6 => ?_
    refine CW.region ?_
    refine LW.pure rfl rfl (RV.assign rfl) ?_
    refine LW.nil (hK6 _ _ ?_)
    refine CW.block ?_
    refine CW.loop (fun meas ρ wl1 => ∃ (i : Nat), meas = l.length - i ∧ ρ = [(1, .slice A_l l.length c_l), (5, .int .i64 (↑i))] ∧ Hp w wl1 [.blk b1 24 [.int .i64 c.layers, .slice A_c_bounds c.bounds.length c_c_bounds]] ∧ (i ≤ l.length ∧ ((l.take i).all okD = true))) (l.length - 0) ⟨_, ?_, 0, rfl, rfl, ?_, ?_⟩ ?_
    · exact ⟨rfl, look_int rfl (by first | rfl | omega | (simp; omega)), trivial⟩
    · exact H
    · simp
    rintro _ _ wl1 ⟨i, rfl, rfl, H, hI1⟩
    have R0 := H.ext
    refine CW.seq fun K7 hK7 => ?_
    refine CW.seq fun K8 hK8 => ?_
    refine CW.region ?_
    refine LW.pure rfl rfl (RV.move rfl) ?_
    refine LW.pure rfl rfl (RV.move rfl) ?_
    refine LW.pure rfl rfl (RV.len s43 rfl) ?_
    refine LW.pure rfl rfl (RV.lss rfl rfl) ?_
    refine LW.nil (hK8 _ _ ?_)
    refine CW.cond rfl (fun h2 => ?_) (fun h2 => ?_)
    ·
      have h2 := of_decide_eq_true h2
      refine CW.skip (hK7 _ _ ?_)
      refine CW.seq fun K9 hK9 => ?_
      refine CW.block ?_
      refine CW.seq fun K10 hK10 => ?_
      refine CW.region ?_
      refine LW.pure rfl rfl (RV.move rfl) ?_
      refine LW.pure rfl rfl (RV.move rfl) ?_
      have hb1 : 0 ≤ ((↑i) : Int) ∧ ((↑i) : Int) < ((l.length : Nat) : Int) := by omega
      obtain ⟨x1, hx1⟩ := ex_at (l := l) (j := i) (by first | omega | (simp; omega))
      refine LW.pure rfl rfl (RV.indexAddr s43 rfl rfl hb1 (h_l.addr hb1)) ?_
      refine LW.pure rfl rfl (RV.load1 k3 rfl ((h_l.at_ hx1).ext R0) rfl) ?_
      refine LW.go rfl rfl (OW.call c62 rfl (ref_within (n := x1) (lo := -1000000) (hi := 1000000)) ?_)
      rintro _ w2 ⟨rfl, E1⟩
      refine ⟨_, rfl, ?_⟩
      replace H := H.grow E1
      replace R0 := H.ext
      refine LW.pure rfl rfl (RV.not rfl) ?_
      refine LW.nil (hK10 _ _ ?_)
      refine CW.cond rfl (fun h3 => ?_) (fun h3 => ?_)
      ·
        have h3 := (Bool.not_eq_true' _).mp h3
        refine CW.seq fun K11 hK11 => ?_
        refine CW.region ?_
        refine LW.pure rfl rfl (RV.assign rfl) ?_
        refine LW.nil (hK11 _ _ ?_)
        refine CW.ret ?_
        refine ⟨_, (ResOK.one rfl), ?_⟩
        refine ⟨?_, R0⟩
        · have e : isDatesS c l = false := by simp only [isDatesS, all_false_at (p := okD) hx1 h3]; simp
          rw [e]
      ·
        have h3 := (Bool.not_eq_false' _).mp h3
        refine CW.skip (hK9 _ _ ?_)
        refine CW.region ?_
        refine LW.pure rfl rfl (RV.move rfl) ?_
        refine LW.pure rfl rfl (RV.add rfl rfl (by omega)) ?_
        refine LW.pure rfl rfl (RV.assign rfl) ?_
        refine LW.nil ?_
        refine ⟨_, ?_, _, ?_, i + 1, rfl, rfl, ?_, ?_⟩
        · omega
        · exact ⟨rfl, look_int rfl (by first | rfl | omega | (simp; omega)), trivial⟩
        · exact H
        · exact ⟨by omega, all_take_succ hx1 hI1.2 h3⟩
    ·
      have h2 := of_decide_eq_false h2
      refine CW.exit (hK5 _ _ ?_)
      refine CW.seq fun K12 hK12 => ?_
      refine CW.region ?_
      refine LW.pure rfl rfl (RV.assign rfl) ?_
      refine LW.nil (hK12 _ _ ?_)
      refine CW.ret ?_
      refine ⟨_, (ResOK.one rfl), ?_⟩
      refine ⟨?_, R0⟩
      · have e : isDatesS c l = true := by simp only [isDatesS, all_of_take h2 hI1.2]; simpa using h1
        rw [e]

set_option maxRecDepth 20000 in
theorem ref_CheckDates {c : Core} {A_c_bounds : Option Addr} {c_c_bounds : Nat} {l : List Int} {A_l : Option Addr} {c_l : Nat} {w : World} (h_c_bounds : Sl w A_c_bounds c_c_bounds 3 (c.bounds.map encB)) (h_l : Sl w A_l c_l 1 (l.map encI)) : Calls Try.prog 38 #[.agg #[.int .i64 c.layers, .slice A_c_bounds c.bounds.length c_c_bounds], .slice A_l l.length c_l] w (Ret w (.int .i64 (checkDates c l))) := by
  refine calls_of_cw (args := [.agg #[.int .i64 c.layers, .slice A_c_bounds c.bounds.length c_c_bounds], .slice A_l l.length c_l]) Try.func38 rfl rfl rfl rfl ?_
  have H := Hp.start w
  have R0 := H.ext
  refine CW.seq fun K1 hK1 => ?_
  refine CW.region ?_
  refine LW.go rfl rfl (OW.box rfl fun b1 w1 N1 => ?_)
  replace H : Hp w w1 [.blk b1 24 [.int .i64 c.layers, .slice A_c_bounds c.bounds.length c_c_bounds]] := H.new N1 N1.blk
  replace R0 := H.ext
  refine LW.pure rfl rfl (RV.assign rfl) ?_
  refine LW.nil (hK1 _ _ ?_)
  refine CW.seq fun K2 hK2 => ?_
  refine CW.seq fun K3 hK3 => ?_
  refine CW.region ?_
  refine LW.pure rfl rfl (RV.loadA [.int .i64 c.layers, .slice A_c_bounds c.bounds.length c_c_bounds] k24 rfl (H.blk 0 rfl).cells rfl rfl) ?_
  refine LW.go rfl rfl (OW.call c37 rfl (ref_Validate (c := c) (h_c_bounds.ext R0)) ?_)
  rintro _ w2 ⟨rfl, E1⟩
  refine ⟨_, rfl, ?_⟩
  replace H := H.grow E1
  replace R0 := H.ext
  refine LW.pure rfl rfl (RV.assign rfl) ?_
  refine LW.nil (hK3 _ _ ?_)
  refine CW.seq fun K4 hK4 => ?_
  refine CW.region ?_
  refine LW.pure rfl rfl (RV.move rfl) ?_
  refine LW.pure rfl rfl (RV.nei rfl rfl) ?_
  refine LW.nil (hK4 _ _ ?_)
  refine CW.cond rfl (fun h1 => ?_) (fun h1 => ?_)
  ·
    have h1 := (Bool.not_eq_true' _).mp h1
    have h1 := of_decide_eq_false h1
    refine CW.seq fun K5 hK5 => ?_
    refine CW.region ?_
    refine LW.pure rfl rfl (RV.move rfl) ?_
    refine LW.pure rfl rfl (RV.assign rfl) ?_
    refine LW.nil (hK5 _ _ ?_)
    refine CW.ret ?_
    refine ⟨_, (ResOK.one rfl), ?_⟩
    refine ⟨?_, R0⟩
    · have e : datedE c l = validate c := by simp [datedE, h1]
      simp [checkDates, e, h1]
  ·
    have h1 := (Bool.not_eq_false' _).mp h1
    have h1 := of_decide_eq_true h1
    refine CW.skip (hK2 _ _ ?_)
    refine CW.seq fun K6 hK6 => ?_
    refine CW.seq fun K7 hK7 => ?_
    refine CW.region ?_
    refine LW.pure rfl rfl (RV.loadA [.int .i64 c.layers, .slice A_c_bounds c.bounds.length c_c_bounds] k24 rfl (H.blk 0 rfl).cells rfl rfl) ?_
    refine LW.pure rfl rfl (RV.move rfl) ?_
    refine LW.go rfl rfl (OW.call c71 rfl (ref_isDates (c := c) (l := l) (h_c_bounds.ext R0) (h_l.ext R0)) ?_)
    rintro _ w3 ⟨rfl, E2⟩
    refine ⟨_, rfl, ?_⟩
    replace H := H.grow E2
    replace R0 := H.ext
    refine LW.pure rfl rfl (RV.not rfl) ?_
    refine LW.nil (hK7 _ _ ?_)
    refine CW.cond rfl (fun h2 => ?_) (fun h2 => ?_)
    ·
      have h2 := (Bool.not_eq_true' _).mp h2
      refine CW.seq fun K8 hK8 => ?_
      refine CW.region ?_
      refine LW.pure rfl rfl (RV.assign rfl) ?_
      refine LW.nil (hK8 _ _ ?_)
      refine CW.ret ?_
      refine ⟨_, (ResOK.one rfl), ?_⟩
      refine ⟨?_, R0⟩
      · have e : datedE c l = 1 := by simp [datedE, h1, h2]
        simp [checkDates, e]
    ·
      have h2 := (Bool.not_eq_false' _).mp h2
      have h0 : datedE c l = 0 := by simp [datedE, h1, h2]
      have hd := datedE_ok h0
      have hmx := h_c_bounds.max
      refine CW.skip (hK6 _ _ ?_)
      refine CW.seq fun K9 hK9 => ?_
      refine CW.seq fun K10 hK10 => ?_
      refine CW.region ?_
      refine LW.pure rfl rfl (RV.assign rfl) ?_
      refine LW.nil (hK10 _ _ ?_)
      refine CW.block ?_
      refine CW.loop (fun meas ρ wl1 => ∃ (i : Nat), meas = c.bounds.length - i ∧ ρ = [(1, .slice A_l l.length c_l), (2, .pointer (some (⟨b1, 0, none⟩))), (6, .int .i64 (↑i))] ∧ Hp w wl1 [.blk b1 24 [.int .i64 c.layers, .slice A_c_bounds c.bounds.length c_c_bounds]] ∧ (i ≤ c.bounds.length ∧ ((c.bounds.take i).all (keeps l) = true))) (c.bounds.length - 0) ⟨_, ?_, 0, rfl, rfl, ?_, ?_⟩ ?_
      · exact ⟨rfl, rfl, look_int rfl (by first | rfl | omega | (simp; omega)), trivial⟩
      · exact H
      · simp
      rintro _ _ wl1 ⟨i, rfl, rfl, H, hI1⟩
      have R0 := H.ext
      refine CW.seq fun K11 hK11 => ?_
      refine CW.seq fun K12 hK12 => ?_
      refine CW.region ?_
      refine LW.pure rfl rfl (RV.move rfl) ?_
      refine LW.pure rfl rfl (RV.fieldAddr f24_1 rfl) ?_
      refine LW.pure rfl rfl (RV.load1 k22 rfl ((H.blk 0 rfl).cells.off 1) rfl) ?_
      refine LW.pure rfl rfl (RV.len s22 rfl) ?_
      refine LW.pure rfl rfl (RV.lss rfl rfl) ?_
      refine LW.nil (hK12 _ _ ?_)
      refine CW.cond rfl (fun h3 => ?_) (fun h3 => ?_)
      ·
        have h3 := of_decide_eq_true h3
        refine CW.skip (hK11 _ _ ?_)
        refine CW.seq fun K13 hK13 => ?_
        refine CW.block ?_
        refine CW.seq fun K14 hK14 => ?_
        refine CW.region ?_
        refine LW.pure rfl rfl (RV.fieldAddr f24_1 rfl) ?_
        refine LW.pure rfl rfl (RV.load1 k22 rfl ((H.blk 0 rfl).cells.off 1) rfl) ?_
        refine LW.pure rfl rfl (RV.move rfl) ?_
        have hb1 : 0 ≤ ((↑i) : Int) ∧ ((↑i) : Int) < ((c.bounds.length : Nat) : Int) := by omega
        obtain ⟨x1, hx1⟩ := ex_at (l := c.bounds) (j := i) (by first | omega | (simp; omega))
        have hr := bound_ok hd.1 hx1
        refine LW.pure rfl rfl (RV.indexAddr s22 rfl rfl hb1 (h_c_bounds.addr hb1)) ?_
        refine LW.pure rfl rfl (RV.loadA [.int .i64 x1.a, .int .i64 x1.b, .int .i64 x1.most] k26 rfl ((h_c_bounds.at_ hx1).ext R0) rfl rfl) ?_
        refine LW.go rfl rfl (OW.alloc z26 fun b2 w4 N2 => ?_)
        replace H : Hp w w4 [.blk b2 26 [.int .i64 0, .int .i64 0, .int .i64 0], .blk b1 24 [.int .i64 c.layers, .slice A_c_bounds c.bounds.length c_c_bounds]] := H.new N2 N2.blk
        replace R0 := H.ext
        refine LW.go rfl rfl (OW.store k26 rfl rfl (H.blk 0 rfl) (off := 0) (vs := [.int .i64 x1.a, .int .i64 x1.b, .int .i64 x1.most]) rfl rfl rfl rfl rfl fun w5 S1 => ?_)
        replace H : Hp w w5 [.blk b2 26 [.int .i64 x1.a, .int .i64 x1.b, .int .i64 x1.most], .blk b1 24 [.int .i64 c.layers, .slice A_c_bounds c.bounds.length c_c_bounds]] := H.stored 0 rfl S1
        replace R0 := H.ext
        refine LW.nil (hK14 _ _ ?_)
        refine CW.seq fun K15 hK15 => ?_
        refine CW.draw [] (fun _ => True) (.cons 0 1 (.cons 1 1 (.cons 2 1 (.cons 3 1 (.cons 4 1 (.cons 5 1 (.cons 6 1 (.cons 7 1 (.cons 8 1 (.cons 9 1 (.cons 10 1 (.cons 11 1 (.cons 12 1 (.cons 13 1 .nil)))))))))))))) mixed (by kernel_rfl) fun w6 E3 => ?_
        replace H := H.grow E3
        replace R0 := H.ext
        refine DW.fix rfl rfl rfl (fun _ EQ => RV.move rfl) ?_
        refine DW.fix rfl rfl rfl (fun _ EQ => RV.fieldAddr f26_1 rfl) ?_
        refine DW.fix rfl rfl rfl (fun _ EQ => RV.load1 k3 rfl (((H.grow EQ).blk 0 rfl).cells.off 1) rfl) ?_
        have hb2 : 0 ≤ ((x1.b) : Int) ∧ ((x1.b) : Int) < ((l.length : Nat) : Int) := by omega
        obtain ⟨x2, hx2⟩ := ex_at (l := l) (j := Int.toNat x1.b) (by first | omega | (simp; omega))
        have hbx2 := hd.2.2 x2 (List.mem_of_getElem? hx2)
        have hgx2 := gi_of hx2
        refine DW.fix rfl rfl rfl (fun _ EQ => RV.indexAddr s43 rfl rfl hb2 (h_l.addr hb2)) ?_
        refine DW.fix rfl rfl rfl (fun _ EQ => RV.load1 k3 rfl ((h_l.at_ hx2).ext (R0.trans EQ)) rfl) ?_
        refine DW.fix rfl rfl rfl (fun _ EQ => RV.move rfl) ?_
        refine DW.fix rfl rfl rfl (fun _ EQ => RV.fieldAddr f26_0 rfl) ?_
        refine DW.fix rfl rfl rfl (fun _ EQ => RV.load1 k3 rfl (((H.grow EQ).blk 0 rfl).cells.off 0) rfl) ?_
        have hb3 : 0 ≤ ((x1.a) : Int) ∧ ((x1.a) : Int) < ((l.length : Nat) : Int) := by omega
        obtain ⟨x3, hx3⟩ := ex_at (l := l) (j := Int.toNat x1.a) (by first | omega | (simp; omega))
        have hbx3 := hd.2.2 x3 (List.mem_of_getElem? hx3)
        have hgx3 := gi_of hx3
        refine DW.fix rfl rfl rfl (fun _ EQ => RV.indexAddr s43 rfl rfl hb3 (h_l.addr hb3)) ?_
        refine DW.fix rfl rfl rfl (fun _ EQ => RV.load1 k3 rfl ((h_l.at_ hx3).ext (R0.trans EQ)) rfl) ?_
        refine DW.fix rfl rfl rfl (fun _ EQ => RV.sub rfl rfl (by omega)) ?_
        refine DW.fix rfl rfl rfl (fun _ EQ => RV.fieldAddr f26_2 rfl) ?_
        refine DW.fix rfl rfl rfl (fun _ EQ => RV.load1 k3 rfl (((H.grow EQ).blk 0 rfl).cells.off 2) rfl) ?_
        refine DW.fix rfl rfl rfl (fun _ EQ => RV.gtr rfl rfl) ?_
        refine DW.nil (hK15 _ _ ?_)
        refine CW.cond rfl (fun h4 => ?_) (fun h4 => ?_)
        ·
          have h4 := of_decide_eq_true h4
          refine CW.seq fun K16 hK16 => ?_
          refine CW.region ?_
          refine LW.pure rfl rfl (RV.assign rfl) ?_
          refine LW.nil (hK16 _ _ ?_)
          refine CW.ret ?_
          refine ⟨_, (ResOK.one rfl), ?_⟩
          refine ⟨?_, R0⟩
          · have e : checkDates c l = 7 := by simp [checkDates, h0, all_false_at (p := keeps l) hx1 (by simp only [keeps, hgx2, hgx3]; simp; omega)]
            rw [e]
        ·
          have h4 := of_decide_eq_false h4
          refine CW.skip (hK13 _ _ ?_)
          refine CW.region ?_
          refine LW.pure rfl rfl (RV.move rfl) ?_
          refine LW.pure rfl rfl (RV.add rfl rfl (by omega)) ?_
          refine LW.pure rfl rfl (RV.assign rfl) ?_
          refine LW.nil ?_
          replace H : Hp w w6 [.blk b1 24 [.int .i64 c.layers, .slice A_c_bounds c.bounds.length c_c_bounds]] := H.pick [1] (by decide) rfl
          replace R0 := H.ext
          refine ⟨_, ?_, _, ?_, i + 1, rfl, rfl, ?_, ?_⟩
          · omega
          · exact ⟨rfl, rfl, look_int rfl (by first | rfl | omega | (simp; omega)), trivial⟩
          · exact H
          · exact ⟨by omega, all_take_succ hx1 hI1.2 (by simp only [keeps, hgx2, hgx3]; simp; omega)⟩
      ·
        have h3 := of_decide_eq_false h3
        refine CW.exit (hK9 _ _ ?_)
        refine CW.seq fun K17 hK17 => ?_
        refine CW.region ?_
        refine LW.pure rfl rfl (RV.assign rfl) ?_
        refine LW.nil (hK17 _ _ ?_)
        refine CW.ret ?_
        refine ⟨_, (ResOK.one rfl), ?_⟩
        refine ⟨?_, R0⟩
        · have e : checkDates c l = 0 := by simp only [checkDates, h0, all_of_take h3 hI1.2]; simp
          rw [e]

end Go.Core
