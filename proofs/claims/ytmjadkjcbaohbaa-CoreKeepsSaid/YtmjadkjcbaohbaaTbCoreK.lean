/- Lemmas and walks that the proof of this claim uses: TbCoreK. -/
import Derived.Test.YtmjadkjcbaohbaaTbCoreJ
import Derived.Test.YtmjadkjcbaohbaaTbCoreSpec6
import Derived.Test.YtmjadkjcbaohbaaProg
import Derived.KernelRfl
namespace Go.Core
open Go.Tb Go.Proofs
set_option linter.unusedVariables false
set_option linter.unusedSimpArgs false

theorem c85 : callable Try.prog 85 = true := by kernel_rfl
theorem c86 : callable Try.prog 86 = true := by kernel_rfl
theorem c94 : callable Try.prog 94 = true := by kernel_rfl


set_option maxRecDepth 20000 in
theorem core_dated1 {x : Int} {w : World}  : Calls Try.prog 86 #[.int .i64 x] w (Ret w (.bool (!(okD x)))) := by
  refine calls_of_cw (args := [.int .i64 x]) Try.func86 rfl rfl rfl rfl ?_
  have H := Hp.start w
  have R0 := H.ext
  refine CW.seq fun K1 hK1 => ?_
  refine CW.region ?_
  refine LW.pure rfl rfl (RV.assign rfl) ?_
  refine LW.nil (hK1 _ _ ?_)
  refine CW.seq fun K2 hK2 => ?_
  refine CW.region ?_
  refine LW.pure rfl rfl (RV.move rfl) ?_
  refine LW.go rfl rfl (OW.call c70 rfl (core_within (n := x) (lo := -1000000) (hi := 1000000)) ?_)
  rintro _ w1 ⟨rfl, E1⟩
  refine ⟨_, rfl, ?_⟩
  replace H := H.grow E1
  replace R0 := H.ext
  refine LW.pure rfl rfl (RV.not rfl) ?_
  refine LW.pure rfl rfl (RV.assign rfl) ?_
  refine LW.nil (hK2 _ _ ?_)
  refine CW.ret ?_
  refine ⟨_, (ResOK.one rfl), ?_⟩
  refine ⟨?_, R0⟩
  · simp [okD]

set_option maxRecDepth 20000 in
theorem core_IndexFunc {l : List Int} {A_l : Option Addr} {c_l : Nat} {w : World} (h_l : Sl w A_l c_l 1 (l.map encI)) : Calls Try.prog 94 #[.slice A_l l.length c_l, .func (.func 86) #[] #[]] w (Ret w (.int .i64 (badIdx l))) := by
  refine calls_of_cw (args := [.slice A_l l.length c_l, .func (.func 86) #[] #[]]) Try.func94 rfl rfl rfl rfl ?_
  have H := Hp.start w
  have R0 := H.ext
  have hmx := h_l.max
  refine CW.seq fun K1 hK1 => ?_
  refine CW.region ?_
  refine LW.pure rfl rfl (RV.assign rfl) ?_
  refine LW.nil (hK1 _ _ ?_)
  refine CW.seq fun K2 hK2 => ?_
  refine CW.seq fun K3 hK3 => ?_
  refine CW.region ?_
  refine LW.pure rfl rfl (RV.move rfl) ?_
  refine LW.pure rfl rfl (RV.len s43 rfl) ?_
  refine LW.pure rfl rfl (RV.move rfl) ?_
  refine LW.nil (hK3 _ _ ?_)
  refine CW.block ?_
  refine CW.loop (fun meas ρ wl1 => ∃ (i : Nat), meas = l.length - i ∧ ρ = [(0, .slice A_l l.length c_l), (1, .func (.func 86) #[] #[]), (7, .int .i64 (((l.length : Nat) : Int))), (8, .int .i64 (↑i))] ∧ Hp w wl1 [] ∧ (i ≤ l.length ∧ ((l.take i).all okD = true))) (l.length - 0) ⟨_, ?_, 0, rfl, rfl, ?_, ?_⟩ ?_
  · exact ⟨rfl, rfl, rfl, look_int rfl (by first | rfl | omega | (simp; omega)), trivial⟩
  · exact H
  · simp
  rintro _ _ wl1 ⟨i, rfl, rfl, H, hI1⟩
  have R0 := H.ext
  refine CW.seq fun K4 hK4 => ?_
  refine CW.region ?_
  refine LW.pure rfl rfl (RV.lss rfl rfl) ?_
  refine LW.nil (hK4 _ _ ?_)
  refine CW.seq fun K5 hK5 => ?_
  refine CW.cond rfl (fun h1 => ?_) (fun h1 => ?_)
  ·
    have h1 := of_decide_eq_true h1
    refine CW.skip (hK5 _ _ ?_)
    refine CW.seq fun K6 hK6 => ?_
    refine CW.block ?_
    refine CW.seq fun K7 hK7 => ?_
    refine CW.region ?_
    refine LW.pure rfl rfl (RV.move rfl) ?_
    refine LW.pure rfl rfl (RV.assign rfl) ?_
    refine LW.nil (hK7 _ _ ?_)
    refine CW.seq fun K8 hK8 => ?_
    refine CW.region ?_
    refine LW.pure rfl rfl (RV.move rfl) ?_
    refine LW.pure rfl rfl (RV.move rfl) ?_
    refine LW.pure rfl rfl (RV.move rfl) ?_
    have hb1 : 0 ≤ ((↑i) : Int) ∧ ((↑i) : Int) < ((l.length : Nat) : Int) := by omega
    obtain ⟨x1, hx1⟩ := ex_at (l := l) (j := i) (by first | omega | (simp; omega))
    refine LW.pure rfl rfl (RV.indexAddr s43 rfl rfl hb1 (h_l.addr hb1)) ?_
    refine LW.pure rfl rfl (RV.load1 k3 rfl ((h_l.at_ hx1).ext R0) rfl) ?_
    refine LW.go rfl rfl (OW.callV rfl c86 rfl (core_dated1 (x := x1)) ?_)
    rintro _ w1 ⟨rfl, E1⟩
    refine ⟨_, rfl, ?_⟩
    replace H := H.grow E1
    replace R0 := H.ext
    refine LW.nil (hK8 _ _ ?_)
    refine CW.cond rfl (fun h2 => ?_) (fun h2 => ?_)
    ·
      have h2 := (Bool.not_eq_true' _).mp h2
      refine CW.seq fun K9 hK9 => ?_
      refine CW.region ?_
      refine LW.pure rfl rfl (RV.move rfl) ?_
      refine LW.pure rfl rfl (RV.assign rfl) ?_
      refine LW.nil (hK9 _ _ ?_)
      refine CW.ret ?_
      refine ⟨_, (ResOK.one rfl), ?_⟩
      refine ⟨?_, R0⟩
      · have e : badIdx l = (i : Int) := by simp [badIdx, all_false_at (p := okD) hx1 h2, takeWhile_len hx1 hI1.2 h2]
        rw [e]
    ·
      have h2 := (Bool.not_eq_false' _).mp h2
      refine CW.skip (hK6 _ _ ?_)
      refine CW.region ?_
      refine LW.pure rfl rfl (RV.add rfl rfl (by omega)) ?_
      refine LW.pure rfl rfl (RV.move rfl) ?_
      refine LW.nil ?_
      refine ⟨_, ?_, _, ?_, i + 1, rfl, rfl, ?_, ?_⟩
      · omega
      · exact ⟨rfl, rfl, rfl, look_int rfl (by first | rfl | omega | (simp; omega)), trivial⟩
      · exact H
      · exact ⟨by omega, all_take_succ hx1 hI1.2 h2⟩
  ·
    have h1 := of_decide_eq_false h1
    refine CW.exit (hK2 _ _ ?_)
    refine CW.seq fun K10 hK10 => ?_
    refine CW.region ?_
    refine LW.pure rfl rfl (RV.assign rfl) ?_
    refine LW.nil (hK10 _ _ ?_)
    refine CW.ret ?_
    refine ⟨_, (ResOK.one rfl), ?_⟩
    refine ⟨?_, R0⟩
    · have e : badIdx l = -1 := by simp [badIdx, all_of_take h1 hI1.2]
      rw [e]

set_option maxRecDepth 20000 in
theorem core_ContainsFunc {l : List Int} {A_l : Option Addr} {c_l : Nat} {w : World} (h_l : Sl w A_l c_l 1 (l.map encI)) : Calls Try.prog 85 #[.slice A_l l.length c_l, .func (.func 86) #[] #[]] w (Ret w (.bool (!((l).all okD)))) := by
  refine calls_of_cw (args := [.slice A_l l.length c_l, .func (.func 86) #[] #[]]) Try.func85 rfl rfl rfl rfl ?_
  have H := Hp.start w
  have R0 := H.ext
  refine CW.seq fun K1 hK1 => ?_
  refine CW.region ?_
  refine LW.pure rfl rfl (RV.assign rfl) ?_
  refine LW.nil (hK1 _ _ ?_)
  refine CW.seq fun K2 hK2 => ?_
  refine CW.region ?_
  refine LW.pure rfl rfl (RV.move rfl) ?_
  refine LW.pure rfl rfl (RV.move rfl) ?_
  refine LW.go rfl rfl (OW.call c94 rfl (core_IndexFunc (l := l) (h_l.ext R0)) ?_)
  rintro _ w1 ⟨rfl, E1⟩
  refine ⟨_, rfl, ?_⟩
  replace H := H.grow E1
  replace R0 := H.ext
  refine LW.pure rfl rfl (RV.geq rfl rfl) ?_
  refine LW.pure rfl rfl (RV.assign rfl) ?_
  refine LW.nil (hK2 _ _ ?_)
  refine CW.ret ?_
  refine ⟨_, (ResOK.one rfl), ?_⟩
  refine ⟨?_, R0⟩
  · have e : decide (0 ≤ badIdx l) = !(l.all okD) := by unfold badIdx; cases l.all okD <;> simp
    rw [e]

set_option maxRecDepth 20000 in
theorem core_dated {c : Core} {A_c_bounds : Option Addr} {c_c_bounds : Nat} {l : List Int} {A_l : Option Addr} {c_l : Nat} {w : World} (h_c_bounds : Sl w A_c_bounds c_c_bounds 3 (c.bounds.map encB)) (h_l : Sl w A_l c_l 1 (l.map encI)) : Calls Try.prog 67 #[.agg #[.int .i64 c.layers, .slice A_c_bounds c.bounds.length c_c_bounds], .slice A_l l.length c_l] w (Ret w (.int .i64 (datedE c l))) := by
  refine calls_of_cw (args := [.agg #[.int .i64 c.layers, .slice A_c_bounds c.bounds.length c_c_bounds], .slice A_l l.length c_l]) Try.func67 rfl rfl rfl rfl ?_
  have H := Hp.start w
  have R0 := H.ext
  refine CW.seq fun K1 hK1 => ?_
  refine CW.region ?_
  refine LW.go rfl rfl (OW.box rfl fun b1 w1 N1 => ?_)
  replace H : Hp w w1 [.blk b1 24 [.int .i64 c.layers, .slice A_c_bounds c.bounds.length c_c_bounds]] := H.new N1 N1.blk
  replace R0 := H.ext
  refine LW.pure rfl rfl (RV.assign rfl) ?_
  refine LW.nil (hK1 _ _ ?_)
  refine CW.seq fun K2 hK2 => ?_
  refine CW.seq fun K3 hK3 => ?_
  refine CW.region ?_
  refine LW.pure rfl rfl (RV.loadA [.int .i64 c.layers, .slice A_c_bounds c.bounds.length c_c_bounds] k24 rfl (H.blk 0 rfl).cells rfl rfl) ?_
  refine LW.go rfl rfl (OW.call c36 rfl (core_Validate (c := c) (h_c_bounds.ext R0)) ?_)
  rintro _ w2 ⟨rfl, E1⟩
  refine ⟨_, rfl, ?_⟩
  replace H := H.grow E1
  replace R0 := H.ext
  refine LW.pure rfl rfl (RV.assign rfl) ?_
  refine LW.nil (hK3 _ _ ?_)
  refine CW.seq fun K4 hK4 => ?_
  refine CW.region ?_
  refine LW.pure rfl rfl (RV.move rfl) ?_
  refine LW.pure rfl rfl (RV.nei rfl rfl) ?_
  refine LW.nil (hK4 _ _ ?_)
  refine CW.cond rfl (fun h1 => ?_) (fun h1 => ?_)
  ·
    have h1 := (Bool.not_eq_true' _).mp h1
    have h1 := of_decide_eq_false h1
    refine CW.seq fun K5 hK5 => ?_
    refine CW.region ?_
    refine LW.pure rfl rfl (RV.move rfl) ?_
    refine LW.pure rfl rfl (RV.assign rfl) ?_
    refine LW.nil (hK5 _ _ ?_)
    refine CW.ret ?_
    refine ⟨_, (ResOK.one rfl), ?_⟩
    refine ⟨?_, R0⟩
    · simp [datedE, isDatesS, h1]
  ·
    have h1 := (Bool.not_eq_false' _).mp h1
    have h1 := of_decide_eq_true h1
    refine CW.skip (hK2 _ _ ?_)
    refine CW.seq fun K6 hK6 => ?_
    refine CW.seq fun K7 hK7 => ?_
    refine CW.region ?_
    refine LW.pure rfl rfl (RV.move rfl) ?_
    refine LW.pure rfl rfl (RV.len s43 rfl) ?_
    refine LW.pure rfl rfl (RV.fieldAddr f24_0 rfl) ?_
    refine LW.pure rfl rfl (RV.load1 k3 rfl ((H.blk 0 rfl).cells.off 0) rfl) ?_
    refine LW.pure rfl rfl (RV.nei rfl rfl) ?_
    refine LW.pure rfl rfl (RV.move rfl) ?_
    cases h2 : !(decide ((((l.length : Nat) : Int)) = c.layers))
    ·
      have h2 := (Bool.not_eq_false' _).mp h2
      have h2 := of_decide_eq_true h2
      refine LW.pureY rfl rfl rfl rfl (RV.move rfl) ?_
      refine LW.yes rfl rfl rfl rfl (OW.call c85 rfl (core_ContainsFunc (l := l) (h_l.ext R0)) ?_)
      rintro _ w3 ⟨rfl, E2⟩
      refine ⟨_, rfl, ?_⟩
      replace H := H.grow E2
      replace R0 := H.ext
      refine LW.pure rfl rfl (RV.pickF rfl rfl) ?_
      refine LW.nil (hK7 _ _ ?_)
      refine CW.cond rfl (fun h3 => ?_) (fun h3 => ?_)
      ·
        have h3 := (Bool.not_eq_true' _).mp h3
        refine CW.seq fun K8 hK8 => ?_
        refine CW.region ?_
        refine LW.pure rfl rfl (RV.assign rfl) ?_
        refine LW.nil (hK8 _ _ ?_)
        refine CW.ret ?_
        refine ⟨_, (ResOK.one rfl), ?_⟩
        refine ⟨?_, R0⟩
        · simp [datedE, isDatesS, h1, h2, h3]
      ·
        have h3 := (Bool.not_eq_false' _).mp h3
        refine CW.skip (hK6 _ _ ?_)
        refine CW.seq fun K9 hK9 => ?_
        refine CW.region ?_
        refine LW.pure rfl rfl (RV.assign rfl) ?_
        refine LW.nil (hK9 _ _ ?_)
        refine CW.ret ?_
        refine ⟨_, (ResOK.one rfl), ?_⟩
        refine ⟨?_, R0⟩
        · simp [datedE, isDatesS, h1, h2, h3]
    ·
      have h2 := (Bool.not_eq_true' _).mp h2
      have h2 := of_decide_eq_false h2
      refine LW.no rfl rfl rfl rfl rfl ?_
      refine LW.no rfl rfl rfl rfl rfl ?_
      refine LW.pure rfl rfl (RV.pickT rfl rfl) ?_
      refine LW.nil (hK7 _ _ ?_)
      refine CW.cond rfl (fun _ => ?_) (fun h => by cases h)
      refine CW.seq fun K10 hK10 => ?_
      refine CW.region ?_
      refine LW.pure rfl rfl (RV.assign rfl) ?_
      refine LW.nil (hK10 _ _ ?_)
      refine CW.ret ?_
      refine ⟨_, (ResOK.one rfl), ?_⟩
      refine ⟨?_, R0⟩
      · simp [datedE, isDatesS, h1, h2]

end Go.Core
