/- Lemmas and walks that the proof of this claim uses: TbList. -/
import Derived.Test.YtmjadkjcbaohbaaTb9
namespace Go.Tb
/-- slices.Repeat, one round: what was filled is laid behind itself. -/
theorem repeat_step {enc : Int → List Value} {u : Value} {v : Int} (hu : enc v = [u]) (z : Int) (N m : Nat) (hz : (enc z).length = 1) (hm : m ≤ N) :
    over ((List.replicate m v ++ List.replicate (N - m) z).flatMap enc) m (List.replicate (min m (N - m)) u) = (List.replicate (m + min m (N - m)) v ++ List.replicate (N - (m + min m (N - m))) z).flatMap enc := by
  have f1 : ∀ k, (List.replicate k v).flatMap enc = List.replicate k u := by
    intro k; induction k with
    | zero => rfl
    | succ k ih => rw [List.replicate_succ, List.flatMap_cons, ih, hu, List.replicate_succ]; rfl
  obtain ⟨y, hy⟩ : ∃ y, enc z = [y] := by
    match h : enc z, hz with
    | [y], _ => exact ⟨y, rfl⟩
  have f2 : ∀ k, (List.replicate k z).flatMap enc = List.replicate k y := by
    intro k; induction k with
    | zero => rfl
    | succ k ih => rw [List.replicate_succ, List.flatMap_cons, ih, hy, List.replicate_succ]; rfl
  rw [List.flatMap_append, List.flatMap_append, f1, f2, f1, f2]
  unfold over
  rw [List.take_append_of_le_length (by simp), List.take_of_length_le (by simp), List.drop_append]
  simp only [List.length_replicate]
  rw [List.drop_of_length_le (by simp), List.nil_append, show m + min m (N - m) - m = min m (N - m) by omega, List.drop_replicate, List.replicate_append_replicate]
  rw [show N - m - min m (N - m) = N - (m + min m (N - m)) by omega]
end Go.Tb
namespace Go.Tb
theorem flatMap_replicate {enc : Int → List Value} {u : Value} {v : Int} (hu : enc v = [u]) : ∀ k, (List.replicate k v).flatMap enc = List.replicate k u
  | 0 => rfl
  | k + 1 => by rw [List.replicate_succ, List.flatMap_cons, flatMap_replicate hu k, hu, List.replicate_succ]; rfl
theorem fill_src {enc : Int → List Value} {u : Value} {v z : Int} {w : World} {b t N m : Nat} (hu : enc v = [u]) (f : Blk w b t ((List.replicate m v ++ List.replicate (N - m) z).flatMap enc)) : Cells w ⟨b, 0, none⟩ (List.replicate (min m (N - m)) u) := by
  have h := f.cells.take (min m (N - m))
  rw [List.flatMap_append, flatMap_replicate hu, List.take_append_of_le_length (by simp; omega), List.take_replicate] at h
  rwa [show min (min m (N - m)) m = min m (N - m) by omega] at h
theorem look_int {ρ : Env} {t : Nat} {k : IntKind} {a b : Int} (h : look ρ t = some (.int k a)) (e : a = b) : look ρ t = some (.int k b) := by rw [h, e]
end Go.Tb
