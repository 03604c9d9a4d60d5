/- A node of points: build. -/
import Derived.Test.YtehmbhdapgkbcaaBuildP
namespace Go.Proofs.Ytehmbhdapgkbcaa
open Go.RowKit

theorem one_point {x y : Int} {ps : List (Int × Int)} (hx : x % 4 = 0) (hy : y % 4 = 0) (hn : ps.Nodup) (hs : ∀ q ∈ ps, InP 0 x y q) (h0 : ps ≠ []) : ps = [(x, y)] := by
  have hq : ∀ q ∈ ps, q = (x, y) := fun q hq => by
    have h := hs q hq
    unfold InP at h
    rw [show (2 : Int) ^ (0 + 2) = 4 from rfl] at h
    apply Prod.ext <;> dsimp only <;> omega
  match ps, h0, hn, hq with
  | [q], _, _, hq => rw [hq q (by simp)]
  | q :: r :: l, _, hn, hq =>
    have h1 := hq q (by simp)
    have h2 := hq r (by simp)
    rw [h1, h2] at hn
    simp at hn

set_option maxHeartbeats 2000000 in
theorem build_leaf {w : World} {p : Nat} {F : Foot} {A : Ar} {v : Value} {ps : List (Int × Int)} {b n : Nat} {g : Int → Int → Option Nat} {x y : Int} (h : BldOk w p F A v ps b n g 0 x y) (h0 : ps ≠ []) :
    Calls Try.prog 51 #[.pointer (some ⟨p, 0, none⟩), .int .i64 2, ptV x y, v, .map (some b)] w (Ret p F A ps.length (BuildR g 0 x y ps) w) := by
  have hps := one_point h.xm h.ym h.nd h.sq h0
  subst hps
  obtain ⟨ar, ok, row, map, nf, nb, nd, sq, lf, xm, ym, x0, x1, y0, y1, room, len⟩ := h
  rw [show (2 : Int) ^ (0 + 2) = 4 from rfl] at x1 y1
  obtain ⟨gg, cap, rfl, _, _, hg⟩ := row.form (by simp)
  have hf := lf (x, y) (by simp)
  dsimp only at hf
  have hleaf := fun W (hW : ArS W p F A) => leaf_ret hW ok (by simp at room; omega) hf
  have hR : ∀ w e w', Ret p F A 1 (fun r A' => ndAt A'.nodes r = leafNd ((g x y).getD 0)) w e w' → Ret p F A 1 (BuildR g 0 x y [(x, y)]) w e w' := fun w e w' h => h.mono (fun r A' ok' _ hr h => ⟨by rw [h]; rfl, fun d => by
    simp only [cl]; rw [h]; simp [leafNd]⟩) (Nat.le_refl _)
  have hback : ∀ e w', Ret p F A 1 (fun r A' => ndAt A'.nodes r = leafNd ((g x y).getD 0)) (w.alloc (.cells #[.int .i64 x, .int .i64 y] 38)) e w' → Ret p F A 1 (BuildR g 0 x y [(x, y)]) w e w' := fun e w' h => (hR _ _ _ h).back ((Below.refl _ _).alloc (Nat.le_refl _) _)
  have hBa : Below w.heap.size w (w.alloc (.cells #[.int .i64 x, .int .i64 y] 38)) := (Below.refl _ _).alloc (Nat.le_refl _) _
  have hrow1 : PtRow (w.alloc (.cells #[.int .i64 x, .int .i64 y] 38)) (.slice (some ⟨gg, 0, none⟩) 1 cap) [(x, y)] := row.move (S := Only) (.of_new hBa) fun _ _ h => h
  obtain ⟨c0, c1⟩ := PtRow.at hrow1 (i := 0) (by simp)
  simp only [Nat.zero_mul, Nat.zero_add, List.getElem_cons_zero] at c0 c1
  have hlook := (map.new hBa).look (x := x) (y := y) (by unfold I64; omega) (by unfold I64; omega)
  clear hR hrow1 row map lf sq hBa
  simp only [List.length_cons, List.length_nil, Nat.zero_add]
  generalize (g x y).getD 0 = fl at *
  go_enter Try.func51, Try.ntmps51
  go_wp2_with fail
  refine (hleaf _ (ar.alloc _)).mono ?_
  rintro e w1 hret
  have hfin := hback _ _ hret
  obtain ⟨r, err, F', A', rfl, -⟩ := hret
  go_wp2
  go_ret2
  exact hfin

end Go.Proofs.Ytehmbhdapgkbcaa
