/- The walk of StoreNobody. -/
import Derived.Test.YtafeiankpckijaaUA
namespace Go.Proofs.Ytafeiankpckijaa
open Go.RowKit
set_option linter.unusedSimpArgs false
set_option linter.unusedVariables false
attribute [local go_sem ↓] Go.wp_at_zero Go.wp_at_succ
set_option maxRecDepth 100000 in
set_option maxHeartbeats 8000000 in
theorem nobody_law (AW : Awake) (W : World) (d : D) (hdat : DataAt W (fun y => y < W.heap.size) d.ao d.b) :
    Calls Try.prog 3 #[.agg d.cells.toArray] W (Law W) := by
  have HAW := Lib.hid AW; clear AW
  have ho0 := (Only.refl (fun _ => False) W).alloc (.cells d.cells.toArray 24)
  have HB0 := Lib.hid (And.intro ho0 (box_new W d 24))
  clear ho0 hdat
  unfold D.cells at HB0 ⊢
  go_enter Try.func3, Try.ntmps3
  go_upto_region 1 with fail
  generalize W.alloc (.cells #[Value.int .i64 d.op, .int .i64 d.id, .slice d.ao d.b.length d.cap, .int .i64 d.n] 24) = W1 at *
  generalize W.heap.size = g at *
  go_wp2_with fail
  have ho2 : Only (fun _ => False) W1 ((W1.alloc (.cells #[Value.slice none 0 0, .slice none 0 0, .int .i64 0, .int .i64 0, .map none, .int .i64 0, .int .i64 0, .int .i64 0] 32)).alloc (.cells #[Value.pointer none, .pointer (some ⟨W1.heap.size, 0, none⟩)] 25)) := ((Only.refl _ W1).alloc _).alloc _
  have hc4 : ((W1.alloc (.cells #[Value.slice none 0 0, .slice none 0 0, .int .i64 0, .int .i64 0, .map none, .int .i64 0, .int .i64 0, .int .i64 0] 32)).alloc (.cells #[Value.pointer none, .pointer (some ⟨W1.heap.size, 0, none⟩)] 25)).cell? ⟨W1.heap.size, 4, none⟩ = some (.map none) :=
    ((Only.refl (fun _ => False) (W1.alloc (.cells #[Value.slice none 0 0, .slice none 0 0, .int .i64 0, .int .i64 0, .map none, .int .i64 0, .int .i64 0, .int .i64 0] 32))).alloc _).cell (cell_of_row _ _ _ _ _ _ (heap_alloc_new _ _)) (fun h => h)
  have hs1 := heap_alloc_new (W1.alloc (.cells #[Value.slice none 0 0, .slice none 0 0, .int .i64 0, .int .i64 0, .map none, .int .i64 0, .int .i64 0, .int .i64 0] 32)) (.cells #[Value.pointer none, .pointer (some ⟨W1.heap.size, 0, none⟩)] 25)
  have hsz : (W1.alloc (.cells #[Value.slice none 0 0, .slice none 0 0, .int .i64 0, .int .i64 0, .map none, .int .i64 0, .int .i64 0, .int .i64 0] 32)).heap.size = W1.heap.size + 1 := by simp
  rw [hsz] at hs1
  have hc0 : ((W1.alloc (.cells #[Value.slice none 0 0, .slice none 0 0, .int .i64 0, .int .i64 0, .map none, .int .i64 0, .int .i64 0, .int .i64 0] 32)).alloc (.cells #[Value.pointer none, .pointer (some ⟨W1.heap.size, 0, none⟩)] 25)).cell? ⟨W1.heap.size + 1, 0, none⟩ = some (.pointer none) := cell_of_row _ _ _ _ _ _ hs1
  have hc1 : ((W1.alloc (.cells #[Value.slice none 0 0, .slice none 0 0, .int .i64 0, .int .i64 0, .map none, .int .i64 0, .int .i64 0, .int .i64 0] 32)).alloc (.cells #[Value.pointer none, .pointer (some ⟨W1.heap.size, 0, none⟩)] 25)).cell? ⟨W1.heap.size + 1, 1, none⟩ = some (.pointer (some ⟨W1.heap.size, 0, none⟩)) := cell_of_row _ _ _ _ _ _ hs1
  clear hs1 hsz
  generalize ((W1.alloc (.cells #[Value.slice none 0 0, .slice none 0 0, .int .i64 0, .int .i64 0, .map none, .int .i64 0, .int .i64 0, .int .i64 0] 32)).alloc (.cells #[Value.pointer none, .pointer (some ⟨W1.heap.size, 0, none⟩)] 25)) = w3 at *
  generalize W1.heap.size = a at *
  have HC := Lib.hid (And.intro hc0 (And.intro hc1 hc4))
  have HO := Lib.hid (And.intro (HB0.out.1.trans ho2) (HB0.out.2.frame ho2))
  clear hc0 hc1 hc4 ho2 HB0
  go_loopg [11] 2 (fun gg v wl => ∃ i : Nat, v = .int .i64 i ∧ Hid (i + gg = 2 ∧ Only (fun _ => False) w3 wl))
  case atStart => exact ⟨0, rfl, Lib.hid ⟨by omega, Only.refl _ _⟩⟩
  case round =>
    obtain ⟨i, rfl, hh⟩ := hrel
    obtain ⟨hig, hol⟩ := hh.out
    clear hh
    by_cases hi : i < 2
    · have hi' : (i : Int) < 2 := by omega
      have b0 : (0 : Int) ≤ i := by omega
      obtain ⟨v, hcv, hno⟩ : ∃ v, wr.cell? ⟨a + 1, i, none⟩ = some v ∧ Nobody wr v := by
        have h01 : i = 0 ∨ i = 1 := by omega
        rcases h01 with rfl | rfl
        · exact ⟨_, hol.cell HC.out.1 (fun h => h), Or.inl rfl⟩
        · exact ⟨_, hol.cell HC.out.2.1 (fun h => h), Or.inr ⟨a, rfl, hol.cell HC.out.2.2 (fun h => h)⟩⟩
      obtain ⟨d0, d1, d2, d3⟩ := HO.out.2.frame hol
      have HNO := Lib.hid (And.intro hno hol)
      clear hno hol
      go_wp2_with fail
      refine (sum_any d.id _).mono ?_
      rintro e wx ⟨rfl, ho⟩
      replace HNO := Lib.hid (And.intro (HNO.out.1.frame ho) (HNO.out.2.trans ho))
      replace d1 := ho.cell d1 (fun h => h)
      replace d2 := ho.cell d2 (fun h => h)
      clear ho d0 d3 hcv
      go_wp2_with fail
      refine (get_nobody _ _ _ HNO.out.1).mono ?_
      rintro e wx ⟨rfl, ho⟩
      replace HNO := Lib.hid (And.intro (HNO.out.1.frame ho) (HNO.out.2.trans ho))
      replace d1 := ho.cell d1 (fun h => h)
      replace d2 := ho.cell d2 (fun h => h)
      clear ho
      go_wp2_with fail
      refine (wipe_nobody _ _ HNO.out.1).mono ?_
      rintro e wx ⟨rfl, ho⟩
      replace HNO := Lib.hid (And.intro (HNO.out.1.frame ho) (HNO.out.2.trans ho))
      replace d1 := ho.cell d1 (fun h => h)
      replace d2 := ho.cell d2 (fun h => h)
      clear ho
      go_upto_region 6 with fail
      have x1 : wx.drew.cell? ⟨g, 1, none⟩ = some (.int .i64 d.id) := d1
      have x2 : wx.drew.cell? ⟨g, 2, none⟩ = some (.slice d.ao d.b.length d.cap) := d2
      replace HNO := Lib.hid (And.intro (HNO.out.1.frame (Only.refl (fun _ => False) wx).drew) (HNO.out.2.trans (Only.refl (fun _ => False) wx).drew))
      clear d1 d2
      have hz1 : wrap64 0 = 0 := by unfold wrap64; rfl
      have hz2 : IntKind.i64.wrap 0 = 0 := by simp [IntKind.wrap, IntKind.bits, IntKind.signed]
      go_wp2_with fail
      go_region_held3 (fun w' => w'.cell? ⟨g, 1, none⟩ = some (.int .i64 d.id) ∧ w'.cell? ⟨g, 2, none⟩ = some (.slice d.ao d.b.length d.cap)) (with_reducible exact ⟨x1, x2⟩) (first
        | (go_at_call 14; refine (sum_any d.id _).mono ?_; rintro e wx ⟨rfl, ho⟩; replace HNO := Lib.hid (And.intro (HNO.out.1.frame ho) (HNO.out.2.trans ho)); replace x1 := ho.cell x1 (fun h => h); replace x2 := ho.cell x2 (fun h => h); clear ho)
        | (go_at_call 16; refine (mademade_nobody _ _ HNO.out.1).mono ?_; rintro e wx ⟨rfl, ho⟩; replace HNO := Lib.hid (And.intro (HNO.out.1.frame ho) (HNO.out.2.trans ho)); replace x1 := ho.cell x1 (fun h => h); replace x2 := ho.cell x2 (fun h => h); clear ho)
        | (go_at_call 17; refine (put_nobody _ _ _ _ _ _ HNO.out.1).mono ?_; rintro e wx ⟨rfl, ho⟩; replace HNO := Lib.hid (And.intro (HNO.out.1.frame ho) (HNO.out.2.trans ho)); replace x1 := ho.cell x1 (fun h => h); replace x2 := ho.cell x2 (fun h => h); clear ho)
        | (go_at_call 18; refine (pin_nobody _ _ _ HNO.out.1).mono ?_; rintro e wx ⟨rfl, ho⟩; replace HNO := Lib.hid (And.intro (HNO.out.1.frame ho) (HNO.out.2.trans ho)); replace x1 := ho.cell x1 (fun h => h); replace x2 := ho.cell x2 (fun h => h); clear ho)
        | (go_at_call 19; refine (unpin_nobody _ _ _ HNO.out.1).mono ?_; rintro e wx ⟨rfl, ho⟩; replace HNO := Lib.hid (And.intro (HNO.out.1.frame ho) (HNO.out.2.trans ho)); replace x1 := ho.cell x1 (fun h => h); replace x2 := ho.cell x2 (fun h => h); clear ho)
        | (go_at_call 20; refine (evict_nobody _ _ _ HNO.out.1).mono ?_; rintro e wx ⟨rfl, ho⟩; replace HNO := Lib.hid (And.intro (HNO.out.1.frame ho) (HNO.out.2.trans ho)); replace x1 := ho.cell x1 (fun h => h); replace x2 := ho.cell x2 (fun h => h); clear ho)
        | (go_at_call 21; refine (has_nobody _ _ _ HNO.out.1).mono ?_; rintro e wx ⟨rfl, ho⟩; replace HNO := Lib.hid (And.intro (HNO.out.1.frame ho) (HNO.out.2.trans ho)); replace x1 := ho.cell x1 (fun h => h); replace x2 := ho.cell x2 (fun h => h); clear ho)
        | (go_at_call 22; refine (len_nobody _ _ HNO.out.1).mono ?_; rintro e wx ⟨rfl, ho⟩; replace HNO := Lib.hid (And.intro (HNO.out.1.frame ho) (HNO.out.2.trans ho)); replace x1 := ho.cell x1 (fun h => h); replace x2 := ho.cell x2 (fun h => h); clear ho)
        | (go_at_call 23; refine (bytes_nobody _ _ HNO.out.1).mono ?_; rintro e wx ⟨rfl, ho⟩; replace HNO := Lib.hid (And.intro (HNO.out.1.frame ho) (HNO.out.2.trans ho)); replace x1 := ho.cell x1 (fun h => h); replace x2 := ho.cell x2 (fun h => h); clear ho)
        | (go_at_call 24; refine (list_nobody _ _ HNO.out.1).mono ?_; rintro e wx ⟨rfl, ho⟩; replace HNO := Lib.hid (And.intro (HNO.out.1.frame ho) (HNO.out.2.trans ho)); replace x1 := ho.cell x1 (fun h => h); replace x2 := ho.cell x2 (fun h => h); clear ho))
      clear x1 x2 hz1 hz2
      go_wp2
      go_roundg (2 - (i + 1))
      case measure => omega
      case rel => exact ⟨i + 1, by go_num, Lib.hid ⟨by omega, HNO.out.2⟩⟩
    · have hi' : ¬ (i : Int) < 2 := by omega
      have HOL := Lib.hid (HO.out.1.trans hol)
      clear hol
      go_wp2_with fail
      refine (HAW.out _).mono ?_
      rintro e w4 ⟨rfl, ho4⟩
      have HO4 := Lib.hid (HOL.out.trans ho4)
      clear ho4
      go_wp2
      go_ret
      exact ⟨rfl, HO4.out⟩
end Go.Proofs.Ytafeiankpckijaa
