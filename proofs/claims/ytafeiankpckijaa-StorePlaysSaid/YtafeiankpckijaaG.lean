/- The walk of remove. -/
import Derived.Test.YtafeiankpckijaaG0
namespace Go.Proofs.Ytafeiankpckijaa
open Go.RowKit
set_option linter.unusedSimpArgs false
set_option linter.unusedVariables false
attribute [local go_sem ↓] Go.wp_at_zero Go.wp_at_succ
set_option maxRecDepth 100000 in
set_option maxHeartbeats 2000000 in
theorem remove_any (w : World) (a : Nat) (c : C) (l r : List Nat) (i k j : Nat) (E : List (Nat × Nat)) (h : Mem w a c) (hl : Linked c (l ++ i :: r)) (hkey : c.key i = sumC k) (hk : k < 65536) (he : Ents c.es.toList E) (hE : ∀ p ∈ E, p.1 < 65536)
    (hs : seek k E 0 = some (j, i)) (hnf : c.nf < c.capf) (hby : (c.dl i : Int) ≤ c.bytes) (hby' : c.bytes ≤ 1000000000) :
    Calls Try.prog 46 #[.pointer (some ⟨a, 0, none⟩), .int .i64 i] w fun e w' => e = .returned (.tuple #[]) ∧ Mem w' a (c.removed i j) ∧ Only (fun k => k = a ∨ k = c.gs ∨ k = c.gf ∨ k = c.gm) w w' := by
  have hi : i < c.n := hl.lt i (by simp)
  obtain ⟨i0, q1, q2, q3, q4⟩ := info_parts infoAll3
  have ku := unlink_any w a c i h hi hl.spotP hl.spotN
  have KU := Lib.hid ku; clear ku
  have H := Lib.hid h; clear h
  have HL := Lib.hid hl; clear hl
  go_enter Try.func46, Try.ntmps46
  go_wp2_with fail
  refine KU.out.mono ?_
  rintro e w1 ⟨rfl, hm1, ho1⟩
  have h10 := hm1.cslots
  have h14 := hm1.cat
  have hr : w1.rangeAt c.gs (i * 36) (sumC k) := by have := hm1.ckey (i := i) hi; rw [← hkey]; exact this
  have hd := delete_run (w1.drew) hk hm1.drew.map he hE hs 0
  have hi38 : (Try.prog.info? 38).map (·.size) = some (sumC k).length := by rw [info38, sumC_len]
  have hlen := sumC_len k
  have hone : ∀ v ∈ sumC k, v.oneCell' = true := by
    intro v hv; obtain ⟨n, rfl, _⟩ := (sumC_ok k).2 v hv; rfl
  have hu38 := under38
  have b0 : (0 : Int) ≤ i := by omega
  have b1 : (i : Int) < c.n := by omega
  have HM1 := Lib.hid hm1; clear hm1
  have HO1 := Lib.hid ho1; clear ho1
  have HKEY := Lib.hid hkey; clear hkey
  have HS := Lib.hid hs; clear hs
  go_wp2_with fail
  go_region_held3 (fun w' => w'.cell? ⟨a, 0, none⟩ = some (.slice (some ⟨c.gs, 0, none⟩) c.n c.caps) ∧ w'.cell? ⟨a, 4, none⟩ = some (.map (some c.gm)) ∧ w'.rangeAt c.gs (i * 36) (sumC k)) (go_keep_ranges) ((refine step_delete rfl (.tmp 12) (.tmp 21) 30 38 (by rfl) _ _ (by rfl) (by rfl) _ hd ?_; intro w2 hw2; have hm2 : Mem w2 a { c.unlink i with es := c.es.eraseIdxIfInBounds j } := hw2 ▸ HM1.out.drew.setMap _ _; have ho2 : Only (fun k => k = a ∨ k = c.gs ∨ k = c.gf ∨ k = c.gm) w w2 := hw2 ▸ ((HO1.out.mono (fun k _ h => by rcases h with h | h <;> simp [h])).drew.setMap (gm := c.gm) (Or.inl (by simp)) _ _); have h20 : w2.cell? ⟨a, 0, none⟩ = some (.slice (some ⟨c.gs, 0, none⟩) c.n c.caps) := hm2.cslots; have h24 : w2.cell? ⟨a, 4, none⟩ = some (.map (some c.gm)) := hm2.cat; have hr2 : w2.rangeAt c.gs (i * 36) (sumC k) := (HKEY.out ▸ hm2.ckey (i := i) hi); have HM2 := Lib.hid hm2; have HO2 := Lib.hid ho2; clear hm2 ho2 hw2))
  clear h10 h14 hr hd hi38 hlen hone hu38 HM1 HO1
  have h27 : w2.cell? ⟨a, 7, none⟩ = some (.int .i64 c.bytes) := HM2.out.cbytes
  have hdat : w2.cell? ⟨c.gs, i * 36 + 32, none⟩ = some (.slice (c.da i) (c.dl i) (c.dc i)) := HM2.out.cdat (i := i) hi
  have f7 := HM2.out.fa 7
  go_wp2_with fail
  refine region_tail 17 (by kernel_rfl) (by kernel_rfl) ?_
  simp only [List.take_succ_cons, List.take_zero, List.drop_succ_cons, List.drop_zero]
  repeat go_big_quiet_step (fail)
  refine wpQuiet_nil ?_
  have hm3 : Mem (w2.drew.setCell ⟨a, 7, none⟩ (.int .i64 (c.bytes - c.dl i))) a { c.unlink i with es := c.es.eraseIdxIfInBounds j, bytes := c.bytes - c.dl i } := HM2.out.drew.setBytes _
  have ho3 := HO2.out.drew.setCell (p := ⟨a, 7, none⟩) (Or.inl (Or.inl rfl)) (.int .i64 (c.bytes - c.dl i))
  have HM3 := Lib.hid hm3; clear hm3
  have HO3 := Lib.hid ho3; clear ho3 h20 h24 hr2 hdat
  have HT := Lib.hid (show World.there (w2.drew.setCell ⟨a, 7, none⟩ (.int .i64 (c.bytes - c.dl i))) c.gs (i * 36) 36 from HM3.out.thereSlot (i := i) hi)
  have h30 : (w2.drew.setCell ⟨a, 7, none⟩ (.int .i64 (c.bytes - c.dl i))).cell? ⟨a, 0, none⟩ = some (.slice (some ⟨c.gs, 0, none⟩) c.n c.caps) := HM3.out.cslots
  go_wp2_with (first
    | ((with_reducible refine gate_store 75 rfl ?_); go_must (refine wpList_store_whole rfl 75 _ _ rfl c.gs (i * 36) _ (by rfl) (by rfl) (by exact HT.out) (by exact info75) (by kernel_rfl) ?_); intro w4 hw4; have hm4 : Mem w4 a (c.cleared i j) := hw4 ▸ HM3.out.clear hi; have ho4 : Only (fun k => k = a ∨ k = c.gs ∨ k = c.gf ∨ k = c.gm) w w4 := HO3.out.trans (hw4 ▸ HM3.out.onlyWhole (i := i) (Or.inr (Or.inl rfl)) hi zeroSlot_len); have h41 : w4.cell? ⟨a, 1, none⟩ = some (.slice (some ⟨c.gf, 0, none⟩) c.nf c.capf) := hm4.cfree; have own4 := Lib.hid (hm4.owns.alloc (.cells #[.int .i64 (i : Int)] 3)); have HM4 := Lib.hid hm4; have HO4 := Lib.hid ho4; clear hm4 ho4 hw4 h30)
    | (at_builtin; go_must (refine wpList_append_fits _ rfl (.tmp 52) (.tmp 54) 27 rfl 0 3 i0 1 under27 q1 q3 c.gf c.nf c.capf (freeV c) (by rfl) (by exact own4.out) ⟨w4.heap.size, 0, none⟩ 1 1 [.int .i64 (i : Int)] (by rfl) rfl (cell_one_new _ _ _) (ints_oneCell .i64 [(i : Int)]) (by omega) ?_); go_must (intro w5 hown5 hgrow5; have hm5 := (HM4.out.alloc (.cells #[.int .i64 (i : Int)] 3)).pushFree i hgrow5 hown5; have ho5 := (HO4.out.alloc (.cells #[.int .i64 (i : Int)] 3)).grown hgrow5 (Or.inl (by simp)); have hgh := (HM4.out.alloc (.cells #[.int .i64 (i : Int)] 3)).grown_hdr hgrow5 1; have f51 : w5.frozen? ⟨a, 1, none⟩ = false := hgh.2; have c51 : w5.cell? ⟨a, 1, none⟩ = some (.slice (some ⟨c.gf, 0, none⟩) c.nf c.capf) := hgh.1.trans (HM4.out.alloc (.cells #[.int .i64 (i : Int)] 3)).cfree; clear hgh; have HM5 := Lib.hid hm5; have HO5 := Lib.hid ho5; clear hm5 ho5 hown5 hgrow5 own4)))
  go_end0
  exact ⟨rfl, HM5.out, HO5.out.setCell (Or.inl (Or.inl rfl)) _⟩
end Go.Proofs.Ytafeiankpckijaa
