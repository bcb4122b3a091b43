/- The walk of StoreBounds. -/
import Derived.Test.YtafeiankpckijaaLM
namespace Go.Proofs.Ytafeiankpckijaa
open Go.RowKit
set_option linter.unusedSimpArgs false
set_option linter.unusedVariables false
attribute [local go_sem ↓] Go.wp_at_zero Go.wp_at_succ
theorem touch_head {x : Chunk} {M : List Chunk} (h : x.key ∉ M.map (·.key)) : touch x.key (x :: M) = M ++ [x] := by
  have h1 : ∀ y ∈ M, y.key ≠ x.key := fun y hy e => h (List.mem_map.2 ⟨y, hy, e⟩)
  have := split_oth (k := x.key) (A := []) (B := M) (X := x) rfl (by simp) h1
  have h2 := split_own (k := x.key) (A := []) (B := M) (X := x) rfl (by simp) h1
  simp only [List.nil_append] at this h2
  unfold touch; rw [this, h2]
theorem data_head {x : Chunk} {M : List Chunk} (h : x.key ∉ M.map (·.key)) : dataOf x.key (x :: M) = x.b := by
  have h1 : ∀ y ∈ M, y.key ≠ x.key := fun y hy e => h (List.mem_map.2 ⟨y, hy, e⟩)
  have h2 := split_own (k := x.key) (A := []) (B := M) (X := x) rfl (by simp) h1
  simp only [List.nil_append] at h2
  unfold dataOf; rw [h2]; rfl
theorem has_head {x : Chunk} {M : List Chunk} : hasL x.key (x :: M) = true := by unfold hasL; simp
/-- Behind so many Gets, in the list's order. -/
structure Turn (W w : World) (a most room p : Nat) (L : List Chunk) (j : Nat) (G : Nat → Prop) (v : Value) : Prop where
  mine : Mine2 W w a most room p (L.drop j ++ L.take j) G
  row : RowIn w G v (L.map (·.key))
  nodup : (L.map (·.key)).Nodup
theorem Turn.only {W w w' : World} {a most room p : Nat} {L : List Chunk} {j : Nat} {G : Nat → Prop} {v : Value} (h : Turn W w a most room p L j G v) (ho : Only (fun _ => False) w w') : Turn W w' a most room p L j G v := ⟨h.mine.frame ho, h.row.only ho, h.nodup⟩
theorem Turn.get {W w : World} {a most room p : Nat} {L : List Chunk} {j : Nat} {G : Nat → Prop} {v : Value} (h : Turn W w a most room p L j G v) (hj : j < L.length) :
    Calls Try.prog 13 #[Ptr a, Sum_ (L[j]).key] w fun e w' => ∃ bo cb G', e = .returned (.tuple #[.slice bo (L[j]).b.length cb, .int .i64 0]) ∧ Turn W w' a most room p L (j + 1) G' v := by
  have hdrop : L.drop j = L[j] :: L.drop (j + 1) := List.drop_eq_getElem_cons hj
  have hnd : (L[j]).key ∉ (L.drop (j + 1) ++ L.take j).map (·.key) := by
    have h1 := h.mine.mine.nodup
    rw [hdrop, List.cons_append, List.map_cons, List.nodup_cons] at h1
    exact h1.1
  have hk : (L[j]).key < 65536 := h.mine.mine.keys _ (List.mem_append_left _ (hdrop ▸ List.mem_cons_self ..))
  refine (h.mine.getIn hk).mono ?_
  rintro e w' ⟨bo, cb, G', rfl, h1, h2, h3, h4⟩
  rw [hdrop, List.cons_append] at h1 h2 ⊢
  rw [data_head hnd] at h1 ⊢
  rw [touch_head hnd] at h2
  refine ⟨bo, cb, G', by rw [getE_has has_head], ⟨?_, (h.row.beside h4).mono h3, h.nodup⟩⟩
  have e2 : L.drop (j + 1) ++ L.take (j + 1) = L.drop (j + 1) ++ L.take j ++ [L[j]] := by rw [List.take_succ_eq_append_getElem hj, List.append_assoc]
  rw [e2]; exact h2
theorem Mine2.listS {W w : World} {a most room p : Nat} {L : List Chunk} {G : Nat → Prop} (h : Mine2 W w a most room p L G) : Calls Try.prog 24 #[Ptr a] w fun e w' => ∃ ao cap G', e = .returned (.slice ao L.length cap) ∧ RowIn w' G' (.slice ao L.length cap) (L.map (·.key)) ∧ Mine2 W w' a most room p L G' ∧ (∀ y, G y → G' y) ∧ Only (fun _ => False) w w' := by
  refine h.listIn.mono ?_
  rintro e w' ⟨v, G', rfl, h1, h2, h3, h4⟩
  obtain ⟨ao, cap, rfl, h5⟩ := h1.keys
  rw [List.length_map] at h1 ⊢
  exact ⟨ao, cap, G', rfl, h1, h2, h3, h4⟩
theorem RowIn.at {w : World} {G : Nat → Prop} {ao : Option Addr} {cap n : Nat} {ks : List Nat} (h : RowIn w G (.slice ao n cap) ks) {j : Nat} (hj : j < ks.length) : ∃ g o, ao = some ⟨g, o, none⟩ ∧ w.rangeAt g (o + j * 32) (sumC ks[j]) := by
  obtain ⟨ao', cap', e, h5⟩ := h.keys
  simp only [Value.slice.injEq] at e
  obtain ⟨rfl, rfl, rfl⟩ := e
  obtain ⟨-, g, o, h6, h7⟩ := h5 j ks[j] (List.getElem?_eq_getElem hj)
  exact ⟨g, o, h6, h7⟩
theorem var_sum {w w2 : World} {k : Nat} {C : Array Value} (hC : C.size = 32) (h : w2 = (w.alloc (.cells C 38)).setCells w.heap.size 0 (sumC k)) : w2.rangeAt w.heap.size 0 (sumC k) ∧ Only (fun _ => False) w w2 := by
  subst h
  have ht : (w.alloc (.cells C 38)).there w.heap.size 0 32 := by rw [← hC]; exact box_there w C 38
  exact ⟨World.rangeAt_setCells_same _ _ _ _ (by rw [sumC_len]; exact ht), Only.setCells_new ((Only.refl _ w).alloc _) (Nat.le_refl _) _ _⟩
theorem sB_take {L : List Chunk} {j : Nat} (hj : j < L.length) : sB (L.take (j + 1)) = sB (L.take j) + (L[j]).b.length := by
  rw [List.take_succ_eq_append_getElem hj, sB_app]; simp [sB]
theorem sB_take_le {L : List Chunk} {j : Nat} : sB (L.take j) ≤ sB L := by
  conv => rhs; rw [← List.take_append_drop j L, sB_app]
  omega
set_option maxRecDepth 100000 in
set_option maxHeartbeats 8000000 in
theorem bounds_law (AW : Awake) (W : World) (n r : Int) (lo : Option Addr) (ds : List D) (cap : Nat) (hd : Dos W lo ds) (hold : Old W W.heap.size ds) (hl : ds.length ≤ 3000000000000) :
    Calls Try.prog 10 #[.int .i64 n, .int .i64 r, .slice lo ds.length cap] W (Law W) := by
  have K1 := Lib.hid (made_law W n r none [] 0 (fun i d h => by simp at h) (fun d h => by cases h) (by simp))
  have HAW := Lib.hid AW; clear AW
  have HE := Lib.hid (And.intro hd hold); clear hd hold
  go_enter Try.func10, Try.ntmps10
  go_wp2_with fail
  refine K1.out.mono ?_
  rintro e w1 ⟨v1, ok1, rfl, ho1, hm1⟩
  have HO1 := Lib.hid ho1
  have HM1 := Lib.hid hm1; clear ho1 hm1
  have KS1 := Lib.hid (short_any w1 lo ds cap (HE.out.1.frame HO1.out (fun _ _ h => h)) hl)
  have KA := Lib.hid (HAW.out w1)
  cases ok1 with
  | false =>
    go_wp2_with fail
    refine KA.out.mono ?_
    rintro e w4 ⟨rfl, ho⟩
    have HO4 := Lib.hid (HO1.out.trans ho); clear ho
    go_wp2
    go_ret
    exact ⟨rfl, HO4.out⟩
  | true =>
  go_wp2_with fail
  refine KS1.out.mono ?_
  rintro e w2 ⟨q1, rfl, rfl, hq1⟩
  have HQ1 := Lib.hid hq1; clear hq1
  cases q1 with
  | false =>
    go_wp2_with fail
    refine KA.out.mono ?_
    rintro e w4 ⟨rfl, ho⟩
    have HO4 := Lib.hid (HO1.out.trans ho); clear ho
    go_wp2
    go_ret
    exact ⟨rfl, HO4.out⟩
  | true =>
  obtain ⟨a, rfl, ma, -, -⟩ := HM1.out trivial
  have HM := Lib.hid ma
  have HQ := Lib.hid (HQ1.out rfl)
  clear ma HM1 KS1 KA K1 HQ1 HO1
  unfold Ptr at *
  go_wp2_with fail
  go_loopg [33] ds.length (fun g v wl => ∃ i : Nat, v = .int .i64 i ∧ Hid (i + g = ds.length ∧ ∃ L, Mine W wl a (mostOf n) (roomOf r) i L))
  case atStart => exact ⟨0, rfl, Lib.hid ⟨by omega, [], HM.out⟩⟩
  case round =>
    obtain ⟨i, rfl, hh⟩ := hrel
    obtain ⟨hig, L0, hm0⟩ := hh.out
    clear hh HM
    have hq1 := HQ.out.1
    by_cases hi : i < ds.length
    · have hi' : (i : Int) < (ds.length : Int) := by omega
      have b0 : (0 : Int) ≤ i := by omega
      have hmem : ds[i] ∈ ds := List.getElem_mem hi
      obtain ⟨sb, so, h1, h2, h3, h4, h5⟩ := HE.out.1.frame hm0.only (fun _ _ h => h) i ds[i] (List.getElem?_eq_getElem hi)
      have hdat : DataAt W (fun y => y < W.heap.size) ds[i].ao ds[i].b := HE.out.2 _ hmem
      have hlm : ds[i].b.length ≤ 1000000 := by have := len_mem hmem; have := HQ.out.2; omega
      generalize ds[i] = d at *
      have h1' := Lib.hid h1; clear h1
      obtain rfl := h1'.out
      clear h1' hmem
      have KD := Lib.hid ((hm0.frame ((Only.refl _ wr).alloc (.cells d.cells.toArray 24))).does (d := d) (by omega) hdat hlm)
      clear hm0 hdat hlm
      unfold D.cells Ptr at KD
      go_wp2_with fail
      refine KD.out.mono ?_
      rintro e wd ⟨rfl, hmd⟩
      generalize doL (mostOf n) (roomOf r) d L0 = L at hmd
      have KL := Lib.hid (Mine2.of hmd).listS
      have HBD := Lib.hid (And.intro hmd.bounds hmd.nodup)
      unfold Ptr at KL
      clear KD hmd h2 h3 h4 h5
      go_wp2_with fail
      refine KL.out.mono ?_
      rintro e we ⟨ao, cp, G, rfl, hrow, hme, -, -⟩
      have HT := Lib.hid (show Turn W we a (mostOf n) (roomOf r) (i + 1) L 0 G (.slice ao L.length cp) from ⟨by simpa using hme, hrow, HBD.out.2⟩)
      clear KL hrow hme
      go_wp2_with fail
      go_loopg [11, 44] L.length (fun g v11 v44 wl => ∃ j : Nat, v44 = .int .i64 j ∧ v11 = .int .i64 (sB (L.take j)) ∧ Hid (j + g = L.length ∧ ∃ G, Turn W wl a (mostOf n) (roomOf r) (i + 1) L j G (.slice ao L.length cp)))
      case atStart => exact ⟨0, rfl, rfl, Lib.hid ⟨by omega, G, HT.out⟩⟩
      case round =>
        obtain ⟨j, rfl, rfl, hh⟩ := hrel
        obtain ⟨hjg, G', ht⟩ := hh.out
        clear hh HT
        have hkl : (L.map (·.key)).length = L.length := List.length_map ..
        have hl64 : L.length ≤ 64 := by have := HBD.out; omega
        by_cases hj : j < L.length
        · have hj' : (j : Int) < (L.length : Int) := by omega
          have c0 : (0 : Int) ≤ j := by omega
          obtain ⟨g, o, rfl, hr⟩ := ht.row.at (j := j) (by omega)
          have hke : (L.map (·.key))[j]'(by omega) = (L[j]).key := by simp
          rw [hke] at hr
          have HR := Lib.hid hr
          have HI := Lib.hid (infoSum (L[j]).key)
          have HSB := Lib.hid (And.intro (sB_take hj) (And.intro (sB_take_le (L := L) (j := j + 1)) HBD.out))
          have HTT := Lib.hid ht
          have HJ := Lib.hid hj
          have hwr : wrap64 ((sB (L.take j) : Int) + ((L[j]).b.length : Int)) = ((sB (L.take (j + 1)) : Nat) : Int) := by have := HSB.out.1; have := HSB.out.2.1; have := HSB.out.2.2.1; unfold wrap64; omega
          have HWR := Lib.hid hwr
          clear hr hke ht hwr
          go_wp2_with (first
            | ((with_reducible refine gate_load 38 rfl ?_); (refine wpList_load_mid rfl 38 _ rfl wr.heap.size 0 (by rfl) (sumC (L[j]).key) _ HV2.out under38 rfl HI.out ?_))
            | ((with_reducible refine gate_load 38 rfl ?_); (refine wpList_load_mid rfl 38 _ rfl g (o + j * 32) (by rfl) (sumC (L[j]).key) _ HR.out under38 rfl HI.out ?_))
            | ((with_reducible refine gate_store 38 rfl ?_); go_must (refine wpList_store_whole rfl 38 _ _ rfl wr.heap.size 0 (sumC (L[j]).key).toArray (by rfl) (by rfl) (by rw [ksize]; exact box_there wr _ 38) (by rw [ksize]; exact info38) (by kernel_rfl) ?_); intro w2 hw2; have hv := var_sum rfl hw2; have HV2 := Lib.hid hv.1; have HO2 := Lib.hid hv.2; have HGT := Lib.hid ((HTT.out.only hv.2).get HJ.out); clear hw2 hv)
            | fail)
          unfold Ptr Sum_ at HGT
          refine HGT.out.mono ?_
          rintro e w3 ⟨b1, c1, G2, rfl, ht2⟩
          have HT2 := Lib.hid ht2
          have hwr := HWR.out
          clear HGT HTT ht2 HV2 HO2 HR
          go_wp2
          go_roundg (L.length - (j + 1))
          case measure => omega
          case rel => exact ⟨j + 1, by go_num, congrArg (Value.int .i64) HWR.out, Lib.hid ⟨by omega, G2, HT2.out⟩⟩
        · have hj' : ¬ (j : Int) < (L.length : Int) := by omega
          have hje : j = L.length := by omega
          have hm4 := ht.mine
          have hrw4 := ht.row
          rw [hje, List.drop_length, List.take_length, List.nil_append] at hm4
          rw [show L.take j = L by rw [hje, List.take_length]]
          have HM4 := Lib.hid hm4
          have HR4 := Lib.hid hrw4
          have KB := Lib.hid hm4.mine.bytes
          have KN := Lib.hid hm4.mine.len
          have KL := Lib.hid hm4.listS
          have bd := HBD.out
          have hw1 := mod_wrap n 64 (Or.inl rfl)
          have hw2 := mod_wrap r 8192 (Or.inr rfl)
          have e1 : (1 + n % 64 : Int) = (mostOf n : Nat) := by unfold mostOf; omega
          have e2 : (1 + r % 8192 : Int) = (roomOf r : Nat) := by unfold roomOf; omega
          have m1 : 1 ≤ mostOf n ∧ mostOf n ≤ 64 := by unfold mostOf; omega
          have r1 : 1 ≤ roomOf r ∧ roomOf r ≤ 8192 := by unfold roomOf; omega
          have t1 : decide ((mostOf n : Int) < (L.length : Int)) = false := decide_eq_false (by omega)
          have t2 : decide ((roomOf r : Int) < (sB L : Int)) = false := decide_eq_false (by omega)
          have t3 : decide (mostOf n < L.length) = false := decide_eq_false (by omega)
          have t4 : decide (roomOf r < sB L) = false := decide_eq_false (by omega)
          unfold Ptr at KB KN KL
          clear ht hm4 hrw4 hje hkl
          go_wp2_with fail
          refine KB.out.mono ?_
          rintro e w4 ⟨rfl, rfl⟩
          go_wp2_with fail
          refine KN.out.mono ?_
          rintro e w5 ⟨rfl, rfl⟩
          go_wp2_with fail
          refine KN.out.mono ?_
          rintro e w6 ⟨rfl, rfl⟩
          go_wp2_with fail
          refine KL.out.mono ?_
          rintro e w7 ⟨ao2, cp2, G3, rfl, hr7, hm7, -, ho7⟩
          have KQ := Lib.hid (eq_same hr7.keys (HR4.out.only ho7).keys (by rw [List.length_map]; omega))
          have HM7 := Lib.hid hm7.mine
          clear KL KN KB hr7 hm7 ho7 HM4 HR4 bd
          go_wp2_with fail
          refine KQ.out.mono ?_
          rintro e w8 ⟨rfl, ho8⟩
          have HM8 := Lib.hid (HM7.out.frame ho8)
          clear KQ ho8 HM7
          go_wp2
          go_roundg (ds.length - (i + 1))
          case measure => omega
          case rel => exact ⟨i + 1, by go_num, Lib.hid ⟨by omega, _, HM8.out⟩⟩
    · have hi' : ¬ (i : Int) < (ds.length : Int) := by omega
      have HO := Lib.hid hm0.only
      clear hm0
      go_wp2_with fail
      refine (HAW.out _).mono ?_
      rintro e w4 ⟨rfl, ho4⟩
      have HO4 := Lib.hid (HO.out.trans ho4)
      clear ho4
      go_wp2
      go_ret
      exact ⟨rfl, HO4.out⟩
end Go.Proofs.Ytafeiankpckijaa
