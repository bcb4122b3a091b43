/- The walk of List. -/
import Derived.Test.YtafeiankpckijaaQ
import Derived.Great.BuildSlice
import Derived.Laws.AppendOwnNone
namespace Go.Proofs.Ytafeiankpckijaa
open Go.RowKit
set_option linter.unusedSimpArgs false
set_option linter.unusedVariables false
attribute [local go_sem ↓] Go.wp_at_zero Go.wp_at_succ
section
variable {P : Program} {ops : Array Oper} {rest : List Oper} {o : Oper} {a : Act} {w : World} {Q : Exit → Act → World → Prop}
theorem gate_bs (t : TypeId) {n : Nat} {x : Array (Nat × Operand)} (_ : o.op = .buildSlice t n x) (h : wpList P ops Q (o :: rest) a w) : wpList P ops Q (o :: rest) a w := h
theorem wpList_bs (hg : o.guard = none) (t : TypeId) (len : Nat) (parts : Array (Nat × Operand)) (ho : o.op = .buildSlice t len parts) (vs : Array (Nat × Value)) (hv : (parts.map fun (i, x) => (i, a.eval x)) = vs) (v : Value) (W : World)
    (hr : (Instr.buildSlice t len vs).run P w = .ok v W) (h : ∀ w2, w2 = W → wpList P ops Q rest (a.put o.dst v) w2) : wpList P ops Q (o :: rest) a w :=
  wpList_plain hg fun _ hK => by
    unfold Oper.wp execOp
    simp only [ho, hv, Sem.run_bind, hr, Result.andThen_ok]
    exact hK _ _ (h _ rfl)
end
theorem under45 : Try.prog.underlying 45 = some (.slice 38) := by kernel_rfl
def zeroSum : Value := .agg (List.replicate 32 (.int .u8 0)).toArray
theorem infoAll38 : (Try.prog.info? 38).map (fun i => (i.zero, i.size, i.bytes)) = some (some zeroSum, 32, 32) := by kernel_rfl
theorem bs45 (w : World) (k : Nat) : (Instr.buildSlice 45 1 #[(0, .agg (sumC k).toArray)]).run Try.prog w = .ok (.slice (some ⟨w.heap.size, 0, none⟩) 1 1) (w.alloc (.cells (sumC k).toArray 38)) := by
  obtain ⟨i0, q1, q2, q3, q4⟩ := info_parts infoAll38
  refine run_buildSlice w 45 38 1 _ _ i0 zeroSum under45 q1 q2 (by rw [q3]; omega) (by rw [q3]; omega) ?_
  rw [q3]
  kernel_rfl
theorem slotkey_one (k : Nat) : ∀ v ∈ sumC k, v.oneCell' = true := by
  intro v hv; obtain ⟨n, rfl, _⟩ := (sumC_ok k).2 v hv; rfl
theorem row_cells {w : World} {g k : Nat} {t : TypeId} (hb : w.heap[g]? = some (.cells (sumC k).toArray t (0, 0))) : ∀ j u, (sumC k)[j]? = some u → w.cell? ((⟨g, 0, none⟩ : Addr).add j) = some u := fun j u hj => by
  have ha : (⟨g, 0, none⟩ : Addr).add j = ⟨g, j, none⟩ := by unfold Addr.add; split <;> simp_all
  rw [ha, cell_of_row _ _ _ _ _ _ hb]; simpa using hj
theorem only_grown {w w4 w5 : World} {e : TypeId} {s n : Nat} {v : Value} {xs : List Value} (h : Only (fun _ => False) w w4) (hg : w4.grownBy w5 v.ownBlock) (ho : w4.ownsRow w.heap.size e s v n xs) : Only (fun _ => False) w w5 :=
  ⟨hg.os.trans h.os, hg.tape.trans h.tape, hg.output.trans h.output, Nat.le_trans h.size hg.size, fun k hk hn =>
    (hg.block k (Nat.lt_of_lt_of_le hk h.size) (fun e => by have := ho.lt k e.symm; omega)).trans (h.block k hk hn)⟩
set_option maxHeartbeats 1000000 in
theorem list_any (w : World) (a : Nat) (F : Nat → Prop) (c : C) (ord : List Nat) (E : List (Nat × Nat)) (ch : Nat → Chunk) (h : Good w a F c ord E ch) :
    Calls Try.prog 24 #[.pointer (some ⟨a, 0, none⟩)] w fun e w' => ∃ v, e = .returned v ∧ w'.ownsRow w.heap.size 38 32 v ord.length (ord.flatMap fun i => sumC (ch i).key) ∧ Only (fun _ => False) w w' := by
  have K1 := Lib.hid (made_any a c.gm w h.mem.cat)
  obtain ⟨i0, q1, q2, q3, q4⟩ := info_parts infoAll38
  have hl64 : ord.length ≤ 64 := by have := h.flen; have := h.n64; omega
  have h2 := h.mem.cold
  rw [h.link.old] at h2
  have hu38 := under38
  have H := Lib.hid h; clear h
  have HQ := Lib.hid (And.intro q1 (And.intro q2 (And.intro q3 q4))); clear q1 q2 q3 q4
  go_enter Try.func24, Try.ntmps24
  go_wp2_with fail
  refine K1.out.mono ?_
  rintro e w1 ⟨rfl, rfl⟩
  go_wp2_with fail
  go_loopg [3, 4] ord.length (fun g v3 v4 wl => ∃ l r : List Nat, v4 = .int .i64 (headI r) ∧ r.length = g ∧ Hid (ord = l ++ r ∧ Only (fun _ => False) w wl ∧ wl.ownsRow w.heap.size 38 32 v3 l.length (l.flatMap fun i => sumC (ch i).key)))
  case atStart => exact ⟨[], ord, rfl, rfl, Lib.hid ⟨rfl, Only.refl _ _, World.ownsRow_nil _ _ _ _⟩⟩
  case round =>
    obtain ⟨l, r, rfl, rfl, hlr⟩ := hrel
    clear h2 K1
    cases r with
    | nil =>
      simp only [headI_nil]
      go_wp2
      go_ret
      refine ⟨_, rfl, ?_, hlr.out.2.1⟩
      have := hlr.out.2.2
      have e := hlr.out.1
      simp only [List.append_nil] at e
      rw [e]; exact this
    | cons i r' =>
      have hg1 := H.out.only hlr.out.2.1 (fun _ _ h => h)
      have hi : i < c.n := hg1.link.lt i (by rw [hlr.out.1]; simp)
      have hm : i ∈ ord := by rw [hlr.out.1]; simp
      have c0 := hg1.mem.cslots
      have c2 := hg1.mem.cnext hi
      have hn : c.next i = headI r' := by have := hg1.link; rw [hlr.out.1] at this; exact this.nextI
      rw [hn] at c2
      have HN := Lib.hid hn
      clear hn
      have hr0 := hg1.mem.ckey hi
      rw [(hg1.key i hm).1] at hr0
      have HR := Lib.hid hr0; clear hr0
      have HG1 := Lib.hid hg1; clear hg1
      have hi38 := infoSum (ch i).key
      have HI := Lib.hid hi38; clear hi38
      simp only [headI_cons]
      have b0 : (0 : Int) ≤ i := by omega
      have b1 : (i : Int) < c.n := by omega
      have b2 : ((i : Int) != -1) = true := by simp
      have hll : l.length ≤ 64 := by have := congrArg List.length hlr.out.1; simp at this; omega
      have hsz := hlr.out.2.1.size
      go_wp2_with (first
        | ((with_reducible refine gate_load 38 rfl ?_); refine wpList_load_mid rfl 38 _ rfl c.gs (i * 36) (by rfl) (sumC (ch i).key) _ HR.out under38 rfl HI.out ?_)
        | ((with_reducible refine gate_bs 45 rfl ?_); go_must (refine wpList_bs rfl 45 1 _ rfl _ (by simp only [List.map_toArray, List.map_cons, List.map_nil]; rfl) _ _ (bs45 _ (ch i).key) ?_); intro w4 hw4; have ho4 : Only (fun _ => False) w w4 := hw4 ▸ hlr.out.2.1.alloc _; have hown4 := Lib.hid (show w4.ownsRow w.heap.size 38 32 _ l.length _ from hw4 ▸ hlr.out.2.2.alloc (.cells (sumC (ch i).key).toArray 38)); have hb4 : w4.heap[wr.heap.size]? = some (.cells (sumC (ch i).key).toArray 38 (0, 0)) := hw4 ▸ heap_alloc_new _ _; have hs4 : w.heap.size ≤ w4.heap.size := ho4.size; have HB4 := Lib.hid hb4; have HO4 := Lib.hid ho4; clear ho4 hb4 hw4)
        | (at_builtin; go_must (refine wpList_append_own _ rfl (.tmp 25) (.tmp 35) 45 rfl w.heap.size 38 i0 zeroSum 32 32 under45 HQ.out.1 HQ.out.2.1 HQ.out.2.2.1 HQ.out.2.2.2 (by rfl) (by decide) _ l.length _ (by rfl) (by exact hown4.out) ⟨wr.heap.size, 0, none⟩ 1 1 (sumC (ch i).key) (by rfl) (by rw [sumC_len]) (by exact row_cells HB4.out) (slotkey_one _) (by unfold maxLen; omega) (by omega) hs4 ?_); intro v5 w5 hown5 hgrow5 hnil5; have ho5 : Only (fun _ => False) w w5 := only_grown HO4.out hgrow5 hown4.out; have HOW5 := Lib.hid hown5; have HO5 := Lib.hid ho5; have hg5 := H.out.only ho5 (fun _ _ h => h); have c0 := hg5.mem.cslots; have c2 := hg5.mem.cnext hi; clear hown5 hgrow5 hnil5 ho5 hg5))
      go_roundg r'.length
      case measure => simp
      case rel => exact ⟨l ++ [i], r', by rw [HN.out], rfl, Lib.hid ⟨by rw [hlr.out.1]; simp, HO5.out, by simpa using HOW5.out⟩⟩
end Go.Proofs.Ytafeiankpckijaa
