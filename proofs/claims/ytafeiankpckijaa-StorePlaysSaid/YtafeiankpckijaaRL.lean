/- A round of StorePlays: the store, the document's one, and the rows that the law writes. -/
import Derived.Test.YtafeiankpckijaaRK
import Derived.Test.YtafeiankpckijaaBE
import Derived.Test.YtafeiankpckijaaGG
namespace Go.Proofs.Ytafeiankpckijaa
open Go.RowKit
set_option linter.unusedSimpArgs false
set_option linter.unusedVariables false
/-- In a round: the store holds M, the document's one holds L; the Do lies at g. -/
structure Rnd (W w : World) (a r most room p : Nat) (M L : List Chunk) (G G1 : Nat → Prop) (d : D) (g : Nat) : Prop where
  mine : Mine2 W w a most room p M G1
  ref : RefL W w r most room L G
  sub : ∀ y, G y → G1 y
  box : BoxAt w g d
  inG1 : G1 g
  outG : ¬ G g
/-- A row that the law writes: neither store knows it. -/
structure Mut (w : World) (G G1 : Nat → Prop) (v : Value) (n : Nat) (g : Nat) : Prop where
  own : ∃ (B : Nat) (cs : List Int), w.ownsRow B 5 1 v n (cs.map (Value.int .u8))
  out : ∀ y, v.ownBlock = some y → G1 y ∧ ¬ G y ∧ y ≠ g
section
variable {W w w' : World} {a r most room p : Nat} {M L : List Chunk} {G G1 : Nat → Prop} {d : D} {g : Nat}
theorem BoxAt.but {F : Nat → Prop} (h : BoxAt w g d) (ho : Only F w w') (hg : ¬ F g) : BoxAt w' g d := ⟨ho.cell h.1 hg, ho.cell h.2.1 hg, ho.cell h.2.2.1 hg, ho.cell h.2.2.2 hg⟩
theorem BoxAt.lt (h : BoxAt w g d) : g < w.heap.size := block_lt_of_cell h.1
theorem Rnd.beside (h : Rnd W w a r most room p M L G G1 d g) {q : Nat} {M' : List Chunk} (hm : Mine2 W w' a most room q M' G1) (hb : Beside G1 w w') : Rnd W w' a r most room q M' L G G1 d g :=
  ⟨hm, h.ref.beside (Only.mono hb (fun y _ hn hg => hn (h.sub y hg))), h.sub, h.box.but hb (fun hn => hn h.inG1), h.inG1, h.outG⟩
theorem Rnd.besideG (h : Rnd W w a r most room p M L G G1 d g) {q : Nat} {M' : List Chunk} (hm : Mine2 W w' a most room q M' (grow G1 w w')) (hb : Beside G1 w w') : Rnd W w' a r most room q M' L G (grow G1 w w') d g :=
  ⟨hm, h.ref.beside (Only.mono hb (fun y _ hn hg => hn (h.sub y hg))), fun y hy => Or.inl (h.sub y hy), h.box.but hb (fun hn => hn h.inG1), Or.inl h.inG1, h.outG⟩
theorem Rnd.turn (h : Rnd W w a r most room p M L G G1 d g) {L' : List Chunk} (hr : RefL W w' r most room L' (grow G w w')) (ho : Only (fun y => y = r) w w') : Rnd W w' a r most room p M L' (grow G w w') (grow G1 w w') d g :=
  ⟨h.mine.turn (h.sub r h.ref.rG) ho, hr, fun y hy => by rcases hy with hy | hy; exact Or.inl (h.sub y hy); exact Or.inr hy,
    h.box.but ho (fun e => h.outG (e ▸ h.ref.rG)), Or.inl h.inG1, fun hy => by rcases hy with hy | hy; exact h.outG hy; have := h.box.lt; omega⟩
theorem Rnd.only (h : Rnd W w a r most room p M L G G1 d g) (ho : Only (fun _ => False) w w') : Rnd W w' a r most room p M L G G1 d g :=
  ⟨h.mine.frame ho, h.ref.only ho, h.sub, h.box.frame ho, h.inG1, h.outG⟩
theorem Rnd.rows (h : Rnd W w a r most room p M L G G1 d g) (ho : Only (fun y => G1 y ∧ ¬ G y ∧ y ≠ g) w w') : Rnd W w' a r most room p M L G G1 d g :=
  ⟨h.mine.rows (ho.mono (fun _ _ e => e.1)), h.ref.beside (ho.mono (fun _ _ e hg => e.2.1 hg)), h.sub, h.box.but ho (fun e => e.2.2 rfl), h.inG1, h.outG⟩
theorem Rnd.wipe (h : Rnd W w a r most room p M L G G1 d g) : ∃ old, w.cell? ⟨r, 2, none⟩ = some old ∧ w.frozen? ⟨r, 2, none⟩ = false ∧ Rnd W (w.setCell ⟨r, 2, none⟩ (.slice none 0 0)) a r most room p M [] (grow G w (w.setCell ⟨r, 2, none⟩ (.slice none 0 0))) (grow G1 w (w.setCell ⟨r, 2, none⟩ (.slice none 0 0))) d g := by
  obtain ⟨R, v, h1, h2⟩ := h.ref
  obtain ⟨k1, k2, k3, k4⟩ := ref_set (R' := []) (v' := .slice none 0 0) (G' := G) h2.hd (World.ownsRow_nil _ _ _ _) (fun g hg => by simp [Value.ownBlock] at hg) h2.rG (fun x hx => by cases hx) (fun x hx => by cases hx) h2.low
  refine ⟨v, k1, k2, h.turn ⟨[], _, rfl, k3.wide (fun y hy => Or.inl hy) (fun y hy => ?_)⟩ k4⟩
  rcases hy with hy | hy
  · exact k3.low y hy
  · have hs : (w.setCell ⟨r, 2, none⟩ (.slice none 0 0)).heap.size = w.heap.size := by simp [World.setCell]
    omega
theorem RefL.len (h : RefL W w r most room L G) : ∃ lo cap, w.cell? ⟨r, 2, none⟩ = some (.slice lo L.length cap) := by
  obtain ⟨R, v, rfl, h2⟩ := h
  obtain ⟨lo, cap, rfl⟩ := h2.row
  exact ⟨lo, cap, by rw [List.length_map]; exact h2.c2⟩
theorem Rnd.size (h : Rnd W w a r most room p M L G G1 d g) : W.heap.size ≤ w.heap.size := h.mine.only.size
theorem Rnd.pair (h : Rnd W w a r most room p L L G G1 d g) : Pair W w a r most room p L G G1 := ⟨h.mine, h.ref, h.sub⟩
variable {v : Value} {n : Nat}
theorem Mut.lt (h : Mut w G G1 v n g) : ∀ y, v.ownBlock = some y → y < w.heap.size := fun y hy => by obtain ⟨B, cs, h1⟩ := h.own; exact (h1.lt y hy).2
theorem Mut.but {F : Nat → Prop} (h : Mut w G G1 v n g) (ho : Only F w w') (hF : ∀ y, G1 y → ¬ G y → ¬ F y) : Mut w' G G1 v n g := by
  obtain ⟨B, cs, h1⟩ := h.own
  refine ⟨⟨B, cs, own_beside (G := fun y => G1 y ∧ ¬ G y) h1 (Only.mono ho (fun y _ hf hg => hF y hg.1 hg.2 hf)) (fun y hy => ⟨(h.out y hy).1, (h.out y hy).2.1⟩)⟩, h.out⟩
theorem Mut.only (h : Mut w G G1 v n g) (ho : Only (fun _ => False) w w') : Mut w' G G1 v n g := h.but ho (fun _ _ _ hf => hf)
theorem Mut.beside (h : Mut w G G1 v n g) (hb : Beside G1 w w') : Mut w' G G1 v n g := h.but hb (fun y hy _ hn => hn hy)
theorem Mut.grown (h : Mut w G G1 v n g) : Mut w (grow G w w') (grow G1 w w') v n g :=
  ⟨h.own, fun y hy => ⟨Or.inl (h.out y hy).1, fun e => by rcases e with e | e; exact (h.out y hy).2.1 e; have := h.lt y hy; omega, (h.out y hy).2.2⟩⟩
theorem Mut.turn (h : Mut w G G1 v n g) (hr : G r) (ho : Only (fun y => y = r) w w') : Mut w' (grow G w w') (grow G1 w w') v n g := by
  have h1 := h.but ho (fun y _ hy e => hy (e ▸ hr))
  have hl := h.lt
  exact ⟨h1.own, (h.grown (w' := w')).out⟩
/-- The row as it may be read and written at j. -/
theorem Mut.at (h : Mut w G G1 v n g) (hR : Rnd W w a r most room p M L G G1 d g) {j : Nat} (hj : j < n) : ∃ y cap c, v = .slice (some ⟨y, 0, none⟩) n cap ∧ w.cell? ⟨y, j, none⟩ = some (.int .u8 c) ∧ w.frozen? ⟨y, j, none⟩ = false ∧
    ∀ c', Mut (w.setCell ⟨y, j, none⟩ (.int .u8 c')) G G1 v n g ∧ Rnd W (w.setCell ⟨y, j, none⟩ (.int .u8 c')) a r most room p M L G G1 d g ∧ y ≠ g := by
  obtain ⟨B, cs, h1⟩ := h.own
  obtain ⟨y, cap, rfl⟩ : ∃ y cap, v = .slice (some ⟨y, 0, none⟩) n cap := by
    obtain ⟨-, h2 | ⟨y, cap, cur, hv, -⟩⟩ := h1
    · omega
    · exact ⟨y, cap, hv⟩
  have hlen : cs.length = n := by have := h1.1; simpa using this
  have hc := h1.cellAt j (by omega)
  have hs := fun c' => h1.stored j (.int .u8 c')
  refine ⟨y, cap, cs[j], rfl, by rw [hc]; simp [hlen, hj], h1.frozenAt j, fun c' => ?_⟩
  obtain ⟨k1, k2, k3⟩ := h.out y rfl
  refine ⟨⟨⟨B, cs.set j c', by rw [List.map_set]; exact (hs c').1⟩, h.out⟩, hR.rows ?_, k3⟩
  exact Only.setCell (F := fun y => G1 y ∧ ¬ G y ∧ y ≠ g) (Only.refl _ w) (p := ⟨y, j, none⟩) (Or.inl ⟨k1, k2, k3⟩) _
/-- The Do that is given on, its bytes a row of the law's own. -/
structure Giv (w : World) (G G1 : Nat → Prop) (v : Value) (n : Nat) (g : Nat) : Prop where
  row : Mut w G G1 v n g
  cell : w.cell? ⟨g + 1, 2, none⟩ = some v
  inG1 : G1 (g + 1)
  outG : ¬ G (g + 1)
  ne : ∀ y, v.ownBlock = some y → y ≠ g + 1
theorem Giv.only (h : Giv w G G1 v n g) (ho : Only (fun _ => False) w w') : Giv w' G G1 v n g := ⟨h.row.only ho, ho.cell h.cell (fun e => e), h.inG1, h.outG, h.ne⟩
theorem Giv.beside (h : Giv w G G1 v n g) (hb : Beside G1 w w') : Giv w' G G1 v n g := ⟨h.row.beside hb, hb.cell h.cell h.inG1, h.inG1, h.outG, h.ne⟩
theorem Giv.turn (h : Giv w G G1 v n g) (hr : G r) (ho : Only (fun y => y = r) w w') : Giv w' (grow G w w') (grow G1 w w') v n g :=
  ⟨h.row.turn hr ho, ho.cell h.cell (fun e => h.outG (by rw [show g + 1 = r from e]; exact hr)), Or.inl h.inG1, fun hy => by
    rcases hy with hy | hy
    · exact h.outG hy
    · have := block_lt_of_cell h.cell; simp at this; omega, h.ne⟩
theorem Giv.at (h : Giv w G G1 v n g) (hR : Rnd W w a r most room p M L G G1 d g) {j : Nat} (hj : j < n) : ∃ y cap c, v = .slice (some ⟨y, 0, none⟩) n cap ∧ w.cell? ⟨y, j, none⟩ = some (.int .u8 c) ∧ w.frozen? ⟨y, j, none⟩ = false ∧
    ∀ c', Giv (w.setCell ⟨y, j, none⟩ (.int .u8 c')) G G1 v n g ∧ Rnd W (w.setCell ⟨y, j, none⟩ (.int .u8 c')) a r most room p M L G G1 d g := by
  obtain ⟨y, cap, c, rfl, h1, h2, h3⟩ := h.row.at hR hj
  refine ⟨y, cap, c, rfl, h1, h2, fun c' => ⟨⟨(h3 c').1, ?_, h.inG1, h.outG, h.ne⟩, (h3 c').2.1⟩⟩
  have ho : Only (fun k => k = y) w (w.setCell ⟨y, j, none⟩ (.int .u8 c')) := Only.setCell (F := fun k => k = y) (Only.refl _ w) (p := ⟨y, j, none⟩) (Or.inl rfl) _
  exact ho.cell h.cell (fun e => h.ne y rfl e.symm)
theorem data_own {w : World} {B n cb : Nat} {bo : Option Addr} {xs : List Int} (h : w.ownsRow B 5 1 (.slice bo n cb) n (xs.map (Value.int .u8))) : DataAt w (fun y => (Value.slice bo n cb).ownBlock = some y) bo xs := by
  intro j hj
  have hlen : xs.length = n := by have := h.1; simpa using this
  have h0 := h
  obtain ⟨-, h2 | ⟨y, cap, cur, hv, -⟩⟩ := h0
  · omega
  · simp only [Value.slice.injEq] at hv
    obtain ⟨rfl, -, rfl⟩ := hv
    have hc := h.cellAt j (by omega)
    refine ⟨_, rfl, ?_, rfl⟩
    have e : (Addr.mk y 0 none).add j = ⟨y, j, none⟩ := by simp [Addr.add]; omega
    rw [e, hc]; simp [List.getD, hj]
theorem DataAt.but {F P : Nat → Prop} {ao : Option Addr} {b : List Int} (h : DataAt w P ao b) (ho : Only F w w') (hF : ∀ y, P y → ¬ F y) : DataAt w' P ao b := fun j hj => by
  obtain ⟨ad, h1, h2, h3⟩ := h j hj
  exact ⟨ad, h1, ho.cell h2 (by rw [add_block]; exact hF _ h3), h3⟩
/-- What is known of the list ahead of a call. -/
structure Ok (most room : Nat) (L : List Chunk) : Prop where
  len : L.length ≤ most
  sum : sB L ≤ room
  most : most ≤ 64
  room : room ≤ 8192
  nodup : (L.map (·.key)).Nodup
  pins : ∀ x ∈ L, x.pins < 1000000000
variable {k : Nat}
theorem Rnd.ok (h : Rnd W w a r most room p M L G G1 d g) (hp : p < 1000000000) : Ok most room M := by
  have h1 := h.mine.mine.bounds
  exact ⟨h1.1, h1.2.1, h1.2.2.2.1, h1.2.2.2.2.2, h.mine.mine.nodup, fun x hx => Nat.lt_of_le_of_lt (h.mine.mine.pins x hx) hp⟩
theorem Rnd.pin (h : Rnd W w a r most room p M L G G1 d g) (hk : k < 65536) (hp : p < 1000000000) : Calls Try.prog 18 #[Ptr a, Sum_ k] w fun e w' => e = .returned (.int .i64 (getE k M)) ∧ Rnd W w' a r most room (p + 1) (pinL (· + 1) k M) L G G1 d g := by
  refine (h.mine.pin hk hp).mono ?_
  rintro e w' ⟨rfl, h1, h2⟩; exact ⟨rfl, h.beside h1 h2⟩
theorem Rnd.unpin (h : Rnd W w a r most room p M L G G1 d g) (hk : k < 65536) (hp : p < 1000000000) : Calls Try.prog 19 #[Ptr a, Sum_ k] w fun e w' => e = .returned (.int .i64 (unpinE k M)) ∧ Rnd W w' a r most room (p + 1) (pinL (· - 1) k M) L G G1 d g := by
  refine (h.mine.unpin hk hp).mono ?_
  rintro e w' ⟨rfl, h1, h2⟩; exact ⟨rfl, h.beside (h1.more (Nat.le_succ p)) h2⟩
theorem Rnd.evict (h : Rnd W w a r most room p M L G G1 d g) (hk : k < 65536) : Calls Try.prog 20 #[Ptr a, Sum_ k] w fun e w' => e = .returned (.int .i64 (getE k M)) ∧ Rnd W w' a r most room (p + 1) (oth k M) L G G1 d g := by
  refine (h.mine.evict hk).mono ?_
  rintro e w' ⟨rfl, h1, h2⟩; exact ⟨rfl, h.beside (h1.more (Nat.le_succ p)) h2⟩
theorem Rnd.put {v : Value} {n : Nat} (h : Rnd W w a r most room p M L G G1 d g) (hv : Giv w G G1 v n g) (hk : k < 65536) {ao : Option Addr} {b : List Int} (hd : DataAt w G1 ao b) (cap : Nat) (hl : b.length ≤ 1000000) :
    Calls Try.prog 17 #[Ptr a, Sum_ k, .slice ao b.length cap] w fun e w' => e = .returned (.int .i64 (putE most room k b.length M)) ∧ Rnd W w' a r most room (p + 1) (putL most room k b M) L G G1 d g ∧ Giv w' G G1 v n g := by
  refine (h.mine.putIn hk hd cap hl).mono ?_
  rintro e w' ⟨rfl, h1, h2⟩; exact ⟨rfl, h.beside (h1.more (Nat.le_succ p)) h2, hv.beside h2⟩
theorem Rnd.get (h : Rnd W w a r most room p M L G G1 d g) (hk : k < 65536) : Calls Try.prog 13 #[Ptr a, Sum_ k] w fun e w' => ∃ bo cb, e = .returned (.tuple #[.slice bo (dataOf k M).length cb, .int .i64 (getE k M)]) ∧
    Rnd W w' a r most room (p + 1) (touch k M) L G (grow G1 w w') d g ∧ Mut w' G (grow G1 w w') (.slice bo (dataOf k M).length cb) (dataOf k M).length g ∧ DataAt w' (fun y => grow G1 w w' y ∧ ¬ G y) bo (dataOf k M) := by
  refine (h.mine.getOwn hk).mono ?_
  rintro e w' ⟨bo, cb, rfl, h1, h2, h3⟩
  have hlt := h1.lt
  have hlow := h.mine.low
  have hb : ∀ y, (Value.slice bo (dataOf k M).length cb).ownBlock = some y → grow G1 w w' y ∧ ¬ G y ∧ y ≠ g := fun y hy => by
    have h4 := hlt y hy
    refine ⟨Or.inr h4, fun hg => ?_, fun e => ?_⟩
    · have := (hlow y (h.sub y hg)).2; omega
    · have := h.box.lt; omega
  exact ⟨bo, cb, rfl, h.besideG (h2.more (Nat.le_succ p)) h3, ⟨⟨_, _, h1⟩, hb⟩, (data_own h1).mono (fun y hy => ⟨(hb y hy).1, (hb y hy).2.1⟩)⟩
theorem Rnd.rpin (h : Rnd W w a r most room p M L G G1 d g) (hk : k < 65536) (ok : Ok most room L) : Calls Try.prog 32 #[Ptr r, Sum_ k] w fun e w' => e = .returned (.int .i64 (getE k L)) ∧ ∃ G' G1', Rnd W w' a r most room p M (pinL (· + 1) k L) G' G1' d g := by
  refine (rpin_any W w r most room k L G h.ref hk (Nat.le_trans ok.len ok.most) ok.nodup ok.pins).mono ?_
  rintro e w' ⟨rfl, h1, h2⟩; exact ⟨rfl, _, _, h.turn h1 h2⟩
theorem Rnd.runpin (h : Rnd W w a r most room p M L G G1 d g) (hk : k < 65536) (ok : Ok most room L) : Calls Try.prog 33 #[Ptr r, Sum_ k] w fun e w' => e = .returned (.int .i64 (unpinE k L)) ∧ ∃ G' G1', Rnd W w' a r most room p M (pinL (· - 1) k L) G' G1' d g := by
  refine (runpin_any W w r most room k L G h.ref hk (Nat.le_trans ok.len ok.most) ok.nodup ok.pins).mono ?_
  rintro e w' ⟨rfl, h1, h2⟩; exact ⟨rfl, _, _, h.turn h1 h2⟩
theorem Rnd.revict (h : Rnd W w a r most room p M L G G1 d g) (hk : k < 65536) (ok : Ok most room L) : Calls Try.prog 34 #[Ptr r, Sum_ k] w fun e w' => e = .returned (.int .i64 (getE k L)) ∧ ∃ G' G1', Rnd W w' a r most room p M (oth k L) G' G1' d g := by
  refine (revict_any W w r most room k L G h.ref hk (Nat.le_trans ok.len ok.most) ok.nodup).mono ?_
  rintro e w' ⟨rfl, h1, h2⟩; exact ⟨rfl, _, _, h.turn h1 h2⟩
theorem Rnd.rput {v : Value} {n : Nat} (h : Rnd W w a r most room p M L G G1 d g) (hv : Giv w G G1 v n g) (hk : k < 65536) (ok : Ok most room L) {ao : Option Addr} {b : List Int} (hd : DataAt w (fun y => y < W.heap.size) ao b) (cap : Nat) (hl : b.length ≤ 1000000) :
    Calls Try.prog 36 #[Ptr r, Sum_ k, .slice ao b.length cap] w fun e w' => e = .returned (.int .i64 (putE most room k b.length L)) ∧ ∃ G' G1', Rnd W w' a r most room p M (putL most room k b L) G' G1' d g ∧ Giv w' G' G1' v n g := by
  refine (rput_any W w r most room k L G h.ref hk ok.nodup ok.len ok.sum ok.most ok.room hd cap hl).mono ?_
  rintro e w' ⟨rfl, h1, h2⟩; exact ⟨rfl, _, _, h.turn h1 h2, hv.turn h.ref.rG h2⟩
theorem Rnd.rget {v : Value} {n : Nat} (h : Rnd W w a r most room p M L G G1 d g) (hv : Mut w G G1 v n g) (hk : k < 65536) (ok : Ok most room L) {ao : Option Addr} {b : List Int} (hd : DataAt w (fun y => G1 y ∧ ¬ G y) ao b) :
    Calls Try.prog 30 #[Ptr r, Sum_ k] w fun e w' => ∃ bo cb, e = .returned (.tuple #[.slice bo (dataOf k L).length cb, .int .i64 (getE k L)]) ∧ DataAt w' (fun _ => True) bo (dataOf k L) ∧ DataAt w' (fun y => G1 y ∧ ¬ G y) ao b ∧ ∃ G' G1', Rnd W w' a r most room p M (touch k L) G' G1' d g ∧ Mut w' G' G1' v n g := by
  refine (rget_any W w r most room k L G h.ref hk (Nat.le_trans ok.len ok.most) ok.nodup).mono ?_
  rintro e w' ⟨bo, cb, rfl, h1, h2, h3⟩
  exact ⟨bo, cb, rfl, h1, hd.but h3 (fun y hy e => hy.2 (e ▸ h.ref.rG)), _, _, h.turn h2 h3, hv.turn h.ref.rG h3⟩
theorem Rnd.does (h : Rnd W w a r most room p M L G G1 d g) (hp : p < 1000000000) (h7 : d.op % 8 = 7) (hd : DataAt W (fun y => y < W.heap.size) d.ao d.b) (hl : d.b.length ≤ 1000000) :
    Calls Try.prog 35 #[Ptr a, .agg d.cells.toArray] w fun e w' => e = .returned (.int .i64 0) ∧ Rnd W w' a r most room (p + 1) (if d.n = 0 then [] else M) L G G1 d g := by
  obtain ⟨F, h1, h2, h3⟩ := h.mine.rep
  have e1 : doL most room d M = if d.n = 0 then [] else M := by simp [doL, h7]
  have e2 : doE most room d M = 0 := by simp [doE, h7]
  refine (does_any h1 hp ((hd.mono (fun y hy hf => by have := h2 y hf; omega)).frame' h.mine.only) hl).mono ?_
  rintro e w' ⟨rfl, ht⟩
  rw [e1] at ht
  rw [e2]
  obtain ⟨k1, k2⟩ := h.mine.step h1 h2 h3 ht
  exact ⟨rfl, h.beside k1 k2⟩
/-- What region 41 asks of both. -/
theorem Rnd.rbytes (h : Rnd W w a r most room p M L G G1 d g) (ok : Ok most room L) : Calls Try.prog 37 #[Ptr r] w fun e w' => e = .returned (.int .i64 (sB L)) ∧ Only (fun _ => False) w w' :=
  rbytes_any W w r most room L G h.ref (Nat.le_trans ok.len ok.most) (by have := ok.sum; have := ok.room; omega)
theorem Rnd.rlist (h : Rnd W w a r most room p M L G G1 d g) (ok : Ok most room L) : Calls Try.prog 39 #[Ptr r] w fun e w' => ∃ u, e = .returned u ∧ Keys w' u (L.map (·.key)) ∧ Only (fun _ => False) w w' :=
  rlist_any W w r most room L G h.ref (Nat.le_trans ok.len ok.most)
theorem Rnd.rhas (h : Rnd W w a r most room p M L G G1 d g) (hk : k < 65536) (ok : Ok most room L) : Calls Try.prog 40 #[Ptr r, Sum_ k] w fun e w' => e = .returned (.bool (hasL k L)) ∧ Only (fun _ => False) w w' :=
  rhas_any W w r most room k L G h.ref hk (Nat.le_trans ok.len ok.most)
/-- The round's beginning: two boxes, the clone, and the clone in the second box. -/
theorem Rnd.start {wr wc : World} {n cb : Nat} {bo : Option Addr} (h : Pair W wr a r most room p L G G1) (ho : Only (fun _ => False) wr wc) (hb : BoxAt wc g d) (hg : wr.heap.size ≤ g) {row : Array Value} (hh : wc.heap[g + 1]? = some (.cells row 24 (0, 0)))
    {B : Nat} {cs : List Int} {v : Value} (hve : v = .slice bo n cb) (hv : wc.ownsRow B 5 1 (.slice bo n cb) n (cs.map (Value.int .u8))) (hB : g + 1 < B) (h2 : 2 < row.size) :
    wc.cell? ⟨g + 1, 2, none⟩ = row[2]? ∧ wc.frozen? ⟨g + 1, 2, none⟩ = false ∧ Rnd W (wc.setCell ⟨g + 1, 2, none⟩ v) a r most room p L L G (grow G1 wr (wc.setCell ⟨g + 1, 2, none⟩ v)) d g ∧ Giv (wc.setCell ⟨g + 1, 2, none⟩ v) G (grow G1 wr (wc.setCell ⟨g + 1, 2, none⟩ v)) v n g ∧ DataAt (wc.setCell ⟨g + 1, 2, none⟩ v) (grow G1 wr (wc.setCell ⟨g + 1, 2, none⟩ v)) bo cs := by
  have hlt := (Array.getElem?_eq_some_iff.1 hh).1
  have hda := data_own hv
  rw [← hve] at hv hda
  have how := hv.lt
  have hs : (wc.setCell ⟨g + 1, 2, none⟩ v).heap.size = wc.heap.size := by simp [World.setCell]
  have ho2 : Only (fun _ => False) wr (wc.setCell ⟨g + 1, 2, none⟩ v) := ho.setCell (p := ⟨g + 1, 2, none⟩) (Or.inr (by show wr.heap.size ≤ g + 1; omega)) v
  have ho3 : Only (fun y => y = g + 1) wc (wc.setCell ⟨g + 1, 2, none⟩ v) := Only.setCell (F := fun y => y = g + 1) (Only.refl _ wc) (p := ⟨g + 1, 2, none⟩) (Or.inl rfl) v
  have hp := h.grown ho2
  have hlow := h.ref.low
  have hG : ∀ y, wr.heap.size ≤ y → ¬ G y := fun y hy hg => by have := (hlow y hg).2; omega
  have hin : ∀ y, wr.heap.size ≤ y → y < wc.heap.size → grow G1 wr (wc.setCell ⟨g + 1, 2, none⟩ v) y := fun y h1 h2 => Or.inr ⟨h1, by omega⟩
  have hdb : DataAt (wc.setCell ⟨g + 1, 2, none⟩ v) (grow G1 wr (wc.setCell ⟨g + 1, 2, none⟩ v)) bo cs := (hda.but ho3 (fun y hy e => by have := (how y hy).1; omega)).mono (fun y hy => by have := how y hy; exact hin y (by omega) this.2)
  refine ⟨cell_of_row _ _ _ _ _ _ hh, frozen_of_row _ _ _ _ _ hh, ⟨hp.mine, hp.ref, hp.sub, hb.but ho3 (by omega), hin g hg (by omega), hG g hg⟩,
    ⟨⟨⟨B, cs, own_beside (G := fun y => y ≠ g + 1) hv (Only.mono ho3 (fun y _ e hn => hn e)) (fun y hy => by have := (how y hy).1; omega)⟩, fun y hy => ?_⟩, ?_, hin _ (by omega) hlt, hG _ (by omega), fun y hy => by have := (how y hy).1; omega⟩, hdb⟩
  · have := how y hy
    exact ⟨hin y (by omega) this.2, hG y (by omega), by omega⟩
  · have hs2 := heap_setCell_same wc (g + 1) 2 row 24 v hh
    rw [cell_of_row _ _ _ _ _ _ hs2]
    simp [Array.getElem?_setIfInBounds_self, h2]
/-- Behind the round's calls. -/
structure Fin2 (W w : World) (a r most room p : Nat) (L : List Chunk) (G G1 : Nat → Prop) (d : D) (g : Nat) (lo : Option Addr) (cp : Nat) : Prop where
  rnd : Rnd W w a r most room p L L G G1 d g
  ok : Ok most room L
  len : w.cell? ⟨r, 2, none⟩ = some (.slice lo L.length cp)
variable {lo : Option Addr} {cp : Nat}
theorem Fin2.only (h : Fin2 W w a r most room p L G G1 d g lo cp) (ho : Only (fun _ => False) w w') : Fin2 W w' a r most room p L G G1 d g lo cp := ⟨h.rnd.only ho, h.ok, ho.cell h.len (fun e => e)⟩
theorem Fin2.of (h : Rnd W w a r most room p L L G G1 d g) (hp : p < 1000000000) : ∃ lo cp, Fin2 W w a r most room p L G G1 d g lo cp := by
  obtain ⟨lo, cp, h1⟩ := h.ref.len
  exact ⟨lo, cp, h, h.ok hp, h1⟩
theorem Fin2.S (h : Fin2 W w a r most room p L G G1 d g lo cp) : w.cell? ⟨g, 1, none⟩ = some (.int .i64 d.id) ∧ w.cell? ⟨r, 2, none⟩ = some (.slice lo L.length cp) := ⟨h.rnd.box.2.1, h.len⟩
theorem Fin2.mlen (h : Fin2 W w a r most room p L G G1 d g lo cp) : Calls Try.prog 22 #[.pointer (some ⟨a, 0, none⟩)] w fun e w' => e = .returned (.int .i64 L.length) ∧ w' = w := h.rnd.mine.mine.len
theorem Fin2.mbytes (h : Fin2 W w a r most room p L G G1 d g lo cp) : Calls Try.prog 23 #[.pointer (some ⟨a, 0, none⟩)] w fun e w' => e = .returned (.int .i64 (sB L)) ∧ w' = w := h.rnd.mine.mine.bytes
theorem Fin2.mlist (h : Fin2 W w a r most room p L G G1 d g lo cp) : Calls Try.prog 24 #[.pointer (some ⟨a, 0, none⟩)] w fun e w' => ∃ u, e = .returned u ∧ Keys w' u (L.map (·.key)) ∧ Only (fun _ => False) w w' := by
  refine h.rnd.mine.list.mono ?_
  rintro e w' ⟨u, rfl, h1, h2, h3, h4⟩; exact ⟨u, rfl, h2, h3⟩
theorem Fin2.mhas (h : Fin2 W w a r most room p L G G1 d g lo cp) (hk : k < 65536) : Calls Try.prog 21 #[.pointer (some ⟨a, 0, none⟩), Sum_ k] w fun e w' => e = .returned (.bool (hasL k L)) ∧ Only (fun _ => False) w w' := h.rnd.mine.has hk
theorem Fin2.rbytes (h : Fin2 W w a r most room p L G G1 d g lo cp) : Calls Try.prog 37 #[.pointer (some ⟨r, 0, none⟩)] w fun e w' => e = .returned (.int .i64 (sB L)) ∧ Only (fun _ => False) w w' := h.rnd.rbytes h.ok
theorem Fin2.rlist (h : Fin2 W w a r most room p L G G1 d g lo cp) : Calls Try.prog 39 #[.pointer (some ⟨r, 0, none⟩)] w fun e w' => ∃ u, e = .returned u ∧ Keys w' u (L.map (·.key)) ∧ Only (fun _ => False) w w' := h.rnd.rlist h.ok
theorem Fin2.rhas (h : Fin2 W w a r most room p L G G1 d g lo cp) (hk : k < 65536) : Calls Try.prog 40 #[.pointer (some ⟨r, 0, none⟩), Sum_ k] w fun e w' => e = .returned (.bool (hasL k L)) ∧ Only (fun _ => False) w w' := h.rnd.rhas hk h.ok
theorem Fin2.eq (h : Fin2 W w a r most room p L G G1 d g lo cp) {u v : Value} (hu : Keys w u (L.map (·.key))) (hv : Keys w v (L.map (·.key))) : Calls Try.prog 38 #[u, v] w fun e w' => e = .returned (.bool true) ∧ Only (fun _ => False) w w' :=
  eq_same hu hv (by rw [List.length_map]; exact Nat.le_trans h.ok.len h.ok.most)
end
end Go.Proofs.Ytafeiankpckijaa
