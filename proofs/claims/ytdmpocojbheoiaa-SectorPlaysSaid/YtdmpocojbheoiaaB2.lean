/- Channels in one goroutine: the walk's judgement for frames of ordinary calls alone; a send into a buffer with room; a receive. -/
import Derived.Test.YtdmpocojbheoiaaB0
import Derived.Conc.LoneCalls
namespace Go.Proofs.Ytdmpocojbheoiaa
open Go.RowKit Go.Conc

/-- As Code.wp, for ordinary frames alone. -/
def WpN (P : Program) (c : Code) (Q : Exit → Act → World → Prop) (a : Act) (w : World) : Prop :=
  ∀ (b : Frame) (k : List Item) (cs : List Frame), b.kind = .normal → ∃ e a' w', Q e a' w' ∧ Arrives P (lone (b.at a (.code c :: k)) cs w) b k cs e a' w'

section
variable {P : Program} {Q : Exit → Act → World → Prop} {a : Act} {w : World}
theorem WpN.of {c : Code} (h : c.wp P Q a w) : WpN P c Q a w := fun b k cs _ => h b k cs
/-- What leaves a piece of code, leaves what it stands in. -/
theorem beyond {m₀ m : Machine} {b : Frame} {x : Item} {k : List Item} {cs : List Frame} {e : Exit} {a : Act} {w : World} (hs : Steps P m₀ m) (hx : x.plain = true) (hne : e ≠ .normal) (h : Arrives P m b (x :: k) cs e a w) : Arrives P m₀ b k cs e a w :=
  .of_steps hs (.pass hx (fun _ _ => .inl hne) h)
theorem WpN.seq {x y : Code} {K : Act → World → Prop} (h : WpN P x (Exit.then K Q) a w) (hK : ∀ a w, K a w → WpN P y Q a w) : WpN P (.seq x y) Q a w := by
  intro b k cs hb
  obtain ⟨e, a₁, w₁, hq, harr⟩ := h b (.code y :: k) cs hb
  by_cases he : e = .normal
  · subst he
    obtain ⟨e₂, a₂, w₂, hq₂, harr₂⟩ := hK _ _ hq b k cs hb
    exact ⟨e₂, a₂, w₂, hq₂, .of_steps (.head step_seq harr) harr₂⟩
  · refine ⟨e, a₁, w₁, ?_, beyond (.one step_seq) rfl he harr⟩
    cases e <;> first | exact hq | exact absurd rfl he
theorem WpN.cond {c : Operand} {x y : Code} {t : Bool} (hc : a.eval c = .bool t) (h : WpN P (if t then x else y) Q a w) : WpN P (.cond c x y) Q a w :=
  fun b k cs hb => let ⟨e, a', w', q, r⟩ := h b k cs hb; ⟨e, a', w', q, .of_steps (.one (step_cond hc)) r⟩
theorem WpN.block {id : Nat} {c : Code} (h : WpN P c (Exit.inBlock id Q) a w) : WpN P (.block id c) Q a w := by
  intro b k cs hb
  obtain ⟨e, a₁, w₁, hq, harr⟩ := h b (.inBlock id :: k) cs hb
  cases e with
  | normal => exact ⟨.normal, a₁, w₁, hq, .head step_block (Steps.trans harr (.one step_inBlock))⟩
  | exit id' =>
    by_cases hid : id' = id
    · simp only [Exit.inBlock, hid, if_true] at hq
      exact ⟨.normal, a₁, w₁, hq, .head step_block (harr k (by simp [exitTo, hid]))⟩
    · simp only [Exit.inBlock, hid, if_false] at hq
      refine ⟨.exit id', a₁, w₁, hq, fun k' hk => .head step_block (harr k' ?_)⟩
      have hne : (id == id') = false := by simpa using fun h => hid (Eq.symm h)
      simp [exitTo, hne, hk]
  | goto l => exact ⟨_, a₁, w₁, hq, fun k' hk => .head step_block (harr k' (by simp [gotoIn, hk]))⟩
  | ret => exact ⟨_, a₁, w₁, hq, .of_steps (.one step_block) harr⟩
  | panic ch => exact ⟨_, a₁, w₁, hq, .of_steps (.one step_block) harr⟩
  | outgrown => exact ⟨_, a₁, w₁, hq, .of_steps (b := b) (k := k) (cs := cs) (e := .outgrown) (.one step_block) harr⟩
theorem WpN.loop {c : Code} (I : Act → World → Prop) (μ : Act → World → Nat) (h₀ : I a w) (round : ∀ a w, I a w → WpN P c (Exit.then (fun a' w' => I a' w' ∧ μ a' w' < μ a w) Q) a w) : WpN P (.loop c) Q a w := by
  intro b k cs hb
  have key : ∀ n a w, μ a w ≤ n → I a w → ∃ e a' w', Q e a' w' ∧ Arrives P (lone (b.at a (.code c :: .inLoop c :: k)) cs w) b k cs e a' w' := by
    intro n
    induction n with
    | zero =>
      intro a w hn hI
      obtain ⟨e, a₁, w₁, hq, harr⟩ := round a w hI b (.inLoop c :: k) cs hb
      by_cases he : e = .normal
      · subst he; exact absurd hq.2 (by omega)
      · refine ⟨e, a₁, w₁, ?_, beyond (Steps.refl _ _) rfl he harr⟩
        cases e <;> first | exact hq | exact absurd rfl he
    | succ n ih =>
      intro a w hn hI
      obtain ⟨e, a₁, w₁, hq, harr⟩ := round a w hI b (.inLoop c :: k) cs hb
      by_cases he : e = .normal
      · subst he
        obtain ⟨hI₁, hlt⟩ := hq
        obtain ⟨e₂, a₂, w₂, hq₂, harr₂⟩ := ih a₁ w₁ (by omega) hI₁
        exact ⟨e₂, a₂, w₂, hq₂, .of_steps (Steps.trans harr (.one step_inLoop)) harr₂⟩
      · refine ⟨e, a₁, w₁, ?_, beyond (Steps.refl _ _) rfl he harr⟩
        cases e <;> first | exact hq | exact absurd rfl he
  obtain ⟨e, a', w', hq, harr⟩ := key _ a w (Nat.le_refl _) h₀
  exact ⟨e, a', w', hq, .of_steps (.one step_loop) harr⟩
theorem calls_of_wpN {f : FuncId} {fn : Func} {c : Code} {args : Array Value} {R : Ending → World → Prop} (hf : P.funcs[f]? = some fn) (hb : fn.body = some c)
    (h : WpN P c (bodyPost P fn R) { tmps := args ++ Array.replicate (fn.ntmps - args.size) undef, defers := [] } w) : Calls P f args w R := by
  intro cs
  have henter : Frame.enter P f args .normal = ({ (default : Frame) with fn := f, kind := .normal } : Frame).at { tmps := args ++ Array.replicate (fn.ntmps - args.size) undef, defers := [] } [.code c] := by
    simp [Frame.enter, Frame.at, hf, hb]
  obtain ⟨e, a', w', hq, harr⟩ := h { (default : Frame) with fn := f, kind := .normal } [] cs rfl
  rw [← henter] at harr
  cases e with
  | normal =>
    obtain ⟨hd, v, hr, hR⟩ := hq
    exact ⟨.returned v, w', _, hR, Steps.trans harr (.one step_end), rfl, rfl, hd, rfl, fn, hf, hr⟩
  | ret =>
    obtain ⟨hd, v, hr, hR⟩ := hq
    obtain ⟨todo, hs⟩ := harr
    exact ⟨.returned v, w', _, hR, hs, rfl, rfl, hd, rfl, fn, hf, hr⟩
  | panic chain =>
    obtain ⟨hd, hR⟩ := hq
    obtain ⟨todo, hs⟩ := harr
    exact ⟨.panicked chain, w', _, hR, hs, rfl, rfl, hd, fn, hf⟩
  | exit id => exact hq.elim
  | goto l => exact hq.elim
  | outgrown => exact ⟨.outgrown, w', { (default : Frame) with fn := f, kind := .normal }, hq, harr.resolve_left (by simp), rfl, trivial⟩

/-! ### single steps of a region -/
section
variable {b : Frame} {k : List Item} {cs : List Frame} {ops : Array Oper} {i : Nat} {rest : List Nat} {o : Oper}
theorem steps_value {v : Value} {w' : World} (ho : ops[i]? = some o) (hg : o.guard = none) (hr : (execOp a.eval o).run P w = .ok (.value v) w') :
    Steps P (lone (b.at a (.inRegion ops (i :: rest) :: k)) cs w) (lone (b.at (a.put o.dst v) (.inRegion ops rest :: k)) cs w') := by
  have hw : Region.wanted o (yielded ops a.tmps) = true := by simp [Region.wanted, hg]
  have hfin : (b.at a (.inRegion ops (i :: rest) :: k)).finish v = b.at (a.put o.dst v) (.inRegion ops rest :: k) := by rw [Frame.finish_at, ho]; rfl
  exact .one (step_lone_go (by rw [stepG_op ho hw, ← hfin]; simp [stepG.apply, hr]))
theorem steps_send {c cap s r : Nat} {buf : Array Value} {v z : Value} {tm : Bool} {w₁ : World} (hb : b.kind = .normal) (ho : ops[i]? = some o) (hg : o.guard = none) (hr : (execOp a.eval o).run P w = .ok (.comm #[scase c v z] true .send) w₁)
    (hc : w₁.heap[c]? = some (.chan cap buf false s r tm)) (hroom : buf.size < cap) :
    Steps P (lone (b.at a (.inRegion ops (i :: rest) :: k)) cs w) (lone (b.at (a.put o.dst undef) (.inRegion ops rest :: k)) cs (w₁.setChan c cap (buf.push v) false (s + 1) r tm)) := by
  have hw : Region.wanted o (yielded ops a.tmps) = true := by simp [Region.wanted, hg]
  have hfin : (b.at a (.inRegion ops (i :: rest) :: k)).finish undef = b.at (a.put o.dst undef) (.inRegion ops rest :: k) := by rw [Frame.finish_at, ho]; rfl
  have h := step_lone_send_room (stepG_comm (main := true) (k := k) (cs := cs) (rest := rest) ho hw (by rw [hb]; decide) hr) hc hroom
  rw [hfin] at h
  exact .one h
theorem steps_recv {c cap s r : Nat} {buf : Array Value} {z : Value} {cl tm : Bool} {w₁ : World} (hb : b.kind = .normal) (ho : ops[i]? = some o) (hg : o.guard = none) (hr : (execOp a.eval o).run P w = .ok (.comm #[rcase c z] true (.recv true)) w₁)
    (hc : w₁.heap[c]? = some (.chan cap buf cl s r tm)) (hsome : 0 < buf.size) :
    Steps P (lone (b.at a (.inRegion ops (i :: rest) :: k)) cs w) (lone (b.at (a.put o.dst (.tuple #[buf.getD 0 undef, .bool true])) (.inRegion ops rest :: k)) cs (w₁.setChan c cap (buf.extract 1 buf.size) cl s (r + 1) tm)) := by
  have hw : Region.wanted o (yielded ops a.tmps) = true := by simp [Region.wanted, hg]
  have hfin : (b.at a (.inRegion ops (i :: rest) :: k)).finish (got true (buf.getD 0 undef) true) = b.at (a.put o.dst (.tuple #[buf.getD 0 undef, .bool true])) (.inRegion ops rest :: k) := by rw [Frame.finish_at, ho]; rfl
  have h := step_lone_recv_buf true (stepG_comm (main := true) (k := k) (cs := cs) (rest := rest) ho hw (by rw [hb]; decide) hr) hc hsome
  rw [hfin] at h
  exact .one h
theorem steps_shut {c cap s r : Nat} {z : Value} {tm : Bool} {w₁ : World} (hb : b.kind = .normal) (ho : ops[i]? = some o) (hg : o.guard = none) (hr : (execOp a.eval o).run P w = .ok (.comm #[rcase c z] true (.recv true)) w₁)
    (hc : w₁.heap[c]? = some (.chan cap #[] true s r tm)) :
    Steps P (lone (b.at a (.inRegion ops (i :: rest) :: k)) cs w) (lone (b.at (a.put o.dst (.tuple #[z, .bool false])) (.inRegion ops rest :: k)) cs w₁) := by
  have hw : Region.wanted o (yielded ops a.tmps) = true := by simp [Region.wanted, hg]
  have hfin : (b.at a (.inRegion ops (i :: rest) :: k)).finish (got true z false) = b.at (a.put o.dst (.tuple #[z, .bool false])) (.inRegion ops rest :: k) := by rw [Frame.finish_at, ho]; rfl
  have h := step_lone_recv_shut true (stepG_comm (main := true) (k := k) (cs := cs) (rest := rest) ho hw (by rw [hb]; decide) hr) hc
  rw [hfin] at h
  exact .one h
end
theorem wpN_send3 {id : Nat} {o0 o1 o2 : Oper} (v0 v1 : Value) (g0 : o0.guard = none) (g1 : o1.guard = none) (g2 : o2.guard = none) {c cap s r : Nat} {buf : Array Value} {v z : Value} {tm : Bool}
    (h0 : (execOp a.eval o0).run P w = .ok (.value v0) w) (h1 : (execOp (a.put o0.dst v0).eval o1).run P w = .ok (.value v1) w)
    (h2 : (execOp ((a.put o0.dst v0).put o1.dst v1).eval o2).run P w = .ok (.comm #[scase c v z] true .send) w) (hc : w.heap[c]? = some (.chan cap buf false s r tm)) (hroom : buf.size < cap)
    (hQ : Q .normal (((a.put o0.dst v0).put o1.dst v1).put o2.dst undef) (w.setChan c cap (buf.push v) false (s + 1) r tm)) : WpN P (.region id #[o0, o1, o2] false) Q a w := by
  intro b k cs hb
  refine ⟨.normal, _, _, hQ, ?_⟩
  have s0 := steps_value (P := P) (b := b) (k := k) (cs := cs) (a := a) (w := w) (ops := #[o0, o1, o2]) (i := 0) (rest := [1, 2]) (o := o0) rfl g0 h0
  have s1 := steps_value (P := P) (b := b) (k := k) (cs := cs) (a := a.put o0.dst v0) (w := w) (ops := #[o0, o1, o2]) (i := 1) (rest := [2]) (o := o1) rfl g1 h1
  have s2 := steps_send (P := P) (b := b) (k := k) (cs := cs) (a := (a.put o0.dst v0).put o1.dst v1) (w := w) (ops := #[o0, o1, o2]) (i := 2) (rest := []) (o := o2) hb rfl g2 h2 hc hroom
  exact .head step_region (s0.trans (s1.trans (s2.trans (.one step_region_end))))
/-- A receive, and its second part taken. -/
theorem wpN_recv2 {id : Nat} {o0 o1 : Oper} (g0 : o0.guard = none) (g1 : o1.guard = none) {c cap s r : Nat} {buf : Array Value} {z v1 : Value} {cl tm : Bool}
    (h0 : (execOp a.eval o0).run P w = .ok (.comm #[rcase c z] true (.recv true)) w) (hc : w.heap[c]? = some (.chan cap buf cl s r tm)) (hsome : 0 < buf.size)
    (h1 : (execOp (a.put o0.dst (.tuple #[buf.getD 0 undef, .bool true])).eval o1).run P (w.setChan c cap (buf.extract 1 buf.size) cl s (r + 1) tm) = .ok (.value v1) (w.setChan c cap (buf.extract 1 buf.size) cl s (r + 1) tm))
    (hQ : Q .normal ((a.put o0.dst (.tuple #[buf.getD 0 undef, .bool true])).put o1.dst v1) (w.setChan c cap (buf.extract 1 buf.size) cl s (r + 1) tm)) : WpN P (.region id #[o0, o1] false) Q a w := by
  intro b k cs hb
  refine ⟨.normal, _, _, hQ, ?_⟩
  have s0 := steps_recv (P := P) (b := b) (k := k) (cs := cs) (a := a) (w := w) (ops := #[o0, o1]) (i := 0) (rest := [1]) (o := o0) hb rfl g0 h0 hc hsome
  have s1 := steps_value (P := P) (b := b) (k := k) (cs := cs) (ops := #[o0, o1]) (i := 1) (rest := []) (o := o1) rfl g1 h1
  exact .head step_region (s0.trans (s1.trans (.one step_region_end)))
theorem wpN_shut2 {id : Nat} {o0 o1 : Oper} (g0 : o0.guard = none) (g1 : o1.guard = none) {c cap s r : Nat} {z v1 : Value} {tm : Bool}
    (h0 : (execOp a.eval o0).run P w = .ok (.comm #[rcase c z] true (.recv true)) w) (hc : w.heap[c]? = some (.chan cap #[] true s r tm))
    (h1 : (execOp (a.put o0.dst (.tuple #[z, .bool false])).eval o1).run P w = .ok (.value v1) w)
    (hQ : Q .normal ((a.put o0.dst (.tuple #[z, .bool false])).put o1.dst v1) w) : WpN P (.region id #[o0, o1] false) Q a w := by
  intro b k cs hb
  refine ⟨.normal, _, _, hQ, ?_⟩
  have s0 := steps_shut (P := P) (b := b) (k := k) (cs := cs) (a := a) (w := w) (ops := #[o0, o1]) (i := 0) (rest := [1]) (o := o0) hb rfl g0 h0 hc
  have s1 := steps_value (P := P) (b := b) (k := k) (cs := cs) (ops := #[o0, o1]) (i := 1) (rest := []) (o := o1) rfl g1 h1
  exact .head step_region (s0.trans (s1.trans (.one step_region_end)))
end
end Go.Proofs.Ytdmpocojbheoiaa
