/- The disk's functions, as the abstract machine has them. -/
import Derived.Test.YtdmpocojbheoiaaD1
import Derived.Test.YtdmpocojbheoiaaA12
namespace Go.Proofs.Ytdmpocojbheoiaa.AM
open Go.RowKit
set_option linter.unusedVariables false
set_option linter.unusedSimpArgs false

theorem nil_args {g : Gh} : ∀ {xs : List Value}, RepAVs g xs [] → xs = []
  | [], _ => rfl
  | _ :: _, h => by simp only [RepAVs] at h
theorem cons_args {g : Gh} {a : AV} {l : List AV} : ∀ {xs : List Value}, RepAVs g xs (a :: l) → ∃ x ys, xs = x :: ys ∧ RepAV g x a ∧ RepAVs g ys l
  | [], h => by simp only [RepAVs] at h
  | x :: ys, h => by simp only [RepAVs] at h; exact ⟨x, ys, rfl, h.1, h.2⟩
/-- Bytes that stay. -/
theorem bytes_of {g : Gh} {w : World} (hg : Good g w) {x : Value} {bs : List UInt8} (h : RepI g.G x (.sl 1 (bs.map eU8))) : Bytes w x bs := by
  obtain ⟨A, c, us, rfl, h1, h2⟩ := sl_cells h
  rw [List.length_map] at h1 ⊢
  have hu : us = bs.map B8 := by
    apply List.ext_getElem?
    intro j
    rcases Nat.lt_or_ge j us.length with hj | hj
    · have hl := h2.len
      have hjb : j < bs.length := by simp at hl; omega
      have := h2.rep j us[j] (.v (.int .u8 (bs[j].toNat : Int))) (by simp [hj]) (by
        have := flat_get (bs.map eU8) j 0 h2.hl (by omega)
        simp only [Nat.mul_one, Nat.add_zero] at this
        rw [this, List.getD_eq_getElem?_getD, List.getElem?_map, List.getElem?_eq_getElem hjb]; rfl)
      rw [List.getElem?_map, List.getElem?_eq_getElem hjb, List.getElem?_eq_getElem hj, repI_v this]; rfl
    · have hl := h2.len
      rw [List.getElem?_eq_none hj, List.getElem?_eq_none (by simp at hl ⊢; omega)]
  subst hu
  refine ⟨A, c, rfl, h1, by simp, b8_one bs, fun j u hj => ?_⟩
  have h0 : 0 < bs.length := by have := (List.getElem?_eq_some_iff.1 hj).1; simp at this; omega
  obtain ⟨b, o, hA, hat⟩ := h2.at_ (by simpa using h0)
  exact ⟨⟨b, o, none⟩, hA, by rw [add_off]; exact hg _ _ _ (hat j u hj)⟩
theorem sp_size (p : PD) : FnSpec Try.prog 7 1 1 [.c (.ptr 0 0)] [(0, .obj (diskP p))] (vv (.int .i64 p.size)) [(0, .obj (diskP p))] :=
  disk_read_spec trivial (by simp [AV.bel, C.bel]) (fun g w F D xs _ hr ⟨M, ks, wv, ws, fz, h⟩ => by
    rw [nil_args hr]; exact (size_calls h).mono fun e w' ⟨h1, h2⟩ => ⟨_, h1, by rw [← h2]; exact Below.refl _ _, fun _ _ => rep_vv rfl⟩)
theorem sp_count (p : PD) : FnSpec Try.prog 8 1 1 [.c (.ptr 0 0)] [(0, .obj (diskP p))] (vv (.int .i64 p.count)) [(0, .obj (diskP p))] :=
  disk_read_spec trivial (by simp [AV.bel, C.bel]) (fun g w F D xs _ hr ⟨M, ks, wv, ws, fz, h⟩ => by
    rw [nil_args hr]; exact (count_calls h).mono fun e w' ⟨h1, h2⟩ => ⟨_, h1, by rw [← h2]; exact Below.refl _ _, fun _ _ => rep_vv rfl⟩)
theorem sp_falls (p : PD) : FnSpec Try.prog 12 1 1 [.c (.ptr 0 0)] [(0, .obj (diskP p))] (vv (.int .u64 p.falls)) [(0, .obj (diskP p))] :=
  disk_read_spec trivial (by simp [AV.bel, C.bel]) (fun g w F D xs _ hr ⟨M, ks, wv, ws, fz, h⟩ => by
    rw [nil_args hr]; exact (falls_calls h).mono fun e w' ⟨h1, h2⟩ => ⟨_, h1, by rw [← h2]; exact Below.refl _ _, fun _ _ => rep_vv rfl⟩)
theorem sp_isOn (p : PD) : FnSpec Try.prog 11 1 1 [.c (.ptr 0 0)] [(0, .obj (diskP p))] (vv (.bool (!p.off))) [(0, .obj (diskP p))] :=
  disk_read_spec trivial (by simp [AV.bel, C.bel]) (fun g w F D xs _ hr ⟨M, ks, wv, ws, fz, h⟩ => by
    rw [nil_args hr]; exact (isOn_calls h).mono fun e w' ⟨h1, h2⟩ => ⟨_, h1, by rw [← h2]; exact Below.refl _ _, fun _ _ => rep_vv rfl⟩)
theorem sp_waits (p : PD) : FnSpec Try.prog 13 1 1 [.c (.ptr 0 0)] [(0, .obj (diskP p))] (vv (.int .i64 p.waits.length)) [(0, .obj (diskP p))] :=
  disk_read_spec trivial (by simp [AV.bel, C.bel]) (fun g w F D xs _ hr ⟨M, ks, wv, ws, fz, h⟩ => by
    rw [nil_args hr]; exact (waits_calls h).mono fun e w' ⟨h1, h2⟩ => ⟨_, h1, by rw [← h2]; exact Below.refl _ _, fun _ _ => rep_vv rfl⟩)
theorem ws_len {base : Zn} {w : World} {D : Nat} {p : PD} {M : Nat} {ks ws : List (Int × Buf)} {wv : Value} {fz : Int} (h : DRep base w D p M ks wv ws fz) : ws.length = p.waits.length := by
  have := congrArg List.length h.weq; simp at this; omega
theorem tup0 (g : Gh) : RepAV g (.tuple #[]) (.tup []) := by simp only [RepAV]; exact ⟨#[], rfl, by simp only [RepAVs]⟩
theorem sp_fuse (p : PD) (n : Int) (hn : n ≤ 9223372036854775807) : FnSpec Try.prog 23 1 1 [.c (.ptr 0 0), vv (.int .i64 n)] [(0, .obj (diskP p))] (.tup []) [(0, .obj (diskP (p.setFuse n)))] :=
  disk_spec (args := [vv (.int .i64 n)]) (by simp [belowA, AV.bel, C.bel]) (by simp [AV.bel, belowA]) (fun g w F D xs _ hr _ ⟨M, ks, wv, ws, fz, h⟩ => by
    obtain ⟨x, ys, rfl, hx, hr⟩ := cons_args hr
    rw [nil_args hr, repV hx]
    exact (fuse_calls h n hn).mono fun e w' ⟨h1, ⟨fz', h2⟩, h3⟩ => ⟨_, h1, ⟨M, ks, wv, ws, fz', h2⟩, h3, tup0⟩)
theorem sp_fall (p : PD) : FnSpec Try.prog 24 1 1 [.c (.ptr 0 0)] [(0, .obj (diskP p))] (.tup []) [(0, .obj (diskP p.fall))] :=
  disk_spec trivial (by simp [AV.bel, belowA]) (fun g w F D xs _ hr _ ⟨M, ks, wv, ws, fz, h⟩ => by
    rw [nil_args hr]
    exact (fall_calls h).mono fun e w' ⟨h1, h2, h3⟩ => ⟨_, h1, ⟨M, ks, wv, ws, fz, h2⟩, h3, tup0⟩)
theorem sp_sync (p : PD) (hl : p.waits.length ≤ 1000000) : FnSpec Try.prog 21 1 1 [.c (.ptr 0 0)] [(0, .obj (diskP p))] (vv (.int .i64 p.sync.1)) [(0, .obj (diskP p.sync.2))] :=
  disk_spec trivial (by simp [AV.bel, C.bel]) (fun g w F D xs _ hr _ ⟨M, ks, wv, ws, fz, h⟩ => by
    rw [nil_args hr]
    exact (sync_calls h (by rw [ws_len h]; exact hl)).mono fun e w' ⟨h1, h2, h3⟩ => ⟨_, h1, h2, h3, fun _ => rep_vv rfl⟩)
theorem sp_back (p : PD) (hl : p.waits.length ≤ 1000000) (keep : Int) (torn : Bool) : FnSpec Try.prog 14 1 1 [.c (.ptr 0 0), vv (.int .i64 keep), vv (.bool torn)] [(0, .obj (diskP p))] (.tup []) [(0, .obj (diskP (p.back keep torn)))] :=
  disk_spec (args := [vv (.int .i64 keep), vv (.bool torn)]) (by simp [belowA, AV.bel, C.bel]) (by simp [AV.bel, belowA]) (fun g w F D xs _ hr _ ⟨M, ks, wv, ws, fz, h⟩ => by
    obtain ⟨x, ys, rfl, hx, hr⟩ := cons_args hr
    obtain ⟨y, zs, rfl, hy, hr⟩ := cons_args hr
    rw [nil_args hr, repV hx, repV hy]
    exact (back_calls h (by rw [ws_len h]; exact hl) keep torn (Nat.zero_le _)).mono fun e w' ⟨h1, h2, h3⟩ => ⟨_, h1, h2, h3, tup0⟩)
theorem sp_spoil (p : PD) (i at_ : Int) (by_ : UInt8) : FnSpec Try.prog 25 1 1 [.c (.ptr 0 0), vv (.int .i64 i), vv (.int .i64 at_), vv (.int .u8 (by_.toNat : Int))] [(0, .obj (diskP p))] (vv (.int .i64 (p.spoil i at_ by_).1)) [(0, .obj (diskP (p.spoil i at_ by_).2))] :=
  disk_spec (args := [vv (.int .i64 i), vv (.int .i64 at_), vv (.int .u8 (by_.toNat : Int))]) (by simp [belowA, AV.bel, C.bel]) (by simp [AV.bel, C.bel]) (fun g w F D xs _ hr hX ⟨M, ks, wv, ws, fz, h⟩ => by
    obtain ⟨x, ys, rfl, hx, hr⟩ := cons_args hr
    obtain ⟨y, zs, rfl, hy, hr⟩ := cons_args hr
    obtain ⟨z, us, rfl, hz, hr⟩ := cons_args hr
    rw [nil_args hr, repV hx, repV hy, repV hz]
    exact (spoil_calls h i at_ by_ (Nat.zero_le _) hX).mono fun e w' ⟨h1, h2, h3⟩ => ⟨_, h1, h2, h3, fun _ => rep_vv rfl⟩)
theorem sp_write (p : PD) (i : Int) (b : List UInt8) (hl : p.waits.length ≤ 1000000) (hb : b.length ≤ 100000000) : FnSpec Try.prog 17 1 1 [.c (.ptr 0 0), vv (.int .i64 i), .c (.i (.sl 1 (b.map eU8)))] [(0, .obj (diskP p))] (vv (.int .i64 (p.write i b).1)) [(0, .obj (diskP (p.write i b).2))] :=
  disk_spec (args := [vv (.int .i64 i), .c (.i (.sl 1 (b.map eU8)))]) (by simp [belowA, AV.bel, C.bel]) (by simp [AV.bel, C.bel]) (fun g w F D xs hg hr hX ⟨M, ks, wv, ws, fz, h⟩ => by
    obtain ⟨x, ys, rfl, hx, hr⟩ := cons_args hr
    obtain ⟨y, zs, rfl, hy, hr⟩ := cons_args hr
    rw [nil_args hr, repV hx]
    simp only [RepAV, RepC] at hy
    exact (write_calls h i y b (bytes_of hg hy) (Nat.zero_le _) hX (by rw [ws_len h]; exact hl) hb).mono fun e w' ⟨h1, ⟨wv', ws', fz', h2, _⟩, h3⟩ => ⟨_, h1, ⟨M, ks, wv', ws', fz', h2⟩, h3, fun _ => rep_vv rfl⟩)
theorem sp_read (p : PD) (i : Int) (hl : p.waits.length ≤ 1000000) : FnSpec Try.prog 16 1 1 [.c (.ptr 0 0), vv (.int .i64 i)] [(0, .obj (diskP p))] (.tup [.c (.i (.sl 1 ((p.read i).1.map eU8))), vv (.int .i64 (p.read i).2)]) [(0, .obj (diskP p))] :=
  disk_read_spec (args := [vv (.int .i64 i)]) (by simp [belowA, AV.bel, C.bel]) (by simp [AV.bel, C.bel, belowA]) (fun g w F D xs hg hr ⟨M, ks, wv, ws, fz, h⟩ => by
    obtain ⟨x, ys, rfl, hx, hr⟩ := cons_args hr
    rw [nil_args hr, repV hx]
    refine (read_calls h i (by rw [ws_len h]; exact hl)).mono fun e w' ⟨A, c, h1, h2, h3⟩ => ⟨_, h1, h3, fun g' hg' => ?_⟩
    simp only [RepAV]
    refine ⟨_, rfl, ?_⟩
    simp only [RepAVs, RepAV, RepC]
    refine ⟨?_, .v _ rfl, trivial⟩
    have hlen : (p.read i).1.length = ((p.read i).1.map eU8).length := by simp
    rw [hlen]
    have hrl : ∀ r ∈ (p.read i).1.map eU8, r.length = 1 := by simp [eU8]
    refine sl_of (us := (p.read i).1.map B8) ⟨hrl, by simp, fun h0 => ?_, fun t u d hu hd => ?_⟩ ?_
    · rcases h2.2 with ⟨he, hn⟩ | ⟨b, cap, cur, he, hbb, hh, _⟩
      · simp at h0; omega
      · simp only [Value.slice.injEq] at he
        refine ⟨b, 0, he.1, fun t u hu => ?_⟩
        rw [Nat.zero_add]
        refine hg' b t u hbb ?_
        have := World.ownsRow.cells h2 (g := b) (by rw [he.1]; rfl) t u hu
        rwa [add_off, Nat.zero_add] at this
    · have hf := flat_get ((p.read i).1.map eU8) t 0 hrl (by omega)
      simp only [Nat.mul_one, Nat.add_zero] at hf
      rw [hf, List.getD_eq_getElem?_getD, List.getElem?_map] at hd
      rw [List.getElem?_map] at hu
      cases hb : (p.read i).1[t]? with
      | none => rw [hb] at hu; simp at hu
      | some b =>
        rw [hb] at hu hd
        simp only [Option.map_some, Option.some.injEq, Option.getD_some, eU8, List.getElem?_cons_zero] at hu hd
        subst hu hd
        exact .v _ rfl
    · rw [← hlen]
      rcases h2.2 with ⟨he, hn⟩ | ⟨b, cap, cur, he, hbb, hh, hc, _⟩
      · omega
      · simp only [Value.slice.injEq] at he; omega)
theorem sp_new (size count : Nat) (h1 : 64 ≤ size) (h2 : size ≤ 512) (h3 : 1 ≤ count) (h4 : count ≤ 4096) : FnSpec Try.prog 6 0 1 [vv (.int .i64 size), vv (.int .i64 count)] [] (.tup [.c (.ptr 0 0), vv (.int .i64 0)]) [(0, .obj (diskP (PD.new size count)))] := by
  refine ⟨by simp [belowA, AV.bel, C.bel], fun _ h => by simp at h, by simp [belowA, AV.bel, C.bel], fun q hq => ?_, by omega, fun g w xs hg hr hh ha => ?_⟩
  · simp only [List.mem_singleton] at hq; subst hq; exact ⟨Nat.one_pos, by simp [R.bel]⟩
  obtain ⟨x, ys, rfl, hx, hr⟩ := cons_args hr
  obtain ⟨y, zs, rfl, hy, hr⟩ := cons_args hr
  rw [nil_args hr, repV hx, repV hy]
  refine (new_calls ⟨0, fun k => w.heap.size ≤ k⟩ size count w h1 h2 h3 h4 (Nat.zero_le _) (fun _ h => h)).mono ?_
  rintro e w' ⟨D, rfl, hD, hbl, hDs⟩
  have hE : Ext (fun _ => False) (fun id => id = 0) g { g with alive := fun id => g.alive id ∨ id = 0, blk := fun id => if id = 0 then D else g.blk id, F := fun id => if id = 0 then (fun k => w.heap.size ≤ k ∧ k < w'.heap.size) else g.F id } w w' :=
    ⟨hbl.os, hbl.tape, hbl.output, hbl.size, fun k hk _ => hbl.block k hk, fun _ _ _ h => h, fun _ _ _ h => .inl h, fun _ h => .inl h, fun id hi => by have := ha id hi; omega, fun _ _ => rfl, fun id hi _ => by have := ha id hi; omega⟩
  refine ⟨_, _, rfl, fun b j u hu => ?_, hE.weaken (fun _ h => h.elim) (fun _ _ => trivial), ?_, ⟨fun id r hi => ?_, fun id r hi => ?_, fun id id' r r' hi hi' hne => ?_⟩, fun k hk => ?_⟩
  · exact (World.cell?_of_block (hbl.block b (good_lt hg hu))).trans (hg b j u hu)
  · simp only [RepAV]
    refine ⟨_, rfl, ?_⟩
    simp only [RepAVs, RepAV, RepC]
    exact ⟨⟨.inr trivial, by simp⟩, .v _ rfl, trivial⟩
  · obtain ⟨rfl, rfl⟩ := get_one hi; exact .inr rfl
  · obtain ⟨rfl, rfl⟩ := get_one hi
    refine ⟨⟨?_, fun k hk => by simp at hk; exact hk.2⟩, fun k hk j => ?_⟩
    · have := disk_cut hD; simpa using this
    · simp only [if_true] at hk; exact good_none hg hk.1
  · obtain ⟨rfl, rfl⟩ := get_one hi; obtain ⟨rfl, rfl⟩ := get_one hi'; exact absurd rfl hne
  · obtain ⟨id, r, hi, hk⟩ := hk
    obtain ⟨rfl, rfl⟩ := get_one hi
    simp only [if_true] at hk
    exact .inr hk.1
theorem get_two {α : Type _} {i j id : Nat} {u v r : α} (h : get [(i, u), (j, v)] id = some r) : (id = i ∧ r = u) ∨ (id ≠ i ∧ id = j ∧ r = v) := by
  rw [get_cons] at h
  by_cases e : i = id
  · rw [if_pos e] at h; injection h with h; exact .inl ⟨e.symm, h.symm⟩
  · rw [if_neg e] at h; obtain ⟨h1, h2⟩ := get_one h; exact .inr ⟨Ne.symm e, h1, h2⟩
/-- A write of a row of one's own. -/
theorem sp_writeR (p : PD) (i : Int) (b : List UInt8) (hl : p.waits.length ≤ 1000000) (hb : b.length ≤ 100000000) : FnSpec Try.prog 17 2 2 [.c (.ptr 0 0), vv (.int .i64 i), .c (.own 1)] [(0, .obj (diskP p)), (1, .row 5 1 (b.map fun b => C.i (.v (.int .u8 (b.toNat : Int)))))] (vv (.int .i64 (p.write i b).1)) [(0, .obj (diskP (p.write i b).2)), (1, .row 5 1 (b.map fun b => C.i (.v (.int .u8 (b.toNat : Int)))))] := by
  have hbel : ∀ l : List UInt8, belowL 2 (l.map fun b => C.i (.v (.int .u8 (b.toNat : Int)))) := fun l => by
    have := belowL_i 2 (l.map fun b => I.v (.int .u8 (b.toNat : Int))); rwa [List.map_map] at this
  have hb2 : ∀ q : PD, heapBelow 2 [(0, R.obj (diskP q)), (1, R.row 5 1 (b.map fun b => C.i (.v (.int .u8 (b.toNat : Int)))))] := fun q x hx => by
    simp only [List.mem_cons, List.not_mem_nil, or_false] at hx
    rcases hx with rfl | rfl
    · exact ⟨(by simp), by simp [R.bel]⟩
    · exact ⟨(by simp), hbel b⟩
  refine ⟨by simp [belowA, AV.bel, C.bel], hb2 p, by simp [AV.bel, C.bel], hb2 _, by omega, fun g w xs hg hr hh ha => ?_⟩
  obtain ⟨x, ys, rfl, hx, hr⟩ := cons_args hr
  obtain ⟨y, zs, rfl, hy, hr⟩ := cons_args hr
  obtain ⟨z, us, rfl, hz, hr⟩ := cons_args hr
  rw [nil_args hr, repV hy]
  obtain ⟨hal, rfl⟩ := ptr_rep hx
  obtain ⟨hal1, rfl⟩ := own_rep hz
  obtain ⟨⟨hD, hlt⟩, hF0⟩ := hh.holds 0 _ rfl
  have hrow := hh.holds 1 _ rfl
  have hdj := hh.dj 0 1 _ _ rfl rfl (by decide)
  have hrow' := hrow
  obtain ⟨m, vs, r1, r2, r3, r4⟩ := hrow
  have hvs : vs = b.map B8 := by
    apply List.ext_getElem?
    intro j
    have hl := repCs_length r2
    rcases Nat.lt_or_ge j vs.length with hj | hj
    · have hjb : j < b.length := by simp at hl; omega
      obtain ⟨u, hu, hru⟩ := repCs_get r2 j (.i (.v (.int .u8 (b[j].toNat : Int)))) (by rw [List.getElem?_map, List.getElem?_eq_getElem hjb]; rfl)
      simp only [RepC] at hru
      rw [hu, repI_v hru, List.getElem?_map, List.getElem?_eq_getElem hjb]; rfl
    · rw [List.getElem?_eq_none hj, List.getElem?_eq_none (by simp at hl ⊢; omega)]
  subst hvs
  have hby : Bytes w (g.slv 1) b := by
    have hm : m = b.length := by have := r1.1; simp at this; omega
    subst hm
    rcases r1.2 with ⟨c, hv, h0⟩ | ⟨bk, cap, cur, fz, hv, hc, hhb, ht, hf⟩
    · refine ⟨none, c, by rw [hv, h0], by omega, by simp, b8_one b, fun j u hj => ?_⟩
      have := (List.getElem?_eq_some_iff.1 hj).1; simp at this; omega
    · refine ⟨_, cap, hv, hc, by simp, b8_one b, fun j u hj => ⟨_, rfl, ?_⟩⟩
      rw [add_off, Nat.zero_add, cell_of_row' w _ _ _ _ _ hhb]
      rw [← ht, List.getElem?_take] at hj
      split at hj
      · simpa using hj
      · cases hj
  obtain ⟨M, ks, wv, ws, fz, h⟩ := hD
  refine (write_calls (base := ⟨0, fun k => g.F 0 k ∨ w.heap.size ≤ k⟩) (drep_zone (fun k hk => .inl hk) h) i (g.slv 1) b hby (Nat.zero_le _) (fun k hk => .inr hk) (by rw [ws_len h]; exact hl) hb).mono ?_
  rintro e w' ⟨rfl, ⟨wv', ws', fz', h2, _⟩, ht⟩
  have hcell : ∀ b j u, g.G b j = some u → w'.cell? ⟨b, j, none⟩ = w.cell? ⟨b, j, none⟩ := fun b j u hu => by
    refine World.cell?_of_block (ht.keep b (good_lt hg hu) (.inl ?_))
    rintro (h1 | h1)
    · rw [hF0 b h1 j] at hu; cases hu
    · have := good_lt hg hu; omega
  have hE : Ext (g.F 0) (fun id => id = 0) g { g with F := fun id => if id = 0 then (fun k => (g.F 0 k ∨ w.heap.size ≤ k) ∧ k < w'.heap.size) else g.F id } w w' :=
    ⟨ht.os, ht.tape, ht.output, ht.size, fun k hk hno => ht.keep k hk (.inl (fun h1 => by
        rcases h1 with h1 | h1
        · exact hno h1
        · omega)), fun _ _ _ h => h, fun _ _ _ h => .inl h, fun _ h => h, fun _ _ => rfl, fun _ _ => rfl, fun id _ hn => by simp only; rw [if_neg hn]⟩
  refine ⟨_, { g with F := fun id => if id = 0 then (fun k => (g.F 0 k ∨ w.heap.size ≤ k) ∧ k < w'.heap.size) else g.F id }, rfl, fun b j u hu => (hcell b j u hu).trans (hg b j u hu), hE.weaken (fun k hk => ⟨0, _, rfl, hk⟩) (fun _ _ => trivial), rep_vv rfl, ⟨fun id r hi => ?_, fun id r hi => ?_, fun id id' r r' hi hi' hne k hk => ?_⟩, fun k hk => ?_⟩
  · rcases get_two hi with ⟨rfl, _⟩ | ⟨_, rfl, _⟩
    · exact hal
    · exact hal1
  · rcases get_two hi with ⟨rfl, rfl⟩ | ⟨_, rfl, rfl⟩
    · refine ⟨⟨?_, fun k hk => by simp at hk; exact hk.2⟩, fun k hk j => ?_⟩
      · have := disk_cut ⟨M, ks, wv', ws', fz', h2⟩; simpa using this
      · simp only [if_true] at hk
        rcases hk.1 with h1 | h1
        · exact hF0 k h1 j
        · exact good_none hg h1
    · exact holds_keep hrow' hE hal1 (by decide) (fun k hk h0 => hdj k h0 hk)
  · have hlt1 : ∀ k, g.F 1 k → k < w.heap.size := fun k hk => r1.lt k ((r3 k).1 hk)
    rcases get_two hi with ⟨rfl, rfl⟩ | ⟨_, rfl, rfl⟩
    · rcases get_two hi' with ⟨rfl, _⟩ | ⟨_, rfl, _⟩
      · exact absurd rfl hne
      · simp only [if_true] at hk
        show ¬ g.F 1 k
        intro h1
        rcases hk.1 with h3 | h3
        · exact hdj k h3 h1
        · have := hlt1 k h1; omega
    · rcases get_two hi' with ⟨rfl, _⟩ | ⟨_, rfl, _⟩
      · have hk' : g.F 1 k := hk
        simp only [if_true]
        intro h1
        rcases h1.1 with h3 | h3
        · exact hdj k h3 hk'
        · have := hlt1 k hk'; omega
      · exact absurd rfl hne
  · obtain ⟨id, r, hi, hk⟩ := hk
    rcases get_two hi with ⟨rfl, rfl⟩ | ⟨_, rfl, rfl⟩
    · simp only [if_true] at hk
      rcases hk.1 with h1 | h1
      · exact .inl ⟨0, _, rfl, h1⟩
      · exact .inr h1
    · exact .inl ⟨1, _, rfl, hk⟩
end Go.Proofs.Ytdmpocojbheoiaa.AM
