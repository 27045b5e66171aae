import Derived.Test.YtlcokkiohilmlaaGreatDoorOp
/- How a result that reads as data lies in memory. -/
namespace Go.Proofs.YtlcokkiohilmlaaGreatDoor
open Go.RowKit

instance : Inhabited LogD := ⟨⟨[], [], []⟩⟩
instance : Inhabited RecD := ⟨⟨[], false, 0, []⟩⟩
instance : Inhabited AccD := ⟨⟨[], 0, 0, [], []⟩⟩
theorem co_u8 : Tryz.prog.cellsOf 5 = 1 := by kernel_rfl
theorem co_u64 : Tryz.prog.cellsOf 22 = 1 := by kernel_rfl
theorem co_int : Tryz.prog.cellsOf 3 = 1 := by kernel_rfl
theorem co_bool : Tryz.prog.cellsOf 4 = 1 := by kernel_rfl
theorem co_addr : Tryz.prog.cellsOf 41 = 20 := by kernel_rfl
theorem co_hash : Tryz.prog.cellsOf 24 = 32 := by kernel_rfl
theorem co_b256 : Tryz.prog.cellsOf 25 = 256 := by kernel_rfl
theorem co_word : Tryz.prog.cellsOf 43 = 4 := by kernel_rfl
theorem co_slot : Tryz.prog.cellsOf 77 = 8 := by kernel_rfl
theorem co_log : Tryz.prog.cellsOf 104 = 22 := by kernel_rfl
theorem co_rec : Tryz.prog.cellsOf 34 = 261 := by kernel_rfl
theorem co_acc : Tryz.prog.cellsOf 46 = 27 := by kernel_rfl
theorem co_res : Tryz.prog.cellsOf 29 = 389 := by kernel_rfl
theorem co_u8s : Tryz.prog.cellsOf 31 = 1 := by kernel_rfl
theorem co_hashes : Tryz.prog.cellsOf 90 = 1 := by kernel_rfl
theorem co_logs : Tryz.prog.cellsOf 32 = 1 := by kernel_rfl
theorem co_recs : Tryz.prog.cellsOf 26 = 1 := by kernel_rfl
theorem co_accs : Tryz.prog.cellsOf 27 = 1 := by kernel_rfl
theorem co_slots : Tryz.prog.cellsOf 44 = 1 := by kernel_rfl

/-- an account, cut -/
def cutA (d : AccD) : AccD := { d with code := d.code.take 400, store := d.store.take 20 }
theorem lineS_le (ps : List (List UInt8)) : (lineS ps).length ≤ (ps.map (·.length)).sum + ps.length + 1 := by
  have key : ∀ r : List (List UInt8), (r.flatMap fun q => 32 :: q).length = (r.map (·.length)).sum + r.length := by
    intro r
    induction r with
    | nil => rfl
    | cons q r ih => simp only [List.flatMap_cons, List.length_append, List.length_cons, List.map_cons, List.sum_cons, ih]; omega
  cases ps with
  | nil => simp [lineS, joinS]
  | cons p r =>
    simp only [lineS, joinS, List.length_append, List.length_cons, List.length_nil, List.map_cons, List.sum_cons, key]
    omega
theorem text_len (l : List UInt8) : (text l).length = 2 * l.length + 2 := by simp [text, hexes_length]
theorem quant_le (n : Nat) : (quant n).length ≤ 66 := by
  have h1 := shortB_len n
  have h2 := (List.dropWhile_suffix (fun x : UInt8 => x == 48) (l := hexes (shortB n))).length_le
  rw [hexes_length] at h2
  unfold quant quantD
  split <;> simp only [List.length_cons, List.length_nil] <;> omega
theorem sum_le {α : Type} (f : α → Nat) (k : Nat) : ∀ l : List α, (∀ x ∈ l, f x ≤ k) → (l.map f).sum ≤ l.length * k
  | [], _ => by simp
  | x :: l, h => by
    have h1 := sum_le f k l (fun y hy => h y (List.mem_cons_of_mem _ hy))
    have h2 := h x (List.mem_cons_self)
    simp only [List.map_cons, List.sum_cons, List.length_cons, Nat.succ_mul]
    omega
theorem log_len (d : LogD) (ha : d.addr.length = 20) (ht : ∀ x ∈ d.topics, x.length = 32) : (lineS (logP d)).length ≤ 100 + d.data.length * 2 + d.topics.length * 67 := by
  have h := lineS_le (logP d)
  have h1 := sum_le (fun x : List UInt8 => (text x).length) 66 d.topics (fun x hx => by have := ht x hx; rw [text_len]; omega)
  have h2 : ((logP d).map (·.length)).sum + (logP d).length + 1 ≤ 100 + d.data.length * 2 + d.topics.length * 67 := by
    have e : ((fun x : List UInt8 => x.length) ∘ text) = fun x : List UInt8 => (text x).length := rfl
    simp only [logP, List.map_cons, List.sum_cons, List.length_cons, List.length_map, List.map_map, text_len, ha, List.length_nil] at h1 ⊢
    simp only [Function.comp_def, text_len]
    omega
  exact Nat.le_trans h h2
theorem logs_len (ds : List LogD) : (logsS ds).length = (ds.map fun d => (lineS (logP d)).length).sum := List.length_flatMap
theorem rec_len (d : RecD) : (recS d).length ≤ 100 + d.root.length * 2 + (d.logs.map fun d => (lineS (logP d)).length).sum := by
  have h := lineS_le (recP d)
  have hq := quant_le d.gas
  rw [recS, List.length_append, logs_len]
  have h3 : (recP d).length = 3 := rfl
  have h4 : ((recP d).map (·.length)).sum ≤ 79 + d.root.length * 2 := by
    simp only [recP, List.map_cons, List.sum_cons, List.length_cons, List.length_nil, List.map_nil, List.sum_nil]
    split
    · split <;> simp only [List.length_cons, List.length_nil] <;> omega
    · rw [text_len]; omega
  omega
theorem acc_len (d : AccD) (ha : d.addr.length = 20) : (accS (cutA d)).length ≤ 200 + d.code.length * 2 + d.store.length * 140 := by
  have h := lineS_le (accP (cutA d))
  have hq := quant_le d.nonce
  have hb := quant_le d.bal
  have ht : (d.code.take 400).length ≤ d.code.length := by rw [List.length_take]; omega
  have hs : (d.store.take 20).length ≤ d.store.length := by rw [List.length_take]; omega
  have h1 : (((cutA d).store).flatMap fun s => lineS (slotP s)).length ≤ (d.store.take 20).length * 140 := by
    rw [List.length_flatMap]
    refine sum_le _ 140 _ (fun x _ => ?_)
    have h := lineS_le (slotP x)
    have h2 := quant_le x.1
    have h3 := quant_le x.2
    simp only [slotP, List.map_cons, List.sum_cons, List.length_cons, List.length_nil, List.map_nil, List.sum_nil] at h
    exact Nat.le_trans h (by omega)
  simp only [accP, cutA, List.map_cons, List.sum_cons, List.length_cons, List.length_nil, List.map_nil, List.sum_nil, text_len, ha] at h
  rw [accS, List.length_append]
  have h4 : (lineS (accP (cutA d))).length ≤ 200 + d.code.length * 2 := Nat.le_trans h (by omega)
  have h5 : (d.store.take 20).length * 140 ≤ d.store.length * 140 := Nat.mul_le_mul_right _ hs
  omega
/-- as 'AccC', the rooms told -/
def AccV (B : Nat) (w : World) (cs : Array Value) (d : AccD) : Prop :=
  cs.all (·.oneCell') = true ∧ d.addr.length = 20 ∧ cs.extract 0 20 = bytesV d.addr ∧ cs[20]? = some (.int .u64 d.nonce) ∧ d.nonce < 2 ^ 64 ∧ cs.extract 21 25 = wcells d.bal ∧ d.bal < 2 ^ 256 ∧
    (∃ cv, cs[25]? = some cv ∧ RdV B w cv d.code) ∧ ∃ sv, cs[26]? = some sv ∧ RdW B w 8 SlotC sv d.store
/-- as 'ResC', the rooms told -/
def ResV (B : Nat) (w : World) (cs : Array Value) (d : ResD) : Prop :=
  cs.all (·.oneCell') = true ∧ cs.size = 389 ∧ cs[0]? = some (.int .u64 d.number) ∧ d.number < 2 ^ 64 ∧ (d.hash.length = 32 ∧ cs.extract 1 33 = bytesV d.hash) ∧ (d.state.length = 32 ∧ cs.extract 33 65 = bytesV d.state) ∧
    (d.txs.length = 32 ∧ cs.extract 65 97 = bytesV d.txs) ∧ (d.rroot.length = 32 ∧ cs.extract 97 129 = bytesV d.rroot) ∧ (d.bloom.length = 256 ∧ cs.extract 129 385 = bytesV d.bloom) ∧
    cs[385]? = some (.int .u64 d.gas) ∧ d.gas < 2 ^ 64 ∧ cs[386]? = some (.int .u64 d.blob) ∧ d.blob < 2 ^ 64 ∧ (∃ rv, cs[387]? = some rv ∧ RdS B w 261 (RecC B w) rv d.recs) ∧ ∃ av, cs[388]? = some av ∧ RdS B w 27 (AccV B w) av d.alloc

section
variable {H : Type} {enc : TypeId × Value → H} {w : World} {spare : Nat → Bool} {held : Bool} {fuel : Nat} {cs : List Value} {x : DataW H × List MemPlace}
variable {bk : DataW H → Nat} {bka : List (DataW H) → Nat}

theorem all_arr {cs : List Value} (h : cs.all (·.oneCell') = true) : cs.toArray.all (·.oneCell') = true := by simpa using h
theorem fld {t : TypeId} {k off : Nat} {y : DataW H × List MemPlace} (hc : Tryz.prog.cellsOf t = k) (h : DataW.trod enc Tryz.prog w 0 spare held fuel t ((cs.drop off).take (Tryz.prog.cellsOf t)) = some y) : DataW.trod enc Tryz.prog w 0 spare held fuel t ((cs.drop off).take k) = some y := by
  rw [hc] at h; exact h
theorem op_addr (h : DataW.trod enc Tryz.prog w 0 spare held fuel 41 cs = some x) : ∃ l : List UInt8, l.length = 20 ∧ cs = Lib.byteCells l := op_bytes Tryz.underlying41 Tryz.underlying5 co_u8 co_addr h
theorem op_hash (h : DataW.trod enc Tryz.prog w 0 spare held fuel 24 cs = some x) : ∃ l : List UInt8, l.length = 32 ∧ cs = Lib.byteCells l := op_bytes Tryz.underlying24 Tryz.underlying5 co_u8 co_hash h
theorem op_b256 (h : DataW.trod enc Tryz.prog w 0 spare held fuel 25 cs = some x) : ∃ l : List UInt8, l.length = 256 ∧ cs = Lib.byteCells l := op_bytes Tryz.underlying25 Tryz.underlying5 co_u8 co_b256 h
theorem op_wd (h : DataW.trod enc Tryz.prog w 0 spare held fuel 43 cs = some x) : ∃ m, m < 2 ^ 256 ∧ cs = (wcells m).toList := op_word Tryz.underlying43 Tryz.underlying22 co_u64 co_word h

theorem op_slot (h : DataW.trod enc Tryz.prog w 0 spare held fuel 77 cs = some x) : ∃ d, SlotC cs.toArray d := by
  obtain ⟨xs, n, -, rfl, hl, hx, hf⟩ := DataW.trod_struct Tryz.underlying77 h
  match xs, hx with
  | [y0, y1], _ =>
    have h0 := fld (t := 43) (off := 0) co_word (hf 0 _ rfl)
    have h1 := fld (t := 43) (off := 4) co_word (hf 1 _ rfl)
    rw [co_slot] at hl
    obtain ⟨a, ha, ea⟩ := op_wd h0
    obtain ⟨b, hb, eb⟩ := op_wd h1
    refine ⟨(a, b), ?_, ha, hb⟩
    have e : cs = (wcells a).toList ++ (wcells b).toList := by
      rw [← ea, ← eb, List.drop_zero, List.take_of_length_le (l := List.drop 4 cs) (by simp; omega), List.take_append_drop]
    rw [e]; simp
theorem op_log (hB : Bulk 200 bk bka) (h : DataW.trod enc Tryz.prog w 0 spare held fuel 104 cs = some x) : ∃ d, LogC w.heap.size w cs.toArray d ∧ (lineS (logP d)).length ≤ bk x.1 := by
  obtain ⟨xs, n, -, rfl, hl, hx, hf⟩ := DataW.trod_struct Tryz.underlying104 h
  match xs, hx with
  | [y0, y1, y2], _ =>
    have h0 := fld (t := 41) (off := 0) co_addr (hf 0 _ rfl)
    have h1 := fld (t := 90) (off := 20) co_hashes (hf 1 _ rfl)
    have h2 := fld (t := 31) (off := 21) co_u8s (hf 2 _ rfl)
    rw [co_log] at hl
    obtain ⟨a, la, ea⟩ := op_addr h0
    obtain ⟨tv, ts, et, ot, ht, wt⟩ := op_rows hB (α := List UInt8) Tryz.underlying90 co_hash (by omega) HashC (fun _ => 200) (fun _ _ y hy => by
      obtain ⟨l, hl, rfl⟩ := op_hash hy
      exact ⟨l, ⟨hl, rfl⟩, hB.one _⟩) h1
    obtain ⟨dv, ds, ed, od, hd, wd⟩ := op_raw hB Tryz.underlying31 Tryz.underlying5 co_u8 h2
    refine ⟨⟨a, ts, ds⟩, ⟨all_arr ?_, la, ?_, ⟨tv, get_drop et, ht.s⟩, dv, get_drop ed, hd.u⟩, ?_⟩
    · have := all_split (f := (·.oneCell')) 0 20 (by rw [ea]; exact bytes_all _) (all_split 20 1 (by rw [et]; simpa using ot) (all_split 21 1 (by rw [ed]; simpa using od) (all_end hl)))
      simpa using this
    · have := extract_drop cs 0 20
      rw [ea] at this
      exact this
    · have := hB.agg [y0.1, y1.1, y2.1]
      simp only [hB.cons, hB.nil] at this
      rw [List.map_const', List.sum_replicate_nat] at wt
      have := hB.one y0.1
      have hh : ∀ x ∈ ts, x.length = 32 := fun x hx => by
        obtain ⟨i, hi, rfl⟩ := List.getElem_of_mem hx
        obtain ⟨_, _, -, -, hc⟩ := ht
        obtain ⟨_, _, _, -, -, -, -, hp⟩ := hc i hi
        exact hp.1
      have h9 := log_len ⟨a, ts, ds⟩ la hh
      show (lineS (logP ⟨a, ts, ds⟩)).length ≤ bk (.agg [y0.1, y1.1, y2.1])
      simp only at h9
      omega
theorem op_rec (hB : Bulk 200 bk bka) (h : DataW.trod enc Tryz.prog w 0 spare held fuel 34 cs = some x) : ∃ d, RecC w.heap.size w cs.toArray d ∧ (recS d).length ≤ bk x.1 := by
  obtain ⟨xs, n, -, rfl, hl, hx, hf⟩ := DataW.trod_struct Tryz.underlying34 h
  match xs, hx with
  | [y0, y1, y2, y3, y4, y5], _ =>
    have h0 := fld (t := 3) (off := 0) co_int (hf 0 _ rfl)
    have h1 := fld (t := 31) (off := 1) co_u8s (hf 1 _ rfl)
    have h2 := fld (t := 4) (off := 2) co_bool (hf 2 _ rfl)
    have h3 := fld (t := 22) (off := 3) co_u64 (hf 3 _ rfl)
    have h4 := fld (t := 25) (off := 4) co_b256 (hf 4 _ rfl)
    have h5 := fld (t := 32) (off := 260) co_logs (hf 5 _ rfl)
    rw [co_rec] at hl
    obtain ⟨k, ek⟩ := op_i64 Tryz.underlying3 h0
    obtain ⟨rv, rs, er, or, hr, wr⟩ := op_raw hB Tryz.underlying31 Tryz.underlying5 co_u8 h1
    obtain ⟨b, eb, -⟩ := DataW.trod_bool Tryz.underlying4 h2
    obtain ⟨g, eg, hg⟩ := op_u64 Tryz.underlying22 h3
    obtain ⟨bl, -, ebl⟩ := op_b256 h4
    obtain ⟨lv, ls, el, ol, hls, wl⟩ := op_rows hB (α := LogD) Tryz.underlying32 co_log (by omega) (LogC w.heap.size w) (fun d => (lineS (logP d)).length) (fun _ _ y hy => op_log hB hy) h5
    refine ⟨⟨rs, b, g, ls⟩, ⟨all_arr ?_, ⟨rv, get_drop er, hr.u⟩, get_drop eb, get_drop eg, hg, lv, get_drop el, hls.s⟩, ?_⟩
    · have := all_split (f := (·.oneCell')) 0 1 (by rw [ek]; rfl) (all_split 1 1 (by rw [er]; simpa using or) (all_split 2 1 (by rw [eb]; rfl) (all_split 3 1 (by rw [eg]; rfl) (all_split 4 256 (by rw [ebl]; exact bytes_all _) (all_split 260 1 (by rw [el]; simpa using ol) (all_end hl))))))
      simpa using this
    · have := hB.agg [y0.1, y1.1, y2.1, y3.1, y4.1, y5.1]
      simp only [hB.cons, hB.nil] at this
      have h9 := rec_len ⟨rs, b, g, ls⟩
      show (recS ⟨rs, b, g, ls⟩).length ≤ bk (.agg [y0.1, y1.1, y2.1, y3.1, y4.1, y5.1])
      simp only at h9
      omega
theorem op_acc (hB : Bulk 200 bk bka) (h : DataW.trod enc Tryz.prog w 0 spare held fuel 46 cs = some x) : ∃ d, AccV w.heap.size w cs.toArray d ∧ (accS (cutA d)).length + d.code.length ≤ bk x.1 := by
  obtain ⟨xs, n, -, rfl, hl, hx, hf⟩ := DataW.trod_struct Tryz.underlying46 h
  match xs, hx with
  | [y0, y1, y2, y3, y4], _ =>
    have h0 := fld (t := 41) (off := 0) co_addr (hf 0 _ rfl)
    have h1 := fld (t := 22) (off := 20) co_u64 (hf 1 _ rfl)
    have h2 := fld (t := 43) (off := 21) co_word (hf 2 _ rfl)
    have h3 := fld (t := 31) (off := 25) co_u8s (hf 3 _ rfl)
    have h4 := fld (t := 44) (off := 26) co_slots (hf 4 _ rfl)
    rw [co_acc] at hl
    obtain ⟨a, la, ea⟩ := op_addr h0
    obtain ⟨g, eg, hg⟩ := op_u64 Tryz.underlying22 h1
    obtain ⟨m, hm, em⟩ := op_wd h2
    obtain ⟨cv, cl, ec, oc, hc, wc⟩ := op_raw hB Tryz.underlying31 Tryz.underlying5 co_u8 h3
    obtain ⟨sv, sl, es, os, hs, ws⟩ := op_rows hB (α := Nat × Nat) Tryz.underlying44 co_slot (by omega) SlotC (fun _ => 200) (fun _ _ y hy => by
      obtain ⟨d, hd⟩ := op_slot hy
      exact ⟨d, hd, hB.one _⟩) h4
    refine ⟨⟨a, g, m, cl, sl⟩, ⟨all_arr ?_, la, ?_, get_drop eg, hg, ?_, hm, ⟨cv, get_drop ec, hc⟩, sv, get_drop es, hs⟩, ?_⟩
    · have := all_split (f := (·.oneCell')) 0 20 (by rw [ea]; exact bytes_all _) (all_split 20 1 (by rw [eg]; rfl) (all_split 21 4 (by rw [em]; simpa using wcells_one m) (all_split 25 1 (by rw [ec]; simpa using oc) (all_split 26 1 (by rw [es]; simpa using os) (all_end hl)))))
      simpa using this
    · have := extract_drop cs 0 20
      rw [ea] at this
      exact this
    · have := extract_drop cs 21 4
      rw [em] at this
      simpa using this
    · have := hB.agg [y0.1, y1.1, y2.1, y3.1, y4.1]
      simp only [hB.cons, hB.nil] at this
      rw [List.map_const', List.sum_replicate_nat] at ws
      have h9 := acc_len ⟨a, g, m, cl, sl⟩ la
      show (accS (cutA ⟨a, g, m, cl, sl⟩)).length + cl.length ≤ bk (.agg [y0.1, y1.1, y2.1, y3.1, y4.1])
      simp only at h9
      omega
theorem op_res (hB : Bulk 200 bk bka) (h : DataW.trod enc Tryz.prog w 0 spare held fuel 29 cs = some x) : ∃ d, ResV w.heap.size w cs.toArray d ∧ (recsS d.recs).length + (d.alloc.map fun a => (accS (cutA a)).length + a.code.length).sum ≤ bk x.1 := by
  obtain ⟨xs, n, -, rfl, hl, hx, hf⟩ := DataW.trod_struct Tryz.underlying29 h
  match xs, hx with
  | [y0, y1, y2, y3, y4, y5, y6, y7, y8, y9], _ =>
    have h0 := fld (t := 22) (off := 0) co_u64 (hf 0 _ rfl)
    have h1 := fld (t := 24) (off := 1) co_hash (hf 1 _ rfl)
    have h2 := fld (t := 24) (off := 33) co_hash (hf 2 _ rfl)
    have h3 := fld (t := 24) (off := 65) co_hash (hf 3 _ rfl)
    have h4 := fld (t := 24) (off := 97) co_hash (hf 4 _ rfl)
    have h5 := fld (t := 25) (off := 129) co_b256 (hf 5 _ rfl)
    have h6 := fld (t := 22) (off := 385) co_u64 (hf 6 _ rfl)
    have h7 := fld (t := 22) (off := 386) co_u64 (hf 7 _ rfl)
    have h8 := fld (t := 26) (off := 387) co_recs (hf 8 _ rfl)
    have h9 := fld (t := 27) (off := 388) co_accs (hf 9 _ rfl)
    rw [co_res] at hl
    obtain ⟨n0, e0, l0⟩ := op_u64 Tryz.underlying22 h0
    obtain ⟨b1, l1, e1⟩ := op_hash h1
    obtain ⟨b2, l2, e2⟩ := op_hash h2
    obtain ⟨b3, l3, e3⟩ := op_hash h3
    obtain ⟨b4, l4, e4⟩ := op_hash h4
    obtain ⟨b5, l5, e5⟩ := op_b256 h5
    obtain ⟨n6, e6, l6⟩ := op_u64 Tryz.underlying22 h6
    obtain ⟨n7, e7, l7⟩ := op_u64 Tryz.underlying22 h7
    obtain ⟨v8, d8, e8, o8, p8, w8⟩ := op_rows hB (α := RecD) Tryz.underlying26 co_rec (by omega) (RecC w.heap.size w) (fun d => (recS d).length) (fun _ _ y hy => op_rec hB hy) h8
    obtain ⟨v9, d9, e9, o9, p9, w9⟩ := op_rows hB (α := AccD) Tryz.underlying27 co_acc (by omega) (AccV w.heap.size w) (fun d => (accS (cutA d)).length + d.code.length) (fun _ _ y hy => op_acc hB hy) h9
    refine ⟨⟨n0, b1, b2, b3, b4, b5, n6, n7, d8, d9⟩, ⟨all_arr ?_, by simpa using hl, get_drop e0, l0, ⟨l1, ?_⟩, ⟨l2, ?_⟩, ⟨l3, ?_⟩, ⟨l4, ?_⟩, ⟨l5, ?_⟩, get_drop e6, l6, get_drop e7, l7, ⟨v8, get_drop e8, p8.s⟩, v9, get_drop e9, p9.s⟩, ?_⟩
    · have := all_split (f := (·.oneCell')) 0 1 (by rw [e0]; rfl) (all_split 1 32 (by rw [e1]; exact bytes_all _) (all_split 33 32 (by rw [e2]; exact bytes_all _) (all_split 65 32 (by rw [e3]; exact bytes_all _) (all_split 97 32 (by rw [e4]; exact bytes_all _)
        (all_split 129 256 (by rw [e5]; exact bytes_all _) (all_split 385 1 (by rw [e6]; rfl) (all_split 386 1 (by rw [e7]; rfl) (all_split 387 1 (by rw [e8]; simpa using o8) (all_split 388 1 (by rw [e9]; simpa using o9) (all_end hl))))))))))
      simpa using this
    · have := extract_drop cs 1 32
      rw [e1] at this; exact this
    · have := extract_drop cs 33 32
      rw [e2] at this; exact this
    · have := extract_drop cs 65 32
      rw [e3] at this; exact this
    · have := extract_drop cs 97 32
      rw [e4] at this; exact this
    · have := extract_drop cs 129 256
      rw [e5] at this; exact this
    · have := hB.agg [y0.1, y1.1, y2.1, y3.1, y4.1, y5.1, y6.1, y7.1, y8.1, y9.1]
      simp only [hB.cons, hB.nil] at this
      show (recsS d8).length + (d9.map fun a => (accS (cutA a)).length + a.code.length).sum ≤ bk (.agg [y0.1, y1.1, y2.1, y3.1, y4.1, y5.1, y6.1, y7.1, y8.1, y9.1])
      rw [recsS, List.length_flatMap]
      exact Nat.le_trans (by omega) this
end
theorem accs_sum (l : List AccD) : (accsS (l.map cutA)).length ≤ (l.map fun a => (accS (cutA a)).length + a.code.length).sum := by
  induction l with
  | nil => simp [accsS]
  | cons a l ih =>
    simp only [accsS, List.map_cons, List.flatMap_cons, List.length_append, List.sum_cons] at ih ⊢
    omega
theorem code_sum (l : List AccD) : ∀ a ∈ l, a.code.length ≤ (l.map fun a => (accS (cutA a)).length + a.code.length).sum := by
  induction l with
  | nil => intro a h; cases h
  | cons x l ih =>
    intro a h
    simp only [List.map_cons, List.sum_cons]
    rcases List.mem_cons.1 h with rfl | h
    · omega
    · have := ih a h; omega
end Go.Proofs.YtlcokkiohilmlaaGreatDoor
