import Derived.Test.YtlcokkiohilmlaaGreatDoorRw
import Derived.Test.YtlcokkiohilmlaaGreatDoorAo
namespace Go.Proofs.YtlcokkiohilmlaaGreatDoor
open Go.RowKit
theorem sl_b256 (b o : Nat) (w : World) : (Instr.sliceAt 25 (.pointer (some ⟨b, o, none⟩)) none none none).run Tryz.prog w = .ok (.slice (some ⟨b, o, none⟩) 256 256) w := by
  obtain ⟨v, h1, h2⟩ := run_sliceAt_all (P := Tryz.prog) Tryz.underlying25 size_u8 al_b256 el_b256 ⟨b, o, none⟩
  rw [h1, h2 (by decide), Addr.add_mid]; rfl
attribute [go_sem] sl_b256
theorem RdB_cut {w : World} {bl n o : Nat} {cs : Array Value} {T : TypeId} {l : List UInt8} (h : Blk w bl cs T) (hl : l.length = n) (he : cs.extract o (o + n) = bytesV l) : RdB w (.slice (some ⟨bl, o, none⟩) n n) l := by
  subst hl
  exact (RdU_of_blk h (B := bl + 1) (by omega) he).rd
set_option maxRecDepth 100000 in
set_option maxHeartbeats 3200000 in
theorem ref_Answer_ok (w : World) (cs : Array Value) (d : ResD) (hv : ResC w.heap.size w cs d) (hlen : (ansOK d).length ≤ 2 ^ 40) :
    Calls Tryz.prog 6 #[.agg cs, .int .i64 0] w fun e w' => e = .returned (.string ⟨(ansOK d).toArray⟩) ∧ Below w.heap.size w w' := by
  obtain ⟨hcs, k0, n0, ⟨l1, x1⟩, ⟨l2, x2⟩, ⟨l3, x3⟩, ⟨l4, x4⟩, ⟨l5, x5⟩, k6, n6, k7, n7, ⟨rv, k8, hrec⟩, av, k9, hacc⟩ := hv
  have hl1 : (recsS d.recs).length ≤ 1099511627776 := by simp only [ansOK, List.length_append] at hlen; omega
  have hl2 : (accsS d.alloc).length ≤ 1099511627776 := by simp only [ansOK, List.length_append] at hlen; omega
  have hN := Blk.new w cs 29
  have hb0 : Below w.heap.size w (w.alloc (.cells cs 29)) := (Below.refl _ _).alloc (Nat.le_refl _) _
  obtain ⟨w0, hw0⟩ : ∃ w0 : World, w0 = w.alloc (.cells cs 29) := ⟨_, rfl⟩
  rw [← hw0] at hN hb0
  have hs0 : w0.heap.size = w.heap.size + 1 := by rw [hw0]; simp
  have HW0 := Lib.hid hw0; clear hw0
  have hle : w.heap.size ≤ w0.heap.size := by omega
  have F1 := Lib.hid (fun w' (hb : Below w0.heap.size w0 w') => RdB_cut (hN.below hb hN.lt) l1 x1)
  have F2 := Lib.hid (fun w' (hb : Below w0.heap.size w0 w') => RdB_cut (hN.below hb hN.lt) l2 x2)
  have F3 := Lib.hid (fun w' (hb : Below w0.heap.size w0 w') => RdB_cut (hN.below hb hN.lt) l3 x3)
  have F4 := Lib.hid (fun w' (hb : Below w0.heap.size w0 w') => RdB_cut (hN.below hb hN.lt) l4 x4)
  have F5 := Lib.hid (fun w' (hb : Below w0.heap.size w0 w') => RdB_cut (hN.below hb hN.lt) l5 x5)
  have G5 := Lib.hid (fun w' (hb : Below w0.heap.size w0 w') => (⟨((hN.below hb hN.lt).cell 385).trans k6, ((hN.below hb hN.lt).cell 386).trans k7, hb⟩ : w'.cell? ⟨w.heap.size, 385, none⟩ = some (.int .u64 d.gas) ∧ w'.cell? ⟨w.heap.size, 386, none⟩ = some (.int .u64 d.blob) ∧ Below w0.heap.size w0 w'))
  have G6 := Lib.hid (fun w' (hb : Below w0.heap.size w0 w') => (⟨((hN.below hb hN.lt).cell 387).trans k8, ((hN.below hb hN.lt).cell 388).trans k9, hb⟩ : w'.cell? ⟨w.heap.size, 387, none⟩ = some rv ∧ w'.cell? ⟨w.heap.size, 388, none⟩ = some av ∧ Below w0.heap.size w0 w'))
  have HREC := Lib.hid (fun w' (hb : Below w.heap.size w w') => (hrec.below hb (fun _ _ h => h.below hb) : RdS w.heap.size w' 261 (RecC w.heap.size w') rv d.recs))
  have HACC := Lib.hid (fun w' (hb : Below w.heap.size w w') => (hacc.below hb (fun _ _ h => h.below hb) : RdS w.heap.size w' 27 (AccC w.heap.size w') av d.alloc))
  have t1 : (text d.hash).length ≤ 66 := by simp [text, hexes_length, l1]
  have m1 : d.hash.length ≤ 2 ^ 40 := by rw [l1]; decide
  have t2 : (text d.state).length ≤ 66 := by simp [text, hexes_length, l2]
  have m2 : d.state.length ≤ 2 ^ 40 := by rw [l2]; decide
  have t3 : (text d.txs).length ≤ 66 := by simp [text, hexes_length, l3]
  have m3 : d.txs.length ≤ 2 ^ 40 := by rw [l3]; decide
  have t4 : (text d.rroot).length ≤ 66 := by simp [text, hexes_length, l4]
  have m4 : d.rroot.length ≤ 2 ^ 40 := by rw [l4]; decide
  have t5 : (text d.bloom).length ≤ 514 := by simp [text, hexes_length, l5]
  have m5 : d.bloom.length ≤ 2 ^ 40 := by rw [l5]; decide
  have u1 := quant_len d.number
  have u2 := quant_len d.gas
  have u3 := quant_len d.blob
  have CELL0 := (hN.cell 0).trans k0
  rw [HW0.out] at CELL0
  clear hN hrec hacc k0 k6 k7 k8 k9 x1 x2 x3 x4 x5 l1 l2 l3 l4 l5 hcs hs0 hlen
  go_enter Tryz.func6, Tryz.ntmps6
  go_wp2_with fail
  rw [← HW0.out]
  clear CELL0
  refine (ref_num _ n0 w0).mono ?_
  rintro e v1 ⟨rfl, c1⟩
  go_wp2_with fail
  refine (ref_end v1).mono ?_
  rintro e v2 ⟨rfl, b2⟩
  have c2 : Below w0.heap.size w0 v2 := c1.trans (b2.mono c1.size)
  clear b2 c1
  go_wp2_with fail
  have eS1 : (ByteArray.mk #[97, 99, 99, 101, 112, 116, 101, 100, 32] ++ ByteArray.mk (quant d.number).toArray ++ ByteArray.mk #[10]) = ByteArray.mk ([97, 99, 99, 101, 112, 116, 101, 100, 32] ++ quant d.number ++ [10]).toArray := by simp only [ba_app]
  rw [eS1]
  clear eS1
  generalize hS1 : [97, 99, 99, 101, 112, 116, 101, 100, 32] ++ quant d.number ++ [10] = S1
  have lS1 : S1.length ≤ 100 := by rw [← hS1]; simp only [List.length_append, List.length_cons, List.length_nil]; omega
  have HS1 := Lib.hid hS1; clear hS1
  have q0 : ¬ 9223372036854775807 < S1.length + 5 := by omega
  have q1 : ¬ 9223372036854775807 < S1.length + 5 + (text d.hash).length := by omega
  have q2 : ¬ 9223372036854775807 < S1.length + 5 + (text d.hash).length + 1 := by omega
  have q3 : ¬ 9223372036854775807 < S1.length + 5 + (text d.hash).length + 1 + 6 := by omega
  have q4 : ¬ 9223372036854775807 < S1.length + 5 + (text d.hash).length + 1 + 6 + (text d.state).length := by omega
  have q5 : ¬ 9223372036854775807 < S1.length + 5 + (text d.hash).length + 1 + 6 + (text d.state).length + 1 := by omega
  have q6 : ¬ 9223372036854775807 < S1.length + 5 + (text d.hash).length + 1 + 6 + (text d.state).length + 1 + 13 := by omega
  have q7 : ¬ 9223372036854775807 < S1.length + 5 + (text d.hash).length + 1 + 6 + (text d.state).length + 1 + 13 + (text d.txs).length := by omega
  have q8 : ¬ 9223372036854775807 < S1.length + 5 + (text d.hash).length + 1 + 6 + (text d.state).length + 1 + 13 + (text d.txs).length + 1 := by omega
  go_region_held3 (fun w' => Below w0.heap.size w0 w')
    (first
      | exact cy6
      | exact cy5
      | exact cy4
      | exact cy3
      | exact cy2
      | exact cy1
      | exact c2.drew
    )
    (first
      | (go_at_call 15; refine (ref_end y5).mono ?_; rintro e y6 ⟨rfl, b⟩; have cy6 : Below w0.heap.size w0 y6 := cy5.trans (b.mono cy5.size); clear b)
      | (go_at_call 17; refine (ref_Text _ _ y4 (F3.out _ cy4) m3).mono ?_; rintro e y5 ⟨rfl, b⟩; have cy5 : Below w0.heap.size w0 y5 := cy4.trans (b.mono cy4.size); clear b)
      | (go_at_call 15; refine (ref_end y3).mono ?_; rintro e y4 ⟨rfl, b⟩; have cy4 : Below w0.heap.size w0 y4 := cy3.trans (b.mono cy3.size); clear b)
      | (go_at_call 17; refine (ref_Text _ _ y2 (F2.out _ cy2) m2).mono ?_; rintro e y3 ⟨rfl, b⟩; have cy3 : Below w0.heap.size w0 y3 := cy2.trans (b.mono cy2.size); clear b)
      | (go_at_call 15; refine (ref_end y1).mono ?_; rintro e y2 ⟨rfl, b⟩; have cy2 : Below w0.heap.size w0 y2 := cy1.trans (b.mono cy1.size); clear b)
      | (go_at_call 17; refine (ref_Text _ _ _ (F1.out _ (c2.drew)) m1).mono ?_; rintro e y1 ⟨rfl, b⟩; have cy1 : Below w0.heap.size w0 y1 := (c2.drew).trans (b.mono (c2.drew).size); clear b)
    )
  go_wp2_with fail
  clear q0 q1 q2 q3 q4 q5 q6 q7 q8
  have eS2 : (ByteArray.mk S1.toArray ++ ByteArray.mk #[104, 97, 115, 104, 32] ++ ByteArray.mk (text d.hash).toArray ++ ByteArray.mk #[10] ++ ByteArray.mk #[115, 116, 97, 116, 101, 32] ++ ByteArray.mk (text d.state).toArray ++ ByteArray.mk #[10] ++ ByteArray.mk #[116, 114, 97, 110, 115, 97, 99, 116, 105, 111, 110, 115, 32] ++ ByteArray.mk (text d.txs).toArray ++ ByteArray.mk #[10]) = ByteArray.mk (S1 ++ [104, 97, 115, 104, 32] ++ text d.hash ++ [10] ++ [115, 116, 97, 116, 101, 32] ++ text d.state ++ [10] ++ [116, 114, 97, 110, 115, 97, 99, 116, 105, 111, 110, 115, 32] ++ text d.txs ++ [10]).toArray := by simp only [ba_app]
  rw [eS2]
  clear eS2
  generalize hS2 : S1 ++ [104, 97, 115, 104, 32] ++ text d.hash ++ [10] ++ [115, 116, 97, 116, 101, 32] ++ text d.state ++ [10] ++ [116, 114, 97, 110, 115, 97, 99, 116, 105, 111, 110, 115, 32] ++ text d.txs ++ [10] = S2
  have lS2 : S2.length ≤ 1000 := by rw [← hS2]; simp only [List.length_append, List.length_cons, List.length_nil]; omega
  have HS2 := Lib.hid hS2; clear hS2
  have q0 : ¬ 9223372036854775807 < S2.length + 9 := by omega
  have q1 : ¬ 9223372036854775807 < S2.length + 9 + (text d.rroot).length := by omega
  have q2 : ¬ 9223372036854775807 < S2.length + 9 + (text d.rroot).length + 1 := by omega
  have q3 : ¬ 9223372036854775807 < S2.length + 9 + (text d.rroot).length + 1 + 6 := by omega
  have q4 : ¬ 9223372036854775807 < S2.length + 9 + (text d.rroot).length + 1 + 6 + (text d.bloom).length := by omega
  have q5 : ¬ 9223372036854775807 < S2.length + 9 + (text d.rroot).length + 1 + 6 + (text d.bloom).length + 1 := by omega
  have q6 : ¬ 9223372036854775807 < S2.length + 9 + (text d.rroot).length + 1 + 6 + (text d.bloom).length + 1 + 4 := by omega
  have q7 : ¬ 9223372036854775807 < S2.length + 9 + (text d.rroot).length + 1 + 6 + (text d.bloom).length + 1 + 4 + (quant d.gas).length := by omega
  have q8 : ¬ 9223372036854775807 < S2.length + 9 + (text d.rroot).length + 1 + 6 + (text d.bloom).length + 1 + 4 + (quant d.gas).length + 1 := by omega
  have q9 : ¬ 9223372036854775807 < S2.length + 9 + (text d.rroot).length + 1 + 6 + (text d.bloom).length + 1 + 4 + (quant d.gas).length + 1 + 8 := by omega
  have q10 : ¬ 9223372036854775807 < S2.length + 9 + (text d.rroot).length + 1 + 6 + (text d.bloom).length + 1 + 4 + (quant d.gas).length + 1 + 8 + (quant d.blob).length := by omega
  have q11 : ¬ 9223372036854775807 < S2.length + 9 + (text d.rroot).length + 1 + 6 + (text d.bloom).length + 1 + 4 + (quant d.gas).length + 1 + 8 + (quant d.blob).length + 1 := by omega
  go_region_held3 (fun w' => w'.cell? ⟨w.heap.size, 385, none⟩ = some (.int .u64 d.gas) ∧ w'.cell? ⟨w.heap.size, 386, none⟩ = some (.int .u64 d.blob) ∧ Below w0.heap.size w0 w')
    (first
      | exact G5.out _ cz8
      | exact G5.out _ cz7
      | exact G5.out _ cz6
      | exact G5.out _ cz5
      | exact G5.out _ cz4
      | exact G5.out _ cz3
      | exact G5.out _ cz2
      | exact G5.out _ cz1
      | exact G5.out _ cy6.drew
    )
    (first
      | (go_at_call 15; refine (ref_end z7).mono ?_; rintro e z8 ⟨rfl, b⟩; have cz8 : Below w0.heap.size w0 z8 := cz7.trans (b.mono cz7.size); clear b)
      | (go_at_call 16; refine (ref_num d.blob n7 z6).mono ?_; rintro e z7 ⟨rfl, b⟩; have cz7 : Below w0.heap.size w0 z7 := cz6.trans (b.mono cz6.size); clear b)
      | (go_at_call 15; refine (ref_end z5).mono ?_; rintro e z6 ⟨rfl, b⟩; have cz6 : Below w0.heap.size w0 z6 := cz5.trans (b.mono cz5.size); clear b)
      | (go_at_call 16; refine (ref_num d.gas n6 z4).mono ?_; rintro e z5 ⟨rfl, b⟩; have cz5 : Below w0.heap.size w0 z5 := cz4.trans (b.mono cz4.size); clear b)
      | (go_at_call 15; refine (ref_end z3).mono ?_; rintro e z4 ⟨rfl, b⟩; have cz4 : Below w0.heap.size w0 z4 := cz3.trans (b.mono cz3.size); clear b)
      | (go_at_call 17; refine (ref_Text _ _ z2 (F5.out _ cz2) m5).mono ?_; rintro e z3 ⟨rfl, b⟩; have cz3 : Below w0.heap.size w0 z3 := cz2.trans (b.mono cz2.size); clear b)
      | (go_at_call 15; refine (ref_end z1).mono ?_; rintro e z2 ⟨rfl, b⟩; have cz2 : Below w0.heap.size w0 z2 := cz1.trans (b.mono cz1.size); clear b)
      | (go_at_call 17; refine (ref_Text _ _ _ (F4.out _ (cy6.drew)) m4).mono ?_; rintro e z1 ⟨rfl, b⟩; have cz1 : Below w0.heap.size w0 z1 := (cy6.drew).trans (b.mono (cy6.drew).size); clear b)
    )
  go_wp2_with fail
  clear q0 q1 q2 q3 q4 q5 q6 q7 q8 q9 q10 q11
  have eS3 : (ByteArray.mk S2.toArray ++ ByteArray.mk #[114, 101, 99, 101, 105, 112, 116, 115, 32] ++ ByteArray.mk (text d.rroot).toArray ++ ByteArray.mk #[10] ++ ByteArray.mk #[98, 108, 111, 111, 109, 32] ++ ByteArray.mk (text d.bloom).toArray ++ ByteArray.mk #[10] ++ ByteArray.mk #[103, 97, 115, 32] ++ ByteArray.mk (quant d.gas).toArray ++ ByteArray.mk #[10] ++ ByteArray.mk #[98, 108, 111, 98, 103, 97, 115, 32] ++ ByteArray.mk (quant d.blob).toArray ++ ByteArray.mk #[10]) = ByteArray.mk (S2 ++ [114, 101, 99, 101, 105, 112, 116, 115, 32] ++ text d.rroot ++ [10] ++ [98, 108, 111, 111, 109, 32] ++ text d.bloom ++ [10] ++ [103, 97, 115, 32] ++ quant d.gas ++ [10] ++ [98, 108, 111, 98, 103, 97, 115, 32] ++ quant d.blob ++ [10]).toArray := by simp only [ba_app]
  rw [eS3]
  clear eS3
  generalize hS3 : S2 ++ [114, 101, 99, 101, 105, 112, 116, 115, 32] ++ text d.rroot ++ [10] ++ [98, 108, 111, 111, 109, 32] ++ text d.bloom ++ [10] ++ [103, 97, 115, 32] ++ quant d.gas ++ [10] ++ [98, 108, 111, 98, 103, 97, 115, 32] ++ quant d.blob ++ [10] = S3
  have lS3 : S3.length ≤ 3000 := by rw [← hS3]; simp only [List.length_append, List.length_cons, List.length_nil]; omega
  have HS3 := Lib.hid hS3; clear hS3
  have q0 : ¬ 9223372036854775807 < S3.length + (recsS d.recs).length := by omega
  have q1 : ¬ 9223372036854775807 < S3.length + (recsS d.recs).length + (accsS d.alloc).length := by omega
  have hz := cz8.size
  have bz := hb0.trans (cz8.mono hle)
  go_region_held3 (fun w' => w'.cell? ⟨w.heap.size, 387, none⟩ = some rv ∧ w'.cell? ⟨w.heap.size, 388, none⟩ = some av ∧ Below w0.heap.size w0 w')
    (first
      | exact G6.out _ cr2
      | exact G6.out _ cr1
      | exact G6.out _ cz8.drew
    )
    (first
      | (go_at_call 19; refine (ref_Accounts w.heap.size r1 _ _ (HACC.out _ (hb0.trans (cr1.mono hle))) (Nat.le_trans hle cr1.size) hl2).mono ?_; rintro e r2 ⟨rfl, b⟩; have cr2 : Below w0.heap.size w0 r2 := cr1.trans (b.mono cr1.size); clear b)
      | (go_at_call 18; refine (ref_Receipts w.heap.size _ _ _ (HREC.out _ bz.drew) (Nat.le_trans hle hz) hl1).mono ?_; rintro e r1 ⟨rfl, b⟩; have cr1 : Below w0.heap.size w0 r1 := (cz8.drew).trans (b.mono hz); clear b)
    )
  go_wp2_with fail
  go_ret
  refine ⟨?_, hb0.trans (cr2.mono hle)⟩
  simp only [ba_app, ansOK, ← HS3.out, ← HS2.out, ← HS1.out, lineS, joinS, List.append_assoc, List.append_nil, List.flatMap_cons, List.flatMap_nil, List.cons_append, List.nil_append]
  rfl
set_option maxRecDepth 100000 in
set_option maxHeartbeats 1600000 in
theorem ref_Answer_no (w : World) (cs : Array Value) (e : Int) (h0 : e ≠ 0) :
    Calls Tryz.prog 6 #[.agg cs, .int .i64 e] w fun r w' => r = .returned (.string ⟨(ansNo e).toArray⟩) ∧ Below w.heap.size w w' := by
  have hne : (e != 0) = true := by simpa using h0
  have hw := wordS_len e
  have H0 := Lib.hid h0; clear h0
  have hb0 : Below w.heap.size w (w.alloc (.cells cs 29)) := (Below.refl _ _).alloc (Nat.le_refl _) _
  go_enter Tryz.func6, Tryz.ntmps6
  go_wp2_with fail
  refine (ref_Word e _).mono ?_
  rintro r w1 ⟨rfl, b1⟩
  have c1 := hb0.trans (b1.mono hb0.size)
  go_wp2_with fail
  refine (ref_end w1).mono ?_
  rintro r w2 ⟨rfl, b2⟩
  have c2 := c1.trans (b2.mono c1.size)
  go_wp2_with fail
  go_ret
  refine ⟨?_, c2⟩
  simp only [ba_app, ansNo, lineS, joinS, List.append_assoc, List.append_nil, List.flatMap_cons, List.flatMap_nil, List.cons_append, List.nil_append]
  rfl
theorem ref_Answer (w : World) (cs : Array Value) (d : ResD) (e : Int) (hv : ResC w.heap.size w cs d) (hlen : (ansOK d).length ≤ 2 ^ 40) :
    Calls Tryz.prog 6 #[.agg cs, .int .i64 e] w fun r w' => r = .returned (.string ⟨(ansS d e).toArray⟩) ∧ Below w.heap.size w w' := by
  unfold ansS
  by_cases h0 : e = 0
  · subst h0; rw [if_pos rfl]; exact ref_Answer_ok w cs d hv hlen
  · rw [if_neg h0]; exact ref_Answer_no w cs e h0
end Go.Proofs.YtlcokkiohilmlaaGreatDoor
