/- What functions of the given program compute, each proved once, for the law that is proved in YtabgoibmnjikkaaStepText: whatever their arguments, under the conditions that each theorem names. -/
import Derived.Shelf.Strings.OnBuilder
import Derived.Test.YtabgoibmnjikkaaMvIII
import Derived.Test.YtabgoibmnjikkaaProg
import Derived.Test.YtabgoibmnjikkaaStepTextPartA
set_option linter.unusedVariables false
set_option linter.unusedSimpArgs false
namespace Go.Proofs.Ytabgoibmnjikkaa
open Go.Mv Go.RowKit


def askWords (q : Ask) : (List ByteArray) := bif ((q.kind == 1)) then ([(⟨#[103, 101, 116]⟩ : ByteArray), quote q.key]) else (bif ((q.kind == 2)) then ([(⟨#[112, 117, 116]⟩ : ByteArray), quote q.key, quote q.val]) else (bif ((q.kind == 3)) then ([(⟨#[100, 101, 108]⟩ : ByteArray), quote q.key]) else (bif q.back then ([(⟨#[98, 97, 99, 107]⟩ : ByteArray), quote q.range.lo, quote q.range.hi, numText q.most]) else ([(⟨#[115, 99, 97, 110]⟩ : ByteArray), quote q.range.lo, quote q.range.hi, numText q.most]))))
/-- impl.askWords -/
theorem ok31 (q : Ask) : CallOK Try.prog 31 [.agg [.c (iC q.kind), .c (sC q.key), .c (sC q.val), .c (sC q.range.lo), .c (sC q.range.hi), .c (iC q.most), .c (bC q.back)]] (.one (.c (.sl 1 ((askWords q).map eStr)))) [] :=
  callOK tyOK Try.func31 rfl fun w S hS => by
    refine a_seq ?_
    refine a_run [1] tyOK (st1 := mk 42 [(1, .one (.pl [(1, 0)] 0 0))] [(1, [.bx [iC q.kind, sC q.key, sC q.val, sC q.range.lo, sC q.range.hi, iC q.most, bC q.back]])]) (by kernel_rfl) ?_
    refine a_seq ?_
    refine a_seq ?_
    refine a_run [1, 5] tyOK (st1 := mk 42 [(1, .one (.pl [(1, 0)] 0 0)), (5, iV q.kind)] [(1, [.bx [iC q.kind, sC q.key, sC q.val, sC q.range.lo, sC q.range.hi, iC q.most, bC q.back]])]) (by kernel_rfl) ?_
    refine a_block ?_
    refine a_seq ?_
    refine a_run [1, 5, 6] tyOK (st1 := mk 42 [(1, .one (.pl [(1, 0)] 0 0)), (5, iV q.kind), (6, bV ((q.kind == 1)))] [(1, [.bx [iC q.kind, sC q.key, sC q.val, sC q.range.lo, sC q.range.hi, iC q.most, bC q.back]])]) (by kernel_rfl) ?_
    refine a_cond (b := (q.kind == 1)) (by kernel_rfl) (fun h1 => ?_) (fun h1 => ?_)
    · have g1 := h1
      try simp only [beq_iff_eq, beq_eq_false_iff_ne] at g1
      refine a_seq ?_
      refine a_ops [0, 1, 2, 3, 4] (by kernel_rfl) ?_
      refine ao_some [0, 1] [2, 3, 4] [9] tyOK (st1 := mk 42 [(9, sV q.key)] []) (by kernel_rfl) ?_
      refine ao_enter (f := 43) (d := 10) (A := [sV q.key]) (st1 := mk 42 [(10, sV (quote q.key))] []) [10] (okQuoteI q.key) Try.call43 (by kernel_rfl) (by kernel_rfl) (by kernel_rfl) ?_
      refine ao_some [3, 4] [] [2] tyOK (st1 := mk 42 [(2, .one (.so [] 11 0 2))] [(11, [.sl 1 ([[sC ((⟨#[103, 101, 116]⟩ : ByteArray))], [sC (quote q.key)]])])]) (by kernel_rfl) ?_
      refine ao_nil ?_
      refine a_freeze (fun _ _ h => h) [] 11 0 [2] (st' := mk 42 [(2, .one (.c (.sl 1 ([[sC ((⟨#[103, 101, 116]⟩ : ByteArray))], [sC (quote q.key)]]))))] []) (by kernel_rfl) ?_
      refine a_ret ?_
      have e : askWords q = [(⟨#[103, 101, 116]⟩ : ByteArray), quote q.key] := by rw [askWords]; rw [h1, cond_true]
      exact end_eq (res' := .one (.c (.sl 1 ([[sC ((⟨#[103, 101, 116]⟩ : ByteArray))], [sC (quote q.key)]])))) (by kernel_rfl) (by rw [e] <;> rfl)
    · have g1 := h1
      try simp only [beq_iff_eq, beq_eq_false_iff_ne] at g1
      refine a_seq ?_
      refine a_run [1, 5, 12] tyOK (st1 := mk 42 [(1, .one (.pl [(1, 0)] 0 0)), (5, iV q.kind), (12, bV ((q.kind == 2)))] [(1, [.bx [iC q.kind, sC q.key, sC q.val, sC q.range.lo, sC q.range.hi, iC q.most, bC q.back]])]) (by kernel_rfl) ?_
      refine a_cond (b := (q.kind == 2)) (by kernel_rfl) (fun h2 => ?_) (fun h2 => ?_)
      · have g2 := h2
        try simp only [beq_iff_eq, beq_eq_false_iff_ne] at g2
        refine a_seq ?_
        refine a_mid (mk 42 [(2, .one (.so [] 20 0 3))] [(20, [.sl 1 ([[sC ((⟨#[112, 117, 116]⟩ : ByteArray))], [sC (quote q.key)], [sC (quote q.val)]])])]) ?_ ?_
        · refine a_drawn (n := 8) [] (by kernel_rfl) (by kernel_rfl) ?_
          refine aa_take (fuel := 4) (listed' := #[true, true, false, true, true, false, false, false]) (st' := mk 42 [(15, sV q.key), (18, sV q.val)] []) [0, 1, 3, 4] [15, 18] tyOK (by kernel_rfl) (by kernel_rfl) (by kernel_rfl) ?_
          refine aa_all [2] (by kernel_rfl) rfl ?_
          refine aa_cons ?_ aa_nil
          refine aone_enter (listed' := #[true, true, true, true, true, false, false, false]) (f := 43) (d := 16) (A := [sV q.key]) (st1 := mk 42 [(16, sV (quote q.key)), (18, sV q.val)] []) [16, 18] (okQuoteI q.key) Try.call43 (by kernel_rfl) (by kernel_rfl) (by kernel_rfl) (by kernel_rfl) ?_
          refine aa_all [5] (by kernel_rfl) rfl ?_
          refine aa_cons ?_ aa_nil
          refine aone_enter (listed' := #[true, true, true, true, true, true, false, false]) (f := 43) (d := 19) (A := [sV q.val]) (st1 := mk 42 [(16, sV (quote q.key)), (19, sV (quote q.val))] []) [16, 19] (okQuoteI q.val) Try.call43 (by kernel_rfl) (by kernel_rfl) (by kernel_rfl) (by kernel_rfl) ?_
          refine aa_all [6] (by kernel_rfl) rfl ?_
          refine aa_cons ?_ aa_nil
          refine aone_any (listed' := #[true, true, true, true, true, true, true, false]) (st1 := mk 42 [(20, .one (.so [] 20 0 3))] [(20, [.sl 1 ([[sC ((⟨#[112, 117, 116]⟩ : ByteArray))], [sC (quote q.key)], [sC (quote q.val)]])])]) [20] tyOK (by kernel_rfl) (by kernel_rfl) ?_
          refine aa_take (fuel := 0) (listed' := #[true, true, true, true, true, true, true, true]) (st' := mk 42 [(2, .one (.so [] 20 0 3))] [(20, [.sl 1 ([[sC ((⟨#[112, 117, 116]⟩ : ByteArray))], [sC (quote q.key)], [sC (quote q.val)]])])]) [7] [2] tyOK (by kernel_rfl) (by kernel_rfl) (by kernel_rfl) ?_
          refine aa_done (by kernel_rfl) ?_
          show _ = _; kernel_rfl
        refine a_freeze (fun _ _ h => h) [] 20 0 [2] (st' := mk 42 [(2, .one (.c (.sl 1 ([[sC ((⟨#[112, 117, 116]⟩ : ByteArray))], [sC (quote q.key)], [sC (quote q.val)]]))))] []) (by kernel_rfl) ?_
        refine a_ret ?_
        have e : askWords q = [(⟨#[112, 117, 116]⟩ : ByteArray), quote q.key, quote q.val] := by rw [askWords]; rw [h1, cond_false, h2, cond_true]
        exact end_eq (res' := .one (.c (.sl 1 ([[sC ((⟨#[112, 117, 116]⟩ : ByteArray))], [sC (quote q.key)], [sC (quote q.val)]])))) (by kernel_rfl) (by rw [e] <;> rfl)
      · have g2 := h2
        try simp only [beq_iff_eq, beq_eq_false_iff_ne] at g2
        refine a_seq ?_
        refine a_run [1, 21] tyOK (st1 := mk 42 [(1, .one (.pl [(1, 0)] 0 0)), (21, bV ((q.kind == 3)))] [(1, [.bx [iC q.kind, sC q.key, sC q.val, sC q.range.lo, sC q.range.hi, iC q.most, bC q.back]])]) (by kernel_rfl) ?_
        refine a_cond (b := (q.kind == 3)) (by kernel_rfl) (fun h3 => ?_) (fun h3 => ?_)
        · have g3 := h3
          try simp only [beq_iff_eq, beq_eq_false_iff_ne] at g3
          refine a_seq ?_
          refine a_ops [0, 1, 2, 3, 4] (by kernel_rfl) ?_
          refine ao_some [0, 1] [2, 3, 4] [24] tyOK (st1 := mk 42 [(24, sV q.key)] []) (by kernel_rfl) ?_
          refine ao_enter (f := 43) (d := 25) (A := [sV q.key]) (st1 := mk 42 [(25, sV (quote q.key))] []) [25] (okQuoteI q.key) Try.call43 (by kernel_rfl) (by kernel_rfl) (by kernel_rfl) ?_
          refine ao_some [3, 4] [] [2] tyOK (st1 := mk 42 [(2, .one (.so [] 26 0 2))] [(26, [.sl 1 ([[sC ((⟨#[100, 101, 108]⟩ : ByteArray))], [sC (quote q.key)]])])]) (by kernel_rfl) ?_
          refine ao_nil ?_
          refine a_freeze (fun _ _ h => h) [] 26 0 [2] (st' := mk 42 [(2, .one (.c (.sl 1 ([[sC ((⟨#[100, 101, 108]⟩ : ByteArray))], [sC (quote q.key)]]))))] []) (by kernel_rfl) ?_
          refine a_ret ?_
          have e : askWords q = [(⟨#[100, 101, 108]⟩ : ByteArray), quote q.key] := by rw [askWords]; rw [h1, cond_false, h2, cond_false, h3, cond_true]
          exact end_eq (res' := .one (.c (.sl 1 ([[sC ((⟨#[100, 101, 108]⟩ : ByteArray))], [sC (quote q.key)]])))) (by kernel_rfl) (by rw [e] <;> rfl)
        · have g3 := h3
          try simp only [beq_iff_eq, beq_eq_false_iff_ne] at g3
          refine a_skip ?_
          refine a_seq ?_
          refine a_run [1, 3] tyOK (st1 := mk 42 [(1, .one (.pl [(1, 0)] 0 0)), (3, sV ((⟨#[115, 99, 97, 110]⟩ : ByteArray)))] [(1, [.bx [iC q.kind, sC q.key, sC q.val, sC q.range.lo, sC q.range.hi, iC q.most, bC q.back]])]) (by kernel_rfl) ?_
          refine a_seq ?_
          refine a_seq ?_
          refine a_run [1, 3, 28] tyOK (st1 := mk 42 [(1, .one (.pl [(1, 0)] 0 0)), (3, sV ((⟨#[115, 99, 97, 110]⟩ : ByteArray))), (28, bV q.back)] [(1, [.bx [iC q.kind, sC q.key, sC q.val, sC q.range.lo, sC q.range.hi, iC q.most, bC q.back]])]) (by kernel_rfl) ?_
          refine a_cond (b := q.back) (by kernel_rfl) (fun h4 => ?_) (fun h4 => ?_)
          · have g4 := h4
            refine a_run [1, 3] tyOK (st1 := mk 42 [(1, .one (.pl [(1, 0)] 0 0)), (3, sV ((⟨#[98, 97, 99, 107]⟩ : ByteArray)))] [(1, [.bx [iC q.kind, sC q.key, sC q.val, sC q.range.lo, sC q.range.hi, iC q.most, bC q.back]])]) (by kernel_rfl) ?_
            refine a_seq ?_
            refine a_mid (mk 42 [(2, .one (.so [] 41 0 4))] [(41, [.sl 1 ([[sC ((⟨#[98, 97, 99, 107]⟩ : ByteArray))], [sC (quote q.range.lo)], [sC (quote q.range.hi)], [sC (numText q.most)]])])]) ?_ ?_
            · refine a_drawn (n := 14) [] (by kernel_rfl) (by kernel_rfl) ?_
              refine aa_take (fuel := 5) (listed' := #[true, true, true, true, false, true, true, true, false, true, true, false, false, false]) (st' := mk 42 [(29, sV ((⟨#[98, 97, 99, 107]⟩ : ByteArray))), (32, sV q.range.lo), (36, sV q.range.hi), (39, iV q.most)] []) [0, 1, 2, 3, 5, 6, 7, 9, 10] [29, 32, 36, 39] tyOK (by kernel_rfl) (by kernel_rfl) (by kernel_rfl) ?_
              refine aa_all [4] (by kernel_rfl) rfl ?_
              refine aa_cons ?_ aa_nil
              refine aone_enter (listed' := #[true, true, true, true, true, true, true, true, false, true, true, false, false, false]) (f := 43) (d := 33) (A := [sV q.range.lo]) (st1 := mk 42 [(29, sV ((⟨#[98, 97, 99, 107]⟩ : ByteArray))), (33, sV (quote q.range.lo)), (36, sV q.range.hi), (39, iV q.most)] []) [29, 33, 36, 39] (okQuoteI q.range.lo) Try.call43 (by kernel_rfl) (by kernel_rfl) (by kernel_rfl) (by kernel_rfl) ?_
              refine aa_all [8] (by kernel_rfl) rfl ?_
              refine aa_cons ?_ aa_nil
              refine aone_enter (listed' := #[true, true, true, true, true, true, true, true, true, true, true, false, false, false]) (f := 43) (d := 37) (A := [sV q.range.hi]) (st1 := mk 42 [(29, sV ((⟨#[98, 97, 99, 107]⟩ : ByteArray))), (33, sV (quote q.range.lo)), (37, sV (quote q.range.hi)), (39, iV q.most)] []) [29, 33, 37, 39] (okQuoteI q.range.hi) Try.call43 (by kernel_rfl) (by kernel_rfl) (by kernel_rfl) (by kernel_rfl) ?_
              refine aa_all [11] (by kernel_rfl) rfl ?_
              refine aa_cons ?_ aa_nil
              refine aone_enter (listed' := #[true, true, true, true, true, true, true, true, true, true, true, true, false, false]) (f := 19) (d := 40) (A := [iV q.most]) (st1 := mk 42 [(29, sV ((⟨#[98, 97, 99, 107]⟩ : ByteArray))), (33, sV (quote q.range.lo)), (37, sV (quote q.range.hi)), (40, sV (numText q.most))] []) [29, 33, 37, 40] (okNumTextI q.most) Try.call19 (by kernel_rfl) (by kernel_rfl) (by kernel_rfl) (by kernel_rfl) ?_
              refine aa_all [12] (by kernel_rfl) rfl ?_
              refine aa_cons ?_ aa_nil
              refine aone_any (listed' := #[true, true, true, true, true, true, true, true, true, true, true, true, true, false]) (st1 := mk 42 [(41, .one (.so [] 41 0 4))] [(41, [.sl 1 ([[sC ((⟨#[98, 97, 99, 107]⟩ : ByteArray))], [sC (quote q.range.lo)], [sC (quote q.range.hi)], [sC (numText q.most)]])])]) [41] tyOK (by kernel_rfl) (by kernel_rfl) ?_
              refine aa_take (fuel := 0) (listed' := #[true, true, true, true, true, true, true, true, true, true, true, true, true, true]) (st' := mk 42 [(2, .one (.so [] 41 0 4))] [(41, [.sl 1 ([[sC ((⟨#[98, 97, 99, 107]⟩ : ByteArray))], [sC (quote q.range.lo)], [sC (quote q.range.hi)], [sC (numText q.most)]])])]) [13] [2] tyOK (by kernel_rfl) (by kernel_rfl) (by kernel_rfl) ?_
              refine aa_done (by kernel_rfl) ?_
              show _ = _; kernel_rfl
            refine a_freeze (fun _ _ h => h) [] 41 0 [2] (st' := mk 42 [(2, .one (.c (.sl 1 ([[sC ((⟨#[98, 97, 99, 107]⟩ : ByteArray))], [sC (quote q.range.lo)], [sC (quote q.range.hi)], [sC (numText q.most)]]))))] []) (by kernel_rfl) ?_
            refine a_ret ?_
            have e : askWords q = [(⟨#[98, 97, 99, 107]⟩ : ByteArray), quote q.range.lo, quote q.range.hi, numText q.most] := by rw [askWords]; rw [h1, cond_false, h2, cond_false, h3, cond_false, h4, cond_true]
            exact end_eq (res' := .one (.c (.sl 1 ([[sC ((⟨#[98, 97, 99, 107]⟩ : ByteArray))], [sC (quote q.range.lo)], [sC (quote q.range.hi)], [sC (numText q.most)]])))) (by kernel_rfl) (by rw [e] <;> rfl)
          · have g4 := h4
            refine a_skip ?_
            refine a_seq ?_
            refine a_mid (mk 42 [(2, .one (.so [] 41 0 4))] [(41, [.sl 1 ([[sC ((⟨#[115, 99, 97, 110]⟩ : ByteArray))], [sC (quote q.range.lo)], [sC (quote q.range.hi)], [sC (numText q.most)]])])]) ?_ ?_
            · refine a_drawn (n := 14) [] (by kernel_rfl) (by kernel_rfl) ?_
              refine aa_take (fuel := 5) (listed' := #[true, true, true, true, false, true, true, true, false, true, true, false, false, false]) (st' := mk 42 [(29, sV ((⟨#[115, 99, 97, 110]⟩ : ByteArray))), (32, sV q.range.lo), (36, sV q.range.hi), (39, iV q.most)] []) [0, 1, 2, 3, 5, 6, 7, 9, 10] [29, 32, 36, 39] tyOK (by kernel_rfl) (by kernel_rfl) (by kernel_rfl) ?_
              refine aa_all [4] (by kernel_rfl) rfl ?_
              refine aa_cons ?_ aa_nil
              refine aone_enter (listed' := #[true, true, true, true, true, true, true, true, false, true, true, false, false, false]) (f := 43) (d := 33) (A := [sV q.range.lo]) (st1 := mk 42 [(29, sV ((⟨#[115, 99, 97, 110]⟩ : ByteArray))), (33, sV (quote q.range.lo)), (36, sV q.range.hi), (39, iV q.most)] []) [29, 33, 36, 39] (okQuoteI q.range.lo) Try.call43 (by kernel_rfl) (by kernel_rfl) (by kernel_rfl) (by kernel_rfl) ?_
              refine aa_all [8] (by kernel_rfl) rfl ?_
              refine aa_cons ?_ aa_nil
              refine aone_enter (listed' := #[true, true, true, true, true, true, true, true, true, true, true, false, false, false]) (f := 43) (d := 37) (A := [sV q.range.hi]) (st1 := mk 42 [(29, sV ((⟨#[115, 99, 97, 110]⟩ : ByteArray))), (33, sV (quote q.range.lo)), (37, sV (quote q.range.hi)), (39, iV q.most)] []) [29, 33, 37, 39] (okQuoteI q.range.hi) Try.call43 (by kernel_rfl) (by kernel_rfl) (by kernel_rfl) (by kernel_rfl) ?_
              refine aa_all [11] (by kernel_rfl) rfl ?_
              refine aa_cons ?_ aa_nil
              refine aone_enter (listed' := #[true, true, true, true, true, true, true, true, true, true, true, true, false, false]) (f := 19) (d := 40) (A := [iV q.most]) (st1 := mk 42 [(29, sV ((⟨#[115, 99, 97, 110]⟩ : ByteArray))), (33, sV (quote q.range.lo)), (37, sV (quote q.range.hi)), (40, sV (numText q.most))] []) [29, 33, 37, 40] (okNumTextI q.most) Try.call19 (by kernel_rfl) (by kernel_rfl) (by kernel_rfl) (by kernel_rfl) ?_
              refine aa_all [12] (by kernel_rfl) rfl ?_
              refine aa_cons ?_ aa_nil
              refine aone_any (listed' := #[true, true, true, true, true, true, true, true, true, true, true, true, true, false]) (st1 := mk 42 [(41, .one (.so [] 41 0 4))] [(41, [.sl 1 ([[sC ((⟨#[115, 99, 97, 110]⟩ : ByteArray))], [sC (quote q.range.lo)], [sC (quote q.range.hi)], [sC (numText q.most)]])])]) [41] tyOK (by kernel_rfl) (by kernel_rfl) ?_
              refine aa_take (fuel := 0) (listed' := #[true, true, true, true, true, true, true, true, true, true, true, true, true, true]) (st' := mk 42 [(2, .one (.so [] 41 0 4))] [(41, [.sl 1 ([[sC ((⟨#[115, 99, 97, 110]⟩ : ByteArray))], [sC (quote q.range.lo)], [sC (quote q.range.hi)], [sC (numText q.most)]])])]) [13] [2] tyOK (by kernel_rfl) (by kernel_rfl) (by kernel_rfl) ?_
              refine aa_done (by kernel_rfl) ?_
              show _ = _; kernel_rfl
            refine a_freeze (fun _ _ h => h) [] 41 0 [2] (st' := mk 42 [(2, .one (.c (.sl 1 ([[sC ((⟨#[115, 99, 97, 110]⟩ : ByteArray))], [sC (quote q.range.lo)], [sC (quote q.range.hi)], [sC (numText q.most)]]))))] []) (by kernel_rfl) ?_
            refine a_ret ?_
            have e : askWords q = [(⟨#[115, 99, 97, 110]⟩ : ByteArray), quote q.range.lo, quote q.range.hi, numText q.most] := by rw [askWords]; rw [h1, cond_false, h2, cond_false, h3, cond_false, h4, cond_false]
            exact end_eq (res' := .one (.c (.sl 1 ([[sC ((⟨#[115, 99, 97, 110]⟩ : ByteArray))], [sC (quote q.range.lo)], [sC (quote q.range.hi)], [sC (numText q.most)]])))) (by kernel_rfl) (by rw [e] <;> rfl)



def callWords (c : CallR) : (List ByteArray) := bif ((c.kind == 1)) then ([(⟨#[98, 101, 103, 105, 110]⟩ : ByteArray)]) else (bif ((c.kind == 3)) then ([(⟨#[99, 111, 109, 109, 105, 116]⟩ : ByteArray)]) else (bif ((c.kind == 4)) then ([(⟨#[97, 98, 111, 114, 116]⟩ : ByteArray)]) else (askWords c.ask)))
/-- impl.callWords -/
theorem ok20 (c : CallR) : CallOK Try.prog 20 [.agg [.c (iC c.kind), .c (iC c.ask.kind), .c (sC c.ask.key), .c (sC c.ask.val), .c (sC c.ask.range.lo), .c (sC c.ask.range.hi), .c (iC c.ask.most), .c (bC c.ask.back)]] (.one (.c (.sl 1 ((callWords c).map eStr)))) [] :=
  callOK tyOK Try.func20 rfl fun w S hS => by
    refine a_seq ?_
    refine a_run [1] tyOK (st1 := mk 17 [(1, .one (.pl [(1, 0)] 0 0))] [(1, [.bx [iC c.kind, iC c.ask.kind, sC c.ask.key, sC c.ask.val, sC c.ask.range.lo, sC c.ask.range.hi, iC c.ask.most, bC c.ask.back]])]) (by kernel_rfl) ?_
    refine a_seq ?_
    refine a_seq ?_
    refine a_run [1, 4] tyOK (st1 := mk 17 [(1, .one (.pl [(1, 0)] 0 0)), (4, iV c.kind)] [(1, [.bx [iC c.kind, iC c.ask.kind, sC c.ask.key, sC c.ask.val, sC c.ask.range.lo, sC c.ask.range.hi, iC c.ask.most, bC c.ask.back]])]) (by kernel_rfl) ?_
    refine a_block ?_
    refine a_seq ?_
    refine a_run [1, 4, 5] tyOK (st1 := mk 17 [(1, .one (.pl [(1, 0)] 0 0)), (4, iV c.kind), (5, bV ((c.kind == 1)))] [(1, [.bx [iC c.kind, iC c.ask.kind, sC c.ask.key, sC c.ask.val, sC c.ask.range.lo, sC c.ask.range.hi, iC c.ask.most, bC c.ask.back]])]) (by kernel_rfl) ?_
    refine a_cond (b := (c.kind == 1)) (by kernel_rfl) (fun h1 => ?_) (fun h1 => ?_)
    · have g1 := h1
      try simp only [beq_iff_eq, beq_eq_false_iff_ne] at g1
      refine a_seq ?_
      refine a_run [2] tyOK (st1 := mk 17 [(2, .one (.so [] 7 0 1))] [(7, [.sl 1 ([[sC ((⟨#[98, 101, 103, 105, 110]⟩ : ByteArray))]])])]) (by kernel_rfl) ?_
      refine a_freeze (fun _ _ h => h) [] 7 0 [2] (st' := mk 17 [(2, .one (.c (.sl 1 ([[sC ((⟨#[98, 101, 103, 105, 110]⟩ : ByteArray))]]))))] []) (by kernel_rfl) ?_
      refine a_ret ?_
      have e : callWords c = [(⟨#[98, 101, 103, 105, 110]⟩ : ByteArray)] := by rw [callWords]; rw [h1, cond_true]
      exact end_eq (res' := .one (.c (.sl 1 ([[sC ((⟨#[98, 101, 103, 105, 110]⟩ : ByteArray))]])))) (by kernel_rfl) (by rw [e] <;> rfl)
    · have g1 := h1
      try simp only [beq_iff_eq, beq_eq_false_iff_ne] at g1
      refine a_seq ?_
      refine a_run [1, 4, 8] tyOK (st1 := mk 17 [(1, .one (.pl [(1, 0)] 0 0)), (4, iV c.kind), (8, bV ((c.kind == 3)))] [(1, [.bx [iC c.kind, iC c.ask.kind, sC c.ask.key, sC c.ask.val, sC c.ask.range.lo, sC c.ask.range.hi, iC c.ask.most, bC c.ask.back]])]) (by kernel_rfl) ?_
      refine a_cond (b := (c.kind == 3)) (by kernel_rfl) (fun h2 => ?_) (fun h2 => ?_)
      · have g2 := h2
        try simp only [beq_iff_eq, beq_eq_false_iff_ne] at g2
        refine a_seq ?_
        refine a_run [2] tyOK (st1 := mk 17 [(2, .one (.so [] 10 0 1))] [(10, [.sl 1 ([[sC ((⟨#[99, 111, 109, 109, 105, 116]⟩ : ByteArray))]])])]) (by kernel_rfl) ?_
        refine a_freeze (fun _ _ h => h) [] 10 0 [2] (st' := mk 17 [(2, .one (.c (.sl 1 ([[sC ((⟨#[99, 111, 109, 109, 105, 116]⟩ : ByteArray))]]))))] []) (by kernel_rfl) ?_
        refine a_ret ?_
        have e : callWords c = [(⟨#[99, 111, 109, 109, 105, 116]⟩ : ByteArray)] := by rw [callWords]; rw [h1, cond_false, h2, cond_true]
        exact end_eq (res' := .one (.c (.sl 1 ([[sC ((⟨#[99, 111, 109, 109, 105, 116]⟩ : ByteArray))]])))) (by kernel_rfl) (by rw [e] <;> rfl)
      · have g2 := h2
        try simp only [beq_iff_eq, beq_eq_false_iff_ne] at g2
        refine a_seq ?_
        refine a_run [1, 11] tyOK (st1 := mk 17 [(1, .one (.pl [(1, 0)] 0 0)), (11, bV ((c.kind == 4)))] [(1, [.bx [iC c.kind, iC c.ask.kind, sC c.ask.key, sC c.ask.val, sC c.ask.range.lo, sC c.ask.range.hi, iC c.ask.most, bC c.ask.back]])]) (by kernel_rfl) ?_
        refine a_cond (b := (c.kind == 4)) (by kernel_rfl) (fun h3 => ?_) (fun h3 => ?_)
        · have g3 := h3
          try simp only [beq_iff_eq, beq_eq_false_iff_ne] at g3
          refine a_seq ?_
          refine a_run [2] tyOK (st1 := mk 17 [(2, .one (.so [] 13 0 1))] [(13, [.sl 1 ([[sC ((⟨#[97, 98, 111, 114, 116]⟩ : ByteArray))]])])]) (by kernel_rfl) ?_
          refine a_freeze (fun _ _ h => h) [] 13 0 [2] (st' := mk 17 [(2, .one (.c (.sl 1 ([[sC ((⟨#[97, 98, 111, 114, 116]⟩ : ByteArray))]]))))] []) (by kernel_rfl) ?_
          refine a_ret ?_
          have e : callWords c = [(⟨#[97, 98, 111, 114, 116]⟩ : ByteArray)] := by rw [callWords]; rw [h1, cond_false, h2, cond_false, h3, cond_true]
          exact end_eq (res' := .one (.c (.sl 1 ([[sC ((⟨#[97, 98, 111, 114, 116]⟩ : ByteArray))]])))) (by kernel_rfl) (by rw [e] <;> rfl)
        · have g3 := h3
          try simp only [beq_iff_eq, beq_eq_false_iff_ne] at g3
          refine a_skip ?_
          refine a_seq ?_
          refine a_ops [0, 1, 2, 3] (by kernel_rfl) ?_
          refine ao_some [0, 1] [2, 3] [15] tyOK (st1 := mk 17 [(15, .agg [.c (iC c.ask.kind), .c (sC c.ask.key), .c (sC c.ask.val), .c (sC c.ask.range.lo), .c (sC c.ask.range.hi), .c (iC c.ask.most), .c (bC c.ask.back)])] []) (by kernel_rfl) ?_
          refine ao_enter (f := 31) (d := 16) (A := [.agg [.c (iC c.ask.kind), .c (sC c.ask.key), .c (sC c.ask.val), .c (sC c.ask.range.lo), .c (sC c.ask.range.hi), .c (iC c.ask.most), .c (bC c.ask.back)]]) (st1 := mk 17 [(16, .one (.c (.sl 1 ((askWords c.ask).map eStr))))] []) [16] (ok31 c.ask) Try.call31 (by kernel_rfl) (by kernel_rfl) (by kernel_rfl) ?_
          refine ao_some [3] [] [2] tyOK (st1 := mk 17 [(2, .one (.c (.sl 1 ((askWords c.ask).map eStr))))] []) (by kernel_rfl) ?_
          refine ao_nil ?_
          refine a_ret ?_
          have e : callWords c = askWords c.ask := by rw [callWords]; rw [h1, cond_false, h2, cond_false, h3, cond_false]
          exact end_eq (res' := .one (.c (.sl 1 ((askWords c.ask).map eStr)))) (by kernel_rfl) (by rw [e] <;> rfl)



def callText (c : CallR) : ByteArray := bif (!(callOkS c)) then ((⟨#[]⟩ : ByteArray)) else (bif ((c.kind == 1)) then ((⟨#[98, 101, 103, 105, 110]⟩ : ByteArray)) else (bif ((c.kind == 3)) then ((⟨#[99, 111, 109, 109, 105, 116]⟩ : ByteArray)) else (bif ((c.kind == 4)) then ((⟨#[97, 98, 111, 114, 116]⟩ : ByteArray)) else (bif ((c.ask.kind == 1)) then (((⟨#[103, 101, 116, 32]⟩ : ByteArray)) ++ (quote c.ask.key)) else (bif ((c.ask.kind == 2)) then (((((⟨#[112, 117, 116, 32]⟩ : ByteArray)) ++ (quote c.ask.key)) ++ ((⟨#[32]⟩ : ByteArray))) ++ (quote c.ask.val)) else (bif ((c.ask.kind == 3)) then (((⟨#[100, 101, 108, 32]⟩ : ByteArray)) ++ (quote c.ask.key)) else ((((((bif c.ask.back then ((⟨#[98, 97, 99, 107, 32]⟩ : ByteArray)) else ((⟨#[115, 99, 97, 110, 32]⟩ : ByteArray))) ++ (quote c.ask.range.lo)) ++ ((⟨#[32]⟩ : ByteArray))) ++ (quote c.ask.range.hi)) ++ ((⟨#[32]⟩ : ByteArray))) ++ (numText c.ask.most))))))))
/-- spec.l14Call -/
theorem ok14 (c : CallR) : CallOK Try.prog 14 [.agg [.c (iC c.kind), .c (iC c.ask.kind), .c (sC c.ask.key), .c (sC c.ask.val), .c (sC c.ask.range.lo), .c (sC c.ask.range.hi), .c (iC c.ask.most), .c (bC c.ask.back)]] (sV (callText c)) [] :=
  callOK tyOK Try.func14 rfl fun w S hS => by
    refine a_seq ?_
    refine a_run [1] tyOK (st1 := mk 62 [(1, .one (.pl [(1, 0)] 0 0))] [(1, [.bx [iC c.kind, iC c.ask.kind, sC c.ask.key, sC c.ask.val, sC c.ask.range.lo, sC c.ask.range.hi, iC c.ask.most, bC c.ask.back]])]) (by kernel_rfl) ?_
    refine a_seq ?_
    refine a_seq ?_
    refine a_ops [0, 1, 2] (by kernel_rfl) ?_
    refine ao_some [0] [1, 2] [1, 5] tyOK (st1 := mk 62 [(1, .one (.pl [(1, 0)] 0 0)), (5, .agg [.c (iC c.kind), .c (iC c.ask.kind), .c (sC c.ask.key), .c (sC c.ask.val), .c (sC c.ask.range.lo), .c (sC c.ask.range.hi), .c (iC c.ask.most), .c (bC c.ask.back)])] [(1, [.bx [iC c.kind, iC c.ask.kind, sC c.ask.key, sC c.ask.val, sC c.ask.range.lo, sC c.ask.range.hi, iC c.ask.most, bC c.ask.back]])]) (by kernel_rfl) ?_
    refine ao_enter (f := 25) (d := 6) (A := [.agg [.c (iC c.kind), .c (iC c.ask.kind), .c (sC c.ask.key), .c (sC c.ask.val), .c (sC c.ask.range.lo), .c (sC c.ask.range.hi), .c (iC c.ask.most), .c (bC c.ask.back)]]) (st1 := mk 62 [(1, .one (.pl [(1, 0)] 0 0)), (6, bV (callOkS c))] [(1, [.bx [iC c.kind, iC c.ask.kind, sC c.ask.key, sC c.ask.val, sC c.ask.range.lo, sC c.ask.range.hi, iC c.ask.most, bC c.ask.back]])]) [1, 6] (ok25 c) Try.call25 (by kernel_rfl) (by kernel_rfl) (by kernel_rfl) ?_
    refine ao_some [2] [] [1, 7] tyOK (st1 := mk 62 [(1, .one (.pl [(1, 0)] 0 0)), (7, bV (!(callOkS c)))] [(1, [.bx [iC c.kind, iC c.ask.kind, sC c.ask.key, sC c.ask.val, sC c.ask.range.lo, sC c.ask.range.hi, iC c.ask.most, bC c.ask.back]])]) (by kernel_rfl) ?_
    refine ao_nil ?_
    refine a_cond (b := !(callOkS c)) (by kernel_rfl) (fun h1 => ?_) (fun h1 => ?_)
    · have g1 := h1
      try simp only [Bool.not_eq_true, Bool.not_eq_false, Bool.not_eq_true'] at g1
      refine a_seq ?_
      refine a_run [2] tyOK (st1 := mk 62 [(2, sV ((⟨#[]⟩ : ByteArray)))] []) (by kernel_rfl) ?_
      refine a_ret ?_
      have e : callText c = (⟨#[]⟩ : ByteArray) := by rw [callText]; rw [h1, cond_true]
      exact end_eq (res' := sV ((⟨#[]⟩ : ByteArray))) (by kernel_rfl) (by rw [e] <;> rfl)
    · have g1 := h1
      try simp only [Bool.not_eq_true, Bool.not_eq_false, Bool.not_eq_true'] at g1
      refine a_skip ?_
      refine a_seq ?_
      refine a_seq ?_
      refine a_run [1, 9] tyOK (st1 := mk 62 [(1, .one (.pl [(1, 0)] 0 0)), (9, iV c.kind)] [(1, [.bx [iC c.kind, iC c.ask.kind, sC c.ask.key, sC c.ask.val, sC c.ask.range.lo, sC c.ask.range.hi, iC c.ask.most, bC c.ask.back]])]) (by kernel_rfl) ?_
      refine a_block ?_
      refine a_seq ?_
      refine a_run [1, 9, 10] tyOK (st1 := mk 62 [(1, .one (.pl [(1, 0)] 0 0)), (9, iV c.kind), (10, bV ((c.kind == 1)))] [(1, [.bx [iC c.kind, iC c.ask.kind, sC c.ask.key, sC c.ask.val, sC c.ask.range.lo, sC c.ask.range.hi, iC c.ask.most, bC c.ask.back]])]) (by kernel_rfl) ?_
      refine a_cond (b := (c.kind == 1)) (by kernel_rfl) (fun h2 => ?_) (fun h2 => ?_)
      · have g2 := h2
        try simp only [beq_iff_eq, beq_eq_false_iff_ne] at g2
        refine a_seq ?_
        refine a_run [2] tyOK (st1 := mk 62 [(2, sV ((⟨#[98, 101, 103, 105, 110]⟩ : ByteArray)))] []) (by kernel_rfl) ?_
        refine a_ret ?_
        have e : callText c = (⟨#[98, 101, 103, 105, 110]⟩ : ByteArray) := by rw [callText]; rw [h1, cond_false, h2, cond_true]
        exact end_eq (res' := sV ((⟨#[98, 101, 103, 105, 110]⟩ : ByteArray))) (by kernel_rfl) (by rw [e] <;> rfl)
      · have g2 := h2
        try simp only [beq_iff_eq, beq_eq_false_iff_ne] at g2
        refine a_seq ?_
        refine a_run [1, 9, 12] tyOK (st1 := mk 62 [(1, .one (.pl [(1, 0)] 0 0)), (9, iV c.kind), (12, bV ((c.kind == 3)))] [(1, [.bx [iC c.kind, iC c.ask.kind, sC c.ask.key, sC c.ask.val, sC c.ask.range.lo, sC c.ask.range.hi, iC c.ask.most, bC c.ask.back]])]) (by kernel_rfl) ?_
        refine a_cond (b := (c.kind == 3)) (by kernel_rfl) (fun h3 => ?_) (fun h3 => ?_)
        · have g3 := h3
          try simp only [beq_iff_eq, beq_eq_false_iff_ne] at g3
          refine a_seq ?_
          refine a_run [2] tyOK (st1 := mk 62 [(2, sV ((⟨#[99, 111, 109, 109, 105, 116]⟩ : ByteArray)))] []) (by kernel_rfl) ?_
          refine a_ret ?_
          have e : callText c = (⟨#[99, 111, 109, 109, 105, 116]⟩ : ByteArray) := by rw [callText]; rw [h1, cond_false, h2, cond_false, h3, cond_true]
          exact end_eq (res' := sV ((⟨#[99, 111, 109, 109, 105, 116]⟩ : ByteArray))) (by kernel_rfl) (by rw [e] <;> rfl)
        · have g3 := h3
          try simp only [beq_iff_eq, beq_eq_false_iff_ne] at g3
          refine a_seq ?_
          refine a_run [1, 14] tyOK (st1 := mk 62 [(1, .one (.pl [(1, 0)] 0 0)), (14, bV ((c.kind == 4)))] [(1, [.bx [iC c.kind, iC c.ask.kind, sC c.ask.key, sC c.ask.val, sC c.ask.range.lo, sC c.ask.range.hi, iC c.ask.most, bC c.ask.back]])]) (by kernel_rfl) ?_
          refine a_cond (b := (c.kind == 4)) (by kernel_rfl) (fun h4 => ?_) (fun h4 => ?_)
          · have g4 := h4
            try simp only [beq_iff_eq, beq_eq_false_iff_ne] at g4
            refine a_seq ?_
            refine a_run [2] tyOK (st1 := mk 62 [(2, sV ((⟨#[97, 98, 111, 114, 116]⟩ : ByteArray)))] []) (by kernel_rfl) ?_
            refine a_ret ?_
            have e : callText c = (⟨#[97, 98, 111, 114, 116]⟩ : ByteArray) := by rw [callText]; rw [h1, cond_false, h2, cond_false, h3, cond_false, h4, cond_true]
            exact end_eq (res' := sV ((⟨#[97, 98, 111, 114, 116]⟩ : ByteArray))) (by kernel_rfl) (by rw [e] <;> rfl)
          · have g4 := h4
            try simp only [beq_iff_eq, beq_eq_false_iff_ne] at g4
            refine a_skip ?_
            refine a_seq ?_
            refine a_run [3] tyOK (st1 := mk 62 [(3, .one (.pl [(3, 0)] 0 0))] [(3, [.bx [iC c.ask.kind, sC c.ask.key, sC c.ask.val, sC c.ask.range.lo, sC c.ask.range.hi, iC c.ask.most, bC c.ask.back]])]) (by kernel_rfl) ?_
            refine a_seq ?_
            refine a_seq ?_
            refine a_run [3, 19] tyOK (st1 := mk 62 [(3, .one (.pl [(3, 0)] 0 0)), (19, iV c.ask.kind)] [(3, [.bx [iC c.ask.kind, sC c.ask.key, sC c.ask.val, sC c.ask.range.lo, sC c.ask.range.hi, iC c.ask.most, bC c.ask.back]])]) (by kernel_rfl) ?_
            refine a_block ?_
            refine a_seq ?_
            refine a_run [3, 19, 20] tyOK (st1 := mk 62 [(3, .one (.pl [(3, 0)] 0 0)), (19, iV c.ask.kind), (20, bV ((c.ask.kind == 1)))] [(3, [.bx [iC c.ask.kind, sC c.ask.key, sC c.ask.val, sC c.ask.range.lo, sC c.ask.range.hi, iC c.ask.most, bC c.ask.back]])]) (by kernel_rfl) ?_
            refine a_cond (b := (c.ask.kind == 1)) (by kernel_rfl) (fun h5 => ?_) (fun h5 => ?_)
            · have g5 := h5
              try simp only [beq_iff_eq, beq_eq_false_iff_ne] at g5
              refine a_seq ?_
              refine a_ops [0, 1, 2, 3, 4] (by kernel_rfl) ?_
              refine ao_some [0, 1] [2, 3, 4] [23] tyOK (st1 := mk 62 [(23, sV c.ask.key)] []) (by kernel_rfl) ?_
              refine ao_enter (f := 26) (d := 24) (A := [sV c.ask.key]) (st1 := mk 62 [(24, sV (quote c.ask.key))] []) [24] (okQuoteS c.ask.key) Try.call26 (by kernel_rfl) (by kernel_rfl) (by kernel_rfl) ?_
              refine ao_q (d := 25) (c := (((⟨#[103, 101, 116, 32]⟩ : ByteArray)).size + (quote c.ask.key).size ≤ 140737488355328)) (tv := sV (((⟨#[103, 101, 116, 32]⟩ : ByteArray)) ++ (quote c.ask.key))) (st1 := mk 62 [(25, sV (((⟨#[103, 101, 116, 32]⟩ : ByteArray)) ++ (quote c.ask.key)))] []) [25] tyOK (by kernel_rfl) (by refine cat_le ?_ ?_ <;> (repeat (first | with_reducible refine app_le ?_ ?_ | with_reducible refine cond_le ?_ ?_ | with_reducible refine le2 (numText_size _) ?_ | with_reducible refine le2 (quote_size _) ?_ | with_reducible refine lit_le ?_ | exact Eq.refl true))) (by kernel_rfl) ?_
              refine ao_some [4] [] [2] tyOK (st1 := mk 62 [(2, sV (((⟨#[103, 101, 116, 32]⟩ : ByteArray)) ++ (quote c.ask.key)))] []) (by kernel_rfl) ?_
              refine ao_nil ?_
              refine a_ret ?_
              have e : callText c = ((⟨#[103, 101, 116, 32]⟩ : ByteArray)) ++ (quote c.ask.key) := by rw [callText]; rw [h1, cond_false, h2, cond_false, h3, cond_false, h4, cond_false, h5, cond_true]
              exact end_eq (res' := sV (((⟨#[103, 101, 116, 32]⟩ : ByteArray)) ++ (quote c.ask.key))) (by kernel_rfl) (by rw [e] <;> rfl)
            · have g5 := h5
              try simp only [beq_iff_eq, beq_eq_false_iff_ne] at g5
              refine a_seq ?_
              refine a_run [3, 19, 26] tyOK (st1 := mk 62 [(3, .one (.pl [(3, 0)] 0 0)), (19, iV c.ask.kind), (26, bV ((c.ask.kind == 2)))] [(3, [.bx [iC c.ask.kind, sC c.ask.key, sC c.ask.val, sC c.ask.range.lo, sC c.ask.range.hi, iC c.ask.most, bC c.ask.back]])]) (by kernel_rfl) ?_
              refine a_cond (b := (c.ask.kind == 2)) (by kernel_rfl) (fun h6 => ?_) (fun h6 => ?_)
              · have g6 := h6
                try simp only [beq_iff_eq, beq_eq_false_iff_ne] at g6
                refine a_seq ?_
                refine a_mid (mk 62 [(2, sV (((((⟨#[112, 117, 116, 32]⟩ : ByteArray)) ++ (quote c.ask.key)) ++ ((⟨#[32]⟩ : ByteArray))) ++ (quote c.ask.val)))] []) ?_ ?_
                · refine a_drawn (n := 10) [] (by kernel_rfl) (by kernel_rfl) ?_
                  refine aa_take (fuel := 6) (listed' := #[true, true, false, false, false, true, true, false, false, false]) (st' := mk 62 [(29, sV c.ask.key), (34, sV c.ask.val)] []) [0, 1, 5, 6] [29, 34] tyOK (by kernel_rfl) (by kernel_rfl) (by kernel_rfl) ?_
                  refine aa_all [2] (by kernel_rfl) rfl ?_
                  refine aa_cons ?_ aa_nil
                  refine aone_enter (listed' := #[true, true, true, false, false, true, true, false, false, false]) (f := 26) (d := 30) (A := [sV c.ask.key]) (st1 := mk 62 [(30, sV (quote c.ask.key)), (34, sV c.ask.val)] []) [30, 34] (okQuoteS c.ask.key) Try.call26 (by kernel_rfl) (by kernel_rfl) (by kernel_rfl) (by kernel_rfl) ?_
                  refine aa_q (i := 3) (d := 31) (c := (((⟨#[112, 117, 116, 32]⟩ : ByteArray)).size + (quote c.ask.key).size ≤ 140737488355328)) (tv := sV (((⟨#[112, 117, 116, 32]⟩ : ByteArray)) ++ (quote c.ask.key))) (listed' := #[true, true, true, true, false, true, true, false, false, false]) (st1 := mk 62 [(31, sV (((⟨#[112, 117, 116, 32]⟩ : ByteArray)) ++ (quote c.ask.key))), (34, sV c.ask.val)] []) [31, 34] tyOK (by kernel_rfl) (by kernel_rfl) (by refine cat_le ?_ ?_ <;> (repeat (first | with_reducible refine app_le ?_ ?_ | with_reducible refine cond_le ?_ ?_ | with_reducible refine le2 (numText_size _) ?_ | with_reducible refine le2 (quote_size _) ?_ | with_reducible refine lit_le ?_ | exact Eq.refl true))) (by kernel_rfl) (by kernel_rfl) (by kernel_rfl) ?_
                  refine aa_q (i := 4) (d := 32) (c := ((((⟨#[112, 117, 116, 32]⟩ : ByteArray)) ++ (quote c.ask.key)).size + ((⟨#[32]⟩ : ByteArray)).size ≤ 140737488355328)) (tv := sV ((((⟨#[112, 117, 116, 32]⟩ : ByteArray)) ++ (quote c.ask.key)) ++ ((⟨#[32]⟩ : ByteArray)))) (listed' := #[true, true, true, true, true, true, true, false, false, false]) (st1 := mk 62 [(32, sV ((((⟨#[112, 117, 116, 32]⟩ : ByteArray)) ++ (quote c.ask.key)) ++ ((⟨#[32]⟩ : ByteArray)))), (34, sV c.ask.val)] []) [32, 34] tyOK (by kernel_rfl) (by kernel_rfl) (by refine cat_le ?_ ?_ <;> (repeat (first | with_reducible refine app_le ?_ ?_ | with_reducible refine cond_le ?_ ?_ | with_reducible refine le2 (numText_size _) ?_ | with_reducible refine le2 (quote_size _) ?_ | with_reducible refine lit_le ?_ | exact Eq.refl true))) (by kernel_rfl) (by kernel_rfl) (by kernel_rfl) ?_
                  refine aa_all [7] (by kernel_rfl) rfl ?_
                  refine aa_cons ?_ aa_nil
                  refine aone_enter (listed' := #[true, true, true, true, true, true, true, true, false, false]) (f := 26) (d := 35) (A := [sV c.ask.val]) (st1 := mk 62 [(32, sV ((((⟨#[112, 117, 116, 32]⟩ : ByteArray)) ++ (quote c.ask.key)) ++ ((⟨#[32]⟩ : ByteArray)))), (35, sV (quote c.ask.val))] []) [32, 35] (okQuoteS c.ask.val) Try.call26 (by kernel_rfl) (by kernel_rfl) (by kernel_rfl) (by kernel_rfl) ?_
                  refine aa_q (i := 8) (d := 36) (c := (((((⟨#[112, 117, 116, 32]⟩ : ByteArray)) ++ (quote c.ask.key)) ++ ((⟨#[32]⟩ : ByteArray))).size + (quote c.ask.val).size ≤ 140737488355328)) (tv := sV (((((⟨#[112, 117, 116, 32]⟩ : ByteArray)) ++ (quote c.ask.key)) ++ ((⟨#[32]⟩ : ByteArray))) ++ (quote c.ask.val))) (listed' := #[true, true, true, true, true, true, true, true, true, false]) (st1 := mk 62 [(36, sV (((((⟨#[112, 117, 116, 32]⟩ : ByteArray)) ++ (quote c.ask.key)) ++ ((⟨#[32]⟩ : ByteArray))) ++ (quote c.ask.val)))] []) [36] tyOK (by kernel_rfl) (by kernel_rfl) (by refine cat_le ?_ ?_ <;> (repeat (first | with_reducible refine app_le ?_ ?_ | with_reducible refine cond_le ?_ ?_ | with_reducible refine le2 (numText_size _) ?_ | with_reducible refine le2 (quote_size _) ?_ | with_reducible refine lit_le ?_ | exact Eq.refl true))) (by kernel_rfl) (by kernel_rfl) (by kernel_rfl) ?_
                  refine aa_take (fuel := 0) (listed' := #[true, true, true, true, true, true, true, true, true, true]) (st' := mk 62 [(2, sV (((((⟨#[112, 117, 116, 32]⟩ : ByteArray)) ++ (quote c.ask.key)) ++ ((⟨#[32]⟩ : ByteArray))) ++ (quote c.ask.val)))] []) [9] [2] tyOK (by kernel_rfl) (by kernel_rfl) (by kernel_rfl) ?_
                  refine aa_done (by kernel_rfl) ?_
                  show _ = _; kernel_rfl
                refine a_ret ?_
                have e : callText c = ((((⟨#[112, 117, 116, 32]⟩ : ByteArray)) ++ (quote c.ask.key)) ++ ((⟨#[32]⟩ : ByteArray))) ++ (quote c.ask.val) := by rw [callText]; rw [h1, cond_false, h2, cond_false, h3, cond_false, h4, cond_false, h5, cond_false, h6, cond_true]
                exact end_eq (res' := sV (((((⟨#[112, 117, 116, 32]⟩ : ByteArray)) ++ (quote c.ask.key)) ++ ((⟨#[32]⟩ : ByteArray))) ++ (quote c.ask.val))) (by kernel_rfl) (by rw [e] <;> rfl)
              · have g6 := h6
                try simp only [beq_iff_eq, beq_eq_false_iff_ne] at g6
                refine a_seq ?_
                refine a_run [3, 37] tyOK (st1 := mk 62 [(3, .one (.pl [(3, 0)] 0 0)), (37, bV ((c.ask.kind == 3)))] [(3, [.bx [iC c.ask.kind, sC c.ask.key, sC c.ask.val, sC c.ask.range.lo, sC c.ask.range.hi, iC c.ask.most, bC c.ask.back]])]) (by kernel_rfl) ?_
                refine a_cond (b := (c.ask.kind == 3)) (by kernel_rfl) (fun h7 => ?_) (fun h7 => ?_)
                · have g7 := h7
                  try simp only [beq_iff_eq, beq_eq_false_iff_ne] at g7
                  refine a_seq ?_
                  refine a_ops [0, 1, 2, 3, 4] (by kernel_rfl) ?_
                  refine ao_some [0, 1] [2, 3, 4] [40] tyOK (st1 := mk 62 [(40, sV c.ask.key)] []) (by kernel_rfl) ?_
                  refine ao_enter (f := 26) (d := 41) (A := [sV c.ask.key]) (st1 := mk 62 [(41, sV (quote c.ask.key))] []) [41] (okQuoteS c.ask.key) Try.call26 (by kernel_rfl) (by kernel_rfl) (by kernel_rfl) ?_
                  refine ao_q (d := 42) (c := (((⟨#[100, 101, 108, 32]⟩ : ByteArray)).size + (quote c.ask.key).size ≤ 140737488355328)) (tv := sV (((⟨#[100, 101, 108, 32]⟩ : ByteArray)) ++ (quote c.ask.key))) (st1 := mk 62 [(42, sV (((⟨#[100, 101, 108, 32]⟩ : ByteArray)) ++ (quote c.ask.key)))] []) [42] tyOK (by kernel_rfl) (by refine cat_le ?_ ?_ <;> (repeat (first | with_reducible refine app_le ?_ ?_ | with_reducible refine cond_le ?_ ?_ | with_reducible refine le2 (numText_size _) ?_ | with_reducible refine le2 (quote_size _) ?_ | with_reducible refine lit_le ?_ | exact Eq.refl true))) (by kernel_rfl) ?_
                  refine ao_some [4] [] [2] tyOK (st1 := mk 62 [(2, sV (((⟨#[100, 101, 108, 32]⟩ : ByteArray)) ++ (quote c.ask.key)))] []) (by kernel_rfl) ?_
                  refine ao_nil ?_
                  refine a_ret ?_
                  have e : callText c = ((⟨#[100, 101, 108, 32]⟩ : ByteArray)) ++ (quote c.ask.key) := by rw [callText]; rw [h1, cond_false, h2, cond_false, h3, cond_false, h4, cond_false, h5, cond_false, h6, cond_false, h7, cond_true]
                  exact end_eq (res' := sV (((⟨#[100, 101, 108, 32]⟩ : ByteArray)) ++ (quote c.ask.key))) (by kernel_rfl) (by rw [e] <;> rfl)
                · have g7 := h7
                  try simp only [beq_iff_eq, beq_eq_false_iff_ne] at g7
                  refine a_skip ?_
                  refine a_seq ?_
                  refine a_run [3, 4] tyOK (st1 := mk 62 [(3, .one (.pl [(3, 0)] 0 0)), (4, sV ((⟨#[115, 99, 97, 110, 32]⟩ : ByteArray)))] [(3, [.bx [iC c.ask.kind, sC c.ask.key, sC c.ask.val, sC c.ask.range.lo, sC c.ask.range.hi, iC c.ask.most, bC c.ask.back]])]) (by kernel_rfl) ?_
                  refine a_seq ?_
                  refine a_seq ?_
                  refine a_run [3, 4, 44] tyOK (st1 := mk 62 [(3, .one (.pl [(3, 0)] 0 0)), (4, sV ((⟨#[115, 99, 97, 110, 32]⟩ : ByteArray))), (44, bV c.ask.back)] [(3, [.bx [iC c.ask.kind, sC c.ask.key, sC c.ask.val, sC c.ask.range.lo, sC c.ask.range.hi, iC c.ask.most, bC c.ask.back]])]) (by kernel_rfl) ?_
                  refine a_mid (mk 62 [(3, .one (.pl [(3, 0)] 0 0)), (4, sV (bif c.ask.back then ((⟨#[98, 97, 99, 107, 32]⟩ : ByteArray)) else ((⟨#[115, 99, 97, 110, 32]⟩ : ByteArray))))] [(3, [.bx [iC c.ask.kind, sC c.ask.key, sC c.ask.val, sC c.ask.range.lo, sC c.ask.range.hi, iC c.ask.most, bC c.ask.back]])]) ?_ ?_
                  · refine a_cond (b := c.ask.back) (by kernel_rfl) (fun h8 => ?_) (fun h8 => ?_)
                    · have g8 := h8
                      refine a_run [3, 4] tyOK (st1 := mk 62 [(3, .one (.pl [(3, 0)] 0 0)), (4, sV ((⟨#[98, 97, 99, 107, 32]⟩ : ByteArray)))] [(3, [.bx [iC c.ask.kind, sC c.ask.key, sC c.ask.val, sC c.ask.range.lo, sC c.ask.range.hi, iC c.ask.most, bC c.ask.back]])]) (by kernel_rfl) ?_
                      show mk 62 [(3, .one (.pl [(3, 0)] 0 0)), (4, sV ((⟨#[98, 97, 99, 107, 32]⟩ : ByteArray)))] [(3, [.bx [iC c.ask.kind, sC c.ask.key, sC c.ask.val, sC c.ask.range.lo, sC c.ask.range.hi, iC c.ask.most, bC c.ask.back]])] = mk 62 [(3, .one (.pl [(3, 0)] 0 0)), (4, sV (bif c.ask.back then ((⟨#[98, 97, 99, 107, 32]⟩ : ByteArray)) else ((⟨#[115, 99, 97, 110, 32]⟩ : ByteArray))))] [(3, [.bx [iC c.ask.kind, sC c.ask.key, sC c.ask.val, sC c.ask.range.lo, sC c.ask.range.hi, iC c.ask.most, bC c.ask.back]])]
                      first | rfl | (rw [h8, cond_true]) | (simp only [h8, cond_true, cond_false])
                    · have g8 := h8
                      refine a_keepTo [3, 4] (st1 := mk 62 [(3, .one (.pl [(3, 0)] 0 0)), (4, sV ((⟨#[115, 99, 97, 110, 32]⟩ : ByteArray)))] [(3, [.bx [iC c.ask.kind, sC c.ask.key, sC c.ask.val, sC c.ask.range.lo, sC c.ask.range.hi, iC c.ask.most, bC c.ask.back]])]) (by kernel_rfl) ?_
                      refine a_skip ?_
                      show mk 62 [(3, .one (.pl [(3, 0)] 0 0)), (4, sV ((⟨#[115, 99, 97, 110, 32]⟩ : ByteArray)))] [(3, [.bx [iC c.ask.kind, sC c.ask.key, sC c.ask.val, sC c.ask.range.lo, sC c.ask.range.hi, iC c.ask.most, bC c.ask.back]])] = mk 62 [(3, .one (.pl [(3, 0)] 0 0)), (4, sV (bif c.ask.back then ((⟨#[98, 97, 99, 107, 32]⟩ : ByteArray)) else ((⟨#[115, 99, 97, 110, 32]⟩ : ByteArray))))] [(3, [.bx [iC c.ask.kind, sC c.ask.key, sC c.ask.val, sC c.ask.range.lo, sC c.ask.range.hi, iC c.ask.most, bC c.ask.back]])]
                      first | rfl | (rw [h8, cond_false]) | (simp only [h8, cond_true, cond_false])
                  refine a_seq ?_
                  refine a_mid (mk 62 [(2, sV ((((((bif c.ask.back then ((⟨#[98, 97, 99, 107, 32]⟩ : ByteArray)) else ((⟨#[115, 99, 97, 110, 32]⟩ : ByteArray))) ++ (quote c.ask.range.lo)) ++ ((⟨#[32]⟩ : ByteArray))) ++ (quote c.ask.range.hi)) ++ ((⟨#[32]⟩ : ByteArray))) ++ (numText c.ask.most)))] []) ?_ ?_
                  · refine a_drawn (n := 18) [] (by kernel_rfl) (by kernel_rfl) ?_
                    refine aa_take (fuel := 9) (listed' := #[true, true, true, true, false, false, false, true, true, true, false, false, false, true, true, false, false, false]) (st' := mk 62 [(45, sV (bif c.ask.back then ((⟨#[98, 97, 99, 107, 32]⟩ : ByteArray)) else ((⟨#[115, 99, 97, 110, 32]⟩ : ByteArray)))), (48, sV c.ask.range.lo), (54, sV c.ask.range.hi), (59, iV c.ask.most)] []) [0, 1, 2, 3, 7, 8, 9, 13, 14] [45, 48, 54, 59] tyOK (by kernel_rfl) (by kernel_rfl) (by kernel_rfl) ?_
                    refine aa_all [4] (by kernel_rfl) rfl ?_
                    refine aa_cons ?_ aa_nil
                    refine aone_enter (listed' := #[true, true, true, true, true, false, false, true, true, true, false, false, false, true, true, false, false, false]) (f := 26) (d := 49) (A := [sV c.ask.range.lo]) (st1 := mk 62 [(45, sV (bif c.ask.back then ((⟨#[98, 97, 99, 107, 32]⟩ : ByteArray)) else ((⟨#[115, 99, 97, 110, 32]⟩ : ByteArray)))), (49, sV (quote c.ask.range.lo)), (54, sV c.ask.range.hi), (59, iV c.ask.most)] []) [45, 49, 54, 59] (okQuoteS c.ask.range.lo) Try.call26 (by kernel_rfl) (by kernel_rfl) (by kernel_rfl) (by kernel_rfl) ?_
                    refine aa_q (i := 5) (d := 50) (c := ((bif c.ask.back then ((⟨#[98, 97, 99, 107, 32]⟩ : ByteArray)) else ((⟨#[115, 99, 97, 110, 32]⟩ : ByteArray))).size + (quote c.ask.range.lo).size ≤ 140737488355328)) (tv := sV ((bif c.ask.back then ((⟨#[98, 97, 99, 107, 32]⟩ : ByteArray)) else ((⟨#[115, 99, 97, 110, 32]⟩ : ByteArray))) ++ (quote c.ask.range.lo))) (listed' := #[true, true, true, true, true, true, false, true, true, true, false, false, false, true, true, false, false, false]) (st1 := mk 62 [(50, sV ((bif c.ask.back then ((⟨#[98, 97, 99, 107, 32]⟩ : ByteArray)) else ((⟨#[115, 99, 97, 110, 32]⟩ : ByteArray))) ++ (quote c.ask.range.lo))), (54, sV c.ask.range.hi), (59, iV c.ask.most)] []) [50, 54, 59] tyOK (by kernel_rfl) (by kernel_rfl) (by refine cat_le ?_ ?_ <;> (repeat (first | with_reducible refine app_le ?_ ?_ | with_reducible refine cond_le ?_ ?_ | with_reducible refine le2 (numText_size _) ?_ | with_reducible refine le2 (quote_size _) ?_ | with_reducible refine lit_le ?_ | exact Eq.refl true))) (by kernel_rfl) (by kernel_rfl) (by kernel_rfl) ?_
                    refine aa_q (i := 6) (d := 51) (c := (((bif c.ask.back then ((⟨#[98, 97, 99, 107, 32]⟩ : ByteArray)) else ((⟨#[115, 99, 97, 110, 32]⟩ : ByteArray))) ++ (quote c.ask.range.lo)).size + ((⟨#[32]⟩ : ByteArray)).size ≤ 140737488355328)) (tv := sV (((bif c.ask.back then ((⟨#[98, 97, 99, 107, 32]⟩ : ByteArray)) else ((⟨#[115, 99, 97, 110, 32]⟩ : ByteArray))) ++ (quote c.ask.range.lo)) ++ ((⟨#[32]⟩ : ByteArray)))) (listed' := #[true, true, true, true, true, true, true, true, true, true, false, false, false, true, true, false, false, false]) (st1 := mk 62 [(51, sV (((bif c.ask.back then ((⟨#[98, 97, 99, 107, 32]⟩ : ByteArray)) else ((⟨#[115, 99, 97, 110, 32]⟩ : ByteArray))) ++ (quote c.ask.range.lo)) ++ ((⟨#[32]⟩ : ByteArray)))), (54, sV c.ask.range.hi), (59, iV c.ask.most)] []) [51, 54, 59] tyOK (by kernel_rfl) (by kernel_rfl) (by refine cat_le ?_ ?_ <;> (repeat (first | with_reducible refine app_le ?_ ?_ | with_reducible refine cond_le ?_ ?_ | with_reducible refine le2 (numText_size _) ?_ | with_reducible refine le2 (quote_size _) ?_ | with_reducible refine lit_le ?_ | exact Eq.refl true))) (by kernel_rfl) (by kernel_rfl) (by kernel_rfl) ?_
                    refine aa_all [10] (by kernel_rfl) rfl ?_
                    refine aa_cons ?_ aa_nil
                    refine aone_enter (listed' := #[true, true, true, true, true, true, true, true, true, true, true, false, false, true, true, false, false, false]) (f := 26) (d := 55) (A := [sV c.ask.range.hi]) (st1 := mk 62 [(51, sV (((bif c.ask.back then ((⟨#[98, 97, 99, 107, 32]⟩ : ByteArray)) else ((⟨#[115, 99, 97, 110, 32]⟩ : ByteArray))) ++ (quote c.ask.range.lo)) ++ ((⟨#[32]⟩ : ByteArray)))), (55, sV (quote c.ask.range.hi)), (59, iV c.ask.most)] []) [51, 55, 59] (okQuoteS c.ask.range.hi) Try.call26 (by kernel_rfl) (by kernel_rfl) (by kernel_rfl) (by kernel_rfl) ?_
                    refine aa_q (i := 11) (d := 56) (c := ((((bif c.ask.back then ((⟨#[98, 97, 99, 107, 32]⟩ : ByteArray)) else ((⟨#[115, 99, 97, 110, 32]⟩ : ByteArray))) ++ (quote c.ask.range.lo)) ++ ((⟨#[32]⟩ : ByteArray))).size + (quote c.ask.range.hi).size ≤ 140737488355328)) (tv := sV ((((bif c.ask.back then ((⟨#[98, 97, 99, 107, 32]⟩ : ByteArray)) else ((⟨#[115, 99, 97, 110, 32]⟩ : ByteArray))) ++ (quote c.ask.range.lo)) ++ ((⟨#[32]⟩ : ByteArray))) ++ (quote c.ask.range.hi))) (listed' := #[true, true, true, true, true, true, true, true, true, true, true, true, false, true, true, false, false, false]) (st1 := mk 62 [(56, sV ((((bif c.ask.back then ((⟨#[98, 97, 99, 107, 32]⟩ : ByteArray)) else ((⟨#[115, 99, 97, 110, 32]⟩ : ByteArray))) ++ (quote c.ask.range.lo)) ++ ((⟨#[32]⟩ : ByteArray))) ++ (quote c.ask.range.hi))), (59, iV c.ask.most)] []) [56, 59] tyOK (by kernel_rfl) (by kernel_rfl) (by refine cat_le ?_ ?_ <;> (repeat (first | with_reducible refine app_le ?_ ?_ | with_reducible refine cond_le ?_ ?_ | with_reducible refine le2 (numText_size _) ?_ | with_reducible refine le2 (quote_size _) ?_ | with_reducible refine lit_le ?_ | exact Eq.refl true))) (by kernel_rfl) (by kernel_rfl) (by kernel_rfl) ?_
                    refine aa_q (i := 12) (d := 57) (c := (((((bif c.ask.back then ((⟨#[98, 97, 99, 107, 32]⟩ : ByteArray)) else ((⟨#[115, 99, 97, 110, 32]⟩ : ByteArray))) ++ (quote c.ask.range.lo)) ++ ((⟨#[32]⟩ : ByteArray))) ++ (quote c.ask.range.hi)).size + ((⟨#[32]⟩ : ByteArray)).size ≤ 140737488355328)) (tv := sV (((((bif c.ask.back then ((⟨#[98, 97, 99, 107, 32]⟩ : ByteArray)) else ((⟨#[115, 99, 97, 110, 32]⟩ : ByteArray))) ++ (quote c.ask.range.lo)) ++ ((⟨#[32]⟩ : ByteArray))) ++ (quote c.ask.range.hi)) ++ ((⟨#[32]⟩ : ByteArray)))) (listed' := #[true, true, true, true, true, true, true, true, true, true, true, true, true, true, true, false, false, false]) (st1 := mk 62 [(57, sV (((((bif c.ask.back then ((⟨#[98, 97, 99, 107, 32]⟩ : ByteArray)) else ((⟨#[115, 99, 97, 110, 32]⟩ : ByteArray))) ++ (quote c.ask.range.lo)) ++ ((⟨#[32]⟩ : ByteArray))) ++ (quote c.ask.range.hi)) ++ ((⟨#[32]⟩ : ByteArray)))), (59, iV c.ask.most)] []) [57, 59] tyOK (by kernel_rfl) (by kernel_rfl) (by refine cat_le ?_ ?_ <;> (repeat (first | with_reducible refine app_le ?_ ?_ | with_reducible refine cond_le ?_ ?_ | with_reducible refine le2 (numText_size _) ?_ | with_reducible refine le2 (quote_size _) ?_ | with_reducible refine lit_le ?_ | exact Eq.refl true))) (by kernel_rfl) (by kernel_rfl) (by kernel_rfl) ?_
                    refine aa_all [15] (by kernel_rfl) rfl ?_
                    refine aa_cons ?_ aa_nil
                    refine aone_enter (listed' := #[true, true, true, true, true, true, true, true, true, true, true, true, true, true, true, true, false, false]) (f := 13) (d := 60) (A := [iV c.ask.most]) (st1 := mk 62 [(57, sV (((((bif c.ask.back then ((⟨#[98, 97, 99, 107, 32]⟩ : ByteArray)) else ((⟨#[115, 99, 97, 110, 32]⟩ : ByteArray))) ++ (quote c.ask.range.lo)) ++ ((⟨#[32]⟩ : ByteArray))) ++ (quote c.ask.range.hi)) ++ ((⟨#[32]⟩ : ByteArray)))), (60, sV (numText c.ask.most))] []) [57, 60] (okNumTextS c.ask.most) Try.call13 (by kernel_rfl) (by kernel_rfl) (by kernel_rfl) (by kernel_rfl) ?_
                    refine aa_q (i := 16) (d := 61) (c := ((((((bif c.ask.back then ((⟨#[98, 97, 99, 107, 32]⟩ : ByteArray)) else ((⟨#[115, 99, 97, 110, 32]⟩ : ByteArray))) ++ (quote c.ask.range.lo)) ++ ((⟨#[32]⟩ : ByteArray))) ++ (quote c.ask.range.hi)) ++ ((⟨#[32]⟩ : ByteArray))).size + (numText c.ask.most).size ≤ 140737488355328)) (tv := sV ((((((bif c.ask.back then ((⟨#[98, 97, 99, 107, 32]⟩ : ByteArray)) else ((⟨#[115, 99, 97, 110, 32]⟩ : ByteArray))) ++ (quote c.ask.range.lo)) ++ ((⟨#[32]⟩ : ByteArray))) ++ (quote c.ask.range.hi)) ++ ((⟨#[32]⟩ : ByteArray))) ++ (numText c.ask.most))) (listed' := #[true, true, true, true, true, true, true, true, true, true, true, true, true, true, true, true, true, false]) (st1 := mk 62 [(61, sV ((((((bif c.ask.back then ((⟨#[98, 97, 99, 107, 32]⟩ : ByteArray)) else ((⟨#[115, 99, 97, 110, 32]⟩ : ByteArray))) ++ (quote c.ask.range.lo)) ++ ((⟨#[32]⟩ : ByteArray))) ++ (quote c.ask.range.hi)) ++ ((⟨#[32]⟩ : ByteArray))) ++ (numText c.ask.most)))] []) [61] tyOK (by kernel_rfl) (by kernel_rfl) (by refine cat_le ?_ ?_ <;> (repeat (first | with_reducible refine app_le ?_ ?_ | with_reducible refine cond_le ?_ ?_ | with_reducible refine le2 (numText_size _) ?_ | with_reducible refine le2 (quote_size _) ?_ | with_reducible refine lit_le ?_ | exact Eq.refl true))) (by kernel_rfl) (by kernel_rfl) (by kernel_rfl) ?_
                    refine aa_take (fuel := 0) (listed' := #[true, true, true, true, true, true, true, true, true, true, true, true, true, true, true, true, true, true]) (st' := mk 62 [(2, sV ((((((bif c.ask.back then ((⟨#[98, 97, 99, 107, 32]⟩ : ByteArray)) else ((⟨#[115, 99, 97, 110, 32]⟩ : ByteArray))) ++ (quote c.ask.range.lo)) ++ ((⟨#[32]⟩ : ByteArray))) ++ (quote c.ask.range.hi)) ++ ((⟨#[32]⟩ : ByteArray))) ++ (numText c.ask.most)))] []) [17] [2] tyOK (by kernel_rfl) (by kernel_rfl) (by kernel_rfl) ?_
                    refine aa_done (by kernel_rfl) ?_
                    show _ = _; kernel_rfl
                  refine a_ret ?_
                  have e : callText c = (((((bif c.ask.back then ((⟨#[98, 97, 99, 107, 32]⟩ : ByteArray)) else ((⟨#[115, 99, 97, 110, 32]⟩ : ByteArray))) ++ (quote c.ask.range.lo)) ++ ((⟨#[32]⟩ : ByteArray))) ++ (quote c.ask.range.hi)) ++ ((⟨#[32]⟩ : ByteArray))) ++ (numText c.ask.most) := by rw [callText]; rw [h1, cond_false, h2, cond_false, h3, cond_false, h4, cond_false, h5, cond_false, h6, cond_false, h7, cond_false]
                  exact end_eq (res' := sV ((((((bif c.ask.back then ((⟨#[98, 97, 99, 107, 32]⟩ : ByteArray)) else ((⟨#[115, 99, 97, 110, 32]⟩ : ByteArray))) ++ (quote c.ask.range.lo)) ++ ((⟨#[32]⟩ : ByteArray))) ++ (quote c.ask.range.hi)) ++ ((⟨#[32]⟩ : ByteArray))) ++ (numText c.ask.most))) (by kernel_rfl) (by rw [e] <;> rfl)



end Go.Proofs.Ytabgoibmnjikkaa
