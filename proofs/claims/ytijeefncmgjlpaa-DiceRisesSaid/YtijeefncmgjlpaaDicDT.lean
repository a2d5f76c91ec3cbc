import Derived.Test.YtijeefncmgjlpaaDicD0
import Derived.Test.YtijeefncmgjlpaaDicD1
namespace Go.Proofs.Try.Dn
open Go.Dn

def tab : Tab := (.two 75 (.two 47 (.two 28 (.two 23 (.two 19 (.one 9 d9) (.two 20 (.one 19 d19) (.one 20 d20))) (.two 24 (.one 23 d23) (.two 25 (.one 24 d24) (.one 25 d25)))) (.two 40 (.two 33 (.one 28 d28) (.two 35 (.one 33 d33) (.one 35 d35))) (.two 41 (.one 40 d40) (.two 42 (.one 41 d41) (.one 42 d42))))) (.two 61 (.two 57 (.two 55 (.one 47 d47) (.two 56 (.one 55 d55) (.one 56 d56))) (.two 58 (.one 57 d57) (.two 60 (.one 58 d58) (.one 60 d60)))) (.two 66 (.two 63 (.one 61 d61) (.two 65 (.one 63 d63) (.one 65 d65))) (.two 68 (.one 66 d66) (.two 69 (.one 68 d68) (.one 69 d69)))))) (.two 88 (.two 82 (.two 78 (.two 76 (.one 75 d75) (.two 77 (.one 76 d76) (.one 77 d77))) (.two 79 (.one 78 d78) (.two 80 (.one 79 d79) (.one 80 d80)))) (.two 85 (.two 83 (.one 82 d82) (.two 84 (.one 83 d83) (.one 84 d84))) (.two 86 (.one 85 d85) (.two 87 (.one 86 d86) (.one 87 d87))))) (.two 95 (.two 92 (.two 90 (.one 88 d88) (.two 91 (.one 90 d90) (.one 91 d91))) (.two 93 (.one 92 d92) (.two 94 (.one 93 d93) (.one 94 d94)))) (.two 102 (.two 100 (.one 95 d95) (.two 101 (.one 100 d100) (.one 101 d101))) (.two 109 (.two 103 (.one 102 d102) (.one 103 d103)) (.two 110 (.one 109 d109) (.one 110 d110)))))))

theorem tab_ok : tab.Ok Try.prog := ⟨⟨⟨⟨⟨ok9, ⟨ok19, ok20⟩⟩, ⟨ok23, ⟨ok24, ok25⟩⟩⟩, ⟨⟨ok28, ⟨ok33, ok35⟩⟩, ⟨ok40, ⟨ok41, ok42⟩⟩⟩⟩, ⟨⟨⟨ok47, ⟨ok55, ok56⟩⟩, ⟨ok57, ⟨ok58, ok60⟩⟩⟩, ⟨⟨ok61, ⟨ok63, ok65⟩⟩, ⟨ok66, ⟨ok68, ok69⟩⟩⟩⟩⟩, ⟨⟨⟨⟨ok75, ⟨ok76, ok77⟩⟩, ⟨ok78, ⟨ok79, ok80⟩⟩⟩, ⟨⟨ok82, ⟨ok83, ok84⟩⟩, ⟨ok85, ⟨ok86, ok87⟩⟩⟩⟩, ⟨⟨⟨ok88, ⟨ok90, ok91⟩⟩, ⟨ok92, ⟨ok93, ok94⟩⟩⟩, ⟨⟨ok95, ⟨ok100, ok101⟩⟩, ⟨⟨ok102, ok103⟩, ⟨ok109, ok110⟩⟩⟩⟩⟩⟩

end Go.Proofs.Try.Dn

