import Derived.Test.YtijeefncmgjlpaaDicD0
import Derived.Test.YtijeefncmgjlpaaDicD1
namespace Go.Proofs.Try.Dn
open Go.Dn

def tab : Tab := (.two 68 (.two 39 (.two 28 (.two 23 (.two 19 (.one 8 d8) (.two 20 (.one 19 d19) (.one 20 d20))) (.two 24 (.one 23 d23) (.two 25 (.one 24 d24) (.one 25 d25)))) (.two 35 (.two 30 (.one 28 d28) (.two 34 (.one 30 d30) (.one 34 d34))) (.two 37 (.two 36 (.one 35 d35) (.one 36 d36)) (.two 38 (.one 37 d37) (.one 38 d38))))) (.two 58 (.two 47 (.two 41 (.one 39 d39) (.two 42 (.one 41 d41) (.one 42 d42))) (.two 56 (.two 55 (.one 47 d47) (.one 55 d55)) (.two 57 (.one 56 d56) (.one 57 d57)))) (.two 63 (.two 60 (.one 58 d58) (.two 61 (.one 60 d60) (.one 61 d61))) (.two 66 (.two 65 (.one 63 d63) (.one 65 d65)) (.two 67 (.one 66 d66) (.one 67 d67)))))) (.two 87 (.two 79 (.two 76 (.two 69 (.one 68 d68) (.two 75 (.one 69 d69) (.one 75 d75))) (.two 77 (.one 76 d76) (.two 78 (.one 77 d77) (.one 78 d78)))) (.two 83 (.two 80 (.one 79 d79) (.two 82 (.one 80 d80) (.one 82 d82))) (.two 85 (.two 84 (.one 83 d83) (.one 84 d84)) (.two 86 (.one 85 d85) (.one 86 d86))))) (.two 95 (.two 91 (.two 88 (.one 87 d87) (.two 90 (.one 88 d88) (.one 90 d90))) (.two 93 (.two 92 (.one 91 d91) (.one 92 d92)) (.two 94 (.one 93 d93) (.one 94 d94)))) (.two 102 (.two 100 (.one 95 d95) (.two 101 (.one 100 d100) (.one 101 d101))) (.two 109 (.two 103 (.one 102 d102) (.one 103 d103)) (.two 110 (.one 109 d109) (.one 110 d110)))))))

theorem tab_ok : tab.Ok Try.prog := ⟨⟨⟨⟨⟨ok8, ⟨ok19, ok20⟩⟩, ⟨ok23, ⟨ok24, ok25⟩⟩⟩, ⟨⟨ok28, ⟨ok30, ok34⟩⟩, ⟨⟨ok35, ok36⟩, ⟨ok37, ok38⟩⟩⟩⟩, ⟨⟨⟨ok39, ⟨ok41, ok42⟩⟩, ⟨⟨ok47, ok55⟩, ⟨ok56, ok57⟩⟩⟩, ⟨⟨ok58, ⟨ok60, ok61⟩⟩, ⟨⟨ok63, ok65⟩, ⟨ok66, ok67⟩⟩⟩⟩⟩, ⟨⟨⟨⟨ok68, ⟨ok69, ok75⟩⟩, ⟨ok76, ⟨ok77, ok78⟩⟩⟩, ⟨⟨ok79, ⟨ok80, ok82⟩⟩, ⟨⟨ok83, ok84⟩, ⟨ok85, ok86⟩⟩⟩⟩, ⟨⟨⟨ok87, ⟨ok88, ok90⟩⟩, ⟨⟨ok91, ok92⟩, ⟨ok93, ok94⟩⟩⟩, ⟨⟨ok95, ⟨ok100, ok101⟩⟩, ⟨⟨ok102, ok103⟩, ⟨ok109, ok110⟩⟩⟩⟩⟩⟩

end Go.Proofs.Try.Dn

